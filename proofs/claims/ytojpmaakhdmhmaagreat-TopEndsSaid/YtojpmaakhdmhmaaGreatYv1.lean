/-
  The statements TopEnds, TopClock of the program.
  Text 1 of 8: of what the proof needs (a row of the program: no condition is left); put together and made narrow by a program.
-/
import Derived.Calls
import Derived.Conc.LoneSelect
import Derived.KernelRfl
import Derived.Laws.AppendOwn
import Derived.Laws.StructEq
import Derived.OrdersHeld
set_option linter.unusedVariables false
set_option linter.unusedSimpArgs false
namespace Go.Th
abbrev rg_7 : List Nat := [0, 1, 2, 3, 4, 5, 6, 7]
abbrev rg_11 : List Nat := [0, 1, 2, 3, 4, 5, 6, 7, 8, 9, 10, 11]
abbrev rg_6 : List Nat := [0, 1, 2, 3, 4, 5, 6]
abbrev rg_13 : List Nat := [0, 1, 2, 3, 4, 5, 6, 7, 8, 9, 10, 11, 12, 13]
abbrev rg_8 : List Nat := [0, 1, 2, 3, 4, 5, 6, 7, 8]
abbrev rg_21 : List Nat := [0, 1, 2, 3, 4, 5, 6, 7, 8, 9, 10, 11, 12, 13, 14, 15, 16, 17, 18, 19, 20, 21]
abbrev rg_22 : List Nat := [0, 1, 2, 3, 4, 5, 6, 7, 8, 9, 10, 11, 12, 13, 14, 15, 16, 17, 18, 19, 20, 21, 22]
abbrev rg_28 : List Nat := [0, 1, 2, 3, 4, 5, 6, 7, 8, 9, 10, 11, 12, 13, 14, 15, 16, 17, 18, 19, 20, 21, 22, 23, 24, 25, 26, 27, 28]
end Go.Th
noncomputable section
namespace Go.Th
theorem bS {A B:Type}(a:A)(f:A->Option B):(some a).bind f=f a:=rfl
theorem lA {A:Type}{a b:List A}:(a++b).length=a.length+b.length:=List.length_append
theorem mL {A:Type}{a:A}{l:List A}(m:List A)(h:a∈l):a∈l++m:=List.mem_append_left _ h
theorem mC {A:Type}(y:A){a:A}{l:List A}(h:a∈l):a∈y::l:=List.mem_cons_of_mem _ h
theorem dF {p:Prop}[i:Decidable p](h:¬p):decide p=false:=_root_.decide_eq_false h
theorem dT {p:Prop}[i:Decidable p](h:p):decide p=true:=_root_.decide_eq_true h
theorem tN (n:Nat):Int.toNat (n:Int)=n:=Int.toNat_natCast n
theorem lC {A:Type}{a:A}{l:List A}:(a::l).length=l.length+1:=List.length_cons
theorem iC {A:Type}{a b:A}{l:List A}:a∈b::l ↔ a=b \/ a∈l:=List.mem_cons
theorem iA {A:Type}{a:A}{l m:List A}:a∈l++m ↔ a∈l \/ a∈m:=List.mem_append
theorem aA {A:Type}(a b c:List A):a++b++c=a++(b++c):=List.append_assoc ..
theorem aN {A:Type}(l:List A):l++[]=l:=List.append_nil _
theorem pC {A B:Type}{f:A->B}{a:A}{l:List A}:(a::l).map f=f a::l.map f:=List.map_cons
theorem lM {A B:Type}{l:List A}(f:A->B):(l.map f).length=l.length:=List.length_map ..
theorem cT {A:Type}(a b:A):cond true a b=a:=rfl
theorem cF {A:Type}(a b:A):cond false a b=b:=rfl
end Go.Th
namespace Go.Th
abbrev Env:=List (Nat × Value)
def look (t:Nat):Env->Option Value
 | []=>none
 | (u,v)::r=>match Nat.beq t u with
  | true=>some v
  | false=>look t r
structure zZ (n:Nat) (a:Act) (L:Env):Prop where
 size:a.tmps.size=n
 defers:a.defers=[]
 has:∀ t v,look t L=some v->a.tmps[t]? = some v
theorem wR (t u:Nat)(v:Value)(r:Env):look t ((u,v)::r)=if t=u then some v else look t r:=by
 simp only[look];split
 ·rename_i h;simp[Nat.eq_of_beq_eq_true h]
 ·rename_i h;simp[Nat.ne_of_beq_eq_false h]
theorem zZ.put {n:Nat}{a:Act}{L:Env}(h:zZ n a L)(d:Nat)(v:Value)(hd:d<n):zZ n (a.put (some d) v) ((d,v)::L):=by
 refine⟨by simp[Act.put,h.size],h.defers,fun t u hu=>?_⟩;rw[wR] at hu;simp only[Act.put];split at hu
 ·subst_vars;cases hu;simp[h.size,hd]
 ·rename_i i;rw[Array.getElem?_setIfInBounds_ne (fun e=>i e.symm)];exact h.has t u hu
def evO (L:Env):Operand->Option Value
 | .tmp t=>look t L
 | .const v=>some v
 | .global g=>some (.pointer (some ⟨g,0,none⟩))
 | .func f=>some (.func (.func f) #[] #[])
theorem zZ.eval {n:Nat}{a:Act}{L:Env}(h:zZ n a L){x:Operand}{v:Value}(e:evO L x=some v):a.eval x=v:=by
 cases x with
 | tmp t =>
  have:=h.has t v e;simp[Act.eval,Array.getD_eq_getD_getElem?,this]
 | const u=>simpa[evO,Act.eval] using e
 | global g=>simpa[evO,Act.eval] using e
 | func f=>simpa[evO,Act.eval] using e
def rho (L:Env)(x:Operand):Value:=match evO L x with
 | some v=>v
 | none=>undef
def lJ (L:Env):List Operand->Bool
 | []=>true
 | x::r=>match evO L x with
  | some _=>lJ L r
  | none=>false
theorem mX {L:Env}:∀ {l:List Operand},lJ L l=true -> ∀ x∈l,∃ v,evO L x=some v
 | [],_,x,e=>by cases e
 | y::r,h,x,e=>by
  simp only[lJ] at h;split at h
  ·rename_i v hv;cases e with
   | head=>exact⟨v,hv⟩
   | tail _ hm=>exact mX h x hm
  ·cases h
def rf:Op->Bool
 | .select .. => true
 | _=>false
theorem lv {n:Nat}{a:Act}{L:Env}(h:zZ n a L){o:Oper}(hs:rf o.op=false)(e:lJ L o.op.operands.toList=true) :
  execOp a.eval o=execOp (rho L) o:=by
 refine execOp_congr o (fun cs b i=>by simp[i,rf] at hs) (fun x j=>?_);obtain⟨v,hv⟩:=mX e x (by simpa using j);rw[h.eval hv];simp[rho,hv]
inductive Ob where
 | cell (a:Addr) (v:Value)
 | p (q:Prop)
def Ob.holds (w:World):Ob->Prop
 | .cell a v=>w.cell? a=some v
 | .p q=>q
def xE (w:World):List Ob->Prop
 | []=>True
 | o::r=>o.holds w/\xE w r
theorem wg {w:World}:∀ {l m:List Ob},xE w (l++m) ↔ xE w l/\xE w m
 | [],m=>by simp[xE]
 | o::l,m=>by simp[xE,wg (l:=l) (m:=m),and_assoc]
def runA (P:Program){α:Type}:Sem α -> List Value->Option (α × List Ob × List Value)
 | .pure a,e=>some (a,[],e)
 | .load _ j k,e=>match e with
  | []=>none
  | v::e=>match runA P (k v) e with
   | some (x,obs,i)=>some (x,.cell j v::obs,i)
   | none=>none
 | .program k,e=>runA P (k P) e
 | .mark _ k,e=>runA P k e
 | _,_=>none
theorem oo (P:Program)(w:World){α:Type}:∀ (s:Sem α) (i:List Value) (x:α) (obs:List Ob) (e:List Value),
  runA P s i=some (x,obs,e)->xE w obs->s.run P w = .ok x w:=by
 intro s;induction s with
 | pure a=>intro i x obs e h _;simp[runA] at h;obtain⟨rfl,_,_⟩:=h;rfl
 | load m z k ih =>
  intro i x obs e h j;cases i with
  | nil=>simp[runA] at h
  | cons v i =>
   simp only[runA] at h;split at h
   ·rename_i y t l u;simp at h;obtain⟨rfl,rfl,rfl⟩:=h;simp only[xE,Ob.holds] at j;simp only[Sem.run,j.1];exact ih v i _ _ _ u j.2
   ·cases h
 | program k ih=>intro i x obs e h j;simp only[runA] at h;simp only[Sem.run];exact ih P i x obs e h j
 | mark m k ih=>intro i x obs e h j;simp only[runA] at h;simp only[Sem.run];exact ih i x obs e h j
 | _=>intro i x obs e h;simp[runA] at h
def yt (base:Option Addr)(cap l size:Nat):Option Addr:=if cap=l then base else base.map (·.add (l*size))
def kq:Option Value->Option Nat
 | none=>some 0
 | some (.int _ i)=>some i.toNat
 | _=>none
def nJ:Option Value->Nat->List Ob
 | some (.int _ i),h=>[.p (0<=i/\i<=(h:Int))]
 | _,_=>[]
def o5 (len:Nat):Option Value->Option Nat
 | none=>some len
 | some (.int _ i)=>some i.toNat
 | _=>none
def evOp (P:Program)(L:Env)(o:Oper)(j:List Value):Option (Value × List Ob × List Value) :=
 match rf o.op,lJ L o.op.operands.toList with
 | false,true =>
  match o.op with
  | .indexAddr t x i=>match P.underlying t,rho L x,rho L i with
   | some (.slice e),.slice base len _,.int _ z=>match j,P.info? e with
    | .pointer (some ⟨b,off,none⟩)::j,some ti=>some (.pointer (some ⟨b,off+z.toNat*ti.size,none⟩),[.p (base=some ⟨b,off,none⟩),.p (0<=z/\z<(len:Int))],j)
    | _,_=>none
   | some (.array len e),.pointer (some ⟨b,off,none⟩),.int _ z=>match P.info? e with
    | some ti=>some (.pointer (some ⟨b,off+z.toNat*ti.size,none⟩),[.p (0<=z/\z<(len:Int))],j)
    | none=>none
   | _,_,_=>none
  | .slice t x lo hi none=>match P.underlying t,rho L x with
   | some (.slice e),.slice base len cap=>match P.info? e,kq (lo.map (rho L)),o5 len (hi.map (rho L)) with
    | some ti,some l,some h=>match j with
     | .slice B F D::j=>some (.slice B F D,.p (yt base cap l ti.size=B) :: .p (h - l=F) :: .p (cap - l=D)::(nJ (hi.map (rho L)) cap++nJ (lo.map (rho L)) h),j)
     | _=>none
    | _,_,_=>none
   | some .string,.string s=>match kq (lo.map (rho L)),o5 s.size (hi.map (rho L)) with
    | some l,some h=>some (.string (s.extract l h),nJ (hi.map (rho L)) s.size++nJ (lo.map (rho L)) h,j)
    | _,_=>none
   | _,_=>none
  | .binOp .quo _ x y _=>match rho L x,rho L y with
   | .int .i64 a,.int .i64 b=>some (.int .i64 (IntKind.i64.wrap (a.tdiv b)),[.p (b≠0)],j)
   | _,_=>none
  | .binOp .rem _ x y _=>match rho L x,rho L y with
   | .int .i64 a,.int .i64 b=>some (.int .i64 (a.tmod b),[.p (b≠0)],j)
   | _,_=>none
  | .binOp .shl _ x y _=>match rho L x,rho L y with
   | .int k a,.int _ b=>some (.int k (k.wrap (a*2 ^ (min b.toNat k.bits))),[.p (0<=b)],j)
   | _,_=>none
  | .binOp .shr _ x y _=>match rho L x,rho L y with
   | .int k a,.int _ b=>some (.int k (a.fdiv (2 ^ (min b.toNat k.bits))),[.p (0<=b)],j)
   | _,_=>none
  | .index t x i=>match P.underlying t,rho L x,rho L i with
   | some .string,.string s,.int _ z=>match j with
    | .int .u8 c::j=>some (.int .u8 c,[.p (0<=z /\ ∃ u,s[z.toNat]? = some u/\c=(u.toNat:Int))],j)
    | _=>none
   | _,_,_=>none
  | _=>match runA P (execOp (rho L) o) j with
   | some (.value v,obs,A)=>some (v,obs,A)
   | _=>none
 | _,_=>none
theorem vH (b off n:Nat):(⟨b,off,none⟩:Addr).add n=⟨b,off+n,none⟩:=by
 unfold Addr.add;split <;> simp_all
theorem xB (P:Program){t:TypeId}{d:TypeDesc}(h:P.underlying t=some d)(w:World):(underlying t).run P w = .ok d w:=by
 simp[underlying,program,bind,Sem.bind,Sem.run,h,pure]
theorem sB (P:Program){t:TypeId}{i:TypeInfo}(h:P.info? t=some i)(w:World):(sizeOf t).run P w = .ok i.size w:=by
 simp[sizeOf,typeInfo,program,bind,Sem.bind,Sem.run,h,pure]
theorem cB (P:Program){x:Value}{k:IntKind}{i:Int}{y:Nat}{c:BoundsCode}(e:x = .int k i)(h:0<=i/\i<=(y:Int))(w:World) :
  (Instr.sliceBound x y c).run P w = .ok i.toNat w:=by
 subst e;simp[Instr.sliceBound,asIntOf,bind,Sem.bind,pure,h]
theorem ez (P:Program){lo:Option Value}{l h:Nat}(hl:kq lo=some l)(w:World)(e:xE w (nJ lo h))(c:BoundsCode) :
  (match lo with
   | some v=>Instr.sliceBound v h c
   | none=>(pure 0:Sem Nat)).run P w = .ok l w:=by
 cases lo with
 | none=>simp[kq] at hl;subst hl;rfl
 | some v =>
  cases v <;> simp only[kq] at hl <;> try cases hl
  rename_i k i;simp only[nJ,xE,Ob.holds] at e;exact cB P rfl e.1 w
theorem dM (P:Program){hi:Option Value}{len h cap:Nat}(hl:o5 len hi=some h)(w:World)(e:xE w (nJ hi cap))(c:BoundsCode) :
  (match hi with
   | some v=>Instr.sliceBound v cap c
   | none=>(pure len:Sem Nat)).run P w = .ok h w:=by
 cases hi with
 | none=>simp[o5] at hl;subst hl;rfl
 | some v =>
  cases v <;> simp only[o5] at hl <;> try cases hl
  rename_i k i;simp only[nJ,xE,Ob.holds] at e;exact cB P rfl e.1 w
theorem mF (P:Program)(b:Bool)(len cap:Nat)(lo hi:Option Value){l h:Nat}(hl:kq lo=some l)(hh:o5 len hi=some h)(w:World)
  (t:xE w (nJ hi cap)) (j:xE w (nJ lo h)):(Instr.sliceBounds b len cap lo hi none).run P w = .ok (l,h,cap) w:=by
 unfold Instr.sliceBounds;cases hi with
 | none =>
  simp only[o5,Option.some.injEq] at hh;subst hh;cases lo with
  | none=>simp only[kq,Option.some.injEq] at hl;subst hl;simp
  | some v =>
   have e:=ez P hl w j .sliceB;simp only at e;simp[e]
 | some u =>
  have i:=fun c=>dM P hh w t c
  simp only at i;cases lo with
  | none=>simp only[kq,Option.some.injEq] at hl;subst hl;simp[i]
  | some v =>
   have e:=ez P hl w j .sliceB;simp only at e;simp[e,i]
theorem mO {P:Program}{n:Nat}{a:Act}{L:Env}(hE:zZ n a L){o:Oper}{Z:List Value}{v:Value}{obs:List Ob}{O:List Value}
  (h:evOp P L o Z=some (v,obs,O)) {w:World} (z:xE w obs):(execOp a.eval o).run P w = .ok (.value v) w:=by
 unfold evOp at h;split at h
 case h_2=>cases h
 rename_i hs X;rw[lv hE hs X];split at h
 ·
  rename_i t x i j;simp only[execOp,j];split at h
  ·rename_i e base len cap k iv hu A hi;rw[A,hi];split at h
   ·rename_i b off S ti B;simp only[Option.some.injEq,Prod.mk.injEq] at h;obtain⟨rfl,rfl,_⟩:=h;simp only[xE,Ob.holds] at z;obtain⟨rfl,D,-⟩:=z;simp[Instr.indexAt,asIntOf,xB P hu,D,sB P B,vH]
   ·cases h
  ·rename_i len e b off k iv hu A hi;rw[A,hi];split at h
   ·rename_i ti B;simp only[Option.some.injEq,Prod.mk.injEq] at h;obtain⟨rfl,rfl,_⟩:=h;simp only[xE,Ob.holds] at z;obtain⟨D,-⟩:=z;simp[Instr.indexAt,Instr.sureAddr,asIntOf,xB P hu,D,sB P B,vH]
   ·cases h
  ·cases h
 ·
  rename_i t x lo hi j;simp only[execOp,j];split at h
  ·rename_i e base len cap hu A;rw[A];split at h
   ·rename_i ti l hh B hl F;split at h
    ·simp only[Option.some.injEq,Prod.mk.injEq] at h;obtain⟨rfl,rfl,_⟩:=h;simp only[xE,Ob.holds] at z;obtain⟨rfl,rfl,rfl,z⟩:=z;rw[wg] at z;have W:(Instr.sliceBounds true len cap (lo.map (rho L)) (hi.map (rho L)) none).run P w = .ok (l,hh,cap) w:=mF P true _ _ _ _ hl F w z.1 z.2;simp[Instr.sliceAt,Instr.slice,xB P hu,sB P B,yt,W]
    ·cases h
   ·cases h
  ·rename_i s hu A;rw[A];split at h
   ·rename_i l hh hl F;simp only[Option.some.injEq,Prod.mk.injEq] at h;obtain⟨rfl,rfl,_⟩:=h;rw[wg] at z;have W:(Instr.sliceBounds false s.size s.size (lo.map (rho L)) (hi.map (rho L)) none).run P w = .ok (l,hh,s.size) w:=mF P false _ _ _ _ hl F w z.1 z.2;simp[Instr.sliceAt,Instr.slice,xB P hu,W]
   ·cases h
  ·cases h
 ·
  rename_i t x y t2 j;simp only[execOp,j];split at h
  ·rename_i U J A I;simp only[Option.some.injEq,Prod.mk.injEq] at h;obtain⟨rfl,rfl,_⟩:=h;simp only[xE,Ob.holds] at z;simp[A,I,eqGuard,binOp,Op.intDiv,z.1]
  ·cases h
 ·
  rename_i t x y t2 j;simp only[execOp,j];split at h
  ·rename_i U J A I;simp only[Option.some.injEq,Prod.mk.injEq] at h;obtain⟨rfl,rfl,_⟩:=h;simp only[xE,Ob.holds] at z;simp[A,I,eqGuard,binOp,Op.intDiv,z.1]
  ·cases h
 ·
  rename_i t x y t2 j;simp only[execOp,j];split at h
  ·rename_i k U k2 J A I;simp only[Option.some.injEq,Prod.mk.injEq] at h;obtain⟨rfl,rfl,_⟩:=h;simp only[xE,Ob.holds] at z;have D:¬ J<0:=by omega
   simp[A,I,eqGuard,binOp,Op.shift,D]
  ·cases h
 ·
  rename_i t x y t2 j;simp only[execOp,j];split at h
  ·rename_i k U k2 J A I;simp only[Option.some.injEq,Prod.mk.injEq] at h;obtain⟨rfl,rfl,_⟩:=h;simp only[xE,Ob.holds] at z;have D:¬ J<0:=by omega
   simp[A,I,eqGuard,binOp,Op.shift,D]
  ·cases h
 ·
  rename_i t x i j;simp only[execOp,j];split at h
  ·rename_i s k iv hu A hi;rw[A,hi];split at h
   ·rename_i c S;simp only[Option.some.injEq,Prod.mk.injEq] at h;obtain⟨rfl,rfl,_⟩:=h;simp only[xE,Ob.holds] at z;obtain⟨⟨h0,u,Y,rfl⟩,-⟩:=z;simp[Instr.index,asIntOf,xB P hu,h0,Y]
   ·cases h
  ·cases h
 ·split at h
  ·rename_i u a1 a2 hr;simp only[Option.some.injEq,Prod.mk.injEq] at h;obtain⟨rfl,rfl,_⟩:=h;exact oo P w _ _ _ _ _ hr z
  ·cases h
def uw (ops:Array Oper)(L:Env)(o:Oper):Option Bool :=
 match o.guard with
 | none=>some true
 | some (j,want)=>match (ops[j]?).bind (·.dst) with
  | some d=>match look d L with
   | some (.bool b)=>some (b == want)
   | some (.tuple _)=>some false
   | _=>none
  | none=>none
theorem xM {n:Nat}{a:Act}{L:Env}(i:zZ n a L){ops:Array Oper}{o:Oper}{b:Bool}(h:uw ops L o=some b) :
  Region.wanted o (yielded ops a.tmps)=b:=by
 unfold uw at h;unfold Region.wanted;split at h
 ·rename_i e;rw[e];simpa using h
 ·rename_i j want e;rw[e];simp only;unfold yielded;split at h
  ·rename_i d hd;rw[hd];split at h
   ·rename_i u hu;simp only[bS,i.has _ _ hu];simpa using h
   ·rename_i u hu;simp only[bS,i.has _ _ hu];simpa using h
   ·cases h
  ·cases h
def setE (n:Nat)(d:Option Tmp)(v:Value)(L:Env):Option Env :=
 match d with
 | none=>some L
 | some d=>match Nat.blt d n with
  | true=>some ((d,v)::L)
  | false=>none
theorem s6 {n:Nat}{a:Act}{L L':Env}{d:Option Tmp}{v:Value}(e:zZ n a L)(h:setE n d v L=some L'):zZ n (a.put d v) L':=by
 unfold setE at h;split at h
 ·cases h;exact e
 ·split at h
  ·rename_i hd;cases h;exact e.put _ _ (by simpa[Nat.blt_eq] using hd)
  ·cases h
def qB (P:Program)(n:Nat)(ops:Array Oper):List Nat->Env->List Value->Option (Env × List Ob)
 | [],L,_=>some (L,[])
 | i::is,L,j=>match ops[i]? with
  | none=>none
  | some o=>match uw ops L o with
   | none=>none
   | some false=>match setE n o.dst undef L with
    | some L1=>qB P n ops is L1 j
    | none=>none
   | some true=>match evOp P L o j with
    | none=>none
    | some (v,obs,l)=>match setE n o.dst v L with
     | none=>none
     | some L1=>match qB P n ops is L1 l with
      | some (L2,e)=>some (L2,obs++e)
      | none=>none
def sel:List Nat->Env->Option Env
 | [],_=>some []
 | k::ks,L=>match look k L with
  | none=>none
  | some v=>match sel ks L with
   | none=>none
   | some r=>some ((k,v)::r)
theorem s5 {n:Nat}{a:Act}{L:Env}(e:zZ n a L):∀ {ks:List Nat}{Lo:Env},sel ks L=some Lo->zZ n a Lo
 | [],Lo,h=>by simp[sel] at h;subst h;exact⟨e.size,e.defers,fun t v hv=>by simp[look] at hv⟩
 | k::ks,Lo,h=>by
  simp only[sel] at h;split at h
  ·cases h
  ·rename_i v hv;split at h
   ·cases h
   ·rename_i r hr;cases h;have ih:=s5 e hr;refine⟨e.size,e.defers,fun t u hu=>?_⟩;rw[wR] at hu;split at hu
    ·subst_vars;cases hu;exact e.has _ _ hv
    ·exact ih.has t u hu
def nv (P:Program)(n:Nat)(ops:Array Oper)(is:List Nat)(L:Env)(e:List Value)(ks:List Nat):Option (Env × List Ob) :=
 match qB P n ops is L e with
 | none=>none
 | some (L1,obs)=>match sel ks L1 with
  | some Lo=>some (Lo,obs)
  | none=>none
theorem oX {P:Program}{n:Nat}{ops:Array Oper}{Q:Exit->Act->World->Prop}{w:World}{rest:List Nat} :
  ∀ (is:List Nat) (a:Act) (L:Env) (l:List Value) (L':Env) (obs:List Ob),zZ n a L->qB P n ops is L l=some (L',obs)->xE w obs ->
   (∀ y,zZ n y L'->wpOps P ops Q rest y w)->wpOps P ops Q (is++rest) a w:=by
 intro is;induction is with
 | nil=>intro a L l L' obs e h t hk;simp[qB] at h;obtain⟨rfl,rfl⟩:=h;exact hk a e
 | cons i is ih =>
  intro a L l L' obs e h t hk;rw[List.cons_append,wpOps_cons];simp only[qB] at h;split at h
  ·cases h
  ·rename_i o x;unfold wpOp;simp only[x];split at h
   ·cases h
   ·rename_i hw;rw[xM e hw];split at h
    ·rename_i L1 j;exact ih _ _ _ _ _ (s6 e j) h t hk
    ·cases h
   ·rename_i hw;rw[xM e hw];split at h
    ·cases h
    ·rename_i v z B hv;split at h
     ·cases h
     ·rename_i L1 j;split at h
      ·rename_i L2 A u;cases h;rw[wg] at t;have hr:=mO e hv t.1;simp only[if_true];refine .inl ?_;unfold Oper.wp;rw[hr];exact ih _ _ _ _ _ (s6 e j) u t.2 hk
      ·cases h
def xw (P:Program)(f:FuncId)(args:Array Value)(w:World)(R:Value->World->Prop):Prop :=
 Calls P f args w fun e w'=>∃ v,e = .returned v/\R v w'
theorem xw.mono {P:Program}{f:FuncId}{args:Array Value}{w:World}{R e:Value->World->Prop}(h:xw P f args w R)(hr:∀ v w',R v w'->e v w'):xw P f args w e :=
 Calls.mono h fun _ _ ⟨v,he,hv⟩=>⟨v,he,hr _ _ hv⟩
def Runs (P:Program)(f:FuncId)(todo:List Item)(a:Act)(w:World)(R:Value->World->Prop):Prop :=
 ∀ (b:Frame),b.fn=f->b.kind = .normal -> ∀ cs,∃ v w' fr,R v w'/\Steps P (lone (b.at a todo) cs w) (lone fr cs w')/\fr.fn=f/\fr.leaving P w' (.returned v)
def pX:Nat->List Value->Env
 | _,[]=>[]
 | i,v::r=>(i,v)::pX (i+1) r
theorem ow:∀ (l:List Value) (i t:Nat) (v:Value),look t (pX i l)=some v->i<=t/\l[t - i]? = some v
 | [],i,t,v,h=>by simp[pX,look] at h
 | u::l,i,t,v,h=>by
  simp only[pX] at h;rw[wR] at h;split at h
  ·subst_vars;cases h;simp
  ·rename_i e;obtain⟨h1,h2⟩:=ow l (i+1) t v h;refine⟨by omega,?_⟩;have:t - i=(t - (i+1))+1:=by omega
   rw[this];simpa using h2
section
variable {P:Program} {f:FuncId} {k:List Item} {a:Act} {w:World} {R:Value->World->Prop}
theorem enter {fn:Func}{c:Code}{args:List Value}{n:Nat}(hf:P.funcs[f]? = some fn)(l:fn.body=some c)(hn:fn.ntmps=n)(hl:Nat.ble args.length n=true)
  (h:∀ a,zZ n a (pX 0 args)->Runs P f [.code c] a w R):xw P f args.toArray w R:=by
 intro cs;have u:args.length<=n:=Nat.le_of_ble_eq_true hl
 let b:Frame:={ (default:Frame) with fn:=f,kind:=.normal }
 have e:Frame.enter P f args.toArray .normal =
   b.at { tmps:=args.toArray++Array.replicate (fn.ntmps - args.toArray.size) undef,defers:=[] } [.code c]:=by
  simp[Frame.enter,Frame.at,hf,l,b]
 obtain⟨v,w',fr,j,hs,h1,h2⟩:=h { tmps:=args.toArray++Array.replicate (fn.ntmps - args.toArray.size) undef,defers:=[] } ⟨by simp[hn];omega,rfl,fun t v hv=>by
  obtain⟨_,h2⟩:=ow _ _ _ _ hv;simp only[Nat.sub_zero] at h2;have i:t<args.length:=(List.getElem?_eq_some_iff.1 h2).1;rw[Array.getElem?_append_left (by simpa using i)];simpa using h2⟩ b rfl rfl cs
 exact⟨.returned v,w',fr,⟨v,rfl,j⟩,by rw[e];exact hs,h1,h2⟩
theorem Runs.step {todo e:List Item}{i:Act}{w':World}(hs:∀ (b:Frame) cs,step P (lone (b.at a todo) cs w) = .next (lone (b.at i e) cs w'))(h:Runs P f e i w' R):Runs P f todo a w R :=
 fun b l hk cs=>let ⟨v,t,fr,j,h1,h2⟩:=h b l hk cs; ⟨v,t,fr,j,.head (hs b cs) h1,h2⟩
theorem Runs.skip (h:Runs P f k a w R):Runs P f (.code .skip::k) a w R:=.step (fun _ _=>step_skip) h
theorem Runs.label {l:Nat}(h:Runs P f k a w R):Runs P f (.code (.label l)::k) a w R:=.step (fun _ _=>step_label) h
theorem Runs.inBlock {id:Nat}(h:Runs P f k a w R):Runs P f (.inBlock id::k) a w R:=.step (fun _ _=>step_inBlock) h
theorem Runs.seq {x y:Code}(h:Runs P f (.code x :: .code y::k) a w R):Runs P f (.code (.seq x y)::k) a w R:=.step (fun _ _=>step_seq) h
theorem Runs.block {id:Nat}{c:Code}(h:Runs P f (.code c :: .inBlock id::k) a w R):Runs P f (.code (.block id c)::k) a w R:=.step (fun _ _=>step_block) h
theorem Runs.exit {id:Nat}{e:List Item}(he:exitTo id k=some e)(h:Runs P f e a w R):Runs P f (.code (.exit id)::k) a w R:=.step (fun _ _=>step_exit he) h
theorem Runs.inLoop {c:Code}(h:Runs P f (.code c :: .inLoop c::k) a w R):Runs P f (.inLoop c::k) a w R:=.step (fun _ _=>step_inLoop) h
theorem Runs.cond {n:Nat}{L:Env}{c:Operand}{x y:Code}{t:Bool}(e:zZ n a L)(i:evO L c=some (.bool t))(h1:t=true->Runs P f (.code x::k) a w R)(h2:t=false->Runs P f (.code y::k) a w R) :
  Runs P f (.code (.cond c x y)::k) a w R:=by
 cases t
 ·exact .step (fun _ _=>step_cond (e.eval i)) (h2 rfl)
 ·exact .step (fun _ _=>step_cond (e.eval i)) (h1 rfl)
theorem Runs.sF {n:Nat}{L:Env}{c:Operand}{x y:Code}(e:zZ n a L)(i:evO L c=some (.bool true))(h1:Runs P f (.code x::k) a w R) :
  Runs P f (.code (.cond c x y)::k) a w R:=.step (fun _ _=>step_cond (e.eval i)) h1
theorem Runs.vQ {n:Nat}{L:Env}{c:Operand}{x y:Code}(e:zZ n a L)(i:evO L c=some (.bool false))(h1:Runs P f (.code y::k) a w R) :
  Runs P f (.code (.cond c x y)::k) a w R:=.step (fun _ _=>step_cond (e.eval i)) h1
theorem Runs.cH {c:Code}(h:Runs P f (.code c :: .inLoop c::k) a w R):Runs P f (.code (.loop c)::k) a w R:=.step (fun _ _=>step_loop) h
theorem Runs.loop {c:Code}(I:Nat->Act->World->Prop)(N:Nat)(h0:I N a w)
  (round:∀ m,(∀ e,e<m -> ∀ a w,I e a w->Runs P f (.inLoop c::k) a w R) -> ∀ a w,I m a w->Runs P f (.code c :: .inLoop c::k) a w R):Runs P f (.code (.loop c)::k) a w R:=by
 have key:∀ m a w,I m a w->Runs P f (.code c :: .inLoop c::k) a w R:=by
  intro m;induction m using Nat.strongRecOn with
  | _ m ih=>exact round m fun e i a w j=>.inLoop (ih e i a w j)
 exact .step (fun _ _=>step_loop) (key N a w h0)
def jy (L:Env):List ResultVar->Option (List Value)
 | []=>some []
 | .tmp t::r=>match look t L,jy L r with
  | some v,some vs=>some (v::vs)
  | _,_=>none
 | .cell _ _::_=>none
def tg:List Value->Value
 | [v]=>v
 | vs=>.tuple vs.toArray
theorem oV {n:Nat}{L:Env}(i:zZ n a L):∀ (rs:List ResultVar) (vs:List Value),jy L rs=some vs ->
  (rs.mapM fun (x:ResultVar)=>match x with
   | .tmp t=>(pure (a.tmps.getD t undef):Sem Value)
   | .cell x t=>do loadVar t (<- asAddr (a.tmps.getD x undef))).run P w = .ok vs w
 | [],vs,h=>by simp[jy] at h;subst h;simp
 | .tmp t::r,vs,h=>by
  simp only[jy] at h;split at h
  ·rename_i v us hv e;cases h;have ih:=oV i r us e;have:=i.has _ _ hv;simp only[Array.getD_eq_getD_getElem?] at ih ⊢;simp only[List.mapM_cons,Sem.run_bind,Sem.run_pure,Result.andThen_ok,this,Option.getD_some];rw[ih]
   rfl
  ·cases h
 | .cell _ _::_,vs,h=>by simp[jy] at h
theorem Runs.ret {n:Nat}{L:Env}{fn:Func}{rs:List ResultVar}{vs:List Value}(e:zZ n a L)(hf:P.funcs[f]? = some fn)(hr:fn.results=rs.toArray)(hv:jy L rs=some vs)(h:R (tg vs) w) :
  Runs P f (.code .ret::k) a w R:=by
 intro b i hk cs;refine⟨tg vs,w,_,h,.one step_ret,by simp[Frame.at,i],rfl,e.defers,hk,fn,by simpa[Frame.at,i] using hf,?_⟩;have:=oV (P:=P) (w:=w) e rs vs hv;unfold results;simp only[Frame.at,hr,List.mapM_toArray,Sem.run_bind,Sem.run_map]
 erw [this]
 simp only[Result.andThen_ok]
 match vs with
 | []=>simp[tg]
 | [v]=>simp[tg]
 | v::u::r=>simp[tg]
theorem Runs.fin {n:Nat}{L:Env}{fn:Func}{rs:List ResultVar}{vs:List Value}(e:zZ n a L)(hf:P.funcs[f]? = some fn)(hr:fn.results=rs.toArray)(hv:jy L rs=some vs)(h:R (tg vs) w) :
  Runs P f [] a w R:=by
 intro b i hk cs;refine⟨tg vs,w,_,h,.one step_end,by simp[Frame.at,i],rfl,e.defers,hk,fn,by simpa[Frame.at,i] using hf,?_⟩;have:=oV (P:=P) (w:=w) e rs vs hv;unfold results;simp only[Frame.at,hr,List.mapM_toArray,Sem.run_bind,Sem.run_map]
 erw [this]
 simp only[Result.andThen_ok]
 match vs with
 | []=>simp[tg]
 | [v]=>simp[tg]
 | v::u::r=>simp[tg]
def qt (P:Program)(L:Env):List ResultVar->List Value->Option (List Value × List Ob)
 | [],_=>some ([],[])
 | .tmp t::r,e=>match look t L,qt P L r e with
  | some v,some (vs,obs)=>some (v::vs,obs)
  | _,_=>none
 | .cell x t::r,e=>match look x L with
  | some (.pointer (some l))=>match runA P (loadVar t l) e with
   | some (v,obs,j)=>match qt P L r j with
    | some (vs,i)=>some (v::vs,obs++i)
    | none=>none
   | none=>none
  | _=>none
theorem pY {n:Nat}{L:Env}(y:zZ n a L):∀ (rs:List ResultVar) (e:List Value) (vs:List Value) (obs:List Ob),qt P L rs e=some (vs,obs)->xE w obs ->
  (rs.mapM fun (x:ResultVar)=>match x with
   | .tmp t=>(pure (a.tmps.getD t undef):Sem Value)
   | .cell x t=>do loadVar t (<- asAddr (a.tmps.getD x undef))).run P w = .ok vs w
 | [],e,vs,obs,h,_=>by simp[qt] at h;obtain⟨rfl,_⟩:=h;simp
 | .tmp t::r,e,vs,obs,h,j=>by
  simp only[qt] at h;split at h
  ·rename_i v us obs hv i;cases h;have ih:=pY y r e us obs i j;have:=y.has _ _ hv;simp only[Array.getD_eq_getD_getElem?] at ih ⊢;simp only[List.mapM_cons,Sem.run_bind,Sem.run_pure,Result.andThen_ok,this,Option.getD_some];rw[ih]
   rfl
  ·cases h
 | .cell x t::r,e,vs,obs,h,j=>by
  simp only[qt] at h;split at h
  ·rename_i z hv;split at h
   ·rename_i v A u hr;split at h
    ·rename_i us l i;cases h;rw[wg] at j;have ih:=pY y r u us l i j.2;have h1:=oo P w _ _ _ _ _ hr j.1;have:=y.has _ _ hv;have h3:(asAddr (.pointer (some z))).run P w = .ok z w:=rfl;simp only[Array.getD_eq_getD_getElem?] at ih ⊢;simp only[List.mapM_cons,Sem.run_bind,Sem.run_pure,Result.andThen_ok,this,Option.getD_some,h3,h1];rw[ih]
     rfl
    ·cases h
   ·cases h
  ·cases h
theorem Runs.retO {n:Nat}{L:Env}{fn:Func}{rs:List ResultVar}{vs:List Value}{obs:List Ob}(i:zZ n a L)(hf:P.funcs[f]? = some fn)(hr:fn.results=rs.toArray)(e:List Value)(hv:qt P L rs e=some (vs,obs))(l:xE w obs)(h:R (tg vs) w) :
  Runs P f (.code .ret::k) a w R:=by
 intro b j hk cs;refine⟨tg vs,w,_,h,.one step_ret,by simp[Frame.at,j],rfl,i.defers,hk,fn,by simpa[Frame.at,j] using hf,?_⟩;have:=pY (P:=P) (w:=w) i rs e vs obs hv l;unfold results;simp only[Frame.at,hr,List.mapM_toArray,Sem.run_bind,Sem.run_map]
 erw [this]
 simp only[Result.andThen_ok]
 match vs with
 | []=>simp[tg]
 | [v]=>simp[tg]
 | v::u::r=>simp[tg]
def RQ (P:Program)(f:FuncId)(k:List Item)(R:Value->World->Prop):Exit->Act->World->Prop
 | .normal,a,w=>Runs P f k a w R
 | _,_,_=>False
def WR (P:Program)(f:FuncId)(ops:Array Oper)(i:Nat)(k:List Item)(a:Act)(w:World)(R:Value->World->Prop):Prop :=
 wpOps P ops (RQ P f k R) (List.range' i (ops.size - i)) a w
theorem Runs.Az {ops:Array Oper}{is:List Nat}(h:wpOps P ops (RQ P f k R) is a w):Runs P f (.inRegion ops is::k) a w R:=by
 intro b l hk cs;obtain⟨e,u,w',hq,i⟩:=wp_ops is a w h b k cs;cases e with
 | normal =>
  obtain⟨v,t,fr,j,h1,h2⟩:=hq b l hk cs;exact⟨v,t,fr,j,i.trans h1,h2⟩
 | _=>exact hq.elim
theorem Runs.region {id:Nat}{ops:Array Oper}(h:WR P f ops 0 k a w R):Runs P f (.code (.region id ops false)::k) a w R:=by
 refine .step (fun _ _=>step_region) (Runs.Az ?_);unfold WR at h;rw[List.range_eq_range'];simpa using h
theorem WR.done {ops:Array Oper}{i:Nat}(hi:Nat.ble ops.size i=true)(h:Runs P f k a w R):WR P f ops i k a w R:=by
 have:ops.size - i=0:=by have:=Nat.le_of_ble_eq_true hi;omega
 simp[WR,this,wpOps,RQ];exact h
theorem WR.seg {ops:Array Oper}{i n:Nat}{L:Env}(B:zZ n a L)(j:Nat)(u:List Value)(ks:List Nat){Lo:Env}{obs:List Ob}
  (hj:(Nat.ble i j && Nat.ble j ops.size)=true) (he:nv P n ops (List.range' i (j - i)) L u ks=some (Lo,obs)) (D:xE w obs)
  (hk:∀ l,zZ n l Lo->WR P f ops j k l w R):WR P f ops i k a w R:=by
 simp only[Bool.and_eq_true] at hj;have h1:=Nat.le_of_ble_eq_true hj.1;have h2:=Nat.le_of_ble_eq_true hj.2;unfold WR;have hr:List.range' i (ops.size - i)=List.range' i (j - i)++List.range' j (ops.size - j):=by
  have z:ops.size - i=(j - i)+(ops.size - j):=by omega
  have A:i+(j - i)=j:=by omega
  rw[z,<- List.range'_append_1,A]
 rw[hr];unfold nv at he;split at he
 ·cases he
 ·rename_i L1 x hs;split at he
  ·rename_i y e;cases he;exact oX _ _ _ _ _ _ B hs D fun l t=>hk l (s5 t e)
  ·cases he
def OpTo (P:Program)(o:Oper)(a:Act)(w:World)(e:Value->World->Prop):Prop :=
 match (execOp a.eval o).run P w with
 | .ok (.value v) w'=>e v w'
 | .ok .skip w'=>e undef w'
 | .ok (.enter g args) w'=>xw P g args w' e
 | _=>False
theorem OpTo.mono {o:Oper}{i e:Value->World->Prop}(h:OpTo P o a w i)(hr:∀ v w',i v w'->e v w'):OpTo P o a w e:=by
 unfold OpTo at *
 generalize (execOp a.eval o).run P w=r at *
 cases r with
 | ok n w'=>cases n <;> first|exact hr _ _ h|exact xw.mono h hr|exact h.elim
 | halt x w'=>exact h.elim
theorem OpTo.wp {o:Oper}{ar:Act}{i:Value->World->Prop}{K:Act->World->Prop}{Q:Exit->Act->World->Prop}(he:execOp a.eval o=execOp ar.eval o)(h:OpTo P o a w i)
  (j:∀ v w',i v w'->K (ar.put o.dst v) w'):o.wp P ar w K Q:=by
 unfold OpTo at h;unfold Oper.wp;rw[he] at h;generalize (execOp ar.eval o).run P w=r at *
 cases r with
 | ok n w' =>
  cases n <;> simp only[Oper.upon] at h ⊢ <;> first|exact j _ _ h|exact h.elim|skip
  exact Calls.mono h fun e l ⟨v,he,hv⟩=>by subst he;exact j _ _ hv
 | halt x w'=>exact h.elim
theorem WR.eff {ops:Array Oper}{i n d:Nat}{L:Env}{o:Oper}{e:Value->World->Prop}(l:zZ n a L)(hi:ops[i]? = some o)(hd:o.dst=some d)(hn:Nat.blt d n=true)(hw:uw ops L o=some true)
  (h:OpTo P o a w e) (hk:∀ v w',e v w' -> ∀ j,zZ n j ((d,v)::L)->WR P f ops (i+1) k j w' R):WR P f ops i k a w R:=by
 unfold WR at *
 have t:i<ops.size:=(Array.getElem?_eq_some_iff.1 hi).1;have:ops.size - i=(ops.size - (i+1))+1:=by omega
 rw[this,List.range'_succ,wpOps_cons];unfold wpOp;simp only[hi,xM l hw,if_true];exact .inl (h.wp rfl fun v w' hv=>hk v w' hv _ (by rw[hd];exact l.put _ _ (by simpa[Nat.blt_eq] using hn)))
theorem WR.eff0 {ops:Array Oper}{i n:Nat}{L:Env}{o:Oper}{e:Value->World->Prop}(l:zZ n a L)(hi:ops[i]? = some o)(hd:o.dst=none)(hw:uw ops L o=some true)
  (h:OpTo P o a w e) (hk:∀ v w',e v w' -> ∀ j,zZ n j L->WR P f ops (i+1) k j w' R):WR P f ops i k a w R:=by
 unfold WR at *
 have t:i<ops.size:=(Array.getElem?_eq_some_iff.1 hi).1;have:ops.size - i=(ops.size - (i+1))+1:=by omega
 rw[this,List.range'_succ,wpOps_cons];unfold wpOp;simp only[hi,xM l hw,if_true];exact .inl (h.wp rfl fun v w' hv=>hk v w' hv _ (by rw[hd];exact l))
end
def listed (m:Nat)(dn:List Nat):Array Bool:=dn.foldl (fun b i=>b.setIfInBounds i true) (Array.replicate m false)
theorem o8 (m:Nat)(dn:List Nat)(i:Nat):listed m (dn++[i])=(listed m dn).setIfInBounds i true:=by simp[listed]
section
variable {P:Program} {f:FuncId} {k:List Item} {a:Act} {w:World} {R:Value->World->Prop} {ops:Array Oper}
theorem Runs.of_wp {c:Code}(h:c.wp P (RQ P f k R) a w):Runs P f (.code c::k) a w R:=by
 intro b l hk cs;obtain⟨e,u,w',hq,i⟩:=h b k cs;cases e with
 | normal =>
  obtain⟨v,t,fr,j,h1,h2⟩:=hq b l hk cs;exact⟨v,t,fr,j,i.trans h1,h2⟩
 | _=>exact hq.elim
end
theorem OpTo.of_run {P:Program}{o:Oper}{a:Act}{w w':World}{v:Value}{e:Value->World->Prop}(h:(execOp a.eval o).run P w = .ok (.value v) w')(hv:e v w'):OpTo P o a w e:=by
 unfold OpTo;rw[h];exact hv
theorem OpTo.jI {P:Program}{o:Oper}{a:Act}{w w':World}{e:Value->World->Prop}(h:(execOp a.eval o).run P w = .ok .skip w')(hv:e undef w'):OpTo P o a w e:=by
 unfold OpTo;rw[h];exact hv
theorem OpTo.dY {P:Program}{o:Oper}{a:Act}{w w':World}{g:FuncId}{args:Array Value}{e:Value->World->Prop}(h:(execOp a.eval o).run P w = .ok (.enter g args) w')(hv:xw P g args w' e):OpTo P o a w e:=by
 unfold OpTo;rw[h];exact hv
def qX (L:Env):List Operand->Option (List Value)
 | []=>some []
 | x::r=>match evO L x,qX L r with
  | some v,some vs=>some (v::vs)
  | _,_=>none
theorem oW {n:Nat}{a:Act}{L:Env}(i:zZ n a L):∀ (l:List Operand) (vs:List Value),qX L l=some vs->l.map a.eval=vs
 | [],vs,h=>by simp[qX] at h;simp[h]
 | x::r,vs,h=>by
  simp only[qX] at h;split at h
  ·rename_i v us hv e;cases h;simp[i.eval hv,oW i r us e]
  ·cases h
def callParts:Op->Option (Operand × List Operand)
 | .call { callee:=.value g,args,.. }=>some (g,args.toList)
 | _=>none
theorem OpTo.call {P:Program}{n:Nat}{a:Act}{L:Env}{w:World}{o:Oper}{x:Operand}{xs:List Operand}{g:FuncId}{first captured:Array Value}{vs:List Value}{l:Value->World->Prop}(t:zZ n a L)
  (i:callParts o.op=some (x,xs)) (z:evO L x=some (.func (.func g) first captured)) (j:qX L xs=some vs)
  (y:∀ args w,(callFunc g args).run P w = .ok (.enter g args) w) (h:xw P g (first++vs.toArray++captured) w l):OpTo P o a w l:=by
 obtain⟨dst,op,type,pos,after,guard⟩:=o;cases op <;> simp only[callParts] at i <;> try cases i
 rename_i c;obtain⟨callee,args,ats⟩:=c;cases callee <;> simp only at i <;> try cases i
 refine OpTo.dY ?_ h;have e:=oW t _ _ j;have u:args.map a.eval=vs.toArray:=by
  apply Array.ext';simpa using e
 simp[execOp,resolve,Deferred.ofValue,t.eval z,invoke,y,u]
theorem OpTo.fn {P:Program}{n:Nat}{a:Act}{L:Env}{w:World}{o:Oper}{xs:List Operand}{g:FuncId}{vs:List Value}{i:Value->World->Prop}(j:zZ n a L)
  (t:callParts o.op=some (.func g,xs)) (e:qX L xs=some vs)
  (l:∀ args w,(callFunc g args).run P w = .ok (.enter g args) w) (h:xw P g vs.toArray w i):OpTo P o a w i :=
 OpTo.call j t (first:=#[]) (captured:=#[]) rfl e l (by simpa using h)
end Go.Th
end
namespace Go.Th
noncomputable section
abbrev Hp:=Nat->Option Obj
abbrev HP:=Hp->Prop
def Sub (h g:Hp):Prop:=∀ b o,h b=some o->g b=some o
def Disj (h g:Hp):Prop:=∀ b,h b=none \/ g b=none
theorem Sub.refl (h:Hp):Sub h h:=fun _ _ h=>h
theorem Sub.trans {a b c:Hp}(h:Sub a b)(g:Sub b c):Sub a c:=fun x o e=>g x o (h x o e)
def sepL:List HP->HP
 | [],_=>True
 | A::L,h=>∃ h1 h2,Disj h1 h2/\Sub h1 h/\Sub h2 h/\A h1/\sepL L h2
theorem nz:∀ {L:List HP}{h g:Hp},Sub h g->sepL L h->sepL L g
 | [],_,_,_,_=>trivial
 | A::L,h,g,hs,⟨h1,h2,hd,s1,s2,hA,e⟩=>⟨h1,h2,hd,s1.trans hs,s2.trans hs,hA,e⟩
def union (h g:Hp):Hp:=fun b=>match h b with
 | some o=>some o
 | none=>g b
theorem sL (h g:Hp):Sub h (union h g):=fun b o e=>by simp[union,e]
theorem tY {h g:Hp}(hd:Disj h g):Sub g (union h g):=fun b o e=>by
 rcases hd b with h1|h1
 ·simp[union,h1,e]
 ·simp[h1] at e
theorem nH {h g k:Hp}(h1:Sub h k)(h2:Sub g k):Sub (union h g) k:=fun b o e=>by
 unfold union at e;split at e
 ·rename_i x i;cases e;exact h1 _ _ i
 ·exact h2 _ _ e
theorem qc {a b e i:Hp}(h:Disj a b)(h1:Sub e a)(h2:Sub i b):Disj e i:=fun x=>by
 rcases h x with h|h
 ·left
  cases j:e x with
  | none=>rfl
  | some o=>rw[h1 x o j] at h;cases h
 ·right
  cases j:i x with
  | none=>rfl
  | some o=>rw[h2 x o j] at h;cases h
theorem rA:∀ {L M:List HP}{h:Hp},sepL (L++M) h ↔ ∃ h1 h2,Disj h1 h2/\Sub h1 h/\Sub h2 h/\sepL L h1/\sepL M h2
 | [],M,h=>by
  constructor
  ·intro j;exact⟨fun _=>none,h,fun _=>.inl rfl,fun _ _ z=>by simp at z,Sub.refl _,trivial,j⟩
  ·rintro⟨h1,h2,hd,s1,s2,_,j⟩;exact nz s2 j
 | A::L,M,h=>by
  constructor
  ·rintro⟨h1,h2,hd,s1,s2,hA,t⟩;obtain⟨g1,g2,gd,t1,t2,l,j⟩:=rA.1 t;refine⟨union h1 g1,g2,?_,nH s1 (t1.trans s2),t2.trans s2,⟨h1,g1,qc hd (Sub.refl _) t1,sL _ _,tY (qc hd (Sub.refl _) t1),hA,l⟩,j⟩;intro b;rcases hd b with e|e
   ·rcases gd b with i|i
    ·left;simp[union,e,i]
    ·right;exact i
   ·right
    cases u:g2 b with
    | none=>rfl
    | some o=>rw[t2 b o u] at e;cases e
  ·rintro⟨h1,h2,hd,s1,s2,⟨k1,k2,kd,y,x,hA,l⟩,j⟩;refine⟨k1,union k2 h2,?_,y.trans s1,nH (x.trans s1) s2,hA,rA.2 ⟨k2,h2,qc hd x (Sub.refl _),sL _ _,tY (qc hd x (Sub.refl _)),l,j⟩⟩;intro b;rcases kd b with e|e
   ·left;exact e
   ·rcases hd b with i|i
    ·left
     cases u:k1 b with
     | none=>rfl
     | some o=>rw[y b o u] at i;cases i
    ·right;simp[union,e,i]
theorem da {A B:HP}{L:List HP}{h:Hp}(H:sepL (A::B::L) h):sepL (B::A::L) h:=by
 obtain⟨h1,h2,hd,s1,s2,hA,g1,g2,gd,t1,t2,j,l⟩:=H;refine⟨g1,union h1 g2,?_,t1.trans s2,nH s1 (t2.trans s2),j,h1,g2,qc hd (Sub.refl _) t2,sL _ _,tY (qc hd (Sub.refl _) t2),hA,l⟩;intro b;rcases gd b with e|e
 ·left;exact e
 ·rcases hd b with i|i
  ·right;simp[union,e,i]
  ·left
   cases t:g1 b with
   | none=>rfl
   | some o=>rw[t1 b o t] at i;cases i
theorem eZ {L M:List HP}(hp:L.Perm M):∀ {h:Hp},sepL L h->sepL M h:=by
 induction hp with
 | nil=>exact fun h=>h
 | cons x _ ih=>rintro h ⟨h1,h2,hd,s1,s2,hA,j⟩;exact⟨h1,h2,hd,s1,s2,hA,ih j⟩
 | swap x y l=>exact fun h=>da h
 | trans _ _ e i=>exact fun h=>i (e h)
def hpOf (w:World):Hp:=fun b=>w.heap[b]?
structure St (w0:World) (As:List HP) (w:World):Prop where
 os:w.os=w0.os
 tape:w.tape=w0.tape
 output:w.output=w0.output
 heap:sepL As (hpOf w)
theorem St.perm {w0 w:World}{As Bs:List HP}(H:St w0 As w)(hp:As.Perm Bs):St w0 Bs w:=⟨H.os,H.tape,H.output,eZ hp H.heap⟩
def gJ {α:Type}:List Nat->List α -> List α
 | [],_=>[]
 | i::is,L=>match L[i]? with
  | some x=>x::gJ is L
  | none=>gJ is L
def memB (i:Nat):List Nat->Bool
 | []=>false
 | j::r=>match Nat.beq i j with
  | true=>true
  | false=>memB i r
def gG:List Nat->Nat->Bool
 | is,0=>match is with
  | []=>true
  | _::_=>false
 | is,n+1=>memB n is && gG (is.erase n) n
theorem iD:∀ {l:List Nat}{i:Nat},memB i l=true->i∈l
 | [],i,h=>by simp[memB] at h
 | j::r,i,h=>by
  simp only[memB] at h;split at h
  ·rename_i e;simp[Nat.eq_of_beq_eq_true e]
  ·exact mC _ (iD h)
theorem oc:∀ {n:Nat}{is:List Nat},gG is n=true->is.Perm (List.range n)
 | 0,is,h=>by
  cases is with
  | nil=>simp
  | cons _ _=>simp[gG] at h
 | n+1,is,h=>by
  simp only[gG,Bool.and_eq_true] at h;rw[List.range_succ];have h1:=List.perm_cons_erase (iD h.1);exact h1.trans (((oc h.2).cons n).trans (List.perm_append_singleton n (List.range n)).symm)
theorem lS {α:Type}(L:List α):∀ is:List Nat,gJ is L=is.filterMap (L[·]?)
 | []=>rfl
 | i::is=>by
  simp only[gJ,List.filterMap_cons,lS L is];cases L[i]? <;> rfl
theorem tO {α:Type}:∀ (L:List α),(List.range L.length).filterMap (L[·]?)=L
 | []=>rfl
 | x::L=>by
  rw[lC,List.range_succ_eq_map,List.filterMap_cons];simp only[List.getElem?_cons_zero,List.filterMap_map];congr 1;have:((fun i=>(x::L)[i]?) ∘ Nat.succ)=fun i=>L[i]?:=by funext i;simp
  rw[this];exact tO L
theorem St.idx {w0 w:World}{As:List HP}(H:St w0 As w)(is:List Nat)(h:gG is As.length=true):St w0 (gJ is As) w:=by
 refine H.perm ?_;rw[lS];have:=(oc h).filterMap (As[·]?);rw[tO] at this;exact this.symm
theorem St.ix {w0 w:World}{As:List HP}(H:St w0 As w)(is:List Nat)(h:gG is (As.take is.length).length=true):St w0 (gJ is (As.take is.length)++As.drop is.length) w:=by
 refine H.perm ?_;have h0:As=As.take is.length++As.drop is.length:=(List.take_append_drop _ _).symm
 conv=>lhs;rw[h0]
 refine List.Perm.append_right _ ?_;rw[lS];have:=(oc h).filterMap ((As.take is.length)[·]?);rw[tO] at this;exact this.symm
theorem St.drop {w0 w:World}{A:HP}{As:List HP}(H:St w0 (A::As) w):St w0 As w:=by
 obtain⟨h1,h2,_,_,s2,_,e⟩:=H.heap;exact⟨H.os,H.tape,H.output,nz s2 e⟩
theorem St.flat {w0 w:World}{Bs As:List HP}(H:St w0 (sepL Bs::As) w):St w0 (Bs++As) w :=
 ⟨H.os,H.tape,H.output,rA.2 H.heap⟩
theorem St.group {w0 w:World}(Bs:List HP){As:List HP}(H:St w0 (Bs++As) w):St w0 (sepL Bs::As) w :=
 ⟨H.os,H.tape,H.output,rA.1 H.heap⟩
theorem St.head {w0 w:World}{A B:HP}{As:List HP}(H:St w0 (A::As) w)(h:∀ h,A h->B h):St w0 (B::As) w:=by
 obtain⟨h1,h2,hd,s1,s2,hA,e⟩:=H.heap;exact⟨H.os,H.tape,H.output,h1,h2,hd,s1,s2,h _ hA,e⟩
theorem St.ex {w0 w:World}{α:Sort _}{A:α -> HP}{As:List HP}(H:St w0 ((fun h=>∃ x,A x h)::As) w):∃ x,St w0 (A x::As) w:=by
 obtain⟨h1,h2,hd,s1,s2,⟨x,hA⟩,e⟩:=H.heap;exact⟨x,H.os,H.tape,H.output,h1,h2,hd,s1,s2,hA,e⟩
theorem St.fact {w0 w:World}{A:HP}{q:Prop}{As:List HP}(H:St w0 (A::As) w)(h:∀ h,A h->q):q:=by
 obtain⟨h1,h2,hd,s1,s2,hA,e⟩:=H.heap;exact h _ hA
theorem St.drew {w0 w:World}{As:List HP}(H:St w0 As w):St w0 As { w with drawn:=w.drawn+1 }:=⟨H.os,H.tape,H.output,H.heap⟩
theorem St.drawn {w0 w:World}{As:List HP}(H:St w0 As w)(n:Nat):St w0 As { w with drawn:=n }:=⟨H.os,H.tape,H.output,H.heap⟩
theorem St.t1 {w0 w:World}{e A1:HP}{As:List HP}(H:St w0 (e::A1::As) w):St w0 (A1::e::As) w:=H.ix [1,0] rfl
theorem St.t2 {w0 w:World}{e A1 i:HP}{As:List HP}(H:St w0 (e::A1::i::As) w):St w0 (i::e::A1::As) w:=H.ix [2,0,1] rfl
theorem St.t3 {w0 w:World}{e A1 i j:HP}{As:List HP}(H:St w0 (e::A1::i::j::As) w):St w0 (j::e::A1::i::As) w:=H.ix [3,0,1,2] rfl
theorem St.t4 {w0 w:World}{e A1 i j l:HP}{As:List HP}(H:St w0 (e::A1::i::j::l::As) w):St w0 (l::e::A1::i::j::As) w:=H.perm (List.perm_middle (l₁:=[e,A1,i,j]) (a:=l) (l₂:=As))
theorem St.t5 {w0 w:World}{e A1 i j l t:HP}{As:List HP}(H:St w0 (e::A1::i::j::l::t::As) w):St w0 (t::e::A1::i::j::l::As) w:=H.perm (List.perm_middle (l₁:=[e,A1,i,j,l]) (a:=t) (l₂:=As))
theorem St.t6 {w0 w:World}{e A1 i j l t u:HP}{As:List HP}(H:St w0 (e::A1::i::j::l::t::u::As) w):St w0 (u::e::A1::i::j::l::t::As) w:=H.perm (List.perm_middle (l₁:=[e,A1,i,j,l,t]) (a:=u) (l₂:=As))
theorem St.t7 {w0 w:World}{e A1 i j l t u x:HP}{As:List HP}(H:St w0 (e::A1::i::j::l::t::u::x::As) w):St w0 (x::e::A1::i::j::l::t::u::As) w:=H.perm (List.perm_middle (l₁:=[e,A1,i,j,l,t,u]) (a:=x) (l₂:=As))
theorem St.t8 {w0 w:World}{e A1 i j l t u x y:HP}{As:List HP}(H:St w0 (e::A1::i::j::l::t::u::x::y::As) w):St w0 (y::e::A1::i::j::l::t::u::x::As) w:=H.perm (List.perm_middle (l₁:=[e,A1,i,j,l,t,u,x]) (a:=y) (l₂:=As))
theorem St.t9 {w0 w:World}{e A1 i j l t u x y z:HP}{As:List HP}(H:St w0 (e::A1::i::j::l::t::u::x::y::z::As) w):St w0 (z::e::A1::i::j::l::t::u::x::y::As) w:=H.perm (List.perm_middle (l₁:=[e,A1,i,j,l,t,u,x,y]) (a:=z) (l₂:=As))
theorem St.t10 {w0 w:World}{i A1 j l t u x y z A e:HP}{As:List HP}(H:St w0 (i::A1::j::l::t::u::x::y::z::A::e::As) w):St w0 (e::i::A1::j::l::t::u::x::y::z::A::As) w:=H.perm (List.perm_middle (l₁:=[i,A1,j,l,t,u,x,y,z,A]) (a:=e) (l₂:=As))
theorem St.t11 {w0 w:World}{j A1 l t u x y z A B e i:HP}{As:List HP}(H:St w0 (j::A1::l::t::u::x::y::z::A::B::e::i::As) w):St w0 (i::j::A1::l::t::u::x::y::z::A::B::e::As) w:=H.perm (List.perm_middle (l₁:=[j,A1,l,t,u,x,y,z,A,B,e]) (a:=i) (l₂:=As))
theorem St.t12 {w0 w:World}{l A1 t u x y z A B D e i j:HP}{As:List HP}(H:St w0 (l::A1::t::u::x::y::z::A::B::D::e::i::j::As) w):St w0 (j::l::A1::t::u::x::y::z::A::B::D::e::i::As) w:=H.perm (List.perm_middle (l₁:=[l,A1,t,u,x,y,z,A,B,D,e,i]) (a:=j) (l₂:=As))
theorem St.t13 {w0 w:World}{t A1 u x y z A B D F e i j l:HP}{As:List HP}(H:St w0 (t::A1::u::x::y::z::A::B::D::F::e::i::j::l::As) w):St w0 (l::t::A1::u::x::y::z::A::B::D::F::e::i::j::As) w:=H.perm (List.perm_middle (l₁:=[t,A1,u,x,y,z,A,B,D,F,e,i,j]) (a:=l) (l₂:=As))
theorem St.t14 {w0 w:World}{u A1 x y z A B D F I e i j l t:HP}{As:List HP}(H:St w0 (u::A1::x::y::z::A::B::D::F::I::e::i::j::l::t::As) w):St w0 (t::u::A1::x::y::z::A::B::D::F::I::e::i::j::l::As) w:=H.perm (List.perm_middle (l₁:=[u,A1,x,y,z,A,B,D,F,I,e,i,j,l]) (a:=t) (l₂:=As))
theorem St.x0 {w0 w:World}{e:HP}{As:List HP}(H:St w0 (e::As) w):St w0 (As) w:=H.drop
theorem St.x1 {w0 w:World}{e A1:HP}{As:List HP}(H:St w0 (e::A1::As) w):St w0 (e::As) w:=H.t1.drop
theorem St.x2 {w0 w:World}{e A1 i:HP}{As:List HP}(H:St w0 (e::A1::i::As) w):St w0 (e::A1::As) w:=H.t2.drop
theorem St.x3 {w0 w:World}{e A1 i j:HP}{As:List HP}(H:St w0 (e::A1::i::j::As) w):St w0 (e::A1::i::As) w:=H.t3.drop
theorem St.x4 {w0 w:World}{e A1 i j l:HP}{As:List HP}(H:St w0 (e::A1::i::j::l::As) w):St w0 (e::A1::i::j::As) w:=H.t4.drop
theorem St.x5 {w0 w:World}{e A1 i j l t:HP}{As:List HP}(H:St w0 (e::A1::i::j::l::t::As) w):St w0 (e::A1::i::j::l::As) w:=H.t5.drop
theorem St.x6 {w0 w:World}{e A1 i j l t u:HP}{As:List HP}(H:St w0 (e::A1::i::j::l::t::u::As) w):St w0 (e::A1::i::j::l::t::As) w:=H.t6.drop
theorem St.x7 {w0 w:World}{e A1 i j l t u x:HP}{As:List HP}(H:St w0 (e::A1::i::j::l::t::u::x::As) w):St w0 (e::A1::i::j::l::t::u::As) w:=H.t7.drop
theorem St.x8 {w0 w:World}{e A1 i j l t u x y:HP}{As:List HP}(H:St w0 (e::A1::i::j::l::t::u::x::y::As) w):St w0 (e::A1::i::j::l::t::u::x::As) w:=H.t8.drop
theorem St.x9 {w0 w:World}{e A1 i j l t u x y z:HP}{As:List HP}(H:St w0 (e::A1::i::j::l::t::u::x::y::z::As) w):St w0 (e::A1::i::j::l::t::u::x::y::As) w:=H.t9.drop
theorem St.x10 {w0 w:World}{i A1 j l t u x y z A e:HP}{As:List HP}(H:St w0 (i::A1::j::l::t::u::x::y::z::A::e::As) w):St w0 (i::A1::j::l::t::u::x::y::z::A::As) w:=H.t10.drop
theorem St.x11 {w0 w:World}{j A1 l t u x y z A B e i:HP}{As:List HP}(H:St w0 (j::A1::l::t::u::x::y::z::A::B::e::i::As) w):St w0 (j::A1::l::t::u::x::y::z::A::B::e::As) w:=H.t11.drop
theorem St.x12 {w0 w:World}{l A1 t u x y z A B D e i j:HP}{As:List HP}(H:St w0 (l::A1::t::u::x::y::z::A::B::D::e::i::j::As) w):St w0 (l::A1::t::u::x::y::z::A::B::D::e::i::As) w:=H.t12.drop
theorem St.x13 {w0 w:World}{t A1 u x y z A B D F e i j l:HP}{As:List HP}(H:St w0 (t::A1::u::x::y::z::A::B::D::F::e::i::j::l::As) w):St w0 (t::A1::u::x::y::z::A::B::D::F::e::i::j::As) w:=H.t13.drop
theorem St.x14 {w0 w:World}{u A1 x y z A B D F I e i j l t:HP}{As:List HP}(H:St w0 (u::A1::x::y::z::A::B::D::F::I::e::i::j::l::t::As) w):St w0 (u::A1::x::y::z::A::B::D::F::I::e::i::j::l::As) w:=H.t14.drop
def One (b:Nat)(o:Obj):HP:=fun h=>h b=some o
abbrev Blk (b:Nat)(T:TypeId)(cs:List Value):HP:=One b (.cells cs.toArray T (0,0))
theorem iL {A:HP}:∀ {As:List HP}{h:Hp}{i:Nat},sepL As h->As[i]? = some A -> ∃ h1,Sub h1 h/\A h1
 | [],h,i,_,hi=>by simp at hi
 | B::As,h,i,⟨h1,h2,hd,s1,s2,hA,e⟩,hi=>by
  cases i with
  | zero=>simp at hi;subst hi;exact⟨h1,s1,hA⟩
  | succ i =>
   obtain⟨g,l,j⟩:=iL e (by simpa using hi);exact⟨g,l.trans s2,j⟩
theorem St.at {w0 w:World}{As:List HP}(H:St w0 As w)(i:Nat){A:HP}(hi:As[i]? = some A):∃ h1,Sub h1 (hpOf w)/\A h1:=iL H.heap hi
theorem St.one {w0 w:World}{As:List HP}(H:St w0 As w)(i:Nat){b:Nat}{o:Obj}(hi:As[i]? = some (One b o)):w.heap[b]? = some o:=by
 obtain⟨h1,s,h⟩:=H.at i hi;exact s _ _ h
theorem St.cell {w0 w:World}{As:List HP}(H:St w0 As w)(i:Nat){b:Nat}{T:TypeId}{cs:List Value}(hi:As[i]? = some (Blk b T cs)){off:Nat}{v:Value}(hv:cs[off]? = some v) :
  w.cell? ⟨b,off,none⟩=some v:=by
 simp[World.cell?,H.one i hi,hv]
theorem St.set {w0 w w':World}{As:List HP}{b:Nat}{o o':Obj}(H:St w0 (One b o::As) w)(h1:w'.os=w.os)(h2:w'.tape=w.tape)(h3:w'.output=w.output)
  (u:w'.heap[b]? = some o') (l:∀ c,c≠b->w'.heap[c]? = w.heap[c]?):St w0 (One b o'::As) w':=by
 obtain⟨g1,g2,hd,s1,s2,hA,t⟩:=H.heap;refine⟨h1.trans H.os,h2.trans H.tape,h3.trans H.output,fun c=>if c=b then some o' else none,g2,?_,?_,?_,by simp[One],t⟩
 ·intro c;by_cases i:c=b
  ·subst i
   right
   rcases hd c with e|e
   ·simp only[One] at hA;rw[hA] at e;cases e
   ·exact e
  ·left;simp[i]
 ·intro c x j;by_cases i:c=b
  ·subst i;simp at j;subst j;exact u
  ·simp[i] at j
 ·intro c x j;have i:c≠b:=by
   rintro rfl;rcases hd c with e|e
   ·simp only[One] at hA;rw[hA] at e;cases e
   ·rw[j] at e;cases e
  have:=s2 c x j;simp only[hpOf] at this ⊢;rw[l c i];exact this
theorem St.new {w0 w w':World}{As:List HP}{o:Obj}(H:St w0 As w)(h1:w'.os=w.os)(h2:w'.tape=w.tape)(h3:w'.output=w.output)
  (t:w'.heap[w.heap.size]? = some o) (l:∀ c,c<w.heap.size->w'.heap[c]? = w.heap[c]?):St w0 (One w.heap.size o::As) w':=by
 have j:∀ c x,hpOf w c=some x->c<w.heap.size:=fun c x e=>(Array.getElem?_eq_some_iff.1 e).1
 refine⟨h1.trans H.os,h2.trans H.tape,h3.trans H.output,fun c=>if c=w.heap.size then some o else none,fun c=>if c<w.heap.size then hpOf w c else none,?_,?_,?_,by simp[One],nz ?_ H.heap⟩
 ·intro c;by_cases i:c=w.heap.size
  ·right;simp[i]
  ·left;simp[i]
 ·intro c x e;by_cases i:c=w.heap.size
  ·subst i;simp at e;subst e;exact t
  ·simp[i] at e
 ·intro c x e;simp only at e;split at e
  ·rename_i i;simp only[hpOf] at e ⊢;rw[l c i];exact e
  ·cases e
 ·intro c x e;simp[j c x e];exact e
theorem St.alloc {w0 w:World}{As:List HP}(o:Obj)(H:St w0 As w):St w0 (One w.heap.size o::As) { w with heap:=w.heap.push o } :=
 H.new rfl rfl rfl (by simp) (fun c e=>by simp[Array.getElem?_push];omega)
def Old (w0:World):HP:=fun h=>∀ b,b<w0.heap.size->h b=w0.heap[b]?
theorem St.begin (w0:World):St w0 [Old w0] w0 :=
 ⟨rfl,rfl,rfl,hpOf w0,fun _=>none,fun _=>.inr rfl,Sub.refl _,fun _ _ h=>by simp at h,fun _ _=>rfl,trivial⟩
theorem St.old {w0 w:World}{As:List HP}(H:St w0 As w)(i:Nat)(hi:As[i]? = some (Old w0)):∀ b,b<w0.heap.size->w.heap[b]? = w0.heap[b]?:=by
 obtain⟨h1,s,h⟩:=H.at i hi;intro b j;have:=h b j;have e:w0.heap[b]? = some w0.heap[b]:=by simp[j]
 rw[e] at this ⊢;exact s _ _ this
end
noncomputable section
def sA (P:Program){α:Type}:Sem α -> List Value->Nat->Option (Obj × α × List Ob)
 | .new o k,e,r=>match runA P (k r) [] with
  | some (v,[],_)=>some (o,v,[])
  | _=>none
 | .load _ i k,e,r=>match e with
  | []=>none
  | v::e=>match sA P (k v) e r with
   | some (o,x,obs)=>some (o,x,.cell i v::obs)
   | none=>none
 | .program k,e,r=>sA P (k P) e r
 | .mark _ k,e,r=>sA P k e r
 | _,_,_=>none
theorem rW (P:Program)(w:World){α:Type}:∀ (s:Sem α) (e:List Value) (o:Obj) (x:α) (obs:List Ob),
  sA P s e w.heap.size=some (o,x,obs)->xE w obs->s.run P w = .ok x { w with heap:=w.heap.push o }:=by
 intro s;induction s with
 | new o k ih =>
  intro e o' x obs h i;simp only[sA] at h;split at h
  ·rename_i v rest hv;simp only[Option.some.injEq,Prod.mk.injEq] at h;obtain⟨rfl,rfl,rfl⟩:=h;simp only[Sem.run];exact oo P _ _ _ _ _ _ hv trivial
  ·cases h
 | load m t k ih =>
  intro e o x obs h i;cases e with
  | nil=>simp[sA] at h
  | cons v e =>
   simp only[sA] at h;split at h
   ·rename_i o' y j l;simp only[Option.some.injEq,Prod.mk.injEq] at h;obtain⟨rfl,rfl,rfl⟩:=h;simp only[xE,Ob.holds] at i;simp only[Sem.run,i.1];exact ih v e _ _ _ l i.2
   ·cases h
 | program k ih=>intro e o x obs h i;simp only[sA] at h;simp only[Sem.run];exact ih P e o x obs h i
 | mark m k ih=>intro e o x obs h i;simp only[sA] at h;simp only[Sem.run];exact ih e o x obs h i
 | _=>intro e o x obs h;simp[sA] at h
theorem OpTo.new {P:Program}{n:Nat}{a:Act}{L:Env}{w w0:World}{As:List HP}{o:Oper}(l:zZ n a L)(H:St w0 As w)(j:List Value)(i:Obj)(val:Nat->Value){obs:List Ob}
  (e:(!rf o.op && lJ L o.op.operands.toList)=true) (he:∀ r,sA P (execOp (rho L) o) j r=some (i,.value (val r),obs)) (t:xE w obs) :
  OpTo P o a w fun v w'=>∃ r,v=val r/\St w0 (One r i::As) w':=by
 simp only[Bool.and_eq_true,Bool.not_eq_true'] at e;refine OpTo.of_run (w':={ w with heap:=w.heap.push i }) (v:=val w.heap.size) ?_ ⟨w.heap.size,rfl,H.alloc i⟩;rw[lv l e.1 e.2];exact rW P w _ _ _ _ _ (he w.heap.size) t
def putAt:List Value->Nat->List Value->List Value
 | cs,_,[]=>cs
 | cs,off,v::vs=>putAt (cs.set off v) (off+1) vs
theorem rV:∀ (vs cs:List Value) (off:Nat),(putAt cs off vs).length=cs.length
 | [],cs,off=>rfl
 | v::vs,cs,off=>by simp[putAt,rV vs]
theorem ue:∀ (vs cs:List Value) (off:Nat),off+vs.length<=cs.length->putAt cs off vs=cs.take off++vs++cs.drop (off+vs.length)
 | [],cs,off,_=>by simp[putAt]
 | v::vs,cs,off,h=>by
  simp only[lC] at h;rw[putAt,ue vs _ _ (by simp;omega)];have h1:(cs.set off v).take (off+1)=cs.take off++[v]:=by
   apply List.ext_getElem?;intro i;simp only[List.getElem?_take,List.getElem?_set,List.getElem?_append,List.length_take];by_cases hi:i<off
   ·have h1:i<off+1:=by omega
    have h2:i<min off cs.length:=by omega
    have h3:¬ off=i:=by omega
    simp[hi,h1,h2,h3]
   ·by_cases h2:i=off
    ·subst h2;have h3:¬ i<min i cs.length:=by omega
     have h4:i - min i cs.length=0:=by omega
     have e:i<cs.length:=by omega
     simp[h3,h4,e]
    ·have h3:¬ i<off+1:=by omega
     have h4:¬ i<min off cs.length:=by omega
     have e:([v]:List Value)[i - min off cs.length]? = none:=by simp;omega
     simp[h3,h4,e]
  rw[h1,List.drop_set];have:¬ off >= off+1+vs.length:=by omega
  simp[aA,Nat.add_assoc,Nat.add_comm 1]
def oneB:Value->Bool
 | .agg _=>false
 | .tuple _=>false
 | _=>true
theorem eJ {v:Value}(h:oneB v=true):v.oneCell'=true:=by cases v <;> simp_all [oneB,Value.oneCell']
def qP:List Value->Bool
 | []=>true
 | v::r=>oneB v && qP r
theorem oN:∀ {l:List Value},qP l=true -> ∀ v∈l,v.oneCell'=true
 | [],_,v,hv=>by cases hv
 | u::r,h,v,hv=>by
  simp only[qP,Bool.and_eq_true] at h;cases hv with
  | head=>exact eJ h.1
  | tail _ hm=>exact oN h.2 v hm
def vO:Op->Option (TypeId × Operand × Operand)
 | .store t x y=>some (t,x,y)
 | _=>none
theorem oA {P:Program}{w:World}{b off:Nat}{T t:TypeId}{cs:List Value}{v:Value}{ti:TypeInfo}(j:w.heap[b]? = some (.cells cs.toArray T (0,0)))
  (hi:P.info? t=some ti) (hs:ti.size=v.cells.size) (h1:qP v.cells.toList=true) (e:off+v.cells.size<=cs.length) :
  (Instr.storeAt t (.pointer (some ⟨b,off,none⟩)) v).run P w = .ok () (w.setRow b (putAt cs off v.cells.toList).toArray):=by
 have i:=run_storeCells_at P b off T v.cells.toList 0 cs.toArray w j (by simpa using e) (oN h1);rw[ue _ _ _ (by simpa using e)];simp only[Nat.add_zero] at i;simp[Instr.storeAt,Instr.sureAddr,storeVar,sB P hi,hs];simpa using i
theorem OpTo.store {P:Program}{n:Nat}{a:Act}{L:Env}{w w0:World}{As:List HP}{o:Oper}{b off:Nat}{T t:TypeId}{cs:List Value}{x y:Operand}{v:Value}{ti:TypeInfo}(i:zZ n a L)(H:St w0 (Blk b T cs::As) w)
  (l:vO o.op=some (t,x,y)) (z:evO L x=some (.pointer (some ⟨b,off,none⟩))) (A:evO L y=some v) (hi:P.info? t=some ti) (hs:ti.size=v.cells.size) (h1:qP v.cells.toList=true)
  (e:off+v.cells.size<=cs.length):OpTo P o a w fun _ w'=>St w0 (Blk b T (putAt cs off v.cells.toList)::As) w':=by
 obtain⟨dst,op,type,pos,after,guard⟩:=o;cases op <;> simp only[vO] at l <;> try cases l
 have j:=H.one 0 rfl;refine OpTo.jI (w':=w.setRow b (putAt cs off v.cells.toList).toArray) ?_ ?_
 ·simp[execOp,i.eval z,i.eval A,oA j hi hs h1 e]
 ·exact H.set (by simp) (by simp) (by simp) (setRow_heap w b _ _ T (0,0) j) (fun c u=>setRow_other w b c _ u)
structure wj {α:Type} (enc:α -> List Value) (sz:Nat):Prop where
 len:∀ x,(enc x).length=sz
 one:∀ x u,u∈enc x->u.oneCell'=true
def Sl {α:Type}(T:TypeId)(enc:α -> List Value)(sz:Nat)(sb:Option Addr)(sc:Nat)(l:List α):HP:=fun h =>
 (sb=none/\l=[]/\sc=0) \/ ∃ b off cs,sb=some ⟨b,off,none⟩/\h b=some (.cells cs T (0,0))/\l.length<=sc/\sc<=maxLen/\off+sc*sz<=cs.size /\
  ∀ i,i<l.length*sz->cs[off+i]? = (l.flatMap enc)[i]?
theorem yi {α:Type}{enc:α -> List Value}{sz:Nat}(he:wj enc sz):∀ l:List α,(l.flatMap enc).length=l.length*sz
 | []=>by simp
 | x::l=>by simp only[List.flatMap_cons,lA,he.len,yi he l,lC,Nat.succ_mul];omega
theorem u4 {α:Type}{enc:α -> List Value}{sz:Nat}(he:wj enc sz):∀ (l:List α) (j q:Nat) (hj:j<l.length),q<sz->(l.flatMap enc)[j*sz+q]? = (enc l[j])[q]?
 | [],j,q,hj,hq=>by simp at hj
 | x::l,0,q,hj,hq=>by
  simp only[List.flatMap_cons,Nat.zero_mul,Nat.zero_add,List.getElem_cons_zero];rw[List.getElem?_append_left (by rw[he.len];exact hq)]
 | x::l,j+1,q,hj,hq=>by
  simp only[List.flatMap_cons,List.getElem_cons_succ];rw[List.getElem?_append_right (by rw[he.len,Nat.succ_mul];omega),he.len];have e:(j+1)*sz+q - sz=j*sz+q:=by rw[Nat.succ_mul];omega
  rw[e];exact u4 he l j q (by simpa using hj) hq
theorem qe {α:Type}{enc:α -> List Value}{sz:Nat}(he:wj enc sz)(l:List α):∀ u∈l.flatMap enc,u.oneCell'=true:=by
 intro u hu;obtain⟨x,_,e⟩:=List.mem_flatMap.1 hu;exact he.one x u e
section
variable {α:Type} {T:TypeId} {enc:α -> List Value} {sz:Nat} {w0 w:World} {As:List HP}
theorem St.ak (T:TypeId)(enc:α -> List Value)(sz:Nat)(H:St w0 As w):St w0 (Sl T enc sz none 0 []::As) w :=
 ⟨H.os,H.tape,H.output,fun _=>none,hpOf w,fun _=>.inl rfl,fun _ _ h=>by simp at h,Sub.refl _,.inl ⟨rfl,rfl,rfl⟩,H.heap⟩
theorem St.ot (H:St w0 As w)(i:Nat){sb:Option Addr}{sc:Nat}{l:List α}(hi:As[i]? = some (Sl T enc sz sb sc l)):l.length<=sc/\sc<=maxLen:=by
 obtain⟨h1,hs,h⟩:=H.at i hi;rcases h with ⟨_,rfl,rfl⟩|⟨b,off,cs,rfl,j,h2,e,h3,h4⟩
 ·simp
 ·exact⟨h2,e⟩
theorem St.BM {sb:Option Addr}{sc:Nat}{l:List α}(H:St w0 (Sl T enc sz sb sc l::As) w)(he:wj enc sz)(lo hi:Nat)(h1:lo<=hi)(h2:hi<=l.length) :
  St w0 (Sl T enc sz (yt sb sc lo sz) (sc - lo) ((l.take hi).drop lo)::As) w:=by
 refine H.head fun h hh=>?_
 rcases hh with ⟨rfl,rfl,rfl⟩|⟨b,off,cs,rfl,y,h3,I,h4,D⟩
 ·simp at h2;subst h2;have:lo=0:=by omega
  subst this
  left;simp[yt]
 ·right
  have hlen:((l.take hi).drop lo).length=hi - lo:=by simp[Nat.min_eq_left h2]
  have key:∀ i,i<(hi - lo)*sz->(((l.take hi).drop lo).flatMap enc)[i]? = (l.flatMap enc)[lo*sz+i]?:=by
   intro i e;have u:0<sz:=by
    rcases Nat.eq_zero_or_pos sz with h|h
    ·subst h;simp at e
    ·exact h
   have hj:i / sz<hi - lo:=Nat.div_lt_of_lt_mul (by rw[Nat.mul_comm];exact e);have hq:i % sz<sz:=Nat.mod_lt _ u;have t:i=(i / sz)*sz+i % sz:=by rw[Nat.mul_comm];exact (Nat.div_add_mod i sz).symm
   have j:=u4 he ((l.take hi).drop lo) (i / sz) (i % sz) (by rw[hlen];exact hj) hq;have x:=u4 he l (lo+i / sz) (i % sz) (by omega) hq;have A:((l.take hi).drop lo)[i / sz]'(by rw[hlen];exact hj)=l[lo+i / sz]'(by omega):=by simp
   rw[A] at j;rw[<- t] at j;have B:(lo+i / sz)*sz+i % sz=lo*sz+i:=by rw[Nat.add_mul];omega
   rw[B] at x;rw[j,x]
  by_cases z:sc=lo
  ·subst z;refine⟨b,off,cs,by simp[yt],y,by rw[hlen];omega,by omega,by simp;omega,fun i e=>?_⟩;rw[hlen] at e;have:hi - sc=0:=by omega
   rw[this] at e;simp at e
  ·refine⟨b,off+lo*sz,cs,by simp[yt,z,vH],y,by rw[hlen];omega,by omega,?_,fun i e=>?_⟩
   ·have:(sc - lo)*sz=sc*sz - lo*sz:=Nat.sub_mul _ _ _;have F:lo*sz<=sc*sz:=Nat.mul_le_mul_right _ (by omega);omega
   ·rw[hlen] at e;rw[key i e,Nat.add_assoc];refine D _ ?_;have F:lo*sz+(hi - lo)*sz=hi*sz:=by rw[<- Nat.add_mul];congr 1;omega
    have J:hi*sz<=l.length*sz:=Nat.mul_le_mul_right _ h2;omega
theorem St.slOf {b:Nat}{cs:Array Value}{l:List α}{sc:Nat}(H:St w0 (One b (.cells cs T (0,0))::As) w)(he:wj enc sz)(h1:l.length<=sc)(h2:sc<=maxLen)(h3:sc*sz<=cs.size)
  (h4:∀ i,i<l.length*sz->cs[i]? = (l.flatMap enc)[i]?):St w0 (Sl T enc sz (some ⟨b,0,none⟩) sc l::As) w :=
 H.head fun h hh=>.inr ⟨b,0,cs,rfl,hh,h1,h2,by omega,fun i hi=>by rw[Nat.zero_add];exact h4 i hi⟩
end
theorem St.kL {α:Type}{T:TypeId}{enc:α -> List Value}{sz:Nat}{w0 w:World}{As:List HP}{sb:Option Addr}{sc:Nat}{l:List α}(H:St w0 (Sl T enc sz sb sc l::As) w) :
  (sb=none/\l=[]/\sc=0) \/ ∃ b off cs,sb=some ⟨b,off,none⟩/\St w0 (One b (.cells cs T (0,0))::As) w/\l.length<=sc/\sc<=maxLen/\off+sc*sz<=cs.size /\
  ∀ i,i<l.length*sz->cs[off+i]? = (l.flatMap enc)[i]?:=by
 obtain⟨h1,h2,hd,s1,s2,hA,t⟩:=H.heap;rcases hA with h|⟨b,off,cs,e,j,rest⟩
 ·exact .inl h
 ·exact .inr ⟨b,off,cs,e,⟨H.os,H.tape,H.output,h1,h2,hd,s1,s2,j,t⟩,rest⟩
def Rd (w:World)(i:Option Addr)(news:List Value):Prop:=news=[] \/ ∃ e,i=some e /\ ∀ j u,news[j]? = some u->w.cell? (e.add j)=some u
theorem qm {P:Program}{w:World}{e:Option Addr}{news:List Value}{size m len cap:Nat}(h:Rd w e news)(hl:news.length=m*size) :
  (Builtin.firstCells size m (.slice e len cap)).run P w = .ok news.toArray w:=by
 rcases h with rfl|⟨i,rfl,h⟩
 ·cases e with
  | none=>exact run_firstCells_none (P:=P) (w:=w) size m len cap
  | some a=>exact run_firstCells_some (P:=P) w size m a len cap [] hl (by simp)
 ·exact run_firstCells_some (P:=P) w size m i len cap news hl h
section
variable {α:Type} {T:TypeId} {enc:α -> List Value} {sz:Nat} {w0 w:World} {As:List HP} {P:Program}
theorem lT {t u ty:TypeId}{d:TypeId}{ti:TypeInfo}{sb xb:Option Addr}{sc xc m:Nat}{l e:List α}(H:St w0 (Sl T enc sz sb sc l::As) w)(he:wj enc sz)
  (ht:P.underlying t=some (.slice T)) (hu:P.underlying u=some (.slice d)) (hi:P.info? T=some ti) (D:ti.size=sz) {z:Value} (hz:ti.zero=some z) (a7:z.cells.size=sz)
  (hm:m=e.length) (hr:Rd w xb (e.flatMap enc)) (F:l.length+e.length<=maxLen) (a2:(l.length+e.length)*ti.bytes<=140737488355328) :
  ∃ sb' sc' w',(Builtin.append_ #[t,u] ty #[.slice sb l.length sc,.slice xb m xc]).run P w = .ok (.slice sb' (l++e).length sc') w'/\St w0 (Sl T enc sz sb' sc' (l++e)::As) w':=by
 subst hm;have A:(e.flatMap enc).length=e.length*sz:=yi he e;have y:(l.flatMap enc).length=l.length*sz:=yi he l;have O:(l++e).flatMap enc=l.flatMap enc++e.flatMap enc:=by simp
 have a1:¬ (9223372036854775807<((l.length:Int)+(e.length:Int))):=by simp only[maxLen] at F;omega
 by_cases x:l.length+e.length<=sc
 ·rcases H.kL with ⟨rfl,rfl,rfl⟩|⟨b,off,cs,rfl,H1,h1,h2,h3,h4⟩
  ·have hy:e=[]:=List.eq_nil_of_length_eq_zero (by simpa using x);subst hy;refine⟨none,0,w,?_,H⟩;have hf:=qm (P:=P) (size:=ti.size) (m:=0) (len:=0) (cap:=xc) hr (by simp);simp only[List.flatMap_nil] at hf;simp[Builtin.append_,xB P ht,xB P hu,sizeOf,typeInfo,hi,Builtin.lenOf,hf]
  ·have hb:=H1.one 0 rfl;have B:off+l.length*sz+0+(e.flatMap enc).length<=cs.size:=by
    rw[A];have:(l.length+e.length)*sz<=sc*sz:=Nat.mul_le_mul_right _ x;rw[Nat.add_mul] at this;omega
   have W:=run_storeCells_at P b (off+l.length*sz) T (e.flatMap enc) 0 cs w hb B (qe he e);simp only[Nat.add_zero] at W B;have I:=B;rw[A] at I;refine⟨some ⟨b,off,none⟩,sc,w.setRow b (cs.toList.take (off+l.length*sz)++e.flatMap enc++cs.toList.drop (off+l.length*sz+(e.flatMap enc).length)).toArray,?_,?_⟩
   ·have hf:=qm (P:=P) (size:=ti.size) (m:=e.length) (len:=e.length) (cap:=xc) hr (by rw[A,D]);have X:(storeCells ((⟨b,off,none⟩:Addr).add (l.length*ti.size)) (e.flatMap enc) 0).run P w = .ok () (w.setRow b (cs.toList.take (off+l.length*sz)++e.flatMap enc++cs.toList.drop (off+l.length*sz+(e.flatMap enc).length)).toArray):=by
     rw[vH,D];exact W
    simp[Builtin.append_,xB P ht,xB P hu,sizeOf,typeInfo,hi,Builtin.lenOf,x,hf,X]
   ·have Y:=H1.set (o':=.cells (cs.toList.take (off+l.length*sz)++e.flatMap enc++cs.toList.drop (off+l.length*sz+(e.flatMap enc).length)).toArray T (0,0)) (setRow_os _ _ _) (setRow_tape _ _ _) (setRow_output _ _ _) (setRow_heap w b cs _ T (0,0) hb) (fun c hc=>setRow_other w b c _ hc);refine Y.head fun h hh=>.inr ⟨b,off,_,rfl,hh,by simpa using x,h2,?_,?_⟩
    ·simp only[List.size_toArray,lA,List.length_take,List.length_drop,Array.length_toList];omega
    ·intro i J;simp only[lA,Nat.add_mul] at J;rw[O];simp only[List.getElem?_toArray];by_cases U:i<l.length*sz
     ·rw[aA,List.getElem?_append_left (by simp only[List.length_take,Array.length_toList];omega),List.getElem?_take,if_pos (by omega),List.getElem?_append_left (by rw[y];exact U)];rw[<- h4 i U];simp
     ·rw[List.getElem?_append_left (by simp only[lA,List.length_take,Array.length_toList,A];omega),List.getElem?_append_right (by simp only[List.length_take,Array.length_toList];omega),List.getElem?_append_right (by rw[y];omega)];congr 1;simp only[List.length_take,Array.length_toList,y];omega
 ·have b0:0<e.length:=by
   have:=(H.ot 0 rfl).1;omega
  have a0:¬ (281474976710656<Builtin.nextslicecap (l.length+e.length) sc*ti.bytes):=by
   have:=growslice_fits (need:=l.length+e.length) (old:=sc) (by omega) a2;omega
  have a5:=grownCap_ge w (l.length+e.length) sc T;have a3:=grownCap_le_maxLen w (l.length+e.length) sc T F;have a6:Rd w.drew xb (e.flatMap enc):=by
   rcases hr with h|⟨xa,h1,h2⟩
   ·exact .inl h
   ·exact .inr ⟨xa,h1,by simpa using h2⟩
  have hf:=qm (P:=P) (size:=ti.size) (m:=e.length) (len:=e.length) (cap:=xc) a6 (by rw[A,D]);have a4:(Builtin.firstCells ti.size l.length (.slice sb l.length sc)).run P w.drew = .ok (l.flatMap enc).toArray w.drew:=by
   refine qm ?_ (by rw[y,D]);rcases H.kL with ⟨_,rfl,_⟩|⟨b,off,cs,rfl,H1,h1,h2,h3,h4⟩
   ·exact .inl rfl
   ·refine .inr ⟨_,rfl,fun j u hj=>?_⟩;have S:=(List.getElem?_eq_some_iff.1 hj).1;rw[y] at S;have:=h4 j S;rw[hj] at this;have Z:w.drew.heap[b]? = some (.cells cs T (0,0)):=H1.one 0 rfl;simp[World.cell?,vH,Z,this]
  refine⟨some ⟨w.heap.size,0,none⟩,grownCap w (l.length+e.length) sc T,w.drew.alloc (.cells ((l.flatMap enc).toArray++(e.flatMap enc).toArray++Builtin.zeroCells z.cells (grownCap w (l.length+e.length) sc T - (l.length+e.length))) T),?_,?_⟩
  ·have hn:¬ (l.length+e.length<=sc):=x;simp[Builtin.append_,xB P ht,xB P hu,sizeOf,typeInfo,zeroValue,hi,hz,Builtin.lenOf,hn,a1,a0,Question.forced,hf,a4,newRow,grownCap];congr 2;apply Array.ext';simp[aA]
  ·have Y:=(H.drop.drew).alloc (.cells ((l.flatMap enc).toArray++(e.flatMap enc).toArray++Builtin.zeroCells z.cells (grownCap w (l.length+e.length) sc T - (l.length+e.length))) T (0,0));refine St.slOf (b:=w.heap.size) Y he (by simpa using a5) a3 ?_ ?_
   ·simp only[Array.size_append,List.size_toArray,size_zeroCells,a7,A,y,<- Nat.add_mul];refine Nat.mul_le_mul_right _ ?_;omega
   ·intro i J;simp only[lA,Nat.add_mul] at J;rw[O];rw[Array.getElem?_append_left (by simp only[Array.size_append,List.size_toArray,A,y];omega)];simp
theorem OpTo.append {n:Nat}{a:Act}{L:Env}{o:Oper}{x y:Operand}{t u:TypeId}{d:TypeId}{ti:TypeInfo}{sb J:Option Addr}{sc xc m:Nat}{l:List α}(e:List α)(F:zZ n a L)(H:St w0 (Sl T enc sz sb sc l::As) w)(he:wj enc sz)
  (I:o.op = .call { callee:=.builtin .append,args:=#[x,y],argTypes:=#[t,u] }) (S:evO L x=some (.slice sb l.length sc)) (U:evO L y=some (.slice J m xc))
  (ht:P.underlying t=some (.slice T)) (hu:P.underlying u=some (.slice d)) (hi:P.info? T=some ti) (B:ti.size=sz) {z:Value} (hz:ti.zero=some z) (D:z.cells.size=sz)
  (hm:m=e.length) (hr:Rd w J (e.flatMap enc)) (i:l.length+e.length<=maxLen) (A:(l.length+e.length)*ti.bytes<=140737488355328) :
  OpTo P o a w fun v w'=>∃ sb' sc',v = .slice sb' (l++e).length sc'/\St w0 (Sl T enc sz sb' sc' (l++e)::As) w':=by
 obtain⟨dst,op,type,pos,after,guard⟩:=o;simp only at I;subst I;obtain⟨sb',sc',w',j,O⟩:=lT (P:=P) (ty:=type) (xc:=xc) H he ht hu hi B hz D hm hr i A;refine OpTo.of_run ?_ ⟨sb',sc',rfl,O⟩;simp[execOp,resolve,invoke,builtin,F.eval S,F.eval U,j]
end
def w64 (x:Int):Int:=IntKind.i64.wrap x
def mIdx {α:Type}(l:List α)(i:Int):Option α:=if 0<=i then l[i.toNat]? else none
def mSet {α:Type}(l:List α)(i:Int)(x:α):List α:=l.set i.toNat x
def mApp {α:Type}(l e:List α):Option (List α):=if l.length+e.length<=1073741824 then some (l++e) else none
def mCut {α:Type}(l:List α)(lo hi:Int):Option (List α):=if 0<=lo/\lo<=hi/\hi<=l.length then some ((l.take hi.toNat).drop lo.toNat) else none
def ecI (x:Int):List Value:=[.int .i64 x]
theorem xZ:wj ecI 1:=⟨fun _=>rfl,fun x u hu=>by simp[ecI] at hu;subst hu;rfl⟩
theorem oD {α:Type}{l:List α}{i:Int}{x:α}(h:mIdx l i=some x):(0<=i/\i<(l.length:Int))/\l[i.toNat]? = some x:=by
 unfold mIdx at h;split at h
 ·rename_i h0;refine⟨⟨h0,?_⟩,h⟩;have:=(List.getElem?_eq_some_iff.1 h).1;omega
 ·cases h
theorem dy {α:Type}{l e r:List α}(h:mApp l e=some r):r=l++e/\l.length+e.length<=1073741824:=by
 unfold mApp at h;split at h
 ·cases h;exact⟨rfl,by assumption⟩
 ·cases h
theorem u3 {α:Type}{l r:List α}{lo hi:Int}(h:mCut l lo hi=some r):(0<=lo/\lo<=hi/\hi<=l.length)/\r=(l.take hi.toNat).drop lo.toNat:=by
 unfold mCut at h;split at h
 ·cases h;exact⟨by assumption,rfl⟩
 ·cases h
theorem oJ {α:Type}(l:List α)(i:Int)(x:α):(mSet l i x).length=l.length:=by simp[mSet]
theorem bind_some {α β:Type}{x:Option α}{f:α -> Option β}{r:β}(h:x.bind f=some r):∃ y,x=some y/\f y=some r:=by
 cases x with
 | none=>cases h
 | some y=>exact⟨y,rfl,h⟩
theorem uF {α:Type}{b:Bool}{x y z:α}(c:b=true)(h:cond b x y=z):x=z:=by subst c;exact h
theorem uE {α:Type}{b:Bool}{x y z:α}(c:b=false)(h:cond b x y=z):y=z:=by subst c;exact h
theorem zZ.sel {n:Nat}{a:Act}{L Lo:Env}(e:zZ n a L)(ks:List Nat)(h:Th.sel ks L=some Lo):zZ n a Lo:=s5 e h
theorem Runs.join {P:Program}{f:FuncId}{c:Code}{k:List Item}{a:Act}{w:World}{R:Value->World->Prop}(J:Act->World->Prop)
  (h1:(∀ a w,J a w->Runs P f k a w R)->Runs P f (.code c::k) a w R) (h2:∀ a w,J a w->Runs P f k a w R):Runs P f (.code c::k) a w R:=h1 h2
section
variable {α:Type} {T:TypeId} {enc:α -> List Value} {sz:Nat} {w0 w:World} {As:List HP} {P:Program}
theorem ie {x':α}(he:wj enc sz):∀ (l:List α) (j:Nat) (q:Nat) (vs:List Value),(hj:j<l.length)->enc x'=putAt (enc l[j]) q vs->q+vs.length<=sz ->
  (l.set j x').flatMap enc=putAt (l.flatMap enc) (j*sz+q) vs
 | [],j,q,vs,hj,h,hq=>by simp at hj
 | x::l,0,q,vs,hj,h,hq=>by
  simp only[List.getElem_cons_zero] at h;simp only[List.set_cons_zero,List.flatMap_cons,Nat.zero_mul,Nat.zero_add];rw[h,ue _ _ _ (by rw[he.len];omega),ue _ _ _ (by rw[lA,he.len];omega)];rw[List.take_append_of_le_length (by rw[he.len];omega),List.drop_append_of_le_length (by rw[he.len];omega)];simp[aA]
 | x::l,j+1,q,vs,hj,h,hq=>by
  simp only[List.getElem_cons_succ] at h;simp only[List.set_cons_succ,List.flatMap_cons];have i:j<l.length:=by simpa using hj
  rw[ie he l j q vs i h hq];have hl:(l.flatMap enc).length=l.length*sz:=yi he l;have t:(j+1)*sz<=l.length*sz:=Nat.mul_le_mul_right _ i;rw[Nat.succ_mul] at t;have e:(j+1)*sz+q=(enc x).length+(j*sz+q):=by rw[he.len,Nat.succ_mul];omega
  rw[ue _ _ _ (by rw[hl];omega),e,ue _ _ _ (by rw[lA,hl,Nat.add_assoc];omega)];rw[List.take_append,List.drop_append];have u:(enc x).length+(j*sz+q) - (enc x).length=j*sz+q:=by omega
  have y:(enc x).length+(j*sz+q)+vs.length - (enc x).length=j*sz+q+vs.length:=by omega
  rw[u,y,List.take_of_length_le (l:=enc x) (by omega),List.drop_of_length_le (l:=enc x) (by omega)];simp[aA]
theorem OpTo.lW {n:Nat}{a:Act}{L:Env}{o:Oper}{b off q:Nat}{t:TypeId}{sb:Option Addr}{sc:Nat}{l:List α}{z:Int}{x x':α}{Y Z:Operand}{v:Value}{ti:TypeInfo}(hE:zZ n a L)(H:St w0 (Sl T enc sz sb sc l::As) w)(he:wj enc sz)
  (ho:vO o.op=some (t,Y,Z)) (U:sb=some ⟨b,off,none⟩) (D:mIdx l z=some x) (hx:evO L Y=some (.pointer (some ⟨b,off+z.toNat*sz+q,none⟩))) (hy:evO L Z=some v) (hi:P.info? t=some ti) (hs:ti.size=v.cells.size) (h1:qP v.cells.toList=true)
  (hq:q+v.cells.size<=sz) (X:enc x'=putAt (enc x) q v.cells.toList):OpTo P o a w fun _ w'=>St w0 (Sl T enc sz sb sc (mSet l z x')::As) w':=by
 subst U;obtain⟨hb,hg⟩:=oD D;obtain⟨F,J⟩:=List.getElem?_eq_some_iff.1 hg;rcases H.kL with ⟨h,_⟩|⟨b',a0,cs,e,H1,h3,h4,h5,h6⟩
 ·cases h
 ·cases e;have hmul:(z.toNat+1)*sz<=l.length*sz:=Nat.mul_le_mul_right _ F;have S:l.length*sz<=sc*sz:=Nat.mul_le_mul_right _ h3;rw[Nat.succ_mul] at hmul;have B:St w0 (Blk b T cs.toList::As) w:=by simpa[Blk] using H1
  have W:=OpTo.store (P:=P) (o:=o) (b:=b) (off:=off+z.toNat*sz+q) (cs:=cs.toList) hE B ho hx hy hi hs h1 (by simp;omega);refine W.mono fun u w' H2=>?_
  refine H2.head fun h hh=>.inr ⟨b,off,_,rfl,hh,by simpa[mSet] using h3,h4,by simp[rV];omega,fun i A=>?_⟩
  have hlen:(mSet l z x').length=l.length:=by simp[mSet]
  rw[hlen] at A;have y:v.cells.toList.length=v.cells.size:=by simp
  have I:=ie he l z.toNat q v.cells.toList F (by rw[J];exact X) (by rw[y];exact hq);have O:(l.flatMap enc).length=l.length*sz:=yi he l;unfold mSet;rw[I];simp only[List.getElem?_toArray];rw[ue _ _ _ (by simp;omega),ue _ _ _ (by rw[O,y];omega)];have hcs:∀ j,j<l.length*sz->cs.toList[off+j]? = (l.flatMap enc)[j]?:=fun j hj=>by rw[<- h6 j hj];simp
  have a7:cs.toList.length=cs.size:=by simp
  by_cases c1:i<z.toNat*sz+q
  ·rw[aA,aA,List.getElem?_append_left (by rw[List.length_take];omega),List.getElem?_append_left (by rw[List.length_take];omega),List.getElem?_take,List.getElem?_take,if_pos (by omega),if_pos c1];exact hcs i A
  ·by_cases c2:i<z.toNat*sz+q+v.cells.size
   ·rw[List.getElem?_append_left (by simp only[lA,List.length_take,y];omega),List.getElem?_append_right (by rw[List.length_take];omega),
     List.getElem?_append_left (by simp only[lA,List.length_take,y];omega),List.getElem?_append_right (by rw[List.length_take];omega)]
    congr 1;rw[List.length_take,List.length_take];omega
   ·rw[List.getElem?_append_right (by simp only[lA,List.length_take,y];omega),List.getElem?_append_right (by simp only[lA,List.length_take,y];omega),List.getElem?_drop,List.getElem?_drop];have e1:off+z.toNat*sz+q+v.cells.toList.length+(off+i - (List.take (off+z.toNat*sz+q) cs.toList++v.cells.toList).length)=off+i:=by
     simp only[lA,List.length_take,y];omega
    have e2:z.toNat*sz+q+v.cells.toList.length+(i - (List.take (z.toNat*sz+q) (l.flatMap enc)++v.cells.toList).length)=i:=by
     simp only[lA,List.length_take,y];omega
    rw[e1,e2];exact hcs i A
end
def SlRd {α:Type}(X:HP)(enc:α -> List Value)(sz:Nat)(sb:Option Addr)(l:List α):Prop :=
 ∀ h,X h->l=[] \/ ∃ b off cs T fr,sb=some ⟨b,off,none⟩/\h b=some (.cells cs T fr) /\ ∀ i,i<l.length*sz->cs[off+i]? = (l.flatMap enc)[i]?
section
variable {α:Type} {T:TypeId} {enc:α -> List Value} {sz:Nat} {w0 w:World} {As:List HP} {P:Program}
theorem wZ (T:TypeId)(enc:α -> List Value)(sz:Nat)(sb:Option Addr)(sc:Nat)(l:List α):SlRd (Sl T enc sz sb sc l) enc sz sb l:=by
 rintro h (⟨_,hl,_⟩|⟨b,off,cs,e,i,_,_,_,j⟩)
 ·exact .inl hl
 ·exact .inr ⟨b,off,cs,T,(0,0),e,i,j⟩
theorem SlRd.all {X:HP}{sb:Option Addr}{l:List α}(hX:SlRd X enc sz sb l)(he:wj enc sz)(H:St w0 As w)(i:Nat)(hi:As[i]? = some X):Rd w sb (l.flatMap enc):=by
 obtain⟨h1,hs,h⟩:=H.at i hi;rcases hX h1 h with rfl|⟨b,off,cs,T,fr,rfl,x,y⟩
 ·exact .inl rfl
 ·refine .inr ⟨_,rfl,fun j u hj=>?_⟩;have t:=(List.getElem?_eq_some_iff.1 hj).1;rw[yi he] at t;have e:=hs _ _ x;simp only[hpOf] at e;have:=y j t;rw[hj] at this;simp[vH,World.cell?,e,this]
theorem SlRd.idx {X:HP}{sb:Option Addr}{l:List α}(hX:SlRd X enc sz sb l)(he:wj enc sz)(H:St w0 As w)(i:Nat)(hi:As[i]? = some X){t:Int}{x:α}(J:mIdx l t=some x) :
  ∃ b off,sb=some ⟨b,off,none⟩/\(0<=t/\t<(l.length:Int)) /\ ∀ q v,(enc x)[q]? = some v->w.cell? ⟨b,off+t.toNat*sz+q,none⟩=some v:=by
 obtain⟨D,I⟩:=oD J;obtain⟨j,A⟩:=List.getElem?_eq_some_iff.1 I;rcases hX.all he H i hi with h|⟨O,B,F⟩
 ·obtain⟨h1,hs,hh⟩:=H.at i hi;rcases hX h1 hh with rfl|⟨b,off,cs,T,fr,rfl,y,z⟩
  ·simp at j
  ·refine⟨b,off,rfl,D,fun q v hv=>?_⟩;have hq:q<sz:=by have:=(List.getElem?_eq_some_iff.1 hv).1;rw[he.len] at this;exact this
   have:=yi he l;rw[h] at this;have h2:(t.toNat+1)*sz<=l.length*sz:=Nat.mul_le_mul_right _ j;rw[Nat.succ_mul] at h2;simp at this;omega
 ·obtain⟨h1,hs,hh⟩:=H.at i hi;rcases hX h1 hh with rfl|⟨b,off,cs,T,fr,u,y,z⟩
  ·simp at j
  ·refine⟨b,off,u,D,fun q v hv=>?_⟩;rw[B] at u;cases u;have hq:q<sz:=by have:=(List.getElem?_eq_some_iff.1 hv).1;rw[he.len] at this;exact this
   have e:=F (t.toNat*sz+q) v (by rw[u4 he l _ _ j hq,A];exact hv);rw[vH,<- Nat.add_assoc] at e;exact e
theorem SlRd.cut {X:HP}{sb:Option Addr}{l r:List α}{sc lo:Nat}{hi:Nat}(hX:SlRd X enc sz sb l)(he:wj enc sz)(h1:lo<=hi)(h2:hi<=l.length)(h3:hi<=sc)(hr:r=(l.take hi).drop lo):SlRd X enc sz (yt sb sc lo sz) r:=by
 intro h hh;subst hr;rcases hX h hh with rfl|⟨b,off,cs,T,fr,rfl,B,D⟩
 ·exact .inl (by simp)
 ·by_cases hz:hi - lo=0
  ·left;apply List.eq_nil_of_length_eq_zero;simp;omega
  ·right
   have hlen:((l.take hi).drop lo).length=hi - lo:=by simp[Nat.min_eq_left h2]
   have t:¬ sc=lo:=by omega
   refine⟨b,off+lo*sz,cs,T,fr,by simp[yt,t,vH],B,fun i e=>?_⟩;rw[hlen] at e;have u:0<sz:=by
    rcases Nat.eq_zero_or_pos sz with h|h
    ·subst h;simp at e
    ·exact h
   have hj:i / sz<hi - lo:=Nat.div_lt_of_lt_mul (by rw[Nat.mul_comm];exact e);have hq:i % sz<sz:=Nat.mod_lt _ u;have j:(i / sz)*sz+i % sz=i:=by rw[Nat.mul_comm];exact Nat.div_add_mod i sz
   have x:=u4 he ((l.take hi).drop lo) (i / sz) (i % sz) (by rw[hlen];exact hj) hq;have y:=u4 he l (lo+i / sz) (i % sz) (by omega) hq;have z:((l.take hi).drop lo)[i / sz]'(by rw[hlen];exact hj)=l[lo+i / sz]'(by omega):=by simp
   rw[z,j] at x;have A:(lo+i / sz)*sz+i % sz=lo*sz+i:=by rw[Nat.add_mul];omega
   rw[A] at y;rw[x,<- y,Nat.add_assoc];refine D _ ?_;have F:lo*sz+(hi - lo)*sz=hi*sz:=by rw[<- Nat.add_mul];congr 1;omega
   have I:hi*sz<=l.length*sz:=Nat.mul_le_mul_right _ h2;omega
theorem OpTo.rK {n:Nat}{a:Act}{L:Env}{o:Oper}(u:zZ n a L)(H:St w0 As w)(he:wj enc sz)(xs:List α){cs:Array Value}{m:Nat}
  (j:(!rf o.op && lJ L o.op.operands.toList)=true) (hr:∀ r,sA P (execOp (rho L) o) [] r=some (.cells cs T (0,0),.value (.slice (some ⟨r,0,none⟩) m m),[])) (hm:m=xs.length) (e:Nat.ble m 1000000=true) (l:cs.toList=xs.flatMap enc) :
  OpTo P o a w fun v w'=>∃ r:Nat,v = .slice (some ⟨r,0,none⟩) xs.length m/\St w0 (Sl T enc sz (some ⟨r,0,none⟩) m xs::As) w':=by
 have h:=OpTo.new (P:=P) u H [] (.cells cs T (0,0)) (fun r=>.slice (some ⟨r,0,none⟩) m m) j hr trivial;refine h.mono ?_;rintro v w' ⟨r,rfl,t⟩;have x:=Nat.le_of_ble_eq_true e;have y:cs.size=m*sz:=by rw[<- Array.length_toList,l,yi he,hm]
 subst hm;exact⟨r,rfl,St.slOf t he (Nat.le_refl _) (by unfold maxLen;omega) (by omega) fun i hi=>by rw[<- l];simp⟩
theorem St.dc {sb sb':Option Addr}{sc sc':Nat}{l r:List α}{lo hi:Int}(H:St w0 (Sl T enc sz sb sc l::As) w)(he:wj enc sz)(hr:mCut l lo hi=some r)(h1:yt sb sc lo.toNat sz=sb')(h2:sc - lo.toNat=sc') :
  St w0 (Sl T enc sz sb' sc' r::As) w:=by
 obtain⟨⟨h3,h4,e⟩,rfl⟩:=u3 hr;subst h1;subst h2;exact H.BM he lo.toNat hi.toNat (by omega) (by omega)
theorem qz {l r:List α}{lo hi:Int}(hr:mCut l lo hi=some r):hi.toNat - lo.toNat=r.length:=by
 obtain⟨⟨h3,h4,e⟩,rfl⟩:=u3 hr;simp;omega
theorem cf {l r:List α}{lo hi:Int}(hr:mCut l lo hi=some r):0<=lo/\lo<=(hi.toNat:Int):=by
 obtain⟨⟨h3,h4,e⟩,rfl⟩:=u3 hr;omega
theorem lu {α:Type}{l r:List α}{lo:Int}{n:Nat}(hr:mCut l lo (n:Int)=some r):0<=lo/\lo<=(n:Int):=by
 have:=cf hr;simpa using this
theorem dE {α:Type}{l r:List α}{lo hi:Int}{sc sc':Nat}(hr:mCut l lo hi=some r)(j:l.length<=sc)(h:sc - lo.toNat=sc'):r.length<=sc':=by
 have e:=qz hr;obtain⟨⟨h3,h4,i⟩,_⟩:=u3 hr;omega
theorem jv {l r:List α}{lo hi:Int}{sc:Nat}(hr:mCut l lo hi=some r)(i:l.length<=sc):0<=hi/\hi<=(sc:Int):=by
 obtain⟨⟨h3,h4,e⟩,rfl⟩:=u3 hr;omega
theorem SlRd.cut' {X:HP}{sb sb':Option Addr}{l r:List α}{sc:Nat}{lo hi:Int}(hX:SlRd X enc sz sb l)(he:wj enc sz)(hr:mCut l lo hi=some r)(j:l.length<=sc)(h1:yt sb sc lo.toNat sz=sb'):SlRd X enc sz sb' r:=by
 obtain⟨⟨h3,h4,i⟩,e⟩:=u3 hr;subst h1;exact hX.cut he (by omega) (by omega) (by omega) e
end
def mNz (x:Int):Option Unit:=if x≠0 then some () else none
def mNn (x:Int):Option Unit:=if 0<=x then some () else none
theorem aa {x:Int}{u:Unit}(h:mNz x=some u):x≠0:=by
 unfold mNz at h;split at h
 ·assumption
 ·cases h
theorem bX {x:Int}{u:Unit}(h:mNn x=some u):0<=x:=by
 unfold mNn at h;split at h
 ·assumption
 ·cases h
def ecB (x:Bool):List Value:=[.bool x]
theorem Ae:wj ecB 1:=⟨fun _=>rfl,fun x u hu=>by simp[ecB] at hu;subst hu;rfl⟩
theorem zZ.dec {n:Nat}{a:Act}{L:Env}{b c:Bool}(e:zZ n a L)(d:Nat)(h:b=c)(hl:look d L=some (.bool b)):zZ n a ((d,.bool c)::L):=by
 subst h;refine⟨e.size,e.defers,fun t v hv=>?_⟩;rw[wR] at hv;split at hv
 ·subst_vars;cases hv;exact e.has _ _ hl
 ·exact e.has _ _ hv
section
variable {α:Type} {T:TypeId} {enc:α -> List Value} {sz:Nat} {w0 w:World} {As:List HP} {P:Program}
theorem SlRd.base {X:HP}{sb:Option Addr}{l:List α}(hX:SlRd X enc sz sb l)(he:wj enc sz)(H:St w0 As w)(i:Nat)(hi:As[i]? = some X){e:Int}{x:α}(j:mIdx l e=some x) :
  ∃ b off,sb=some ⟨b,off,none⟩/\(0<=e/\e<(l.length:Int)):=by
 obtain⟨b,off,h1,h2,_⟩:=hX.idx he H i hi j;exact⟨b,off,h1,h2⟩
theorem SlRd.cells {X:HP}{sb:Option Addr}{l:List α}(hX:SlRd X enc sz sb l)(he:wj enc sz)(H:St w0 As w)(i:Nat)(hi:As[i]? = some X){b off:Nat}(hs:sb=some ⟨b,off,none⟩){e:Int}{x:α}(t:mIdx l e=some x)
  (q:Nat) (v:Value) (hv:(enc x)[q]? = some v):w.cell? ⟨b,off+e.toNat*sz+q,none⟩=some v:=by
 obtain⟨u,j,h1,h2,h3⟩:=hX.idx he H i hi t;rw[hs] at h1;cases h1;exact h3 q v hv
theorem OpTo.tj {n:Nat}{a:Act}{L:Env}{o:Oper}{x y:Operand}{t u:TypeId}{d:TypeId}{ti:TypeInfo}{sb D:Option Addr}{sc xc m:Nat}{l e r:List α}(hr:mApp l e=some r)(F:zZ n a L)(H:St w0 (Sl T enc sz sb sc l::As) w)(he:wj enc sz)
  (J:o.op = .call { callee:=.builtin .append,args:=#[x,y],argTypes:=#[t,u] }) (O:evO L x=some (.slice sb l.length sc)) (S:evO L y=some (.slice D m xc))
  (ht:P.underlying t=some (.slice T)) (hu:P.underlying u=some (.slice d)) (hi:P.info? T=some ti) (A:ti.size=sz) {z:Value} (hz:ti.zero=some z) (B:z.cells.size=sz)
  (hm:m=e.length) (j:Rd w D (e.flatMap enc)) (I:Nat.ble ti.bytes 131072=true) :
  OpTo P o a w fun v w'=>∃ sb' sc',v = .slice sb' r.length sc'/\St w0 (Sl T enc sz sb' sc' r::As) w':=by
 obtain⟨rfl,hle⟩:=dy hr;have i:=Nat.le_of_ble_eq_true I;refine OpTo.append e F H he J O S ht hu hi A hz B hm j (by unfold maxLen;omega) ?_
 calc (l.length+e.length)*ti.bytes<=1073741824*131072:=Nat.mul_le_mul hle i
  _<=140737488355328:=by decide
def mw (P:Program)(t:TypeId)(xs e:Array Value)(b:Bool):Prop:=∀ w,(Op.equal t (.agg xs) (.agg e)).run P w = .ok b w
theorem OpTo.eqS {n:Nat}{a:Act}{L:Env}{o:Oper}{x y:Operand}{t u:TypeId}{xs j:Array Value}{b:Bool}(e:zZ n a L)(i:o.op = .binOp .eql t x y u)(z:evO L x=some (.agg xs))(A:evO L y=some (.agg j))
  (l:P.eqGuardType P.depth t=false) (he:mw P t xs j b):OpTo P o a w fun v w'=>v = .bool b/\w'=w:=by
 obtain⟨dst,op,type,pos,after,guard⟩:=o;simp only at i;subst i;refine OpTo.of_run (w':=w) ?_ ⟨rfl,rfl⟩;simp[execOp,e.eval z,e.eval A,eqGuard,binOp,l,he w]
theorem OpTo.neS {n:Nat}{a:Act}{L:Env}{o:Oper}{x y:Operand}{t u:TypeId}{xs j:Array Value}{b:Bool}(e:zZ n a L)(i:o.op = .binOp .neq t x y u)(z:evO L x=some (.agg xs))(A:evO L y=some (.agg j))
  (l:P.eqGuardType P.depth t=false) (he:mw P t xs j b):OpTo P o a w fun v w'=>v = .bool (!b)/\w'=w:=by
 obtain⟨dst,op,type,pos,after,guard⟩:=o;simp only at i;subst i;refine OpTo.of_run (w':=w) ?_ ⟨rfl,rfl⟩;simp[execOp,e.eval z,e.eval A,eqGuard,binOp,l,he w]
end
theorem OpTo.fv {P:Program}{n:Nat}{a:Act}{L:Env}{w:World}{o:Oper}{x:Operand}{xs:List Operand}{g:FuncId}{vs cs:List Value}{i:Value->World->Prop}(j:zZ n a L)
  (t:callParts o.op=some (x,xs)) (u:evO L x=some (.func (.func g) #[] cs.toArray)) (e:qX L xs=some vs)
  (l:∀ args w,(callFunc g args).run P w = .ok (.enter g args) w) (h:xw P g (vs++cs).toArray w i):OpTo P o a w i :=
 OpTo.call j t u e l (by simpa using h)
def qE {α:Type}(l:List α)(i:Int)(v:List α):Option (List α):=if 0<=i/\i<=(l.length:Int)/\l.length+v.length<=1073741824 then some (l.take i.toNat++(v++l.drop i.toNat)) else none
def ko {α:Type}(l:List α):Option (List α):=if l.length<=1073741824 then some l else none
theorem jw {P:Program}{w:World}{d:Nat}{xs i:Array Value}{L:List Field}(e:L=[]):(Op.eqFields d xs i L).run P w = .ok true w:=by
 subst e;simp[Op.eqFields]
theorem tA {P : Program} {w : World} {d : Nat} {xs ys : Array Value} {L : List Field} {f : Field} {fs : List Field} {a b : Value} {r r' : Bool} (hL : L = f :: fs) (hn : (f.name == "_") = false)
  (pa:(part f.type xs f.offset).run P w = .ok a w) (pb:(part f.type ys f.offset).run P w = .ok b w) (he:(Op.equalIn d f.type a b).run P w = .ok r w) (hr:(Op.eqFields d xs ys fs).run P w = .ok r' w) :
  (Op.eqFields d xs ys L).run P w = .ok (r && r') w:=by
 subst hL;have hn' : f.name ≠ "_" := by simpa using hn
 simp only[Op.eqFields,hn',ne_eq,not_false_eq_true,if_true,Sem.run_bind,pa,pb,he,Result.andThen_ok];cases r <;> simp[hr]
theorem jx {P:Program}{w:World}(d:Nat){t:TypeId}{xs e:Array Value}{b:Bool}(ht:P.underlying t=some (.struct (P.fieldsOf t)))(hp:P.stoodInHeld t=false)(h:(Op.eqFields d xs e (P.fieldsOf t).toList).run P w = .ok b w) :
  (Op.equalIn (d+1) t (.agg xs) (.agg e)).run P w = .ok b w:=by rw[run_equalIn_struct w d t xs e ht hp,h]
def sa (i n:Nat):Option Unit:=if i=n then some () else none
theorem eU {i n:Nat}{u:Unit}(h:sa i n=some u):i=n:=by
 unfold sa at h;split at h
 ·assumption
 ·cases h
def mIn (i:Int)(n:Nat):Option Unit:=if 0<=i/\i<(n:Int) then some () else none
theorem lz {i:Int}{n:Nat}{u:Unit}(h:mIn i n=some u):0<=i/\i<(n:Int):=by
 unfold mIn at h;split at h
 ·assumption
 ·cases h
def gz {α:Type}(n:Int)(z:α):Option (List α):=if 0<=n/\n<=1073741824 then some (List.replicate n.toNat z) else none
theorem eD {α:Type}{n:Int}{z:α}{l:List α}(h:gz n z=some l):(0<=n/\n<=1073741824)/\l=List.replicate n.toNat z:=by
 unfold gz at h;split at h
 ·cases h;exact⟨by assumption,rfl⟩
 ·cases h
def bT (s:ByteArray)(i:Int):Option Int:=if 0<=i then (s[i.toNat]?).map fun u=>(u.toNat:Int) else none
theorem fL {s:ByteArray}{i c:Int}(h:bT s i=some c):0<=i /\ ∃ u,s[i.toNat]? = some u/\c=(u.toNat:Int):=by
 unfold bT at h;split at h
 ·obtain⟨u,hu,rfl⟩:=Option.map_eq_some_iff.1 h;exact⟨by assumption,u,hu,rfl⟩
 ·cases h
section
variable {α:Type} {T:TypeId} {enc:α -> List Value} {sz:Nat} {w0 w:World} {As:List HP} {P:Program}
theorem q5 {n:Int}(h0:0<=n)(h1:n<=1073741824):IntKind.i64.wrap n=n:=by
 unfold IntKind.wrap;simp only[IntKind.bits,IntKind.signed];have:n % 2 ^ 64=n:=Int.emod_eq_of_lt h0 (by omega);simp only[this];have h2:¬ (9223372036854775808<=n):=by omega
 simp;intro h3;exact absurd h3 h2
theorem OpTo.make {n:Nat}{a:Act}{L:Env}{o:Oper}{t:TypeId}{x:Operand}{m:Int}{z:α}{l:List α}{ti:TypeInfo}{y:Value}(hl:gz m z=some l)(hE:zZ n a L)(H:St w0 As w)(he:wj enc sz)(Y:o.op = .makeSlice t x x)(hx:evO L x=some (.int .i64 m))
  (ht:P.underlying t=some (.slice T)) (hi:P.info? T=some ti) (hs:ti.size=sz) (hz:ti.zero=some y) (X:y.cells.toList=enc z) (hb:Nat.ble ti.bytes 131072=true) :
  OpTo P o a w fun v w'=>∃ r:Nat,v = .slice (some ⟨r,0,none⟩) l.length l.length/\St w0 (Sl T enc sz (some ⟨r,0,none⟩) l.length l::As) w':=by
 obtain⟨⟨h0,h1⟩,rfl⟩:=eD hl;have I:=Nat.le_of_ble_eq_true hb;have hw:=q5 h0 h1;obtain⟨dst,op,type,pos,after,guard⟩:=o;simp only at Y;subst Y;obtain⟨k,rfl⟩:=Int.eq_ofNat_of_zero_le h0;have hk:k<=1073741824:=by omega
 have a2:ti.bytes*k<=281474976710656:=by
  calc ti.bytes*k<=131072*1073741824:=Nat.mul_le_mul I hk
   _<=281474976710656:=by decide
 have F:y.cells.size=sz:=by rw[<- Array.length_toList,X,he.len]
 let arr:Array Value:=(Array.range (k*ti.size)).map (y.cells[· % y.cells.size]!)
 have D:(Instr.makeSlice t (.int .i64 k) (.int .i64 k)).run P w = .ok (.slice (some ⟨w.heap.size,0,none⟩) k k) { w with heap:=w.heap.push (.cells arr T (0,0)) }:=by
  have U:¬ ((k:Int)<0):=by omega
  have W:¬ ((281474976710656:Int)<(ti.bytes:Int)*(k:Int)):=by
   rw[<- Int.natCast_mul];omega
  have j:∀ (w:World),(askRoom (k*ti.bytes)).run P w = .ok () w:=fun w=>by
   unfold askRoom;split <;> rfl
  by_cases hn:k*ti.size=0
  ·have A:arr = #[]:=by simp[arr,hn]
   simp[Instr.makeSlice,xB P ht,asInt,asIntOf,typeInfo,hi,hw,U,W,j,sB P hi,hn,newRow,A];have S:(Array.map (fun _=>(default:Value)) (Array.range 0)) = #[]:=Array.eq_empty_of_size_eq_zero (by simp);rw[S]
  ·simp[Instr.makeSlice,xB P ht,asInt,asIntOf,typeInfo,hi,hw,U,W,j,sB P hi,hn,newRow,zeroValue,hz,arr]
   try rfl
 refine OpTo.of_run (w':={ w with heap:=w.heap.push (.cells arr T (0,0)) }) (v:=.slice (some ⟨w.heap.size,0,none⟩) k k) ?_ ⟨w.heap.size,by simp,?_⟩
 ·simp[execOp,hE.eval hx,D]
 ·have Z:=H.alloc (.cells arr T (0,0));have:=St.slOf (l:=List.replicate k z) (sc:=k) Z he (by simp) (by unfold maxLen;omega) (by simp[arr,hs]) (fun i u=>by
   simp only[List.length_replicate] at u;have B:0<sz:=by
    rcases Nat.eq_zero_or_pos sz with h|h
    ·subst h;simp at u
    ·exact h
   have hj:i / sz<(List.replicate k z).length:=by simp;exact Nat.div_lt_of_lt_mul (by rw[Nat.mul_comm];exact u)
   have hq:i % sz<sz:=Nat.mod_lt _ B;have e:=u4 he (List.replicate k z) (i / sz) (i % sz) hj hq;have J:(i / sz)*sz+i % sz=i:=by rw[Nat.mul_comm];exact Nat.div_add_mod i sz
   rw[J] at e;rw[e];simp only[List.getElem_replicate];rw[<- X];simp only[arr,hs,F];have O:i % sz<y.cells.size:=by rw[F];exact hq
   rw[Array.getElem?_map,Array.getElem?_range];simp[u,O])
  simpa using this
end
section
open Go.Conc
variable {P:Program} {f:FuncId} {k:List Item} {a:Act} {w w0:World} {R:Value->World->Prop} {ops:Array Oper} {As:List HP} {n d c cap:Nat} {L:Env} {o:Oper} {buf:List Value}
end
end
noncomputable section
structure Pd where
 i:Nat
 o:Oper
 v:Value
 obs:List Ob
def Pd.T (u:Pd)(w:World):Prop:=xE w u.obs
def wh (e:Array Bool):List Pd->Array Bool
 | []=>e
 | u::U=>(wh e U).setIfInBounds u.i true
def uP (ar:Act):List Pd->Act
 | []=>ar
 | u::U=>(uP ar U).put u.o.dst u.v
def rU (o:Oper)(b:Array Bool):Prop:=∀ e∈o.after,Region.binds .any e=true->b.getD e.on false=true
def elN (i:Nat):List Nat->Bool
 | []=>false
 | x::l=>match Nat.beq i x with
  | true=>true
  | false=>elN i l
theorem fU {i:Nat}:∀ {l:List Nat},elN i l=true->i∈l
 | x::l,h=>by
  simp only[elN] at h;split at h
  ·rename_i e;rw[Nat.eq_of_beq_eq_true e];exact List.mem_cons_self
  ·exact mC _ (fU h)
def tM (o:Oper):List Nat:=(o.after.toList.filter (Region.binds .any)).map (·.on)
def ancS (ops:Array Oper):Nat->List Nat->List Nat->List Nat
 | 0,_,seen=>seen
 | n+1,[],seen=>seen
 | n+1,j::todo,seen=>match elN j seen with
  | true=>ancS ops n todo seen
  | false=>match ops[j]? with
   | none=>ancS ops n todo seen
   | some o=>ancS ops n (tM o++todo) (j::seen)
def anc (ops:Array Oper)(i j:Nat):Bool:=match ops[j]? with
 | some o=>elN i (ancS ops 4000 (tM o) [])
 | none=>false
def Closed (ops:Array Oper)(b:Array Bool):Prop:=∀ x o,ops[x]? = some o->b.getD x false=true->rU o b
theorem j5 {o:Oper}{b:Array Bool}(hp:rU o b):∀ x∈tM o,b.getD x false=true:=fun x i=>by
 simp only[tM,List.mem_map,List.mem_filter,Array.mem_toList_iff] at i;obtain⟨e,⟨he,j⟩,rfl⟩:=i;exact hp e he j
theorem lg {ops:Array Oper}{b:Array Bool}(t:Closed ops b):∀ (n:Nat) (todo seen:List Nat),(∀ x∈todo,b.getD x false=true)->(∀ x∈seen,b.getD x false=true) -> ∀ x∈ancS ops n todo seen,b.getD x false=true
 | 0,todo,seen,_,hs,x,e=>hs x (by simpa[ancS] using e)
 | n+1,[],seen,_,hs,x,e=>hs x (by simpa[ancS] using e)
 | n+1,j::todo,seen,ht,hs,x,e=>by
  have i:∀ x∈todo,b.getD x false=true:=fun y l=>ht y (mC _ l)
  have hj:=ht j List.mem_cons_self;simp only[ancS] at e;split at e
  ·exact lg t n todo seen i hs x e
  ·split at e
   ·exact lg t n todo seen i hs x e
   ·rename_i o u;refine lg t n _ _ (fun y l=>?_) (fun y l=>?_) x e
    ·rcases List.mem_append.1 l with h|h
     ·exact j5 (t j o u hj) y h
     ·exact i y h
    ·cases l with
     | head=>exact hj
     | tail _ hm=>exact hs y hm
theorem aZ {ops:Array Oper}{b:Array Bool}(e:Closed ops b)(i j:Nat)(o:Oper)(l:ops[j]? = some o)(hp:rU o b)(h:anc ops i j=true):b.getD i false=true:=by
 simp only[anc,l] at h;exact lg e _ _ _ (j5 hp) (by simp) _ (fU h)
def tb (m i:Nat):Bool:=match Nat.land (Nat.shiftRight m i) 1 with
 | 0=>false
 | _+1=>true
theorem jV (m i:Nat):tb m i=m.testBit i:=by
 have e:Nat.land (Nat.shiftRight m i) 1=(m >>> i) &&& 1:=rfl;unfold tb;rw[e,Nat.testBit,Nat.and_comm];cases h:1 &&& m >>> i <;> simp
def bitL (i m:Nat):Nat:=Nat.lor (Nat.shiftLeft 1 i) m
theorem cE (i m x:Nat):tb (bitL i m) x=true ↔ x=i \/ tb m x=true:=by
 have e:bitL i m=(1 <<< i) ||| m:=rfl;rw[jV,jV,e,Nat.testBit_or,Bool.or_eq_true];have:(1 <<< i).testBit x=true ↔ x=i:=by
  rw[Nat.one_shiftLeft,Nat.testBit_two_pow];simp[eq_comm]
 rw[this]
def vM:List Nat->Nat
 | []=>0
 | x::l=>bitL x (vM l)
theorem vp (x:Nat):∀ l:List Nat,tb (vM l) x=true ↔ x∈l
 | []=>by simp[vM,jV]
 | y::l=>by rw[vM,cE,vp x l,iC]
def subM (a b:Nat):Bool:=Nat.beq (Nat.land a b) a
theorem pN {l:List Nat}{m:Nat}:subM (vM l) m=true ↔ ∀ x∈l,tb m x=true:=by
 have e:Nat.land (vM l) m=vM l &&& m:=rfl;unfold subM;rw[e];refine Iff.trans ⟨Nat.eq_of_beq_eq_true,fun h=>by rw[h];exact Nat.beq_refl _⟩ ?_;constructor
 ·intro h x i;have h1:=(vp x l).2 i;rw[jV,<- h,Nat.testBit_and,Bool.and_eq_true] at h1;rw[jV];exact h1.2
 ·intro h;refine Nat.eq_of_testBit_eq fun x=>?_
  rw[Nat.testBit_and];cases i:(vM l).testBit x with
  | false=>rfl
  | true =>
   have:=h x ((vp x l).1 (by rw[jV];exact i));rw[jV] at this;rw[this];rfl
def pU (o:Oper):Nat:=vM (tM o)
def Au (ops:Array Oper)(o:Oper):Nat:=vM (o.looksAt ops)
def dneq (x y:Oper):Bool:=match x.dst,y.dst with
 | some d,some e=>match Nat.beq d e with
  | true=>false
  | false=>true
 | _,_=>true
def m7 (ops:Array Oper)(x y:Oper):Bool:=match x.dst with
 | some d=>match tb (Au ops y) d with
  | true=>false
  | false=>true
 | none=>true
def apP (ops:Array Oper)(i j:Nat)(x y:Oper):Bool:=Nat.beq i j || (dneq x y && (tb (pU y) i || tb (pU x) j || (m7 ops x y && m7 ops y x)))
def gf (ops:Array Oper)(i:Nat)(x:Oper):Nat->List Oper->Bool
 | _,[]=>true
 | j,y::l=>apP ops i j x y && gf ops i x (j+1) l
def fF (ops:Array Oper):Nat->List Oper->Bool
 | _,[]=>true
 | i,x::l=>gf ops i x 0 ops.toList && (tM x).all (fun e=>Nat.blt e ops.size) && fF ops (i+1) l
def sd (ops:Array Oper):Bool:=Region.noSelect ops && fF ops 0 ops.toList
theorem mz {ops:Array Oper}{i:Nat}{x:Oper}:∀ (l:List Oper) (j n:Nat) (y:Oper),gf ops i x j l=true->l[n]? = some y->apP ops i (j+n) x y=true
 | [],j,n,y,_,h=>by simp at h
 | z::l,j,0,y,h,e=>by
  simp only[gf,Bool.and_eq_true] at h;simp at e;subst e;exact h.1
 | z::l,j,n+1,y,h,e=>by
  simp only[gf,Bool.and_eq_true] at h;have:=mz l (j+1) n y h.2 (by simpa using e)
  rwa [Nat.add_right_comm,Nat.add_assoc] at this
theorem pS {ops:Array Oper}:∀ (l:List Oper) (i n:Nat) (x:Oper),fF ops i l=true->l[n]? = some x->gf ops (i+n) x 0 ops.toList=true /\ ∀ e∈tM x,e<ops.size
 | [],i,n,x,_,h=>by simp at h
 | z::l,i,0,x,h,j=>by
  simp only[fF,Bool.and_eq_true,List.all_eq_true] at h;simp at j;subst j;exact⟨h.1.1,fun e he=>by simpa[Nat.blt_eq] using h.1.2 e he⟩
 | z::l,i,n+1,x,h,j=>by
  simp only[fF,Bool.and_eq_true] at h;have:=pS l (i+1) n x h.2 (by simpa using j)
  rwa [Nat.add_right_comm,Nat.add_assoc] at this
theorem kh {x y:Oper}(h:dneq x y=true){d:Tmp}(e:x.dst=some d):y.dst≠some d:=by
 intro i;simp[dneq,e,i] at h
theorem qM {ops:Array Oper}{x y:Oper}(h:m7 ops x y=true){d:Tmp}(e:x.dst=some d):d ∉ y.looksAt ops:=by
 intro i;have:=(vp d (y.looksAt ops)).2 i;simp only[m7,e,Au,this] at h;cases h
theorem m3 {ops:Array Oper}(h:sd ops=true){i j:Nat}{x y:Oper}(l:ops[i]? = some x)(t:ops[j]? = some y)(e:i≠j) :
  dneq x y=true/\((tb (pU y) i=true \/ tb (pU x) j=true) \/ m7 ops x y=true/\m7 ops y x=true):=by
 simp only[sd,Bool.and_eq_true] at h;have h1:=(pS _ 0 i x h.2 (by simpa using l)).1;have h2:=mz _ 0 j y h1 (by simpa using t);simp only[apP,Bool.or_eq_true,Bool.and_eq_true,Nat.zero_add] at h2;rcases h2 with h2|h2
 ·exact absurd (Nat.eq_of_beq_eq_true h2) e
 ·exact h2
theorem dg {o:Oper}{i:Nat}:tb (pU o) i=true ↔ ∃ e∈o.after,Region.binds .any e=true/\e.on=i:=by
 rw[pU,vp,tM];simp only[List.mem_map,List.mem_filter,Array.mem_toList_iff];constructor
 ·rintro⟨e,⟨h1,h2⟩,h3⟩;exact⟨e,h1,h2,h3⟩
 ·rintro⟨e,h1,h2,h3⟩;exact⟨e,⟨h1,h2⟩,h3⟩
theorem rp {m i:Nat}{d:Bool}:∀ dn:List Nat,i<m->((listed m dn).getD i d=true ↔ i∈dn):=by
 suffices ∀ (dn:List Nat) (b:Array Bool),b.size=m->i<m->(((dn.foldl (fun b i=>b.setIfInBounds i true) b).getD i d=true) ↔ (b.getD i d=true \/ i∈dn)) by
  intro dn hi;have h:=this dn (Array.replicate m false) (by simp) hi;rw[listed,h];simp[hi]
 intro dn;induction dn with
 | nil=>intro b _ _;simp
 | cons x dn ih =>
  intro b j hi;rw[List.foldl_cons,ih _ (by simpa using j) hi];by_cases e:x=i
  ·subst e;simp[j,hi]
  ·rw[getD_set_ne d e];simp[Ne.symm e]
theorem gu {m i:Nat}{d:Bool}(dn:List Nat)(hi:m<=i):(listed m dn).getD i d=d:=by
 have hs:(listed m dn).size=m:=by
  unfold listed
  suffices ∀ b:Array Bool,(dn.foldl (fun b i=>b.setIfInBounds i true) b).size=b.size by simpa using this (Array.replicate m false)
  induction dn with
  | nil=>simp
  | cons x dn ih=>intro b;rw[List.foldl_cons,ih];simp
 simp[Array.getElem?_eq_none (hs ▸ hi)]
def vr (m:Nat):Nat->List Oper->List Nat
 | _,[]=>[]
 | i,x::l=>match tb m i with
  | true=>vr m (i+1) l
  | false=>match subM (pU x) m with
   | true=>i::vr m (i+1) l
   | false=>vr m (i+1) l
theorem oj {m j:Nat}:∀ (l:List Oper) (i:Nat),j∈vr m i l ↔ ∃ n x,l[n]? = some x/\j=i+n/\tb m j=false/\subM (pU x) m=true
 | [],i=>by simp[vr]
 | z::l,i=>by
  have ih:=oj (m:=m) (j:=j) l (i+1);have t:(∃ n x,(z::l)[n]? = some x/\j=i+n/\tb m j=false/\subM (pU x) m=true) ↔ (j=i/\tb m i=false/\subM (pU z) m=true) \/ j∈vr m (i+1) l:=by
   rw[ih];constructor
   ·rintro⟨n,x,e,hj,h1,h2⟩;cases n with
    | zero=>simp at e;subst e;left;exact⟨hj,by rw[hj] at h1;exact h1,h2⟩
    | succ n=>right;exact⟨n,x,by simpa using e,by omega,h1,h2⟩
   ·rintro (⟨rfl,h1,h2⟩|⟨n,x,e,hj,h1,h2⟩)
    ·exact⟨0,z,by simp,by simp,h1,h2⟩
    ·exact⟨n+1,x,by simpa using e,by omega,h1,h2⟩
  rw[t,vr];split
  ·rename_i h;simp[h]
  ·rename_i h;split
   ·rename_i h2;simp[h,h2]
   ·rename_i h2;simp[h2]
theorem nt {ops:Array Oper}(h:sd ops=true)(dn:List Nat)(j:Nat):j∈vr (vM dn) 0 ops.toList ↔ j∈Region.ready .any ops (listed ops.size dn):=by
 rw[oj,mem_ready];constructor
 ·rintro⟨n,x,t,hj,h1,h2⟩;have e:n=j:=by omega
  subst e;have u:ops[n]? = some x:=by simpa using t
  have i:n<ops.size:=(Array.getElem?_eq_some_iff.1 u).1;refine⟨?_,x,u,fun e he z=>?_⟩
  ·cases hh:(listed ops.size dn).getD n true with
   | false=>rfl
   | true =>
    have:=(vp n dn).2 ((rp dn i).1 hh);rw[this] at h1;cases h1
  ·simp only[sd,Bool.and_eq_true] at h;have l:e.on∈tM x:=by
    simp only[tM,List.mem_map,List.mem_filter,Array.mem_toList_iff];exact⟨e,⟨he,z⟩,rfl⟩
   have hl:=(pS _ 0 n x h.2 t).2 _ l;exact (rp dn hl).2 ((vp _ dn).1 (pN.1 h2 _ l))
 ·rintro⟨h1,x,t,h2⟩;have i:j<ops.size:=(Array.getElem?_eq_some_iff.1 t).1;refine⟨j,x,by simpa using t,by simp,?_,?_⟩
  ·cases hh:tb (vM dn) j with
   | false=>rfl
   | true =>
    have:=(rp (d:=true) dn i).2 ((vp j dn).1 hh);rw[this] at h1;cases h1
  ·refine pN.2 fun y A=>?_
   simp only[tM,List.mem_map,List.mem_filter,Array.mem_toList_iff] at A;obtain⟨e,⟨he,z⟩,rfl⟩:=A;have:=h2 e he z;rcases Nat.lt_or_ge e.on ops.size with hl|hl
   ·exact (vp _ dn).2 ((rp dn hl).1 this)
   ·rw[gu dn hl] at this;cases this
theorem dZ {ops:Array Oper}(h:sd ops=true){m i:Nat}{o:Oper}{dn:List Nat}(hm:∀ x,tb m x=true ↔ x∈dn)(e:ops[i]? = some o)(h1:tb m i=false)(h2:subM (pU o) m=true) :
  i∈Region.ready .any ops (listed ops.size dn):=by
 refine (nt h dn i).1 ((oj _ 0).2 ⟨i,o,by simpa using e,by simp,?_,?_⟩)
 ·cases hh:tb (vM dn) i with
  | false=>rfl
  | true=>rw[(hm i).2 ((vp i dn).1 hh)] at h1;cases h1
 ·exact pN.2 fun x j=>(vp x dn).2 ((hm x).1 (pN.1 h2 x j))
theorem m0 {ops:Array Oper}(h:sd ops=true){dn:List Nat}:vr (vM dn) 0 ops.toList=[] ↔ Region.ready .any ops (listed ops.size dn)=[]:=by
 rw[List.eq_nil_iff_forall_not_mem,List.eq_nil_iff_forall_not_mem];exact forall_congr' fun j=>not_congr (nt h dn j)
def lX (ops:Array Oper):List Nat->Nat->Bool
 | [],_=>true
 | i::is,m=>match ops[i]? with
  | none=>false
  | some o=>match tb m i with
   | true=>false
   | false=>match subM (pU o) m with
    | false=>false
    | true=>lX ops is (bitL i m)
section
variable {P:Program} {ops:Array Oper} {Q:Exit->Act->World->Prop}
def OkU (P:Program)(ops:Array Oper)(l:Array Bool)(ar:Act):List Pd->Prop
 | []=>True
 | u::U=>ops[u.i]? = some u.o/\(wh l U).getD u.i true=false/\rU u.o (wh l U)/\YieldsIf P ops u.T u.o u.v (uP ar U) /\
   (∀ j t,ops[j]? = some t->j≠u.i->(wh l U).getD j true=false->(∀ e∈t.after,Region.binds .any e=true->e.on≠u.i)->u.o.apart ops t=true)/\OkU P ops l ar U
theorem sQ {b:Array Bool}{i j:Nat}(h:(b.setIfInBounds i true).getD j true=false):b.getD j true=false:=by
 by_cases e:i=j
 ·subst e;rcases Nat.lt_or_ge i b.size with l|l
  ·simp[l] at h
  ·simp[Array.getElem?_eq_none l] at h
 ·rwa [getD_set_ne true e] at h
theorem nB {e:Array Bool}{j:Nat}:∀ {U:List Pd},(wh e U).getD j true=false->e.getD j true=false
 | [],h=>h
 | u::U,h=>nB (U:=U) (sQ h)
theorem rB {e:Array Bool}{j:Nat}(h:e.getD j false=true):∀ {U:List Pd},(wh e U).getD j false=true
 | []=>h
 | u::U=>getD_set_true (rB h)
theorem ou {b:Array Bool}{j:Nat}(h:b.getD j false=true)(h2:b.getD j true=false):False:=by
 rcases Nat.lt_or_ge j b.size with e|e
 ·simp[e] at h h2;rw[h2] at h;cases h
 ·simp[Array.getElem?_eq_none e] at h
theorem tG (e:Array Bool)(j:Nat):∀ U:List Pd,wh (e.setIfInBounds j true) U=(wh e U).setIfInBounds j true
 | []=>rfl
 | u::U=>by
  simp only[wh,tG e j U];by_cases h:u.i=j
  ·subst h;simp
  ·rw[Array.setIfInBounds_comm _ _ h]
theorem lf {u:Pd}{a:Act}{d:Option Tmp}{v:Value}(hs:Region.noSelect ops=true)(hu:ops[u.i]? = some u.o)(hd:∀ x,d=some x->x ∉ u.o.looksAt ops) :
  YieldsIf P ops u.T u.o u.v a ↔ YieldsIf P ops u.T u.o u.v (a.put d v) :=
 ⟨fun h=>h.of_same (execOp_put u.o (fun cs b=>Region.noSelect_spec hs u.i u.o cs b hu) a d v hd) (wanted_put u.o a d v hd),
  fun h=>h.of_same (execOp_put u.o (fun cs b=>Region.noSelect_spec hs u.i u.o cs b hu) a d v hd).symm (wanted_put u.o a d v hd).symm⟩
theorem lh {y:Array Bool}{ar:Act}{j:Nat}{z:Oper}(hj:ops[j]? = some z)(hp:rU z y):∀ {U:List Pd},OkU P ops y ar U->(wh y U).getD j true=false -> ∀ u∈U,u.o.apart ops z=true
 | [],_,_,u,hu=>by cases hu
 | x::U,h,l,u,hu=>by
  obtain⟨h1,h2,h3,h4,D,F⟩:=h;have B:j≠x.i:=by
   rintro rfl;have:x.i<ops.size:=(Array.getElem?_eq_some_iff.1 hj).1;simp only[wh] at l;rcases Nat.lt_or_ge x.i (wh y U).size with A|A
   ·simp[A] at l
   ·simp[Array.getElem?_eq_none A] at l
  have t:(wh y U).getD j true=false:=sQ l;cases hu with
  | head =>
   refine D j z hj B t fun e he I heq=>?_
   have:=hp e he I;rw[heq] at this;exact ou (rB (U:=U) this) h2
  | tail _ hm=>exact lh hj hp F t u hm
theorem qk {d:Option Tmp}{v:Value}(ar:Act):∀ (U:List Pd),(∀ u∈U,∀ x,u.o.dst=some x->d≠some x)->uP (ar.put d v) U=(uP ar U).put d v
 | [],_=>rfl
 | u::U,h=>by
  simp only[uP,qk ar U fun u hu=>h u (mC _ hu)];exact Act.put_comm _ v u.v fun x e=>by
   have:=h u (by simp);intro hd;exact this x hd e
theorem lL (hs:Region.noSelect ops=true){S:Array Bool}{ar:Act}{j:Nat}{t:Oper}(v:Value)(hj:ops[j]? = some t):∀ {U:List Pd},(∀ u∈U,u.o.apart ops t=true)->(∀ u∈U,u.i≠j)->OkU P ops S ar U ->
  OkU P ops (S.setIfInBounds j true) (ar.put t.dst v) U
 | [],_,_,_=>trivial
 | u::U,y,z,h=>by
  obtain⟨h1,h2,h3,h4,W,X⟩:=h;have O:∀ x∈U,x.o.apart ops t=true:=fun x l=>y x (mC _ l)
  have Y:∀ x∈U,x.i≠j:=fun x l=>z x (mC _ l)
  have B:uP (ar.put t.dst v) U=(uP ar U).put t.dst v:=qk ar U fun u hu x l=>by
   have:=(Oper.apart_spec (O u hu)).2.1 x l;exact this
  refine⟨h1,?_,?_,?_,?_,lL hs v hj O Y X⟩
  ·rw[tG,getD_set_ne true (Ne.symm (z u (by simp)))];exact h2
  ·intro e he Z;rw[tG];exact getD_set_true (h3 e he Z)
  ·rw[B];exact (lf hs h1 fun x l=>(Oper.apart_spec (y u (by simp))).2.2 x l).1 h4
  ·intro j' J F A D I;rw[tG] at D;exact W j' J F A (sQ D) I
theorem iF (hs:Region.noSelect ops=true){z:Array Bool}{ar:Act}{u:Pd}:∀ {X Y:List Pd},OkU P ops z ar (X++u::Y)->rU u.o z->(∀ x∈X,∀ d,x.o.dst=some d->u.o.dst≠some d) ->
  OkU P ops (z.setIfInBounds u.i true) (ar.put u.o.dst u.v) (X++Y)/\wh (z.setIfInBounds u.i true) (X++Y)=wh z (X++u::Y) /\
  uP (ar.put u.o.dst u.v) (X++Y)=uP ar (X++u::Y)/\YieldsIf P ops u.T u.o u.v ar
 | [],Y,h,hp,_=>by
  simp only[List.nil_append] at h ⊢;obtain⟨h1,h2,h3,h4,B,t⟩:=h;have j:=lh (P:=P) h1 hp t h2;have A:∀ x∈Y,x.i≠u.i:=by
   intro x l heq;clear j h4 B;induction Y with
   | nil=>cases l
   | cons y Y ih =>
    obtain⟨g1,g2,g3,g4,g5,g6⟩:=t;cases l with
    | head =>
     simp only[wh] at h2;rw[heq] at h2;rcases Nat.lt_or_ge u.i (wh z Y).size with D|D
     ·simp[D] at h2
     ·simp[Array.getElem?_eq_none D] at h2
    | tail _ hm=>exact ih (sQ h2) (fun e he I=>rB (hp e he I)) g6 hm
  refine⟨lL hs u.v h1 j A t,by simp[wh,tG],?_,?_⟩
  ·rw[qk ar Y fun x l d hd=>(Oper.apart_spec (j x l)).2.1 d hd];rfl
  ·clear B h2 h3 A;induction Y with
   | nil=>exact h4
   | cons y Y ih =>
    obtain⟨g1,g2,g3,g4,g5,g6⟩:=t;refine ih ?_ g6 fun x l=>j x (mC _ l)
    simp only[uP] at h4;exact (lf hs h1 fun x l=>(Oper.apart_spec (j y (by simp))).1 x l).2 h4
 | x::X,Y,h,hp,hd=>by
  simp only[List.cons_append] at h ⊢;obtain⟨h1,h2,h3,h4,B,t⟩:=h;obtain⟨k1,k2,F,O⟩:=iF hs t hp fun y J=>hd y (mC _ J)
  refine⟨⟨h1,by rw[k2];exact h2,by rw[k2];exact h3,by rw[F];exact h4,by rw[k2];exact B,k1⟩,by simp only[wh,k2],by simp only[uP,F],O⟩
theorem cg {i:Nat}{e:Array Bool}:∀ {U:List Pd},e.getD i true=false->(wh e U).getD i true≠false -> ∃ X u Y,U=X++u::Y/\u.i=i
 | [],h1,h2=>absurd h1 h2
 | u::U,h1,h2=>by
  by_cases hu:u.i=i
  ·exact⟨[],u,U,rfl,hu⟩
  ·simp only[wh] at h2;rw[getD_set_ne true hu] at h2;obtain⟨X,x,Y,rfl,j⟩:=cg h1 h2;exact⟨u::X,x,Y,rfl,j⟩
theorem cz {e:Array Bool}{ar:Act}:∀ {U:List Pd},OkU P ops e ar U->U≠[] -> ∃ i,i∈Region.ready .any ops e
 | [],_,h=>absurd rfl h
 | [u],h,_=>by
  obtain⟨h1,h2,h3,_⟩:=h;exact⟨u.i,mem_ready.2 ⟨h2,u.o,h1,h3⟩⟩
 | u::x::U,h,_=>cz (U:=x::U) h.2.2.2.2.2 (by simp)
theorem nu (h:sd ops=true):Region.noSelect ops=true:=by
 simp only[sd,Bool.and_eq_true] at h;exact h.1
theorem gm (h:sd ops=true){i j:Nat}{x y:Oper}(l:ops[i]? = some x)(t:ops[j]? = some y)(e:i≠j){d:Tmp}(hd:x.dst=some d):y.dst≠some d :=
 kh (m3 h l t e).1 hd
theorem lK {e:Array Bool}{ar:Act}:∀ {U:List Pd},OkU P ops e ar U -> ∀ u∈U,ops[u.i]? = some u.o/\e.getD u.i true=false
 | [],_,u,hu=>by cases hu
 | x::U,h,u,hu=>by
  cases hu with
  | head=>exact⟨h.1,nB h.2.1⟩
  | tail _ hm=>exact lK h.2.2.2.2.2 u hm
theorem cy {l:Array Bool}{ar:Act}{u:Pd}{Y:List Pd}:∀ {X:List Pd},OkU P ops l ar (X++u::Y) -> ∀ x∈X,x.i≠u.i
 | [],_,x,j=>by cases j
 | y::X,h,x,j=>by
  cases j with
  | head =>
   intro he;have h2:=h.2.1;have:(wh l (X++u::Y)).getD u.i true≠false:=by
    clear h h2 he;induction X with
    | nil =>
     simp only[List.nil_append,wh];intro h;rcases Nat.lt_or_ge u.i (wh l Y).size with e|e
     ·simp[e] at h
     ·simp[Array.getElem?_eq_none e] at h
    | cons z X ih=>intro h;exact ih (sQ h)
   rw[he] at h2;exact this h2
  | tail _ hm=>exact cy h.2.2.2.2.2 x hm
theorem mG {t:Array Bool}{j:Nat}{y:Oper}(z:Closed ops t)(hj:ops[j]? = some y)(hp:rU y t):Closed ops (t.setIfInBounds j true):=by
 intro x o l ht e he u;by_cases i:j=x
 ·subst i;rw[hj] at l;cases l;exact getD_set_true (hp e he u)
 ·rw[getD_set_ne false i] at ht;exact getD_set_true (z x o l ht e he u)
theorem ld (hd:sd ops=true)(M:Pd->Prop){fu:Nat}{w:World}{lc:Array Bool}{ac:Act}
  (J:Region.ready .any ops lc=[] -> ∀ l ar,l=lc->ar=ac->wpAny P .any ops Q fu l ar w)
  (t:∀ j F,j∈Region.ready .any ops lc->ops[j]? = some F -> ∀ U l ar,(∀ u∈U,M u)->(∀ u∈U,u.T w)->OkU P ops l ar U->Closed ops l->wh l U=lc->uP ar U=ac->rU F l ->
   ∃ A,fu=A+1/\wpOp P ops Q j (wpAny P .any ops Q (A+U.length) (l.setIfInBounds j true)) ar w) :
  ∀ (n:Nat) (U:List Pd) (l:Array Bool) (ar:Act),U.length=n->(∀ u∈U,M u)->(∀ u∈U,u.T w)->OkU P ops l ar U->Closed ops l->wh l U=lc->uP ar U=ac->wpAny P .any ops Q (fu+U.length) l ar w:=by
 intro n;induction n with
 | zero =>
  intro U l ar hn W S D I h1 h2;have O:U=[]:=List.eq_nil_of_length_eq_zero hn;subst O;simp only[wh,uP] at h1 h2;by_cases hr:Region.ready .any ops lc=[]
  ·exact J hr l ar h1 h2
  ·obtain⟨i,hi⟩:=List.exists_mem_of_ne_nil _ hr;obtain⟨_,oi,a0,a1⟩:=mem_ready.1 hi;obtain⟨A,rfl,_⟩:=t i oi hi a0 [] l ar (by simp) (by simp) trivial I h1 h2 (by rw[h1];exact a1);simp only[List.length_nil,Nat.add_zero];refine⟨fun h=>absurd (h1 ▸ h) hr,fun j hj=>?_⟩;rw[h1] at hj;obtain⟨_,F,y,z⟩:=mem_ready.1 hj;obtain⟨a5,he,hw⟩:=t j F hj y [] l ar (by simp) (by simp) trivial I h1 h2 (by rw[h1];exact z);cases he;simpa using hw
 | succ n ih =>
  intro U l ar hn W S D I h1 h2;have Z:U≠[]:=by intro h;subst h;simp at hn
  have e:fu+U.length=(fu+n)+1:=by omega
  rw[e];refine⟨fun h=>?_,fun j hj=>?_⟩
  ·obtain⟨i,hi⟩:=cz D Z;rw[h] at hi;cases hi
  ·obtain⟨a2,F,y,z⟩:=mem_ready.1 hj;by_cases hl:(wh l U).getD j true=false
   ·have hr:j∈Region.ready .any ops lc:=mem_ready.2 ⟨by rw[<- h1];exact hl,F,y,fun e he hb=>by rw[<- h1];exact rB (z e he hb)⟩;obtain⟨A,he,hw⟩:=t j F hr y U l ar W S D I h1 h2 z;have:fu+n=A+U.length:=by omega
    rw[this];exact hw
   ·obtain⟨X,u,Y,rfl,rfl⟩:=cg a2 hl;have hu:=lK D u (by simp);rw[hu.1] at y;cases y;obtain⟨k1,k2,k3,k4⟩:=iF (nu hd) D z fun x B d a3=>gm hd (lK D x (by simp[B])).1 hu.1 (cy D x B) a3
    refine k4.wpOp hu.1 (S u (by simp)) ?_;have:=ih (X++Y) (l.setIfInBounds u.i true) (ar.put u.o.dst u.v) (by simp at hn ⊢;omega) (fun x B=>W x (by simp at B ⊢;rcases B with h|h <;> simp[h])) (fun x B=>S x (by simp at B ⊢;rcases B with h|h <;> simp[h])) k1 (mG I hu.1 z) (k2.trans h1) (k3.trans h2);have e2:fu+n=fu+(X++Y).length:=by simp at hn ⊢;omega
    rw[e2];exact this
def WP (P:Program)(f:FuncId)(ops:Array Oper)(fu:Nat)(dn:List Nat)(pend:List (Nat × List Ob))(k:List Item)(a:Act)(w:World)(R:Value->World->Prop):Prop :=
 ∀ (U:List Pd) (e:Array Bool) (ar:Act),(∀ u∈U,u.obs=[] \/ (u.i,u.obs)∈pend)->(∀ u∈U,u.T w)->OkU P ops e ar U->Closed ops e->wh e U=listed ops.size dn->uP ar U=a ->
  wpAny P .any ops (RQ P f k R) (fu+U.length) e ar w
def tV (ops:Array Oper)(j:Nat):List (Nat × List Ob)->List Ob
 | []=>[]
 | (i,obs)::r=>match anc ops i j with
  | true=>tV ops j r
  | false=>obs++tV ops j r
def qD (ops:Array Oper)(j:Nat):List (Nat × List Ob)->List (Nat × List Ob)
 | []=>[]
 | (i,obs)::r=>match anc ops i j with
  | true=>qD ops j r
  | false=>(i,obs)::qD ops j r
theorem o7 {j i:Nat}{obs:List Ob}(h:anc ops i j=false):∀ {pend:List (Nat × List Ob)},(i,obs)∈pend->(i,obs)∈qD ops j pend
 | (e,o')::r,hm=>by
  simp only[qD];cases hm with
  | head=>rw[h];exact List.mem_cons_self
  | tail _ hm =>
   split
   ·exact o7 h hm
   ·exact mC _ (o7 h hm)
theorem ob {w:World}{j i:Nat}{obs:List Ob}(h:anc ops i j=false):∀ {pend:List (Nat × List Ob)},xE w (tV ops j pend)->(i,obs)∈pend->xE w obs
 | (e,o')::r,ha,hm=>by
  simp only[tV] at ha;cases hm with
  | head=>rw[h] at ha;exact (wg.1 ha).1
  | tail _ hm =>
   split at ha
   ·exact ob h ha hm
   ·exact ob h (wg.1 ha).2 hm
section
variable {f:FuncId} {k:List Item} {a:Act} {w:World} {R:Value->World->Prop} {fu:Nat} {dn:List Nat} {pend:List (Nat × List Ob)}
theorem Runs.Bx {id:Nat}(hm:P.follows .mixedOrders=true)(h:WP P f ops ops.size [] [] k a { w with drawn:=w.drawn+1 } R):Runs P f (.code (.region id ops true)::k) a w R:=by
 refine Runs.of_wp (wp_region_any hm ?_);have:=h [] (Array.replicate ops.size false) a (by simp) (by simp) trivial (fun x o i ht=>by
  rcases Nat.lt_or_ge x ops.size with e|e
  ·simp[e] at ht
  ·simp only[Array.getD_eq_getD_getElem?,Array.getElem?_replicate] at ht;split at ht <;> simp at ht) rfl rfl
 simpa using this
theorem WP.done (hs:sd ops=true)(e:vr (vM dn) 0 ops.toList=[])(h:Runs P f k a w R):WP P f ops fu dn pend k a w R:=by
 have hr:=(m0 hs).1 e;intro U l ar _ x y z h1 h2;refine ld hs (fun _=>True) (fun _ l ar t u=>?_) (fun j A hj=>by rw[hr] at hj;cases hj) _ U l ar rfl (fun _ _=>trivial) x y z h1 h2;subst t;subst u;cases fu with
 | zero=>exact⟨hr,h⟩
 | succ fu=>exact⟨fun _=>h,fun i hi=>by rw[hr] at hi;cases hi⟩
theorem WP.take {i:Nat}{o:Oper}{v:Value}{obs:List Ob}(A:sd ops=true)(hi:ops[i]? = some o)(hr:i∈Region.ready .any ops (listed ops.size dn))
  (Z:YieldsIf P ops (fun w=>xE w obs) o v a) (Y:xE w obs) (h:WP P f ops fu (dn++[i]) ((i,obs)::pend) k (a.put o.dst v) w R):WP P f ops (fu+1) dn pend k a w R:=by
 intro U lr ar hp S W X h1 h2;obtain⟨J,o',y,z⟩:=mem_ready.1 hr;rw[hi] at y;cases y;have t:∀ j x,ops[j]? = some x->j≠i->(listed ops.size dn).getD j true=false->(∀ e∈x.after,Region.binds .any e=true->e.on≠i)->o.apart ops x=true:=by
  intro j x hj F D I;obtain⟨hd,hp⟩:=m3 A hi hj (Ne.symm F);rcases hp with (hp|hp)|⟨hp,hq⟩
  ·obtain⟨e,he,B,rfl⟩:=dg.1 hp;exact absurd rfl (I e he B)
  ·obtain⟨e,he,B,rfl⟩:=dg.1 hp;have:=z e he B;exact (ou this D).elim
  ·unfold Oper.apart;cases O:o.dst with
   | none =>
    cases l:x.dst with
    | none=>rfl
    | some d=>simpa using qM hq l
   | some d =>
    have g1:=qM hp O;have g2:=kh hd O;cases l:x.dst with
    | none=>simp[g1]
    | some e=>rw[l] at g2;simp only[ne_eq,Option.some.injEq] at g2;simpa[g1,g2] using qM hq l
 have:=h (⟨i,o,v,obs⟩::U) lr ar (fun u hu=>by
   cases hu with
   | head=>right;simp
   | tail _ hm=>rcases hp u hm with h|h;exact .inl h;exact .inr (mC _ h)) (fun u hu=>by
   cases hu with
   | head=>exact Y
   | tail _ hm=>exact S u hm) ⟨hi,by rw[h1];exact J,by rw[h1];exact z,by rw[h2];exact Z,by rw[h1];exact t,W⟩ X (by rw[o8,<- h1];rfl) (by simp only[uP,h2])
 simp only[lC] at this;have e:fu+1+U.length=fu+(U.length+1):=by omega
 rw[e];exact this
def segP (P:Program)(n:Nat)(ops:Array Oper):List Nat->Env->List Value->List (Nat × List Ob)->List (Nat × List Ob)
 | [],L,_,pend=>pend
 | i::is,L,j,pend=>match ops[i]? with
  | none=>pend
  | some o=>match uw ops L o with
   | none=>pend
   | some false=>match setE n o.dst undef L with
    | some L1=>segP P n ops is L1 j pend
    | none=>pend
   | some true=>match evOp P L o j with
    | none=>pend
    | some (v,obs,e)=>match setE n o.dst v L with
     | none=>pend
     | some L1=>match obs with
      | []=>segP P n ops is L1 e pend
      | b::l=>segP P n ops is L1 e ((i,b::l)::pend)
theorem WP.weaken {e:List (Nat × List Ob)}(j:∀ i obs,obs≠[]->(i,obs)∈e->(i,obs)∈pend)(h:WP P f ops fu dn pend k a w R):WP P f ops fu dn e k a w R:=by
 intro U y ar hp l t x h1 h2;refine h U y ar (fun u hu=>?_) l t x h1 h2;rcases hp u hu with h|h
 ·exact .inl h
 ·by_cases he:u.obs=[]
  ·exact .inl he
  ·exact .inr (j _ _ he h)
theorem WP.segs {n:Nat}(y:sd ops=true):∀ (is:List Nat) (fu m:Nat) (dn:List Nat) (pend:List (Nat × List Ob)) (a:Act) (L:Env) (j:List Value) (L':Env) (obs:List Ob),zZ n a L->(∀ x,tb m x=true ↔ x∈dn) ->
  lX ops is m=true->qB P n ops is L j=some (L',obs)->xE w obs ->
  (∀ a',zZ n a' L'->WP P f ops fu (dn++is) (segP P n ops is L j pend) k a' w R)->WP P f ops (is.length+fu) dn pend k a w R:=by
 intro is;induction is with
 | nil=>intro fu m dn pend a L j L' obs z _ _ h _ hk;simp[qB] at h;obtain⟨rfl,rfl⟩:=h;simpa[segP] using hk a z
 | cons i is ih =>
  intro fu m dn pend a L j L' obs z hm ht h O hk;obtain⟨o0,X,Y,Z,S⟩:∃ o,ops[i]? = some o/\tb m i=false/\subM (pU o) m=true/\lX ops is (bitL i m)=true:=by
   simp only[lX] at ht;split at ht
   ·cases ht
   ·rename_i o O;split at ht
    ·cases ht
    ·rename_i h1;split at ht
     ·cases ht
     ·rename_i h2;exact⟨o,O,h1,h2,ht⟩
  have A:=dZ y hm X Y Z;have I:∀ x,tb (bitL i m) x=true ↔ x∈dn++[i]:=fun x=>by
   rw[cE,hm,iA,List.mem_singleton,or_comm]
  have W:(i::is).length+fu=(is.length+fu)+1:=by simp;omega
  rw[W];simp only[qB] at h;split at h
  ·cases h
  ·rename_i o u;split at h
   ·cases h
   ·rename_i hw;split at h
    ·rename_i L1 l;have e:∀ pend,segP P n ops (i::is) L j pend=segP P n ops is L1 j pend:=fun pend=>by simp[segP,u,hw,l]
     refine WP.take y u A (obs:=[]) (v:=undef) (.inr ⟨xM z hw,rfl⟩) trivial ?_;refine WP.weaken (pend:=pend) (fun i' U J hm=>by
      cases hm with
      | head=>exact absurd rfl J
      | tail _ hm=>exact hm) ?_
     exact ih fu _ (dn++[i]) pend _ L1 j L' obs (s6 z l) I S h O fun a2 h2=>by have:=hk a2 h2;rw[e] at this;simpa using this
    ·cases h
   ·rename_i hw;split at h
    ·cases h
    ·rename_i v D t hv;split at h
     ·cases h
     ·rename_i L1 l;split at h
      ·rename_i L2 F B;cases h;rw[wg] at O;refine WP.take y u A (obs:=D) (v:=v) (.inl ⟨xM z hw,fun w hw=>mO z hv hw⟩) O.1 ?_;cases D with
       | nil =>
        have e:∀ pend,segP P n ops (i::is) L j pend=segP P n ops is L1 t pend:=fun pend=>by simp[segP,u,hw,hv,l]
        refine WP.weaken (pend:=pend) (fun i' U J hm=>by
         cases hm with
         | head=>exact absurd rfl J
         | tail _ hm=>exact hm) ?_
        exact ih fu _ (dn++[i]) pend _ L1 t _ F (s6 z l) I S B O.2 fun a2 h2=>by have:=hk a2 h2;rw[e] at this;simpa using this
       | cons b bs =>
        have e:∀ pend,segP P n ops (i::is) L j pend=segP P n ops is L1 t ((i,b::bs)::pend):=fun pend=>by simp[segP,u,hw,hv,l]
        exact ih fu _ (dn++[i]) ((i,b::bs)::pend) _ L1 t _ F (s6 z l) I S B O.2 fun a2 h2=>by have:=hk a2 h2;rw[e] at this;simpa using this
      ·cases h
theorem WP.seg {n:Nat}{L:Env}(e:sd ops=true)(z:zZ n a L)(is:List Nat)(j:List Value)(ks:List Nat){Lo:Env}{obs:List Ob}
  (ht:lX ops is (vM dn)=true) (he:nv P n ops is L j ks=some (Lo,obs)) (A:xE w obs)
  (hk:∀ l,zZ n l Lo->WP P f ops fu (dn++is) (segP P n ops is L j pend) k l w R):WP P f ops (is.length+fu) dn pend k a w R:=by
 unfold nv at he;split at he
 ·cases he
 ·rename_i L1 u hs;split at he
  ·rename_i y i;cases he;exact WP.segs e _ _ _ _ _ _ _ _ _ _ z (fun x=>vp x dn) ht hs A fun l t=>hk l (s5 t i)
  ·cases he
theorem oY {ar:Act}{o:Oper}(e:∀ cs b,o.op ≠ .select cs b):∀ {U:List Pd},(∀ u∈U,∀ d,u.o.dst=some d->d ∉ o.looksAt ops)->execOp (uP ar U).eval o=execOp ar.eval o/\Region.wanted o (yielded ops (uP ar U).tmps)=Region.wanted o (yielded ops ar.tmps)
 | [],_=>⟨rfl,rfl⟩
 | u::U,h=>by
  obtain⟨h1,h2⟩:=oY (ar:=ar) e fun x i=>h x (mC _ i)
  exact⟨(execOp_put o e _ _ _ (h u (by simp))).trans h1,(wanted_put o _ _ _ (h u (by simp))).trans h2⟩
def ActP (P:Program)(f:FuncId)(ops:Array Oper)(fu:Nat)(dn:List Nat)(pend:List (Nat × List Ob))(k:List Item)(a:Act)(w:World)(R:Value->World->Prop)(j:Nat):Prop :=
 ∃ (o:Oper) (e:Value->World->Prop),ops[j]? = some o/\Region.wanted o (yielded ops a.tmps)=true/\OpTo P o a w e /\ ∀ v w',e v w'->xE w' (tV ops j pend)/\WP P f ops fu (dn++[j]) (qD ops j pend) k (a.put o.dst v) w' R
theorem WP.acts (hs:sd ops=true){rs:List Nat}(hr:vr (vM dn) 0 ops.toList=rs)(y:rs≠[])(hA:∀ j∈rs,ActP P f ops fu dn pend k a w R j):WP P f ops (fu+1) dn pend k a w R:=by
 intro U O ar hp hT D S h1 h2;refine ld hs (fun u=>u.obs=[] \/ (u.i,u.obs)∈pend) (fun h=>absurd (hr.symm.trans ((m0 hs).2 h)) y) (fun B W F I U O ar hM hT D S h1 h2 A=>?_) _ U O ar rfl hp hT D S h1 h2;refine⟨fu,rfl,?_⟩;have t:=(mem_ready.1 F).1;obtain⟨o,Rv,hi,hw,h,hk⟩:=hA B (hr ▸ (nt hs dn B).2 F);have a4:W=o:=by rw[hi] at I;exact (Option.some.inj I).symm
 subst a4;rw[<- h1] at t;have l:=lh (P:=P) hi A D t;have J:∀ cs b,W.op ≠ .select cs b:=fun cs b=>Region.noSelect_spec (nu hs) B W cs b hi
 obtain⟨Z,e2⟩:=oY (ops:=ops) (ar:=ar) J fun u hu d hd=>(Oper.apart_spec (l u hu)).1 d hd
 rw[h2] at Z e2;unfold wpOp;simp only[hi,<- e2,hw,if_true];refine .inl (h.wp Z fun v w' hv=>?_);obtain⟨k1,k2⟩:=hk v w' hv;have e:∀ u∈U,anc ops u.i B=false:=fun u hu=>by
  cases hA:anc ops u.i B with
  | false=>rfl
  | true =>
   have t1:=aZ S _ _ _ hi A hA;exact (ou t1 (lK D u hu).2).elim
 have y:∀ u∈U,u.i≠B:=fun u hu he=>by
  obtain⟨X,Y,rfl⟩:=List.append_of_mem hu;have:(wh O (X++u::Y)).getD u.i true≠false:=by
   clear t l Z e2 e hu hM hT D h1 h2;induction X with
   | nil =>
    simp only[List.nil_append,wh];intro h;rcases Nat.lt_or_ge u.i (wh O Y).size with h'|h'
    ·simp[h'] at h
    ·simp[Array.getElem?_eq_none h'] at h
   | cons z X ih=>intro h;exact ih (sQ h)
  rw[he] at this;exact this t
 refine k2 U (O.setIfInBounds B true) (ar.put W.dst v) (fun u hu=>?_) (fun u hu=>?_) (lL (nu hs) v hi l y D) (mG S hi A) (by rw[tG,h1,o8]) (by rw[qk ar U fun u hu x hx=>(Oper.apart_spec (l u hu)).2.1 x hx,h2])
 ·rcases hM u hu with h|h
  ·exact .inl h
  ·exact .inr (o7 (e u hu) h)
 ·rcases hM u hu with h|h
  ·unfold Pd.T;rw[h];trivial
  ·exact ob (e u hu) k1 h
def eqL:List Nat->List Nat->Bool
 | [],[]=>true
 | x::l,y::r=>match Nat.beq x y with
  | true=>eqL l r
  | false=>false
 | _,_=>false
theorem ki:∀ {l r:List Nat},eqL l r=true->l=r
 | [],[],_=>rfl
 | x::l,y::r,h=>by
  simp only[eqL] at h;split at h
  ·rename_i e;rw[Nat.eq_of_beq_eq_true e,ki h]
  ·cases h
theorem WP.effG {j:Nat}{o:Oper}{i:Value->World->Prop}(hs:sd ops=true)(hr:vr (vM dn) 0 ops.toList=[j])(hi:ops[j]? = some o)
  (hw:Region.wanted o (yielded ops a.tmps)=true) (h:OpTo P o a w i) (hk:∀ v w',i v w'->xE w' (tV ops j pend)/\WP P f ops fu (dn++[j]) (qD ops j pend) k (a.put o.dst v) w' R):WP P f ops (fu+1) dn pend k a w R :=
 WP.acts hs hr (by simp) fun l e=>by
  simp only[List.mem_singleton] at e;subst e;exact⟨o,i,hi,hw,h,hk⟩
theorem WP.eff {j n d:Nat}{L:Env}{o:Oper}{i:Value->World->Prop}{obs:List Ob}(t:zZ n a L)(hs:sd ops=true)(hr:eqL (vr (vM dn) 0 ops.toList) [j]=true)(hi:ops[j]? = some o)(hd:o.dst=some d)(hn:Nat.blt d n=true)
  (hw:uw ops L o=some true) (e:tV ops j pend=obs) (h:OpTo P o a w i) (hk:∀ v w',i v w'->xE w' obs /\ ∀ l,zZ n l ((d,v)::L)->WP P f ops fu (dn++[j]) (qD ops j pend) k l w' R):WP P f ops (fu+1) dn pend k a w R:=by
 refine WP.effG hs (ki hr) hi (xM t hw) h fun v w' hv=>?_
 obtain⟨h1,h2⟩:=hk v w' hv;exact⟨by rw[e];exact h1,h2 _ (by rw[hd];exact t.put _ _ (by simpa[Nat.blt_eq] using hn))⟩
theorem WP.eff0 {j n:Nat}{L:Env}{o:Oper}{i:Value->World->Prop}{obs:List Ob}(t:zZ n a L)(hs:sd ops=true)(hr:eqL (vr (vM dn) 0 ops.toList) [j]=true)(hi:ops[j]? = some o)(hd:o.dst=none)
  (hw:uw ops L o=some true) (e:tV ops j pend=obs) (h:OpTo P o a w i) (hk:∀ v w',i v w'->xE w' obs /\ ∀ l,zZ n l L->WP P f ops fu (dn++[j]) (qD ops j pend) k l w' R):WP P f ops (fu+1) dn pend k a w R:=by
 refine WP.effG hs (ki hr) hi (xM t hw) h fun v w' hv=>?_
 obtain⟨h1,h2⟩:=hk v w' hv;exact⟨by rw[e];exact h1,h2 _ (by rw[hd];exact t)⟩
def WQ (P:Program)(f:FuncId)(ops:Array Oper)(dn:List Nat)(pend:List (Nat × List Ob))(k:List Item)(a:Act)(w:World)(R:Value->World->Prop):Prop :=
 sd ops=true->WP P f ops (ops.size - dn.length) dn pend k a w R
theorem Runs.drawn {id:Nat}(hm:P.follows .mixedOrders=true)(hs:sd ops=true)(h:WQ P f ops [] [] k a { w with drawn:=w.drawn+1 } R):Runs P f (.code (.region id ops true)::k) a w R:=Runs.Bx hm (by simpa[WQ] using h hs)
theorem WQ.done (hr:eqL (vr (vM dn) 0 ops.toList) []=true)(h:Runs P f k a w R):WQ P f ops dn pend k a w R:=fun hs =>
 WP.done hs (ki hr) h
theorem WQ.seg {n:Nat}{L:Env}(l:zZ n a L)(is:List Nat)(i:List Value)(ks:List Nat){Lo:Env}{obs:List Ob}
  (ht:(Nat.ble (dn.length+is.length) ops.size && lX ops is (vM dn))=true) (he:nv P n ops is L i ks=some (Lo,obs)) (t:xE w obs)
  (hk:∀ j,zZ n j Lo->WQ P f ops (dn++is) (segP P n ops is L i pend) k j w R):WQ P f ops dn pend k a w R:=by
 simp only[Bool.and_eq_true] at ht;have hle:=Nat.le_of_ble_eq_true ht.1;have e:ops.size - dn.length=is.length+(ops.size - (dn++is).length):=by simp;omega
 unfold WQ;rw[e];intro hs;exact WP.seg hs l is i ks ht.2 he t fun a ha=>hk a ha hs
theorem WQ.eff {j n d:Nat}{L:Env}{o:Oper}{l:Value->World->Prop}{obs:List Ob}(u:zZ n a L)(hr:(Nat.blt dn.length ops.size && eqL (vr (vM dn) 0 ops.toList) [j])=true)(hi:ops[j]? = some o)(hd:o.dst=some d)(hn:Nat.blt d n=true)
  (hw:uw ops L o=some true) (i:tV ops j pend=obs) (h:OpTo P o a w l) (hk:∀ v w',l v w'->xE w' obs /\ ∀ t,zZ n t ((d,v)::L)->WQ P f ops (dn++[j]) (qD ops j pend) k t w' R):WQ P f ops dn pend k a w R:=by
 rw[Bool.and_eq_true] at hr;have x:dn.length<ops.size:=by simpa[Nat.blt_eq] using hr.1
 have e:ops.size - dn.length=(ops.size - (dn++[j]).length)+1:=by simp;omega
 unfold WQ;rw[e];intro hs;exact WP.eff u hs hr.2 hi hd hn hw i h fun v w' hv=>⟨(hk v w' hv).1,fun a ha=>(hk v w' hv).2 a ha hs⟩
theorem WQ.eff0 {j n:Nat}{L:Env}{o:Oper}{l:Value->World->Prop}{obs:List Ob}(u:zZ n a L)(hr:(Nat.blt dn.length ops.size && eqL (vr (vM dn) 0 ops.toList) [j])=true)(hi:ops[j]? = some o)(hd:o.dst=none)
  (hw:uw ops L o=some true) (i:tV ops j pend=obs) (h:OpTo P o a w l) (hk:∀ v w',l v w'->xE w' obs /\ ∀ t,zZ n t L->WQ P f ops (dn++[j]) (qD ops j pend) k t w' R):WQ P f ops dn pend k a w R:=by
 rw[Bool.and_eq_true] at hr;have x:dn.length<ops.size:=by simpa[Nat.blt_eq] using hr.1
 have e:ops.size - dn.length=(ops.size - (dn++[j]).length)+1:=by simp;omega
 unfold WQ;rw[e];intro hs;exact WP.eff0 u hs hr.2 hi hd hw i h fun v w' hv=>⟨(hk v w' hv).1,fun a ha=>(hk v w' hv).2 a ha hs⟩
def AQ (P:Program)(f:FuncId)(ops:Array Oper)(dn:List Nat)(pend:List (Nat × List Ob))(k:List Item)(a:Act)(w:World)(R:Value->World->Prop)(j:Nat):Prop :=
 sd ops=true->ActP P f ops (ops.size - (dn.length+1)) dn pend k a w R j
theorem WQ.acts (rs:List Nat)(hr:(Nat.blt dn.length ops.size && eqL (vr (vM dn) 0 ops.toList) rs)=true)(i:rs≠[])(hA:∀ j∈rs,AQ P f ops dn pend k a w R j):WQ P f ops dn pend k a w R:=by
 rw[Bool.and_eq_true] at hr;have l:dn.length<ops.size:=by simpa[Nat.blt_eq] using hr.1
 have e:ops.size - dn.length=(ops.size - (dn.length+1))+1:=by omega
 unfold WQ;rw[e];exact fun hs=>WP.acts hs (ki hr.2) i fun j hj=>hA j hj hs
theorem WQ.act2 (i j:Nat)(hr:(Nat.blt dn.length ops.size && eqL (vr (vM dn) 0 ops.toList) [i,j])=true)(h1:AQ P f ops dn pend k a w R i)(h2:AQ P f ops dn pend k a w R j):WQ P f ops dn pend k a w R :=
 WQ.acts [i,j] hr (by simp) fun x e=>by
  simp only[iC,List.not_mem_nil,or_false] at e;rcases e with rfl|rfl
  ·exact h1
  ·exact h2
theorem WQ.act3 (i j l:Nat)(hr:(Nat.blt dn.length ops.size && eqL (vr (vM dn) 0 ops.toList) [i,j,l])=true)(h1:AQ P f ops dn pend k a w R i)(h2:AQ P f ops dn pend k a w R j)(h3:AQ P f ops dn pend k a w R l):WQ P f ops dn pend k a w R :=
 WQ.acts [i,j,l] hr (by simp) fun x e=>by
  simp only[iC,List.not_mem_nil,or_false] at e;rcases e with rfl|rfl|rfl
  ·exact h1
  ·exact h2
  ·exact h3
theorem AQ.eff {j n d:Nat}{L:Env}{o:Oper}{e:Value->World->Prop}{obs:List Ob}(t:zZ n a L)(hi:ops[j]? = some o)(hd:o.dst=some d)(hn:Nat.blt d n=true)
  (hw:uw ops L o=some true) (i:tV ops j pend=obs) (h:OpTo P o a w e) (hk:∀ v w',e v w'->xE w' obs /\ ∀ l,zZ n l ((d,v)::L)->WQ P f ops (dn++[j]) (qD ops j pend) k l w' R):AQ P f ops dn pend k a w R j:=by
 refine fun hs=>⟨o,e,hi,xM t hw,h,fun v w' hv=>?_⟩
 obtain⟨h1,h2⟩:=hk v w' hv;refine⟨by rw[i];exact h1,?_⟩;have:=h2 (a.put o.dst v) (by rw[hd];exact t.put _ _ (by simpa[Nat.blt_eq] using hn));unfold WQ at this;simpa using this hs
theorem AQ.eff0 {j n:Nat}{L:Env}{o:Oper}{e:Value->World->Prop}{obs:List Ob}(t:zZ n a L)(hi:ops[j]? = some o)(hd:o.dst=none)
  (hw:uw ops L o=some true) (i:tV ops j pend=obs) (h:OpTo P o a w e) (hk:∀ v w',e v w'->xE w' obs /\ ∀ l,zZ n l L->WQ P f ops (dn++[j]) (qD ops j pend) k l w' R):AQ P f ops dn pend k a w R j:=by
 refine fun hs=>⟨o,e,hi,xM t hw,h,fun v w' hv=>?_⟩
 obtain⟨h1,h2⟩:=hk v w' hv;refine⟨by rw[i];exact h1,?_⟩;have:=h2 (a.put o.dst v) (by rw[hd];exact t);unfold WQ at this;simpa using this hs
end
end
end
noncomputable section
theorem nM {α:Type}{enc:α -> List Value}{sz:Nat}(he:wj enc sz){z:α}{j:Array Value}(hz:j.toList=enc z)(n:Nat):(Builtin.zeroCells j n).toList=(List.replicate n z).flatMap enc:=by
 have hs:j.size=sz:=by rw[<- Array.length_toList,hz,he.len]
 apply List.ext_getElem?;intro i;simp only[Builtin.zeroCells,Array.toList_map,Array.toList_range,List.getElem?_map,hs];by_cases h:i<n*sz
 ·have h0:0<sz:=by
   rcases Nat.eq_zero_or_pos sz with e|e
   ·subst e;simp at h
   ·exact e
  have hj:i / sz<n:=(Nat.div_lt_iff_lt_mul h0).2 h;have l:=u4 he (List.replicate n z) (i / sz) (i % sz) (by simpa using hj) (Nat.mod_lt _ h0);rw[Nat.mul_comm,Nat.div_add_mod] at l;rw[l,List.getElem?_range h];simp only[Option.map_some,List.getElem_replicate];have hm:i % sz<j.size:=by rw[hs];exact Nat.mod_lt _ h0
  rw[getElem!_pos j _ hm,<- hz];simp[hm]
 ·rw[List.getElem?_eq_none (by simp;omega),List.getElem?_eq_none (by rw[yi he];simp;omega)]
  rfl
theorem dL {α:Type}{enc:α -> List Value}{sz:Nat}(he:wj enc sz)(l j:List α)(lo:Nat)(h:lo+j.length<=l.length)(cs:List Value)(off:Nat)(A:off+l.length*sz<=cs.length)
  (z:∀ i,i<l.length*sz->cs[off+i]? = (l.flatMap enc)[i]?) :
  ∀ i,i<l.length*sz->(putAt cs (off+lo*sz) (j.flatMap enc))[off+i]? = ((l.take lo++(j++l.drop (lo+j.length))).flatMap enc)[i]?:=by
 intro i hi;have h1:(lo+j.length)*sz<=l.length*sz:=Nat.mul_le_mul_right _ h;rw[Nat.add_mul] at h1;have e:=yi he j;have t:((l.take lo).flatMap enc).length=lo*sz:=by rw[yi he,List.length_take,Nat.min_eq_left (by omega)]
 have D:((l.drop (lo+j.length)).flatMap enc).length=l.length*sz - (lo+j.length)*sz:=by rw[yi he,List.length_drop,Nat.sub_mul]
 have y:l.flatMap enc=(l.take lo).flatMap enc++(l.drop lo).flatMap enc:=by rw[<- List.flatMap_append,List.take_append_drop]
 have u:l.flatMap enc=(l.take (lo+j.length)).flatMap enc++(l.drop (lo+j.length)).flatMap enc:=by rw[<- List.flatMap_append,List.take_append_drop]
 have x:((l.take (lo+j.length)).flatMap enc).length=lo*sz+j.length*sz:=by rw[yi he,List.length_take,Nat.min_eq_left (by omega),Nat.add_mul]
 rw[ue _ _ _ (by rw[e];omega),List.flatMap_append,List.flatMap_append];by_cases F:i<lo*sz
 ·rw[aA,List.getElem?_append_left (by rw[List.length_take];omega),List.getElem?_take,if_pos (by omega),z i hi,y,List.getElem?_append_left (by omega),List.getElem?_append_left (by omega)]
 ·by_cases I:i<lo*sz+j.length*sz
  ·rw[List.getElem?_append_left (by simp only[lA,List.length_take,e];omega),List.getElem?_append_right (by rw[List.length_take];omega),
    List.getElem?_append_right (by omega),List.getElem?_append_left (by rw[t,e];omega)]
   congr 1;rw[List.length_take,t];omega
  ·rw[List.getElem?_append_right (by simp only[lA,List.length_take,e];omega),List.getElem?_append_right (by omega),List.getElem?_append_right (by rw[t,e];omega),List.getElem?_drop];have B:off+lo*sz+(j.flatMap enc).length+(off+i - (List.take (off+lo*sz) cs++j.flatMap enc).length)=off+i:=by
    simp only[lA,List.length_take,e];omega
   rw[B,z i hi,u,List.getElem?_append_right (by omega)];congr 1;rw[t,e,x];omega
def rE {α:Type}(l:List α)(lo:Int)(z:α):List α:=l.take lo.toNat++(List.replicate (l.length - lo.toNat) z++[])
theorem p9 {α:Type}{l:List α}{lo:Int}{z:α}{r:List α}(hr:mCut l lo (l.length:Int)=some r):(rE l lo z).length=l.length:=by
 obtain⟨h1,h2⟩:=lu hr;simp[rE];omega
section
variable {α:Type} {T:TypeId} {enc:α -> List Value} {sz:Nat} {w0 w:World} {As:List HP} {P:Program}
theorem OpTo.fO {n:Nat}{a:Act}{L:Env}{o:Oper}{t:TypeId}{sb sb':Option Addr}{sc sc':Nat}{l r:List α}{lo:Int}{z:α}{x:Operand}{ti:TypeInfo}{Y:Value}(J:zZ n a L)(H:St w0 (Sl T enc sz sb sc l::As) w)(he:wj enc sz)
  (hr:mCut l lo (l.length:Int)=some r) (D:yt sb sc lo.toNat sz=sb') (a5:sc - lo.toNat=sc') (ho:o.op = .call { callee:=.builtin .clear,args:=#[x],argTypes:=#[t] }) (I:evO L x=some (.slice sb' r.length sc'))
  (ht:P.underlying t=some (.slice T)) (hi:P.info? T=some ti) (hz:ti.zero=some Y) (O:Y.cells.toList=enc z) :
  OpTo P o a w fun v w'=>v = .tuple #[]/\St w0 (Sl T enc sz sb sc (rE l lo z)::As) w':=by
 obtain⟨dst,op,type,pos,after,guard⟩:=o;simp only at ho;subst ho;have hlen:=qz hr;obtain⟨a4,a3⟩:=lu hr;have j:rE l lo z=l.take lo.toNat++(List.replicate r.length z++l.drop (lo.toNat+(List.replicate r.length z).length)):=by
  unfold rE;have:r.length=l.length - lo.toNat:=by omega
  rw[this];congr 2;simp;omega
 have X:∀ w:World,(Go.zeroValue T).run P w = .ok Y w:=fun w=>by simp[Go.zeroValue,Go.typeInfo,Sem.run,hi,hz]
 rcases H.kL with ⟨h1,h2,h3⟩|⟨b,off,cs,e,H1,h3,h4,h5,h6⟩
 ·subst h1;subst h2;have hs:sb'=none:=by rw[<- D];unfold yt;split <;> rfl
  subst hs;refine OpTo.of_run (v:=.tuple #[]) (w':=w) ?_ ⟨rfl,?_⟩
  ·simp[execOp,resolve,invoke,builtin,J.eval I,Builtin.clear_,xB P ht]
  ·simpa[rE] using H
 ·subst e;by_cases hn:r.length=0
  ·refine OpTo.of_run (v:=.tuple #[]) (w':=w) ?_ ⟨rfl,?_⟩
   ·rw[hn] at I;cases F:sb' <;> simp[execOp,resolve,invoke,builtin,J.eval I,Builtin.clear_,xB P ht,F]
   ·rw[j,hn];simpa using H
  ·have U:sc≠lo.toNat:=by omega
   have hs:sb'=some ⟨b,off+lo.toNat*sz,none⟩:=by rw[<- D];unfold yt;rw[if_neg U];simp[Addr.add_lit]
   subst hs;have hmul:l.length*sz<=sc*sz:=Nat.mul_le_mul_right _ h3;have S:(lo.toNat+r.length)*sz<=l.length*sz:=Nat.mul_le_mul_right _ (by omega);rw[Nat.add_mul] at S;have y:=yi he (List.replicate r.length z);simp only[List.length_replicate] at y;have Z:=H1.one 0 rfl;have u:=run_storeCells_at P b (off+lo.toNat*sz) T ((List.replicate r.length z).flatMap enc) 0 cs w Z (by simp only[Nat.add_zero,y];omega) (qe he _);simp only[Nat.add_zero] at u;refine OpTo.of_run (v:=.tuple #[]) (w':=w.setRow b (putAt cs.toList (off+lo.toNat*sz) ((List.replicate r.length z).flatMap enc)).toArray) ?_ ⟨rfl,?_⟩
   ·have W:∃ m,r.length=m+1:=⟨r.length - 1,by omega⟩
    obtain⟨m,hm⟩:=W;rw[ue _ _ _ (by simp only[Array.length_toList,y];omega)];simp only[execOp,resolve,invoke,builtin,J.eval I,Builtin.clear_,xB P ht,Sem.run_bind,Result.andThen_ok,hm];simp[execOp,resolve,invoke,builtin,J.eval I,Builtin.clear_,xB P ht,X,hm,nM he O];rw[hm] at u;rw[show storeCells ⟨b,off+lo.toNat*sz,none⟩ (List.flatMap enc (List.replicate (m+1) z))=storeCells ⟨b,off+lo.toNat*sz,none⟩ (List.flatMap enc (List.replicate (m+1) z)) 0 from rfl,u];simp[Result.andThen]
   ·have H2:=H1.set (w':=w.setRow b (putAt cs.toList (off+lo.toNat*sz) ((List.replicate r.length z).flatMap enc)).toArray) (by simp) (by simp) (by simp) (setRow_heap w b _ _ T (0,0) Z) (fun c O=>setRow_other w b c _ O);have B:=p9 (z:=z) hr;refine H2.head fun h hh=>.inr ⟨b,off,_,rfl,hh,by rw[B];exact h3,h4,by simp[rV];omega,fun i A=>?_⟩
    rw[B] at A;rw[j];simp only[List.getElem?_toArray];exact dL he l (List.replicate r.length z) lo.toNat (by simp;omega) cs.toList off (by simp;omega) (fun i hi=>by rw[<- h6 i hi];simp) i A
end
end
noncomputable section
structure MCh (α:Type) where
 cap:Nat
 buf:List α
def vI (x:Int):Value:=.int .i64 x
def MCh.room {α:Type}(m:MCh α):Bool:=decide (m.buf.length<m.cap)
def MCh.push {α:Type}(m:MCh α)(x:α):MCh α:=⟨m.cap,m.buf++[x]⟩
def MCh.rest {α:Type}(m:MCh α)(b:List α):MCh α:=⟨m.cap,b⟩
section
variable {α:Type} {ev:α -> Value} {P:Program} {f:FuncId} {k:List Item} {a:Act} {w w0:World} {R:Value->World->Prop} {ops:Array Oper} {As:List HP} {n d c:Nat} {L:Env} {o:Oper} {m:MCh α}
end
section
variable {G α:Type} {T:TypeId} {enc:G->List Value} {R:G -> α -> HP} {w0 w:World} {As:List HP}
end
def RS {α:Type}(T:TypeId)(enc:α -> List Value)(sz:Nat)(g:Option Addr × Nat × Nat)(x:List α):HP:=fun h=>g.2.1=x.length/\Sl T enc sz g.1 g.2.2 x h
section
variable {α:Type} {T T':TypeId} {enc:α -> List Value} {sz:Nat} {w0 w:World} {As:List HP}
end
end
end Go.Th
