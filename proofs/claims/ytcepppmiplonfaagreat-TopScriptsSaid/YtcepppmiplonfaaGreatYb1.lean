/-
  The statements TopScripts of the program.
  Text 1 of 9: of what the proof needs (a row of the program: no condition is left); put together and made narrow by a program.
-/
import Derived.Calls
import Derived.Conc.LoneSelect
import Derived.KernelRfl
import Derived.Laws.AppendOwn
import Derived.Laws.StructEq
import Derived.OrdersHeld
set_option linter.unusedVariables false
set_option linter.unusedSimpArgs false
namespace Go.Th
abbrev rg_7 : List Nat := [0, 1, 2, 3, 4, 5, 6, 7]
abbrev rg_11 : List Nat := [0, 1, 2, 3, 4, 5, 6, 7, 8, 9, 10, 11]
abbrev rg_6 : List Nat := [0, 1, 2, 3, 4, 5, 6]
abbrev rg_13 : List Nat := [0, 1, 2, 3, 4, 5, 6, 7, 8, 9, 10, 11, 12, 13]
abbrev rg_8 : List Nat := [0, 1, 2, 3, 4, 5, 6, 7, 8]
abbrev rg_21 : List Nat := [0, 1, 2, 3, 4, 5, 6, 7, 8, 9, 10, 11, 12, 13, 14, 15, 16, 17, 18, 19, 20, 21]
end Go.Th
noncomputable section
namespace Go.Th
theorem bS {A B:Type}(a:A)(f:A->Option B):(some a).bind f=f a:=rfl
theorem lA {A:Type}{a b:List A}:(a++b).length=a.length+b.length:=List.length_append
theorem mL {A:Type}{a:A}{l:List A}(m:List A)(h:a∈l):a∈l++m:=List.mem_append_left _ h
theorem mC {A:Type}(y:A){a:A}{l:List A}(h:a∈l):a∈y::l:=List.mem_cons_of_mem _ h
theorem dF {p:Prop}[i:Decidable p](h:¬p):decide p=false:=_root_.decide_eq_false h
theorem dT {p:Prop}[i:Decidable p](h:p):decide p=true:=_root_.decide_eq_true h
theorem tN (n:Nat):Int.toNat (n:Int)=n:=Int.toNat_natCast n
theorem lC {A:Type}{a:A}{l:List A}:(a::l).length=l.length+1:=List.length_cons
theorem iC {A:Type}{a b:A}{l:List A}:a∈b::l ↔ a=b \/ a∈l:=List.mem_cons
theorem iA {A:Type}{a:A}{l m:List A}:a∈l++m ↔ a∈l \/ a∈m:=List.mem_append
theorem aA {A:Type}(a b c:List A):a++b++c=a++(b++c):=List.append_assoc ..
theorem aN {A:Type}(l:List A):l++[]=l:=List.append_nil _
theorem pC {A B:Type}{f:A->B}{a:A}{l:List A}:(a::l).map f=f a::l.map f:=List.map_cons
theorem lM {A B:Type}{l:List A}(f:A->B):(l.map f).length=l.length:=List.length_map ..
theorem cT {A:Type}(a b:A):cond true a b=a:=rfl
theorem cF {A:Type}(a b:A):cond false a b=b:=rfl
end Go.Th
namespace Go.Th
abbrev Env:=List (Nat × Value)
def look (t:Nat):Env->Option Value
 | []=>none
 | (u,v)::r=>match Nat.beq t u with
  | true=>some v
  | false=>look t r
structure zN (n:Nat) (a:Act) (L:Env):Prop where
 size:a.tmps.size=n
 defers:a.defers=[]
 has:∀ t v,look t L=some v->a.tmps[t]? = some v
theorem vH (t u:Nat)(v:Value)(r:Env):look t ((u,v)::r)=if t=u then some v else look t r:=by
 simp only[look];split
 ·rename_i h;simp[Nat.eq_of_beq_eq_true h]
 ·rename_i h;simp[Nat.ne_of_beq_eq_false h]
theorem zN.put {n:Nat}{a:Act}{L:Env}(h:zN n a L)(d:Nat)(v:Value)(hd:d<n):zN n (a.put (some d) v) ((d,v)::L):=by
 refine⟨by simp[Act.put,h.size],h.defers,fun t u hu=>?_⟩;rw[vH] at hu;simp only[Act.put];split at hu
 ·subst_vars;cases hu;simp[h.size,hd]
 ·rename_i i;rw[Array.getElem?_setIfInBounds_ne (fun e=>i e.symm)];exact h.has t u hu
def evO (L:Env):Operand->Option Value
 | .tmp t=>look t L
 | .const v=>some v
 | .global g=>some (.pointer (some ⟨g,0,none⟩))
 | .func f=>some (.func (.func f) #[] #[])
theorem zN.eval {n:Nat}{a:Act}{L:Env}(h:zN n a L){x:Operand}{v:Value}(e:evO L x=some v):a.eval x=v:=by
 cases x with
 | tmp t =>
  have:=h.has t v e;simp[Act.eval,Array.getD_eq_getD_getElem?,this]
 | const u=>simpa[evO,Act.eval] using e
 | global g=>simpa[evO,Act.eval] using e
 | func f=>simpa[evO,Act.eval] using e
def rho (L:Env)(x:Operand):Value:=match evO L x with
 | some v=>v
 | none=>undef
def iJ (L:Env):List Operand->Bool
 | []=>true
 | x::r=>match evO L x with
  | some _=>iJ L r
  | none=>false
theorem jN {L:Env}:∀ {l:List Operand},iJ L l=true -> ∀ x∈l,∃ v,evO L x=some v
 | [],_,x,e=>by cases e
 | y::r,h,x,e=>by
  simp only[iJ] at h;split at h
  ·rename_i v hv;cases e with
   | head=>exact⟨v,hv⟩
   | tail _ hm=>exact jN h x hm
  ·cases h
def qS:Op->Bool
 | .select .. => true
 | _=>false
theorem iu {n:Nat}{a:Act}{L:Env}(h:zN n a L){o:Oper}(hs:qS o.op=false)(e:iJ L o.op.operands.toList=true) :
  execOp a.eval o=execOp (rho L) o:=by
 refine execOp_congr o (fun cs b i=>by simp[i,qS] at hs) (fun x j=>?_);obtain⟨v,hv⟩:=jN e x (by simpa using j);rw[h.eval hv];simp[rho,hv]
inductive Ob where
 | cell (a:Addr) (v:Value)
 | p (q:Prop)
def Ob.holds (w:World):Ob->Prop
 | .cell a v=>w.cell? a=some v
 | .p q=>q
def wm (w:World):List Ob->Prop
 | []=>True
 | o::r=>o.holds w/\wm w r
theorem wR {w:World}:∀ {l m:List Ob},wm w (l++m) ↔ wm w l/\wm w m
 | [],m=>by simp[wm]
 | o::l,m=>by simp[wm,wR (l:=l) (m:=m),and_assoc]
def runA (P:Program){α:Type}:Sem α -> List Value->Option (α × List Ob × List Value)
 | .pure a,e=>some (a,[],e)
 | .load _ j k,e=>match e with
  | []=>none
  | v::e=>match runA P (k v) e with
   | some (x,obs,i)=>some (x,.cell j v::obs,i)
   | none=>none
 | .program k,e=>runA P (k P) e
 | .mark _ k,e=>runA P k e
 | _,_=>none
theorem mT (P:Program)(w:World){α:Type}:∀ (s:Sem α) (i:List Value) (x:α) (obs:List Ob) (e:List Value),
  runA P s i=some (x,obs,e)->wm w obs->s.run P w = .ok x w:=by
 intro s;induction s with
 | pure a=>intro i x obs e h _;simp[runA] at h;obtain⟨rfl,_,_⟩:=h;rfl
 | load m z k ih =>
  intro i x obs e h j;cases i with
  | nil=>simp[runA] at h
  | cons v i =>
   simp only[runA] at h;split at h
   ·rename_i y t l u;simp at h;obtain⟨rfl,rfl,rfl⟩:=h;simp only[wm,Ob.holds] at j;simp only[Sem.run,j.1];exact ih v i _ _ _ u j.2
   ·cases h
 | program k ih=>intro i x obs e h j;simp only[runA] at h;simp only[Sem.run];exact ih P i x obs e h j
 | mark m k ih=>intro i x obs e h j;simp only[runA] at h;simp only[Sem.run];exact ih i x obs e h j
 | _=>intro i x obs e h;simp[runA] at h
def yv (base:Option Addr)(cap l size:Nat):Option Addr:=if cap=l then base else base.map (·.add (l*size))
def gn:Option Value->Option Nat
 | none=>some 0
 | some (.int _ i)=>some i.toNat
 | _=>none
def kP:Option Value->Nat->List Ob
 | some (.int _ i),h=>[.p (0<=i/\i<=(h:Int))]
 | _,_=>[]
def lW (len:Nat):Option Value->Option Nat
 | none=>some len
 | some (.int _ i)=>some i.toNat
 | _=>none
def evOp (P:Program)(L:Env)(o:Oper)(j:List Value):Option (Value × List Ob × List Value) :=
 match qS o.op,iJ L o.op.operands.toList with
 | false,true =>
  match o.op with
  | .indexAddr t x i=>match P.underlying t,rho L x,rho L i with
   | some (.slice e),.slice base len _,.int _ z=>match j,P.info? e with
    | .pointer (some ⟨b,off,none⟩)::j,some B=>some (.pointer (some ⟨b,off+z.toNat*B.size,none⟩),[.p (base=some ⟨b,off,none⟩),.p (0<=z/\z<(len:Int))],j)
    | _,_=>none
   | some (.array len e),.pointer (some ⟨b,off,none⟩),.int _ z=>match P.info? e with
    | some B=>some (.pointer (some ⟨b,off+z.toNat*B.size,none⟩),[.p (0<=z/\z<(len:Int))],j)
    | none=>none
   | _,_,_=>none
  | .slice t x lo hi none=>match P.underlying t,rho L x with
   | some (.slice e),.slice base len cap=>match P.info? e,gn (lo.map (rho L)),lW len (hi.map (rho L)) with
    | some B,some l,some h=>match j with
     | .slice D I F::j=>some (.slice D I F,.p (yv base cap l B.size=D) :: .p (h - l=I) :: .p (cap - l=F)::(kP (hi.map (rho L)) cap++kP (lo.map (rho L)) h),j)
     | _=>none
    | _,_,_=>none
   | some .string,.string s=>match gn (lo.map (rho L)),lW s.size (hi.map (rho L)) with
    | some l,some h=>some (.string (s.extract l h),kP (hi.map (rho L)) s.size++kP (lo.map (rho L)) h,j)
    | _,_=>none
   | _,_=>none
  | .binOp .quo _ x y _=>match rho L x,rho L y with
   | .int .i64 a,.int .i64 b=>some (.int .i64 (IntKind.i64.wrap (a.tdiv b)),[.p (b≠0)],j)
   | _,_=>none
  | .binOp .rem _ x y _=>match rho L x,rho L y with
   | .int .i64 a,.int .i64 b=>some (.int .i64 (a.tmod b),[.p (b≠0)],j)
   | _,_=>none
  | .binOp .shl _ x y _=>match rho L x,rho L y with
   | .int k a,.int _ b=>some (.int k (k.wrap (a*2 ^ (min b.toNat k.bits))),[.p (0<=b)],j)
   | _,_=>none
  | .binOp .shr _ x y _=>match rho L x,rho L y with
   | .int k a,.int _ b=>some (.int k (a.fdiv (2 ^ (min b.toNat k.bits))),[.p (0<=b)],j)
   | _,_=>none
  | .index t x i=>match P.underlying t,rho L x,rho L i with
   | some .string,.string s,.int _ z=>match j with
    | .int .u8 c::j=>some (.int .u8 c,[.p (0<=z /\ ∃ u,s[z.toNat]? = some u/\c=(u.toNat:Int))],j)
    | _=>none
   | _,_,_=>none
  | _=>match runA P (execOp (rho L) o) j with
   | some (.value v,obs,A)=>some (v,obs,A)
   | _=>none
 | _,_=>none
theorem uF (b off n:Nat):(⟨b,off,none⟩:Addr).add n=⟨b,off+n,none⟩:=by
 unfold Addr.add;split <;> simp_all
theorem xN (P:Program){t:TypeId}{d:TypeDesc}(h:P.underlying t=some d)(w:World):(underlying t).run P w = .ok d w:=by
 simp[underlying,program,bind,Sem.bind,Sem.run,h,pure]
theorem qk (P:Program){t:TypeId}{i:TypeInfo}(h:P.info? t=some i)(w:World):(sizeOf t).run P w = .ok i.size w:=by
 simp[sizeOf,typeInfo,program,bind,Sem.bind,Sem.run,h,pure]
theorem Bd (P:Program){x:Value}{k:IntKind}{i:Int}{y:Nat}{c:BoundsCode}(e:x = .int k i)(h:0<=i/\i<=(y:Int))(w:World) :
  (Instr.sliceBound x y c).run P w = .ok i.toNat w:=by
 subst e;simp[Instr.sliceBound,asIntOf,bind,Sem.bind,pure,h]
theorem bQ (P:Program){lo:Option Value}{l h:Nat}(hl:gn lo=some l)(w:World)(e:wm w (kP lo h))(c:BoundsCode) :
  (match lo with
   | some v=>Instr.sliceBound v h c
   | none=>(pure 0:Sem Nat)).run P w = .ok l w:=by
 cases lo with
 | none=>simp[gn] at hl;subst hl;rfl
 | some v =>
  cases v <;> simp only[gn] at hl <;> try cases hl
  rename_i k i;simp only[kP,wm,Ob.holds] at e;exact Bd P rfl e.1 w
theorem Al (P:Program){hi:Option Value}{len h cap:Nat}(hl:lW len hi=some h)(w:World)(e:wm w (kP hi cap))(c:BoundsCode) :
  (match hi with
   | some v=>Instr.sliceBound v cap c
   | none=>(pure len:Sem Nat)).run P w = .ok h w:=by
 cases hi with
 | none=>simp[lW] at hl;subst hl;rfl
 | some v =>
  cases v <;> simp only[lW] at hl <;> try cases hl
  rename_i k i;simp only[kP,wm,Ob.holds] at e;exact Bd P rfl e.1 w
theorem jz (P:Program)(b:Bool)(len cap:Nat)(lo hi:Option Value){l h:Nat}(hl:gn lo=some l)(hh:lW len hi=some h)(w:World)
  (t:wm w (kP hi cap)) (j:wm w (kP lo h)):(Instr.sliceBounds b len cap lo hi none).run P w = .ok (l,h,cap) w:=by
 unfold Instr.sliceBounds;cases hi with
 | none =>
  simp only[lW,Option.some.injEq] at hh;subst hh;cases lo with
  | none=>simp only[gn,Option.some.injEq] at hl;subst hl;simp
  | some v =>
   have e:=bQ P hl w j .sliceB;simp only at e;simp[e]
 | some u =>
  have i:=fun c=>Al P hh w t c
  simp only at i;cases lo with
  | none=>simp only[gn,Option.some.injEq] at hl;subst hl;simp[i]
  | some v =>
   have e:=bQ P hl w j .sliceB;simp only at e;simp[e,i]
theorem jF {P:Program}{n:Nat}{a:Act}{L:Env}(hE:zN n a L){o:Oper}{Y:List Value}{v:Value}{obs:List Ob}{O:List Value}
  (h:evOp P L o Y=some (v,obs,O)) {w:World} (z:wm w obs):(execOp a.eval o).run P w = .ok (.value v) w:=by
 unfold evOp at h;split at h
 case h_2=>cases h
 rename_i hs W;rw[iu hE hs W];split at h
 ·
  rename_i t x i j;simp only[execOp,j];split at h
  ·rename_i e base len cap k Z hu A hi;rw[A,hi];split at h
   ·rename_i b off S ti B;simp only[Option.some.injEq,Prod.mk.injEq] at h;obtain⟨rfl,rfl,_⟩:=h;simp only[wm,Ob.holds] at z;obtain⟨rfl,D,-⟩:=z;simp[Instr.indexAt,asIntOf,xN P hu,D,qk P B,uF]
   ·cases h
  ·rename_i len e b off k Z hu A hi;rw[A,hi];split at h
   ·rename_i ti B;simp only[Option.some.injEq,Prod.mk.injEq] at h;obtain⟨rfl,rfl,_⟩:=h;simp only[wm,Ob.holds] at z;obtain⟨D,-⟩:=z;simp[Instr.indexAt,Instr.sureAddr,asIntOf,xN P hu,D,qk P B,uF]
   ·cases h
  ·cases h
 ·
  rename_i t x lo hi j;simp only[execOp,j];split at h
  ·rename_i e base len cap hu A;rw[A];split at h
   ·rename_i ti l hh B hl F;split at h
    ·simp only[Option.some.injEq,Prod.mk.injEq] at h;obtain⟨rfl,rfl,_⟩:=h;simp only[wm,Ob.holds] at z;obtain⟨rfl,rfl,rfl,z⟩:=z;rw[wR] at z;have U:(Instr.sliceBounds true len cap (lo.map (rho L)) (hi.map (rho L)) none).run P w = .ok (l,hh,cap) w:=jz P true _ _ _ _ hl F w z.1 z.2;simp[Instr.sliceAt,Instr.slice,xN P hu,qk P B,yv,U]
    ·cases h
   ·cases h
  ·rename_i s hu A;rw[A];split at h
   ·rename_i l hh hl F;simp only[Option.some.injEq,Prod.mk.injEq] at h;obtain⟨rfl,rfl,_⟩:=h;rw[wR] at z;have U:(Instr.sliceBounds false s.size s.size (lo.map (rho L)) (hi.map (rho L)) none).run P w = .ok (l,hh,s.size) w:=jz P false _ _ _ _ hl F w z.1 z.2;simp[Instr.sliceAt,Instr.slice,xN P hu,U]
   ·cases h
  ·cases h
 ·
  rename_i t x y t2 j;simp only[execOp,j];split at h
  ·rename_i a' J A I;simp only[Option.some.injEq,Prod.mk.injEq] at h;obtain⟨rfl,rfl,_⟩:=h;simp only[wm,Ob.holds] at z;simp[A,I,eqGuard,binOp,Op.intDiv,z.1]
  ·cases h
 ·
  rename_i t x y t2 j;simp only[execOp,j];split at h
  ·rename_i a' J A I;simp only[Option.some.injEq,Prod.mk.injEq] at h;obtain⟨rfl,rfl,_⟩:=h;simp only[wm,Ob.holds] at z;simp[A,I,eqGuard,binOp,Op.intDiv,z.1]
  ·cases h
 ·
  rename_i t x y t2 j;simp only[execOp,j];split at h
  ·rename_i k a' k2 J A I;simp only[Option.some.injEq,Prod.mk.injEq] at h;obtain⟨rfl,rfl,_⟩:=h;simp only[wm,Ob.holds] at z;have D:¬ J<0:=by omega
   simp[A,I,eqGuard,binOp,Op.shift,D]
  ·cases h
 ·
  rename_i t x y t2 j;simp only[execOp,j];split at h
  ·rename_i k a' k2 J A I;simp only[Option.some.injEq,Prod.mk.injEq] at h;obtain⟨rfl,rfl,_⟩:=h;simp only[wm,Ob.holds] at z;have D:¬ J<0:=by omega
   simp[A,I,eqGuard,binOp,Op.shift,D]
  ·cases h
 ·
  rename_i t x i j;simp only[execOp,j];split at h
  ·rename_i s k Z hu A hi;rw[A,hi];split at h
   ·rename_i c S;simp only[Option.some.injEq,Prod.mk.injEq] at h;obtain⟨rfl,rfl,_⟩:=h;simp only[wm,Ob.holds] at z;obtain⟨⟨h0,u,X,rfl⟩,-⟩:=z;simp[Instr.index,asIntOf,xN P hu,h0,X]
   ·cases h
  ·cases h
 ·split at h
  ·rename_i u a0 a1 hr;simp only[Option.some.injEq,Prod.mk.injEq] at h;obtain⟨rfl,rfl,_⟩:=h;exact mT P w _ _ _ _ _ hr z
  ·cases h
def tw (ops:Array Oper)(L:Env)(o:Oper):Option Bool :=
 match o.guard with
 | none=>some true
 | some (j,want)=>match (ops[j]?).bind (·.dst) with
  | some d=>match look d L with
   | some (.bool b)=>some (b == want)
   | some (.tuple _)=>some false
   | _=>none
  | none=>none
theorem wA {n:Nat}{a:Act}{L:Env}(i:zN n a L){ops:Array Oper}{o:Oper}{b:Bool}(h:tw ops L o=some b) :
  Region.wanted o (yielded ops a.tmps)=b:=by
 unfold tw at h;unfold Region.wanted;split at h
 ·rename_i e;rw[e];simpa using h
 ·rename_i j want e;rw[e];simp only;unfold yielded;split at h
  ·rename_i d hd;rw[hd];split at h
   ·rename_i u hu;simp only[bS,i.has _ _ hu];simpa using h
   ·rename_i u hu;simp only[bS,i.has _ _ hu];simpa using h
   ·cases h
  ·cases h
def setE (n:Nat)(d:Option Tmp)(v:Value)(L:Env):Option Env :=
 match d with
 | none=>some L
 | some d=>match Nat.blt d n with
  | true=>some ((d,v)::L)
  | false=>none
theorem qM {n:Nat}{a:Act}{L L':Env}{d:Option Tmp}{v:Value}(e:zN n a L)(h:setE n d v L=some L'):zN n (a.put d v) L':=by
 unfold setE at h;split at h
 ·cases h;exact e
 ·split at h
  ·rename_i hd;cases h;exact e.put _ _ (by simpa[Nat.blt_eq] using hd)
  ·cases h
def oX (P:Program)(n:Nat)(ops:Array Oper):List Nat->Env->List Value->Option (Env × List Ob)
 | [],L,_=>some (L,[])
 | i::is,L,j=>match ops[i]? with
  | none=>none
  | some o=>match tw ops L o with
   | none=>none
   | some false=>match setE n o.dst undef L with
    | some L1=>oX P n ops is L1 j
    | none=>none
   | some true=>match evOp P L o j with
    | none=>none
    | some (v,obs,l)=>match setE n o.dst v L with
     | none=>none
     | some L1=>match oX P n ops is L1 l with
      | some (L2,e)=>some (L2,obs++e)
      | none=>none
def sel:List Nat->Env->Option Env
 | [],_=>some []
 | k::ks,L=>match look k L with
  | none=>none
  | some v=>match sel ks L with
   | none=>none
   | some r=>some ((k,v)::r)
theorem qK {n:Nat}{a:Act}{L:Env}(e:zN n a L):∀ {ks:List Nat}{Lo:Env},sel ks L=some Lo->zN n a Lo
 | [],Lo,h=>by simp[sel] at h;subst h;exact⟨e.size,e.defers,fun t v hv=>by simp[look] at hv⟩
 | k::ks,Lo,h=>by
  simp only[sel] at h;split at h
  ·cases h
  ·rename_i v hv;split at h
   ·cases h
   ·rename_i r i;cases h;have ih:=qK e i;refine⟨e.size,e.defers,fun t u hu=>?_⟩;rw[vH] at hu;split at hu
    ·subst_vars;cases hu;exact e.has _ _ hv
    ·exact ih.has t u hu
def kv (P:Program)(n:Nat)(ops:Array Oper)(is:List Nat)(L:Env)(e:List Value)(ks:List Nat):Option (Env × List Ob) :=
 match oX P n ops is L e with
 | none=>none
 | some (L1,obs)=>match sel ks L1 with
  | some Lo=>some (Lo,obs)
  | none=>none
theorem lT {P:Program}{n:Nat}{ops:Array Oper}{Q:Exit->Act->World->Prop}{w:World}{rest:List Nat} :
  ∀ (is:List Nat) (a:Act) (L:Env) (l:List Value) (L':Env) (obs:List Ob),zN n a L->oX P n ops is L l=some (L',obs)->wm w obs ->
   (∀ a',zN n a' L'->wpOps P ops Q rest a' w)->wpOps P ops Q (is++rest) a w:=by
 intro is;induction is with
 | nil=>intro a L l L' obs e h t hk;simp[oX] at h;obtain⟨rfl,rfl⟩:=h;exact hk a e
 | cons i is ih =>
  intro a L l L' obs e h t hk;rw[List.cons_append,wpOps_cons];simp only[oX] at h;split at h
  ·cases h
  ·rename_i o x;unfold wpOp;simp only[x];split at h
   ·cases h
   ·rename_i hw;rw[wA e hw];split at h
    ·rename_i L1 j;exact ih _ _ _ _ _ (qM e j) h t hk
    ·cases h
   ·rename_i hw;rw[wA e hw];split at h
    ·cases h
    ·rename_i v y A hv;split at h
     ·cases h
     ·rename_i L1 j;split at h
      ·rename_i L2 z u;cases h;rw[wR] at t;have B:=jF e hv t.1;simp only[if_true];refine .inl ?_;unfold Oper.wp;rw[B];exact ih _ _ _ _ _ (qM e j) u t.2 hk
      ·cases h
def ym (P:Program)(f:FuncId)(args:Array Value)(w:World)(R:Value->World->Prop):Prop :=
 Calls P f args w fun e w'=>∃ v,e = .returned v/\R v w'
theorem ym.mono {P:Program}{f:FuncId}{args:Array Value}{w:World}{R e:Value->World->Prop}(h:ym P f args w R)(i:∀ v w',R v w'->e v w'):ym P f args w e :=
 Calls.mono h fun _ _ ⟨v,he,hv⟩=>⟨v,he,i _ _ hv⟩
def Runs (P:Program)(f:FuncId)(todo:List Item)(a:Act)(w:World)(R:Value->World->Prop):Prop :=
 ∀ (b:Frame),b.fn=f->b.kind = .normal -> ∀ cs,∃ v w' fr,R v w'/\Steps P (lone (b.at a todo) cs w) (lone fr cs w')/\fr.fn=f/\fr.leaving P w' (.returned v)
def mw:Nat->List Value->Env
 | _,[]=>[]
 | i,v::r=>(i,v)::mw (i+1) r
theorem ld:∀ (l:List Value) (i t:Nat) (v:Value),look t (mw i l)=some v->i<=t/\l[t - i]? = some v
 | [],i,t,v,h=>by simp[mw,look] at h
 | u::l,i,t,v,h=>by
  simp only[mw] at h;rw[vH] at h;split at h
  ·subst_vars;cases h;simp
  ·rename_i e;obtain⟨h1,h2⟩:=ld l (i+1) t v h;refine⟨by omega,?_⟩;have:t - i=(t - (i+1))+1:=by omega
   rw[this];simpa using h2
section
variable {P:Program} {f:FuncId} {k:List Item} {a:Act} {w:World} {R:Value->World->Prop}
theorem enter {fn:Func}{c:Code}{args:List Value}{n:Nat}(hf:P.funcs[f]? = some fn)(l:fn.body=some c)(hn:fn.ntmps=n)(hl:Nat.ble args.length n=true)
  (h:∀ a,zN n a (mw 0 args)->Runs P f [.code c] a w R):ym P f args.toArray w R:=by
 intro cs;have u:args.length<=n:=Nat.le_of_ble_eq_true hl
 let b:Frame:={ (default:Frame) with fn:=f,kind:=.normal }
 have e:Frame.enter P f args.toArray .normal =
   b.at { tmps:=args.toArray++Array.replicate (fn.ntmps - args.toArray.size) undef,defers:=[] } [.code c]:=by
  simp[Frame.enter,Frame.at,hf,l,b]
 obtain⟨v,w',fr,j,hs,h1,h2⟩:=h { tmps:=args.toArray++Array.replicate (fn.ntmps - args.toArray.size) undef,defers:=[] } ⟨by simp[hn];omega,rfl,fun t v hv=>by
  obtain⟨_,h2⟩:=ld _ _ _ _ hv;simp only[Nat.sub_zero] at h2;have i:t<args.length:=(List.getElem?_eq_some_iff.1 h2).1;rw[Array.getElem?_append_left (by simpa using i)];simpa using h2⟩ b rfl rfl cs
 exact⟨.returned v,w',fr,⟨v,rfl,j⟩,by rw[e];exact hs,h1,h2⟩
theorem Runs.step {todo todo':List Item}{a':Act}{w':World}(hs:∀ (b:Frame) cs,step P (lone (b.at a todo) cs w) = .next (lone (b.at a' todo') cs w'))(h:Runs P f todo' a' w' R):Runs P f todo a w R :=
 fun b i hk cs=>let ⟨v,j,fr,e,h1,h2⟩:=h b i hk cs; ⟨v,j,fr,e,.head (hs b cs) h1,h2⟩
theorem Runs.skip (h:Runs P f k a w R):Runs P f (.code .skip::k) a w R:=.step (fun _ _=>step_skip) h
theorem Runs.label {l:Nat}(h:Runs P f k a w R):Runs P f (.code (.label l)::k) a w R:=.step (fun _ _=>step_label) h
theorem Runs.inBlock {id:Nat}(h:Runs P f k a w R):Runs P f (.inBlock id::k) a w R:=.step (fun _ _=>step_inBlock) h
theorem Runs.seq {x y:Code}(h:Runs P f (.code x :: .code y::k) a w R):Runs P f (.code (.seq x y)::k) a w R:=.step (fun _ _=>step_seq) h
theorem Runs.block {id:Nat}{c:Code}(h:Runs P f (.code c :: .inBlock id::k) a w R):Runs P f (.code (.block id c)::k) a w R:=.step (fun _ _=>step_block) h
theorem Runs.exit {id:Nat}{e:List Item}(he:exitTo id k=some e)(h:Runs P f e a w R):Runs P f (.code (.exit id)::k) a w R:=.step (fun _ _=>step_exit he) h
theorem Runs.inLoop {c:Code}(h:Runs P f (.code c :: .inLoop c::k) a w R):Runs P f (.inLoop c::k) a w R:=.step (fun _ _=>step_inLoop) h
theorem Runs.cond {n:Nat}{L:Env}{c:Operand}{x y:Code}{t:Bool}(e:zN n a L)(i:evO L c=some (.bool t))(h1:t=true->Runs P f (.code x::k) a w R)(h2:t=false->Runs P f (.code y::k) a w R) :
  Runs P f (.code (.cond c x y)::k) a w R:=by
 cases t
 ·exact .step (fun _ _=>step_cond (e.eval i)) (h2 rfl)
 ·exact .step (fun _ _=>step_cond (e.eval i)) (h1 rfl)
theorem Runs.rF {n:Nat}{L:Env}{c:Operand}{x y:Code}(e:zN n a L)(i:evO L c=some (.bool true))(h1:Runs P f (.code x::k) a w R) :
  Runs P f (.code (.cond c x y)::k) a w R:=.step (fun _ _=>step_cond (e.eval i)) h1
theorem Runs.tD {n:Nat}{L:Env}{c:Operand}{x y:Code}(e:zN n a L)(i:evO L c=some (.bool false))(h1:Runs P f (.code y::k) a w R) :
  Runs P f (.code (.cond c x y)::k) a w R:=.step (fun _ _=>step_cond (e.eval i)) h1
theorem Runs.Bk {c:Code}(h:Runs P f (.code c :: .inLoop c::k) a w R):Runs P f (.code (.loop c)::k) a w R:=.step (fun _ _=>step_loop) h
theorem Runs.loop {c:Code}(I:Nat->Act->World->Prop)(N:Nat)(h0:I N a w)
  (round:∀ m,(∀ e,e<m -> ∀ a w,I e a w->Runs P f (.inLoop c::k) a w R) -> ∀ a w,I m a w->Runs P f (.code c :: .inLoop c::k) a w R):Runs P f (.code (.loop c)::k) a w R:=by
 have key:∀ m a w,I m a w->Runs P f (.code c :: .inLoop c::k) a w R:=by
  intro m;induction m using Nat.strongRecOn with
  | _ m ih=>exact round m fun e i a w j=>.inLoop (ih e i a w j)
 exact .step (fun _ _=>step_loop) (key N a w h0)
def fP (L:Env):List ResultVar->Option (List Value)
 | []=>some []
 | .tmp t::r=>match look t L,fP L r with
  | some v,some vs=>some (v::vs)
  | _,_=>none
 | .cell _ _::_=>none
def sM:List Value->Value
 | [v]=>v
 | vs=>.tuple vs.toArray
theorem lR {n:Nat}{L:Env}(i:zN n a L):∀ (rs:List ResultVar) (vs:List Value),fP L rs=some vs ->
  (rs.mapM fun (x:ResultVar)=>match x with
   | .tmp t=>(pure (a.tmps.getD t undef):Sem Value)
   | .cell x t=>do loadVar t (<- asAddr (a.tmps.getD x undef))).run P w = .ok vs w
 | [],vs,h=>by simp[fP] at h;subst h;simp
 | .tmp t::r,vs,h=>by
  simp only[fP] at h;split at h
  ·rename_i v us hv e;cases h;have ih:=lR i r us e;have:=i.has _ _ hv;simp only[Array.getD_eq_getD_getElem?] at ih ⊢;simp only[List.mapM_cons,Sem.run_bind,Sem.run_pure,Result.andThen_ok,this,Option.getD_some];rw[ih]
   rfl
  ·cases h
 | .cell _ _::_,vs,h=>by simp[fP] at h
theorem Runs.ret {n:Nat}{L:Env}{fn:Func}{rs:List ResultVar}{vs:List Value}(e:zN n a L)(hf:P.funcs[f]? = some fn)(j:fn.results=rs.toArray)(hv:fP L rs=some vs)(h:R (sM vs) w) :
  Runs P f (.code .ret::k) a w R:=by
 intro b i hk cs;refine⟨sM vs,w,_,h,.one step_ret,by simp[Frame.at,i],rfl,e.defers,hk,fn,by simpa[Frame.at,i] using hf,?_⟩;have:=lR (P:=P) (w:=w) e rs vs hv;unfold results;simp only[Frame.at,j,List.mapM_toArray,Sem.run_bind,Sem.run_map]
 erw [this]
 simp only[Result.andThen_ok]
 match vs with
 | []=>simp[sM]
 | [v]=>simp[sM]
 | v::u::r=>simp[sM]
theorem Runs.fin {n:Nat}{L:Env}{fn:Func}{rs:List ResultVar}{vs:List Value}(e:zN n a L)(hf:P.funcs[f]? = some fn)(j:fn.results=rs.toArray)(hv:fP L rs=some vs)(h:R (sM vs) w) :
  Runs P f [] a w R:=by
 intro b i hk cs;refine⟨sM vs,w,_,h,.one step_end,by simp[Frame.at,i],rfl,e.defers,hk,fn,by simpa[Frame.at,i] using hf,?_⟩;have:=lR (P:=P) (w:=w) e rs vs hv;unfold results;simp only[Frame.at,j,List.mapM_toArray,Sem.run_bind,Sem.run_map]
 erw [this]
 simp only[Result.andThen_ok]
 match vs with
 | []=>simp[sM]
 | [v]=>simp[sM]
 | v::u::r=>simp[sM]
def oO (P:Program)(L:Env):List ResultVar->List Value->Option (List Value × List Ob)
 | [],_=>some ([],[])
 | .tmp t::r,e=>match look t L,oO P L r e with
  | some v,some (vs,obs)=>some (v::vs,obs)
  | _,_=>none
 | .cell x t::r,e=>match look x L with
  | some (.pointer (some l))=>match runA P (loadVar t l) e with
   | some (v,obs,j)=>match oO P L r j with
    | some (vs,i)=>some (v::vs,obs++i)
    | none=>none
   | none=>none
  | _=>none
theorem my {n:Nat}{L:Env}(y:zN n a L):∀ (rs:List ResultVar) (e:List Value) (vs:List Value) (obs:List Ob),oO P L rs e=some (vs,obs)->wm w obs ->
  (rs.mapM fun (x:ResultVar)=>match x with
   | .tmp t=>(pure (a.tmps.getD t undef):Sem Value)
   | .cell x t=>do loadVar t (<- asAddr (a.tmps.getD x undef))).run P w = .ok vs w
 | [],e,vs,obs,h,_=>by simp[oO] at h;obtain⟨rfl,_⟩:=h;simp
 | .tmp t::r,e,vs,obs,h,j=>by
  simp only[oO] at h;split at h
  ·rename_i v us obs hv i;cases h;have ih:=my y r e us obs i j;have:=y.has _ _ hv;simp only[Array.getD_eq_getD_getElem?] at ih ⊢;simp only[List.mapM_cons,Sem.run_bind,Sem.run_pure,Result.andThen_ok,this,Option.getD_some];rw[ih]
   rfl
  ·cases h
 | .cell x t::r,e,vs,obs,h,j=>by
  simp only[oO] at h;split at h
  ·rename_i z hv;split at h
   ·rename_i v A u B;split at h
    ·rename_i us l i;cases h;rw[wR] at j;have ih:=my y r u us l i j.2;have h1:=mT P w _ _ _ _ _ B j.1;have:=y.has _ _ hv;have h3:(asAddr (.pointer (some z))).run P w = .ok z w:=rfl;simp only[Array.getD_eq_getD_getElem?] at ih ⊢;simp only[List.mapM_cons,Sem.run_bind,Sem.run_pure,Result.andThen_ok,this,Option.getD_some,h3,h1];rw[ih]
     rfl
    ·cases h
   ·cases h
  ·cases h
theorem Runs.retO {n:Nat}{L:Env}{fn:Func}{rs:List ResultVar}{vs:List Value}{obs:List Ob}(i:zN n a L)(hf:P.funcs[f]? = some fn)(t:fn.results=rs.toArray)(e:List Value)(hv:oO P L rs e=some (vs,obs))(l:wm w obs)(h:R (sM vs) w) :
  Runs P f (.code .ret::k) a w R:=by
 intro b j hk cs;refine⟨sM vs,w,_,h,.one step_ret,by simp[Frame.at,j],rfl,i.defers,hk,fn,by simpa[Frame.at,j] using hf,?_⟩;have:=my (P:=P) (w:=w) i rs e vs obs hv l;unfold results;simp only[Frame.at,t,List.mapM_toArray,Sem.run_bind,Sem.run_map]
 erw [this]
 simp only[Result.andThen_ok]
 match vs with
 | []=>simp[sM]
 | [v]=>simp[sM]
 | v::u::r=>simp[sM]
def RQ (P:Program)(f:FuncId)(k:List Item)(R:Value->World->Prop):Exit->Act->World->Prop
 | .normal,a,w=>Runs P f k a w R
 | _,_,_=>False
def WR (P:Program)(f:FuncId)(ops:Array Oper)(i:Nat)(k:List Item)(a:Act)(w:World)(R:Value->World->Prop):Prop :=
 wpOps P ops (RQ P f k R) (List.range' i (ops.size - i)) a w
theorem Runs.gz {ops:Array Oper}{is:List Nat}(h:wpOps P ops (RQ P f k R) is a w):Runs P f (.inRegion ops is::k) a w R:=by
 intro b l hk cs;obtain⟨e,a',w',hq,i⟩:=wp_ops is a w h b k cs;cases e with
 | normal =>
  obtain⟨v,t,fr,j,h1,h2⟩:=hq b l hk cs;exact⟨v,t,fr,j,i.trans h1,h2⟩
 | _=>exact hq.elim
theorem Runs.region {id:Nat}{ops:Array Oper}(h:WR P f ops 0 k a w R):Runs P f (.code (.region id ops false)::k) a w R:=by
 refine .step (fun _ _=>step_region) (Runs.gz ?_);unfold WR at h;rw[List.range_eq_range'];simpa using h
theorem WR.done {ops:Array Oper}{i:Nat}(hi:Nat.ble ops.size i=true)(h:Runs P f k a w R):WR P f ops i k a w R:=by
 have:ops.size - i=0:=by have:=Nat.le_of_ble_eq_true hi;omega
 simp[WR,this,wpOps,RQ];exact h
theorem WR.seg {ops:Array Oper}{i n:Nat}{L:Env}(A:zN n a L)(j:Nat)(t:List Value)(ks:List Nat){Lo:Env}{obs:List Ob}
  (hj:(Nat.ble i j && Nat.ble j ops.size)=true) (he:kv P n ops (List.range' i (j - i)) L t ks=some (Lo,obs)) (B:wm w obs)
  (hk:∀ a',zN n a' Lo->WR P f ops j k a' w R):WR P f ops i k a w R:=by
 simp only[Bool.and_eq_true] at hj;have h1:=Nat.le_of_ble_eq_true hj.1;have h2:=Nat.le_of_ble_eq_true hj.2;unfold WR;have D:List.range' i (ops.size - i)=List.range' i (j - i)++List.range' j (ops.size - j):=by
  have y:ops.size - i=(j - i)+(ops.size - j):=by omega
  have z:i+(j - i)=j:=by omega
  rw[y,<- List.range'_append_1,z]
 rw[D];unfold kv at he;split at he
 ·cases he
 ·rename_i L1 u hs;split at he
  ·rename_i x e;cases he;exact lT _ _ _ _ _ _ A hs B fun a' l=>hk a' (qK l e)
  ·cases he
def OpTo (P:Program)(o:Oper)(a:Act)(w:World)(e:Value->World->Prop):Prop :=
 match (execOp a.eval o).run P w with
 | .ok (.value v) w'=>e v w'
 | .ok .skip w'=>e undef w'
 | .ok (.enter g args) w'=>ym P g args w' e
 | _=>False
theorem OpTo.mono {o:Oper}{i e:Value->World->Prop}(h:OpTo P o a w i)(j:∀ v w',i v w'->e v w'):OpTo P o a w e:=by
 unfold OpTo at *
 generalize (execOp a.eval o).run P w=r at *
 cases r with
 | ok n w'=>cases n <;> first|exact j _ _ h|exact ym.mono h j|exact h.elim
 | halt x w'=>exact h.elim
theorem OpTo.wp {o:Oper}{ar:Act}{i:Value->World->Prop}{K:Act->World->Prop}{Q:Exit->Act->World->Prop}(he:execOp a.eval o=execOp ar.eval o)(h:OpTo P o a w i)
  (j:∀ v w',i v w'->K (ar.put o.dst v) w'):o.wp P ar w K Q:=by
 unfold OpTo at h;unfold Oper.wp;rw[he] at h;generalize (execOp ar.eval o).run P w=r at *
 cases r with
 | ok n w' =>
  cases n <;> simp only[Oper.upon] at h ⊢ <;> first|exact j _ _ h|exact h.elim|skip
  exact Calls.mono h fun e l ⟨v,he,hv⟩=>by subst he;exact j _ _ hv
 | halt x w'=>exact h.elim
theorem WR.eff {ops:Array Oper}{i n d:Nat}{L:Env}{o:Oper}{e:Value->World->Prop}(j:zN n a L)(hi:ops[i]? = some o)(hd:o.dst=some d)(hn:Nat.blt d n=true)(hw:tw ops L o=some true)
  (h:OpTo P o a w e) (hk:∀ v w',e v w' -> ∀ a',zN n a' ((d,v)::L)->WR P f ops (i+1) k a' w' R):WR P f ops i k a w R:=by
 unfold WR at *
 have l:i<ops.size:=(Array.getElem?_eq_some_iff.1 hi).1;have:ops.size - i=(ops.size - (i+1))+1:=by omega
 rw[this,List.range'_succ,wpOps_cons];unfold wpOp;simp only[hi,wA j hw,if_true];exact .inl (h.wp rfl fun v w' hv=>hk v w' hv _ (by rw[hd];exact j.put _ _ (by simpa[Nat.blt_eq] using hn)))
theorem WR.eff0 {ops:Array Oper}{i n:Nat}{L:Env}{o:Oper}{e:Value->World->Prop}(j:zN n a L)(hi:ops[i]? = some o)(hd:o.dst=none)(hw:tw ops L o=some true)
  (h:OpTo P o a w e) (hk:∀ v w',e v w' -> ∀ a',zN n a' L->WR P f ops (i+1) k a' w' R):WR P f ops i k a w R:=by
 unfold WR at *
 have l:i<ops.size:=(Array.getElem?_eq_some_iff.1 hi).1;have:ops.size - i=(ops.size - (i+1))+1:=by omega
 rw[this,List.range'_succ,wpOps_cons];unfold wpOp;simp only[hi,wA j hw,if_true];exact .inl (h.wp rfl fun v w' hv=>hk v w' hv _ (by rw[hd];exact j))
end
def listed (m:Nat)(dn:List Nat):Array Bool:=dn.foldl (fun b i=>b.setIfInBounds i true) (Array.replicate m false)
theorem lZ (m:Nat)(dn:List Nat)(i:Nat):listed m (dn++[i])=(listed m dn).setIfInBounds i true:=by simp[listed]
section
variable {P:Program} {f:FuncId} {k:List Item} {a:Act} {w:World} {R:Value->World->Prop} {ops:Array Oper}
theorem Runs.of_wp {c:Code}(h:c.wp P (RQ P f k R) a w):Runs P f (.code c::k) a w R:=by
 intro b l hk cs;obtain⟨e,a',w',hq,i⟩:=h b k cs;cases e with
 | normal =>
  obtain⟨v,t,fr,j,h1,h2⟩:=hq b l hk cs;exact⟨v,t,fr,j,i.trans h1,h2⟩
 | _=>exact hq.elim
end
theorem OpTo.of_run {P:Program}{o:Oper}{a:Act}{w w':World}{v:Value}{e:Value->World->Prop}(h:(execOp a.eval o).run P w = .ok (.value v) w')(hv:e v w'):OpTo P o a w e:=by
 unfold OpTo;rw[h];exact hv
theorem OpTo.fW {P:Program}{o:Oper}{a:Act}{w w':World}{e:Value->World->Prop}(h:(execOp a.eval o).run P w = .ok .skip w')(hv:e undef w'):OpTo P o a w e:=by
 unfold OpTo;rw[h];exact hv
theorem OpTo.AB {P:Program}{o:Oper}{a:Act}{w w':World}{g:FuncId}{args:Array Value}{e:Value->World->Prop}(h:(execOp a.eval o).run P w = .ok (.enter g args) w')(hv:ym P g args w' e):OpTo P o a w e:=by
 unfold OpTo;rw[h];exact hv
def nG (L:Env):List Operand->Option (List Value)
 | []=>some []
 | x::r=>match evO L x,nG L r with
  | some v,some vs=>some (v::vs)
  | _,_=>none
theorem lS {n:Nat}{a:Act}{L:Env}(i:zN n a L):∀ (l:List Operand) (vs:List Value),nG L l=some vs->l.map a.eval=vs
 | [],vs,h=>by simp[nG] at h;simp[h]
 | x::r,vs,h=>by
  simp only[nG] at h;split at h
  ·rename_i v us hv e;cases h;simp[i.eval hv,lS i r us e]
  ·cases h
def callParts:Op->Option (Operand × List Operand)
 | .call { callee:=.value g,args,.. }=>some (g,args.toList)
 | _=>none
theorem OpTo.call {P:Program}{n:Nat}{a:Act}{L:Env}{w:World}{o:Oper}{x:Operand}{xs:List Operand}{g:FuncId}{first captured:Array Value}{vs:List Value}{l:Value->World->Prop}(t:zN n a L)
  (i:callParts o.op=some (x,xs)) (z:evO L x=some (.func (.func g) first captured)) (j:nG L xs=some vs)
  (y:∀ args w,(callFunc g args).run P w = .ok (.enter g args) w) (h:ym P g (first++vs.toArray++captured) w l):OpTo P o a w l:=by
 obtain⟨dst,op,type,pos,after,guard⟩:=o;cases op <;> simp only[callParts] at i <;> try cases i
 rename_i c;obtain⟨callee,args,ats⟩:=c;cases callee <;> simp only at i <;> try cases i
 refine OpTo.AB ?_ h;have e:=lS t _ _ j;have u:args.map a.eval=vs.toArray:=by
  apply Array.ext';simpa using e
 simp[execOp,resolve,Deferred.ofValue,t.eval z,invoke,y,u]
theorem OpTo.fn {P:Program}{n:Nat}{a:Act}{L:Env}{w:World}{o:Oper}{xs:List Operand}{g:FuncId}{vs:List Value}{i:Value->World->Prop}(j:zN n a L)
  (t:callParts o.op=some (.func g,xs)) (e:nG L xs=some vs)
  (l:∀ args w,(callFunc g args).run P w = .ok (.enter g args) w) (h:ym P g vs.toArray w i):OpTo P o a w i :=
 OpTo.call j t (first:=#[]) (captured:=#[]) rfl e l (by simpa using h)
end Go.Th
end
namespace Go.Th
noncomputable section
abbrev Hp:=Nat->Option Obj
abbrev HP:=Hp->Prop
def Sub (h g:Hp):Prop:=∀ b o,h b=some o->g b=some o
def Disj (h g:Hp):Prop:=∀ b,h b=none \/ g b=none
theorem Sub.refl (h:Hp):Sub h h:=fun _ _ h=>h
theorem Sub.trans {a b c:Hp}(h:Sub a b)(g:Sub b c):Sub a c:=fun x o e=>g x o (h x o e)
def sepL:List HP->HP
 | [],_=>True
 | A::L,h=>∃ h1 h2,Disj h1 h2/\Sub h1 h/\Sub h2 h/\A h1/\sepL L h2
theorem kB:∀ {L:List HP}{h g:Hp},Sub h g->sepL L h->sepL L g
 | [],_,_,_,_=>trivial
 | A::L,h,g,hs,⟨h1,h2,hd,s1,s2,hA,e⟩=>⟨h1,h2,hd,s1.trans hs,s2.trans hs,hA,e⟩
def union (h g:Hp):Hp:=fun b=>match h b with
 | some o=>some o
 | none=>g b
theorem qt (h g:Hp):Sub h (union h g):=fun b o e=>by simp[union,e]
theorem rV {h g:Hp}(hd:Disj h g):Sub g (union h g):=fun b o e=>by
 rcases hd b with h1|h1
 ·simp[union,h1,e]
 ·simp[h1] at e
theorem kM {h g k:Hp}(h1:Sub h k)(h2:Sub g k):Sub (union h g) k:=fun b o e=>by
 unfold union at e;split at e
 ·rename_i x i;cases e;exact h1 _ _ i
 ·exact h2 _ _ e
theorem ow {a b a' e:Hp}(h:Disj a b)(h1:Sub a' a)(h2:Sub e b):Disj a' e:=fun x=>by
 rcases h x with h|h
 ·left
  cases i:a' x with
  | none=>rfl
  | some o=>rw[h1 x o i] at h;cases h
 ·right
  cases i:e x with
  | none=>rfl
  | some o=>rw[h2 x o i] at h;cases h
theorem pn:∀ {L M:List HP}{h:Hp},sepL (L++M) h ↔ ∃ h1 h2,Disj h1 h2/\Sub h1 h/\Sub h2 h/\sepL L h1/\sepL M h2
 | [],M,h=>by
  constructor
  ·intro j;exact⟨fun _=>none,h,fun _=>.inl rfl,fun _ _ B=>by simp at B,Sub.refl _,trivial,j⟩
  ·rintro⟨h1,h2,hd,s1,s2,_,j⟩;exact kB s2 j
 | A::L,M,h=>by
  constructor
  ·rintro⟨h1,h2,hd,s1,s2,hA,t⟩;obtain⟨g1,g2,gd,t1,t2,l,j⟩:=pn.1 t;refine⟨union h1 g1,g2,?_,kM s1 (t1.trans s2),t2.trans s2,⟨h1,g1,ow hd (Sub.refl _) t1,qt _ _,rV (ow hd (Sub.refl _) t1),hA,l⟩,j⟩;intro b;rcases hd b with e|e
   ·rcases gd b with i|i
    ·left;simp[union,e,i]
    ·right;exact i
   ·right
    cases u:g2 b with
    | none=>rfl
    | some o=>rw[t2 b o u] at e;cases e
  ·rintro⟨h1,h2,hd,s1,s2,⟨y,k2,kd,z,x,hA,l⟩,j⟩;refine⟨y,union k2 h2,?_,z.trans s1,kM (x.trans s1) s2,hA,pn.2 ⟨k2,h2,ow hd x (Sub.refl _),qt _ _,rV (ow hd x (Sub.refl _)),l,j⟩⟩;intro b;rcases kd b with e|e
   ·left;exact e
   ·rcases hd b with i|i
    ·left
     cases u:y b with
     | none=>rfl
     | some o=>rw[z b o u] at i;cases i
    ·right;simp[union,e,i]
theorem aE {A B:HP}{L:List HP}{h:Hp}(H:sepL (A::B::L) h):sepL (B::A::L) h:=by
 obtain⟨h1,h2,hd,s1,s2,hA,g1,g2,gd,t1,t2,j,l⟩:=H;refine⟨g1,union h1 g2,?_,t1.trans s2,kM s1 (t2.trans s2),j,h1,g2,ow hd (Sub.refl _) t2,qt _ _,rV (ow hd (Sub.refl _) t2),hA,l⟩;intro b;rcases gd b with e|e
 ·left;exact e
 ·rcases hd b with i|i
  ·right;simp[union,e,i]
  ·left
   cases t:g1 b with
   | none=>rfl
   | some o=>rw[t1 b o t] at i;cases i
theorem aD {L M:List HP}(hp:L.Perm M):∀ {h:Hp},sepL L h->sepL M h:=by
 induction hp with
 | nil=>exact fun h=>h
 | cons x _ ih=>rintro h ⟨h1,h2,hd,s1,s2,hA,j⟩;exact⟨h1,h2,hd,s1,s2,hA,ih j⟩
 | swap x y l=>exact fun h=>aE h
 | trans _ _ e i=>exact fun h=>i (e h)
def hpOf (w:World):Hp:=fun b=>w.heap[b]?
structure St (w0:World) (As:List HP) (w:World):Prop where
 os:w.os=w0.os
 tape:w.tape=w0.tape
 output:w.output=w0.output
 heap:sepL As (hpOf w)
theorem St.perm {w0 w:World}{As Bs:List HP}(H:St w0 As w)(hp:As.Perm Bs):St w0 Bs w:=⟨H.os,H.tape,H.output,aD hp H.heap⟩
def cq {α:Type}:List Nat->List α -> List α
 | [],_=>[]
 | i::is,L=>match L[i]? with
  | some x=>x::cq is L
  | none=>cq is L
def memB (i:Nat):List Nat->Bool
 | []=>false
 | j::r=>match Nat.beq i j with
  | true=>true
  | false=>memB i r
def cl:List Nat->Nat->Bool
 | is,0=>match is with
  | []=>true
  | _::_=>false
 | is,n+1=>memB n is && cl (is.erase n) n
theorem dg:∀ {l:List Nat}{i:Nat},memB i l=true->i∈l
 | [],i,h=>by simp[memB] at h
 | j::r,i,h=>by
  simp only[memB] at h;split at h
  ·rename_i e;simp[Nat.eq_of_beq_eq_true e]
  ·exact mC _ (dg h)
theorem mO:∀ {n:Nat}{is:List Nat},cl is n=true->is.Perm (List.range n)
 | 0,is,h=>by
  cases is with
  | nil=>simp
  | cons _ _=>simp[cl] at h
 | n+1,is,h=>by
  simp only[cl,Bool.and_eq_true] at h;rw[List.range_succ];have h1:=List.perm_cons_erase (dg h.1);exact h1.trans (((mO h.2).cons n).trans (List.perm_append_singleton n (List.range n)).symm)
theorem iR {α:Type}(L:List α):∀ is:List Nat,cq is L=is.filterMap (L[·]?)
 | []=>rfl
 | i::is=>by
  simp only[cq,List.filterMap_cons,iR L is];cases L[i]? <;> rfl
theorem rJ {α:Type}:∀ (L:List α),(List.range L.length).filterMap (L[·]?)=L
 | []=>rfl
 | x::L=>by
  rw[lC,List.range_succ_eq_map,List.filterMap_cons];simp only[List.getElem?_cons_zero,List.filterMap_map];congr 1;have:((fun i=>(x::L)[i]?) ∘ Nat.succ)=fun i=>L[i]?:=by funext i;simp
  rw[this];exact rJ L
theorem St.idx {w0 w:World}{As:List HP}(H:St w0 As w)(is:List Nat)(h:cl is As.length=true):St w0 (cq is As) w:=by
 refine H.perm ?_;rw[iR];have:=(mO h).filterMap (As[·]?);rw[rJ] at this;exact this.symm
theorem St.ix {w0 w:World}{As:List HP}(H:St w0 As w)(is:List Nat)(h:cl is (As.take is.length).length=true):St w0 (cq is (As.take is.length)++As.drop is.length) w:=by
 refine H.perm ?_;have h0:As=As.take is.length++As.drop is.length:=(List.take_append_drop _ _).symm
 conv=>lhs;rw[h0]
 refine List.Perm.append_right _ ?_;rw[iR];have:=(mO h).filterMap ((As.take is.length)[·]?);rw[rJ] at this;exact this.symm
theorem St.drop {w0 w:World}{A:HP}{As:List HP}(H:St w0 (A::As) w):St w0 As w:=by
 obtain⟨h1,h2,_,_,s2,_,e⟩:=H.heap;exact⟨H.os,H.tape,H.output,kB s2 e⟩
theorem St.flat {w0 w:World}{Bs As:List HP}(H:St w0 (sepL Bs::As) w):St w0 (Bs++As) w :=
 ⟨H.os,H.tape,H.output,pn.2 H.heap⟩
theorem St.group {w0 w:World}(Bs:List HP){As:List HP}(H:St w0 (Bs++As) w):St w0 (sepL Bs::As) w :=
 ⟨H.os,H.tape,H.output,pn.1 H.heap⟩
theorem St.head {w0 w:World}{A B:HP}{As:List HP}(H:St w0 (A::As) w)(h:∀ h,A h->B h):St w0 (B::As) w:=by
 obtain⟨h1,h2,hd,s1,s2,hA,e⟩:=H.heap;exact⟨H.os,H.tape,H.output,h1,h2,hd,s1,s2,h _ hA,e⟩
theorem St.ex {w0 w:World}{α:Sort _}{A:α -> HP}{As:List HP}(H:St w0 ((fun h=>∃ x,A x h)::As) w):∃ x,St w0 (A x::As) w:=by
 obtain⟨h1,h2,hd,s1,s2,⟨x,hA⟩,e⟩:=H.heap;exact⟨x,H.os,H.tape,H.output,h1,h2,hd,s1,s2,hA,e⟩
theorem St.fact {w0 w:World}{A:HP}{q:Prop}{As:List HP}(H:St w0 (A::As) w)(h:∀ h,A h->q):q:=by
 obtain⟨h1,h2,hd,s1,s2,hA,e⟩:=H.heap;exact h _ hA
theorem St.drew {w0 w:World}{As:List HP}(H:St w0 As w):St w0 As { w with drawn:=w.drawn+1 }:=⟨H.os,H.tape,H.output,H.heap⟩
theorem St.drawn {w0 w:World}{As:List HP}(H:St w0 As w)(n:Nat):St w0 As { w with drawn:=n }:=⟨H.os,H.tape,H.output,H.heap⟩
theorem St.t1 {w0 w:World}{e A1:HP}{As:List HP}(H:St w0 (e::A1::As) w):St w0 (A1::e::As) w:=H.ix [1,0] rfl
theorem St.t2 {w0 w:World}{e A1 i:HP}{As:List HP}(H:St w0 (e::A1::i::As) w):St w0 (i::e::A1::As) w:=H.ix [2,0,1] rfl
theorem St.t3 {w0 w:World}{e A1 i j:HP}{As:List HP}(H:St w0 (e::A1::i::j::As) w):St w0 (j::e::A1::i::As) w:=H.ix [3,0,1,2] rfl
theorem St.t4 {w0 w:World}{e A1 i j l:HP}{As:List HP}(H:St w0 (e::A1::i::j::l::As) w):St w0 (l::e::A1::i::j::As) w:=H.perm (List.perm_middle (l₁:=[e,A1,i,j]) (a:=l) (l₂:=As))
theorem St.t5 {w0 w:World}{e A1 i j l t:HP}{As:List HP}(H:St w0 (e::A1::i::j::l::t::As) w):St w0 (t::e::A1::i::j::l::As) w:=H.perm (List.perm_middle (l₁:=[e,A1,i,j,l]) (a:=t) (l₂:=As))
theorem St.t6 {w0 w:World}{e A1 i j l t u:HP}{As:List HP}(H:St w0 (e::A1::i::j::l::t::u::As) w):St w0 (u::e::A1::i::j::l::t::As) w:=H.perm (List.perm_middle (l₁:=[e,A1,i,j,l,t]) (a:=u) (l₂:=As))
theorem St.t7 {w0 w:World}{e A1 i j l t u x:HP}{As:List HP}(H:St w0 (e::A1::i::j::l::t::u::x::As) w):St w0 (x::e::A1::i::j::l::t::u::As) w:=H.perm (List.perm_middle (l₁:=[e,A1,i,j,l,t,u]) (a:=x) (l₂:=As))
theorem St.t8 {w0 w:World}{e A1 i j l t u x y:HP}{As:List HP}(H:St w0 (e::A1::i::j::l::t::u::x::y::As) w):St w0 (y::e::A1::i::j::l::t::u::x::As) w:=H.perm (List.perm_middle (l₁:=[e,A1,i,j,l,t,u,x]) (a:=y) (l₂:=As))
theorem St.t9 {w0 w:World}{e A1 i j l t u x y z:HP}{As:List HP}(H:St w0 (e::A1::i::j::l::t::u::x::y::z::As) w):St w0 (z::e::A1::i::j::l::t::u::x::y::As) w:=H.perm (List.perm_middle (l₁:=[e,A1,i,j,l,t,u,x,y]) (a:=z) (l₂:=As))
theorem St.t10 {w0 w:World}{i A1 j l t u x y z A e:HP}{As:List HP}(H:St w0 (i::A1::j::l::t::u::x::y::z::A::e::As) w):St w0 (e::i::A1::j::l::t::u::x::y::z::A::As) w:=H.perm (List.perm_middle (l₁:=[i,A1,j,l,t,u,x,y,z,A]) (a:=e) (l₂:=As))
theorem St.t11 {w0 w:World}{j A1 l t u x y z A B e i:HP}{As:List HP}(H:St w0 (j::A1::l::t::u::x::y::z::A::B::e::i::As) w):St w0 (i::j::A1::l::t::u::x::y::z::A::B::e::As) w:=H.perm (List.perm_middle (l₁:=[j,A1,l,t,u,x,y,z,A,B,e]) (a:=i) (l₂:=As))
theorem St.t12 {w0 w:World}{l A1 t u x y z A B D e i j:HP}{As:List HP}(H:St w0 (l::A1::t::u::x::y::z::A::B::D::e::i::j::As) w):St w0 (j::l::A1::t::u::x::y::z::A::B::D::e::i::As) w:=H.perm (List.perm_middle (l₁:=[l,A1,t,u,x,y,z,A,B,D,e,i]) (a:=j) (l₂:=As))
theorem St.t13 {w0 w:World}{t A1 u x y z A B D F e i j l:HP}{As:List HP}(H:St w0 (t::A1::u::x::y::z::A::B::D::F::e::i::j::l::As) w):St w0 (l::t::A1::u::x::y::z::A::B::D::F::e::i::j::As) w:=H.perm (List.perm_middle (l₁:=[t,A1,u,x,y,z,A,B,D,F,e,i,j]) (a:=l) (l₂:=As))
theorem St.t14 {w0 w:World}{u A1 x y z A B D F I e i j l t:HP}{As:List HP}(H:St w0 (u::A1::x::y::z::A::B::D::F::I::e::i::j::l::t::As) w):St w0 (t::u::A1::x::y::z::A::B::D::F::I::e::i::j::l::As) w:=H.perm (List.perm_middle (l₁:=[u,A1,x,y,z,A,B,D,F,I,e,i,j,l]) (a:=t) (l₂:=As))
theorem St.x0 {w0 w:World}{e:HP}{As:List HP}(H:St w0 (e::As) w):St w0 (As) w:=H.drop
theorem St.x1 {w0 w:World}{e A1:HP}{As:List HP}(H:St w0 (e::A1::As) w):St w0 (e::As) w:=H.t1.drop
theorem St.x2 {w0 w:World}{e A1 i:HP}{As:List HP}(H:St w0 (e::A1::i::As) w):St w0 (e::A1::As) w:=H.t2.drop
theorem St.x3 {w0 w:World}{e A1 i j:HP}{As:List HP}(H:St w0 (e::A1::i::j::As) w):St w0 (e::A1::i::As) w:=H.t3.drop
theorem St.x4 {w0 w:World}{e A1 i j l:HP}{As:List HP}(H:St w0 (e::A1::i::j::l::As) w):St w0 (e::A1::i::j::As) w:=H.t4.drop
theorem St.x5 {w0 w:World}{e A1 i j l t:HP}{As:List HP}(H:St w0 (e::A1::i::j::l::t::As) w):St w0 (e::A1::i::j::l::As) w:=H.t5.drop
theorem St.x6 {w0 w:World}{e A1 i j l t u:HP}{As:List HP}(H:St w0 (e::A1::i::j::l::t::u::As) w):St w0 (e::A1::i::j::l::t::As) w:=H.t6.drop
theorem St.x7 {w0 w:World}{e A1 i j l t u x:HP}{As:List HP}(H:St w0 (e::A1::i::j::l::t::u::x::As) w):St w0 (e::A1::i::j::l::t::u::As) w:=H.t7.drop
theorem St.x8 {w0 w:World}{e A1 i j l t u x y:HP}{As:List HP}(H:St w0 (e::A1::i::j::l::t::u::x::y::As) w):St w0 (e::A1::i::j::l::t::u::x::As) w:=H.t8.drop
theorem St.x9 {w0 w:World}{e A1 i j l t u x y z:HP}{As:List HP}(H:St w0 (e::A1::i::j::l::t::u::x::y::z::As) w):St w0 (e::A1::i::j::l::t::u::x::y::As) w:=H.t9.drop
theorem St.x10 {w0 w:World}{i A1 j l t u x y z A e:HP}{As:List HP}(H:St w0 (i::A1::j::l::t::u::x::y::z::A::e::As) w):St w0 (i::A1::j::l::t::u::x::y::z::A::As) w:=H.t10.drop
theorem St.x11 {w0 w:World}{j A1 l t u x y z A B e i:HP}{As:List HP}(H:St w0 (j::A1::l::t::u::x::y::z::A::B::e::i::As) w):St w0 (j::A1::l::t::u::x::y::z::A::B::e::As) w:=H.t11.drop
theorem St.x12 {w0 w:World}{l A1 t u x y z A B D e i j:HP}{As:List HP}(H:St w0 (l::A1::t::u::x::y::z::A::B::D::e::i::j::As) w):St w0 (l::A1::t::u::x::y::z::A::B::D::e::i::As) w:=H.t12.drop
theorem St.x13 {w0 w:World}{t A1 u x y z A B D F e i j l:HP}{As:List HP}(H:St w0 (t::A1::u::x::y::z::A::B::D::F::e::i::j::l::As) w):St w0 (t::A1::u::x::y::z::A::B::D::F::e::i::j::As) w:=H.t13.drop
theorem St.x14 {w0 w:World}{u A1 x y z A B D F I e i j l t:HP}{As:List HP}(H:St w0 (u::A1::x::y::z::A::B::D::F::I::e::i::j::l::t::As) w):St w0 (u::A1::x::y::z::A::B::D::F::I::e::i::j::l::As) w:=H.t14.drop
def One (b:Nat)(o:Obj):HP:=fun h=>h b=some o
abbrev Blk (b:Nat)(T:TypeId)(cs:List Value):HP:=One b (.cells cs.toArray T (0,0))
theorem dz {A:HP}:∀ {As:List HP}{h:Hp}{i:Nat},sepL As h->As[i]? = some A -> ∃ h1,Sub h1 h/\A h1
 | [],h,i,_,hi=>by simp at hi
 | B::As,h,i,⟨h1,h2,hd,s1,s2,hA,e⟩,hi=>by
  cases i with
  | zero=>simp at hi;subst hi;exact⟨h1,s1,hA⟩
  | succ i =>
   obtain⟨g,l,j⟩:=dz e (by simpa using hi);exact⟨g,l.trans s2,j⟩
theorem St.at {w0 w:World}{As:List HP}(H:St w0 As w)(i:Nat){A:HP}(hi:As[i]? = some A):∃ h1,Sub h1 (hpOf w)/\A h1:=dz H.heap hi
theorem St.one {w0 w:World}{As:List HP}(H:St w0 As w)(i:Nat){b:Nat}{o:Obj}(hi:As[i]? = some (One b o)):w.heap[b]? = some o:=by
 obtain⟨h1,s,h⟩:=H.at i hi;exact s _ _ h
theorem St.cell {w0 w:World}{As:List HP}(H:St w0 As w)(i:Nat){b:Nat}{T:TypeId}{cs:List Value}(hi:As[i]? = some (Blk b T cs)){off:Nat}{v:Value}(hv:cs[off]? = some v) :
  w.cell? ⟨b,off,none⟩=some v:=by
 simp[World.cell?,H.one i hi,hv]
theorem St.set {w0 w w':World}{As:List HP}{b:Nat}{o o':Obj}(H:St w0 (One b o::As) w)(h1:w'.os=w.os)(h2:w'.tape=w.tape)(h3:w'.output=w.output)
  (u:w'.heap[b]? = some o') (l:∀ c,c≠b->w'.heap[c]? = w.heap[c]?):St w0 (One b o'::As) w':=by
 obtain⟨g1,g2,hd,s1,s2,hA,t⟩:=H.heap;refine⟨h1.trans H.os,h2.trans H.tape,h3.trans H.output,fun c=>if c=b then some o' else none,g2,?_,?_,?_,by simp[One],t⟩
 ·intro c;by_cases i:c=b
  ·subst i
   right
   rcases hd c with e|e
   ·simp only[One] at hA;rw[hA] at e;cases e
   ·exact e
  ·left;simp[i]
 ·intro c x j;by_cases i:c=b
  ·subst i;simp at j;subst j;exact u
  ·simp[i] at j
 ·intro c x j;have i:c≠b:=by
   rintro rfl;rcases hd c with e|e
   ·simp only[One] at hA;rw[hA] at e;cases e
   ·rw[j] at e;cases e
  have:=s2 c x j;simp only[hpOf] at this ⊢;rw[l c i];exact this
theorem St.new {w0 w w':World}{As:List HP}{o:Obj}(H:St w0 As w)(h1:w'.os=w.os)(h2:w'.tape=w.tape)(h3:w'.output=w.output)
  (t:w'.heap[w.heap.size]? = some o) (l:∀ c,c<w.heap.size->w'.heap[c]? = w.heap[c]?):St w0 (One w.heap.size o::As) w':=by
 have j:∀ c x,hpOf w c=some x->c<w.heap.size:=fun c x e=>(Array.getElem?_eq_some_iff.1 e).1
 refine⟨h1.trans H.os,h2.trans H.tape,h3.trans H.output,fun c=>if c=w.heap.size then some o else none,fun c=>if c<w.heap.size then hpOf w c else none,?_,?_,?_,by simp[One],kB ?_ H.heap⟩
 ·intro c;by_cases i:c=w.heap.size
  ·right;simp[i]
  ·left;simp[i]
 ·intro c x e;by_cases i:c=w.heap.size
  ·subst i;simp at e;subst e;exact t
  ·simp[i] at e
 ·intro c x e;simp only at e;split at e
  ·rename_i i;simp only[hpOf] at e ⊢;rw[l c i];exact e
  ·cases e
 ·intro c x e;simp[j c x e];exact e
theorem St.alloc {w0 w:World}{As:List HP}(o:Obj)(H:St w0 As w):St w0 (One w.heap.size o::As) { w with heap:=w.heap.push o } :=
 H.new rfl rfl rfl (by simp) (fun c e=>by simp[Array.getElem?_push];omega)
def Old (w0:World):HP:=fun h=>∀ b,b<w0.heap.size->h b=w0.heap[b]?
theorem St.begin (w0:World):St w0 [Old w0] w0 :=
 ⟨rfl,rfl,rfl,hpOf w0,fun _=>none,fun _=>.inr rfl,Sub.refl _,fun _ _ h=>by simp at h,fun _ _=>rfl,trivial⟩
theorem St.old {w0 w:World}{As:List HP}(H:St w0 As w)(i:Nat)(hi:As[i]? = some (Old w0)):∀ b,b<w0.heap.size->w.heap[b]? = w0.heap[b]?:=by
 obtain⟨h1,s,h⟩:=H.at i hi;intro b j;have:=h b j;have e:w0.heap[b]? = some w0.heap[b]:=by simp[j]
 rw[e] at this ⊢;exact s _ _ this
end
noncomputable section
def qj (P:Program){α:Type}:Sem α -> List Value->Nat->Option (Obj × α × List Ob)
 | .new o k,e,r=>match runA P (k r) [] with
  | some (v,[],_)=>some (o,v,[])
  | _=>none
 | .load _ i k,e,r=>match e with
  | []=>none
  | v::e=>match qj P (k v) e r with
   | some (o,x,obs)=>some (o,x,.cell i v::obs)
   | none=>none
 | .program k,e,r=>qj P (k P) e r
 | .mark _ k,e,r=>qj P k e r
 | _,_,_=>none
theorem oa (P:Program)(w:World){α:Type}:∀ (s:Sem α) (e:List Value) (o:Obj) (x:α) (obs:List Ob),
  qj P s e w.heap.size=some (o,x,obs)->wm w obs->s.run P w = .ok x { w with heap:=w.heap.push o }:=by
 intro s;induction s with
 | new o k ih =>
  intro e o' x obs h i;simp only[qj] at h;split at h
  ·rename_i v rest hv;simp only[Option.some.injEq,Prod.mk.injEq] at h;obtain⟨rfl,rfl,rfl⟩:=h;simp only[Sem.run];exact mT P _ _ _ _ _ _ hv trivial
  ·cases h
 | load m t k ih =>
  intro e o x obs h i;cases e with
  | nil=>simp[qj] at h
  | cons v e =>
   simp only[qj] at h;split at h
   ·rename_i o' y j l;simp only[Option.some.injEq,Prod.mk.injEq] at h;obtain⟨rfl,rfl,rfl⟩:=h;simp only[wm,Ob.holds] at i;simp only[Sem.run,i.1];exact ih v e _ _ _ l i.2
   ·cases h
 | program k ih=>intro e o x obs h i;simp only[qj] at h;simp only[Sem.run];exact ih P e o x obs h i
 | mark m k ih=>intro e o x obs h i;simp only[qj] at h;simp only[Sem.run];exact ih e o x obs h i
 | _=>intro e o x obs h;simp[qj] at h
theorem OpTo.new {P:Program}{n:Nat}{a:Act}{L:Env}{w w0:World}{As:List HP}{o:Oper}(l:zN n a L)(H:St w0 As w)(j:List Value)(i:Obj)(val:Nat->Value){obs:List Ob}
  (e:(!qS o.op && iJ L o.op.operands.toList)=true) (he:∀ r,qj P (execOp (rho L) o) j r=some (i,.value (val r),obs)) (t:wm w obs) :
  OpTo P o a w fun v w'=>∃ r,v=val r/\St w0 (One r i::As) w':=by
 simp only[Bool.and_eq_true,Bool.not_eq_true'] at e;refine OpTo.of_run (w':={ w with heap:=w.heap.push i }) (v:=val w.heap.size) ?_ ⟨w.heap.size,rfl,H.alloc i⟩;rw[iu l e.1 e.2];exact oa P w _ _ _ _ _ (he w.heap.size) t
def putAt:List Value->Nat->List Value->List Value
 | cs,_,[]=>cs
 | cs,off,v::vs=>putAt (cs.set off v) (off+1) vs
theorem pZ:∀ (vs cs:List Value) (off:Nat),(putAt cs off vs).length=cs.length
 | [],cs,off=>rfl
 | v::vs,cs,off=>by simp[putAt,pZ vs]
theorem ta:∀ (vs cs:List Value) (off:Nat),off+vs.length<=cs.length->putAt cs off vs=cs.take off++vs++cs.drop (off+vs.length)
 | [],cs,off,_=>by simp[putAt]
 | v::vs,cs,off,h=>by
  simp only[lC] at h;rw[putAt,ta vs _ _ (by simp;omega)];have h1:(cs.set off v).take (off+1)=cs.take off++[v]:=by
   apply List.ext_getElem?;intro i;simp only[List.getElem?_take,List.getElem?_set,List.getElem?_append,List.length_take];by_cases hi:i<off
   ·have h1:i<off+1:=by omega
    have h2:i<min off cs.length:=by omega
    have h3:¬ off=i:=by omega
    simp[hi,h1,h2,h3]
   ·by_cases h2:i=off
    ·subst h2;have h3:¬ i<min i cs.length:=by omega
     have h4:i - min i cs.length=0:=by omega
     have e:i<cs.length:=by omega
     simp[h3,h4,e]
    ·have h3:¬ i<off+1:=by omega
     have h4:¬ i<min off cs.length:=by omega
     have e:([v]:List Value)[i - min off cs.length]? = none:=by simp;omega
     simp[h3,h4,e]
  rw[h1,List.drop_set];have:¬ off >= off+1+vs.length:=by omega
  simp[aA,Nat.add_assoc,Nat.add_comm 1]
def oneB:Value->Bool
 | .agg _=>false
 | .tuple _=>false
 | _=>true
theorem ab {v:Value}(h:oneB v=true):v.oneCell'=true:=by cases v <;> simp_all [oneB,Value.oneCell']
def nv:List Value->Bool
 | []=>true
 | v::r=>oneB v && nv r
theorem lG:∀ {l:List Value},nv l=true -> ∀ v∈l,v.oneCell'=true
 | [],_,v,hv=>by cases hv
 | u::r,h,v,hv=>by
  simp only[nv,Bool.and_eq_true] at h;cases hv with
  | head=>exact ab h.1
  | tail _ hm=>exact lG h.2 v hm
def uK:Op->Option (TypeId × Operand × Operand)
 | .store t x y=>some (t,x,y)
 | _=>none
theorem lj {P:Program}{w:World}{b off:Nat}{T t:TypeId}{cs:List Value}{v:Value}{j:TypeInfo}(l:w.heap[b]? = some (.cells cs.toArray T (0,0)))
  (hi:P.info? t=some j) (hs:j.size=v.cells.size) (h1:nv v.cells.toList=true) (e:off+v.cells.size<=cs.length) :
  (Instr.storeAt t (.pointer (some ⟨b,off,none⟩)) v).run P w = .ok () (w.setRow b (putAt cs off v.cells.toList).toArray):=by
 have i:=run_storeCells_at P b off T v.cells.toList 0 cs.toArray w l (by simpa using e) (lG h1);rw[ta _ _ _ (by simpa using e)];simp only[Nat.add_zero] at i;simp[Instr.storeAt,Instr.sureAddr,storeVar,qk P hi,hs];simpa using i
theorem OpTo.store {P:Program}{n:Nat}{a:Act}{L:Env}{w w0:World}{As:List HP}{o:Oper}{b off:Nat}{T t:TypeId}{cs:List Value}{x y:Operand}{v:Value}{u:TypeInfo}(i:zN n a L)(H:St w0 (Blk b T cs::As) w)
  (l:uK o.op=some (t,x,y)) (A:evO L x=some (.pointer (some ⟨b,off,none⟩))) (B:evO L y=some v) (hi:P.info? t=some u) (hs:u.size=v.cells.size) (h1:nv v.cells.toList=true)
  (e:off+v.cells.size<=cs.length):OpTo P o a w fun _ w'=>St w0 (Blk b T (putAt cs off v.cells.toList)::As) w':=by
 obtain⟨dst,op,type,pos,after,guard⟩:=o;cases op <;> simp only[uK] at l <;> try cases l
 have j:=H.one 0 rfl;refine OpTo.fW (w':=w.setRow b (putAt cs off v.cells.toList).toArray) ?_ ?_
 ·simp[execOp,i.eval A,i.eval B,lj j hi hs h1 e]
 ·exact H.set (by simp) (by simp) (by simp) (setRow_heap w b _ _ T (0,0) j) (fun c z=>setRow_other w b c _ z)
structure wg {α:Type} (enc:α -> List Value) (sz:Nat):Prop where
 len:∀ x,(enc x).length=sz
 one:∀ x u,u∈enc x->u.oneCell'=true
def Sl {α:Type}(T:TypeId)(enc:α -> List Value)(sz:Nat)(sb:Option Addr)(sc:Nat)(l:List α):HP:=fun h =>
 (sb=none/\l=[]/\sc=0) \/ ∃ b off cs,sb=some ⟨b,off,none⟩/\h b=some (.cells cs T (0,0))/\l.length<=sc/\sc<=maxLen/\off+sc*sz<=cs.size /\
  ∀ i,i<l.length*sz->cs[off+i]? = (l.flatMap enc)[i]?
theorem yB {α:Type}{enc:α -> List Value}{sz:Nat}(he:wg enc sz):∀ l:List α,(l.flatMap enc).length=l.length*sz
 | []=>by simp
 | x::l=>by simp only[List.flatMap_cons,lA,he.len,yB he l,lC,Nat.succ_mul];omega
theorem sC {α:Type}{enc:α -> List Value}{sz:Nat}(he:wg enc sz):∀ (l:List α) (j q:Nat) (hj:j<l.length),q<sz->(l.flatMap enc)[j*sz+q]? = (enc l[j])[q]?
 | [],j,q,hj,hq=>by simp at hj
 | x::l,0,q,hj,hq=>by
  simp only[List.flatMap_cons,Nat.zero_mul,Nat.zero_add,List.getElem_cons_zero];rw[List.getElem?_append_left (by rw[he.len];exact hq)]
 | x::l,j+1,q,hj,hq=>by
  simp only[List.flatMap_cons,List.getElem_cons_succ];rw[List.getElem?_append_right (by rw[he.len,Nat.succ_mul];omega),he.len];have e:(j+1)*sz+q - sz=j*sz+q:=by rw[Nat.succ_mul];omega
  rw[e];exact sC he l j q (by simpa using hj) hq
theorem ox {α:Type}{enc:α -> List Value}{sz:Nat}(he:wg enc sz)(l:List α):∀ u∈l.flatMap enc,u.oneCell'=true:=by
 intro u hu;obtain⟨x,_,e⟩:=List.mem_flatMap.1 hu;exact he.one x u e
section
variable {α:Type} {T:TypeId} {enc:α -> List Value} {sz:Nat} {w0 w:World} {As:List HP}
theorem St.oh (T:TypeId)(enc:α -> List Value)(sz:Nat)(H:St w0 As w):St w0 (Sl T enc sz none 0 []::As) w :=
 ⟨H.os,H.tape,H.output,fun _=>none,hpOf w,fun _=>.inl rfl,fun _ _ h=>by simp at h,Sub.refl _,.inl ⟨rfl,rfl,rfl⟩,H.heap⟩
theorem St.pF (H:St w0 As w)(i:Nat){sb:Option Addr}{sc:Nat}{l:List α}(hi:As[i]? = some (Sl T enc sz sb sc l)):l.length<=sc/\sc<=maxLen:=by
 obtain⟨h1,hs,h⟩:=H.at i hi;rcases h with ⟨_,rfl,rfl⟩|⟨b,off,cs,rfl,j,h2,e,h3,h4⟩
 ·simp
 ·exact⟨h2,e⟩
theorem St.Ex {sb:Option Addr}{sc:Nat}{l:List α}(H:St w0 (Sl T enc sz sb sc l::As) w)(he:wg enc sz)(lo hi:Nat)(h1:lo<=hi)(h2:hi<=l.length) :
  St w0 (Sl T enc sz (yv sb sc lo sz) (sc - lo) ((l.take hi).drop lo)::As) w:=by
 refine H.head fun h hh=>?_
 rcases hh with ⟨rfl,rfl,rfl⟩|⟨b,off,cs,rfl,y,h3,I,h4,D⟩
 ·simp at h2;subst h2;have:lo=0:=by omega
  subst this
  left;simp[yv]
 ·right
  have hlen:((l.take hi).drop lo).length=hi - lo:=by simp[Nat.min_eq_left h2]
  have key:∀ i,i<(hi - lo)*sz->(((l.take hi).drop lo).flatMap enc)[i]? = (l.flatMap enc)[lo*sz+i]?:=by
   intro i e;have u:0<sz:=by
    rcases Nat.eq_zero_or_pos sz with h|h
    ·subst h;simp at e
    ·exact h
   have hj:i / sz<hi - lo:=Nat.div_lt_of_lt_mul (by rw[Nat.mul_comm];exact e);have hq:i % sz<sz:=Nat.mod_lt _ u;have t:i=(i / sz)*sz+i % sz:=by rw[Nat.mul_comm];exact (Nat.div_add_mod i sz).symm
   have j:=sC he ((l.take hi).drop lo) (i / sz) (i % sz) (by rw[hlen];exact hj) hq;have x:=sC he l (lo+i / sz) (i % sz) (by omega) hq;have A:((l.take hi).drop lo)[i / sz]'(by rw[hlen];exact hj)=l[lo+i / sz]'(by omega):=by simp
   rw[A] at j;rw[<- t] at j;have B:(lo+i / sz)*sz+i % sz=lo*sz+i:=by rw[Nat.add_mul];omega
   rw[B] at x;rw[j,x]
  by_cases z:sc=lo
  ·subst z;refine⟨b,off,cs,by simp[yv],y,by rw[hlen];omega,by omega,by simp;omega,fun i e=>?_⟩;rw[hlen] at e;have:hi - sc=0:=by omega
   rw[this] at e;simp at e
  ·refine⟨b,off+lo*sz,cs,by simp[yv,z,uF],y,by rw[hlen];omega,by omega,?_,fun i e=>?_⟩
   ·have:(sc - lo)*sz=sc*sz - lo*sz:=Nat.sub_mul _ _ _;have F:lo*sz<=sc*sz:=Nat.mul_le_mul_right _ (by omega);omega
   ·rw[hlen] at e;rw[key i e,Nat.add_assoc];refine D _ ?_;have F:lo*sz+(hi - lo)*sz=hi*sz:=by rw[<- Nat.add_mul];congr 1;omega
    have J:hi*sz<=l.length*sz:=Nat.mul_le_mul_right _ h2;omega
theorem St.slOf {b:Nat}{cs:Array Value}{l:List α}{sc:Nat}(H:St w0 (One b (.cells cs T (0,0))::As) w)(he:wg enc sz)(h1:l.length<=sc)(h2:sc<=maxLen)(h3:sc*sz<=cs.size)
  (h4:∀ i,i<l.length*sz->cs[i]? = (l.flatMap enc)[i]?):St w0 (Sl T enc sz (some ⟨b,0,none⟩) sc l::As) w :=
 H.head fun h hh=>.inr ⟨b,0,cs,rfl,hh,h1,h2,by omega,fun i hi=>by rw[Nat.zero_add];exact h4 i hi⟩
end
theorem St.gW {α:Type}{T:TypeId}{enc:α -> List Value}{sz:Nat}{w0 w:World}{As:List HP}{sb:Option Addr}{sc:Nat}{l:List α}(H:St w0 (Sl T enc sz sb sc l::As) w) :
  (sb=none/\l=[]/\sc=0) \/ ∃ b off cs,sb=some ⟨b,off,none⟩/\St w0 (One b (.cells cs T (0,0))::As) w/\l.length<=sc/\sc<=maxLen/\off+sc*sz<=cs.size /\
  ∀ i,i<l.length*sz->cs[off+i]? = (l.flatMap enc)[i]?:=by
 obtain⟨h1,h2,hd,s1,s2,hA,t⟩:=H.heap;rcases hA with h|⟨b,off,cs,e,j,rest⟩
 ·exact .inl h
 ·exact .inr ⟨b,off,cs,e,⟨H.os,H.tape,H.output,h1,h2,hd,s1,s2,j,t⟩,rest⟩
def Rd (w:World)(xb:Option Addr)(news:List Value):Prop:=news=[] \/ ∃ e,xb=some e /\ ∀ j u,news[j]? = some u->w.cell? (e.add j)=some u
theorem oF {P:Program}{w:World}{xb:Option Addr}{news:List Value}{size m len cap:Nat}(h:Rd w xb news)(hl:news.length=m*size) :
  (Builtin.firstCells size m (.slice xb len cap)).run P w = .ok news.toArray w:=by
 rcases h with rfl|⟨e,rfl,h⟩
 ·cases xb with
  | none=>exact run_firstCells_none (P:=P) (w:=w) size m len cap
  | some a=>exact run_firstCells_some (P:=P) w size m a len cap [] hl (by simp)
 ·exact run_firstCells_some (P:=P) w size m e len cap news hl h
section
variable {α:Type} {T:TypeId} {enc:α -> List Value} {sz:Nat} {w0 w:World} {As:List HP} {P:Program}
theorem iS {t u ty:TypeId}{d:TypeId}{B:TypeInfo}{sb xb:Option Addr}{sc xc m:Nat}{l ys:List α}(H:St w0 (Sl T enc sz sb sc l::As) w)(he:wg enc sz)
  (ht:P.underlying t=some (.slice T)) (hu:P.underlying u=some (.slice d)) (hi:P.info? T=some B) (D:B.size=sz) {z:Value} (hz:B.zero=some z) (a8:z.cells.size=sz)
  (hm:m=ys.length) (hr:Rd w xb (ys.flatMap enc)) (F:l.length+ys.length<=maxLen) (a2:(l.length+ys.length)*B.bytes<=140737488355328) :
  ∃ sb' sc' w',(Builtin.append_ #[t,u] ty #[.slice sb l.length sc,.slice xb m xc]).run P w = .ok (.slice sb' (l++ys).length sc') w'/\St w0 (Sl T enc sz sb' sc' (l++ys)::As) w':=by
 subst hm;have y:(ys.flatMap enc).length=ys.length*sz:=yB he ys;have x:(l.flatMap enc).length=l.length*sz:=yB he l;have O:(l++ys).flatMap enc=l.flatMap enc++ys.flatMap enc:=by simp
 have a1:¬ (9223372036854775807<((l.length:Int)+(ys.length:Int))):=by simp only[maxLen] at F;omega
 by_cases e:l.length+ys.length<=sc
 ·rcases H.gW with ⟨rfl,rfl,rfl⟩|⟨b,off,cs,rfl,H1,h1,h2,h3,h4⟩
  ·have hy:ys=[]:=List.eq_nil_of_length_eq_zero (by simpa using e);subst hy;refine⟨none,0,w,?_,H⟩;have hf:=oF (P:=P) (size:=B.size) (m:=0) (len:=0) (cap:=xc) hr (by simp);simp only[List.flatMap_nil] at hf;simp[Builtin.append_,xN P ht,xN P hu,sizeOf,typeInfo,hi,Builtin.lenOf,hf]
  ·have hb:=H1.one 0 rfl;have A:off+l.length*sz+0+(ys.flatMap enc).length<=cs.size:=by
    rw[y];have:(l.length+ys.length)*sz<=sc*sz:=Nat.mul_le_mul_right _ e;rw[Nat.add_mul] at this;omega
   have W:=run_storeCells_at P b (off+l.length*sz) T (ys.flatMap enc) 0 cs w hb A (ox he ys);simp only[Nat.add_zero] at W A;have I:=A;rw[y] at I;refine⟨some ⟨b,off,none⟩,sc,w.setRow b (cs.toList.take (off+l.length*sz)++ys.flatMap enc++cs.toList.drop (off+l.length*sz+(ys.flatMap enc).length)).toArray,?_,?_⟩
   ·have hf:=oF (P:=P) (size:=B.size) (m:=ys.length) (len:=ys.length) (cap:=xc) hr (by rw[y,D]);have X:(storeCells ((⟨b,off,none⟩:Addr).add (l.length*B.size)) (ys.flatMap enc) 0).run P w = .ok () (w.setRow b (cs.toList.take (off+l.length*sz)++ys.flatMap enc++cs.toList.drop (off+l.length*sz+(ys.flatMap enc).length)).toArray):=by
     rw[uF,D];exact W
    simp[Builtin.append_,xN P ht,xN P hu,sizeOf,typeInfo,hi,Builtin.lenOf,e,hf,X]
   ·have Y:=H1.set (o':=.cells (cs.toList.take (off+l.length*sz)++ys.flatMap enc++cs.toList.drop (off+l.length*sz+(ys.flatMap enc).length)).toArray T (0,0)) (setRow_os _ _ _) (setRow_tape _ _ _) (setRow_output _ _ _) (setRow_heap w b cs _ T (0,0) hb) (fun c hc=>setRow_other w b c _ hc);refine Y.head fun h hh=>.inr ⟨b,off,_,rfl,hh,by simpa using e,h2,?_,?_⟩
    ·simp only[List.size_toArray,lA,List.length_take,List.length_drop,Array.length_toList];omega
    ·intro i J;simp only[lA,Nat.add_mul] at J;rw[O];simp only[List.getElem?_toArray];by_cases U:i<l.length*sz
     ·rw[aA,List.getElem?_append_left (by simp only[List.length_take,Array.length_toList];omega),List.getElem?_take,if_pos (by omega),List.getElem?_append_left (by rw[x];exact U)];rw[<- h4 i U];simp
     ·rw[List.getElem?_append_left (by simp only[lA,List.length_take,Array.length_toList,y];omega),List.getElem?_append_right (by simp only[List.length_take,Array.length_toList];omega),List.getElem?_append_right (by rw[x];omega)];congr 1;simp only[List.length_take,Array.length_toList,x];omega
 ·have b0:0<ys.length:=by
   have:=(H.pF 0 rfl).1;omega
  have a0:¬ (281474976710656<Builtin.nextslicecap (l.length+ys.length) sc*B.bytes):=by
   have:=growslice_fits (need:=l.length+ys.length) (old:=sc) (by omega) a2;omega
  have a5:=grownCap_ge w (l.length+ys.length) sc T;have a3:=grownCap_le_maxLen w (l.length+ys.length) sc T F;have a7:Rd w.drew xb (ys.flatMap enc):=by
   rcases hr with h|⟨xa,h1,h2⟩
   ·exact .inl h
   ·exact .inr ⟨xa,h1,by simpa using h2⟩
  have hf:=oF (P:=P) (size:=B.size) (m:=ys.length) (len:=ys.length) (cap:=xc) a7 (by rw[y,D]);have a4:(Builtin.firstCells B.size l.length (.slice sb l.length sc)).run P w.drew = .ok (l.flatMap enc).toArray w.drew:=by
   refine oF ?_ (by rw[x,D]);rcases H.gW with ⟨_,rfl,_⟩|⟨b,off,cs,rfl,H1,h1,h2,h3,h4⟩
   ·exact .inl rfl
   ·refine .inr ⟨_,rfl,fun j u hj=>?_⟩;have S:=(List.getElem?_eq_some_iff.1 hj).1;rw[x] at S;have:=h4 j S;rw[hj] at this;have Z:w.drew.heap[b]? = some (.cells cs T (0,0)):=H1.one 0 rfl;simp[World.cell?,uF,Z,this]
  refine⟨some ⟨w.heap.size,0,none⟩,grownCap w (l.length+ys.length) sc T,w.drew.alloc (.cells ((l.flatMap enc).toArray++(ys.flatMap enc).toArray++Builtin.zeroCells z.cells (grownCap w (l.length+ys.length) sc T - (l.length+ys.length))) T),?_,?_⟩
  ·have hn:¬ (l.length+ys.length<=sc):=e;simp[Builtin.append_,xN P ht,xN P hu,sizeOf,typeInfo,zeroValue,hi,hz,Builtin.lenOf,hn,a1,a0,Question.forced,hf,a4,newRow,grownCap];congr 2;apply Array.ext';simp[aA]
  ·have Y:=(H.drop.drew).alloc (.cells ((l.flatMap enc).toArray++(ys.flatMap enc).toArray++Builtin.zeroCells z.cells (grownCap w (l.length+ys.length) sc T - (l.length+ys.length))) T (0,0));refine St.slOf (b:=w.heap.size) Y he (by simpa using a5) a3 ?_ ?_
   ·simp only[Array.size_append,List.size_toArray,size_zeroCells,a8,y,x,<- Nat.add_mul];refine Nat.mul_le_mul_right _ ?_;omega
   ·intro i J;simp only[lA,Nat.add_mul] at J;rw[O];rw[Array.getElem?_append_left (by simp only[Array.size_append,List.size_toArray,y,x];omega)];simp
theorem OpTo.append {n:Nat}{a:Act}{L:Env}{o:Oper}{x y:Operand}{t u:TypeId}{d:TypeId}{j:TypeInfo}{sb xb:Option Addr}{sc xc m:Nat}{l:List α}(ys:List α)(F:zN n a L)(H:St w0 (Sl T enc sz sb sc l::As) w)(he:wg enc sz)
  (I:o.op = .call { callee:=.builtin .append,args:=#[x,y],argTypes:=#[t,u] }) (S:evO L x=some (.slice sb l.length sc)) (U:evO L y=some (.slice xb m xc))
  (ht:P.underlying t=some (.slice T)) (hu:P.underlying u=some (.slice d)) (hi:P.info? T=some j) (B:j.size=sz) {z:Value} (W:j.zero=some z) (D:z.cells.size=sz)
  (hm:m=ys.length) (O:Rd w xb (ys.flatMap enc)) (e:l.length+ys.length<=maxLen) (A:(l.length+ys.length)*j.bytes<=140737488355328) :
  OpTo P o a w fun v w'=>∃ sb' sc',v = .slice sb' (l++ys).length sc'/\St w0 (Sl T enc sz sb' sc' (l++ys)::As) w':=by
 obtain⟨dst,op,type,pos,after,guard⟩:=o;simp only at I;subst I;obtain⟨sb',sc',w',i,J⟩:=iS (P:=P) (ty:=type) (xc:=xc) H he ht hu hi B W D hm O e A;refine OpTo.of_run ?_ ⟨sb',sc',rfl,J⟩;simp[execOp,resolve,invoke,builtin,F.eval S,F.eval U,i]
end
def w64 (x:Int):Int:=IntKind.i64.wrap x
def mIdx {α:Type}(l:List α)(i:Int):Option α:=if 0<=i then l[i.toNat]? else none
def mSet {α:Type}(l:List α)(i:Int)(x:α):List α:=l.set i.toNat x
def mApp {α:Type}(l ys:List α):Option (List α):=if l.length+ys.length<=1073741824 then some (l++ys) else none
def mCut {α:Type}(l:List α)(lo hi:Int):Option (List α):=if 0<=lo/\lo<=hi/\hi<=l.length then some ((l.take hi.toNat).drop lo.toNat) else none
def ecI (x:Int):List Value:=[.int .i64 x]
theorem wY:wg ecI 1:=⟨fun _=>rfl,fun x u hu=>by simp[ecI] at hu;subst hu;rfl⟩
theorem rh {α:Type}{l:List α}{i:Int}{x:α}(h:mIdx l i=some x):(0<=i/\i<(l.length:Int))/\l[i.toNat]? = some x:=by
 unfold mIdx at h;split at h
 ·rename_i h0;refine⟨⟨h0,?_⟩,h⟩;have:=(List.getElem?_eq_some_iff.1 h).1;omega
 ·cases h
theorem eG {α:Type}{l ys r:List α}(h:mApp l ys=some r):r=l++ys/\l.length+ys.length<=1073741824:=by
 unfold mApp at h;split at h
 ·cases h;exact⟨rfl,by assumption⟩
 ·cases h
theorem sB {α:Type}{l r:List α}{lo hi:Int}(h:mCut l lo hi=some r):(0<=lo/\lo<=hi/\hi<=l.length)/\r=(l.take hi.toNat).drop lo.toNat:=by
 unfold mCut at h;split at h
 ·cases h;exact⟨by assumption,rfl⟩
 ·cases h
theorem uH {α:Type}(l:List α)(i:Int)(x:α):(mSet l i x).length=l.length:=by simp[mSet]
theorem bind_some {α β:Type}{x:Option α}{f:α -> Option β}{r:β}(h:x.bind f=some r):∃ y,x=some y/\f y=some r:=by
 cases x with
 | none=>cases h
 | some y=>exact⟨y,rfl,h⟩
theorem zU {α:Type}{b:Bool}{x y z:α}(c:b=true)(h:cond b x y=z):x=z:=by subst c;exact h
theorem zT {α:Type}{b:Bool}{x y z:α}(c:b=false)(h:cond b x y=z):y=z:=by subst c;exact h
theorem zN.sel {n:Nat}{a:Act}{L Lo:Env}(e:zN n a L)(ks:List Nat)(h:Th.sel ks L=some Lo):zN n a Lo:=qK e h
theorem Runs.join {P:Program}{f:FuncId}{c:Code}{k:List Item}{a:Act}{w:World}{R:Value->World->Prop}(J:Act->World->Prop)
  (h1:(∀ a w,J a w->Runs P f k a w R)->Runs P f (.code c::k) a w R) (h2:∀ a w,J a w->Runs P f k a w R):Runs P f (.code c::k) a w R:=h1 h2
section
variable {α:Type} {T:TypeId} {enc:α -> List Value} {sz:Nat} {w0 w:World} {As:List HP} {P:Program}
theorem eU {x':α}(he:wg enc sz):∀ (l:List α) (j:Nat) (q:Nat) (vs:List Value),(hj:j<l.length)->enc x'=putAt (enc l[j]) q vs->q+vs.length<=sz ->
  (l.set j x').flatMap enc=putAt (l.flatMap enc) (j*sz+q) vs
 | [],j,q,vs,hj,h,hq=>by simp at hj
 | x::l,0,q,vs,hj,h,hq=>by
  simp only[List.getElem_cons_zero] at h;simp only[List.set_cons_zero,List.flatMap_cons,Nat.zero_mul,Nat.zero_add];rw[h,ta _ _ _ (by rw[he.len];omega),ta _ _ _ (by rw[lA,he.len];omega)];rw[List.take_append_of_le_length (by rw[he.len];omega),List.drop_append_of_le_length (by rw[he.len];omega)];simp[aA]
 | x::l,j+1,q,vs,hj,h,hq=>by
  simp only[List.getElem_cons_succ] at h;simp only[List.set_cons_succ,List.flatMap_cons];have i:j<l.length:=by simpa using hj
  rw[eU he l j q vs i h hq];have hl:(l.flatMap enc).length=l.length*sz:=yB he l;have t:(j+1)*sz<=l.length*sz:=Nat.mul_le_mul_right _ i;rw[Nat.succ_mul] at t;have e:(j+1)*sz+q=(enc x).length+(j*sz+q):=by rw[he.len,Nat.succ_mul];omega
  rw[ta _ _ _ (by rw[hl];omega),e,ta _ _ _ (by rw[lA,hl,Nat.add_assoc];omega)];rw[List.take_append,List.drop_append];have u:(enc x).length+(j*sz+q) - (enc x).length=j*sz+q:=by omega
  have y:(enc x).length+(j*sz+q)+vs.length - (enc x).length=j*sz+q+vs.length:=by omega
  rw[u,y,List.take_of_length_le (l:=enc x) (by omega),List.drop_of_length_le (l:=enc x) (by omega)];simp[aA]
theorem OpTo.oj {n:Nat}{a:Act}{L:Env}{o:Oper}{b off q:Nat}{t:TypeId}{sb:Option Addr}{sc:Nat}{l:List α}{z:Int}{x x':α}{Y Z:Operand}{v:Value}{ti:TypeInfo}(hE:zN n a L)(H:St w0 (Sl T enc sz sb sc l::As) w)(he:wg enc sz)
  (ho:uK o.op=some (t,Y,Z)) (U:sb=some ⟨b,off,none⟩) (D:mIdx l z=some x) (hx:evO L Y=some (.pointer (some ⟨b,off+z.toNat*sz+q,none⟩))) (hy:evO L Z=some v) (hi:P.info? t=some ti) (hs:ti.size=v.cells.size) (h1:nv v.cells.toList=true)
  (hq:q+v.cells.size<=sz) (X:enc x'=putAt (enc x) q v.cells.toList):OpTo P o a w fun _ w'=>St w0 (Sl T enc sz sb sc (mSet l z x')::As) w':=by
 subst U;obtain⟨hb,hg⟩:=rh D;obtain⟨F,J⟩:=List.getElem?_eq_some_iff.1 hg;rcases H.gW with ⟨h,_⟩|⟨b',a0,cs,e,H1,h3,h4,h5,h6⟩
 ·cases h
 ·cases e;have hmul:(z.toNat+1)*sz<=l.length*sz:=Nat.mul_le_mul_right _ F;have S:l.length*sz<=sc*sz:=Nat.mul_le_mul_right _ h3;rw[Nat.succ_mul] at hmul;have B:St w0 (Blk b T cs.toList::As) w:=by simpa[Blk] using H1
  have W:=OpTo.store (P:=P) (o:=o) (b:=b) (off:=off+z.toNat*sz+q) (cs:=cs.toList) hE B ho hx hy hi hs h1 (by simp;omega);refine W.mono fun u w' H2=>?_
  refine H2.head fun h hh=>.inr ⟨b,off,_,rfl,hh,by simpa[mSet] using h3,h4,by simp[pZ];omega,fun i A=>?_⟩
  have hlen:(mSet l z x').length=l.length:=by simp[mSet]
  rw[hlen] at A;have y:v.cells.toList.length=v.cells.size:=by simp
  have I:=eU he l z.toNat q v.cells.toList F (by rw[J];exact X) (by rw[y];exact hq);have O:(l.flatMap enc).length=l.length*sz:=yB he l;unfold mSet;rw[I];simp only[List.getElem?_toArray];rw[ta _ _ _ (by simp;omega),ta _ _ _ (by rw[O,y];omega)];have hcs:∀ j,j<l.length*sz->cs.toList[off+j]? = (l.flatMap enc)[j]?:=fun j hj=>by rw[<- h6 j hj];simp
  have a8:cs.toList.length=cs.size:=by simp
  by_cases c1:i<z.toNat*sz+q
  ·rw[aA,aA,List.getElem?_append_left (by rw[List.length_take];omega),List.getElem?_append_left (by rw[List.length_take];omega),List.getElem?_take,List.getElem?_take,if_pos (by omega),if_pos c1];exact hcs i A
  ·by_cases c2:i<z.toNat*sz+q+v.cells.size
   ·rw[List.getElem?_append_left (by simp only[lA,List.length_take,y];omega),List.getElem?_append_right (by rw[List.length_take];omega),
     List.getElem?_append_left (by simp only[lA,List.length_take,y];omega),List.getElem?_append_right (by rw[List.length_take];omega)]
    congr 1;rw[List.length_take,List.length_take];omega
   ·rw[List.getElem?_append_right (by simp only[lA,List.length_take,y];omega),List.getElem?_append_right (by simp only[lA,List.length_take,y];omega),List.getElem?_drop,List.getElem?_drop];have e1:off+z.toNat*sz+q+v.cells.toList.length+(off+i - (List.take (off+z.toNat*sz+q) cs.toList++v.cells.toList).length)=off+i:=by
     simp only[lA,List.length_take,y];omega
    have e2:z.toNat*sz+q+v.cells.toList.length+(i - (List.take (z.toNat*sz+q) (l.flatMap enc)++v.cells.toList).length)=i:=by
     simp only[lA,List.length_take,y];omega
    rw[e1,e2];exact hcs i A
end
def SlRd {α:Type}(X:HP)(enc:α -> List Value)(sz:Nat)(sb:Option Addr)(l:List α):Prop :=
 ∀ h,X h->l=[] \/ ∃ b off cs T fr,sb=some ⟨b,off,none⟩/\h b=some (.cells cs T fr) /\ ∀ i,i<l.length*sz->cs[off+i]? = (l.flatMap enc)[i]?
section
variable {α:Type} {T:TypeId} {enc:α -> List Value} {sz:Nat} {w0 w:World} {As:List HP} {P:Program}
theorem yP (T:TypeId)(enc:α -> List Value)(sz:Nat)(sb:Option Addr)(sc:Nat)(l:List α):SlRd (Sl T enc sz sb sc l) enc sz sb l:=by
 rintro h (⟨_,hl,_⟩|⟨b,off,cs,e,i,_,_,_,j⟩)
 ·exact .inl hl
 ·exact .inr ⟨b,off,cs,T,(0,0),e,i,j⟩
theorem SlRd.all {X:HP}{sb:Option Addr}{l:List α}(hX:SlRd X enc sz sb l)(he:wg enc sz)(H:St w0 As w)(i:Nat)(hi:As[i]? = some X):Rd w sb (l.flatMap enc):=by
 obtain⟨h1,hs,h⟩:=H.at i hi;rcases hX h1 h with rfl|⟨b,off,cs,T,fr,rfl,x,y⟩
 ·exact .inl rfl
 ·refine .inr ⟨_,rfl,fun j u hj=>?_⟩;have t:=(List.getElem?_eq_some_iff.1 hj).1;rw[yB he] at t;have e:=hs _ _ x;simp only[hpOf] at e;have:=y j t;rw[hj] at this;simp[uF,World.cell?,e,this]
theorem SlRd.idx {X:HP}{sb:Option Addr}{l:List α}(hX:SlRd X enc sz sb l)(he:wg enc sz)(H:St w0 As w)(i:Nat)(hi:As[i]? = some X){t:Int}{x:α}(J:mIdx l t=some x) :
  ∃ b off,sb=some ⟨b,off,none⟩/\(0<=t/\t<(l.length:Int)) /\ ∀ q v,(enc x)[q]? = some v->w.cell? ⟨b,off+t.toNat*sz+q,none⟩=some v:=by
 obtain⟨D,I⟩:=rh J;obtain⟨j,A⟩:=List.getElem?_eq_some_iff.1 I;rcases hX.all he H i hi with h|⟨O,B,F⟩
 ·obtain⟨h1,hs,hh⟩:=H.at i hi;rcases hX h1 hh with rfl|⟨b,off,cs,T,fr,rfl,y,z⟩
  ·simp at j
  ·refine⟨b,off,rfl,D,fun q v hv=>?_⟩;have hq:q<sz:=by have:=(List.getElem?_eq_some_iff.1 hv).1;rw[he.len] at this;exact this
   have:=yB he l;rw[h] at this;have h2:(t.toNat+1)*sz<=l.length*sz:=Nat.mul_le_mul_right _ j;rw[Nat.succ_mul] at h2;simp at this;omega
 ·obtain⟨h1,hs,hh⟩:=H.at i hi;rcases hX h1 hh with rfl|⟨b,off,cs,T,fr,u,y,z⟩
  ·simp at j
  ·refine⟨b,off,u,D,fun q v hv=>?_⟩;rw[B] at u;cases u;have hq:q<sz:=by have:=(List.getElem?_eq_some_iff.1 hv).1;rw[he.len] at this;exact this
   have e:=F (t.toNat*sz+q) v (by rw[sC he l _ _ j hq,A];exact hv);rw[uF,<- Nat.add_assoc] at e;exact e
theorem SlRd.cut {X:HP}{sb:Option Addr}{l r:List α}{sc lo:Nat}{hi:Nat}(hX:SlRd X enc sz sb l)(he:wg enc sz)(h1:lo<=hi)(h2:hi<=l.length)(h3:hi<=sc)(F:r=(l.take hi).drop lo):SlRd X enc sz (yv sb sc lo sz) r:=by
 intro h hh;subst F;rcases hX h hh with rfl|⟨b,off,cs,T,fr,rfl,B,D⟩
 ·exact .inl (by simp)
 ·by_cases O:hi - lo=0
  ·left;apply List.eq_nil_of_length_eq_zero;simp;omega
  ·right
   have hlen:((l.take hi).drop lo).length=hi - lo:=by simp[Nat.min_eq_left h2]
   have t:¬ sc=lo:=by omega
   refine⟨b,off+lo*sz,cs,T,fr,by simp[yv,t,uF],B,fun i e=>?_⟩;rw[hlen] at e;have u:0<sz:=by
    rcases Nat.eq_zero_or_pos sz with h|h
    ·subst h;simp at e
    ·exact h
   have hj:i / sz<hi - lo:=Nat.div_lt_of_lt_mul (by rw[Nat.mul_comm];exact e);have hq:i % sz<sz:=Nat.mod_lt _ u;have j:(i / sz)*sz+i % sz=i:=by rw[Nat.mul_comm];exact Nat.div_add_mod i sz
   have x:=sC he ((l.take hi).drop lo) (i / sz) (i % sz) (by rw[hlen];exact hj) hq;have y:=sC he l (lo+i / sz) (i % sz) (by omega) hq;have z:((l.take hi).drop lo)[i / sz]'(by rw[hlen];exact hj)=l[lo+i / sz]'(by omega):=by simp
   rw[z,j] at x;have A:(lo+i / sz)*sz+i % sz=lo*sz+i:=by rw[Nat.add_mul];omega
   rw[A] at y;rw[x,<- y,Nat.add_assoc];refine D _ ?_;have I:lo*sz+(hi - lo)*sz=hi*sz:=by rw[<- Nat.add_mul];congr 1;omega
   have J:hi*sz<=l.length*sz:=Nat.mul_le_mul_right _ h2;omega
theorem OpTo.th {n:Nat}{a:Act}{L:Env}{o:Oper}(u:zN n a L)(H:St w0 As w)(he:wg enc sz)(xs:List α){cs:Array Value}{m:Nat}
  (j:(!qS o.op && iJ L o.op.operands.toList)=true) (y:∀ r,qj P (execOp (rho L) o) [] r=some (.cells cs T (0,0),.value (.slice (some ⟨r,0,none⟩) m m),[])) (hm:m=xs.length) (e:Nat.ble m 1000000=true) (l:cs.toList=xs.flatMap enc) :
  OpTo P o a w fun v w'=>∃ r:Nat,v = .slice (some ⟨r,0,none⟩) xs.length m/\St w0 (Sl T enc sz (some ⟨r,0,none⟩) m xs::As) w':=by
 have h:=OpTo.new (P:=P) u H [] (.cells cs T (0,0)) (fun r=>.slice (some ⟨r,0,none⟩) m m) j y trivial;refine h.mono ?_;rintro v w' ⟨r,rfl,t⟩;have x:=Nat.le_of_ble_eq_true e;have z:cs.size=m*sz:=by rw[<- Array.length_toList,l,yB he,hm]
 subst hm;exact⟨r,rfl,St.slOf t he (Nat.le_refl _) (by unfold maxLen;omega) (by omega) fun i hi=>by rw[<- l];simp⟩
theorem St.aG {sb sb':Option Addr}{sc sc':Nat}{l r:List α}{lo hi:Int}(H:St w0 (Sl T enc sz sb sc l::As) w)(he:wg enc sz)(e:mCut l lo hi=some r)(h1:yv sb sc lo.toNat sz=sb')(h2:sc - lo.toNat=sc') :
  St w0 (Sl T enc sz sb' sc' r::As) w:=by
 obtain⟨⟨h3,h4,i⟩,rfl⟩:=sB e;subst h1;subst h2;exact H.Ex he lo.toNat hi.toNat (by omega) (by omega)
theorem sd {l r:List α}{lo hi:Int}(e:mCut l lo hi=some r):hi.toNat - lo.toNat=r.length:=by
 obtain⟨⟨h3,h4,i⟩,rfl⟩:=sB e;simp;omega
theorem AM {l r:List α}{lo hi:Int}(e:mCut l lo hi=some r):0<=lo/\lo<=(hi.toNat:Int):=by
 obtain⟨⟨h3,h4,i⟩,rfl⟩:=sB e;omega
theorem mq {α:Type}{l r:List α}{lo:Int}{n:Nat}(e:mCut l lo (n:Int)=some r):0<=lo/\lo<=(n:Int):=by
 have:=AM e;simpa using this
theorem nF {α:Type}{l r:List α}{lo hi:Int}{sc sc':Nat}(i:mCut l lo hi=some r)(t:l.length<=sc)(h:sc - lo.toNat=sc'):r.length<=sc':=by
 have e:=sd i;obtain⟨⟨h3,h4,j⟩,_⟩:=sB i;omega
theorem oW {l r:List α}{lo hi:Int}{sc:Nat}(e:mCut l lo hi=some r)(j:l.length<=sc):0<=hi/\hi<=(sc:Int):=by
 obtain⟨⟨h3,h4,i⟩,rfl⟩:=sB e;omega
theorem SlRd.cut' {X:HP}{sb sb':Option Addr}{l r:List α}{sc:Nat}{lo hi:Int}(hX:SlRd X enc sz sb l)(he:wg enc sz)(i:mCut l lo hi=some r)(t:l.length<=sc)(h1:yv sb sc lo.toNat sz=sb'):SlRd X enc sz sb' r:=by
 obtain⟨⟨h3,h4,j⟩,e⟩:=sB i;subst h1;exact hX.cut he (by omega) (by omega) (by omega) e
end
def mNz (x:Int):Option Unit:=if x≠0 then some () else none
def mNn (x:Int):Option Unit:=if 0<=x then some () else none
theorem Ce {x:Int}{u:Unit}(h:mNz x=some u):x≠0:=by
 unfold mNz at h;split at h
 ·assumption
 ·cases h
theorem Cc {x:Int}{u:Unit}(h:mNn x=some u):0<=x:=by
 unfold mNn at h;split at h
 ·assumption
 ·cases h
def ecB (x:Bool):List Value:=[.bool x]
theorem CT:wg ecB 1:=⟨fun _=>rfl,fun x u hu=>by simp[ecB] at hu;subst hu;rfl⟩
theorem zN.dec {n:Nat}{a:Act}{L:Env}{b c:Bool}(e:zN n a L)(d:Nat)(h:b=c)(hl:look d L=some (.bool b)):zN n a ((d,.bool c)::L):=by
 subst h;refine⟨e.size,e.defers,fun t v hv=>?_⟩;rw[vH] at hv;split at hv
 ·subst_vars;cases hv;exact e.has _ _ hl
 ·exact e.has _ _ hv
section
variable {α:Type} {T:TypeId} {enc:α -> List Value} {sz:Nat} {w0 w:World} {As:List HP} {P:Program}
theorem SlRd.base {X:HP}{sb:Option Addr}{l:List α}(hX:SlRd X enc sz sb l)(he:wg enc sz)(H:St w0 As w)(i:Nat)(hi:As[i]? = some X){e:Int}{x:α}(j:mIdx l e=some x) :
  ∃ b off,sb=some ⟨b,off,none⟩/\(0<=e/\e<(l.length:Int)):=by
 obtain⟨b,off,h1,h2,_⟩:=hX.idx he H i hi j;exact⟨b,off,h1,h2⟩
theorem SlRd.cells {X:HP}{sb:Option Addr}{l:List α}(hX:SlRd X enc sz sb l)(he:wg enc sz)(H:St w0 As w)(i:Nat)(hi:As[i]? = some X){b off:Nat}(hs:sb=some ⟨b,off,none⟩){e:Int}{x:α}(t:mIdx l e=some x)
  (q:Nat) (v:Value) (hv:(enc x)[q]? = some v):w.cell? ⟨b,off+e.toNat*sz+q,none⟩=some v:=by
 obtain⟨u,j,h1,h2,h3⟩:=hX.idx he H i hi t;rw[hs] at h1;cases h1;exact h3 q v hv
theorem OpTo.vP {n:Nat}{a:Act}{L:Env}{o:Oper}{x y:Operand}{t u:TypeId}{d:TypeId}{e:TypeInfo}{sb xb:Option Addr}{sc xc m:Nat}{l ys r:List α}(J:mApp l ys=some r)(D:zN n a L)(H:St w0 (Sl T enc sz sb sc l::As) w)(he:wg enc sz)
  (I:o.op = .call { callee:=.builtin .append,args:=#[x,y],argTypes:=#[t,u] }) (O:evO L x=some (.slice sb l.length sc)) (S:evO L y=some (.slice xb m xc))
  (ht:P.underlying t=some (.slice T)) (hu:P.underlying u=some (.slice d)) (hi:P.info? T=some e) (A:e.size=sz) {z:Value} (U:e.zero=some z) (B:z.cells.size=sz)
  (hm:m=ys.length) (j:Rd w xb (ys.flatMap enc)) (F:Nat.ble e.bytes 131072=true) :
  OpTo P o a w fun v w'=>∃ sb' sc',v = .slice sb' r.length sc'/\St w0 (Sl T enc sz sb' sc' r::As) w':=by
 obtain⟨rfl,hle⟩:=eG J;have i:=Nat.le_of_ble_eq_true F;refine OpTo.append ys D H he I O S ht hu hi A U B hm j (by unfold maxLen;omega) ?_
 calc (l.length+ys.length)*e.bytes<=1073741824*131072:=Nat.mul_le_mul hle i
  _<=140737488355328:=by decide
def lF (P:Program)(t:TypeId)(xs ys:Array Value)(b:Bool):Prop:=∀ w,(Op.equal t (.agg xs) (.agg ys)).run P w = .ok b w
theorem OpTo.eqS {n:Nat}{a:Act}{L:Env}{o:Oper}{x y:Operand}{t u:TypeId}{xs ys:Array Value}{b:Bool}(e:zN n a L)(i:o.op = .binOp .eql t x y u)(l:evO L x=some (.agg xs))(z:evO L y=some (.agg ys))
  (j:P.eqGuardType P.depth t=false) (he:lF P t xs ys b):OpTo P o a w fun v w'=>v = .bool b/\w'=w:=by
 obtain⟨dst,op,type,pos,after,guard⟩:=o;simp only at i;subst i;refine OpTo.of_run (w':=w) ?_ ⟨rfl,rfl⟩;simp[execOp,e.eval l,e.eval z,eqGuard,binOp,j,he w]
theorem OpTo.neS {n:Nat}{a:Act}{L:Env}{o:Oper}{x y:Operand}{t u:TypeId}{xs ys:Array Value}{b:Bool}(e:zN n a L)(i:o.op = .binOp .neq t x y u)(l:evO L x=some (.agg xs))(z:evO L y=some (.agg ys))
  (j:P.eqGuardType P.depth t=false) (he:lF P t xs ys b):OpTo P o a w fun v w'=>v = .bool (!b)/\w'=w:=by
 obtain⟨dst,op,type,pos,after,guard⟩:=o;simp only at i;subst i;refine OpTo.of_run (w':=w) ?_ ⟨rfl,rfl⟩;simp[execOp,e.eval l,e.eval z,eqGuard,binOp,j,he w]
end
theorem OpTo.fv {P:Program}{n:Nat}{a:Act}{L:Env}{w:World}{o:Oper}{x:Operand}{xs:List Operand}{g:FuncId}{vs cs:List Value}{i:Value->World->Prop}(j:zN n a L)
  (t:callParts o.op=some (x,xs)) (u:evO L x=some (.func (.func g) #[] cs.toArray)) (e:nG L xs=some vs)
  (l:∀ args w,(callFunc g args).run P w = .ok (.enter g args) w) (h:ym P g (vs++cs).toArray w i):OpTo P o a w i :=
 OpTo.call j t u e l (by simpa using h)
def nc {α:Type}(l:List α)(i:Int)(v:List α):Option (List α):=if 0<=i/\i<=(l.length:Int)/\l.length+v.length<=1073741824 then some (l.take i.toNat++(v++l.drop i.toNat)) else none
def db {α:Type}(l:List α):Option (List α):=if l.length<=1073741824 then some l else none
theorem iq {P:Program}{w:World}{d:Nat}{xs ys:Array Value}{L:List Field}(e:L=[]):(Op.eqFields d xs ys L).run P w = .ok true w:=by
 subst e;simp[Op.eqFields]
theorem vA {P : Program} {w : World} {d : Nat} {xs ys : Array Value} {L : List Field} {f : Field} {fs : List Field} {a b : Value} {r r' : Bool} (hL : L = f :: fs) (hn : (f.name == "_") = false)
  (pa:(part f.type xs f.offset).run P w = .ok a w) (pb:(part f.type ys f.offset).run P w = .ok b w) (he:(Op.equalIn d f.type a b).run P w = .ok r w) (hr:(Op.eqFields d xs ys fs).run P w = .ok r' w) :
  (Op.eqFields d xs ys L).run P w = .ok (r && r') w:=by
 subst hL;have hn' : f.name ≠ "_" := by simpa using hn
 simp only[Op.eqFields,hn',ne_eq,not_false_eq_true,if_true,Sem.run_bind,pa,pb,he,Result.andThen_ok];cases r <;> simp[hr]
theorem ir {P:Program}{w:World}(d:Nat){t:TypeId}{xs ys:Array Value}{b:Bool}(ht:P.underlying t=some (.struct (P.fieldsOf t)))(hp:P.stoodInHeld t=false)(h:(Op.eqFields d xs ys (P.fieldsOf t).toList).run P w = .ok b w) :
  (Op.equalIn (d+1) t (.agg xs) (.agg ys)).run P w = .ok b w:=by rw[run_equalIn_struct w d t xs ys ht hp,h]
def mJ (i n:Nat):Option Unit:=if i=n then some () else none
theorem ay {i n:Nat}{u:Unit}(h:mJ i n=some u):i=n:=by
 unfold mJ at h;split at h
 ·assumption
 ·cases h
def mIn (i:Int)(n:Nat):Option Unit:=if 0<=i/\i<(n:Int) then some () else none
theorem iy {i:Int}{n:Nat}{u:Unit}(h:mIn i n=some u):0<=i/\i<(n:Int):=by
 unfold mIn at h;split at h
 ·assumption
 ·cases h
def iG {α:Type}(n:Int)(z:α):Option (List α):=if 0<=n/\n<=1073741824 then some (List.replicate n.toNat z) else none
theorem gq {α:Type}{n:Int}{z:α}{l:List α}(h:iG n z=some l):(0<=n/\n<=1073741824)/\l=List.replicate n.toNat z:=by
 unfold iG at h;split at h
 ·cases h;exact⟨by assumption,rfl⟩
 ·cases h
def B6 (s:ByteArray)(i:Int):Option Int:=if 0<=i then (s[i.toNat]?).map fun u=>(u.toNat:Int) else none
theorem bg {s:ByteArray}{i c:Int}(h:B6 s i=some c):0<=i /\ ∃ u,s[i.toNat]? = some u/\c=(u.toNat:Int):=by
 unfold B6 at h;split at h
 ·obtain⟨u,hu,rfl⟩:=Option.map_eq_some_iff.1 h;exact⟨by assumption,u,hu,rfl⟩
 ·cases h
section
variable {α:Type} {T:TypeId} {enc:α -> List Value} {sz:Nat} {w0 w:World} {As:List HP} {P:Program}
theorem nJ {n:Int}(h0:0<=n)(h1:n<=1073741824):IntKind.i64.wrap n=n:=by
 unfold IntKind.wrap;simp only[IntKind.bits,IntKind.signed];have:n % 2 ^ 64=n:=Int.emod_eq_of_lt h0 (by omega);simp only[this];have h2:¬ (9223372036854775808<=n):=by omega
 simp;intro h3;exact absurd h3 h2
theorem OpTo.make {n:Nat}{a:Act}{L:Env}{o:Oper}{t:TypeId}{x:Operand}{m:Int}{z:α}{l:List α}{u:TypeInfo}{A:Value}(hl:iG m z=some l)(hE:zN n a L)(H:St w0 As w)(he:wg enc sz)(Z:o.op = .makeSlice t x x)(hx:evO L x=some (.int .i64 m))
  (ht:P.underlying t=some (.slice T)) (hi:P.info? T=some u) (hs:u.size=sz) (hz:u.zero=some A) (Y:A.cells.toList=enc z) (hb:Nat.ble u.bytes 131072=true) :
  OpTo P o a w fun v w'=>∃ r:Nat,v = .slice (some ⟨r,0,none⟩) l.length l.length/\St w0 (Sl T enc sz (some ⟨r,0,none⟩) l.length l::As) w':=by
 obtain⟨⟨h0,h1⟩,rfl⟩:=gq hl;have J:=Nat.le_of_ble_eq_true hb;have hw:=nJ h0 h1;obtain⟨dst,op,type,pos,after,guard⟩:=o;simp only at Z;subst Z;obtain⟨k,rfl⟩:=Int.eq_ofNat_of_zero_le h0;have hk:k<=1073741824:=by omega
 have a3:u.bytes*k<=281474976710656:=by
  calc u.bytes*k<=131072*1073741824:=Nat.mul_le_mul J hk
   _<=281474976710656:=by decide
 have I:A.cells.size=sz:=by rw[<- Array.length_toList,Y,he.len]
 let arr:Array Value:=(Array.range (k*u.size)).map (A.cells[· % A.cells.size]!)
 have F:(Instr.makeSlice t (.int .i64 k) (.int .i64 k)).run P w = .ok (.slice (some ⟨w.heap.size,0,none⟩) k k) { w with heap:=w.heap.push (.cells arr T (0,0)) }:=by
  have W:¬ ((k:Int)<0):=by omega
  have X:¬ ((281474976710656:Int)<(u.bytes:Int)*(k:Int)):=by
   rw[<- Int.natCast_mul];omega
  have j:∀ (w:World),(askRoom (k*u.bytes)).run P w = .ok () w:=fun w=>by
   unfold askRoom;split <;> rfl
  by_cases hn:k*u.size=0
  ·have B:arr = #[]:=by simp[arr,hn]
   simp[Instr.makeSlice,xN P ht,asInt,asIntOf,typeInfo,hi,hw,W,X,j,qk P hi,hn,newRow,B];have U:(Array.map (fun _=>(default:Value)) (Array.range 0)) = #[]:=Array.eq_empty_of_size_eq_zero (by simp);rw[U]
  ·simp[Instr.makeSlice,xN P ht,asInt,asIntOf,typeInfo,hi,hw,W,X,j,qk P hi,hn,newRow,zeroValue,hz,arr]
   try rfl
 refine OpTo.of_run (w':={ w with heap:=w.heap.push (.cells arr T (0,0)) }) (v:=.slice (some ⟨w.heap.size,0,none⟩) k k) ?_ ⟨w.heap.size,by simp,?_⟩
 ·simp[execOp,hE.eval hx,F]
 ·have H2:=H.alloc (.cells arr T (0,0));have:=St.slOf (l:=List.replicate k z) (sc:=k) H2 he (by simp) (by unfold maxLen;omega) (by simp[arr,hs]) (fun i y=>by
   simp only[List.length_replicate] at y;have D:0<sz:=by
    rcases Nat.eq_zero_or_pos sz with h|h
    ·subst h;simp at y
    ·exact h
   have hj:i / sz<(List.replicate k z).length:=by simp;exact Nat.div_lt_of_lt_mul (by rw[Nat.mul_comm];exact y)
   have hq:i % sz<sz:=Nat.mod_lt _ D;have e:=sC he (List.replicate k z) (i / sz) (i % sz) hj hq;have O:(i / sz)*sz+i % sz=i:=by rw[Nat.mul_comm];exact Nat.div_add_mod i sz
   rw[O] at e;rw[e];simp only[List.getElem_replicate];rw[<- Y];simp only[arr,hs,I];have S:i % sz<A.cells.size:=by rw[I];exact hq
   rw[Array.getElem?_map,Array.getElem?_range];simp[y,S])
  simpa using this
end
def Ch (c cap:Nat)(buf:List Value):HP:=fun h=>∃ x:Nat × Nat,One c (.chan cap buf.toArray false x.1 x.2 false) h
section
open Go.Conc
variable {P:Program} {f:FuncId} {k:List Item} {a:Act} {w w0:World} {R:Value->World->Prop} {ops:Array Oper} {As:List HP} {n d c cap:Nat} {L:Env} {o:Oper} {buf:List Value}
theorem Runs.AJ {todo todo':List Item}{a':Act}{w':World}(hs:∀ (b:Frame) cs,b.kind ≠ .early->Go.step P (lone (b.at a todo) cs w) = .next (lone (b.at a' todo') cs w'))(h:Runs P f todo' a' w' R):Runs P f todo a w R :=
 fun b i hk cs=>let ⟨v,j,fr,e,h1,h2⟩:=h b i hk cs; ⟨v,j,fr,e,.head (hs b cs (by rw[hk];simp)) h1,h2⟩
theorem pk {id:Nat}(hi:ops[0]? = some o)(h:Runs P f (.inRegion ops (0::List.range' 1 (ops.size - 1))::k) a w R):Runs P f (.code (.region id ops false)::k) a w R:=by
 refine .step (fun _ _=>step_region) ?_;have e:0<ops.size:=(Array.getElem?_eq_some_iff.1 hi).1;have:List.range ops.size=0::List.range' 1 (ops.size - 1):=by
  rw[List.range_eq_range'];have:ops.size=(ops.size - 1)+1:=by omega
  conv=>lhs;rw[this]
  rw[List.range'_succ]
 rw[this];exact h
theorem St.CP (H:St w0 (Ch c cap buf::As) w)(e:List Value)(s r:Nat):St w0 (Ch c cap e::As) (w.setChan c cap e.toArray false s r false):=by
 obtain⟨x,H⟩:=H.ex;have t:=H.one 0 rfl;have i:=(Array.getElem?_eq_some_iff.1 t).1;have l:=H.set (w':=w.setChan c cap e.toArray false s r false) (o':=.chan cap e.toArray false s r false) rfl rfl rfl (by simp[World.setChan,i]) (fun j hj=>by simp only[World.setChan];rw[Array.getElem?_setIfInBounds_ne (Ne.symm hj)]);exact l.head fun h hh=>⟨(s,r),hh⟩
theorem ky {x y:Operand}{e:TypeId}{v:Value}{l:TypeInfo}{z:Value}(i:zN n a L)(j:o.op = .select #[{ chan:=x,send:=some y,elem:=e }] false)(t:evO L x=some (.chan (some c)))(u:evO L y=some v)
  (hi:P.info? e=some l) (A:l.zero=some z):(execOp a.eval o).run P w = .ok (.comm #[scase c v z] false .select) w:=by
 obtain⟨dst,op,type,pos,after,guard⟩:=o;simp only at j;subst j;simp[execOp,scase,i.eval t,i.eval u,zeroValue,typeInfo,hi,A]
theorem kx {x:Operand}{e:TypeId}{j:TypeInfo}{z:Value}(l:zN n a L)(i:o.op = .select #[{ chan:=x,send:=none,elem:=e }] false)(t:evO L x=some (.chan (some c)))
  (hi:P.info? e=some j) (u:j.zero=some z):(execOp a.eval o).run P w = .ok (.comm #[rcase c z] false .select) w:=by
 obtain⟨dst,op,type,pos,after,guard⟩:=o;simp only at i;subst i;simp[execOp,rcase,l.eval t,zeroValue,typeInfo,hi,u]
theorem Runs.ej {id:Nat}{x y:Operand}{e:TypeId}{v:Value}{t:TypeInfo}{z:Value}(l:zN n a L)(H:St w0 (Ch c cap buf::As) w)(i:ops[0]? = some o)(hd:o.dst=some d)(hn:Nat.blt d n=true)(D:o.guard=none)
  (F:o.op = .select #[{ chan:=x,send:=some y,elem:=e }] false) (I:evO L x=some (.chan (some c))) (J:evO L y=some v) (hi:P.info? e=some t) (O:t.zero=some z) (j:buf.length<cap)
  (hk:∀ a' w',zN n a' ((d,.tuple #[goInt 0,.bool false])::L)->St w0 (Ch c cap (buf++[v])::As) w'->WR P f ops 1 k a' w' R):Runs P f (.code (.region id ops false)::k) a w R:=by
 refine pk i ?_;obtain⟨⟨s,r⟩,H1⟩:=H.ex;have B:=H1.one 0 rfl;have u:=H.CP (buf++[v]) (s+1) r;refine Runs.AJ (a':=a.put o.dst (.tuple #[goInt 0,.bool false])) (todo':=.inRegion ops (List.range' 1 (ops.size - 1))::k) (w':=w.setChan c cap (buf++[v]).toArray false (s+1) r false) (fun b cs A=>?_) (Runs.gz ?_)
 ·have hw:Region.wanted o (yielded ops a.tmps)=true:=by simp[Region.wanted,D]
  have:=step_lone_select_send_room (buf:=buf.toArray) (stepG_comm (k:=k) (cs:=cs) (rest:=List.range' 1 (ops.size - 1)) i hw A (ky l F I J hi O)) B (by simpa using j);rw[lone_eq_solo,this,Frame.finish_at,i];simp[lone_eq_solo]
 ·rw[hd];rw[hd] at *
  exact hk _ _ (l.put _ _ (by simpa[Nat.blt_eq] using hn)) u
theorem Runs.eh {id:Nat}{x y:Operand}{e:TypeId}{v:Value}{t:TypeInfo}{z:Value}(l:zN n a L)(H:St w0 (Ch c cap buf::As) w)(j:ops[0]? = some o)(hd:o.dst=some d)(hn:Nat.blt d n=true)(B:o.guard=none)
  (D:o.op = .select #[{ chan:=x,send:=some y,elem:=e }] false) (F:evO L x=some (.chan (some c))) (I:evO L y=some v) (hi:P.info? e=some t) (J:t.zero=some z) (i:cap<=buf.length)
  (hk:∀ a',zN n a' ((d,.tuple #[goInt (-1),.bool false])::L)->WR P f ops 1 k a' w R):Runs P f (.code (.region id ops false)::k) a w R:=by
 refine pk j ?_;obtain⟨⟨s,r⟩,H1⟩:=H.ex;have A:=H1.one 0 rfl;refine Runs.AJ (a':=a.put o.dst (.tuple #[goInt (-1),.bool false])) (todo':=.inRegion ops (List.range' 1 (ops.size - 1))::k) (w':=w) (fun b cs u=>?_) (Runs.gz ?_)
 ·have hw:Region.wanted o (yielded ops a.tmps)=true:=by simp[Region.wanted,B]
  have:=step_lone_select_send_full (buf:=buf.toArray) (stepG_comm (k:=k) (cs:=cs) (rest:=List.range' 1 (ops.size - 1)) j hw u (ky l D F I hi J)) A (by simpa using i);rw[lone_eq_solo,this,Frame.finish_at,j];simp[lone_eq_solo]
 ·rw[hd];exact hk _ (l.put _ _ (by simpa[Nat.blt_eq] using hn))
theorem Runs.eg {id:Nat}{x:Operand}{e:TypeId}{v:Value}{l:TypeInfo}{z:Value}(j:zN n a L)(H:St w0 (Ch c cap (v::buf)::As) w)(i:ops[0]? = some o)(hd:o.dst=some d)(hn:Nat.blt d n=true)(A:o.guard=none)
  (B:o.op = .select #[{ chan:=x,send:=none,elem:=e }] false) (D:evO L x=some (.chan (some c))) (hi:P.info? e=some l) (F:l.zero=some z)
  (hk:∀ a' w',zN n a' ((d,.tuple #[goInt 0,.bool true,v])::L)->St w0 (Ch c cap buf::As) w'->WR P f ops 1 k a' w' R):Runs P f (.code (.region id ops false)::k) a w R:=by
 refine pk i ?_;obtain⟨⟨s,r⟩,H1⟩:=H.ex;have y:=H1.one 0 rfl;have t:=H.CP buf s (r+1);refine Runs.AJ (a':=a.put o.dst (.tuple #[goInt 0,.bool true,v])) (todo':=.inRegion ops (List.range' 1 (ops.size - 1))::k) (w':=w.setChan c cap buf.toArray false s (r+1) false) (fun b cs u=>?_) (Runs.gz ?_)
 ·have hw:Region.wanted o (yielded ops a.tmps)=true:=by simp[Region.wanted,A]
  have:=step_lone_select_recv_buf (buf:=(v::buf).toArray) (stepG_comm (k:=k) (cs:=cs) (rest:=List.range' 1 (ops.size - 1)) i hw u (kx j B D hi F)) y (by simp);rw[lone_eq_solo,this,Frame.finish_at,i];simp[lone_eq_solo]
 ·rw[hd];exact hk _ _ (j.put _ _ (by simpa[Nat.blt_eq] using hn)) t
theorem Runs.ee {id:Nat}{x:Operand}{e:TypeId}{l:TypeInfo}{z:Value}(j:zN n a L)(H:St w0 (Ch c cap []::As) w)(i:ops[0]? = some o)(hd:o.dst=some d)(hn:Nat.blt d n=true)(y:o.guard=none)
  (A:o.op = .select #[{ chan:=x,send:=none,elem:=e }] false) (B:evO L x=some (.chan (some c))) (hi:P.info? e=some l) (D:l.zero=some z)
  (hk:∀ a',zN n a' ((d,.tuple #[goInt (-1),.bool false,z])::L)->WR P f ops 1 k a' w R):Runs P f (.code (.region id ops false)::k) a w R:=by
 refine pk i ?_;obtain⟨⟨s,r⟩,H1⟩:=H.ex;have u:=H1.one 0 rfl;refine Runs.AJ (a':=a.put o.dst (.tuple #[goInt (-1),.bool false,z])) (todo':=.inRegion ops (List.range' 1 (ops.size - 1))::k) (w':=w) (fun b cs t=>?_) (Runs.gz ?_)
 ·have hw:Region.wanted o (yielded ops a.tmps)=true:=by simp[Region.wanted,y]
  have:=step_lone_select_default (stepG_comm (k:=k) (cs:=cs) (rest:=List.range' 1 (ops.size - 1)) i hw t (kx j A B hi D)) u;rw[lone_eq_solo,this,Frame.finish_at,i];simp[lone_eq_solo]
 ·rw[hd];exact hk _ (j.put _ _ (by simpa[Nat.blt_eq] using hn))
theorem OpTo.Em {x:Operand}{t e:TypeId}{dir:ChanDir}(i:Nat)(u:zN n a L)(H:St w0 As w)(hi:As[i]? = some (Ch c cap buf))(l:o.op = .call { callee:=.builtin .len,args:=#[x],argTypes:=#[t] })(ht:P.underlying t=some (.chan dir e))(y:evO L x=some (.chan (some c))) :
  OpTo P o a w fun v w'=>v = .int .i64 buf.length/\w'=w:=by
 obtain⟨dst,op,type,pos,after,guard⟩:=o;simp only at l;subst l;obtain⟨h1,hs,⟨s,r⟩,hh⟩:=H.at i hi;have j:=hs _ _ hh;simp only[hpOf] at j;refine OpTo.of_run (w':=w) ?_ ⟨rfl,rfl⟩;simp[execOp,resolve,invoke,builtin,u.eval y,Builtin.len_,xN P ht,getObj,Sem.run,j,goInt]
end
end
noncomputable section
structure Pd where
 i:Nat
 o:Oper
 v:Value
 obs:List Ob
def Pd.T (u:Pd)(w:World):Prop:=wm w u.obs
def wS (e:Array Bool):List Pd->Array Bool
 | []=>e
 | u::U=>(wS e U).setIfInBounds u.i true
def tX (ar:Act):List Pd->Act
 | []=>ar
 | u::U=>(tX ar U).put u.o.dst u.v
def pY (o:Oper)(b:Array Bool):Prop:=∀ e∈o.after,Region.binds .any e=true->b.getD e.on false=true
def elN (i:Nat):List Nat->Bool
 | []=>false
 | x::l=>match Nat.beq i x with
  | true=>true
  | false=>elN i l
theorem bz {i:Nat}:∀ {l:List Nat},elN i l=true->i∈l
 | x::l,h=>by
  simp only[elN] at h;split at h
  ·rename_i e;rw[Nat.eq_of_beq_eq_true e];exact List.mem_cons_self
  ·exact mC _ (bz h)
def rH (o:Oper):List Nat:=(o.after.toList.filter (Region.binds .any)).map (·.on)
def ancS (ops:Array Oper):Nat->List Nat->List Nat->List Nat
 | 0,_,seen=>seen
 | n+1,[],seen=>seen
 | n+1,j::todo,seen=>match elN j seen with
  | true=>ancS ops n todo seen
  | false=>match ops[j]? with
   | none=>ancS ops n todo seen
   | some o=>ancS ops n (rH o++todo) (j::seen)
def anc (ops:Array Oper)(i j:Nat):Bool:=match ops[j]? with
 | some o=>elN i (ancS ops 4000 (rH o) [])
 | none=>false
def Closed (ops:Array Oper)(b:Array Bool):Prop:=∀ x o,ops[x]? = some o->b.getD x false=true->pY o b
theorem eN {o:Oper}{b:Array Bool}(hp:pY o b):∀ x∈rH o,b.getD x false=true:=fun x i=>by
 simp only[rH,List.mem_map,List.mem_filter,Array.mem_toList_iff] at i;obtain⟨e,⟨he,j⟩,rfl⟩:=i;exact hp e he j
theorem ia {ops:Array Oper}{b:Array Bool}(t:Closed ops b):∀ (n:Nat) (todo seen:List Nat),(∀ x∈todo,b.getD x false=true)->(∀ x∈seen,b.getD x false=true) -> ∀ x∈ancS ops n todo seen,b.getD x false=true
 | 0,todo,seen,_,hs,x,e=>hs x (by simpa[ancS] using e)
 | n+1,[],seen,_,hs,x,e=>hs x (by simpa[ancS] using e)
 | n+1,j::todo,seen,ht,hs,x,e=>by
  have i:∀ x∈todo,b.getD x false=true:=fun y l=>ht y (mC _ l)
  have hj:=ht j List.mem_cons_self;simp only[ancS] at e;split at e
  ·exact ia t n todo seen i hs x e
  ·split at e
   ·exact ia t n todo seen i hs x e
   ·rename_i o u;refine ia t n _ _ (fun y l=>?_) (fun y l=>?_) x e
    ·rcases List.mem_append.1 l with h|h
     ·exact eN (t j o u hj) y h
     ·exact i y h
    ·cases l with
     | head=>exact hj
     | tail _ hm=>exact hs y hm
theorem CM {ops:Array Oper}{b:Array Bool}(e:Closed ops b)(i j:Nat)(o:Oper)(l:ops[j]? = some o)(hp:pY o b)(h:anc ops i j=true):b.getD i false=true:=by
 simp only[anc,l] at h;exact ia e _ _ _ (eN hp) (by simp) _ (bz h)
def tb (m i:Nat):Bool:=match Nat.land (Nat.shiftRight m i) 1 with
 | 0=>false
 | _+1=>true
theorem eE (m i:Nat):tb m i=m.testBit i:=by
 have e:Nat.land (Nat.shiftRight m i) 1=(m >>> i) &&& 1:=rfl;unfold tb;rw[e,Nat.testBit,Nat.and_comm];cases h:1 &&& m >>> i <;> simp
def bitL (i m:Nat):Nat:=Nat.lor (Nat.shiftLeft 1 i) m
theorem Bh (i m x:Nat):tb (bitL i m) x=true ↔ x=i \/ tb m x=true:=by
 have e:bitL i m=(1 <<< i) ||| m:=rfl;rw[eE,eE,e,Nat.testBit_or,Bool.or_eq_true];have:(1 <<< i).testBit x=true ↔ x=i:=by
  rw[Nat.one_shiftLeft,Nat.testBit_two_pow];simp[eq_comm]
 rw[this]
def uI:List Nat->Nat
 | []=>0
 | x::l=>bitL x (uI l)
theorem ur (x:Nat):∀ l:List Nat,tb (uI l) x=true ↔ x∈l
 | []=>by simp[uI,eE]
 | y::l=>by rw[uI,Bh,ur x l,iC]
def subM (a b:Nat):Bool:=Nat.beq (Nat.land a b) a
theorem mh {l:List Nat}{m:Nat}:subM (uI l) m=true ↔ ∀ x∈l,tb m x=true:=by
 have e:Nat.land (uI l) m=uI l &&& m:=rfl;unfold subM;rw[e];refine Iff.trans ⟨Nat.eq_of_beq_eq_true,fun h=>by rw[h];exact Nat.beq_refl _⟩ ?_;constructor
 ·intro h x i;have h1:=(ur x l).2 i;rw[eE,<- h,Nat.testBit_and,Bool.and_eq_true] at h1;rw[eE];exact h1.2
 ·intro h;refine Nat.eq_of_testBit_eq fun x=>?_
  rw[Nat.testBit_and];cases i:(uI l).testBit x with
  | false=>rfl
  | true =>
   have:=h x ((ur x l).1 (by rw[eE];exact i));rw[eE] at this;rw[this];rfl
def mu (o:Oper):Nat:=uI (rH o)
def Df (ops:Array Oper)(o:Oper):Nat:=uI (o.looksAt ops)
def dneq (x y:Oper):Bool:=match x.dst,y.dst with
 | some d,some e=>match Nat.beq d e with
  | true=>false
  | false=>true
 | _,_=>true
def jW (ops:Array Oper)(x y:Oper):Bool:=match x.dst with
 | some d=>match tb (Df ops y) d with
  | true=>false
  | false=>true
 | none=>true
def apP (ops:Array Oper)(i j:Nat)(x y:Oper):Bool:=Nat.beq i j || (dneq x y && (tb (mu y) i || tb (mu x) j || (jW ops x y && jW ops y x)))
def dR (ops:Array Oper)(i:Nat)(x:Oper):Nat->List Oper->Bool
 | _,[]=>true
 | j,y::l=>apP ops i j x y && dR ops i x (j+1) l
def cY (ops:Array Oper):Nat->List Oper->Bool
 | _,[]=>true
 | i,x::l=>dR ops i x 0 ops.toList && (rH x).all (fun e=>Nat.blt e ops.size) && cY ops (i+1) l
def rZ (ops:Array Oper):Bool:=Region.noSelect ops && cY ops 0 ops.toList
theorem jw {ops:Array Oper}{i:Nat}{x:Oper}:∀ (l:List Oper) (j n:Nat) (y:Oper),dR ops i x j l=true->l[n]? = some y->apP ops i (j+n) x y=true
 | [],j,n,y,_,h=>by simp at h
 | z::l,j,0,y,h,e=>by
  simp only[dR,Bool.and_eq_true] at h;simp at e;subst e;exact h.1
 | z::l,j,n+1,y,h,e=>by
  simp only[dR,Bool.and_eq_true] at h;have:=jw l (j+1) n y h.2 (by simpa using e)
  rwa [Nat.add_right_comm,Nat.add_assoc] at this
theorem mn {ops:Array Oper}:∀ (l:List Oper) (i n:Nat) (x:Oper),cY ops i l=true->l[n]? = some x->dR ops (i+n) x 0 ops.toList=true /\ ∀ e∈rH x,e<ops.size
 | [],i,n,x,_,h=>by simp at h
 | z::l,i,0,x,h,j=>by
  simp only[cY,Bool.and_eq_true,List.all_eq_true] at h;simp at j;subst j;exact⟨h.1.1,fun e he=>by simpa[Nat.blt_eq] using h.1.2 e he⟩
 | z::l,i,n+1,x,h,j=>by
  simp only[cY,Bool.and_eq_true] at h;have:=mn l (i+1) n x h.2 (by simpa using j)
  rwa [Nat.add_right_comm,Nat.add_assoc] at this
theorem ga {x y:Oper}(h:dneq x y=true){d:Tmp}(e:x.dst=some d):y.dst≠some d:=by
 intro i;simp[dneq,e,i] at h
theorem nr {ops:Array Oper}{x y:Oper}(h:jW ops x y=true){d:Tmp}(e:x.dst=some d):d ∉ y.looksAt ops:=by
 intro i;have:=(ur d (y.looksAt ops)).2 i;simp only[jW,e,Df,this] at h;cases h
theorem jQ {ops:Array Oper}(h:rZ ops=true){i j:Nat}{x y:Oper}(l:ops[i]? = some x)(t:ops[j]? = some y)(e:i≠j) :
  dneq x y=true/\((tb (mu y) i=true \/ tb (mu x) j=true) \/ jW ops x y=true/\jW ops y x=true):=by
 simp only[rZ,Bool.and_eq_true] at h;have h1:=(mn _ 0 i x h.2 (by simpa using l)).1;have h2:=jw _ 0 j y h1 (by simpa using t);simp only[apP,Bool.or_eq_true,Bool.and_eq_true,Nat.zero_add] at h2;rcases h2 with h2|h2
 ·exact absurd (Nat.eq_of_beq_eq_true h2) e
 ·exact h2
theorem aL {o:Oper}{i:Nat}:tb (mu o) i=true ↔ ∃ e∈o.after,Region.binds .any e=true/\e.on=i:=by
 rw[mu,ur,rH];simp only[List.mem_map,List.mem_filter,Array.mem_toList_iff];constructor
 ·rintro⟨e,⟨h1,h2⟩,h3⟩;exact⟨e,h1,h2,h3⟩
 ·rintro⟨e,h1,h2,h3⟩;exact⟨e,⟨h1,h2⟩,h3⟩
theorem qX {m i:Nat}{d:Bool}:∀ dn:List Nat,i<m->((listed m dn).getD i d=true ↔ i∈dn):=by
 suffices ∀ (dn:List Nat) (b:Array Bool),b.size=m->i<m->(((dn.foldl (fun b i=>b.setIfInBounds i true) b).getD i d=true) ↔ (b.getD i d=true \/ i∈dn)) by
  intro dn hi;have h:=this dn (Array.replicate m false) (by simp) hi;rw[listed,h];simp[hi]
 intro dn;induction dn with
 | nil=>intro b _ _;simp
 | cons x dn ih =>
  intro b j hi;rw[List.foldl_cons,ih _ (by simpa using j) hi];by_cases e:x=i
  ·subst e;simp[j,hi]
  ·rw[getD_set_ne d e];simp[Ne.symm e]
theorem cd {m i:Nat}{d:Bool}(dn:List Nat)(hi:m<=i):(listed m dn).getD i d=d:=by
 have hs:(listed m dn).size=m:=by
  unfold listed
  suffices ∀ b:Array Bool,(dn.foldl (fun b i=>b.setIfInBounds i true) b).size=b.size by simpa using this (Array.replicate m false)
  induction dn with
  | nil=>simp
  | cons x dn ih=>intro b;rw[List.foldl_cons,ih];simp
 simp[Array.getElem?_eq_none (hs ▸ hi)]
def uv (m:Nat):Nat->List Oper->List Nat
 | _,[]=>[]
 | i,x::l=>match tb m i with
  | true=>uv m (i+1) l
  | false=>match subM (mu x) m with
   | true=>i::uv m (i+1) l
   | false=>uv m (i+1) l
theorem mS {m j:Nat}:∀ (l:List Oper) (i:Nat),j∈uv m i l ↔ ∃ n x,l[n]? = some x/\j=i+n/\tb m j=false/\subM (mu x) m=true
 | [],i=>by simp[uv]
 | z::l,i=>by
  have ih:=mS (m:=m) (j:=j) l (i+1);have t:(∃ n x,(z::l)[n]? = some x/\j=i+n/\tb m j=false/\subM (mu x) m=true) ↔ (j=i/\tb m i=false/\subM (mu z) m=true) \/ j∈uv m (i+1) l:=by
   rw[ih];constructor
   ·rintro⟨n,x,e,hj,h1,h2⟩;cases n with
    | zero=>simp at e;subst e;left;exact⟨hj,by rw[hj] at h1;exact h1,h2⟩
    | succ n=>right;exact⟨n,x,by simpa using e,by omega,h1,h2⟩
   ·rintro (⟨rfl,h1,h2⟩|⟨n,x,e,hj,h1,h2⟩)
    ·exact⟨0,z,by simp,by simp,h1,h2⟩
    ·exact⟨n+1,x,by simpa using e,by omega,h1,h2⟩
  rw[t,uv];split
  ·rename_i h;simp[h]
  ·rename_i h;split
   ·rename_i h2;simp[h,h2]
   ·rename_i h2;simp[h2]
theorem kr {ops:Array Oper}(h:rZ ops=true)(dn:List Nat)(j:Nat):j∈uv (uI dn) 0 ops.toList ↔ j∈Region.ready .any ops (listed ops.size dn):=by
 rw[mS,mem_ready];constructor
 ·rintro⟨n,x,t,hj,h1,h2⟩;have e:n=j:=by omega
  subst e;have u:ops[n]? = some x:=by simpa using t
  have i:n<ops.size:=(Array.getElem?_eq_some_iff.1 u).1;refine⟨?_,x,u,fun e he z=>?_⟩
  ·cases hh:(listed ops.size dn).getD n true with
   | false=>rfl
   | true =>
    have:=(ur n dn).2 ((qX dn i).1 hh);rw[this] at h1;cases h1
  ·simp only[rZ,Bool.and_eq_true] at h;have l:e.on∈rH x:=by
    simp only[rH,List.mem_map,List.mem_filter,Array.mem_toList_iff];exact⟨e,⟨he,z⟩,rfl⟩
   have hl:=(mn _ 0 n x h.2 t).2 _ l;exact (qX dn hl).2 ((ur _ dn).1 (mh.1 h2 _ l))
 ·rintro⟨h1,x,t,h2⟩;have i:j<ops.size:=(Array.getElem?_eq_some_iff.1 t).1;refine⟨j,x,by simpa using t,by simp,?_,?_⟩
  ·cases hh:tb (uI dn) j with
   | false=>rfl
   | true =>
    have:=(qX (d:=true) dn i).2 ((ur j dn).1 hh);rw[this] at h1;cases h1
  ·refine mh.2 fun y A=>?_
   simp only[rH,List.mem_map,List.mem_filter,Array.mem_toList_iff] at A;obtain⟨e,⟨he,z⟩,rfl⟩:=A;have:=h2 e he z;rcases Nat.lt_or_ge e.on ops.size with hl|hl
   ·exact (ur _ dn).2 ((qX dn hl).1 this)
   ·rw[cd dn hl] at this;cases this
theorem AD {ops:Array Oper}(h:rZ ops=true){m i:Nat}{o:Oper}{dn:List Nat}(hm:∀ x,tb m x=true ↔ x∈dn)(e:ops[i]? = some o)(h1:tb m i=false)(h2:subM (mu o) m=true) :
  i∈Region.ready .any ops (listed ops.size dn):=by
 refine (kr h dn i).1 ((mS _ 0).2 ⟨i,o,by simpa using e,by simp,?_,?_⟩)
 ·cases hh:tb (uI dn) i with
  | false=>rfl
  | true=>rw[(hm i).2 ((ur i dn).1 hh)] at h1;cases h1
 ·exact mh.2 fun x j=>(ur x dn).2 ((hm x).1 (mh.1 h2 x j))
theorem jP {ops:Array Oper}(h:rZ ops=true){dn:List Nat}:uv (uI dn) 0 ops.toList=[] ↔ Region.ready .any ops (listed ops.size dn)=[]:=by
 rw[List.eq_nil_iff_forall_not_mem,List.eq_nil_iff_forall_not_mem];exact forall_congr' fun j=>not_congr (kr h dn j)
def iX (ops:Array Oper):List Nat->Nat->Bool
 | [],_=>true
 | i::is,m=>match ops[i]? with
  | none=>false
  | some o=>match tb m i with
   | true=>false
   | false=>match subM (mu o) m with
    | false=>false
    | true=>iX ops is (bitL i m)
section
variable {P:Program} {ops:Array Oper} {Q:Exit->Act->World->Prop}
def OkU (P:Program)(ops:Array Oper)(l:Array Bool)(ar:Act):List Pd->Prop
 | []=>True
 | u::U=>ops[u.i]? = some u.o/\(wS l U).getD u.i true=false/\pY u.o (wS l U)/\YieldsIf P ops u.T u.o u.v (tX ar U) /\
   (∀ j t,ops[j]? = some t->j≠u.i->(wS l U).getD j true=false->(∀ e∈t.after,Region.binds .any e=true->e.on≠u.i)->u.o.apart ops t=true)/\OkU P ops l ar U
theorem qz {b:Array Bool}{i j:Nat}(h:(b.setIfInBounds i true).getD j true=false):b.getD j true=false:=by
 by_cases e:i=j
 ·subst e;rcases Nat.lt_or_ge i b.size with l|l
  ·simp[l] at h
  ·simp[Array.getElem?_eq_none l] at h
 ·rwa [getD_set_ne true e] at h
theorem kC {e:Array Bool}{j:Nat}:∀ {U:List Pd},(wS e U).getD j true=false->e.getD j true=false
 | [],h=>h
 | u::U,h=>kC (U:=U) (qz h)
theorem pt {e:Array Bool}{j:Nat}(h:e.getD j false=true):∀ {U:List Pd},(wS e U).getD j false=true
 | []=>h
 | u::U=>getD_set_true (pt h)
theorem mX {b:Array Bool}{j:Nat}(h:b.getD j false=true)(h2:b.getD j true=false):False:=by
 rcases Nat.lt_or_ge j b.size with e|e
 ·simp[e] at h h2;rw[h2] at h;cases h
 ·simp[Array.getElem?_eq_none e] at h
theorem rz (e:Array Bool)(j:Nat):∀ U:List Pd,wS (e.setIfInBounds j true) U=(wS e U).setIfInBounds j true
 | []=>rfl
 | u::U=>by
  simp only[wS,rz e j U];by_cases h:u.i=j
  ·subst h;simp
  ·rw[Array.setIfInBounds_comm _ _ h]
theorem j9 {u:Pd}{a:Act}{d:Option Tmp}{v:Value}(hs:Region.noSelect ops=true)(hu:ops[u.i]? = some u.o)(hd:∀ x,d=some x->x ∉ u.o.looksAt ops) :
  YieldsIf P ops u.T u.o u.v a ↔ YieldsIf P ops u.T u.o u.v (a.put d v) :=
 ⟨fun h=>h.of_same (execOp_put u.o (fun cs b=>Region.noSelect_spec hs u.i u.o cs b hu) a d v hd) (wanted_put u.o a d v hd),
  fun h=>h.of_same (execOp_put u.o (fun cs b=>Region.noSelect_spec hs u.i u.o cs b hu) a d v hd).symm (wanted_put u.o a d v hd).symm⟩
theorem ib {y:Array Bool}{ar:Act}{j:Nat}{z:Oper}(hj:ops[j]? = some z)(hp:pY z y):∀ {U:List Pd},OkU P ops y ar U->(wS y U).getD j true=false -> ∀ u∈U,u.o.apart ops z=true
 | [],_,_,u,hu=>by cases hu
 | x::U,h,l,u,hu=>by
  obtain⟨h1,h2,h3,h4,D,F⟩:=h;have B:j≠x.i:=by
   rintro rfl;have:x.i<ops.size:=(Array.getElem?_eq_some_iff.1 hj).1;simp only[wS] at l;rcases Nat.lt_or_ge x.i (wS y U).size with A|A
   ·simp[A] at l
   ·simp[Array.getElem?_eq_none A] at l
  have t:(wS y U).getD j true=false:=qz l;cases hu with
  | head =>
   refine D j z hj B t fun e he I heq=>?_
   have:=hp e he I;rw[heq] at this;exact mX (pt (U:=U) this) h2
  | tail _ hm=>exact ib hj hp F t u hm
theorem oD {d:Option Tmp}{v:Value}(ar:Act):∀ (U:List Pd),(∀ u∈U,∀ x,u.o.dst=some x->d≠some x)->tX (ar.put d v) U=(tX ar U).put d v
 | [],_=>rfl
 | u::U,h=>by
  simp only[tX,oD ar U fun u hu=>h u (mC _ hu)];exact Act.put_comm _ v u.v fun x e=>by
   have:=h u (by simp);intro hd;exact this x hd e
theorem iL (hs:Region.noSelect ops=true){S:Array Bool}{ar:Act}{j:Nat}{t:Oper}(v:Value)(hj:ops[j]? = some t):∀ {U:List Pd},(∀ u∈U,u.o.apart ops t=true)->(∀ u∈U,u.i≠j)->OkU P ops S ar U ->
  OkU P ops (S.setIfInBounds j true) (ar.put t.dst v) U
 | [],_,_,_=>trivial
 | u::U,y,z,h=>by
  obtain⟨h1,h2,h3,h4,W,X⟩:=h;have O:∀ x∈U,x.o.apart ops t=true:=fun x l=>y x (mC _ l)
  have Y:∀ x∈U,x.i≠j:=fun x l=>z x (mC _ l)
  have B:tX (ar.put t.dst v) U=(tX ar U).put t.dst v:=oD ar U fun u hu x l=>by
   have:=(Oper.apart_spec (O u hu)).2.1 x l;exact this
  refine⟨h1,?_,?_,?_,?_,iL hs v hj O Y X⟩
  ·rw[rz,getD_set_ne true (Ne.symm (z u (by simp)))];exact h2
  ·intro e he Z;rw[rz];exact getD_set_true (h3 e he Z)
  ·rw[B];exact (j9 hs h1 fun x l=>(Oper.apart_spec (y u (by simp))).2.2 x l).1 h4
  ·intro j' J F A D I;rw[rz] at D;exact W j' J F A (qz D) I
theorem dp (hs:Region.noSelect ops=true){z:Array Bool}{ar:Act}{u:Pd}:∀ {X Y:List Pd},OkU P ops z ar (X++u::Y)->pY u.o z->(∀ x∈X,∀ d,x.o.dst=some d->u.o.dst≠some d) ->
  OkU P ops (z.setIfInBounds u.i true) (ar.put u.o.dst u.v) (X++Y)/\wS (z.setIfInBounds u.i true) (X++Y)=wS z (X++u::Y) /\
  tX (ar.put u.o.dst u.v) (X++Y)=tX ar (X++u::Y)/\YieldsIf P ops u.T u.o u.v ar
 | [],Y,h,hp,_=>by
  simp only[List.nil_append] at h ⊢;obtain⟨h1,h2,h3,h4,B,t⟩:=h;have j:=ib (P:=P) h1 hp t h2;have A:∀ x∈Y,x.i≠u.i:=by
   intro x l heq;clear j h4 B;induction Y with
   | nil=>cases l
   | cons y Y ih =>
    obtain⟨g1,g2,g3,g4,g5,g6⟩:=t;cases l with
    | head =>
     simp only[wS] at h2;rw[heq] at h2;rcases Nat.lt_or_ge u.i (wS z Y).size with D|D
     ·simp[D] at h2
     ·simp[Array.getElem?_eq_none D] at h2
    | tail _ hm=>exact ih (qz h2) (fun e he I=>pt (hp e he I)) g6 hm
  refine⟨iL hs u.v h1 j A t,by simp[wS,rz],?_,?_⟩
  ·rw[oD ar Y fun x l d hd=>(Oper.apart_spec (j x l)).2.1 d hd];rfl
  ·clear B h2 h3 A;induction Y with
   | nil=>exact h4
   | cons y Y ih =>
    obtain⟨g1,g2,g3,g4,g5,g6⟩:=t;refine ih ?_ g6 fun x l=>j x (mC _ l)
    simp only[tX] at h4;exact (j9 hs h1 fun x l=>(Oper.apart_spec (j y (by simp))).1 x l).2 h4
 | x::X,Y,h,hp,hd=>by
  simp only[List.cons_append] at h ⊢;obtain⟨h1,h2,h3,h4,B,t⟩:=h;obtain⟨O,k2,F,S⟩:=dp hs t hp fun y J=>hd y (mC _ J)
  refine⟨⟨h1,by rw[k2];exact h2,by rw[k2];exact h3,by rw[F];exact h4,by rw[k2];exact B,O⟩,by simp only[wS,k2],by simp only[tX,F],S⟩
theorem AO {i:Nat}{e:Array Bool}:∀ {U:List Pd},e.getD i true=false->(wS e U).getD i true≠false -> ∃ X u Y,U=X++u::Y/\u.i=i
 | [],h1,h2=>absurd h1 h2
 | u::U,h1,h2=>by
  by_cases hu:u.i=i
  ·exact⟨[],u,U,rfl,hu⟩
  ·simp only[wS] at h2;rw[getD_set_ne true hu] at h2;obtain⟨X,x,Y,rfl,j⟩:=AO h1 h2;exact⟨u::X,x,Y,rfl,j⟩
theorem Bb {e:Array Bool}{ar:Act}:∀ {U:List Pd},OkU P ops e ar U->U≠[] -> ∃ i,i∈Region.ready .any ops e
 | [],_,h=>absurd rfl h
 | [u],h,_=>by
  obtain⟨h1,h2,h3,_⟩:=h;exact⟨u.i,mem_ready.2 ⟨h2,u.o,h1,h3⟩⟩
 | u::x::U,h,_=>Bb (U:=x::U) h.2.2.2.2.2 (by simp)
theorem ku (h:rZ ops=true):Region.noSelect ops=true:=by
 simp only[rZ,Bool.and_eq_true] at h;exact h.1
theorem dW (h:rZ ops=true){i j:Nat}{x y:Oper}(l:ops[i]? = some x)(t:ops[j]? = some y)(e:i≠j){d:Tmp}(hd:x.dst=some d):y.dst≠some d :=
 ga (jQ h l t e).1 hd
theorem iK {e:Array Bool}{ar:Act}:∀ {U:List Pd},OkU P ops e ar U -> ∀ u∈U,ops[u.i]? = some u.o/\e.getD u.i true=false
 | [],_,u,hu=>by cases hu
 | x::U,h,u,hu=>by
  cases hu with
  | head=>exact⟨h.1,kC h.2.1⟩
  | tail _ hm=>exact iK h.2.2.2.2.2 u hm
theorem Ba {l:Array Bool}{ar:Act}{u:Pd}{Y:List Pd}:∀ {X:List Pd},OkU P ops l ar (X++u::Y) -> ∀ x∈X,x.i≠u.i
 | [],_,x,j=>by cases j
 | y::X,h,x,j=>by
  cases j with
  | head =>
   intro he;have h2:=h.2.1;have:(wS l (X++u::Y)).getD u.i true≠false:=by
    clear h h2 he;induction X with
    | nil =>
     simp only[List.nil_append,wS];intro h;rcases Nat.lt_or_ge u.i (wS l Y).size with e|e
     ·simp[e] at h
     ·simp[Array.getElem?_eq_none e] at h
    | cons z X ih=>intro h;exact ih (qz h)
   rw[he] at h2;exact this h2
  | tail _ hm=>exact Ba h.2.2.2.2.2 x hm
theorem jA {t:Array Bool}{j:Nat}{y:Oper}(z:Closed ops t)(hj:ops[j]? = some y)(hp:pY y t):Closed ops (t.setIfInBounds j true):=by
 intro x o l ht e he u;by_cases i:j=x
 ·subst i;rw[hj] at l;cases l;exact getD_set_true (hp e he u)
 ·rw[getD_set_ne false i] at ht;exact getD_set_true (z x o l ht e he u)
theorem jZ (hd:rZ ops=true)(M:Pd->Prop){fu:Nat}{w:World}{lc:Array Bool}{ac:Act}
  (J:Region.ready .any ops lc=[] -> ∀ l ar,l=lc->ar=ac->wpAny P .any ops Q fu l ar w)
  (t:∀ j F,j∈Region.ready .any ops lc->ops[j]? = some F -> ∀ U l ar,(∀ u∈U,M u)->(∀ u∈U,u.T w)->OkU P ops l ar U->Closed ops l->wS l U=lc->tX ar U=ac->pY F l ->
   ∃ A,fu=A+1/\wpOp P ops Q j (wpAny P .any ops Q (A+U.length) (l.setIfInBounds j true)) ar w) :
  ∀ (n:Nat) (U:List Pd) (l:Array Bool) (ar:Act),U.length=n->(∀ u∈U,M u)->(∀ u∈U,u.T w)->OkU P ops l ar U->Closed ops l->wS l U=lc->tX ar U=ac->wpAny P .any ops Q (fu+U.length) l ar w:=by
 intro n;induction n with
 | zero =>
  intro U l ar hn Z W D I h1 h2;have O:U=[]:=List.eq_nil_of_length_eq_zero hn;subst O;simp only[wS,tX] at h1 h2;by_cases S:Region.ready .any ops lc=[]
  ·exact J S l ar h1 h2
  ·obtain⟨i,hi⟩:=List.exists_mem_of_ne_nil _ S;obtain⟨_,oi,a1,a2⟩:=mem_ready.1 hi;obtain⟨A,rfl,_⟩:=t i oi hi a1 [] l ar (by simp) (by simp) trivial I h1 h2 (by rw[h1];exact a2);simp only[List.length_nil,Nat.add_zero];refine⟨fun h=>absurd (h1 ▸ h) S,fun j hj=>?_⟩;rw[h1] at hj;obtain⟨_,F,y,z⟩:=mem_ready.1 hj;obtain⟨a6,he,hw⟩:=t j F hj y [] l ar (by simp) (by simp) trivial I h1 h2 (by rw[h1];exact z);cases he;simpa using hw
 | succ n ih =>
  intro U l ar hn Z W D I h1 h2;have a0:U≠[]:=by intro h;subst h;simp at hn
  have e:fu+U.length=(fu+n)+1:=by omega
  rw[e];refine⟨fun h=>?_,fun j hj=>?_⟩
  ·obtain⟨i,hi⟩:=Bb D a0;rw[h] at hi;cases hi
  ·obtain⟨a3,F,y,z⟩:=mem_ready.1 hj;by_cases hl:(wS l U).getD j true=false
   ·have S:j∈Region.ready .any ops lc:=mem_ready.2 ⟨by rw[<- h1];exact hl,F,y,fun e he hb=>by rw[<- h1];exact pt (z e he hb)⟩;obtain⟨A,he,hw⟩:=t j F S y U l ar Z W D I h1 h2 z;have:fu+n=A+U.length:=by omega
    rw[this];exact hw
   ·obtain⟨X,u,Y,rfl,rfl⟩:=AO a3 hl;have hu:=iK D u (by simp);rw[hu.1] at y;cases y;obtain⟨k1,k2,k3,k4⟩:=dp (ku hd) D z fun x B d a4=>dW hd (iK D x (by simp[B])).1 hu.1 (Ba D x B) a4
    refine k4.wpOp hu.1 (W u (by simp)) ?_;have:=ih (X++Y) (l.setIfInBounds u.i true) (ar.put u.o.dst u.v) (by simp at hn ⊢;omega) (fun x B=>Z x (by simp at B ⊢;rcases B with h|h <;> simp[h])) (fun x B=>W x (by simp at B ⊢;rcases B with h|h <;> simp[h])) k1 (jA I hu.1 z) (k2.trans h1) (k3.trans h2);have e2:fu+n=fu+(X++Y).length:=by simp at hn ⊢;omega
    rw[e2];exact this
def WP (P:Program)(f:FuncId)(ops:Array Oper)(fu:Nat)(dn:List Nat)(pend:List (Nat × List Ob))(k:List Item)(a:Act)(w:World)(R:Value->World->Prop):Prop :=
 ∀ (U:List Pd) (e:Array Bool) (ar:Act),(∀ u∈U,u.obs=[] \/ (u.i,u.obs)∈pend)->(∀ u∈U,u.T w)->OkU P ops e ar U->Closed ops e->wS e U=listed ops.size dn->tX ar U=a ->
  wpAny P .any ops (RQ P f k R) (fu+U.length) e ar w
def rQ (ops:Array Oper)(j:Nat):List (Nat × List Ob)->List Ob
 | []=>[]
 | (i,obs)::r=>match anc ops i j with
  | true=>rQ ops j r
  | false=>obs++rQ ops j r
def oZ (ops:Array Oper)(j:Nat):List (Nat × List Ob)->List (Nat × List Ob)
 | []=>[]
 | (i,obs)::r=>match anc ops i j with
  | true=>oZ ops j r
  | false=>(i,obs)::oZ ops j r
theorem lY {j i:Nat}{obs:List Ob}(h:anc ops i j=false):∀ {pend:List (Nat × List Ob)},(i,obs)∈pend->(i,obs)∈oZ ops j pend
 | (e,o')::r,hm=>by
  simp only[oZ];cases hm with
  | head=>rw[h];exact List.mem_cons_self
  | tail _ hm =>
   split
   ·exact lY h hm
   ·exact mC _ (lY h hm)
theorem mM {w:World}{j i:Nat}{obs:List Ob}(h:anc ops i j=false):∀ {pend:List (Nat × List Ob)},wm w (rQ ops j pend)->(i,obs)∈pend->wm w obs
 | (e,o')::r,ha,hm=>by
  simp only[rQ] at ha;cases hm with
  | head=>rw[h] at ha;exact (wR.1 ha).1
  | tail _ hm =>
   split at ha
   ·exact mM h ha hm
   ·exact mM h (wR.1 ha).2 hm
section
variable {f:FuncId} {k:List Item} {a:Act} {w:World} {R:Value->World->Prop} {fu:Nat} {dn:List Nat} {pend:List (Nat × List Ob)}
theorem Runs.Ef {id:Nat}(hm:P.follows .mixedOrders=true)(h:WP P f ops ops.size [] [] k a { w with drawn:=w.drawn+1 } R):Runs P f (.code (.region id ops true)::k) a w R:=by
 refine Runs.of_wp (wp_region_any hm ?_);have:=h [] (Array.replicate ops.size false) a (by simp) (by simp) trivial (fun x o i ht=>by
  rcases Nat.lt_or_ge x ops.size with e|e
  ·simp[e] at ht
  ·simp only[Array.getD_eq_getD_getElem?,Array.getElem?_replicate] at ht;split at ht <;> simp at ht) rfl rfl
 simpa using this
theorem WP.done (hs:rZ ops=true)(l:uv (uI dn) 0 ops.toList=[])(h:Runs P f k a w R):WP P f ops fu dn pend k a w R:=by
 have e:=(jP hs).1 l;intro U t ar _ y z A h1 h2;refine jZ hs (fun _=>True) (fun _ t ar u x=>?_) (fun j B hj=>by rw[e] at hj;cases hj) _ U t ar rfl (fun _ _=>trivial) y z A h1 h2;subst u;subst x;cases fu with
 | zero=>exact⟨e,h⟩
 | succ fu=>exact⟨fun _=>h,fun i hi=>by rw[e] at hi;cases hi⟩
theorem WP.take {i:Nat}{o:Oper}{v:Value}{obs:List Ob}(A:rZ ops=true)(hi:ops[i]? = some o)(Z:i∈Region.ready .any ops (listed ops.size dn))
  (hy:YieldsIf P ops (fun w=>wm w obs) o v a) (Y:wm w obs) (h:WP P f ops fu (dn++[i]) ((i,obs)::pend) k (a.put o.dst v) w R):WP P f ops (fu+1) dn pend k a w R:=by
 intro U lr ar hp S W X h1 h2;obtain⟨J,o',y,z⟩:=mem_ready.1 Z;rw[hi] at y;cases y;have t:∀ j x,ops[j]? = some x->j≠i->(listed ops.size dn).getD j true=false->(∀ e∈x.after,Region.binds .any e=true->e.on≠i)->o.apart ops x=true:=by
  intro j x hj F D I;obtain⟨hd,hp⟩:=jQ A hi hj (Ne.symm F);rcases hp with (hp|hp)|⟨hp,hq⟩
  ·obtain⟨e,he,B,rfl⟩:=aL.1 hp;exact absurd rfl (I e he B)
  ·obtain⟨e,he,B,rfl⟩:=aL.1 hp;have:=z e he B;exact (mX this D).elim
  ·unfold Oper.apart;cases O:o.dst with
   | none =>
    cases l:x.dst with
    | none=>rfl
    | some d=>simpa using nr hq l
   | some d =>
    have g1:=nr hp O;have g2:=ga hd O;cases l:x.dst with
    | none=>simp[g1]
    | some e=>rw[l] at g2;simp only[ne_eq,Option.some.injEq] at g2;simpa[g1,g2] using nr hq l
 have:=h (⟨i,o,v,obs⟩::U) lr ar (fun u hu=>by
   cases hu with
   | head=>right;simp
   | tail _ hm=>rcases hp u hm with h|h;exact .inl h;exact .inr (mC _ h)) (fun u hu=>by
   cases hu with
   | head=>exact Y
   | tail _ hm=>exact S u hm) ⟨hi,by rw[h1];exact J,by rw[h1];exact z,by rw[h2];exact hy,by rw[h1];exact t,W⟩ X (by rw[lZ,<- h1];rfl) (by simp only[tX,h2])
 simp only[lC] at this;have e:fu+1+U.length=fu+(U.length+1):=by omega
 rw[e];exact this
def segP (P:Program)(n:Nat)(ops:Array Oper):List Nat->Env->List Value->List (Nat × List Ob)->List (Nat × List Ob)
 | [],L,_,pend=>pend
 | i::is,L,j,pend=>match ops[i]? with
  | none=>pend
  | some o=>match tw ops L o with
   | none=>pend
   | some false=>match setE n o.dst undef L with
    | some L1=>segP P n ops is L1 j pend
    | none=>pend
   | some true=>match evOp P L o j with
    | none=>pend
    | some (v,obs,e)=>match setE n o.dst v L with
     | none=>pend
     | some L1=>match obs with
      | []=>segP P n ops is L1 e pend
      | b::l=>segP P n ops is L1 e ((i,b::l)::pend)
theorem WP.weaken {e:List (Nat × List Ob)}(j:∀ i obs,obs≠[]->(i,obs)∈e->(i,obs)∈pend)(h:WP P f ops fu dn pend k a w R):WP P f ops fu dn e k a w R:=by
 intro U y ar hp l t x h1 h2;refine h U y ar (fun u hu=>?_) l t x h1 h2;rcases hp u hu with h|h
 ·exact .inl h
 ·by_cases he:u.obs=[]
  ·exact .inl he
  ·exact .inr (j _ _ he h)
theorem WP.segs {n:Nat}(y:rZ ops=true):∀ (is:List Nat) (fu m:Nat) (dn:List Nat) (pend:List (Nat × List Ob)) (a:Act) (L:Env) (j:List Value) (L':Env) (obs:List Ob),zN n a L->(∀ x,tb m x=true ↔ x∈dn) ->
  iX ops is m=true->oX P n ops is L j=some (L',obs)->wm w obs ->
  (∀ a',zN n a' L'->WP P f ops fu (dn++is) (segP P n ops is L j pend) k a' w R)->WP P f ops (is.length+fu) dn pend k a w R:=by
 intro is;induction is with
 | nil=>intro fu m dn pend a L j L' obs z _ _ h _ hk;simp[oX] at h;obtain⟨rfl,rfl⟩:=h;simpa[segP] using hk a z
 | cons i is ih =>
  intro fu m dn pend a L j L' obs z hm ht h O hk;obtain⟨o0,X,Y,Z,S⟩:∃ o,ops[i]? = some o/\tb m i=false/\subM (mu o) m=true/\iX ops is (bitL i m)=true:=by
   simp only[iX] at ht;split at ht
   ·cases ht
   ·rename_i o O;split at ht
    ·cases ht
    ·rename_i h1;split at ht
     ·cases ht
     ·rename_i h2;exact⟨o,O,h1,h2,ht⟩
  have A:=AD y hm X Y Z;have I:∀ x,tb (bitL i m) x=true ↔ x∈dn++[i]:=fun x=>by
   rw[Bh,hm,iA,List.mem_singleton,or_comm]
  have W:(i::is).length+fu=(is.length+fu)+1:=by simp;omega
  rw[W];simp only[oX] at h;split at h
  ·cases h
  ·rename_i o u;split at h
   ·cases h
   ·rename_i hw;split at h
    ·rename_i L1 l;have e:∀ pend,segP P n ops (i::is) L j pend=segP P n ops is L1 j pend:=fun pend=>by simp[segP,u,hw,l]
     refine WP.take y u A (obs:=[]) (v:=undef) (.inr ⟨wA z hw,rfl⟩) trivial ?_;refine WP.weaken (pend:=pend) (fun i' U J hm=>by
      cases hm with
      | head=>exact absurd rfl J
      | tail _ hm=>exact hm) ?_
     exact ih fu _ (dn++[i]) pend _ L1 j L' obs (qM z l) I S h O fun a2 h2=>by have:=hk a2 h2;rw[e] at this;simpa using this
    ·cases h
   ·rename_i hw;split at h
    ·cases h
    ·rename_i v D t hv;split at h
     ·cases h
     ·rename_i L1 l;split at h
      ·rename_i L2 F B;cases h;rw[wR] at O;refine WP.take y u A (obs:=D) (v:=v) (.inl ⟨wA z hw,fun w hw=>jF z hv hw⟩) O.1 ?_;cases D with
       | nil =>
        have e:∀ pend,segP P n ops (i::is) L j pend=segP P n ops is L1 t pend:=fun pend=>by simp[segP,u,hw,hv,l]
        refine WP.weaken (pend:=pend) (fun i' U J hm=>by
         cases hm with
         | head=>exact absurd rfl J
         | tail _ hm=>exact hm) ?_
        exact ih fu _ (dn++[i]) pend _ L1 t _ F (qM z l) I S B O.2 fun a2 h2=>by have:=hk a2 h2;rw[e] at this;simpa using this
       | cons b bs =>
        have e:∀ pend,segP P n ops (i::is) L j pend=segP P n ops is L1 t ((i,b::bs)::pend):=fun pend=>by simp[segP,u,hw,hv,l]
        exact ih fu _ (dn++[i]) ((i,b::bs)::pend) _ L1 t _ F (qM z l) I S B O.2 fun a2 h2=>by have:=hk a2 h2;rw[e] at this;simpa using this
      ·cases h
theorem WP.seg {n:Nat}{L:Env}(e:rZ ops=true)(y:zN n a L)(is:List Nat)(j:List Value)(ks:List Nat){Lo:Env}{obs:List Ob}
  (ht:iX ops is (uI dn)=true) (he:kv P n ops is L j ks=some (Lo,obs)) (z:wm w obs)
  (hk:∀ a',zN n a' Lo->WP P f ops fu (dn++is) (segP P n ops is L j pend) k a' w R):WP P f ops (is.length+fu) dn pend k a w R:=by
 unfold kv at he;split at he
 ·cases he
 ·rename_i L1 t hs;split at he
  ·rename_i u i;cases he;exact WP.segs e _ _ _ _ _ _ _ _ _ _ y (fun x=>ur x dn) ht hs z fun a' l=>hk a' (qK l i)
  ·cases he
theorem lU {ar:Act}{o:Oper}(e:∀ cs b,o.op ≠ .select cs b):∀ {U:List Pd},(∀ u∈U,∀ d,u.o.dst=some d->d ∉ o.looksAt ops)->execOp (tX ar U).eval o=execOp ar.eval o/\Region.wanted o (yielded ops (tX ar U).tmps)=Region.wanted o (yielded ops ar.tmps)
 | [],_=>⟨rfl,rfl⟩
 | u::U,h=>by
  obtain⟨h1,h2⟩:=lU (ar:=ar) e fun x i=>h x (mC _ i)
  exact⟨(execOp_put o e _ _ _ (h u (by simp))).trans h1,(wanted_put o _ _ _ (h u (by simp))).trans h2⟩
def ActP (P:Program)(f:FuncId)(ops:Array Oper)(fu:Nat)(dn:List Nat)(pend:List (Nat × List Ob))(k:List Item)(a:Act)(w:World)(R:Value->World->Prop)(j:Nat):Prop :=
 ∃ (o:Oper) (e:Value->World->Prop),ops[j]? = some o/\Region.wanted o (yielded ops a.tmps)=true/\OpTo P o a w e /\ ∀ v w',e v w'->wm w' (rQ ops j pend)/\WP P f ops fu (dn++[j]) (oZ ops j pend) k (a.put o.dst v) w' R
theorem WP.acts (hs:rZ ops=true){rs:List Nat}(hr:uv (uI dn) 0 ops.toList=rs)(y:rs≠[])(hA:∀ j∈rs,ActP P f ops fu dn pend k a w R j):WP P f ops (fu+1) dn pend k a w R:=by
 intro U O ar hp hT D S h1 h2;refine jZ hs (fun u=>u.obs=[] \/ (u.i,u.obs)∈pend) (fun h=>absurd (hr.symm.trans ((jP hs).2 h)) y) (fun B W F I U O ar hM hT D S h1 h2 A=>?_) _ U O ar rfl hp hT D S h1 h2;refine⟨fu,rfl,?_⟩;have t:=(mem_ready.1 F).1;obtain⟨o,Rv,hi,hw,h,hk⟩:=hA B (hr ▸ (kr hs dn B).2 F);have a4:W=o:=by rw[hi] at I;exact (Option.some.inj I).symm
 subst a4;rw[<- h1] at t;have l:=ib (P:=P) hi A D t;have J:∀ cs b,W.op ≠ .select cs b:=fun cs b=>Region.noSelect_spec (ku hs) B W cs b hi
 obtain⟨Z,e2⟩:=lU (ops:=ops) (ar:=ar) J fun u hu d hd=>(Oper.apart_spec (l u hu)).1 d hd
 rw[h2] at Z e2;unfold wpOp;simp only[hi,<- e2,hw,if_true];refine .inl (h.wp Z fun v w' hv=>?_);obtain⟨k1,k2⟩:=hk v w' hv;have e:∀ u∈U,anc ops u.i B=false:=fun u hu=>by
  cases hA:anc ops u.i B with
  | false=>rfl
  | true =>
   have t1:=CM S _ _ _ hi A hA;exact (mX t1 (iK D u hu).2).elim
 have y:∀ u∈U,u.i≠B:=fun u hu he=>by
  obtain⟨X,Y,rfl⟩:=List.append_of_mem hu;have:(wS O (X++u::Y)).getD u.i true≠false:=by
   clear t l Z e2 e hu hM hT D h1 h2;induction X with
   | nil =>
    simp only[List.nil_append,wS];intro h;rcases Nat.lt_or_ge u.i (wS O Y).size with h'|h'
    ·simp[h'] at h
    ·simp[Array.getElem?_eq_none h'] at h
   | cons z X ih=>intro h;exact ih (qz h)
  rw[he] at this;exact this t
 refine k2 U (O.setIfInBounds B true) (ar.put W.dst v) (fun u hu=>?_) (fun u hu=>?_) (iL (ku hs) v hi l y D) (jA S hi A) (by rw[rz,h1,lZ]) (by rw[oD ar U fun u hu x hx=>(Oper.apart_spec (l u hu)).2.1 x hx,h2])
 ·rcases hM u hu with h|h
  ·exact .inl h
  ·exact .inr (lY (e u hu) h)
 ·rcases hM u hu with h|h
  ·unfold Pd.T;rw[h];trivial
  ·exact mM (e u hu) k1 h
def eqL:List Nat->List Nat->Bool
 | [],[]=>true
 | x::l,y::r=>match Nat.beq x y with
  | true=>eqL l r
  | false=>false
 | _,_=>false
theorem gb:∀ {l r:List Nat},eqL l r=true->l=r
 | [],[],_=>rfl
 | x::l,y::r,h=>by
  simp only[eqL] at h;split at h
  ·rename_i e;rw[Nat.eq_of_beq_eq_true e,gb h]
  ·cases h
theorem WP.effG {j:Nat}{o:Oper}{i:Value->World->Prop}(hs:rZ ops=true)(l:uv (uI dn) 0 ops.toList=[j])(hi:ops[j]? = some o)
  (hw:Region.wanted o (yielded ops a.tmps)=true) (h:OpTo P o a w i) (hk:∀ v w',i v w'->wm w' (rQ ops j pend)/\WP P f ops fu (dn++[j]) (oZ ops j pend) k (a.put o.dst v) w' R):WP P f ops (fu+1) dn pend k a w R :=
 WP.acts hs l (by simp) fun t e=>by
  simp only[List.mem_singleton] at e;subst e;exact⟨o,i,hi,hw,h,hk⟩
theorem WP.eff {j n d:Nat}{L:Env}{o:Oper}{i:Value->World->Prop}{obs:List Ob}(l:zN n a L)(hs:rZ ops=true)(t:eqL (uv (uI dn) 0 ops.toList) [j]=true)(hi:ops[j]? = some o)(hd:o.dst=some d)(hn:Nat.blt d n=true)
  (hw:tw ops L o=some true) (e:rQ ops j pend=obs) (h:OpTo P o a w i) (hk:∀ v w',i v w'->wm w' obs /\ ∀ a',zN n a' ((d,v)::L)->WP P f ops fu (dn++[j]) (oZ ops j pend) k a' w' R):WP P f ops (fu+1) dn pend k a w R:=by
 refine WP.effG hs (gb t) hi (wA l hw) h fun v w' hv=>?_
 obtain⟨h1,h2⟩:=hk v w' hv;exact⟨by rw[e];exact h1,h2 _ (by rw[hd];exact l.put _ _ (by simpa[Nat.blt_eq] using hn))⟩
theorem WP.eff0 {j n:Nat}{L:Env}{o:Oper}{i:Value->World->Prop}{obs:List Ob}(l:zN n a L)(hs:rZ ops=true)(t:eqL (uv (uI dn) 0 ops.toList) [j]=true)(hi:ops[j]? = some o)(hd:o.dst=none)
  (hw:tw ops L o=some true) (e:rQ ops j pend=obs) (h:OpTo P o a w i) (hk:∀ v w',i v w'->wm w' obs /\ ∀ a',zN n a' L->WP P f ops fu (dn++[j]) (oZ ops j pend) k a' w' R):WP P f ops (fu+1) dn pend k a w R:=by
 refine WP.effG hs (gb t) hi (wA l hw) h fun v w' hv=>?_
 obtain⟨h1,h2⟩:=hk v w' hv;exact⟨by rw[e];exact h1,h2 _ (by rw[hd];exact l)⟩
def WQ (P:Program)(f:FuncId)(ops:Array Oper)(dn:List Nat)(pend:List (Nat × List Ob))(k:List Item)(a:Act)(w:World)(R:Value->World->Prop):Prop :=
 rZ ops=true->WP P f ops (ops.size - dn.length) dn pend k a w R
theorem Runs.drawn {id:Nat}(hm:P.follows .mixedOrders=true)(hs:rZ ops=true)(h:WQ P f ops [] [] k a { w with drawn:=w.drawn+1 } R):Runs P f (.code (.region id ops true)::k) a w R:=Runs.Ef hm (by simpa[WQ] using h hs)
theorem WQ.done (e:eqL (uv (uI dn) 0 ops.toList) []=true)(h:Runs P f k a w R):WQ P f ops dn pend k a w R:=fun hs =>
 WP.done hs (gb e) h
theorem WQ.seg {n:Nat}{L:Env}(j:zN n a L)(is:List Nat)(i:List Value)(ks:List Nat){Lo:Env}{obs:List Ob}
  (ht:(Nat.ble (dn.length+is.length) ops.size && iX ops is (uI dn))=true) (he:kv P n ops is L i ks=some (Lo,obs)) (l:wm w obs)
  (hk:∀ a',zN n a' Lo->WQ P f ops (dn++is) (segP P n ops is L i pend) k a' w R):WQ P f ops dn pend k a w R:=by
 simp only[Bool.and_eq_true] at ht;have hle:=Nat.le_of_ble_eq_true ht.1;have e:ops.size - dn.length=is.length+(ops.size - (dn++is).length):=by simp;omega
 unfold WQ;rw[e];intro hs;exact WP.seg hs j is i ks ht.2 he l fun a ha=>hk a ha hs
theorem WQ.eff {j n d:Nat}{L:Env}{o:Oper}{t:Value->World->Prop}{obs:List Ob}(u:zN n a L)(l:(Nat.blt dn.length ops.size && eqL (uv (uI dn) 0 ops.toList) [j])=true)(hi:ops[j]? = some o)(hd:o.dst=some d)(hn:Nat.blt d n=true)
  (hw:tw ops L o=some true) (i:rQ ops j pend=obs) (h:OpTo P o a w t) (hk:∀ v w',t v w'->wm w' obs /\ ∀ a',zN n a' ((d,v)::L)->WQ P f ops (dn++[j]) (oZ ops j pend) k a' w' R):WQ P f ops dn pend k a w R:=by
 rw[Bool.and_eq_true] at l;have x:dn.length<ops.size:=by simpa[Nat.blt_eq] using l.1
 have e:ops.size - dn.length=(ops.size - (dn++[j]).length)+1:=by simp;omega
 unfold WQ;rw[e];intro hs;exact WP.eff u hs l.2 hi hd hn hw i h fun v w' hv=>⟨(hk v w' hv).1,fun a ha=>(hk v w' hv).2 a ha hs⟩
theorem WQ.eff0 {j n:Nat}{L:Env}{o:Oper}{t:Value->World->Prop}{obs:List Ob}(u:zN n a L)(l:(Nat.blt dn.length ops.size && eqL (uv (uI dn) 0 ops.toList) [j])=true)(hi:ops[j]? = some o)(hd:o.dst=none)
  (hw:tw ops L o=some true) (i:rQ ops j pend=obs) (h:OpTo P o a w t) (hk:∀ v w',t v w'->wm w' obs /\ ∀ a',zN n a' L->WQ P f ops (dn++[j]) (oZ ops j pend) k a' w' R):WQ P f ops dn pend k a w R:=by
 rw[Bool.and_eq_true] at l;have x:dn.length<ops.size:=by simpa[Nat.blt_eq] using l.1
 have e:ops.size - dn.length=(ops.size - (dn++[j]).length)+1:=by simp;omega
 unfold WQ;rw[e];intro hs;exact WP.eff0 u hs l.2 hi hd hw i h fun v w' hv=>⟨(hk v w' hv).1,fun a ha=>(hk v w' hv).2 a ha hs⟩
def AQ (P:Program)(f:FuncId)(ops:Array Oper)(dn:List Nat)(pend:List (Nat × List Ob))(k:List Item)(a:Act)(w:World)(R:Value->World->Prop)(j:Nat):Prop :=
 rZ ops=true->ActP P f ops (ops.size - (dn.length+1)) dn pend k a w R j
theorem WQ.acts (rs:List Nat)(l:(Nat.blt dn.length ops.size && eqL (uv (uI dn) 0 ops.toList) rs)=true)(i:rs≠[])(hA:∀ j∈rs,AQ P f ops dn pend k a w R j):WQ P f ops dn pend k a w R:=by
 rw[Bool.and_eq_true] at l;have t:dn.length<ops.size:=by simpa[Nat.blt_eq] using l.1
 have e:ops.size - dn.length=(ops.size - (dn.length+1))+1:=by omega
 unfold WQ;rw[e];exact fun hs=>WP.acts hs (gb l.2) i fun j hj=>hA j hj hs
theorem WQ.act2 (i j:Nat)(l:(Nat.blt dn.length ops.size && eqL (uv (uI dn) 0 ops.toList) [i,j])=true)(h1:AQ P f ops dn pend k a w R i)(h2:AQ P f ops dn pend k a w R j):WQ P f ops dn pend k a w R :=
 WQ.acts [i,j] l (by simp) fun x e=>by
  simp only[iC,List.not_mem_nil,or_false] at e;rcases e with rfl|rfl
  ·exact h1
  ·exact h2
theorem WQ.act3 (i j l:Nat)(t:(Nat.blt dn.length ops.size && eqL (uv (uI dn) 0 ops.toList) [i,j,l])=true)(h1:AQ P f ops dn pend k a w R i)(h2:AQ P f ops dn pend k a w R j)(h3:AQ P f ops dn pend k a w R l):WQ P f ops dn pend k a w R :=
 WQ.acts [i,j,l] t (by simp) fun x e=>by
  simp only[iC,List.not_mem_nil,or_false] at e;rcases e with rfl|rfl|rfl
  ·exact h1
  ·exact h2
  ·exact h3
theorem AQ.eff {j n d:Nat}{L:Env}{o:Oper}{e:Value->World->Prop}{obs:List Ob}(l:zN n a L)(hi:ops[j]? = some o)(hd:o.dst=some d)(hn:Nat.blt d n=true)
  (hw:tw ops L o=some true) (i:rQ ops j pend=obs) (h:OpTo P o a w e) (hk:∀ v w',e v w'->wm w' obs /\ ∀ a',zN n a' ((d,v)::L)->WQ P f ops (dn++[j]) (oZ ops j pend) k a' w' R):AQ P f ops dn pend k a w R j:=by
 refine fun hs=>⟨o,e,hi,wA l hw,h,fun v w' hv=>?_⟩
 obtain⟨h1,h2⟩:=hk v w' hv;refine⟨by rw[i];exact h1,?_⟩;have:=h2 (a.put o.dst v) (by rw[hd];exact l.put _ _ (by simpa[Nat.blt_eq] using hn));unfold WQ at this;simpa using this hs
theorem AQ.eff0 {j n:Nat}{L:Env}{o:Oper}{e:Value->World->Prop}{obs:List Ob}(l:zN n a L)(hi:ops[j]? = some o)(hd:o.dst=none)
  (hw:tw ops L o=some true) (i:rQ ops j pend=obs) (h:OpTo P o a w e) (hk:∀ v w',e v w'->wm w' obs /\ ∀ a',zN n a' L->WQ P f ops (dn++[j]) (oZ ops j pend) k a' w' R):AQ P f ops dn pend k a w R j:=by
 refine fun hs=>⟨o,e,hi,wA l hw,h,fun v w' hv=>?_⟩
 obtain⟨h1,h2⟩:=hk v w' hv;refine⟨by rw[i];exact h1,?_⟩;have:=h2 (a.put o.dst v) (by rw[hd];exact l);unfold WQ at this;simpa using this hs
end
end
end
noncomputable section
theorem kR {α:Type}{enc:α -> List Value}{sz:Nat}(he:wg enc sz){z:α}{j:Array Value}(t:j.toList=enc z)(n:Nat):(Builtin.zeroCells j n).toList=(List.replicate n z).flatMap enc:=by
 have hs:j.size=sz:=by rw[<- Array.length_toList,t,he.len]
 apply List.ext_getElem?;intro i;simp only[Builtin.zeroCells,Array.toList_map,Array.toList_range,List.getElem?_map,hs];by_cases h:i<n*sz
 ·have h0:0<sz:=by
   rcases Nat.eq_zero_or_pos sz with e|e
   ·subst e;simp at h
   ·exact e
  have hj:i / sz<n:=(Nat.div_lt_iff_lt_mul h0).2 h;have l:=sC he (List.replicate n z) (i / sz) (i % sz) (by simpa using hj) (Nat.mod_lt _ h0);rw[Nat.mul_comm,Nat.div_add_mod] at l;rw[l,List.getElem?_range h];simp only[Option.map_some,List.getElem_replicate];have hm:i % sz<j.size:=by rw[hs];exact Nat.mod_lt _ h0
  rw[getElem!_pos j _ hm,<- t];simp[hm]
 ·rw[List.getElem?_eq_none (by simp;omega),List.getElem?_eq_none (by rw[yB he];simp;omega)]
  rfl
theorem Ak {α:Type}{enc:α -> List Value}{sz:Nat}(he:wg enc sz)(l ys:List α)(lo:Nat)(h:lo+ys.length<=l.length)(cs:List Value)(off:Nat)(z:off+l.length*sz<=cs.length)
  (y:∀ i,i<l.length*sz->cs[off+i]? = (l.flatMap enc)[i]?) :
  ∀ i,i<l.length*sz->(putAt cs (off+lo*sz) (ys.flatMap enc))[off+i]? = ((l.take lo++(ys++l.drop (lo+ys.length))).flatMap enc)[i]?:=by
 intro i hi;have h1:(lo+ys.length)*sz<=l.length*sz:=Nat.mul_le_mul_right _ h;rw[Nat.add_mul] at h1;have e:=yB he ys;have j:((l.take lo).flatMap enc).length=lo*sz:=by rw[yB he,List.length_take,Nat.min_eq_left (by omega)]
 have B:((l.drop (lo+ys.length)).flatMap enc).length=l.length*sz - (lo+ys.length)*sz:=by rw[yB he,List.length_drop,Nat.sub_mul]
 have x:l.flatMap enc=(l.take lo).flatMap enc++(l.drop lo).flatMap enc:=by rw[<- List.flatMap_append,List.take_append_drop]
 have t:l.flatMap enc=(l.take (lo+ys.length)).flatMap enc++(l.drop (lo+ys.length)).flatMap enc:=by rw[<- List.flatMap_append,List.take_append_drop]
 have u:((l.take (lo+ys.length)).flatMap enc).length=lo*sz+ys.length*sz:=by rw[yB he,List.length_take,Nat.min_eq_left (by omega),Nat.add_mul]
 rw[ta _ _ _ (by rw[e];omega),List.flatMap_append,List.flatMap_append];by_cases D:i<lo*sz
 ·rw[aA,List.getElem?_append_left (by rw[List.length_take];omega),List.getElem?_take,if_pos (by omega),y i hi,x,List.getElem?_append_left (by omega),List.getElem?_append_left (by omega)]
 ·by_cases F:i<lo*sz+ys.length*sz
  ·rw[List.getElem?_append_left (by simp only[lA,List.length_take,e];omega),List.getElem?_append_right (by rw[List.length_take];omega),
    List.getElem?_append_right (by omega),List.getElem?_append_left (by rw[j,e];omega)]
   congr 1;rw[List.length_take,j];omega
  ·rw[List.getElem?_append_right (by simp only[lA,List.length_take,e];omega),List.getElem?_append_right (by omega),List.getElem?_append_right (by rw[j,e];omega),List.getElem?_drop];have A:off+lo*sz+(ys.flatMap enc).length+(off+i - (List.take (off+lo*sz) cs++ys.flatMap enc).length)=off+i:=by
    simp only[lA,List.length_take,e];omega
   rw[A,y i hi,t,List.getElem?_append_right (by omega)];congr 1;rw[j,e,u];omega
def py {α:Type}(l:List α)(lo:Int)(z:α):List α:=l.take lo.toNat++(List.replicate (l.length - lo.toNat) z++[])
theorem mI {α:Type}{l:List α}{lo:Int}{z:α}{r:List α}(e:mCut l lo (l.length:Int)=some r):(py l lo z).length=l.length:=by
 obtain⟨h1,h2⟩:=mq e;simp[py];omega
section
variable {α:Type} {T:TypeId} {enc:α -> List Value} {sz:Nat} {w0 w:World} {As:List HP} {P:Program}
theorem OpTo.bl {n:Nat}{a:Act}{L:Env}{o:Oper}{t:TypeId}{sb sb':Option Addr}{sc sc':Nat}{l r:List α}{lo:Int}{z:α}{x:Operand}{ti:TypeInfo}{Z:Value}(J:zN n a L)(H:St w0 (Sl T enc sz sb sc l::As) w)(he:wg enc sz)
  (W:mCut l lo (l.length:Int)=some r) (D:yv sb sc lo.toNat sz=sb') (a7:sc - lo.toNat=sc') (ho:o.op = .call { callee:=.builtin .clear,args:=#[x],argTypes:=#[t] }) (I:evO L x=some (.slice sb' r.length sc'))
  (ht:P.underlying t=some (.slice T)) (hi:P.info? T=some ti) (hz:ti.zero=some Z) (O:Z.cells.toList=enc z) :
  OpTo P o a w fun v w'=>v = .tuple #[]/\St w0 (Sl T enc sz sb sc (py l lo z)::As) w':=by
 obtain⟨dst,op,type,pos,after,guard⟩:=o;simp only at ho;subst ho;have hlen:=sd W;obtain⟨a6,a5⟩:=mq W;have j:py l lo z=l.take lo.toNat++(List.replicate r.length z++l.drop (lo.toNat+(List.replicate r.length z).length)):=by
  unfold py;have:r.length=l.length - lo.toNat:=by omega
  rw[this];congr 2;simp;omega
 have Y:∀ w:World,(Go.zeroValue T).run P w = .ok Z w:=fun w=>by simp[Go.zeroValue,Go.typeInfo,Sem.run,hi,hz]
 rcases H.gW with ⟨h1,h2,h3⟩|⟨b,off,cs,e,H1,h3,h4,h5,h6⟩
 ·subst h1;subst h2;have hs:sb'=none:=by rw[<- D];unfold yv;split <;> rfl
  subst hs;refine OpTo.of_run (v:=.tuple #[]) (w':=w) ?_ ⟨rfl,?_⟩
  ·simp[execOp,resolve,invoke,builtin,J.eval I,Builtin.clear_,xN P ht]
  ·simpa[py] using H
 ·subst e;by_cases hn:r.length=0
  ·refine OpTo.of_run (v:=.tuple #[]) (w':=w) ?_ ⟨rfl,?_⟩
   ·rw[hn] at I;cases F:sb' <;> simp[execOp,resolve,invoke,builtin,J.eval I,Builtin.clear_,xN P ht,F]
   ·rw[j,hn];simpa using H
  ·have U:sc≠lo.toNat:=by omega
   have hs:sb'=some ⟨b,off+lo.toNat*sz,none⟩:=by rw[<- D];unfold yv;rw[if_neg U];simp[Addr.add_lit]
   subst hs;have hmul:l.length*sz<=sc*sz:=Nat.mul_le_mul_right _ h3;have S:(lo.toNat+r.length)*sz<=l.length*sz:=Nat.mul_le_mul_right _ (by omega);rw[Nat.add_mul] at S;have y:=yB he (List.replicate r.length z);simp only[List.length_replicate] at y;have hb:=H1.one 0 rfl;have u:=run_storeCells_at P b (off+lo.toNat*sz) T ((List.replicate r.length z).flatMap enc) 0 cs w hb (by simp only[Nat.add_zero,y];omega) (ox he _);simp only[Nat.add_zero] at u;refine OpTo.of_run (v:=.tuple #[]) (w':=w.setRow b (putAt cs.toList (off+lo.toNat*sz) ((List.replicate r.length z).flatMap enc)).toArray) ?_ ⟨rfl,?_⟩
   ·have X:∃ m,r.length=m+1:=⟨r.length - 1,by omega⟩
    obtain⟨m,hm⟩:=X;rw[ta _ _ _ (by simp only[Array.length_toList,y];omega)];simp only[execOp,resolve,invoke,builtin,J.eval I,Builtin.clear_,xN P ht,Sem.run_bind,Result.andThen_ok,hm];simp[execOp,resolve,invoke,builtin,J.eval I,Builtin.clear_,xN P ht,Y,hm,kR he O];rw[hm] at u;rw[show storeCells ⟨b,off+lo.toNat*sz,none⟩ (List.flatMap enc (List.replicate (m+1) z))=storeCells ⟨b,off+lo.toNat*sz,none⟩ (List.flatMap enc (List.replicate (m+1) z)) 0 from rfl,u];simp[Result.andThen]
   ·have H2:=H1.set (w':=w.setRow b (putAt cs.toList (off+lo.toNat*sz) ((List.replicate r.length z).flatMap enc)).toArray) (by simp) (by simp) (by simp) (setRow_heap w b _ _ T (0,0) hb) (fun c O=>setRow_other w b c _ O);have B:=mI (z:=z) W;refine H2.head fun h hh=>.inr ⟨b,off,_,rfl,hh,by rw[B];exact h3,h4,by simp[pZ];omega,fun i A=>?_⟩
    rw[B] at A;rw[j];simp only[List.getElem?_toArray];exact Ak he l (List.replicate r.length z) lo.toNat (by simp;omega) cs.toList off (by simp;omega) (fun i hi=>by rw[<- h6 i hi];simp) i A
end
end
noncomputable section
structure MCh (α:Type) where
 cap:Nat
 buf:List α
def vI (x:Int):Value:=.int .i64 x
def ChM {α:Type}(c:Nat)(ev:α -> Value)(m:MCh α):HP:=Ch c m.cap (m.buf.map ev)
def Aw (α:Type)(n:Int):Option (MCh α):=if 0<=n/\n<=1073741824 then some ⟨n.toNat,[]⟩ else none
def MCh.room {α:Type}(m:MCh α):Bool:=decide (m.buf.length<m.cap)
def MCh.push {α:Type}(m:MCh α)(x:α):MCh α:=⟨m.cap,m.buf++[x]⟩
def MCh.rest {α:Type}(m:MCh α)(b:List α):MCh α:=⟨m.cap,b⟩
section
variable {α:Type} {ev:α -> Value} {P:Program} {f:FuncId} {k:List Item} {a:Act} {w w0:World} {R:Value->World->Prop} {ops:Array Oper} {As:List HP} {n d c:Nat} {L:Env} {o:Oper} {m:MCh α}
theorem OpTo.Dg {t e:TypeId}{dir:ChanDir}{x:Operand}{n1:Int}{j:TypeInfo}(ev:α -> Value)(hl:Aw α n1=some m)(D:zN n a L)(H:St w0 As w)(u:o.op = .makeChan t x)(J:evO L x=some (.int .i64 n1))
  (ht:P.underlying t=some (.chan dir e)) (hi:P.info? e=some j) (F:Nat.ble j.bytes 131072=true) :
  OpTo P o a w fun v w'=>∃ r:Nat,v = .chan (some r)/\St w0 (ChM r ev m::As) w':=by
 unfold Aw at hl;split at hl
 ·rename_i hn;cases hl;obtain⟨h0,h1⟩:=hn;have l:=Nat.le_of_ble_eq_true F;obtain⟨dst,op,type,pos,after,guard⟩:=o;simp only at u;subst u;obtain⟨q,rfl⟩:=Int.eq_ofNat_of_zero_le h0;have hq:q<=1073741824:=by omega
  have I:j.bytes*q<=281474976710656 - 112:=by
   calc j.bytes*q<=131072*1073741824:=Nat.mul_le_mul l hq
    _<=281474976710656 - 112:=by decide
  have O:¬ ((q:Int)<0):=by omega
  have z:¬ ((q:Int) > IntKind.i64.max):=by
   have:IntKind.i64.max=9223372036854775807:=rfl;rw[this];omega
  have A:¬ ((281474976710544:Int)<(j.bytes:Int)*(q:Int)):=by
   rw[<- Int.natCast_mul];omega
  have i:(Instr.makeChan t (.int .i64 (q:Int))).run P w = .ok (.chan (some w.heap.size)) { w with heap:=w.heap.push (.chan q #[] false 0 0 false) }:=by
   have B:IntKind.i64.max<(q:Int) ↔ False:=iff_false_intro z;simp[Instr.makeChan,xN P ht,asInt,asIntOf,typeInfo,hi,B,A,newObj];rw[if_neg (by omega)]
   rfl
  refine OpTo.of_run (w':={ w with heap:=w.heap.push (.chan q #[] false 0 0 false) }) (v:=.chan (some w.heap.size)) ?_ ⟨w.heap.size,rfl,?_⟩
  ·simp[execOp,D.eval J,i]
  ·have y:=H.alloc (.chan q #[] false 0 0 false);exact y.head fun h hh=>⟨(0,0),by simpa using hh⟩
 ·cases hl
theorem Runs.AH {id:Nat}{x y:Operand}{e:TypeId}{u:α}{t:TypeInfo}{z:Value}(B:zN n a L)(H:St w0 (ChM c ev m::As) w)(l:ops[0]? = some o)(hd:o.dst=some d)(hn:Nat.blt d n=true)(D:o.guard=none)
  (F:o.op = .select #[{ chan:=x,send:=some y,elem:=e }] false) (I:evO L x=some (.chan (some c))) (J:evO L y=some (ev u)) (hi:P.info? e=some t) (O:t.zero=some z) (i:m.room=true)
  (hk:∀ a' w',zN n a' ((d,.tuple #[goInt 0,.bool false])::L)->St w0 (ChM c ev (m.push u)::As) w'->WR P f ops 1 k a' w' R):Runs P f (.code (.region id ops false)::k) a w R :=
 Runs.ej B H l hd hn D F I J hi O (by simpa[MCh.room] using i) fun a' w' j A=>hk a' w' j (by simpa[ChM,MCh.push] using A)
theorem Runs.AG {id:Nat}{x y:Operand}{e:TypeId}{u:α}{l:TypeInfo}{z:Value}(t:zN n a L)(H:St w0 (ChM c ev m::As) w)(j:ops[0]? = some o)(hd:o.dst=some d)(hn:Nat.blt d n=true)(A:o.guard=none)
  (B:o.op = .select #[{ chan:=x,send:=some y,elem:=e }] false) (D:evO L x=some (.chan (some c))) (F:evO L y=some (ev u)) (hi:P.info? e=some l) (I:l.zero=some z) (i:m.room=false)
  (hk:∀ a',zN n a' ((d,.tuple #[goInt (-1),.bool false])::L)->WR P f ops 1 k a' w R):Runs P f (.code (.region id ops false)::k) a w R :=
 Runs.eh t H j hd hn A B D F hi I (by simpa[MCh.room] using i) hk
theorem Runs.AF {id:Nat}{x:Operand}{e:TypeId}{u:α}{b:List α}{t:TypeInfo}{z:Value}(A:m.buf=u::b)(y:zN n a L)(H:St w0 (ChM c ev m::As) w)(l:ops[0]? = some o)(hd:o.dst=some d)(hn:Nat.blt d n=true)(B:o.guard=none)
  (D:o.op = .select #[{ chan:=x,send:=none,elem:=e }] false) (F:evO L x=some (.chan (some c))) (hi:P.info? e=some t) (I:t.zero=some z)
  (hk:∀ a' w',zN n a' ((d,.tuple #[goInt 0,.bool true,ev u])::L)->St w0 (ChM c ev (m.rest b)::As) w'->WR P f ops 1 k a' w' R):Runs P f (.code (.region id ops false)::k) a w R :=
 have i:St w0 (Ch c m.cap (ev u::b.map ev)::As) w:=by simpa[ChM,A] using H
 Runs.eg y i l hd hn B D F hi I fun a' w' j i=>hk a' w' j i
theorem Runs.AE {id:Nat}{x:Operand}{e:TypeId}{j:TypeInfo}{z:Value}(t:m.buf=[])(l:zN n a L)(H:St w0 (ChM c ev m::As) w)(i:ops[0]? = some o)(hd:o.dst=some d)(hn:Nat.blt d n=true)(u:o.guard=none)
  (y:o.op = .select #[{ chan:=x,send:=none,elem:=e }] false) (A:evO L x=some (.chan (some c))) (hi:P.info? e=some j) (B:j.zero=some z)
  (hk:∀ a',zN n a' ((d,.tuple #[goInt (-1),.bool false,z])::L)->WR P f ops 1 k a' w R):Runs P f (.code (.region id ops false)::k) a w R :=
 Runs.ee l (by simpa[ChM,t] using H) i hd hn u y A hi B hk
theorem OpTo.De {x:Operand}{t e:TypeId}{dir:ChanDir}(i:Nat)(j:zN n a L)(H:St w0 As w)(hi:As[i]? = some (ChM c ev m))(l:o.op = .call { callee:=.builtin .len,args:=#[x],argTypes:=#[t] })(ht:P.underlying t=some (.chan dir e))(u:evO L x=some (.chan (some c))) :
  OpTo P o a w fun v w'=>v = .int .i64 (m.buf.length:Int)/\w'=w:=by
 refine (OpTo.Em i j H hi l ht u).mono ?_;rintro v w' ⟨rfl,rfl⟩;exact⟨by simp,rfl⟩
end
section
variable {G α:Type} {T:TypeId} {enc:G->List Value} {R:G -> α -> HP} {w0 w:World} {As:List HP}
def Objs (R:G -> α -> HP):List G->List α -> List HP
 | g::gs,x::xs=>R g x::Objs R gs xs
 | _,_=>[]
def SlX (T:TypeId)(enc:G->List Value)(R:G -> α -> HP)(sb:Option Addr)(sc:Nat)(l:List α):HP:=fun h =>
 ∃ gs:List G,gs.length=l.length/\sepL (Sl T enc 1 sb sc gs::Objs R gs l) h
def But (R:G -> α -> HP)(gs:List G)(l:List α)(i:Int):HP:=sepL (Objs R (gs.eraseIdx i.toNat) (l.eraseIdx i.toNat))
theorem kf:∀ (gs:List G) (l:List α) (i:Nat) (g:G) (x:α),gs[i]? = some g->l[i]? = some x->(Objs R gs l).Perm (R g x::Objs R (gs.eraseIdx i) (l.eraseIdx i))
 | [],l,i,g,x,h,_=>by simp at h
 | g'::gs,[],i,g,x,_,h=>by simp at h
 | g'::gs,x'::l,0,g,x,h,h2=>by simp at h h2;subst h;subst h2;simp[Objs]
 | g'::gs,x'::l,i+1,g,x,h,h2=>by
  simp only[Objs,List.eraseIdx_cons_succ];exact ((kf gs l i g x (by simpa using h) (by simpa using h2)).cons (R g' x')).trans (List.Perm.swap _ _ _)
theorem St.ey {sb:Option Addr}{sc:Nat}{l:List α}(H:St w0 (SlX T enc R sb sc l::As) w):∃ gs:List G,gs.length=l.length/\St w0 (Sl T enc 1 sb sc gs::(Objs R gs l++As)) w:=by
 obtain⟨gs,H⟩:=H.ex;have hl:=H.fact (q:=gs.length=l.length) fun h hh=>hh.1
 exact⟨gs,hl,(H.head fun h hh=>hh.2).flat⟩
theorem St.kJ {sb:Option Addr}{sc:Nat}(gs:List G)(l:List α)(hl:gs.length=l.length)(H:St w0 (Sl T enc 1 sb sc gs::(Objs R gs l++As)) w):St w0 (SlX T enc R sb sc l::As) w :=
 (St.group (Sl T enc 1 sb sc gs::Objs R gs l) H).head fun h hh=>⟨gs,hl,hh⟩
theorem St.iW {sb:Option Addr}{sc:Nat}{l:List α}{i:Int}{x:α}(H:St w0 (SlX T enc R sb sc l::As) w)(e:mIdx l i=some x) :
  ∃ (gs:List G) (g:G),gs.length=l.length/\mIdx gs i=some g/\St w0 (R g x::Sl T enc 1 sb sc gs::But R gs l i::As) w:=by
 obtain⟨gs,hl,H⟩:=H.ey;obtain⟨⟨h0,h1⟩,h2⟩:=rh e;have j:i.toNat<gs.length:=by rw[hl];exact (List.getElem?_eq_some_iff.1 h2).1
 refine⟨gs,gs[i.toNat],hl,by simp[mIdx,h0,j],?_⟩;have hp:=kf (R:=R) gs l i.toNat gs[i.toNat] x (by simp[j]) h2;have t:=H.perm ((hp.append_right As).cons _);have u:St w0 (Objs R (gs.eraseIdx i.toNat) (l.eraseIdx i.toNat)++(R gs[i.toNat] x::Sl T enc 1 sb sc gs::As)) w:=by
  refine t.perm ?_;exact (List.Perm.swap _ _ _).trans (List.perm_append_comm_assoc [R gs[i.toNat] x,Sl T enc 1 sb sc gs] _ As)
 exact ((St.group _ u).t2).t2
theorem St.jT {sb:Option Addr}{sc:Nat}{gs:List G}{l:List α}{i:Int}{x x':α}{g g':G}(H:St w0 (R g' x'::Sl T enc 1 sb sc gs::But R gs l i::As) w)(e:mIdx l i=some x)(hl:gs.length=l.length)(B:mIdx gs i=some g)(he:enc g'=enc g) :
  St w0 (SlX T enc R sb sc (mSet l i x')::As) w:=by
 obtain⟨⟨h0,h1⟩,h2⟩:=rh e;obtain⟨_,h3⟩:=rh B;have y:i.toNat<gs.length:=by rw[hl];exact (List.getElem?_eq_some_iff.1 h2).1
 have u:(gs.set i.toNat g').flatMap enc=gs.flatMap enc:=by
  have:∀ (gs:List G) (j:Nat),gs[j]? = some g->(gs.set j g').flatMap enc=gs.flatMap enc:=by
   intro gs;induction gs with
   | nil=>intro j;simp
   | cons a gs ih =>
    intro j hj;cases j with
    | zero=>simp at hj;subst hj;simp[he]
    | succ j=>simp at hj;simp[ih j hj]
  exact this gs i.toNat h3
 have z:Sl T enc 1 sb sc gs=Sl T enc 1 sb sc (gs.set i.toNat g'):=by
  funext h;simp only[Sl,u,List.length_set];have:(gs=[])=(gs.set i.toNat g'=[]):=by
   rw[<- List.length_eq_zero_iff,<- List.length_eq_zero_iff,List.length_set]
  rw[this]
 have t:But R gs l i=sepL (Objs R ((gs.set i.toNat g').eraseIdx i.toNat) ((l.set i.toNat x').eraseIdx i.toNat)):=by
  unfold But;rw[List.eraseIdx_set_eq,List.eraseIdx_set_eq]
 rw[z,t] at H;have A:=H.t2.flat;have hp:=kf (R:=R) (gs.set i.toNat g') (l.set i.toNat x') i.toNat g' x' (by simp[y]) (by rw[List.getElem?_set_self (by omega)]);refine St.kJ (gs.set i.toNat g') (l.set i.toNat x') (by simp[hl]) (A.perm ?_);refine List.Perm.trans ?_ ((hp.symm.append_right As).cons _);refine List.Perm.trans (List.perm_append_comm_assoc _ [R g' x',Sl T enc 1 sb sc (gs.set i.toNat g')] As) ?_;exact List.Perm.swap _ _ _
theorem bU {l:List α}{i:Int}{x:α}(e:mIdx l i=some x):mSet l i x=l:=by
 obtain⟨⟨h0,h1⟩,h2⟩:=rh e;obtain⟨h3,h4⟩:=List.getElem?_eq_some_iff.1 h2;unfold mSet;rw[<- h4,List.set_getElem_self]
theorem St.aH {sb:Option Addr}{sc:Nat}{gs:List G}{l:List α}{i:Int}{x:α}{g g':G}(H:St w0 (R g' x::Sl T enc 1 sb sc gs::But R gs l i::As) w)(e:mIdx l i=some x)(hl:gs.length=l.length)(j:mIdx gs i=some g)(he:enc g'=enc g) :
  St w0 (SlX T enc R sb sc l::As) w:=by
 have:=H.jT e hl j he
 rwa [bU e] at this
theorem St.Co {sb:Option Addr}{sc:Nat}{gs:List G}{l:List α}{i:Int}{x x':α}{g g':G}(H:St w0 (R g' x'::Sl T enc 1 sb sc (mSet gs i g')::But R gs l i::As) w)(e:mIdx l i=some x)(hl:gs.length=l.length)(y:mIdx gs i=some g) :
  St w0 (SlX T enc R sb sc (mSet l i x')::As) w:=by
 obtain⟨⟨h0,h1⟩,h2⟩:=rh e;have t:i.toNat<gs.length:=by rw[hl];exact (List.getElem?_eq_some_iff.1 h2).1
 have j:But R gs l i=But R (mSet gs i g') (mSet l i x) i:=by
  unfold But mSet;rw[List.eraseIdx_set_eq,List.eraseIdx_set_eq]
 rw[j] at H;have:=H.jT (l:=mSet l i x) (x:=x) (g:=g') (i:=i) (by simp only[mIdx,mSet,h0,if_pos];exact List.getElem?_set_self (List.getElem?_eq_some_iff.1 h2).1) (by simp[mSet,hl]) (by simp[mIdx,mSet,h0,t]) rfl;have u:mSet (mSet l i x) i x'=mSet l i x':=by simp[mSet]
 rwa [u] at this
theorem St.Du (T:TypeId)(enc:G->List Value)(R:G -> α -> HP)(H:St w0 As w):St w0 (SlX T enc R none 0 []::As) w :=
 St.kJ [] [] rfl (by simpa[Objs] using H.oh T enc 1)
theorem St.Ey {sb:Option Addr}{sc:Nat}(gs:List G)(l:List α)(hl:gs.length=l.length){Bs:List HP}(H:St w0 (Sl T enc 1 sb sc gs::Bs) w)(e:Bs=Objs R gs l++As):St w0 (SlX T enc R sb sc l::As) w:=by
 subst e;exact St.kJ gs l hl H
theorem ke:∀ (gs hs:List G) (l m:List α),gs.length=l.length->Objs R (gs++hs) (l++m)=Objs R gs l++Objs R hs m
 | [],hs,[],m,_=>by simp[Objs]
 | g::gs,hs,x::l,m,h=>by simp only[List.cons_append,Objs];rw[ke gs hs l m (by simpa using h)]
 | [],hs,x::l,m,h=>by simp at h
 | g::gs,hs,[],m,h=>by simp at h
theorem OpTo.BW {P:Program}{n:Nat}{a:Act}{L:Env}{o:Oper}{x y:Operand}{t u:TypeId}{d:TypeId}{i:TypeInfo}{sb xb:Option Addr}{sc xc:Nat}{l ys r:List α}(W:mApp l ys=some r)(O:zN n a L)(H:St w0 (SlX T enc R sb sc l::SlX T enc R xb xc ys::As) w)(he:wg enc 1)
  (U:o.op = .call { callee:=.builtin .append,args:=#[x,y],argTypes:=#[t,u] }) (X:evO L x=some (.slice sb l.length sc)) (Y:evO L y=some (.slice xb ys.length xc))
  (ht:P.underlying t=some (.slice T)) (hu:P.underlying u=some (.slice d)) (hi:P.info? T=some i) (A:i.size=1) {z:Value} (Z:i.zero=some z) (B:z.cells.size=1) (S:Nat.ble i.bytes 131072=true) :
  OpTo P o a w fun v w'=>∃ sb' sc',v = .slice sb' r.length sc'/\St w0 (SlX T enc R sb' sc' r::As) w':=by
 obtain⟨rfl,hle⟩:=eG W;obtain⟨gs,hl,H⟩:=H.ey;have H1:St w0 (SlX T enc R xb xc ys::Sl T enc 1 sb sc gs::(Objs R gs l++As)) w:=H.perm (List.perm_middle (l₁:=Sl T enc 1 sb sc gs::Objs R gs l));obtain⟨hs,e,F⟩:=H1.ey;have D:St w0 (Sl T enc 1 sb sc gs::Sl T enc 1 xb xc hs::(Objs R hs ys++(Objs R gs l++As))) w:=by
  refine F.perm ?_;exact (List.Perm.cons _ (List.perm_middle (l₁:=Objs R hs ys))).trans (List.Perm.swap _ _ _)
 have j:=SlRd.all (yP T enc 1 xb xc hs) he D 1 rfl;have:=OpTo.vP (P:=P) (o:=o) (r:=gs++hs) (ys:=hs) (m:=ys.length) (xb:=xb) (xc:=xc) (by unfold mApp;rw[if_pos (by omega)]) O D he U (by rw[hl];exact X) Y ht hu hi A Z B e.symm j S;refine this.mono ?_;rintro v w' ⟨sb',sc',rfl,I⟩;refine⟨sb',sc',by simp[hl,e],?_⟩;refine St.kJ (gs++hs) (l++ys) (by simp[hl,e]) ?_;rw[ke gs hs l ys hl];have J:=I.t1.drop;refine J.perm (List.Perm.cons _ ?_);rw[aA];exact List.perm_append_comm_assoc _ _ _
end
def ecH (g:Option Addr × Nat × Nat):List Value:=[.slice g.1 g.2.1 g.2.2]
theorem vE:wg ecH 1:=⟨fun _=>rfl,fun x u hu=>by simp[ecH] at hu;subst hu;rfl⟩
def RS {α:Type}(T:TypeId)(enc:α -> List Value)(sz:Nat)(g:Option Addr × Nat × Nat)(x:List α):HP:=fun h=>g.2.1=x.length/\Sl T enc sz g.1 g.2.2 x h
section
variable {α:Type} {T T':TypeId} {enc:α -> List Value} {sz:Nat} {w0 w:World} {As:List HP}
theorem St.Ds {g:Option Addr × Nat × Nat}{x:List α}(H:St w0 (RS T enc sz g x::As) w):∃ b c,g=(b,x.length,c)/\St w0 (Sl T enc sz b c x::As) w:=by
 have hl:=H.fact (q:=g.2.1=x.length) fun h hh=>hh.1
 exact⟨g.1,g.2.2,by rw[<- hl],H.head fun h hh=>hh.2⟩
theorem St.aw {b:Option Addr}{c:Nat}{x:List α}(H:St w0 (Sl T enc sz b c x::As) w):St w0 (RS T enc sz (b,x.length,c) x::As) w:=H.head fun h hh=>⟨rfl,hh⟩
theorem St.jU {sb:Option Addr}{sc:Nat}{l:List (List α)}{i:Int}{x:List α}(H:St w0 (SlX T' ecH (RS T enc sz) sb sc l::As) w)(e:mIdx l i=some x) :
  ∃ (gs:List (Option Addr × Nat × Nat)) (b:Option Addr) (c:Nat),gs.length=l.length/\mIdx gs i=some (b,x.length,c)/\St w0 (Sl T enc sz b c x::Sl T' ecH 1 sb sc gs::But (RS T enc sz) gs l i::As) w:=by
 obtain⟨gs,g,hl,t,H⟩:=H.iW e;obtain⟨b,c,rfl,j⟩:=H.Ds;exact⟨gs,b,c,hl,t,j⟩
theorem St.gZ {sb:Option Addr}{sc:Nat}{gs:List (Option Addr × Nat × Nat)}{l:List (List α)}{i:Int}{x:List α}{b:Option Addr}{c:Nat}(H:St w0 (Sl T enc sz b c x::Sl T' ecH 1 sb sc gs::But (RS T enc sz) gs l i::As) w)(e:mIdx l i=some x)(hl:gs.length=l.length)(j:mIdx gs i=some (b,x.length,c)) :
  St w0 (SlX T' ecH (RS T enc sz) sb sc l::As) w:=H.aw.aH e hl j rfl
theorem St.dD {sb:Option Addr}{sc:Nat}{gs:List (Option Addr × Nat × Nat)}{l:List (List α)}{i:Int}{x x':List α}{b b0:Option Addr}{c j:Nat}{u:Nat}(H:St w0 (Sl T enc sz b c x'::Sl T' ecH 1 sb sc (mSet gs i (b,x'.length,c))::But (RS T enc sz) gs l i::As) w)(e:mIdx l i=some x)(hl:gs.length=l.length)(t:mIdx gs i=some (b0,u,j)) :
  St w0 (SlX T' ecH (RS T enc sz) sb sc (mSet l i x')::As) w:=H.aw.Co e hl t
theorem dj (T:TypeId)(enc:α -> List Value)(sz:Nat)(H:St w0 As w):∀ n:Nat,St w0 (Objs (RS T enc sz) (List.replicate n (none,0,0)) (List.replicate n [])++As) w
 | 0=>by simpa[Objs] using H
 | n+1=>by
  have:=(dj T enc sz H n).oh T enc sz;simpa[List.replicate_succ,Objs] using this.aw
theorem OpTo.En {P:Program}{n:Nat}{a:Act}{L:Env}{o:Oper}{t:TypeId}{x:Operand}{m:Int}{l:List (List α)}{e:TypeInfo}{j:Value}(hl:iG m ([]:List α)=some l)(y:zN n a L)(H:St w0 As w)(D:o.op = .makeSlice t x x)(F:evO L x=some (.int .i64 m))
  (ht:P.underlying t=some (.slice T')) (hi:P.info? T'=some e) (hs:e.size=1) (I:e.zero=some j) (B:j.cells.toList=[.slice none 0 0]) (A:Nat.ble e.bytes 131072=true) :
  OpTo P o a w fun v w'=>∃ r:Nat,v = .slice (some ⟨r,0,none⟩) l.length l.length/\St w0 (SlX T' ecH (RS T enc sz) (some ⟨r,0,none⟩) l.length l::As) w':=by
 obtain⟨h0,rfl⟩:=gq hl;have:=OpTo.make (P:=P) (o:=o) (z:=((none,0,0):Option Addr × Nat × Nat)) (l:=List.replicate m.toNat (none,0,0)) (by unfold iG;rw[if_pos h0]) y H vE D F ht hi hs I B A;refine this.mono ?_;rintro v w' ⟨r,rfl,u⟩;refine⟨r,by simp,?_⟩;refine St.kJ (List.replicate m.toNat (none,0,0)) (List.replicate m.toNat []) (by simp) ?_;have i:=dj T enc sz u m.toNat;simp only[List.length_replicate] at i ⊢;exact i.perm (List.perm_middle)
end
end
end Go.Th
