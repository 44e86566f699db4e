/-
  The statements ServerPlays of the program.
  Text 1 of 10: of what the proof needs (a row of the program: no condition is left); put together and made narrow by a program.
-/
import Derived.Calls
import Derived.Conc.LoneSelect
import Derived.KernelRfl
import Derived.Laws.AppendOwn
import Derived.Laws.StructEq
import Derived.OrdersHeld
set_option linter.unusedVariables false
set_option linter.unusedSimpArgs false
namespace Go.Th
abbrev rg_7 : List Nat := [0, 1, 2, 3, 4, 5, 6, 7]
abbrev rg_11 : List Nat := [0, 1, 2, 3, 4, 5, 6, 7, 8, 9, 10, 11]
abbrev rg_6 : List Nat := [0, 1, 2, 3, 4, 5, 6]
abbrev rg_13 : List Nat := [0, 1, 2, 3, 4, 5, 6, 7, 8, 9, 10, 11, 12, 13]
abbrev rg_8 : List Nat := [0, 1, 2, 3, 4, 5, 6, 7, 8]
abbrev rg_21 : List Nat := [0, 1, 2, 3, 4, 5, 6, 7, 8, 9, 10, 11, 12, 13, 14, 15, 16, 17, 18, 19, 20, 21]
end Go.Th
noncomputable section
namespace Go.Th
theorem bS {A B : Type} (a : A) (f : A -> Option B) : (some a).bind f = f a := rfl
theorem lA {A : Type} {a b : List A} : (a ++ b).length = a.length + b.length := List.length_append
theorem mL {A : Type} {a : A} {l : List A} (m : List A) (h : a ∈ l) : a ∈ l ++ m := List.mem_append_left _ h
theorem mC {A : Type} (y : A) {a : A} {l : List A} (h : a ∈ l) : a ∈ y :: l := List.mem_cons_of_mem _ h
theorem dF {p : Prop} [i : Decidable p] (h : ¬p) : decide p = false := _root_.decide_eq_false h
theorem dT {p : Prop} [i : Decidable p] (h : p) : decide p = true := _root_.decide_eq_true h
theorem tN (n : Nat) : Int.toNat (n : Int) = n := Int.toNat_natCast n
theorem lC {A : Type} {a : A} {l : List A} : (a :: l).length = l.length + 1 := List.length_cons
theorem iC {A : Type} {a b : A} {l : List A} : a ∈ b :: l ↔ a = b \/ a ∈ l := List.mem_cons
theorem iA {A : Type} {a : A} {l m : List A} : a ∈ l ++ m ↔ a ∈ l \/ a ∈ m := List.mem_append
theorem aA {A : Type} (a b c : List A) : a ++ b ++ c = a ++ (b ++ c) := List.append_assoc ..
theorem aN {A : Type} (l : List A) : l ++ [] = l := List.append_nil _
theorem pC {A B : Type} {f : A -> B} {a : A} {l : List A} : (a :: l).map f = f a :: l.map f := List.map_cons
theorem lM {A B : Type} {l : List A} (f : A -> B) : (l.map f).length = l.length := List.length_map ..
theorem cT {A : Type} (a b : A) : cond true a b = a := rfl
theorem cF {A : Type} (a b : A) : cond false a b = b := rfl
end Go.Th
namespace Go.Th
abbrev Env := List (Nat × Value)
def look (t : Nat) : Env -> Option Value
 | [] => none
 | (u,v) :: r => match Nat.beq t u with
  | true => some v
  | false => look t r
structure zN (n : Nat) (a : Act) (L : Env) : Prop where
 size : a.tmps.size = n
 defers : a.defers = []
 has : ∀ t v,look t L = some v -> a.tmps[t]? = some v
theorem vv (t u : Nat) (v : Value) (r : Env) : look t ((u,v) :: r) = if t = u then some v else look t r := by
 simp only [look];split
 ·rename_i h; simp [Nat.eq_of_beq_eq_true h]
 ·rename_i h; simp [Nat.ne_of_beq_eq_false h]
theorem zN.put {n : Nat} {a : Act} {L : Env} (h : zN n a L) (d : Nat) (v : Value) (hd : d < n) : zN n (a.put (some d) v) ((d,v) :: L) := by
 refine ⟨by simp [Act.put,h.size],h.defers,fun t u hu => ?_⟩;rw [vv] at hu;simp only [Act.put];split at hu
 ·subst_vars; cases hu; simp [h.size,hd]
 ·rename_i j;rw [Array.getElem?_setIfInBounds_ne (fun e => j e.symm)];exact h.has t u hu
def evO (L : Env) : Operand -> Option Value
 | .tmp t => look t L
 | .const v => some v
 | .global g => some (.pointer (some ⟨g,0,none⟩))
 | .func f => some (.func (.func f) #[] #[])
theorem zN.eval {n : Nat} {a : Act} {L : Env} (h : zN n a L) {x : Operand} {v : Value} (e : evO L x = some v) : a.eval x = v := by
 cases x with
 | tmp t =>
  have := h.has t v e;simp [Act.eval,Array.getD_eq_getD_getElem?,this]
 | const u => simpa [evO,Act.eval] using e
 | global g => simpa [evO,Act.eval] using e
 | func f => simpa [evO,Act.eval] using e
def rho (L : Env) (x : Operand) : Value := match evO L x with
 | some v => v
 | none => undef
def jE (L : Env) : List Operand -> Bool
 | [] => true
 | x :: r => match evO L x with
  | some _ => jE L r
  | none => false
theorem kR {L : Env} : ∀ {l : List Operand},jE L l = true -> ∀ x ∈ l,∃ v,evO L x = some v
 | [],_,x,e => by cases e
 | y :: r,h,x,e => by
  simp only [jE] at h;split at h
  ·rename_i v hv;cases e with
   | head => exact ⟨v,hv⟩
   | tail _ hm => exact kR h x hm
  ·cases h
def qh : Op -> Bool
 | .select .. => true
 | _ => false
theorem jt {n : Nat} {a : Act} {L : Env} (h : zN n a L) {o : Oper} (hs : qh o.op = false) (e : jE L o.op.operands.toList = true) :
  execOp a.eval o = execOp (rho L) o := by
 refine execOp_congr o (fun cs b j => by simp [j,qh] at hs) (fun x t => ?_);obtain ⟨v,hv⟩ := kR e x (by simpa using t);rw [h.eval hv]; simp [rho,hv]
inductive Ob where
 | cell (a : Addr) (v : Value)
 | p (q : Prop)
def Ob.holds (w : World) : Ob -> Prop
 | .cell a v => w.cell? a = some v
 | .p q => q
def wc (w : World) : List Ob -> Prop
 | [] => True
 | o :: r => o.holds w /\ wc w r
theorem wL {w : World} : ∀ {l m : List Ob},wc w (l ++ m) ↔ wc w l /\ wc w m
 | [],m => by simp [wc]
 | o :: l,m => by simp [wc,wL (l := l) (m := m),and_assoc]
def runA (P : Program) {α : Type} : Sem α -> List Value -> Option (α × List Ob × List Value)
 | .pure a,e => some (a,[],e)
 | .load _ t k,e => match e with
  | [] => none
  | v :: e => match runA P (k v) e with
   | some (x,obs,j) => some (x,.cell t v :: obs,j)
   | none => none
 | .program k,e => runA P (k P) e
 | .mark _ k,e => runA P k e
 | _,_ => none
theorem nQ (P : Program) (w : World) {α : Type} : ∀ (s : Sem α) (j : List Value) (x : α) (obs : List Ob) (e : List Value),
  runA P s j = some (x,obs,e) -> wc w obs -> s.run P w = .ok x w := by
 intro s;induction s with
 | pure a => intro j x obs e h _; simp [runA] at h; obtain ⟨rfl,_,_⟩ := h; rfl
 | load m B k ih =>
  intro j x obs e h t;cases j with
  | nil => simp [runA] at h
  | cons v j =>
   simp only [runA] at h;split at h
   ·rename_i y z u A;simp at h;obtain ⟨rfl,rfl,rfl⟩ := h;simp only [wc,Ob.holds] at t;simp only [Sem.run,t.1];exact ih v j _ _ _ A t.2
   ·cases h
 | program k ih => intro j x obs e h t; simp only [runA] at h; simp only [Sem.run]; exact ih P j x obs e h t
 | mark m k ih => intro j x obs e h t; simp only [runA] at h; simp only [Sem.run]; exact ih j x obs e h t
 | _ => intro j x obs e h; simp [runA] at h
def yF (base : Option Addr) (cap l size : Nat) : Option Addr := if cap = l then base else base.map (·.add (l * size))
def ir : Option Value -> Option Nat
 | none => some 0
 | some (.int _ i) => some i.toNat
 | _ => none
def lP : Option Value -> Nat -> List Ob
 | some (.int _ i),h => [.p (0 <= i /\ i <= (h : Int))]
 | _,_ => []
def mR (len : Nat) : Option Value -> Option Nat
 | none => some len
 | some (.int _ i) => some i.toNat
 | _ => none
def evOp (P : Program) (L : Env) (o : Oper) (j : List Value) : Option (Value × List Ob × List Value) :=
 match qh o.op,jE L o.op.operands.toList with
 | false,true =>
  match o.op with
  | .indexAddr t x i => match P.underlying t,rho L x,rho L i with
   | some (.slice e),.slice base len _,.int _ z => match j,P.info? e with
    | .pointer (some ⟨b,off,none⟩) :: j,some ti => some (.pointer (some ⟨b,off + z.toNat * ti.size,none⟩),[.p (base = some ⟨b,off,none⟩),.p (0 <= z /\ z < (len : Int))],j)
    | _,_ => none
   | some (.array len e),.pointer (some ⟨b,off,none⟩),.int _ z => match P.info? e with
    | some ti => some (.pointer (some ⟨b,off + z.toNat * ti.size,none⟩),[.p (0 <= z /\ z < (len : Int))],j)
    | none => none
   | _,_,_ => none
  | .slice t x lo hi none => match P.underlying t,rho L x with
   | some (.slice e),.slice base len cap => match P.info? e,ir (lo.map (rho L)),mR len (hi.map (rho L)) with
    | some ti,some l,some h => match j with
     | .slice B F D :: j => some (.slice B F D,.p (yF base cap l ti.size = B) :: .p (h - l = F) :: .p (cap - l = D) :: (lP (hi.map (rho L)) cap ++ lP (lo.map (rho L)) h),j)
     | _ => none
    | _,_,_ => none
   | some .string,.string s => match ir (lo.map (rho L)),mR s.size (hi.map (rho L)) with
    | some l,some h => some (.string (s.extract l h),lP (hi.map (rho L)) s.size ++ lP (lo.map (rho L)) h,j)
    | _,_ => none
   | _,_ => none
  | .binOp .quo _ x y _ => match rho L x,rho L y with
   | .int .i64 a,.int .i64 b => some (.int .i64 (IntKind.i64.wrap (a.tdiv b)),[.p (b ≠ 0)],j)
   | _,_ => none
  | .binOp .rem _ x y _ => match rho L x,rho L y with
   | .int .i64 a,.int .i64 b => some (.int .i64 (a.tmod b),[.p (b ≠ 0)],j)
   | _,_ => none
  | .binOp .shl _ x y _ => match rho L x,rho L y with
   | .int k a,.int _ b => some (.int k (k.wrap (a * 2 ^ (min b.toNat k.bits))),[.p (0 <= b)],j)
   | _,_ => none
  | .binOp .shr _ x y _ => match rho L x,rho L y with
   | .int k a,.int _ b => some (.int k (a.fdiv (2 ^ (min b.toNat k.bits))),[.p (0 <= b)],j)
   | _,_ => none
  | .index t x i => match P.underlying t,rho L x,rho L i with
   | some .string,.string s,.int _ z => match j with
    | .int .u8 c :: j => some (.int .u8 c,[.p (0 <= z /\ ∃ u,s[z.toNat]? = some u /\ c = (u.toNat : Int))],j)
    | _ => none
   | _,_,_ => none
  | _ => match runA P (execOp (rho L) o) j with
   | some (.value v,obs,A) => some (v,obs,A)
   | _ => none
 | _,_ => none
theorem uo (b off n : Nat) : (⟨b,off,none⟩ : Addr).add n = ⟨b,off + n,none⟩ := by
 unfold Addr.add; split <;> simp_all
theorem xL (P : Program) {t : TypeId} {d : TypeDesc} (h : P.underlying t = some d) (w : World) : (underlying t).run P w = .ok d w := by
 simp [underlying,program,bind,Sem.bind,Sem.run,h,pure]
theorem rE (P : Program) {t : TypeId} {i : TypeInfo} (h : P.info? t = some i) (w : World) : (sizeOf t).run P w = .ok i.size w := by
 simp [sizeOf,typeInfo,program,bind,Sem.bind,Sem.run,h,pure]
theorem aI (P : Program) {x : Value} {k : IntKind} {i : Int} {y : Nat} {c : BoundsCode} (e : x = .int k i) (h : 0 <= i /\ i <= (y : Int)) (w : World) :
  (Instr.sliceBound x y c).run P w = .ok i.toNat w := by
 subst e;simp [Instr.sliceBound,asIntOf,bind,Sem.bind,pure,h]
theorem cw (P : Program) {lo : Option Value} {l h : Nat} (hl : ir lo = some l) (w : World) (e : wc w (lP lo h)) (c : BoundsCode) :
  (match lo with
   | some v => Instr.sliceBound v h c
   | none => (pure 0 : Sem Nat)).run P w = .ok l w := by
 cases lo with
 | none => simp [ir] at hl; subst hl; rfl
 | some v =>
  cases v <;> simp only [ir] at hl <;> try cases hl
  rename_i k i;simp only [lP,wc,Ob.holds] at e;exact aI P rfl e.1 w
theorem bO (P : Program) {hi : Option Value} {len h cap : Nat} (hl : mR len hi = some h) (w : World) (e : wc w (lP hi cap)) (c : BoundsCode) :
  (match hi with
   | some v => Instr.sliceBound v cap c
   | none => (pure len : Sem Nat)).run P w = .ok h w := by
 cases hi with
 | none => simp [mR] at hl; subst hl; rfl
 | some v =>
  cases v <;> simp only [mR] at hl <;> try cases hl
  rename_i k i;simp only [lP,wc,Ob.holds] at e;exact aI P rfl e.1 w
theorem kC (P : Program) (b : Bool) (len cap : Nat) (lo hi : Option Value) {l h : Nat} (hl : ir lo = some l) (hh : mR len hi = some h) (w : World)
  (x : wc w (lP hi cap)) (t : wc w (lP lo h)) : (Instr.sliceBounds b len cap lo hi none).run P w = .ok (l,h,cap) w := by
 unfold Instr.sliceBounds;cases hi with
 | none =>
  simp only [mR,Option.some.injEq] at hh; subst hh;cases lo with
  | none => simp only [ir,Option.some.injEq] at hl; subst hl; simp
  | some v =>
   have e := cw P hl w t .sliceB;simp only at e;simp [e]
 | some u =>
  have j := fun c => bO P hh w x c
  simp only at j;cases lo with
  | none => simp only [ir,Option.some.injEq] at hl; subst hl; simp [j]
  | some v =>
   have e := cw P hl w t .sliceB;simp only at e;simp [e,j]
theorem kJ {P : Program} {n : Nat} {a : Act} {L : Env} (hE : zN n a L) {o : Oper} {Y : List Value} {v : Value} {obs : List Ob} {O : List Value}
  (h : evOp P L o Y = some (v,obs,O)) {w : World} (z : wc w obs) : (execOp a.eval o).run P w = .ok (.value v) w := by
 unfold evOp at h;split at h
 case h_2 => cases h
 rename_i hs W;rw [jt hE hs W];split at h
 ·
  rename_i t x i j;simp only [execOp,j];split at h
  ·rename_i e base len cap k Z hu A hi;rw [A,hi];split at h
   ·rename_i b off S ti B;simp only [Option.some.injEq,Prod.mk.injEq] at h;obtain ⟨rfl,rfl,_⟩ := h;simp only [wc,Ob.holds] at z;obtain ⟨rfl,D,-⟩ := z;simp [Instr.indexAt,asIntOf,xL P hu,D,rE P B,uo]
   ·cases h
  ·rename_i len e b off k Z hu A hi;rw [A,hi];split at h
   ·rename_i ti B;simp only [Option.some.injEq,Prod.mk.injEq] at h;obtain ⟨rfl,rfl,_⟩ := h;simp only [wc,Ob.holds] at z;obtain ⟨D,-⟩ := z;simp [Instr.indexAt,Instr.sureAddr,asIntOf,xL P hu,D,rE P B,uo]
   ·cases h
  ·cases h
 ·
  rename_i t x lo hi j;simp only [execOp,j];split at h
  ·rename_i e base len cap hu A;rw [A];split at h
   ·rename_i ti l hh B hl F;split at h
    ·simp only [Option.some.injEq,Prod.mk.injEq] at h;obtain ⟨rfl,rfl,_⟩ := h;simp only [wc,Ob.holds] at z;obtain ⟨rfl,rfl,rfl,z⟩ := z;rw [wL] at z;have U : (Instr.sliceBounds true len cap (lo.map (rho L)) (hi.map (rho L)) none).run P w = .ok (l,hh,cap) w := kC P true _ _ _ _ hl F w z.1 z.2;simp [Instr.sliceAt,Instr.slice,xL P hu,rE P B,yF,U]
    ·cases h
   ·cases h
  ·rename_i s hu A;rw [A];split at h
   ·rename_i l hh hl F;simp only [Option.some.injEq,Prod.mk.injEq] at h;obtain ⟨rfl,rfl,_⟩ := h;rw [wL] at z;have U : (Instr.sliceBounds false s.size s.size (lo.map (rho L)) (hi.map (rho L)) none).run P w = .ok (l,hh,s.size) w := kC P false _ _ _ _ hl F w z.1 z.2;simp [Instr.sliceAt,Instr.slice,xL P hu,U]
   ·cases h
  ·cases h
 ·
  rename_i t x y t2 j;simp only [execOp,j];split at h
  ·rename_i a' J A I;simp only [Option.some.injEq,Prod.mk.injEq] at h;obtain ⟨rfl,rfl,_⟩ := h;simp only [wc,Ob.holds] at z;simp [A,I,eqGuard,binOp,Op.intDiv,z.1]
  ·cases h
 ·
  rename_i t x y t2 j;simp only [execOp,j];split at h
  ·rename_i a' J A I;simp only [Option.some.injEq,Prod.mk.injEq] at h;obtain ⟨rfl,rfl,_⟩ := h;simp only [wc,Ob.holds] at z;simp [A,I,eqGuard,binOp,Op.intDiv,z.1]
  ·cases h
 ·
  rename_i t x y t2 j;simp only [execOp,j];split at h
  ·rename_i k a' k2 J A I;simp only [Option.some.injEq,Prod.mk.injEq] at h;obtain ⟨rfl,rfl,_⟩ := h;simp only [wc,Ob.holds] at z;have D : ¬ J < 0 := by omega
   simp [A,I,eqGuard,binOp,Op.shift,D]
  ·cases h
 ·
  rename_i t x y t2 j;simp only [execOp,j];split at h
  ·rename_i k a' k2 J A I;simp only [Option.some.injEq,Prod.mk.injEq] at h;obtain ⟨rfl,rfl,_⟩ := h;simp only [wc,Ob.holds] at z;have D : ¬ J < 0 := by omega
   simp [A,I,eqGuard,binOp,Op.shift,D]
  ·cases h
 ·
  rename_i t x i j;simp only [execOp,j];split at h
  ·rename_i s k Z hu A hi;rw [A,hi];split at h
   ·rename_i c S;simp only [Option.some.injEq,Prod.mk.injEq] at h;obtain ⟨rfl,rfl,_⟩ := h;simp only [wc,Ob.holds] at z;obtain ⟨⟨h0,u,X,rfl⟩,-⟩ := z;simp [Instr.index,asIntOf,xL P hu,h0,X]
   ·cases h
  ·cases h
 ·split at h
  ·rename_i u a0 a1 hr;simp only [Option.some.injEq,Prod.mk.injEq] at h;obtain ⟨rfl,rfl,_⟩ := h;exact nQ P w _ _ _ _ _ hr z
  ·cases h
def uX (ops : Array Oper) (L : Env) (o : Oper) : Option Bool :=
 match o.guard with
 | none => some true
 | some (j,want) => match (ops[j]?).bind (·.dst) with
  | some d => match look d L with
   | some (.bool b) => some (b == want)
   | some (.tuple _) => some false
   | _ => none
  | none => none
theorem wo {n : Nat} {a : Act} {L : Env} (t : zN n a L) {ops : Array Oper} {o : Oper} {b : Bool} (h : uX ops L o = some b) :
  Region.wanted o (yielded ops a.tmps) = b := by
 unfold uX at h;unfold Region.wanted;split at h
 ·rename_i e; rw [e]; simpa using h
 ·rename_i j want e;rw [e];simp only;unfold yielded;split at h
  ·rename_i d hd;rw [hd];split at h
   ·rename_i u hu;simp only [bS,t.has _ _ hu];simpa using h
   ·rename_i u hu;simp only [bS,t.has _ _ hu];simpa using h
   ·cases h
  ·cases h
def setE (n : Nat) (d : Option Tmp) (v : Value) (L : Env) : Option Env :=
 match d with
 | none => some L
 | some d => match Nat.blt d n with
  | true => some ((d,v) :: L)
  | false => none
theorem qe {n : Nat} {a : Act} {L L' : Env} {d : Option Tmp} {v : Value} (e : zN n a L) (h : setE n d v L = some L') : zN n (a.put d v) L' := by
 unfold setE at h;split at h
 ·cases h; exact e
 ·split at h
  ·rename_i hd; cases h; exact e.put _ _ (by simpa [Nat.blt_eq] using hd)
  ·cases h
def oa (P : Program) (n : Nat) (ops : Array Oper) : List Nat -> Env -> List Value -> Option (Env × List Ob)
 | [],L,_ => some (L,[])
 | i :: is,L,j => match ops[i]? with
  | none => none
  | some o => match uX ops L o with
   | none => none
   | some false => match setE n o.dst undef L with
    | some L1 => oa P n ops is L1 j
    | none => none
   | some true => match evOp P L o j with
    | none => none
    | some (v,obs,t) => match setE n o.dst v L with
     | none => none
     | some L1 => match oa P n ops is L1 t with
      | some (L2,e) => some (L2,obs ++ e)
      | none => none
def sel : List Nat -> Env -> Option Env
 | [],_ => some []
 | k :: ks,L => match look k L with
  | none => none
  | some v => match sel ks L with
   | none => none
   | some r => some ((k,v) :: r)
theorem qd {n : Nat} {a : Act} {L : Env} (e : zN n a L) : ∀ {ks : List Nat} {Lo : Env},sel ks L = some Lo -> zN n a Lo
 | [],Lo,h => by simp [sel] at h; subst h; exact ⟨e.size,e.defers,fun t v hv => by simp [look] at hv⟩
 | k :: ks,Lo,h => by
  simp only [sel] at h;split at h
  ·cases h
  ·rename_i v hv;split at h
   ·cases h
   ·rename_i r hr;cases h;have ih := qd e hr;refine ⟨e.size,e.defers,fun t u hu => ?_⟩;rw [vv] at hu;split at hu
    ·subst_vars; cases hu; exact e.has _ _ hv
    ·exact ih.has t u hu
def ly (P : Program) (n : Nat) (ops : Array Oper) (is : List Nat) (L : Env) (e : List Value) (ks : List Nat) : Option (Env × List Ob) :=
 match oa P n ops is L e with
 | none => none
 | some (L1,obs) => match sel ks L1 with
  | some Lo => some (Lo,obs)
  | none => none
theorem mO {P : Program} {n : Nat} {ops : Array Oper} {Q : Exit -> Act -> World -> Prop} {w : World} {rest : List Nat} :
  ∀ (is : List Nat) (a : Act) (L : Env) (t : List Value) (L' : Env) (obs : List Ob),zN n a L -> oa P n ops is L t = some (L',obs) -> wc w obs ->
   (∀ a',zN n a' L' -> wpOps P ops Q rest a' w) -> wpOps P ops Q (is ++ rest) a w := by
 intro is;induction is with
 | nil => intro a L t L' obs e h u hk; simp [oa] at h; obtain ⟨rfl,rfl⟩ := h; exact hk a e
 | cons i is ih =>
  intro a L t L' obs e h u hk;rw [List.cons_append,wpOps_cons];simp only [oa] at h;split at h
  ·cases h
  ·rename_i o y;unfold wpOp;simp only [y];split at h
   ·cases h
   ·rename_i hw;rw [wo e hw];split at h
    ·rename_i L1 j;exact ih _ _ _ _ _ (qe e j) h u hk
    ·cases h
   ·rename_i hw;rw [wo e hw];split at h
    ·cases h
    ·rename_i v z B hv;split at h
     ·cases h
     ·rename_i L1 j;split at h
      ·rename_i L2 A x;cases h;rw [wL] at u;have hr := kJ e hv u.1;simp only [if_true];refine .inl ?_;unfold Oper.wp;rw [hr];exact ih _ _ _ _ _ (qe e j) x u.2 hk
      ·cases h
def yL (P : Program) (f : FuncId) (args : Array Value) (w : World) (R : Value -> World -> Prop) : Prop :=
 Calls P f args w fun e w' => ∃ v,e = .returned v /\ R v w'
theorem yL.mono {P : Program} {f : FuncId} {args : Array Value} {w : World} {R e : Value -> World -> Prop} (h : yL P f args w R) (hr : ∀ v w',R v w' -> e v w') : yL P f args w e :=
 Calls.mono h fun _ _ ⟨v,he,hv⟩ => ⟨v,he,hr _ _ hv⟩
def Runs (P : Program) (f : FuncId) (todo : List Item) (a : Act) (w : World) (R : Value -> World -> Prop) : Prop :=
 ∀ (b : Frame),b.fn = f -> b.kind = .normal -> ∀ cs,∃ v w' fr,R v w' /\ Steps P (lone (b.at a todo) cs w) (lone fr cs w') /\ fr.fn = f /\ fr.leaving P w' (.returned v)
def nv : Nat -> List Value -> Env
 | _,[] => []
 | i,v :: r => (i,v) :: nv (i + 1) r
theorem nU : ∀ (l : List Value) (i t : Nat) (v : Value),look t (nv i l) = some v -> i <= t /\ l[t - i]? = some v
 | [],i,t,v,h => by simp [nv,look] at h
 | u :: l,i,t,v,h => by
  simp only [nv] at h;rw [vv] at h;split at h
  ·subst_vars; cases h; simp
  ·rename_i e;obtain ⟨h1,h2⟩ := nU l (i + 1) t v h;refine ⟨by omega,?_⟩;have : t - i = (t - (i + 1)) + 1 := by omega
   rw [this]; simpa using h2
section
variable {P : Program} {f : FuncId} {k : List Item} {a : Act} {w : World} {R : Value -> World -> Prop}
theorem enter {fn : Func} {c : Code} {args : List Value} {n : Nat} (hf : P.funcs[f]? = some fn) (x : fn.body = some c) (hn : fn.ntmps = n) (hl : Nat.ble args.length n = true)
  (h : ∀ a,zN n a (nv 0 args) -> Runs P f [.code c] a w R) : yL P f args.toArray w R := by
 intro cs;have y : args.length <= n := Nat.le_of_ble_eq_true hl
 let b : Frame := { (default : Frame) with fn := f,kind := .normal }
 have e : Frame.enter P f args.toArray .normal =
   b.at { tmps := args.toArray ++ Array.replicate (fn.ntmps - args.toArray.size) undef,defers := [] } [.code c] := by
  simp [Frame.enter,Frame.at,hf,x,b]
 obtain ⟨v,w',fr,u,hs,h1,h2⟩ := h { tmps := args.toArray ++ Array.replicate (fn.ntmps - args.toArray.size) undef,defers := [] } ⟨by simp [hn]; omega,rfl,fun t v hv => by
  obtain ⟨_,h2⟩ := nU _ _ _ _ hv;simp only [Nat.sub_zero] at h2;have j : t < args.length := (List.getElem?_eq_some_iff.1 h2).1;rw [Array.getElem?_append_left (by simpa using j)];simpa using h2⟩ b rfl rfl cs
 exact ⟨.returned v,w',fr,⟨v,rfl,u⟩,by rw [e]; exact hs,h1,h2⟩
theorem Runs.step {todo todo' : List Item} {a' : Act} {w' : World} (hs : ∀ (b : Frame) cs,step P (lone (b.at a todo) cs w) = .next (lone (b.at a' todo') cs w')) (h : Runs P f todo' a' w' R) : Runs P f todo a w R :=
 fun b j hk cs => let ⟨v,w2,fr,e,h1,h2⟩ := h b j hk cs; ⟨v,w2,fr,e,.head (hs b cs) h1,h2⟩
theorem Runs.skip (h : Runs P f k a w R) : Runs P f (.code .skip :: k) a w R := .step (fun _ _ => step_skip) h
theorem Runs.label {l : Nat} (h : Runs P f k a w R) : Runs P f (.code (.label l) :: k) a w R := .step (fun _ _ => step_label) h
theorem Runs.inBlock {id : Nat} (h : Runs P f k a w R) : Runs P f (.inBlock id :: k) a w R := .step (fun _ _ => step_inBlock) h
theorem Runs.seq {x y : Code} (h : Runs P f (.code x :: .code y :: k) a w R) : Runs P f (.code (.seq x y) :: k) a w R := .step (fun _ _ => step_seq) h
theorem Runs.block {id : Nat} {c : Code} (h : Runs P f (.code c :: .inBlock id :: k) a w R) : Runs P f (.code (.block id c) :: k) a w R := .step (fun _ _ => step_block) h
theorem Runs.exit {id : Nat} {e : List Item} (he : exitTo id k = some e) (h : Runs P f e a w R) : Runs P f (.code (.exit id) :: k) a w R := .step (fun _ _ => step_exit he) h
theorem Runs.inLoop {c : Code} (h : Runs P f (.code c :: .inLoop c :: k) a w R) : Runs P f (.inLoop c :: k) a w R := .step (fun _ _ => step_inLoop) h
theorem Runs.cond {n : Nat} {L : Env} {c : Operand} {x y : Code} {t : Bool} (e : zN n a L) (j : evO L c = some (.bool t)) (h1 : t = true -> Runs P f (.code x :: k) a w R) (h2 : t = false -> Runs P f (.code y :: k) a w R) :
  Runs P f (.code (.cond c x y) :: k) a w R := by
 cases t
 ·exact .step (fun _ _ => step_cond (e.eval j)) (h2 rfl)
 ·exact .step (fun _ _ => step_cond (e.eval j)) (h1 rfl)
theorem Runs.rI {n : Nat} {L : Env} {c : Operand} {x y : Code} (e : zN n a L) (j : evO L c = some (.bool true)) (h1 : Runs P f (.code x :: k) a w R) :
  Runs P f (.code (.cond c x y) :: k) a w R := .step (fun _ _ => step_cond (e.eval j)) h1
theorem Runs.tg {n : Nat} {L : Env} {c : Operand} {x y : Code} (e : zN n a L) (j : evO L c = some (.bool false)) (h1 : Runs P f (.code y :: k) a w R) :
  Runs P f (.code (.cond c x y) :: k) a w R := .step (fun _ _ => step_cond (e.eval j)) h1
theorem Runs.aP {c : Code} (h : Runs P f (.code c :: .inLoop c :: k) a w R) : Runs P f (.code (.loop c) :: k) a w R := .step (fun _ _ => step_loop) h
theorem Runs.loop {c : Code} (I : Nat -> Act -> World -> Prop) (N : Nat) (h0 : I N a w)
  (round : ∀ m,(∀ e,e < m -> ∀ a w,I e a w -> Runs P f (.inLoop c :: k) a w R) -> ∀ a w,I m a w -> Runs P f (.code c :: .inLoop c :: k) a w R) : Runs P f (.code (.loop c) :: k) a w R := by
 have key : ∀ m a w,I m a w -> Runs P f (.code c :: .inLoop c :: k) a w R := by
  intro m;induction m using Nat.strongRecOn with
  | _ m ih => exact round m fun e j a w t => .inLoop (ih e j a w t)
 exact .step (fun _ _ => step_loop) (key N a w h0)
def gD (L : Env) : List ResultVar -> Option (List Value)
 | [] => some []
 | .tmp t :: r => match look t L,gD L r with
  | some v,some vs => some (v :: vs)
  | _,_ => none
 | .cell _ _ :: _ => none
def sa : List Value -> Value
 | [v] => v
 | vs => .tuple vs.toArray
theorem mK {n : Nat} {L : Env} (j : zN n a L) : ∀ (rs : List ResultVar) (vs : List Value),gD L rs = some vs ->
  (rs.mapM fun (x : ResultVar) => match x with
   | .tmp t => (pure (a.tmps.getD t undef) : Sem Value)
   | .cell x t => do loadVar t (<- asAddr (a.tmps.getD x undef))).run P w = .ok vs w
 | [],vs,h => by simp [gD] at h; subst h; simp
 | .tmp t :: r,vs,h => by
  simp only [gD] at h;split at h
  ·rename_i v us hv e;cases h;have ih := mK j r us e;have := j.has _ _ hv;simp only [Array.getD_eq_getD_getElem?] at ih ⊢;simp only [List.mapM_cons,Sem.run_bind,Sem.run_pure,Result.andThen_ok,this,Option.getD_some];rw [ih]
   rfl
  ·cases h
 | .cell _ _ :: _,vs,h => by simp [gD] at h
theorem Runs.ret {n : Nat} {L : Env} {fn : Func} {rs : List ResultVar} {vs : List Value} (e : zN n a L) (hf : P.funcs[f]? = some fn) (hr : fn.results = rs.toArray) (hv : gD L rs = some vs) (h : R (sa vs) w) :
  Runs P f (.code .ret :: k) a w R := by
 intro b j hk cs;refine ⟨sa vs,w,_,h,.one step_ret,by simp [Frame.at,j],rfl,e.defers,hk,fn,by simpa [Frame.at,j] using hf,?_⟩;have := mK (P := P) (w := w) e rs vs hv;unfold results;simp only [Frame.at,hr,List.mapM_toArray,Sem.run_bind,Sem.run_map]
 erw [this]
 simp only [Result.andThen_ok]
 match vs with
 | [] => simp [sa]
 | [v] => simp [sa]
 | v :: u :: r => simp [sa]
theorem Runs.fin {n : Nat} {L : Env} {fn : Func} {rs : List ResultVar} {vs : List Value} (e : zN n a L) (hf : P.funcs[f]? = some fn) (hr : fn.results = rs.toArray) (hv : gD L rs = some vs) (h : R (sa vs) w) :
  Runs P f [] a w R := by
 intro b j hk cs;refine ⟨sa vs,w,_,h,.one step_end,by simp [Frame.at,j],rfl,e.defers,hk,fn,by simpa [Frame.at,j] using hf,?_⟩;have := mK (P := P) (w := w) e rs vs hv;unfold results;simp only [Frame.at,hr,List.mapM_toArray,Sem.run_bind,Sem.run_map]
 erw [this]
 simp only [Result.andThen_ok]
 match vs with
 | [] => simp [sa]
 | [v] => simp [sa]
 | v :: u :: r => simp [sa]
def pQ (P : Program) (L : Env) : List ResultVar -> List Value -> Option (List Value × List Ob)
 | [],_ => some ([],[])
 | .tmp t :: r,e => match look t L,pQ P L r e with
  | some v,some (vs,obs) => some (v :: vs,obs)
  | _,_ => none
 | .cell x t :: r,e => match look x L with
  | some (.pointer (some y)) => match runA P (loadVar t y) e with
   | some (v,obs,u) => match pQ P L r u with
    | some (vs,j) => some (v :: vs,obs ++ j)
    | none => none
   | none => none
  | _ => none
theorem ny {n : Nat} {L : Env} (A : zN n a L) : ∀ (rs : List ResultVar) (e : List Value) (vs : List Value) (obs : List Ob),pQ P L rs e = some (vs,obs) -> wc w obs ->
  (rs.mapM fun (x : ResultVar) => match x with
   | .tmp t => (pure (a.tmps.getD t undef) : Sem Value)
   | .cell x t => do loadVar t (<- asAddr (a.tmps.getD x undef))).run P w = .ok vs w
 | [],e,vs,obs,h,_ => by simp [pQ] at h; obtain ⟨rfl,_⟩ := h; simp
 | .tmp t :: r,e,vs,obs,h,u => by
  simp only [pQ] at h;split at h
  ·rename_i v us obs hv j;cases h;have ih := ny A r e us obs j u;have := A.has _ _ hv;simp only [Array.getD_eq_getD_getElem?] at ih ⊢;simp only [List.mapM_cons,Sem.run_bind,Sem.run_pure,Result.andThen_ok,this,Option.getD_some];rw [ih]
   rfl
  ·cases h
 | .cell x t :: r,e,vs,obs,h,u => by
  simp only [pQ] at h;split at h
  ·rename_i B hv;split at h
   ·rename_i v D z hr;split at h
    ·rename_i us y j;cases h;rw [wL] at u;have ih := ny A r z us y j u.2;have h1 := nQ P w _ _ _ _ _ hr u.1;have := A.has _ _ hv;have h3 : (asAddr (.pointer (some B))).run P w = .ok B w := rfl;simp only [Array.getD_eq_getD_getElem?] at ih ⊢;simp only [List.mapM_cons,Sem.run_bind,Sem.run_pure,Result.andThen_ok,this,Option.getD_some,h3,h1];rw [ih]
     rfl
    ·cases h
   ·cases h
  ·cases h
theorem Runs.retO {n : Nat} {L : Env} {fn : Func} {rs : List ResultVar} {vs : List Value} {obs : List Ob} (j : zN n a L) (hf : P.funcs[f]? = some fn) (hr : fn.results = rs.toArray) (e : List Value) (hv : pQ P L rs e = some (vs,obs)) (x : wc w obs) (h : R (sa vs) w) :
  Runs P f (.code .ret :: k) a w R := by
 intro b t hk cs;refine ⟨sa vs,w,_,h,.one step_ret,by simp [Frame.at,t],rfl,j.defers,hk,fn,by simpa [Frame.at,t] using hf,?_⟩;have := ny (P := P) (w := w) j rs e vs obs hv x;unfold results;simp only [Frame.at,hr,List.mapM_toArray,Sem.run_bind,Sem.run_map]
 erw [this]
 simp only [Result.andThen_ok]
 match vs with
 | [] => simp [sa]
 | [v] => simp [sa]
 | v :: u :: r => simp [sa]
def RQ (P : Program) (f : FuncId) (k : List Item) (R : Value -> World -> Prop) : Exit -> Act -> World -> Prop
 | .normal,a,w => Runs P f k a w R
 | _,_,_ => False
def WR (P : Program) (f : FuncId) (ops : Array Oper) (i : Nat) (k : List Item) (a : Act) (w : World) (R : Value -> World -> Prop) : Prop :=
 wpOps P ops (RQ P f k R) (List.range' i (ops.size - i)) a w
theorem Runs.iD {ops : Array Oper} {is : List Nat} (h : wpOps P ops (RQ P f k R) is a w) : Runs P f (.inRegion ops is :: k) a w R := by
 intro b u hk cs;obtain ⟨e,a',w',hq,j⟩ := wp_ops is a w h b k cs;cases e with
 | normal =>
  obtain ⟨v,w2,fr,t,h1,h2⟩ := hq b u hk cs;exact ⟨v,w2,fr,t,j.trans h1,h2⟩
 | _ => exact hq.elim
theorem Runs.region {id : Nat} {ops : Array Oper} (h : WR P f ops 0 k a w R) : Runs P f (.code (.region id ops false) :: k) a w R := by
 refine .step (fun _ _ => step_region) (Runs.iD ?_);unfold WR at h;rw [List.range_eq_range'];simpa using h
theorem WR.done {ops : Array Oper} {i : Nat} (hi : Nat.ble ops.size i = true) (h : Runs P f k a w R) : WR P f ops i k a w R := by
 have : ops.size - i = 0 := by have := Nat.le_of_ble_eq_true hi; omega
 simp [WR,this,wpOps,RQ]; exact h
theorem WR.seg {ops : Array Oper} {i n : Nat} {L : Env} (B : zN n a L) (j : Nat) (u : List Value) (ks : List Nat) {Lo : Env} {obs : List Ob}
  (hj : (Nat.ble i j && Nat.ble j ops.size) = true) (he : ly P n ops (List.range' i (j - i)) L u ks = some (Lo,obs)) (D : wc w obs)
  (hk : ∀ a',zN n a' Lo -> WR P f ops j k a' w R) : WR P f ops i k a w R := by
 simp only [Bool.and_eq_true] at hj;have h1 := Nat.le_of_ble_eq_true hj.1;have h2 := Nat.le_of_ble_eq_true hj.2;unfold WR;have hr : List.range' i (ops.size - i) = List.range' i (j - i) ++ List.range' j (ops.size - j) := by
  have z : ops.size - i = (j - i) + (ops.size - j) := by omega
  have A : i + (j - i) = j := by omega
  rw [z,<- List.range'_append_1,A]
 rw [hr];unfold ly at he;split at he
 ·cases he
 ·rename_i L1 x hs;split at he
  ·rename_i y e;cases he;exact mO _ _ _ _ _ _ B hs D fun a' t => hk a' (qd t e)
  ·cases he
def OpTo (P : Program) (o : Oper) (a : Act) (w : World) (e : Value -> World -> Prop) : Prop :=
 match (execOp a.eval o).run P w with
 | .ok (.value v) w' => e v w'
 | .ok .skip w' => e undef w'
 | .ok (.enter g args) w' => yL P g args w' e
 | _ => False
theorem OpTo.mono {o : Oper} {j e : Value -> World -> Prop} (h : OpTo P o a w j) (hr : ∀ v w',j v w' -> e v w') : OpTo P o a w e := by
 unfold OpTo at *
 generalize (execOp a.eval o).run P w = r at *
 cases r with
 | ok n w' => cases n <;> first | exact hr _ _ h | exact yL.mono h hr | exact h.elim
 | halt x w' => exact h.elim
theorem OpTo.wp {o : Oper} {ar : Act} {j : Value -> World -> Prop} {K : Act -> World -> Prop} {Q : Exit -> Act -> World -> Prop} (he : execOp a.eval o = execOp ar.eval o) (h : OpTo P o a w j)
  (t : ∀ v w',j v w' -> K (ar.put o.dst v) w') : o.wp P ar w K Q := by
 unfold OpTo at h;unfold Oper.wp;rw [he] at h;generalize (execOp ar.eval o).run P w = r at *
 cases r with
 | ok n w' =>
  cases n <;> simp only [Oper.upon] at h ⊢ <;> first | exact t _ _ h | exact h.elim | skip
  exact Calls.mono h fun e u ⟨v,he,hv⟩ => by subst he; exact t _ _ hv
 | halt x w' => exact h.elim
theorem WR.eff {ops : Array Oper} {i n d : Nat} {L : Env} {o : Oper} {e : Value -> World -> Prop} (j : zN n a L) (hi : ops[i]? = some o) (hd : o.dst = some d) (hn : Nat.blt d n = true) (hw : uX ops L o = some true)
  (h : OpTo P o a w e) (hk : ∀ v w',e v w' -> ∀ a',zN n a' ((d,v) :: L) -> WR P f ops (i + 1) k a' w' R) : WR P f ops i k a w R := by
 unfold WR at *
 have t : i < ops.size := (Array.getElem?_eq_some_iff.1 hi).1;have : ops.size - i = (ops.size - (i + 1)) + 1 := by omega
 rw [this,List.range'_succ,wpOps_cons];unfold wpOp;simp only [hi,wo j hw,if_true];exact .inl (h.wp rfl fun v w' hv => hk v w' hv _ (by rw [hd]; exact j.put _ _ (by simpa [Nat.blt_eq] using hn)))
theorem WR.eff0 {ops : Array Oper} {i n : Nat} {L : Env} {o : Oper} {e : Value -> World -> Prop} (j : zN n a L) (hi : ops[i]? = some o) (hd : o.dst = none) (hw : uX ops L o = some true)
  (h : OpTo P o a w e) (hk : ∀ v w',e v w' -> ∀ a',zN n a' L -> WR P f ops (i + 1) k a' w' R) : WR P f ops i k a w R := by
 unfold WR at *
 have t : i < ops.size := (Array.getElem?_eq_some_iff.1 hi).1;have : ops.size - i = (ops.size - (i + 1)) + 1 := by omega
 rw [this,List.range'_succ,wpOps_cons];unfold wpOp;simp only [hi,wo j hw,if_true];exact .inl (h.wp rfl fun v w' hv => hk v w' hv _ (by rw [hd]; exact j))
end
def listed (m : Nat) (dn : List Nat) : Array Bool := dn.foldl (fun b i => b.setIfInBounds i true) (Array.replicate m false)
theorem mV (m : Nat) (dn : List Nat) (i : Nat) : listed m (dn ++ [i]) = (listed m dn).setIfInBounds i true := by simp [listed]
section
variable {P : Program} {f : FuncId} {k : List Item} {a : Act} {w : World} {R : Value -> World -> Prop} {ops : Array Oper}
theorem Runs.of_wp {c : Code} (h : c.wp P (RQ P f k R) a w) : Runs P f (.code c :: k) a w R := by
 intro b u hk cs;obtain ⟨e,a',w',hq,j⟩ := h b k cs;cases e with
 | normal =>
  obtain ⟨v,w2,fr,t,h1,h2⟩ := hq b u hk cs;exact ⟨v,w2,fr,t,j.trans h1,h2⟩
 | _ => exact hq.elim
end
theorem OpTo.of_run {P : Program} {o : Oper} {a : Act} {w w' : World} {v : Value} {e : Value -> World -> Prop} (h : (execOp a.eval o).run P w = .ok (.value v) w') (hv : e v w') : OpTo P o a w e := by
 unfold OpTo; rw [h]; exact hv
theorem OpTo.gQ {P : Program} {o : Oper} {a : Act} {w w' : World} {e : Value -> World -> Prop} (h : (execOp a.eval o).run P w = .ok .skip w') (hv : e undef w') : OpTo P o a w e := by
 unfold OpTo; rw [h]; exact hv
theorem OpTo.ab {P : Program} {o : Oper} {a : Act} {w w' : World} {g : FuncId} {args : Array Value} {e : Value -> World -> Prop} (h : (execOp a.eval o).run P w = .ok (.enter g args) w') (hv : yL P g args w' e) : OpTo P o a w e := by
 unfold OpTo; rw [h]; exact hv
def oG (L : Env) : List Operand -> Option (List Value)
 | [] => some []
 | x :: r => match evO L x,oG L r with
  | some v,some vs => some (v :: vs)
  | _,_ => none
theorem mM {n : Nat} {a : Act} {L : Env} (j : zN n a L) : ∀ (l : List Operand) (vs : List Value),oG L l = some vs -> l.map a.eval = vs
 | [],vs,h => by simp [oG] at h; simp [h]
 | x :: r,vs,h => by
  simp only [oG] at h;split at h
  ·rename_i v us hv e;cases h;simp [j.eval hv,mM j r us e]
  ·cases h
def callParts : Op -> Option (Operand × List Operand)
 | .call { callee := .value g,args,.. } => some (g,args.toList)
 | _ => none
theorem OpTo.call {P : Program} {n : Nat} {a : Act} {L : Env} {w : World} {o : Oper} {x : Operand} {xs : List Operand} {g : FuncId} {first captured : Array Value} {vs : List Value} {u : Value -> World -> Prop} (y : zN n a L)
  (j : callParts o.op = some (x,xs)) (B : evO L x = some (.func (.func g) first captured)) (t : oG L xs = some vs)
  (A : ∀ args w,(callFunc g args).run P w = .ok (.enter g args) w) (h : yL P g (first ++ vs.toArray ++ captured) w u) : OpTo P o a w u := by
 obtain ⟨dst,op,type,pos,after,guard⟩ := o;cases op <;> simp only [callParts] at j <;> try cases j
 rename_i c;obtain ⟨callee,args,ats⟩ := c;cases callee <;> simp only at j <;> try cases j
 refine OpTo.ab ?_ h;have e := mM y _ _ t;have z : args.map a.eval = vs.toArray := by
  apply Array.ext';simpa using e
 simp [execOp,resolve,Deferred.ofValue,y.eval B,invoke,A,z]
theorem OpTo.fn {P : Program} {n : Nat} {a : Act} {L : Env} {w : World} {o : Oper} {xs : List Operand} {g : FuncId} {vs : List Value} {j : Value -> World -> Prop} (t : zN n a L)
  (x : callParts o.op = some (.func g,xs)) (e : oG L xs = some vs)
  (u : ∀ args w,(callFunc g args).run P w = .ok (.enter g args) w) (h : yL P g vs.toArray w j) : OpTo P o a w j :=
 OpTo.call t x (first := #[]) (captured := #[]) rfl e u (by simpa using h)
end Go.Th
end
namespace Go.Th
noncomputable section
abbrev Hp := Nat -> Option Obj
abbrev HP := Hp -> Prop
def Sub (h g : Hp) : Prop := ∀ b o,h b = some o -> g b = some o
def Disj (h g : Hp) : Prop := ∀ b,h b = none \/ g b = none
theorem Sub.refl (h : Hp) : Sub h h := fun _ _ h => h
theorem Sub.trans {a b c : Hp} (h : Sub a b) (g : Sub b c) : Sub a c := fun x o e => g x o (h x o e)
def sepL : List HP -> HP
 | [],_ => True
 | A :: L,h => ∃ h1 h2,Disj h1 h2 /\ Sub h1 h /\ Sub h2 h /\ A h1 /\ sepL L h2
theorem lE : ∀ {L : List HP} {h g : Hp},Sub h g -> sepL L h -> sepL L g
 | [],_,_,_,_ => trivial
 | A :: L,h,g,hs,⟨h1,h2,hd,s1,s2,hA,e⟩ => ⟨h1,h2,hd,s1.trans hs,s2.trans hs,hA,e⟩
def union (h g : Hp) : Hp := fun b => match h b with
 | some o => some o
 | none => g b
theorem rO (h g : Hp) : Sub h (union h g) := fun b o e => by simp [union,e]
theorem rh {h g : Hp} (hd : Disj h g) : Sub g (union h g) := fun b o e => by
 rcases hd b with h1 | h1
 ·simp [union,h1,e]
 ·simp [h1] at e
theorem lN {h g k : Hp} (h1 : Sub h k) (h2 : Sub g k) : Sub (union h g) k := fun b o e => by
 unfold union at e;split at e
 ·rename_i x j; cases e; exact h1 _ _ j
 ·exact h2 _ _ e
theorem pg {a b a' e : Hp} (h : Disj a b) (h1 : Sub a' a) (h2 : Sub e b) : Disj a' e := fun x => by
 rcases h x with h | h
 ·left
  cases j : a' x with
  | none => rfl
  | some o => rw [h1 x o j] at h; cases h
 ·right
  cases j : e x with
  | none => rfl
  | some o => rw [h2 x o j] at h; cases h
theorem qv : ∀ {L M : List HP} {h : Hp},sepL (L ++ M) h ↔ ∃ h1 h2,Disj h1 h2 /\ Sub h1 h /\ Sub h2 h /\ sepL L h1 /\ sepL M h2
 | [],M,h => by
  constructor
  ·intro t; exact ⟨fun _ => none,h,fun _ => .inl rfl,fun _ _ F => by simp at F,Sub.refl _,trivial,t⟩
  ·rintro ⟨h1,h2,hd,s1,s2,_,t⟩; exact lE s2 t
 | A :: L,M,h => by
  constructor
  ·rintro ⟨h1,h2,hd,s1,s2,hA,x⟩;obtain ⟨g1,g2,gd,t1,t2,u,t⟩ := qv.1 x;refine ⟨union h1 g1,g2,?_,lN s1 (t1.trans s2),t2.trans s2,⟨h1,g1,pg hd (Sub.refl _) t1,rO _ _,rh (pg hd (Sub.refl _) t1),hA,u⟩,t⟩;intro b;rcases hd b with e | e
   ·rcases gd b with j | j
    ·left; simp [union,e,j]
    ·right; exact j
   ·right
    cases y : g2 b with
    | none => rfl
    | some o => rw [t2 b o y] at e; cases e
  ·rintro ⟨h1,h2,hd,s1,s2,⟨B,k2,kd,D,z,hA,u⟩,t⟩;refine ⟨B,union k2 h2,?_,D.trans s1,lN (z.trans s1) s2,hA,qv.2 ⟨k2,h2,pg hd z (Sub.refl _),rO _ _,rh (pg hd z (Sub.refl _)),u,t⟩⟩;intro b;rcases kd b with e | e
   ·left; exact e
   ·rcases hd b with j | j
    ·left
     cases y : B b with
     | none => rfl
     | some o => rw [D b o y] at j; cases j
    ·right; simp [union,e,j]
theorem cY {A B : HP} {L : List HP} {h : Hp} (H : sepL (A :: B :: L) h) : sepL (B :: A :: L) h := by
 obtain ⟨h1,h2,hd,s1,s2,hA,g1,g2,gd,t1,t2,t,u⟩ := H;refine ⟨g1,union h1 g2,?_,t1.trans s2,lN s1 (t2.trans s2),t,h1,g2,pg hd (Sub.refl _) t2,rO _ _,rh (pg hd (Sub.refl _) t2),hA,u⟩;intro b;rcases gd b with e | e
 ·left; exact e
 ·rcases hd b with j | j
  ·right; simp [union,e,j]
  ·left
   cases x : g1 b with
   | none => rfl
   | some o => rw [t1 b o x] at j; cases j
theorem cX {L M : List HP} (hp : L.Perm M) : ∀ {h : Hp},sepL L h -> sepL M h := by
 induction hp with
 | nil => exact fun h => h
 | cons x _ ih => rintro h ⟨h1,h2,hd,s1,s2,hA,t⟩; exact ⟨h1,h2,hd,s1,s2,hA,ih t⟩
 | swap x y l => exact fun h => cY h
 | trans _ _ e j => exact fun h => j (e h)
def hpOf (w : World) : Hp := fun b => w.heap[b]?
structure St (w0 : World) (As : List HP) (w : World) : Prop where
 os : w.os = w0.os
 tape : w.tape = w0.tape
 output : w.output = w0.output
 heap : sepL As (hpOf w)
theorem St.perm {w0 w : World} {As Bs : List HP} (H : St w0 As w) (hp : As.Perm Bs) : St w0 Bs w := ⟨H.os,H.tape,H.output,cX hp H.heap⟩
def eV {α : Type} : List Nat -> List α -> List α
 | [],_ => []
 | i :: is,L => match L[i]? with
  | some x => x :: eV is L
  | none => eV is L
def memB (i : Nat) : List Nat -> Bool
 | [] => false
 | j :: r => match Nat.beq i j with
  | true => true
  | false => memB i r
def eT : List Nat -> Nat -> Bool
 | is,0 => match is with
  | [] => true
  | _ :: _ => false
 | is,n + 1 => memB n is && eT (is.erase n) n
theorem fS : ∀ {l : List Nat} {i : Nat},memB i l = true -> i ∈ l
 | [],i,h => by simp [memB] at h
 | j :: r,i,h => by
  simp only [memB] at h;split at h
  ·rename_i e; simp [Nat.eq_of_beq_eq_true e]
  ·exact mC _ (fS h)
theorem nK : ∀ {n : Nat} {is : List Nat},eT is n = true -> is.Perm (List.range n)
 | 0,is,h => by
  cases is with
  | nil => simp
  | cons _ _ => simp [eT] at h
 | n + 1,is,h => by
  simp only [eT,Bool.and_eq_true] at h;rw [List.range_succ];have h1 := List.perm_cons_erase (fS h.1);exact h1.trans (((nK h.2).cons n).trans (List.perm_append_singleton n (List.range n)).symm)
theorem jM {α : Type} (L : List α) : ∀ is : List Nat,eV is L = is.filterMap (L[·]?)
 | [] => rfl
 | i :: is => by
  simp only [eV,List.filterMap_cons,jM L is];cases L[i]? <;> rfl
theorem sT {α : Type} : ∀ (L : List α),(List.range L.length).filterMap (L[·]?) = L
 | [] => rfl
 | x :: L => by
  rw [lC,List.range_succ_eq_map,List.filterMap_cons];simp only [List.getElem?_cons_zero,List.filterMap_map];congr 1;have : ((fun i => (x :: L)[i]?) ∘ Nat.succ) = fun i => L[i]? := by funext i; simp
  rw [this];exact sT L
theorem St.idx {w0 w : World} {As : List HP} (H : St w0 As w) (is : List Nat) (h : eT is As.length = true) : St w0 (eV is As) w := by
 refine H.perm ?_;rw [jM];have := (nK h).filterMap (As[·]?);rw [sT] at this;exact this.symm
theorem St.ix {w0 w : World} {As : List HP} (H : St w0 As w) (is : List Nat) (h : eT is (As.take is.length).length = true) : St w0 (eV is (As.take is.length) ++ As.drop is.length) w := by
 refine H.perm ?_;have h0 : As = As.take is.length ++ As.drop is.length := (List.take_append_drop _ _).symm
 conv => lhs; rw [h0]
 refine List.Perm.append_right _ ?_;rw [jM];have := (nK h).filterMap ((As.take is.length)[·]?);rw [sT] at this;exact this.symm
theorem St.drop {w0 w : World} {A : HP} {As : List HP} (H : St w0 (A :: As) w) : St w0 As w := by
 obtain ⟨h1,h2,_,_,s2,_,e⟩ := H.heap;exact ⟨H.os,H.tape,H.output,lE s2 e⟩
theorem St.flat {w0 w : World} {Bs As : List HP} (H : St w0 (sepL Bs :: As) w) : St w0 (Bs ++ As) w :=
 ⟨H.os,H.tape,H.output,qv.2 H.heap⟩
theorem St.group {w0 w : World} (Bs : List HP) {As : List HP} (H : St w0 (Bs ++ As) w) : St w0 (sepL Bs :: As) w :=
 ⟨H.os,H.tape,H.output,qv.1 H.heap⟩
theorem St.head {w0 w : World} {A B : HP} {As : List HP} (H : St w0 (A :: As) w) (h : ∀ h,A h -> B h) : St w0 (B :: As) w := by
 obtain ⟨h1,h2,hd,s1,s2,hA,e⟩ := H.heap;exact ⟨H.os,H.tape,H.output,h1,h2,hd,s1,s2,h _ hA,e⟩
theorem St.ex {w0 w : World} {α : Sort _} {A : α -> HP} {As : List HP} (H : St w0 ((fun h => ∃ x,A x h) :: As) w) : ∃ x,St w0 (A x :: As) w := by
 obtain ⟨h1,h2,hd,s1,s2,⟨x,hA⟩,e⟩ := H.heap;exact ⟨x,H.os,H.tape,H.output,h1,h2,hd,s1,s2,hA,e⟩
theorem St.fact {w0 w : World} {A : HP} {q : Prop} {As : List HP} (H : St w0 (A :: As) w) (h : ∀ h,A h -> q) : q := by
 obtain ⟨h1,h2,hd,s1,s2,hA,e⟩ := H.heap;exact h _ hA
theorem St.drew {w0 w : World} {As : List HP} (H : St w0 As w) : St w0 As { w with drawn := w.drawn + 1 } := ⟨H.os,H.tape,H.output,H.heap⟩
theorem St.drawn {w0 w : World} {As : List HP} (H : St w0 As w) (n : Nat) : St w0 As { w with drawn := n } := ⟨H.os,H.tape,H.output,H.heap⟩
theorem St.t1 {w0 w : World} {e A1 : HP} {As : List HP} (H : St w0 (e :: A1 :: As) w) : St w0 (A1 :: e :: As) w := H.ix [1,0] rfl
theorem St.t2 {w0 w : World} {e A1 j : HP} {As : List HP} (H : St w0 (e :: A1 :: j :: As) w) : St w0 (j :: e :: A1 :: As) w := H.ix [2,0,1] rfl
theorem St.t3 {w0 w : World} {e A1 j t : HP} {As : List HP} (H : St w0 (e :: A1 :: j :: t :: As) w) : St w0 (t :: e :: A1 :: j :: As) w := H.ix [3,0,1,2] rfl
theorem St.t4 {w0 w : World} {e A1 j t u : HP} {As : List HP} (H : St w0 (e :: A1 :: j :: t :: u :: As) w) : St w0 (u :: e :: A1 :: j :: t :: As) w := H.perm (List.perm_middle (l₁ := [e,A1,j,t]) (a := u) (l₂ := As))
theorem St.t5 {w0 w : World} {e A1 j t u x : HP} {As : List HP} (H : St w0 (e :: A1 :: j :: t :: u :: x :: As) w) : St w0 (x :: e :: A1 :: j :: t :: u :: As) w := H.perm (List.perm_middle (l₁ := [e,A1,j,t,u]) (a := x) (l₂ := As))
theorem St.t6 {w0 w : World} {e A1 j t u x y : HP} {As : List HP} (H : St w0 (e :: A1 :: j :: t :: u :: x :: y :: As) w) : St w0 (y :: e :: A1 :: j :: t :: u :: x :: As) w := H.perm (List.perm_middle (l₁ := [e,A1,j,t,u,x]) (a := y) (l₂ := As))
theorem St.t7 {w0 w : World} {e A1 j t u x y z : HP} {As : List HP} (H : St w0 (e :: A1 :: j :: t :: u :: x :: y :: z :: As) w) : St w0 (z :: e :: A1 :: j :: t :: u :: x :: y :: As) w := H.perm (List.perm_middle (l₁ := [e,A1,j,t,u,x,y]) (a := z) (l₂ := As))
theorem St.t8 {w0 w : World} {e A1 j t u x y z A : HP} {As : List HP} (H : St w0 (e :: A1 :: j :: t :: u :: x :: y :: z :: A :: As) w) : St w0 (A :: e :: A1 :: j :: t :: u :: x :: y :: z :: As) w := H.perm (List.perm_middle (l₁ := [e,A1,j,t,u,x,y,z]) (a := A) (l₂ := As))
theorem St.t9 {w0 w : World} {e A1 j t u x y z A B : HP} {As : List HP} (H : St w0 (e :: A1 :: j :: t :: u :: x :: y :: z :: A :: B :: As) w) : St w0 (B :: e :: A1 :: j :: t :: u :: x :: y :: z :: A :: As) w := H.perm (List.perm_middle (l₁ := [e,A1,j,t,u,x,y,z,A]) (a := B) (l₂ := As))
theorem St.t10 {w0 w : World} {j A1 t u x y z A B D e : HP} {As : List HP} (H : St w0 (j :: A1 :: t :: u :: x :: y :: z :: A :: B :: D :: e :: As) w) : St w0 (e :: j :: A1 :: t :: u :: x :: y :: z :: A :: B :: D :: As) w := H.perm (List.perm_middle (l₁ := [j,A1,t,u,x,y,z,A,B,D]) (a := e) (l₂ := As))
theorem St.t11 {w0 w : World} {t A1 u x y z A B D F e j : HP} {As : List HP} (H : St w0 (t :: A1 :: u :: x :: y :: z :: A :: B :: D :: F :: e :: j :: As) w) : St w0 (j :: t :: A1 :: u :: x :: y :: z :: A :: B :: D :: F :: e :: As) w := H.perm (List.perm_middle (l₁ := [t,A1,u,x,y,z,A,B,D,F,e]) (a := j) (l₂ := As))
theorem St.t12 {w0 w : World} {u A1 x y z A B D F I e j t : HP} {As : List HP} (H : St w0 (u :: A1 :: x :: y :: z :: A :: B :: D :: F :: I :: e :: j :: t :: As) w) : St w0 (t :: u :: A1 :: x :: y :: z :: A :: B :: D :: F :: I :: e :: j :: As) w := H.perm (List.perm_middle (l₁ := [u,A1,x,y,z,A,B,D,F,I,e,j]) (a := t) (l₂ := As))
theorem St.t13 {w0 w : World} {x A1 y z A B D F I J e j t u : HP} {As : List HP} (H : St w0 (x :: A1 :: y :: z :: A :: B :: D :: F :: I :: J :: e :: j :: t :: u :: As) w) : St w0 (u :: x :: A1 :: y :: z :: A :: B :: D :: F :: I :: J :: e :: j :: t :: As) w := H.perm (List.perm_middle (l₁ := [x,A1,y,z,A,B,D,F,I,J,e,j,t]) (a := u) (l₂ := As))
theorem St.t14 {w0 w : World} {y A1 z A B D F I J O e j t u x : HP} {As : List HP} (H : St w0 (y :: A1 :: z :: A :: B :: D :: F :: I :: J :: O :: e :: j :: t :: u :: x :: As) w) : St w0 (x :: y :: A1 :: z :: A :: B :: D :: F :: I :: J :: O :: e :: j :: t :: u :: As) w := H.perm (List.perm_middle (l₁ := [y,A1,z,A,B,D,F,I,J,O,e,j,t,u]) (a := x) (l₂ := As))
theorem St.x0 {w0 w : World} {e : HP} {As : List HP} (H : St w0 (e :: As) w) : St w0 (As) w := H.drop
theorem St.x1 {w0 w : World} {e A1 : HP} {As : List HP} (H : St w0 (e :: A1 :: As) w) : St w0 (e :: As) w := H.t1.drop
theorem St.x2 {w0 w : World} {e A1 j : HP} {As : List HP} (H : St w0 (e :: A1 :: j :: As) w) : St w0 (e :: A1 :: As) w := H.t2.drop
theorem St.x3 {w0 w : World} {e A1 j t : HP} {As : List HP} (H : St w0 (e :: A1 :: j :: t :: As) w) : St w0 (e :: A1 :: j :: As) w := H.t3.drop
theorem St.x4 {w0 w : World} {e A1 j t u : HP} {As : List HP} (H : St w0 (e :: A1 :: j :: t :: u :: As) w) : St w0 (e :: A1 :: j :: t :: As) w := H.t4.drop
theorem St.x5 {w0 w : World} {e A1 j t u x : HP} {As : List HP} (H : St w0 (e :: A1 :: j :: t :: u :: x :: As) w) : St w0 (e :: A1 :: j :: t :: u :: As) w := H.t5.drop
theorem St.x6 {w0 w : World} {e A1 j t u x y : HP} {As : List HP} (H : St w0 (e :: A1 :: j :: t :: u :: x :: y :: As) w) : St w0 (e :: A1 :: j :: t :: u :: x :: As) w := H.t6.drop
theorem St.x7 {w0 w : World} {e A1 j t u x y z : HP} {As : List HP} (H : St w0 (e :: A1 :: j :: t :: u :: x :: y :: z :: As) w) : St w0 (e :: A1 :: j :: t :: u :: x :: y :: As) w := H.t7.drop
theorem St.x8 {w0 w : World} {e A1 j t u x y z A : HP} {As : List HP} (H : St w0 (e :: A1 :: j :: t :: u :: x :: y :: z :: A :: As) w) : St w0 (e :: A1 :: j :: t :: u :: x :: y :: z :: As) w := H.t8.drop
theorem St.x9 {w0 w : World} {e A1 j t u x y z A B : HP} {As : List HP} (H : St w0 (e :: A1 :: j :: t :: u :: x :: y :: z :: A :: B :: As) w) : St w0 (e :: A1 :: j :: t :: u :: x :: y :: z :: A :: As) w := H.t9.drop
theorem St.x10 {w0 w : World} {j A1 t u x y z A B D e : HP} {As : List HP} (H : St w0 (j :: A1 :: t :: u :: x :: y :: z :: A :: B :: D :: e :: As) w) : St w0 (j :: A1 :: t :: u :: x :: y :: z :: A :: B :: D :: As) w := H.t10.drop
theorem St.x11 {w0 w : World} {t A1 u x y z A B D F e j : HP} {As : List HP} (H : St w0 (t :: A1 :: u :: x :: y :: z :: A :: B :: D :: F :: e :: j :: As) w) : St w0 (t :: A1 :: u :: x :: y :: z :: A :: B :: D :: F :: e :: As) w := H.t11.drop
theorem St.x12 {w0 w : World} {u A1 x y z A B D F I e j t : HP} {As : List HP} (H : St w0 (u :: A1 :: x :: y :: z :: A :: B :: D :: F :: I :: e :: j :: t :: As) w) : St w0 (u :: A1 :: x :: y :: z :: A :: B :: D :: F :: I :: e :: j :: As) w := H.t12.drop
theorem St.x13 {w0 w : World} {x A1 y z A B D F I J e j t u : HP} {As : List HP} (H : St w0 (x :: A1 :: y :: z :: A :: B :: D :: F :: I :: J :: e :: j :: t :: u :: As) w) : St w0 (x :: A1 :: y :: z :: A :: B :: D :: F :: I :: J :: e :: j :: t :: As) w := H.t13.drop
theorem St.x14 {w0 w : World} {y A1 z A B D F I J O e j t u x : HP} {As : List HP} (H : St w0 (y :: A1 :: z :: A :: B :: D :: F :: I :: J :: O :: e :: j :: t :: u :: x :: As) w) : St w0 (y :: A1 :: z :: A :: B :: D :: F :: I :: J :: O :: e :: j :: t :: u :: As) w := H.t14.drop
def One (b : Nat) (o : Obj) : HP := fun h => h b = some o
abbrev Blk (b : Nat) (T : TypeId) (cs : List Value) : HP := One b (.cells cs.toArray T (0,0))
theorem eg {A : HP} : ∀ {As : List HP} {h : Hp} {i : Nat},sepL As h -> As[i]? = some A -> ∃ h1,Sub h1 h /\ A h1
 | [],h,i,_,hi => by simp at hi
 | B :: As,h,i,⟨h1,h2,hd,s1,s2,hA,e⟩,hi => by
  cases i with
  | zero => simp at hi; subst hi; exact ⟨h1,s1,hA⟩
  | succ i =>
   obtain ⟨g,t,j⟩ := eg e (by simpa using hi);exact ⟨g,t.trans s2,j⟩
theorem St.at {w0 w : World} {As : List HP} (H : St w0 As w) (i : Nat) {A : HP} (hi : As[i]? = some A) : ∃ h1,Sub h1 (hpOf w) /\ A h1 := eg H.heap hi
theorem St.one {w0 w : World} {As : List HP} (H : St w0 As w) (i : Nat) {b : Nat} {o : Obj} (hi : As[i]? = some (One b o)) : w.heap[b]? = some o := by
 obtain ⟨h1,s,h⟩ := H.at i hi;exact s _ _ h
theorem St.cell {w0 w : World} {As : List HP} (H : St w0 As w) (i : Nat) {b : Nat} {T : TypeId} {cs : List Value} (hi : As[i]? = some (Blk b T cs)) {off : Nat} {v : Value} (hv : cs[off]? = some v) :
  w.cell? ⟨b,off,none⟩ = some v := by
 simp [World.cell?,H.one i hi,hv]
theorem St.set {w0 w w' : World} {As : List HP} {b : Nat} {o o' : Obj} (H : St w0 (One b o :: As) w) (h1 : w'.os = w.os) (h2 : w'.tape = w.tape) (h3 : w'.output = w.output)
  (z : w'.heap[b]? = some o') (u : ∀ c,c ≠ b -> w'.heap[c]? = w.heap[c]?) : St w0 (One b o' :: As) w' := by
 obtain ⟨g1,g2,hd,s1,s2,hA,y⟩ := H.heap;refine ⟨h1.trans H.os,h2.trans H.tape,h3.trans H.output,fun c => if c = b then some o' else none,g2,?_,?_,?_,by simp [One],y⟩
 ·intro c;by_cases j : c = b
  ·subst j
   right
   rcases hd c with e | e
   ·simp only [One] at hA; rw [hA] at e; cases e
   ·exact e
  ·left; simp [j]
 ·intro c x t;by_cases j : c = b
  ·subst j; simp at t; subst t; exact z
  ·simp [j] at t
 ·intro c x t;have j : c ≠ b := by
   rintro rfl;rcases hd c with e | e
   ·simp only [One] at hA; rw [hA] at e; cases e
   ·rw [t] at e; cases e
  have := s2 c x t;simp only [hpOf] at this ⊢;rw [u c j]; exact this
theorem St.new {w0 w w' : World} {As : List HP} {o : Obj} (H : St w0 As w) (h1 : w'.os = w.os) (h2 : w'.tape = w.tape) (h3 : w'.output = w.output)
  (y : w'.heap[w.heap.size]? = some o) (u : ∀ c,c < w.heap.size -> w'.heap[c]? = w.heap[c]?) : St w0 (One w.heap.size o :: As) w' := by
 have t : ∀ c x,hpOf w c = some x -> c < w.heap.size := fun c x e => (Array.getElem?_eq_some_iff.1 e).1
 refine ⟨h1.trans H.os,h2.trans H.tape,h3.trans H.output,fun c => if c = w.heap.size then some o else none,fun c => if c < w.heap.size then hpOf w c else none,?_,?_,?_,by simp [One],lE ?_ H.heap⟩
 ·intro c;by_cases j : c = w.heap.size
  ·right; simp [j]
  ·left; simp [j]
 ·intro c x e;by_cases j : c = w.heap.size
  ·subst j; simp at e; subst e; exact y
  ·simp [j] at e
 ·intro c x e;simp only at e;split at e
  ·rename_i j; simp only [hpOf] at e ⊢; rw [u c j]; exact e
  ·cases e
 ·intro c x e;simp [t c x e];exact e
theorem St.alloc {w0 w : World} {As : List HP} (o : Obj) (H : St w0 As w) : St w0 (One w.heap.size o :: As) { w with heap := w.heap.push o } :=
 H.new rfl rfl rfl (by simp) (fun c e => by simp [Array.getElem?_push]; omega)
def Old (w0 : World) : HP := fun h => ∀ b,b < w0.heap.size -> h b = w0.heap[b]?
theorem St.begin (w0 : World) : St w0 [Old w0] w0 :=
 ⟨rfl,rfl,rfl,hpOf w0,fun _ => none,fun _ => .inr rfl,Sub.refl _,fun _ _ h => by simp at h,fun _ _ => rfl,trivial⟩
theorem St.old {w0 w : World} {As : List HP} (H : St w0 As w) (i : Nat) (hi : As[i]? = some (Old w0)) : ∀ b,b < w0.heap.size -> w.heap[b]? = w0.heap[b]? := by
 obtain ⟨h1,s,h⟩ := H.at i hi;intro b j;have := h b j;have e : w0.heap[b]? = some w0.heap[b] := by simp [j]
 rw [e] at this ⊢;exact s _ _ this
end
noncomputable section
def rD (P : Program) {α : Type} : Sem α -> List Value -> Nat -> Option (Obj × α × List Ob)
 | .new o k,e,r => match runA P (k r) [] with
  | some (v,[],_) => some (o,v,[])
  | _ => none
 | .load _ j k,e,r => match e with
  | [] => none
  | v :: e => match rD P (k v) e r with
   | some (o,x,obs) => some (o,x,.cell j v :: obs)
   | none => none
 | .program k,e,r => rD P (k P) e r
 | .mark _ k,e,r => rD P k e r
 | _,_,_ => none
theorem qT (P : Program) (w : World) {α : Type} : ∀ (s : Sem α) (e : List Value) (o : Obj) (x : α) (obs : List Ob),
  rD P s e w.heap.size = some (o,x,obs) -> wc w obs -> s.run P w = .ok x { w with heap := w.heap.push o } := by
 intro s;induction s with
 | new o k ih =>
  intro e o' x obs h j;simp only [rD] at h;split at h
  ·rename_i v rest hv;simp only [Option.some.injEq,Prod.mk.injEq] at h;obtain ⟨rfl,rfl,rfl⟩ := h;simp only [Sem.run];exact nQ P _ _ _ _ _ _ hv trivial
  ·cases h
 | load m z k ih =>
  intro e o x obs h j;cases e with
  | nil => simp [rD] at h
  | cons v e =>
   simp only [rD] at h;split at h
   ·rename_i o' y t u;simp only [Option.some.injEq,Prod.mk.injEq] at h;obtain ⟨rfl,rfl,rfl⟩ := h;simp only [wc,Ob.holds] at j;simp only [Sem.run,j.1];exact ih v e _ _ _ u j.2
   ·cases h
 | program k ih => intro e o x obs h j; simp only [rD] at h; simp only [Sem.run]; exact ih P e o x obs h j
 | mark m k ih => intro e o x obs h j; simp only [rD] at h; simp only [Sem.run]; exact ih e o x obs h j
 | _ => intro e o x obs h; simp [rD] at h
theorem OpTo.new {P : Program} {n : Nat} {a : Act} {L : Env} {w w0 : World} {As : List HP} {o : Oper} (u : zN n a L) (H : St w0 As w) (t : List Value) (j : Obj) (val : Nat -> Value) {obs : List Ob}
  (e : (!qh o.op && jE L o.op.operands.toList) = true) (he : ∀ r,rD P (execOp (rho L) o) t r = some (j,.value (val r),obs)) (x : wc w obs) :
  OpTo P o a w fun v w' => ∃ r,v = val r /\ St w0 (One r j :: As) w' := by
 simp only [Bool.and_eq_true,Bool.not_eq_true'] at e;refine OpTo.of_run (w' := { w with heap := w.heap.push j }) (v := val w.heap.size) ?_ ⟨w.heap.size,rfl,H.alloc j⟩;rw [jt u e.1 e.2];exact qT P w _ _ _ _ _ (he w.heap.size) x
def putAt : List Value -> Nat -> List Value -> List Value
 | cs,_,[] => cs
 | cs,off,v :: vs => putAt (cs.set off v) (off + 1) vs
theorem qS : ∀ (vs cs : List Value) (off : Nat),(putAt cs off vs).length = cs.length
 | [],cs,off => rfl
 | v :: vs,cs,off => by simp [putAt,qS vs]
theorem uM : ∀ (vs cs : List Value) (off : Nat),off + vs.length <= cs.length -> putAt cs off vs = cs.take off ++ vs ++ cs.drop (off + vs.length)
 | [],cs,off,_ => by simp [putAt]
 | v :: vs,cs,off,h => by
  simp only [lC] at h;rw [putAt,uM vs _ _ (by simp; omega)];have h1 : (cs.set off v).take (off + 1) = cs.take off ++ [v] := by
   apply List.ext_getElem?;intro i;simp only [List.getElem?_take,List.getElem?_set,List.getElem?_append,List.length_take];by_cases hi : i < off
   ·have h1 : i < off + 1 := by omega
    have h2 : i < min off cs.length := by omega
    have h3 : ¬ off = i := by omega
    simp [hi,h1,h2,h3]
   ·by_cases h2 : i = off
    ·subst h2;have h3 : ¬ i < min i cs.length := by omega
     have h4 : i - min i cs.length = 0 := by omega
     have e : i < cs.length := by omega
     simp [h3,h4,e]
    ·have h3 : ¬ i < off + 1 := by omega
     have h4 : ¬ i < min off cs.length := by omega
     have e : ([v] : List Value)[i - min off cs.length]? = none := by simp; omega
     simp [h3,h4,e]
  rw [h1,List.drop_set];have : ¬ off >= off + 1 + vs.length := by omega
  simp [aA,Nat.add_assoc,Nat.add_comm 1]
def oneB : Value -> Bool
 | .agg _ => false
 | .tuple _ => false
 | _ => true
theorem cI {v : Value} (h : oneB v = true) : v.oneCell' = true := by cases v <;> simp_all [oneB,Value.oneCell']
def oz : List Value -> Bool
 | [] => true
 | v :: r => oneB v && oz r
theorem my : ∀ {l : List Value},oz l = true -> ∀ v ∈ l,v.oneCell' = true
 | [],_,v,hv => by cases hv
 | u :: r,h,v,hv => by
  simp only [oz,Bool.and_eq_true] at h;cases hv with
  | head => exact cI h.1
  | tail _ hm => exact my h.2 v hm
def uw : Op -> Option (TypeId × Operand × Operand)
 | .store t x y => some (t,x,y)
 | _ => none
theorem nY {P : Program} {w : World} {b off : Nat} {T t : TypeId} {cs : List Value} {v : Value} {ti : TypeInfo} (u : w.heap[b]? = some (.cells cs.toArray T (0,0)))
  (hi : P.info? t = some ti) (hs : ti.size = v.cells.size) (h1 : oz v.cells.toList = true) (e : off + v.cells.size <= cs.length) :
  (Instr.storeAt t (.pointer (some ⟨b,off,none⟩)) v).run P w = .ok () (w.setRow b (putAt cs off v.cells.toList).toArray) := by
 have j := run_storeCells_at P b off T v.cells.toList 0 cs.toArray w u (by simpa using e) (my h1);rw [uM _ _ _ (by simpa using e)];simp only [Nat.add_zero] at j;simp [Instr.storeAt,Instr.sureAddr,storeVar,rE P hi,hs];simpa using j
theorem OpTo.store {P : Program} {n : Nat} {a : Act} {L : Env} {w w0 : World} {As : List HP} {o : Oper} {b off : Nat} {T t : TypeId} {cs : List Value} {x y : Operand} {v : Value} {ti : TypeInfo} (j : zN n a L) (H : St w0 (Blk b T cs :: As) w)
  (z : uw o.op = some (t,x,y)) (B : evO L x = some (.pointer (some ⟨b,off,none⟩))) (D : evO L y = some v) (hi : P.info? t = some ti) (hs : ti.size = v.cells.size) (h1 : oz v.cells.toList = true)
  (e : off + v.cells.size <= cs.length) : OpTo P o a w fun _ w' => St w0 (Blk b T (putAt cs off v.cells.toList) :: As) w' := by
 obtain ⟨dst,op,type,pos,after,guard⟩ := o;cases op <;> simp only [uw] at z <;> try cases z
 have u := H.one 0 rfl;refine OpTo.gQ (w' := w.setRow b (putAt cs off v.cells.toList).toArray) ?_ ?_
 ·simp [execOp,j.eval B,j.eval D,nY u hi hs h1 e]
 ·exact H.set (by simp) (by simp) (by simp) (setRow_heap w b _ _ T (0,0) u) (fun c A => setRow_other w b c _ A)
structure xV {α : Type} (enc : α -> List Value) (sz : Nat) : Prop where
 len : ∀ x,(enc x).length = sz
 one : ∀ x u,u ∈ enc x -> u.oneCell' = true
def Sl {α : Type} (T : TypeId) (enc : α -> List Value) (sz : Nat) (sb : Option Addr) (sc : Nat) (l : List α) : HP := fun h =>
 (sb = none /\ l = [] /\ sc = 0) \/ ∃ b off cs,sb = some ⟨b,off,none⟩ /\ h b = some (.cells cs T (0,0)) /\ l.length <= sc /\ sc <= maxLen /\ off + sc * sz <= cs.size /\
  ∀ i,i < l.length * sz -> cs[off + i]? = (l.flatMap enc)[i]?
theorem yA {α : Type} {enc : α -> List Value} {sz : Nat} (he : xV enc sz) : ∀ l : List α,(l.flatMap enc).length = l.length * sz
 | [] => by simp
 | x :: l => by simp only [List.flatMap_cons,lA,he.len,yA he l,lC,Nat.succ_mul]; omega
theorem tO {α : Type} {enc : α -> List Value} {sz : Nat} (he : xV enc sz) : ∀ (l : List α) (j q : Nat) (hj : j < l.length),q < sz -> (l.flatMap enc)[j * sz + q]? = (enc l[j])[q]?
 | [],j,q,hj,hq => by simp at hj
 | x :: l,0,q,hj,hq => by
  simp only [List.flatMap_cons,Nat.zero_mul,Nat.zero_add,List.getElem_cons_zero];rw [List.getElem?_append_left (by rw [he.len]; exact hq)]
 | x :: l,j + 1,q,hj,hq => by
  simp only [List.flatMap_cons,List.getElem_cons_succ];rw [List.getElem?_append_right (by rw [he.len,Nat.succ_mul]; omega),he.len];have e : (j + 1) * sz + q - sz = j * sz + q := by rw [Nat.succ_mul]; omega
  rw [e];exact tO he l j q (by simpa using hj) hq
theorem ph {α : Type} {enc : α -> List Value} {sz : Nat} (he : xV enc sz) (l : List α) : ∀ u ∈ l.flatMap enc,u.oneCell' = true := by
 intro u hu;obtain ⟨x,_,e⟩ := List.mem_flatMap.1 hu;exact he.one x u e
section
variable {α : Type} {T : TypeId} {enc : α -> List Value} {sz : Nat} {w0 w : World} {As : List HP}
theorem St.bb (T : TypeId) (enc : α -> List Value) (sz : Nat) (H : St w0 As w) : St w0 (Sl T enc sz none 0 [] :: As) w :=
 ⟨H.os,H.tape,H.output,fun _ => none,hpOf w,fun _ => .inl rfl,fun _ _ h => by simp at h,Sub.refl _,.inl ⟨rfl,rfl,rfl⟩,H.heap⟩
theorem St.nZ (H : St w0 As w) (i : Nat) {sb : Option Addr} {sc : Nat} {l : List α} (hi : As[i]? = some (Sl T enc sz sb sc l)) : l.length <= sc /\ sc <= maxLen := by
 obtain ⟨h1,hs,h⟩ := H.at i hi;rcases h with ⟨_,rfl,rfl⟩ | ⟨b,off,cs,rfl,j,h2,e,h3,h4⟩
 ·simp
 ·exact ⟨h2,e⟩
theorem St.Di {sb : Option Addr} {sc : Nat} {l : List α} (H : St w0 (Sl T enc sz sb sc l :: As) w) (he : xV enc sz) (lo hi : Nat) (h1 : lo <= hi) (h2 : hi <= l.length) :
  St w0 (Sl T enc sz (yF sb sc lo sz) (sc - lo) ((l.take hi).drop lo) :: As) w := by
 refine H.head fun h hh => ?_
 rcases hh with ⟨rfl,rfl,rfl⟩ | ⟨b,off,cs,rfl,y,h3,I,h4,D⟩
 ·simp at h2; subst h2;have : lo = 0 := by omega
  subst this
  left; simp [yF]
 ·right
  have hlen : ((l.take hi).drop lo).length = hi - lo := by simp [Nat.min_eq_left h2]
  have key : ∀ i,i < (hi - lo) * sz -> (((l.take hi).drop lo).flatMap enc)[i]? = (l.flatMap enc)[lo * sz + i]? := by
   intro i e;have u : 0 < sz := by
    rcases Nat.eq_zero_or_pos sz with h | h
    ·subst h; simp at e
    ·exact h
   have hj : i / sz < hi - lo := Nat.div_lt_of_lt_mul (by rw [Nat.mul_comm]; exact e);have hq : i % sz < sz := Nat.mod_lt _ u;have t : i = (i / sz) * sz + i % sz := by rw [Nat.mul_comm]; exact (Nat.div_add_mod i sz).symm
   have j := tO he ((l.take hi).drop lo) (i / sz) (i % sz) (by rw [hlen]; exact hj) hq;have x := tO he l (lo + i / sz) (i % sz) (by omega) hq;have A : ((l.take hi).drop lo)[i / sz]'(by rw [hlen]; exact hj) = l[lo + i / sz]'(by omega) := by simp
   rw [A] at j;rw [<- t] at j;have B : (lo + i / sz) * sz + i % sz = lo * sz + i := by rw [Nat.add_mul]; omega
   rw [B] at x;rw [j,x]
  by_cases z : sc = lo
  ·subst z;refine ⟨b,off,cs,by simp [yF],y,by rw [hlen]; omega,by omega,by simp; omega,fun i e => ?_⟩;rw [hlen] at e;have : hi - sc = 0 := by omega
   rw [this] at e; simp at e
  ·refine ⟨b,off + lo * sz,cs,by simp [yF,z,uo],y,by rw [hlen]; omega,by omega,?_,fun i e => ?_⟩
   ·have : (sc - lo) * sz = sc * sz - lo * sz := Nat.sub_mul _ _ _;have F : lo * sz <= sc * sz := Nat.mul_le_mul_right _ (by omega);omega
   ·rw [hlen] at e;rw [key i e,Nat.add_assoc];refine D _ ?_;have F : lo * sz + (hi - lo) * sz = hi * sz := by rw [<- Nat.add_mul]; congr 1; omega
    have J : hi * sz <= l.length * sz := Nat.mul_le_mul_right _ h2;omega
theorem St.slOf {b : Nat} {cs : Array Value} {l : List α} {sc : Nat} (H : St w0 (One b (.cells cs T (0,0)) :: As) w) (he : xV enc sz) (h1 : l.length <= sc) (h2 : sc <= maxLen) (h3 : sc * sz <= cs.size)
  (h4 : ∀ i,i < l.length * sz -> cs[i]? = (l.flatMap enc)[i]?) : St w0 (Sl T enc sz (some ⟨b,0,none⟩) sc l :: As) w :=
 H.head fun h hh => .inr ⟨b,0,cs,rfl,hh,h1,h2,by omega,fun i hi => by rw [Nat.zero_add]; exact h4 i hi⟩
end
theorem St.iO {α : Type} {T : TypeId} {enc : α -> List Value} {sz : Nat} {w0 w : World} {As : List HP} {sb : Option Addr} {sc : Nat} {l : List α} (H : St w0 (Sl T enc sz sb sc l :: As) w) :
  (sb = none /\ l = [] /\ sc = 0) \/ ∃ b off cs,sb = some ⟨b,off,none⟩ /\ St w0 (One b (.cells cs T (0,0)) :: As) w /\ l.length <= sc /\ sc <= maxLen /\ off + sc * sz <= cs.size /\
  ∀ i,i < l.length * sz -> cs[off + i]? = (l.flatMap enc)[i]? := by
 obtain ⟨h1,h2,hd,s1,s2,hA,t⟩ := H.heap;rcases hA with h | ⟨b,off,cs,e,j,rest⟩
 ·exact .inl h
 ·exact .inr ⟨b,off,cs,e,⟨H.os,H.tape,H.output,h1,h2,hd,s1,s2,j,t⟩,rest⟩
def Rd (w : World) (xb : Option Addr) (news : List Value) : Prop := news = [] \/ ∃ e,xb = some e /\ ∀ j u,news[j]? = some u -> w.cell? (e.add j) = some u
theorem pE {P : Program} {w : World} {xb : Option Addr} {news : List Value} {size m len cap : Nat} (h : Rd w xb news) (hl : news.length = m * size) :
  (Builtin.firstCells size m (.slice xb len cap)).run P w = .ok news.toArray w := by
 rcases h with rfl | ⟨e,rfl,h⟩
 ·cases xb with
  | none => exact run_firstCells_none (P := P) (w := w) size m len cap
  | some a => exact run_firstCells_some (P := P) w size m a len cap [] hl (by simp)
 ·exact run_firstCells_some (P := P) w size m e len cap news hl h
section
variable {α : Type} {T : TypeId} {enc : α -> List Value} {sz : Nat} {w0 w : World} {As : List HP} {P : Program}
theorem jN {t u ty : TypeId} {d : TypeId} {ti : TypeInfo} {sb xb : Option Addr} {sc xc m : Nat} {l ys : List α} (H : St w0 (Sl T enc sz sb sc l :: As) w) (he : xV enc sz)
  (ht : P.underlying t = some (.slice T)) (hu : P.underlying u = some (.slice d)) (hi : P.info? T = some ti) (B : ti.size = sz) {z : Value} (hz : ti.zero = some z) (a6 : z.cells.size = sz)
  (hm : m = ys.length) (hr : Rd w xb (ys.flatMap enc)) (D : l.length + ys.length <= maxLen) (a1 : (l.length + ys.length) * ti.bytes <= 140737488355328) :
  ∃ sb' sc' w',(Builtin.append_ #[t,u] ty #[.slice sb l.length sc,.slice xb m xc]).run P w = .ok (.slice sb' (l ++ ys).length sc') w' /\ St w0 (Sl T enc sz sb' sc' (l ++ ys) :: As) w' := by
 subst hm;have y : (ys.flatMap enc).length = ys.length * sz := yA he ys;have x : (l.flatMap enc).length = l.length * sz := yA he l;have J : (l ++ ys).flatMap enc = l.flatMap enc ++ ys.flatMap enc := by simp
 have a0 : ¬ (9223372036854775807 < ((l.length : Int) + (ys.length : Int))) := by simp only [maxLen] at D; omega
 by_cases e : l.length + ys.length <= sc
 ·rcases H.iO with ⟨rfl,rfl,rfl⟩ | ⟨b,off,cs,rfl,H1,h1,h2,h3,h4⟩
  ·have hy : ys = [] := List.eq_nil_of_length_eq_zero (by simpa using e);subst hy;refine ⟨none,0,w,?_,H⟩;have hf := pE (P := P) (size := ti.size) (m := 0) (len := 0) (cap := xc) hr (by simp);simp only [List.flatMap_nil] at hf;simp [Builtin.append_,xL P ht,xL P hu,sizeOf,typeInfo,hi,Builtin.lenOf,hf]
  ·have hb := H1.one 0 rfl;have A : off + l.length * sz + 0 + (ys.flatMap enc).length <= cs.size := by
    rw [y];have : (l.length + ys.length) * sz <= sc * sz := Nat.mul_le_mul_right _ e;rw [Nat.add_mul] at this;omega
   have U := run_storeCells_at P b (off + l.length * sz) T (ys.flatMap enc) 0 cs w hb A (ph he ys);simp only [Nat.add_zero] at U A;have F := A;rw [y] at F;refine ⟨some ⟨b,off,none⟩,sc,w.setRow b (cs.toList.take (off + l.length * sz) ++ ys.flatMap enc ++ cs.toList.drop (off + l.length * sz + (ys.flatMap enc).length)).toArray,?_,?_⟩
   ·have hf := pE (P := P) (size := ti.size) (m := ys.length) (len := ys.length) (cap := xc) hr (by rw [y,B]);have W : (storeCells ((⟨b,off,none⟩ : Addr).add (l.length * ti.size)) (ys.flatMap enc) 0).run P w = .ok () (w.setRow b (cs.toList.take (off + l.length * sz) ++ ys.flatMap enc ++ cs.toList.drop (off + l.length * sz + (ys.flatMap enc).length)).toArray) := by
     rw [uo,B]; exact U
    simp [Builtin.append_,xL P ht,xL P hu,sizeOf,typeInfo,hi,Builtin.lenOf,e,hf,W]
   ·have X := H1.set (o' := .cells (cs.toList.take (off + l.length * sz) ++ ys.flatMap enc ++ cs.toList.drop (off + l.length * sz + (ys.flatMap enc).length)).toArray T (0,0)) (setRow_os _ _ _) (setRow_tape _ _ _) (setRow_output _ _ _) (setRow_heap w b cs _ T (0,0) hb) (fun c hc => setRow_other w b c _ hc);refine X.head fun h hh => .inr ⟨b,off,_,rfl,hh,by simpa using e,h2,?_,?_⟩
    ·simp only [List.size_toArray,lA,List.length_take,List.length_drop,Array.length_toList]; omega
    ·intro i I;simp only [lA,Nat.add_mul] at I;rw [J];simp only [List.getElem?_toArray];by_cases S : i < l.length * sz
     ·rw [aA,List.getElem?_append_left (by simp only [List.length_take,Array.length_toList]; omega),List.getElem?_take,if_pos (by omega),List.getElem?_append_left (by rw [x]; exact S)];rw [<- h4 i S]; simp
     ·rw [List.getElem?_append_left (by simp only [lA,List.length_take,Array.length_toList,y]; omega),List.getElem?_append_right (by simp only [List.length_take,Array.length_toList]; omega),List.getElem?_append_right (by rw [x]; omega)];congr 1;simp only [List.length_take,Array.length_toList,x]; omega
 ·have a8 : 0 < ys.length := by
   have := (H.nZ 0 rfl).1; omega
  have Z : ¬ (281474976710656 < Builtin.nextslicecap (l.length + ys.length) sc * ti.bytes) := by
   have := growslice_fits (need := l.length + ys.length) (old := sc) (by omega) a1;omega
  have a4 := grownCap_ge w (l.length + ys.length) sc T;have a2 := grownCap_le_maxLen w (l.length + ys.length) sc T D;have a5 : Rd w.drew xb (ys.flatMap enc) := by
   rcases hr with h | ⟨xa,h1,h2⟩
   ·exact .inl h
   ·exact .inr ⟨xa,h1,by simpa using h2⟩
  have hf := pE (P := P) (size := ti.size) (m := ys.length) (len := ys.length) (cap := xc) a5 (by rw [y,B]);have a3 : (Builtin.firstCells ti.size l.length (.slice sb l.length sc)).run P w.drew = .ok (l.flatMap enc).toArray w.drew := by
   refine pE ?_ (by rw [x,B]);rcases H.iO with ⟨_,rfl,_⟩ | ⟨b,off,cs,rfl,H1,h1,h2,h3,h4⟩
   ·exact .inl rfl
   ·refine .inr ⟨_,rfl,fun j u hj => ?_⟩;have O := (List.getElem?_eq_some_iff.1 hj).1;rw [x] at O;have := h4 j O;rw [hj] at this;have Y : w.drew.heap[b]? = some (.cells cs T (0,0)) := H1.one 0 rfl;simp [World.cell?,uo,Y,this]
  refine ⟨some ⟨w.heap.size,0,none⟩,grownCap w (l.length + ys.length) sc T,w.drew.alloc (.cells ((l.flatMap enc).toArray ++ (ys.flatMap enc).toArray ++ Builtin.zeroCells z.cells (grownCap w (l.length + ys.length) sc T - (l.length + ys.length))) T),?_,?_⟩
  ·have hn : ¬ (l.length + ys.length <= sc) := e;simp [Builtin.append_,xL P ht,xL P hu,sizeOf,typeInfo,zeroValue,hi,hz,Builtin.lenOf,hn,a0,Z,Question.forced,hf,a3,newRow,grownCap];congr 2;apply Array.ext';simp [aA]
  ·have X := (H.drop.drew).alloc (.cells ((l.flatMap enc).toArray ++ (ys.flatMap enc).toArray ++ Builtin.zeroCells z.cells (grownCap w (l.length + ys.length) sc T - (l.length + ys.length))) T (0,0));refine St.slOf (b := w.heap.size) X he (by simpa using a4) a2 ?_ ?_
   ·simp only [Array.size_append,List.size_toArray,size_zeroCells,a6,y,x,<- Nat.add_mul];refine Nat.mul_le_mul_right _ ?_;omega
   ·intro i I;simp only [lA,Nat.add_mul] at I;rw [J];rw [Array.getElem?_append_left (by simp only [Array.size_append,List.size_toArray,y,x]; omega)];simp
theorem OpTo.append {n : Nat} {a : Act} {L : Env} {o : Oper} {x y : Operand} {t u : TypeId} {d : TypeId} {ti : TypeInfo} {sb xb : Option Addr} {sc xc m : Nat} {l : List α} (ys : List α) (F : zN n a L) (H : St w0 (Sl T enc sz sb sc l :: As) w) (he : xV enc sz)
  (I : o.op = .call { callee := .builtin .append,args := #[x,y],argTypes := #[t,u] }) (O : evO L x = some (.slice sb l.length sc)) (S : evO L y = some (.slice xb m xc))
  (ht : P.underlying t = some (.slice T)) (hu : P.underlying u = some (.slice d)) (hi : P.info? T = some ti) (B : ti.size = sz) {z : Value} (hz : ti.zero = some z) (D : z.cells.size = sz)
  (hm : m = ys.length) (hr : Rd w xb (ys.flatMap enc)) (e : l.length + ys.length <= maxLen) (A : (l.length + ys.length) * ti.bytes <= 140737488355328) :
  OpTo P o a w fun v w' => ∃ sb' sc',v = .slice sb' (l ++ ys).length sc' /\ St w0 (Sl T enc sz sb' sc' (l ++ ys) :: As) w' := by
 obtain ⟨dst,op,type,pos,after,guard⟩ := o;simp only at I;subst I;obtain ⟨sb',sc',w',j,J⟩ := jN (P := P) (ty := type) (xc := xc) H he ht hu hi B hz D hm hr e A;refine OpTo.of_run ?_ ⟨sb',sc',rfl,J⟩;simp [execOp,resolve,invoke,builtin,F.eval O,F.eval S,j]
end
def w64 (x : Int) : Int := IntKind.i64.wrap x
def mIdx {α : Type} (l : List α) (i : Int) : Option α := if 0 <= i then l[i.toNat]? else none
def mSet {α : Type} (l : List α) (i : Int) (x : α) : List α := l.set i.toNat x
def mApp {α : Type} (l ys : List α) : Option (List α) := if l.length + ys.length <= 1073741824 then some (l ++ ys) else none
def mCut {α : Type} (l : List α) (lo hi : Int) : Option (List α) := if 0 <= lo /\ lo <= hi /\ hi <= l.length then some ((l.take hi.toNat).drop lo.toNat) else none
def ecI (x : Int) : List Value := [.int .i64 x]
theorem wR : xV ecI 1 := ⟨fun _ => rfl,fun x u hu => by simp [ecI] at hu; subst hu; rfl⟩
theorem sy {α : Type} {l : List α} {i : Int} {x : α} (h : mIdx l i = some x) : (0 <= i /\ i < (l.length : Int)) /\ l[i.toNat]? = some x := by
 unfold mIdx at h;split at h
 ·rename_i h0;refine ⟨⟨h0,?_⟩,h⟩;have := (List.getElem?_eq_some_iff.1 h).1;omega
 ·cases h
theorem fp {α : Type} {l ys r : List α} (h : mApp l ys = some r) : r = l ++ ys /\ l.length + ys.length <= 1073741824 := by
 unfold mApp at h;split at h
 ·cases h; exact ⟨rfl,by assumption⟩
 ·cases h
theorem tM {α : Type} {l r : List α} {lo hi : Int} (h : mCut l lo hi = some r) : (0 <= lo /\ lo <= hi /\ hi <= l.length) /\ r = (l.take hi.toNat).drop lo.toNat := by
 unfold mCut at h;split at h
 ·cases h; exact ⟨by assumption,rfl⟩
 ·cases h
theorem ur {α : Type} (l : List α) (i : Int) (x : α) : (mSet l i x).length = l.length := by simp [mSet]
theorem bind_some {α β : Type} {x : Option α} {f : α -> Option β} {r : β} (h : x.bind f = some r) : ∃ y,x = some y /\ f y = some r := by
 cases x with
 | none => cases h
 | some y => exact ⟨y,rfl,h⟩
theorem yd {α : Type} {b : Bool} {x y z : α} (c : b = true) (h : cond b x y = z) : x = z := by subst c; exact h
theorem yc {α : Type} {b : Bool} {x y z : α} (c : b = false) (h : cond b x y = z) : y = z := by subst c; exact h
theorem zN.sel {n : Nat} {a : Act} {L Lo : Env} (e : zN n a L) (ks : List Nat) (h : Th.sel ks L = some Lo) : zN n a Lo := qd e h
theorem Runs.join {P : Program} {f : FuncId} {c : Code} {k : List Item} {a : Act} {w : World} {R : Value -> World -> Prop} (J : Act -> World -> Prop)
  (h1 : (∀ a w,J a w -> Runs P f k a w R) -> Runs P f (.code c :: k) a w R) (h2 : ∀ a w,J a w -> Runs P f k a w R) : Runs P f (.code c :: k) a w R := h1 h2
section
variable {α : Type} {T : TypeId} {enc : α -> List Value} {sz : Nat} {w0 w : World} {As : List HP} {P : Program}
theorem fG {x' : α} (he : xV enc sz) : ∀ (l : List α) (j : Nat) (q : Nat) (vs : List Value),(hj : j < l.length) -> enc x' = putAt (enc l[j]) q vs -> q + vs.length <= sz ->
  (l.set j x').flatMap enc = putAt (l.flatMap enc) (j * sz + q) vs
 | [],j,q,vs,hj,h,hq => by simp at hj
 | x :: l,0,q,vs,hj,h,hq => by
  simp only [List.getElem_cons_zero] at h;simp only [List.set_cons_zero,List.flatMap_cons,Nat.zero_mul,Nat.zero_add];rw [h,uM _ _ _ (by rw [he.len]; omega),uM _ _ _ (by rw [lA,he.len]; omega)];rw [List.take_append_of_le_length (by rw [he.len]; omega),List.drop_append_of_le_length (by rw [he.len]; omega)];simp [aA]
 | x :: l,j + 1,q,vs,hj,h,hq => by
  simp only [List.getElem_cons_succ] at h;simp only [List.set_cons_succ,List.flatMap_cons];have t : j < l.length := by simpa using hj
  rw [fG he l j q vs t h hq];have hl : (l.flatMap enc).length = l.length * sz := yA he l;have u : (j + 1) * sz <= l.length * sz := Nat.mul_le_mul_right _ t;rw [Nat.succ_mul] at u;have e : (j + 1) * sz + q = (enc x).length + (j * sz + q) := by rw [he.len,Nat.succ_mul]; omega
  rw [uM _ _ _ (by rw [hl]; omega),e,uM _ _ _ (by rw [lA,hl,Nat.add_assoc]; omega)];rw [List.take_append,List.drop_append];have y : (enc x).length + (j * sz + q) - (enc x).length = j * sz + q := by omega
  have z : (enc x).length + (j * sz + q) + vs.length - (enc x).length = j * sz + q + vs.length := by omega
  rw [y,z,List.take_of_length_le (l := enc x) (by omega),List.drop_of_length_le (l := enc x) (by omega)];simp [aA]
theorem OpTo.qY {n : Nat} {a : Act} {L : Env} {o : Oper} {b off q : Nat} {t : TypeId} {sb : Option Addr} {sc : Nat} {l : List α} {z : Int} {x x' : α} {Y Z : Operand} {v : Value} {ti : TypeInfo} (hE : zN n a L) (H : St w0 (Sl T enc sz sb sc l :: As) w) (he : xV enc sz)
  (ho : uw o.op = some (t,Y,Z)) (U : sb = some ⟨b,off,none⟩) (D : mIdx l z = some x) (hx : evO L Y = some (.pointer (some ⟨b,off + z.toNat * sz + q,none⟩))) (hy : evO L Z = some v) (hi : P.info? t = some ti) (hs : ti.size = v.cells.size) (h1 : oz v.cells.toList = true)
  (hq : q + v.cells.size <= sz) (X : enc x' = putAt (enc x) q v.cells.toList) : OpTo P o a w fun _ w' => St w0 (Sl T enc sz sb sc (mSet l z x') :: As) w' := by
 subst U;obtain ⟨hb,hg⟩ := sy D;obtain ⟨F,J⟩ := List.getElem?_eq_some_iff.1 hg;rcases H.iO with ⟨h,_⟩ | ⟨b',a0,cs,e,H1,h3,h4,h5,h6⟩
 ·cases h
 ·cases e;have hmul : (z.toNat + 1) * sz <= l.length * sz := Nat.mul_le_mul_right _ F;have S : l.length * sz <= sc * sz := Nat.mul_le_mul_right _ h3;rw [Nat.succ_mul] at hmul;have B : St w0 (Blk b T cs.toList :: As) w := by simpa [Blk] using H1
  have W := OpTo.store (P := P) (o := o) (b := b) (off := off + z.toNat * sz + q) (cs := cs.toList) hE B ho hx hy hi hs h1 (by simp; omega);refine W.mono fun u w' H2 => ?_
  refine H2.head fun h hh => .inr ⟨b,off,_,rfl,hh,by simpa [mSet] using h3,h4,by simp [qS]; omega,fun i A => ?_⟩
  have hlen : (mSet l z x').length = l.length := by simp [mSet]
  rw [hlen] at A;have y : v.cells.toList.length = v.cells.size := by simp
  have I := fG he l z.toNat q v.cells.toList F (by rw [J]; exact X) (by rw [y]; exact hq);have O : (l.flatMap enc).length = l.length * sz := yA he l;unfold mSet;rw [I];simp only [List.getElem?_toArray];rw [uM _ _ _ (by simp; omega),uM _ _ _ (by rw [O,y]; omega)];have hcs : ∀ j,j < l.length * sz -> cs.toList[off + j]? = (l.flatMap enc)[j]? := fun j hj => by rw [<- h6 j hj]; simp
  have a7 : cs.toList.length = cs.size := by simp
  by_cases c1 : i < z.toNat * sz + q
  ·rw [aA,aA,List.getElem?_append_left (by rw [List.length_take]; omega),List.getElem?_append_left (by rw [List.length_take]; omega),List.getElem?_take,List.getElem?_take,if_pos (by omega),if_pos c1];exact hcs i A
  ·by_cases c2 : i < z.toNat * sz + q + v.cells.size
   ·rw [List.getElem?_append_left (by simp only [lA,List.length_take,y]; omega),List.getElem?_append_right (by rw [List.length_take]; omega),
     List.getElem?_append_left (by simp only [lA,List.length_take,y]; omega),List.getElem?_append_right (by rw [List.length_take]; omega)]
    congr 1;rw [List.length_take,List.length_take]; omega
   ·rw [List.getElem?_append_right (by simp only [lA,List.length_take,y]; omega),List.getElem?_append_right (by simp only [lA,List.length_take,y]; omega),List.getElem?_drop,List.getElem?_drop];have e1 : off + z.toNat * sz + q + v.cells.toList.length + (off + i - (List.take (off + z.toNat * sz + q) cs.toList ++ v.cells.toList).length) = off + i := by
     simp only [lA,List.length_take,y]; omega
    have e2 : z.toNat * sz + q + v.cells.toList.length + (i - (List.take (z.toNat * sz + q) (l.flatMap enc) ++ v.cells.toList).length) = i := by
     simp only [lA,List.length_take,y]; omega
    rw [e1,e2];exact hcs i A
end
def SlRd {α : Type} (X : HP) (enc : α -> List Value) (sz : Nat) (sb : Option Addr) (l : List α) : Prop :=
 ∀ h,X h -> l = [] \/ ∃ b off cs T fr,sb = some ⟨b,off,none⟩ /\ h b = some (.cells cs T fr) /\ ∀ i,i < l.length * sz -> cs[off + i]? = (l.flatMap enc)[i]?
section
variable {α : Type} {T : TypeId} {enc : α -> List Value} {sz : Nat} {w0 w : World} {As : List HP} {P : Program}
theorem xe (T : TypeId) (enc : α -> List Value) (sz : Nat) (sb : Option Addr) (sc : Nat) (l : List α) : SlRd (Sl T enc sz sb sc l) enc sz sb l := by
 rintro h (⟨_,hl,_⟩ | ⟨b,off,cs,e,j,_,_,_,t⟩)
 ·exact .inl hl
 ·exact .inr ⟨b,off,cs,T,(0,0),e,j,t⟩
theorem SlRd.all {X : HP} {sb : Option Addr} {l : List α} (hX : SlRd X enc sz sb l) (he : xV enc sz) (H : St w0 As w) (i : Nat) (hi : As[i]? = some X) : Rd w sb (l.flatMap enc) := by
 obtain ⟨h1,hs,h⟩ := H.at i hi;rcases hX h1 h with rfl | ⟨b,off,cs,T,fr,rfl,x,y⟩
 ·exact .inl rfl
 ·refine .inr ⟨_,rfl,fun j u hj => ?_⟩;have t := (List.getElem?_eq_some_iff.1 hj).1;rw [yA he] at t;have e := hs _ _ x;simp only [hpOf] at e;have := y j t;rw [hj] at this;simp [uo,World.cell?,e,this]
theorem SlRd.idx {X : HP} {sb : Option Addr} {l : List α} (hX : SlRd X enc sz sb l) (he : xV enc sz) (H : St w0 As w) (i : Nat) (hi : As[i]? = some X) {t : Int} {x : α} (J : mIdx l t = some x) :
  ∃ b off,sb = some ⟨b,off,none⟩ /\ (0 <= t /\ t < (l.length : Int)) /\ ∀ q v,(enc x)[q]? = some v -> w.cell? ⟨b,off + t.toNat * sz + q,none⟩ = some v := by
 obtain ⟨D,I⟩ := sy J;obtain ⟨j,A⟩ := List.getElem?_eq_some_iff.1 I;rcases hX.all he H i hi with h | ⟨O,B,F⟩
 ·obtain ⟨h1,hs,hh⟩ := H.at i hi;rcases hX h1 hh with rfl | ⟨b,off,cs,T,fr,rfl,y,z⟩
  ·simp at j
  ·refine ⟨b,off,rfl,D,fun q v hv => ?_⟩;have hq : q < sz := by have := (List.getElem?_eq_some_iff.1 hv).1; rw [he.len] at this; exact this
   have := yA he l;rw [h] at this;have h2 : (t.toNat + 1) * sz <= l.length * sz := Nat.mul_le_mul_right _ j;rw [Nat.succ_mul] at h2;simp at this; omega
 ·obtain ⟨h1,hs,hh⟩ := H.at i hi;rcases hX h1 hh with rfl | ⟨b,off,cs,T,fr,u,y,z⟩
  ·simp at j
  ·refine ⟨b,off,u,D,fun q v hv => ?_⟩;rw [B] at u;cases u;have hq : q < sz := by have := (List.getElem?_eq_some_iff.1 hv).1; rw [he.len] at this; exact this
   have e := F (t.toNat * sz + q) v (by rw [tO he l _ _ j hq,A]; exact hv);rw [uo,<- Nat.add_assoc] at e;exact e
theorem SlRd.cut {X : HP} {sb : Option Addr} {l r : List α} {sc lo : Nat} {hi : Nat} (hX : SlRd X enc sz sb l) (he : xV enc sz) (h1 : lo <= hi) (h2 : hi <= l.length) (h3 : hi <= sc) (hr : r = (l.take hi).drop lo) : SlRd X enc sz (yF sb sc lo sz) r := by
 intro h hh;subst hr;rcases hX h hh with rfl | ⟨b,off,cs,T,fr,rfl,B,D⟩
 ·exact .inl (by simp)
 ·by_cases hz : hi - lo = 0
  ·left; apply List.eq_nil_of_length_eq_zero; simp; omega
  ·right
   have hlen : ((l.take hi).drop lo).length = hi - lo := by simp [Nat.min_eq_left h2]
   have t : ¬ sc = lo := by omega
   refine ⟨b,off + lo * sz,cs,T,fr,by simp [yF,t,uo],B,fun i e => ?_⟩;rw [hlen] at e;have u : 0 < sz := by
    rcases Nat.eq_zero_or_pos sz with h | h
    ·subst h; simp at e
    ·exact h
   have hj : i / sz < hi - lo := Nat.div_lt_of_lt_mul (by rw [Nat.mul_comm]; exact e);have hq : i % sz < sz := Nat.mod_lt _ u;have j : (i / sz) * sz + i % sz = i := by rw [Nat.mul_comm]; exact Nat.div_add_mod i sz
   have x := tO he ((l.take hi).drop lo) (i / sz) (i % sz) (by rw [hlen]; exact hj) hq;have y := tO he l (lo + i / sz) (i % sz) (by omega) hq;have z : ((l.take hi).drop lo)[i / sz]'(by rw [hlen]; exact hj) = l[lo + i / sz]'(by omega) := by simp
   rw [z,j] at x;have A : (lo + i / sz) * sz + i % sz = lo * sz + i := by rw [Nat.add_mul]; omega
   rw [A] at y;rw [x,<- y,Nat.add_assoc];refine D _ ?_;have F : lo * sz + (hi - lo) * sz = hi * sz := by rw [<- Nat.add_mul]; congr 1; omega
   have I : hi * sz <= l.length * sz := Nat.mul_le_mul_right _ h2;omega
theorem OpTo.sO {n : Nat} {a : Act} {L : Env} {o : Oper} (x : zN n a L) (H : St w0 As w) (he : xV enc sz) (xs : List α) {cs : Array Value} {m : Nat}
  (j : (!qh o.op && jE L o.op.operands.toList) = true) (hr : ∀ r,rD P (execOp (rho L) o) [] r = some (.cells cs T (0,0),.value (.slice (some ⟨r,0,none⟩) m m),[])) (hm : m = xs.length) (e : Nat.ble m 1000000 = true) (t : cs.toList = xs.flatMap enc) :
  OpTo P o a w fun v w' => ∃ r : Nat,v = .slice (some ⟨r,0,none⟩) xs.length m /\ St w0 (Sl T enc sz (some ⟨r,0,none⟩) m xs :: As) w' := by
 have h := OpTo.new (P := P) x H [] (.cells cs T (0,0)) (fun r => .slice (some ⟨r,0,none⟩) m m) j hr trivial;refine h.mono ?_;rintro v w' ⟨r,rfl,u⟩;have y := Nat.le_of_ble_eq_true e;have z : cs.size = m * sz := by rw [<- Array.length_toList,t,yA he,hm]
 subst hm;exact ⟨r,rfl,St.slOf u he (Nat.le_refl _) (by unfold maxLen; omega) (by omega) fun i hi => by rw [<- t]; simp⟩
theorem St.ba {sb sb' : Option Addr} {sc sc' : Nat} {l r : List α} {lo hi : Int} (H : St w0 (Sl T enc sz sb sc l :: As) w) (he : xV enc sz) (hr : mCut l lo hi = some r) (h1 : yF sb sc lo.toNat sz = sb') (h2 : sc - lo.toNat = sc') :
  St w0 (Sl T enc sz sb' sc' r :: As) w := by
 obtain ⟨⟨h3,h4,e⟩,rfl⟩ := tM hr;subst h1; subst h2;exact H.Di he lo.toNat hi.toNat (by omega) (by omega)
theorem qI {l r : List α} {lo hi : Int} (hr : mCut l lo hi = some r) : hi.toNat - lo.toNat = r.length := by
 obtain ⟨⟨h3,h4,e⟩,rfl⟩ := tM hr;simp; omega
theorem ao {l r : List α} {lo hi : Int} (hr : mCut l lo hi = some r) : 0 <= lo /\ lo <= (hi.toNat : Int) := by
 obtain ⟨⟨h3,h4,e⟩,rfl⟩ := tM hr;omega
theorem mG {α : Type} {l r : List α} {lo : Int} {n : Nat} (hr : mCut l lo (n : Int) = some r) : 0 <= lo /\ lo <= (n : Int) := by
 have := ao hr;simpa using this
theorem bH {α : Type} {l r : List α} {lo hi : Int} {sc sc' : Nat} (hr : mCut l lo hi = some r) (t : l.length <= sc) (h : sc - lo.toNat = sc') : r.length <= sc' := by
 have e := qI hr;obtain ⟨⟨h3,h4,j⟩,_⟩ := tM hr;omega
theorem gz {l r : List α} {lo hi : Int} {sc : Nat} (hr : mCut l lo hi = some r) (j : l.length <= sc) : 0 <= hi /\ hi <= (sc : Int) := by
 obtain ⟨⟨h3,h4,e⟩,rfl⟩ := tM hr;omega
theorem SlRd.cut' {X : HP} {sb sb' : Option Addr} {l r : List α} {sc : Nat} {lo hi : Int} (hX : SlRd X enc sz sb l) (he : xV enc sz) (hr : mCut l lo hi = some r) (t : l.length <= sc) (h1 : yF sb sc lo.toNat sz = sb') : SlRd X enc sz sb' r := by
 obtain ⟨⟨h3,h4,j⟩,e⟩ := tM hr;subst h1;exact hX.cut he (by omega) (by omega) (by omega) e
end
def mNz (x : Int) : Option Unit := if x ≠ 0 then some () else none
def mNn (x : Int) : Option Unit := if 0 <= x then some () else none
theorem AX {x : Int} {u : Unit} (h : mNz x = some u) : x ≠ 0 := by
 unfold mNz at h;split at h
 ·assumption
 ·cases h
theorem AV {x : Int} {u : Unit} (h : mNn x = some u) : 0 <= x := by
 unfold mNn at h;split at h
 ·assumption
 ·cases h
def ecB (x : Bool) : List Value := [.bool x]
theorem BC : xV ecB 1 := ⟨fun _ => rfl,fun x u hu => by simp [ecB] at hu; subst hu; rfl⟩
theorem zN.dec {n : Nat} {a : Act} {L : Env} {b c : Bool} (e : zN n a L) (d : Nat) (h : b = c) (hl : look d L = some (.bool b)) : zN n a ((d,.bool c) :: L) := by
 subst h;refine ⟨e.size,e.defers,fun t v hv => ?_⟩;rw [vv] at hv;split at hv
 ·subst_vars; cases hv; exact e.has _ _ hl
 ·exact e.has _ _ hv
section
variable {α : Type} {T : TypeId} {enc : α -> List Value} {sz : Nat} {w0 w : World} {As : List HP} {P : Program}
theorem SlRd.base {X : HP} {sb : Option Addr} {l : List α} (hX : SlRd X enc sz sb l) (he : xV enc sz) (H : St w0 As w) (i : Nat) (hi : As[i]? = some X) {e : Int} {x : α} (j : mIdx l e = some x) :
  ∃ b off,sb = some ⟨b,off,none⟩ /\ (0 <= e /\ e < (l.length : Int)) := by
 obtain ⟨b,off,h1,h2,_⟩ := hX.idx he H i hi j;exact ⟨b,off,h1,h2⟩
theorem SlRd.cells {X : HP} {sb : Option Addr} {l : List α} (hX : SlRd X enc sz sb l) (he : xV enc sz) (H : St w0 As w) (i : Nat) (hi : As[i]? = some X) {b off : Nat} (hs : sb = some ⟨b,off,none⟩) {e : Int} {x : α} (t : mIdx l e = some x)
  (q : Nat) (v : Value) (hv : (enc x)[q]? = some v) : w.cell? ⟨b,off + e.toNat * sz + q,none⟩ = some v := by
 obtain ⟨u,j,h1,h2,h3⟩ := hX.idx he H i hi t;rw [hs] at h1;cases h1;exact h3 q v hv
theorem OpTo.uR {n : Nat} {a : Act} {L : Env} {o : Oper} {x y : Operand} {t u : TypeId} {d : TypeId} {ti : TypeInfo} {sb xb : Option Addr} {sc xc m : Nat} {l ys r : List α} (hr : mApp l ys = some r) (D : zN n a L) (H : St w0 (Sl T enc sz sb sc l :: As) w) (he : xV enc sz)
  (I : o.op = .call { callee := .builtin .append,args := #[x,y],argTypes := #[t,u] }) (J : evO L x = some (.slice sb l.length sc)) (O : evO L y = some (.slice xb m xc))
  (ht : P.underlying t = some (.slice T)) (hu : P.underlying u = some (.slice d)) (hi : P.info? T = some ti) (A : ti.size = sz) {z : Value} (hz : ti.zero = some z) (B : z.cells.size = sz)
  (hm : m = ys.length) (j : Rd w xb (ys.flatMap enc)) (F : Nat.ble ti.bytes 131072 = true) :
  OpTo P o a w fun v w' => ∃ sb' sc',v = .slice sb' r.length sc' /\ St w0 (Sl T enc sz sb' sc' r :: As) w' := by
 obtain ⟨rfl,hle⟩ := fp hr;have e := Nat.le_of_ble_eq_true F;refine OpTo.append ys D H he I J O ht hu hi A hz B hm j (by unfold maxLen; omega) ?_
 calc (l.length + ys.length) * ti.bytes <= 1073741824 * 131072 := Nat.mul_le_mul hle e
  _ <= 140737488355328 := by decide
def mw (P : Program) (t : TypeId) (xs ys : Array Value) (b : Bool) : Prop := ∀ w,(Op.equal t (.agg xs) (.agg ys)).run P w = .ok b w
theorem OpTo.eqS {n : Nat} {a : Act} {L : Env} {o : Oper} {x y : Operand} {t u : TypeId} {xs ys : Array Value} {b : Bool} (e : zN n a L) (j : o.op = .binOp .eql t x y u) (A : evO L x = some (.agg xs)) (B : evO L y = some (.agg ys))
  (z : P.eqGuardType P.depth t = false) (he : mw P t xs ys b) : OpTo P o a w fun v w' => v = .bool b /\ w' = w := by
 obtain ⟨dst,op,type,pos,after,guard⟩ := o;simp only at j;subst j;refine OpTo.of_run (w' := w) ?_ ⟨rfl,rfl⟩;simp [execOp,e.eval A,e.eval B,eqGuard,binOp,z,he w]
theorem OpTo.neS {n : Nat} {a : Act} {L : Env} {o : Oper} {x y : Operand} {t u : TypeId} {xs ys : Array Value} {b : Bool} (e : zN n a L) (j : o.op = .binOp .neq t x y u) (A : evO L x = some (.agg xs)) (B : evO L y = some (.agg ys))
  (z : P.eqGuardType P.depth t = false) (he : mw P t xs ys b) : OpTo P o a w fun v w' => v = .bool (!b) /\ w' = w := by
 obtain ⟨dst,op,type,pos,after,guard⟩ := o;simp only at j;subst j;refine OpTo.of_run (w' := w) ?_ ⟨rfl,rfl⟩;simp [execOp,e.eval A,e.eval B,eqGuard,binOp,z,he w]
end
theorem OpTo.fv {P : Program} {n : Nat} {a : Act} {L : Env} {w : World} {o : Oper} {x : Operand} {xs : List Operand} {g : FuncId} {vs cs : List Value} {j : Value -> World -> Prop} (t : zN n a L)
  (y : callParts o.op = some (x,xs)) (z : evO L x = some (.func (.func g) #[] cs.toArray)) (e : oG L xs = some vs)
  (u : ∀ args w,(callFunc g args).run P w = .ok (.enter g args) w) (h : yL P g (vs ++ cs).toArray w j) : OpTo P o a w j :=
 OpTo.call t y z e u (by simpa using h)
def oe {α : Type} (l : List α) (i : Int) (v : List α) : Option (List α) := if 0 <= i /\ i <= (l.length : Int) /\ l.length + v.length <= 1073741824 then some (l.take i.toNat ++ (v ++ l.drop i.toNat)) else none
theorem jr {P : Program} {w : World} {d : Nat} {xs ys : Array Value} {L : List Field} (e : L = []) : (Op.eqFields d xs ys L).run P w = .ok true w := by
 subst e; simp [Op.eqFields]
theorem vj {P : Program} {w : World} {d : Nat} {xs ys : Array Value} {L : List Field} {f : Field} {fs : List Field} {a b : Value} {r r' : Bool} (hL : L = f :: fs) (hn : (f.name == "_") = false)
  (pa : (part f.type xs f.offset).run P w = .ok a w) (pb : (part f.type ys f.offset).run P w = .ok b w) (he : (Op.equalIn d f.type a b).run P w = .ok r w) (hr : (Op.eqFields d xs ys fs).run P w = .ok r' w) :
  (Op.eqFields d xs ys L).run P w = .ok (r && r') w := by
 subst hL;have hn' : f.name ≠ "_" := by simpa using hn
 simp only [Op.eqFields,hn',ne_eq,not_false_eq_true,if_true,Sem.run_bind,pa,pb,he,Result.andThen_ok];cases r <;> simp [hr]
theorem js {P : Program} {w : World} (d : Nat) {t : TypeId} {xs ys : Array Value} {b : Bool} (ht : P.underlying t = some (.struct (P.fieldsOf t))) (hp : P.stoodInHeld t = false) (h : (Op.eqFields d xs ys (P.fieldsOf t).toList).run P w = .ok b w) :
  (Op.equalIn (d + 1) t (.agg xs) (.agg ys)).run P w = .ok b w := by rw [run_equalIn_struct w d t xs ys ht hp,h]
def nH (i n : Nat) : Option Unit := if i = n then some () else none
theorem cS {i n : Nat} {u : Unit} (h : nH i n = some u) : i = n := by
 unfold nH at h;split at h
 ·assumption
 ·cases h
def mIn (i : Int) (n : Nat) : Option Unit := if 0 <= i /\ i < (n : Int) then some () else none
theorem jw {i : Int} {n : Nat} {u : Unit} (h : mIn i n = some u) : 0 <= i /\ i < (n : Int) := by
 unfold mIn at h;split at h
 ·assumption
 ·cases h
def mW {α : Type} (n : Int) (z : α) : Option (List α) := if 0 <= n /\ n <= 1073741824 then some (List.replicate n.toNat z) else none
theorem iv {α : Type} {n : Int} {z : α} {l : List α} (h : mW n z = some l) : (0 <= n /\ n <= 1073741824) /\ l = List.replicate n.toNat z := by
 unfold mW at h;split at h
 ·cases h; exact ⟨by assumption,rfl⟩
 ·cases h
def AP (s : ByteArray) (i : Int) : Option Int := if 0 <= i then (s[i.toNat]?).map fun u => (u.toNat : Int) else none
theorem dK {s : ByteArray} {i c : Int} (h : AP s i = some c) : 0 <= i /\ ∃ u,s[i.toNat]? = some u /\ c = (u.toNat : Int) := by
 unfold AP at h;split at h
 ·obtain ⟨u,hu,rfl⟩ := Option.map_eq_some_iff.1 h;exact ⟨by assumption,u,hu,rfl⟩
 ·cases h
section
variable {α : Type} {T : TypeId} {enc : α -> List Value} {sz : Nat} {w0 w : World} {As : List HP} {P : Program}
theorem oJ {n : Int} (h0 : 0 <= n) (h1 : n <= 1073741824) : IntKind.i64.wrap n = n := by
 unfold IntKind.wrap;simp only [IntKind.bits,IntKind.signed];have : n % 2 ^ 64 = n := Int.emod_eq_of_lt h0 (by omega);simp only [this];have h2 : ¬ (9223372036854775808 <= n) := by omega
 simp;intro h3; exact absurd h3 h2
theorem OpTo.make {n : Nat} {a : Act} {L : Env} {o : Oper} {t : TypeId} {x : Operand} {m : Int} {z : α} {l : List α} {ti : TypeInfo} {y : Value} (hl : mW m z = some l) (hE : zN n a L) (H : St w0 As w) (he : xV enc sz) (Y : o.op = .makeSlice t x x) (hx : evO L x = some (.int .i64 m))
  (ht : P.underlying t = some (.slice T)) (hi : P.info? T = some ti) (hs : ti.size = sz) (hz : ti.zero = some y) (X : y.cells.toList = enc z) (hb : Nat.ble ti.bytes 131072 = true) :
  OpTo P o a w fun v w' => ∃ r : Nat,v = .slice (some ⟨r,0,none⟩) l.length l.length /\ St w0 (Sl T enc sz (some ⟨r,0,none⟩) l.length l :: As) w' := by
 obtain ⟨⟨h0,h1⟩,rfl⟩ := iv hl;have I := Nat.le_of_ble_eq_true hb;have hw := oJ h0 h1;obtain ⟨dst,op,type,pos,after,guard⟩ := o;simp only at Y;subst Y;obtain ⟨k,rfl⟩ := Int.eq_ofNat_of_zero_le h0;have hk : k <= 1073741824 := by omega
 have a2 : ti.bytes * k <= 281474976710656 := by
  calc ti.bytes * k <= 131072 * 1073741824 := Nat.mul_le_mul I hk
   _ <= 281474976710656 := by decide
 have F : y.cells.size = sz := by rw [<- Array.length_toList,X,he.len]
 let arr : Array Value := (Array.range (k * ti.size)).map (y.cells[· % y.cells.size]!)
 have D : (Instr.makeSlice t (.int .i64 k) (.int .i64 k)).run P w = .ok (.slice (some ⟨w.heap.size,0,none⟩) k k) { w with heap := w.heap.push (.cells arr T (0,0)) } := by
  have U : ¬ ((k : Int) < 0) := by omega
  have W : ¬ ((281474976710656 : Int) < (ti.bytes : Int) * (k : Int)) := by
   rw [<- Int.natCast_mul]; omega
  have j : ∀ (w : World),(askRoom (k * ti.bytes)).run P w = .ok () w := fun w => by
   unfold askRoom;split <;> rfl
  by_cases hn : k * ti.size = 0
  ·have A : arr = #[] := by simp [arr,hn]
   simp [Instr.makeSlice,xL P ht,asInt,asIntOf,typeInfo,hi,hw,U,W,j,rE P hi,hn,newRow,A];have S : (Array.map (fun _ => (default : Value)) (Array.range 0)) = #[] := Array.eq_empty_of_size_eq_zero (by simp);rw [S]
  ·simp [Instr.makeSlice,xL P ht,asInt,asIntOf,typeInfo,hi,hw,U,W,j,rE P hi,hn,newRow,zeroValue,hz,arr]
   try rfl
 refine OpTo.of_run (w' := { w with heap := w.heap.push (.cells arr T (0,0)) }) (v := .slice (some ⟨w.heap.size,0,none⟩) k k) ?_ ⟨w.heap.size,by simp,?_⟩
 ·simp [execOp,hE.eval hx,D]
 ·have Z := H.alloc (.cells arr T (0,0));have := St.slOf (l := List.replicate k z) (sc := k) Z he (by simp) (by unfold maxLen; omega) (by simp [arr,hs]) (fun i u => by
   simp only [List.length_replicate] at u;have B : 0 < sz := by
    rcases Nat.eq_zero_or_pos sz with h | h
    ·subst h; simp at u
    ·exact h
   have hj : i / sz < (List.replicate k z).length := by simp; exact Nat.div_lt_of_lt_mul (by rw [Nat.mul_comm]; exact u)
   have hq : i % sz < sz := Nat.mod_lt _ B;have e := tO he (List.replicate k z) (i / sz) (i % sz) hj hq;have J : (i / sz) * sz + i % sz = i := by rw [Nat.mul_comm]; exact Nat.div_add_mod i sz
   rw [J] at e;rw [e];simp only [List.getElem_replicate];rw [<- X];simp only [arr,hs,F];have O : i % sz < y.cells.size := by rw [F]; exact hq
   rw [Array.getElem?_map,Array.getElem?_range];simp [u,O])
  simpa using this
end
def Ch (c cap : Nat) (buf : List Value) : HP := fun h => ∃ x : Nat × Nat,One c (.chan cap buf.toArray false x.1 x.2 false) h
section
open Go.Conc
variable {P : Program} {f : FuncId} {k : List Item} {a : Act} {w w0 : World} {R : Value -> World -> Prop} {ops : Array Oper} {As : List HP} {n d c cap : Nat} {L : Env} {o : Oper} {buf : List Value}
theorem Runs.aj {todo todo' : List Item} {a' : Act} {w' : World} (hs : ∀ (b : Frame) cs,b.kind ≠ .early -> Go.step P (lone (b.at a todo) cs w) = .next (lone (b.at a' todo') cs w')) (h : Runs P f todo' a' w' R) : Runs P f todo a w R :=
 fun b j hk cs => let ⟨v,w2,fr,e,h1,h2⟩ := h b j hk cs; ⟨v,w2,fr,e,.head (hs b cs (by rw [hk]; simp)) h1,h2⟩
theorem qu {id : Nat} (hi : ops[0]? = some o) (h : Runs P f (.inRegion ops (0 :: List.range' 1 (ops.size - 1)) :: k) a w R) : Runs P f (.code (.region id ops false) :: k) a w R := by
 refine .step (fun _ _ => step_region) ?_;have e : 0 < ops.size := (Array.getElem?_eq_some_iff.1 hi).1;have : List.range ops.size = 0 :: List.range' 1 (ops.size - 1) := by
  rw [List.range_eq_range'];have : ops.size = (ops.size - 1) + 1 := by omega
  conv => lhs; rw [this]
  rw [List.range'_succ]
 rw [this]; exact h
theorem St.Bx (H : St w0 (Ch c cap buf :: As) w) (e : List Value) (s r : Nat) : St w0 (Ch c cap e :: As) (w.setChan c cap e.toArray false s r false) := by
 obtain ⟨x,H⟩ := H.ex;have y := H.one 0 rfl;have t := (Array.getElem?_eq_some_iff.1 y).1;have u := H.set (w' := w.setChan c cap e.toArray false s r false) (o' := .chan cap e.toArray false s r false) rfl rfl rfl (by simp [World.setChan,t]) (fun j hj => by simp only [World.setChan]; rw [Array.getElem?_setIfInBounds_ne (Ne.symm hj)]);exact u.head fun h hh => ⟨(s,r),hh⟩
theorem lB {x y : Operand} {e : TypeId} {v : Value} {ti : TypeInfo} {z : Value} (j : zN n a L) (t : o.op = .select #[{ chan := x,send := some y,elem := e }] false) (u : evO L x = some (.chan (some c))) (A : evO L y = some v)
  (hi : P.info? e = some ti) (hz : ti.zero = some z) : (execOp a.eval o).run P w = .ok (.comm #[scase c v z] false .select) w := by
 obtain ⟨dst,op,type,pos,after,guard⟩ := o;simp only at t;subst t;simp [execOp,scase,j.eval u,j.eval A,zeroValue,typeInfo,hi,hz]
theorem lz {x : Operand} {e : TypeId} {ti : TypeInfo} {z : Value} (t : zN n a L) (j : o.op = .select #[{ chan := x,send := none,elem := e }] false) (u : evO L x = some (.chan (some c)))
  (hi : P.info? e = some ti) (hz : ti.zero = some z) : (execOp a.eval o).run P w = .ok (.comm #[rcase c z] false .select) w := by
 obtain ⟨dst,op,type,pos,after,guard⟩ := o;simp only at j;subst j;simp [execOp,rcase,t.eval u,zeroValue,typeInfo,hi,hz]
theorem Runs.fa {id : Nat} {x y : Operand} {e : TypeId} {v : Value} {ti : TypeInfo} {z : Value} (u : zN n a L) (H : St w0 (Ch c cap buf :: As) w) (j : ops[0]? = some o) (hd : o.dst = some d) (hn : Nat.blt d n = true) (F : o.guard = none)
  (I : o.op = .select #[{ chan := x,send := some y,elem := e }] false) (J : evO L x = some (.chan (some c))) (O : evO L y = some v) (hi : P.info? e = some ti) (hz : ti.zero = some z) (t : buf.length < cap)
  (hk : ∀ a' w',zN n a' ((d,.tuple #[goInt 0,.bool false]) :: L) -> St w0 (Ch c cap (buf ++ [v]) :: As) w' -> WR P f ops 1 k a' w' R) : Runs P f (.code (.region id ops false) :: k) a w R := by
 refine qu j ?_;obtain ⟨⟨s,r⟩,H1⟩ := H.ex;have D := H1.one 0 rfl;have A := H.Bx (buf ++ [v]) (s + 1) r;refine Runs.aj (a' := a.put o.dst (.tuple #[goInt 0,.bool false])) (todo' := .inRegion ops (List.range' 1 (ops.size - 1)) :: k) (w' := w.setChan c cap (buf ++ [v]).toArray false (s + 1) r false) (fun b cs B => ?_) (Runs.iD ?_)
 ·have hw : Region.wanted o (yielded ops a.tmps) = true := by simp [Region.wanted,F]
  have := step_lone_select_send_room (buf := buf.toArray) (stepG_comm (k := k) (cs := cs) (rest := List.range' 1 (ops.size - 1)) j hw B (lB u I J O hi hz)) D (by simpa using t);rw [lone_eq_solo,this,Frame.finish_at,j];simp [lone_eq_solo]
 ·rw [hd]; rw [hd] at *
  exact hk _ _ (u.put _ _ (by simpa [Nat.blt_eq] using hn)) A
theorem Runs.gZ {id : Nat} {x y : Operand} {e : TypeId} {v : Value} {ti : TypeInfo} {z : Value} (u : zN n a L) (H : St w0 (Ch c cap buf :: As) w) (t : ops[0]? = some o) (hd : o.dst = some d) (hn : Nat.blt d n = true) (D : o.guard = none)
  (F : o.op = .select #[{ chan := x,send := some y,elem := e }] false) (I : evO L x = some (.chan (some c))) (J : evO L y = some v) (hi : P.info? e = some ti) (hz : ti.zero = some z) (j : cap <= buf.length)
  (hk : ∀ a',zN n a' ((d,.tuple #[goInt (-1),.bool false]) :: L) -> WR P f ops 1 k a' w R) : Runs P f (.code (.region id ops false) :: k) a w R := by
 refine qu t ?_;obtain ⟨⟨s,r⟩,H1⟩ := H.ex;have B := H1.one 0 rfl;refine Runs.aj (a' := a.put o.dst (.tuple #[goInt (-1),.bool false])) (todo' := .inRegion ops (List.range' 1 (ops.size - 1)) :: k) (w' := w) (fun b cs A => ?_) (Runs.iD ?_)
 ·have hw : Region.wanted o (yielded ops a.tmps) = true := by simp [Region.wanted,D]
  have := step_lone_select_send_full (buf := buf.toArray) (stepG_comm (k := k) (cs := cs) (rest := List.range' 1 (ops.size - 1)) t hw A (lB u F I J hi hz)) B (by simpa using j);rw [lone_eq_solo,this,Frame.finish_at,t];simp [lone_eq_solo]
 ·rw [hd];exact hk _ (u.put _ _ (by simpa [Nat.blt_eq] using hn))
theorem Runs.gY {id : Nat} {x : Operand} {e : TypeId} {v : Value} {ti : TypeInfo} {z : Value} (t : zN n a L) (H : St w0 (Ch c cap (v :: buf) :: As) w) (j : ops[0]? = some o) (hd : o.dst = some d) (hn : Nat.blt d n = true) (B : o.guard = none)
  (D : o.op = .select #[{ chan := x,send := none,elem := e }] false) (F : evO L x = some (.chan (some c))) (hi : P.info? e = some ti) (hz : ti.zero = some z)
  (hk : ∀ a' w',zN n a' ((d,.tuple #[goInt 0,.bool true,v]) :: L) -> St w0 (Ch c cap buf :: As) w' -> WR P f ops 1 k a' w' R) : Runs P f (.code (.region id ops false) :: k) a w R := by
 refine qu j ?_;obtain ⟨⟨s,r⟩,H1⟩ := H.ex;have A := H1.one 0 rfl;have u := H.Bx buf s (r + 1);refine Runs.aj (a' := a.put o.dst (.tuple #[goInt 0,.bool true,v])) (todo' := .inRegion ops (List.range' 1 (ops.size - 1)) :: k) (w' := w.setChan c cap buf.toArray false s (r + 1) false) (fun b cs y => ?_) (Runs.iD ?_)
 ·have hw : Region.wanted o (yielded ops a.tmps) = true := by simp [Region.wanted,B]
  have := step_lone_select_recv_buf (buf := (v :: buf).toArray) (stepG_comm (k := k) (cs := cs) (rest := List.range' 1 (ops.size - 1)) j hw y (lz t D F hi hz)) A (by simp);rw [lone_eq_solo,this,Frame.finish_at,j];simp [lone_eq_solo]
 ·rw [hd];exact hk _ _ (t.put _ _ (by simpa [Nat.blt_eq] using hn)) u
theorem Runs.gX {id : Nat} {x : Operand} {e : TypeId} {ti : TypeInfo} {z : Value} (t : zN n a L) (H : St w0 (Ch c cap [] :: As) w) (j : ops[0]? = some o) (hd : o.dst = some d) (hn : Nat.blt d n = true) (A : o.guard = none)
  (B : o.op = .select #[{ chan := x,send := none,elem := e }] false) (D : evO L x = some (.chan (some c))) (hi : P.info? e = some ti) (hz : ti.zero = some z)
  (hk : ∀ a',zN n a' ((d,.tuple #[goInt (-1),.bool false,z]) :: L) -> WR P f ops 1 k a' w R) : Runs P f (.code (.region id ops false) :: k) a w R := by
 refine qu j ?_;obtain ⟨⟨s,r⟩,H1⟩ := H.ex;have y := H1.one 0 rfl;refine Runs.aj (a' := a.put o.dst (.tuple #[goInt (-1),.bool false,z])) (todo' := .inRegion ops (List.range' 1 (ops.size - 1)) :: k) (w' := w) (fun b cs u => ?_) (Runs.iD ?_)
 ·have hw : Region.wanted o (yielded ops a.tmps) = true := by simp [Region.wanted,A]
  have := step_lone_select_default (stepG_comm (k := k) (cs := cs) (rest := List.range' 1 (ops.size - 1)) j hw u (lz t B D hi hz)) y;rw [lone_eq_solo,this,Frame.finish_at,j];simp [lone_eq_solo]
 ·rw [hd];exact hk _ (t.put _ _ (by simpa [Nat.blt_eq] using hn))
theorem OpTo.C9 {x : Operand} {t e : TypeId} {dir : ChanDir} (i : Nat) (y : zN n a L) (H : St w0 As w) (hi : As[i]? = some (Ch c cap buf)) (u : o.op = .call { callee := .builtin .len,args := #[x],argTypes := #[t] }) (ht : P.underlying t = some (.chan dir e)) (z : evO L x = some (.chan (some c))) :
  OpTo P o a w fun v w' => v = .int .i64 buf.length /\ w' = w := by
 obtain ⟨dst,op,type,pos,after,guard⟩ := o;simp only at u;subst u;obtain ⟨h1,hs,⟨s,r⟩,hh⟩ := H.at i hi;have j := hs _ _ hh;simp only [hpOf] at j;refine OpTo.of_run (w' := w) ?_ ⟨rfl,rfl⟩;simp [execOp,resolve,invoke,builtin,y.eval z,Builtin.len_,xL P ht,getObj,Sem.run,j,goInt]
end
end
noncomputable section
structure Pd where
 i : Nat
 o : Oper
 v : Value
 obs : List Ob
def Pd.T (u : Pd) (w : World) : Prop := wc w u.obs
def wM (e : Array Bool) : List Pd -> Array Bool
 | [] => e
 | u :: U => (wM e U).setIfInBounds u.i true
def tx (ar : Act) : List Pd -> Act
 | [] => ar
 | u :: U => (tx ar U).put u.o.dst u.v
def qR (o : Oper) (b : Array Bool) : Prop := ∀ e ∈ o.after,Region.binds .any e = true -> b.getD e.on false = true
def elN (i : Nat) : List Nat -> Bool
 | [] => false
 | x :: l => match Nat.beq i x with
  | true => true
  | false => elN i l
theorem dV {i : Nat} : ∀ {l : List Nat},elN i l = true -> i ∈ l
 | x :: l,h => by
  simp only [elN] at h;split at h
  ·rename_i e;rw [Nat.eq_of_beq_eq_true e]; exact List.mem_cons_self
  ·exact mC _ (dV h)
def sR (o : Oper) : List Nat := (o.after.toList.filter (Region.binds .any)).map (·.on)
def ancS (ops : Array Oper) : Nat -> List Nat -> List Nat -> List Nat
 | 0,_,seen => seen
 | n + 1,[],seen => seen
 | n + 1,j :: todo,seen => match elN j seen with
  | true => ancS ops n todo seen
  | false => match ops[j]? with
   | none => ancS ops n todo seen
   | some o => ancS ops n (sR o ++ todo) (j :: seen)
def anc (ops : Array Oper) (i j : Nat) : Bool := match ops[j]? with
 | some o => elN i (ancS ops 4000 (sR o) [])
 | none => false
def Closed (ops : Array Oper) (b : Array Bool) : Prop := ∀ x o,ops[x]? = some o -> b.getD x false = true -> qR o b
theorem fz {o : Oper} {b : Array Bool} (hp : qR o b) : ∀ x ∈ sR o,b.getD x false = true := fun x j => by
 simp only [sR,List.mem_map,List.mem_filter,Array.mem_toList_iff] at j;obtain ⟨e,⟨he,t⟩,rfl⟩ := j;exact hp e he t
theorem jf {ops : Array Oper} {b : Array Bool} (z : Closed ops b) : ∀ (n : Nat) (todo seen : List Nat),(∀ x ∈ todo,b.getD x false = true) -> (∀ x ∈ seen,b.getD x false = true) -> ∀ x ∈ ancS ops n todo seen,b.getD x false = true
 | 0,todo,seen,_,hs,x,e => hs x (by simpa [ancS] using e)
 | n + 1,[],seen,_,hs,x,e => hs x (by simpa [ancS] using e)
 | n + 1,j :: todo,seen,ht,hs,x,e => by
  have t : ∀ x ∈ todo,b.getD x false = true := fun y u => ht y (mC _ u)
  have hj := ht j List.mem_cons_self;simp only [ancS] at e;split at e
  ·exact jf z n todo seen t hs x e
  ·split at e
   ·exact jf z n todo seen t hs x e
   ·rename_i o A;refine jf z n _ _ (fun y u => ?_) (fun y u => ?_) x e
    ·rcases List.mem_append.1 u with h | h
     ·exact fz (z j o A hj) y h
     ·exact t y h
    ·cases u with
     | head => exact hj
     | tail _ hm => exact hs y hm
theorem Bu {ops : Array Oper} {b : Array Bool} (e : Closed ops b) (i j : Nat) (o : Oper) (t : ops[j]? = some o) (hp : qR o b) (h : anc ops i j = true) : b.getD i false = true := by
 simp only [anc,t] at h;exact jf e _ _ _ (fz hp) (by simp) _ (dV h)
def tb (m i : Nat) : Bool := match Nat.land (Nat.shiftRight m i) 1 with
 | 0 => false
 | _ + 1 => true
theorem fl (m i : Nat) : tb m i = m.testBit i := by
 have e : Nat.land (Nat.shiftRight m i) 1 = (m >>> i) &&& 1 := rfl;unfold tb;rw [e,Nat.testBit,Nat.and_comm];cases h : 1 &&& m >>> i <;> simp
def bitL (i m : Nat) : Nat := Nat.lor (Nat.shiftLeft 1 i) m
theorem aM (i m x : Nat) : tb (bitL i m) x = true ↔ x = i \/ tb m x = true := by
 have e : bitL i m = (1 <<< i) ||| m := rfl;rw [fl,fl,e,Nat.testBit_or,Bool.or_eq_true];have : (1 <<< i).testBit x = true ↔ x = i := by
  rw [Nat.one_shiftLeft,Nat.testBit_two_pow];simp [eq_comm]
 rw [this]
def uu : List Nat -> Nat
 | [] => 0
 | x :: l => bitL x (uu l)
theorem vY (x : Nat) : ∀ l : List Nat,tb (uu l) x = true ↔ x ∈ l
 | [] => by simp [uu,fl]
 | y :: l => by rw [uu,aM,vY x l,iC]
def subM (a b : Nat) : Bool := Nat.beq (Nat.land a b) a
theorem nk {l : List Nat} {m : Nat} : subM (uu l) m = true ↔ ∀ x ∈ l,tb m x = true := by
 have e : Nat.land (uu l) m = uu l &&& m := rfl;unfold subM;rw [e];refine Iff.trans ⟨Nat.eq_of_beq_eq_true,fun h => by rw [h]; exact Nat.beq_refl _⟩ ?_;constructor
 ·intro h x j;have h1 := (vY x l).2 j;rw [fl,<- h,Nat.testBit_and,Bool.and_eq_true] at h1;rw [fl]; exact h1.2
 ·intro h;refine Nat.eq_of_testBit_eq fun x => ?_
  rw [Nat.testBit_and];cases j : (uu l).testBit x with
  | false => rfl
  | true =>
   have := h x ((vY x l).1 (by rw [fl]; exact j));rw [fl] at this;rw [this]; rfl
def nu (o : Oper) : Nat := uu (sR o)
def BR (ops : Array Oper) (o : Oper) : Nat := uu (o.looksAt ops)
def dneq (x y : Oper) : Bool := match x.dst,y.dst with
 | some d,some e => match Nat.beq d e with
  | true => false
  | false => true
 | _,_ => true
def ja (ops : Array Oper) (x y : Oper) : Bool := match x.dst with
 | some d => match tb (BR ops y) d with
  | true => false
  | false => true
 | none => true
def apP (ops : Array Oper) (i j : Nat) (x y : Oper) : Bool := Nat.beq i j || (dneq x y && (tb (nu y) i || tb (nu x) j || (ja ops x y && ja ops y x)))
def eB (ops : Array Oper) (i : Nat) (x : Oper) : Nat -> List Oper -> Bool
 | _,[] => true
 | j,y :: l => apP ops i j x y && eB ops i x (j + 1) l
def dC (ops : Array Oper) : Nat -> List Oper -> Bool
 | _,[] => true
 | i,x :: l => eB ops i x 0 ops.toList && (sR x).all (fun e => Nat.blt e ops.size) && dC ops (i + 1) l
def rp (ops : Array Oper) : Bool := Region.noSelect ops && dC ops 0 ops.toList
theorem kA {ops : Array Oper} {i : Nat} {x : Oper} : ∀ (l : List Oper) (j n : Nat) (y : Oper),eB ops i x j l = true -> l[n]? = some y -> apP ops i (j + n) x y = true
 | [],j,n,y,_,h => by simp at h
 | z :: l,j,0,y,h,e => by
  simp only [eB,Bool.and_eq_true] at h;simp at e; subst e; exact h.1
 | z :: l,j,n + 1,y,h,e => by
  simp only [eB,Bool.and_eq_true] at h;have := kA l (j + 1) n y h.2 (by simpa using e)
  rwa [Nat.add_right_comm,Nat.add_assoc] at this
theorem nr {ops : Array Oper} : ∀ (l : List Oper) (i n : Nat) (x : Oper),dC ops i l = true -> l[n]? = some x -> eB ops (i + n) x 0 ops.toList = true /\ ∀ e ∈ sR x,e < ops.size
 | [],i,n,x,_,h => by simp at h
 | z :: l,i,0,x,h,j => by
  simp only [dC,Bool.and_eq_true,List.all_eq_true] at h;simp at j; subst j;exact ⟨h.1.1,fun e he => by simpa [Nat.blt_eq] using h.1.2 e he⟩
 | z :: l,i,n + 1,x,h,j => by
  simp only [dC,Bool.and_eq_true] at h;have := nr l (i + 1) n x h.2 (by simpa using j)
  rwa [Nat.add_right_comm,Nat.add_assoc] at this
theorem ic {x y : Oper} (h : dneq x y = true) {d : Tmp} (e : x.dst = some d) : y.dst ≠ some d := by
 intro j;simp [dneq,e,j] at h
theorem ow {ops : Array Oper} {x y : Oper} (h : ja ops x y = true) {d : Tmp} (e : x.dst = some d) : d ∉ y.looksAt ops := by
 intro j;have := (vY d (y.looksAt ops)).2 j;simp only [ja,e,BR,this] at h;cases h
theorem kU {ops : Array Oper} (h : rp ops = true) {i j : Nat} {x y : Oper} (t : ops[i]? = some x) (u : ops[j]? = some y) (e : i ≠ j) :
  dneq x y = true /\ ((tb (nu y) i = true \/ tb (nu x) j = true) \/ ja ops x y = true /\ ja ops y x = true) := by
 simp only [rp,Bool.and_eq_true] at h;have h1 := (nr _ 0 i x h.2 (by simpa using t)).1;have h2 := kA _ 0 j y h1 (by simpa using u);simp only [apP,Bool.or_eq_true,Bool.and_eq_true,Nat.zero_add] at h2;rcases h2 with h2 | h2
 ·exact absurd (Nat.eq_of_beq_eq_true h2) e
 ·exact h2
theorem bl {o : Oper} {i : Nat} : tb (nu o) i = true ↔ ∃ e ∈ o.after,Region.binds .any e = true /\ e.on = i := by
 rw [nu,vY,sR];simp only [List.mem_map,List.mem_filter,Array.mem_toList_iff];constructor
 ·rintro ⟨e,⟨h1,h2⟩,h3⟩; exact ⟨e,h1,h2,h3⟩
 ·rintro ⟨e,h1,h2,h3⟩; exact ⟨e,⟨h1,h2⟩,h3⟩
theorem qm {m i : Nat} {d : Bool} : ∀ dn : List Nat,i < m -> ((listed m dn).getD i d = true ↔ i ∈ dn) := by
 suffices ∀ (dn : List Nat) (b : Array Bool),b.size = m -> i < m -> (((dn.foldl (fun b i => b.setIfInBounds i true) b).getD i d = true) ↔ (b.getD i d = true \/ i ∈ dn)) by
  intro dn hi;have h := this dn (Array.replicate m false) (by simp) hi;rw [listed,h];simp [hi]
 intro dn;induction dn with
 | nil => intro b _ _; simp
 | cons x dn ih =>
  intro b j hi;rw [List.foldl_cons,ih _ (by simpa using j) hi];by_cases e : x = i
  ·subst e; simp [j,hi]
  ·rw [getD_set_ne d e]; simp [Ne.symm e]
theorem eN {m i : Nat} {d : Bool} (dn : List Nat) (hi : m <= i) : (listed m dn).getD i d = d := by
 have hs : (listed m dn).size = m := by
  unfold listed
  suffices ∀ b : Array Bool,(dn.foldl (fun b i => b.setIfInBounds i true) b).size = b.size by simpa using this (Array.replicate m false)
  induction dn with
  | nil => simp
  | cons x dn ih => intro b; rw [List.foldl_cons,ih]; simp
 simp [Array.getElem?_eq_none (hs ▸ hi)]
def ua (m : Nat) : Nat -> List Oper -> List Nat
 | _,[] => []
 | i,x :: l => match tb m i with
  | true => ua m (i + 1) l
  | false => match subM (nu x) m with
   | true => i :: ua m (i + 1) l
   | false => ua m (i + 1) l
theorem nP {m j : Nat} : ∀ (l : List Oper) (i : Nat),j ∈ ua m i l ↔ ∃ n x,l[n]? = some x /\ j = i + n /\ tb m j = false /\ subM (nu x) m = true
 | [],i => by simp [ua]
 | z :: l,i => by
  have ih := nP (m := m) (j := j) l (i + 1);have t : (∃ n x,(z :: l)[n]? = some x /\ j = i + n /\ tb m j = false /\ subM (nu x) m = true) ↔ (j = i /\ tb m i = false /\ subM (nu z) m = true) \/ j ∈ ua m (i + 1) l := by
   rw [ih];constructor
   ·rintro ⟨n,x,e,hj,h1,h2⟩;cases n with
    | zero => simp at e; subst e; left; exact ⟨hj,by rw [hj] at h1; exact h1,h2⟩
    | succ n => right; exact ⟨n,x,by simpa using e,by omega,h1,h2⟩
   ·rintro (⟨rfl,h1,h2⟩ | ⟨n,x,e,hj,h1,h2⟩)
    ·exact ⟨0,z,by simp,by simp,h1,h2⟩
    ·exact ⟨n + 1,x,by simpa using e,by omega,h1,h2⟩
  rw [t,ua];split
  ·rename_i h; simp [h]
  ·rename_i h;split
   ·rename_i h2; simp [h,h2]
   ·rename_i h2; simp [h2]
theorem lv {ops : Array Oper} (h : rp ops = true) (dn : List Nat) (j : Nat) : j ∈ ua (uu dn) 0 ops.toList ↔ j ∈ Region.ready .any ops (listed ops.size dn) := by
 rw [nP,mem_ready];constructor
 ·rintro ⟨n,x,z,hj,h1,h2⟩;have e : n = j := by omega
  subst e;have A : ops[n]? = some x := by simpa using z
  have t : n < ops.size := (Array.getElem?_eq_some_iff.1 A).1;refine ⟨?_,x,A,fun e he B => ?_⟩
  ·cases hh : (listed ops.size dn).getD n true with
   | false => rfl
   | true =>
    have := (vY n dn).2 ((qm dn t).1 hh);rw [this] at h1; cases h1
  ·simp only [rp,Bool.and_eq_true] at h;have u : e.on ∈ sR x := by
    simp only [sR,List.mem_map,List.mem_filter,Array.mem_toList_iff];exact ⟨e,⟨he,B⟩,rfl⟩
   have hl := (nr _ 0 n x h.2 z).2 _ u;exact (qm dn hl).2 ((vY _ dn).1 (nk.1 h2 _ u))
 ·rintro ⟨h1,x,z,h2⟩;have t : j < ops.size := (Array.getElem?_eq_some_iff.1 z).1;refine ⟨j,x,by simpa using z,by simp,?_,?_⟩
  ·cases hh : tb (uu dn) j with
   | false => rfl
   | true =>
    have := (qm (d := true) dn t).2 ((vY j dn).1 hh);rw [this] at h1; cases h1
  ·refine nk.2 fun y D => ?_
   simp only [sR,List.mem_map,List.mem_filter,Array.mem_toList_iff] at D;obtain ⟨e,⟨he,B⟩,rfl⟩ := D;have := h2 e he B;rcases Nat.lt_or_ge e.on ops.size with hl | hl
   ·exact (vY _ dn).2 ((qm dn hl).1 this)
   ·rw [eN dn hl] at this; cases this
theorem ae {ops : Array Oper} (h : rp ops = true) {m i : Nat} {o : Oper} {dn : List Nat} (hm : ∀ x,tb m x = true ↔ x ∈ dn) (e : ops[i]? = some o) (h1 : tb m i = false) (h2 : subM (nu o) m = true) :
  i ∈ Region.ready .any ops (listed ops.size dn) := by
 refine (lv h dn i).1 ((nP _ 0).2 ⟨i,o,by simpa using e,by simp,?_,?_⟩)
 ·cases hh : tb (uu dn) i with
  | false => rfl
  | true => rw [(hm i).2 ((vY i dn).1 hh)] at h1; cases h1
 ·exact nk.2 fun x j => (vY x dn).2 ((hm x).1 (nk.1 h2 x j))
theorem kT {ops : Array Oper} (h : rp ops = true) {dn : List Nat} : ua (uu dn) 0 ops.toList = [] ↔ Region.ready .any ops (listed ops.size dn) = [] := by
 rw [List.eq_nil_iff_forall_not_mem,List.eq_nil_iff_forall_not_mem];exact forall_congr' fun j => not_congr (lv h dn j)
def jQ (ops : Array Oper) : List Nat -> Nat -> Bool
 | [],_ => true
 | i :: is,m => match ops[i]? with
  | none => false
  | some o => match tb m i with
   | true => false
   | false => match subM (nu o) m with
    | false => false
    | true => jQ ops is (bitL i m)
section
variable {P : Program} {ops : Array Oper} {Q : Exit -> Act -> World -> Prop}
def OkU (P : Program) (ops : Array Oper) (t : Array Bool) (ar : Act) : List Pd -> Prop
 | [] => True
 | u :: U => ops[u.i]? = some u.o /\ (wM t U).getD u.i true = false /\ qR u.o (wM t U) /\ YieldsIf P ops u.T u.o u.v (tx ar U) /\
   (∀ j x,ops[j]? = some x -> j ≠ u.i -> (wM t U).getD j true = false -> (∀ e ∈ x.after,Region.binds .any e = true -> e.on ≠ u.i) -> u.o.apart ops x = true) /\ OkU P ops t ar U
theorem rU {b : Array Bool} {i j : Nat} (h : (b.setIfInBounds i true).getD j true = false) : b.getD j true = false := by
 by_cases e : i = j
 ·subst e;rcases Nat.lt_or_ge i b.size with t | t
  ·simp [t] at h
  ·simp [Array.getElem?_eq_none t] at h
 ·rwa [getD_set_ne true e] at h
theorem lF {e : Array Bool} {j : Nat} : ∀ {U : List Pd},(wM e U).getD j true = false -> e.getD j true = false
 | [],h => h
 | u :: U,h => lF (U := U) (rU h)
theorem qw {e : Array Bool} {j : Nat} (h : e.getD j false = true) : ∀ {U : List Pd},(wM e U).getD j false = true
 | [] => h
 | u :: U => getD_set_true (qw h)
theorem nS {b : Array Bool} {j : Nat} (h : b.getD j false = true) (h2 : b.getD j true = false) : False := by
 rcases Nat.lt_or_ge j b.size with e | e
 ·simp [e] at h h2; rw [h2] at h; cases h
 ·simp [Array.getElem?_eq_none e] at h
theorem sK (e : Array Bool) (j : Nat) : ∀ U : List Pd,wM (e.setIfInBounds j true) U = (wM e U).setIfInBounds j true
 | [] => rfl
 | u :: U => by
  simp only [wM,sK e j U];by_cases h : u.i = j
  ·subst h; simp
  ·rw [Array.setIfInBounds_comm _ _ h]
theorem je {u : Pd} {a : Act} {d : Option Tmp} {v : Value} (hs : Region.noSelect ops = true) (hu : ops[u.i]? = some u.o) (hd : ∀ x,d = some x -> x ∉ u.o.looksAt ops) :
  YieldsIf P ops u.T u.o u.v a ↔ YieldsIf P ops u.T u.o u.v (a.put d v) :=
 ⟨fun h => h.of_same (execOp_put u.o (fun cs b => Region.noSelect_spec hs u.i u.o cs b hu) a d v hd) (wanted_put u.o a d v hd),
  fun h => h.of_same (execOp_put u.o (fun cs b => Region.noSelect_spec hs u.i u.o cs b hu) a d v hd).symm (wanted_put u.o a d v hd).symm⟩
theorem jh {z : Array Bool} {ar : Act} {j : Nat} {A : Oper} (hj : ops[j]? = some A) (hp : qR A z) : ∀ {U : List Pd},OkU P ops z ar U -> (wM z U).getD j true = false -> ∀ u ∈ U,u.o.apart ops A = true
 | [],_,_,u,hu => by cases hu
 | x :: U,h,t,u,hu => by
  obtain ⟨h1,h2,h3,h4,F,I⟩ := h;have D : j ≠ x.i := by
   rintro rfl;have : x.i < ops.size := (Array.getElem?_eq_some_iff.1 hj).1;simp only [wM] at t;rcases Nat.lt_or_ge x.i (wM z U).size with B | B
   ·simp [B] at t
   ·simp [Array.getElem?_eq_none B] at t
  have y : (wM z U).getD j true = false := rU t;cases hu with
  | head =>
   refine F j A hj D y fun e he J heq => ?_
   have := hp e he J;rw [heq] at this;exact nS (qw (U := U) this) h2
  | tail _ hm => exact jh hj hp I y u hm
theorem pz {d : Option Tmp} {v : Value} (ar : Act) : ∀ (U : List Pd),(∀ u ∈ U,∀ x,u.o.dst = some x -> d ≠ some x) -> tx (ar.put d v) U = (tx ar U).put d v
 | [],_ => rfl
 | u :: U,h => by
  simp only [tx,pz ar U fun u hu => h u (mC _ hu)];exact Act.put_comm _ v u.v fun x e => by
   have := h u (by simp);intro hd;exact this x hd e
theorem jG (hs : Region.noSelect ops = true) {W : Array Bool} {ar : Act} {j : Nat} {y : Oper} (v : Value) (hj : ops[j]? = some y) : ∀ {U : List Pd},(∀ u ∈ U,u.o.apart ops y = true) -> (∀ u ∈ U,u.i ≠ j) -> OkU P ops W ar U ->
  OkU P ops (W.setIfInBounds j true) (ar.put y.dst v) U
 | [],_,_,_ => trivial
 | u :: U,z,A,h => by
  obtain ⟨h1,h2,h3,h4,X,Y⟩ := h;have S : ∀ x ∈ U,x.o.apart ops y = true := fun x t => z x (mC _ t)
  have Z : ∀ x ∈ U,x.i ≠ j := fun x t => A x (mC _ t)
  have D : tx (ar.put y.dst v) U = (tx ar U).put y.dst v := pz ar U fun u hu x t => by
   have := (Oper.apart_spec (S u hu)).2.1 x t;exact this
  refine ⟨h1,?_,?_,?_,?_,jG hs v hj S Z Y⟩
  ·rw [sK,getD_set_ne true (Ne.symm (A u (by simp)))]; exact h2
  ·intro e he hb;rw [sK];exact getD_set_true (h3 e he hb)
  ·rw [D];exact (je hs h1 fun x t => (Oper.apart_spec (z u (by simp))).2.2 x t).1 h4
  ·intro j' O I B F J;rw [sK] at F;exact X j' O I B (rU F) J
theorem fV (hs : Region.noSelect ops = true) {A : Array Bool} {ar : Act} {u : Pd} : ∀ {X Y : List Pd},OkU P ops A ar (X ++ u :: Y) -> qR u.o A -> (∀ x ∈ X,∀ d,x.o.dst = some d -> u.o.dst ≠ some d) ->
  OkU P ops (A.setIfInBounds u.i true) (ar.put u.o.dst u.v) (X ++ Y) /\ wM (A.setIfInBounds u.i true) (X ++ Y) = wM A (X ++ u :: Y) /\
  tx (ar.put u.o.dst u.v) (X ++ Y) = tx ar (X ++ u :: Y) /\ YieldsIf P ops u.T u.o u.v ar
 | [],Y,h,hp,_ => by
  simp only [List.nil_append] at h ⊢;obtain ⟨h1,h2,h3,h4,D,z⟩ := h;have j := jh (P := P) h1 hp z h2;have B : ∀ x ∈ Y,x.i ≠ u.i := by
   intro x t heq;clear j h4 D;induction Y with
   | nil => cases t
   | cons y Y ih =>
    obtain ⟨g1,g2,g3,g4,g5,g6⟩ := z;cases t with
    | head =>
     simp only [wM] at h2;rw [heq] at h2;rcases Nat.lt_or_ge u.i (wM A Y).size with F | F
     ·simp [F] at h2
     ·simp [Array.getElem?_eq_none F] at h2
    | tail _ hm => exact ih (rU h2) (fun e he J => qw (hp e he J)) g6 hm
  refine ⟨jG hs u.v h1 j B z,by simp [wM,sK],?_,?_⟩
  ·rw [pz ar Y fun x t d hd => (Oper.apart_spec (j x t)).2.1 d hd]; rfl
  ·clear D h2 h3 B;induction Y with
   | nil => exact h4
   | cons y Y ih =>
    obtain ⟨g1,g2,g3,g4,g5,g6⟩ := z;refine ih ?_ g6 fun x t => j x (mC _ t)
    simp only [tx] at h4;exact (je hs h1 fun x t => (Oper.apart_spec (j y (by simp))).1 x t).2 h4
 | x :: X,Y,h,hp,hd => by
  simp only [List.cons_append] at h ⊢;obtain ⟨h1,h2,h3,h4,D,z⟩ := h;obtain ⟨S,k2,I,k4⟩ := fV hs z hp fun y O => hd y (mC _ O)
  refine ⟨⟨h1,by rw [k2]; exact h2,by rw [k2]; exact h3,by rw [I]; exact h4,by rw [k2]; exact D,S⟩,by simp only [wM,k2],by simp only [tx,I],k4⟩
theorem aq {i : Nat} {e : Array Bool} : ∀ {U : List Pd},e.getD i true = false -> (wM e U).getD i true ≠ false -> ∃ X u Y,U = X ++ u :: Y /\ u.i = i
 | [],h1,h2 => absurd h1 h2
 | u :: U,h1,h2 => by
  by_cases hu : u.i = i
  ·exact ⟨[],u,U,rfl,hu⟩
  ·simp only [wM] at h2;rw [getD_set_ne true hu] at h2;obtain ⟨X,x,Y,rfl,j⟩ := aq h1 h2;exact ⟨u :: X,x,Y,rfl,j⟩
theorem aG {e : Array Bool} {ar : Act} : ∀ {U : List Pd},OkU P ops e ar U -> U ≠ [] -> ∃ i,i ∈ Region.ready .any ops e
 | [],_,h => absurd rfl h
 | [u],h,_ => by
  obtain ⟨h1,h2,h3,_⟩ := h;exact ⟨u.i,mem_ready.2 ⟨h2,u.o,h1,h3⟩⟩
 | u :: x :: U,h,_ => aG (U := x :: U) h.2.2.2.2.2 (by simp)
theorem lx (h : rp ops = true) : Region.noSelect ops = true := by
 simp only [rp,Bool.and_eq_true] at h; exact h.1
theorem eH (h : rp ops = true) {i j : Nat} {x y : Oper} (t : ops[i]? = some x) (u : ops[j]? = some y) (e : i ≠ j) {d : Tmp} (hd : x.dst = some d) : y.dst ≠ some d :=
 ic (kU h t u e).1 hd
theorem jF {e : Array Bool} {ar : Act} : ∀ {U : List Pd},OkU P ops e ar U -> ∀ u ∈ U,ops[u.i]? = some u.o /\ e.getD u.i true = false
 | [],_,u,hu => by cases hu
 | x :: U,h,u,hu => by
  cases hu with
  | head => exact ⟨h.1,lF h.2.1⟩
  | tail _ hm => exact jF h.2.2.2.2.2 u hm
theorem aF {t : Array Bool} {ar : Act} {u : Pd} {Y : List Pd} : ∀ {X : List Pd},OkU P ops t ar (X ++ u :: Y) -> ∀ x ∈ X,x.i ≠ u.i
 | [],_,x,j => by cases j
 | y :: X,h,x,j => by
  cases j with
  | head =>
   intro he;have h2 := h.2.1;have : (wM t (X ++ u :: Y)).getD u.i true ≠ false := by
    clear h h2 he;induction X with
    | nil =>
     simp only [List.nil_append,wM];intro h;rcases Nat.lt_or_ge u.i (wM t Y).size with e | e
     ·simp [e] at h
     ·simp [Array.getElem?_eq_none e] at h
    | cons z X ih => intro h; exact ih (rU h)
   rw [he] at h2;exact this h2
  | tail _ hm => exact aF h.2.2.2.2.2 x hm
theorem kD {y : Array Bool} {j : Nat} {A : Oper} (B : Closed ops y) (hj : ops[j]? = some A) (hp : qR A y) : Closed ops (y.setIfInBounds j true) := by
 intro x o u ht e he z;by_cases t : j = x
 ·subst t;rw [hj] at u; cases u;exact getD_set_true (hp e he z)
 ·rw [getD_set_ne false t] at ht;exact getD_set_true (B x o u ht e he z)
theorem jd (hd : rp ops = true) (M : Pd -> Prop) {fu : Nat} {w : World} {lc : Array Bool} {ac : Act}
  (O : Region.ready .any ops lc = [] -> ∀ t ar,t = lc -> ar = ac -> wpAny P .any ops Q fu t ar w)
  (y : ∀ j I,j ∈ Region.ready .any ops lc -> ops[j]? = some I -> ∀ U t ar,(∀ u ∈ U,M u) -> (∀ u ∈ U,u.T w) -> OkU P ops t ar U -> Closed ops t -> wM t U = lc -> tx ar U = ac -> qR I t ->
   ∃ B,fu = B + 1 /\ wpOp P ops Q j (wpAny P .any ops Q (B + U.length) (t.setIfInBounds j true)) ar w) :
  ∀ (n : Nat) (U : List Pd) (t : Array Bool) (ar : Act),U.length = n -> (∀ u ∈ U,M u) -> (∀ u ∈ U,u.T w) -> OkU P ops t ar U -> Closed ops t -> wM t U = lc -> tx ar U = ac -> wpAny P .any ops Q (fu + U.length) t ar w := by
 intro n;induction n with
 | zero =>
  intro U t ar hn Z W F J h1 h2;have S : U = [] := List.eq_nil_of_length_eq_zero hn;subst S;simp only [wM,tx] at h1 h2;by_cases hr : Region.ready .any ops lc = []
  ·exact O hr t ar h1 h2
  ·obtain ⟨i,hi⟩ := List.exists_mem_of_ne_nil _ hr;obtain ⟨_,oi,a1,a2⟩ := mem_ready.1 hi;obtain ⟨B,rfl,_⟩ := y i oi hi a1 [] t ar (by simp) (by simp) trivial J h1 h2 (by rw [h1]; exact a2);simp only [List.length_nil,Nat.add_zero];refine ⟨fun h => absurd (h1 ▸ h) hr,fun j hj => ?_⟩;rw [h1] at hj;obtain ⟨_,I,z,A⟩ := mem_ready.1 hj;obtain ⟨a6,he,hw⟩ := y j I hj z [] t ar (by simp) (by simp) trivial J h1 h2 (by rw [h1]; exact A);cases he;simpa using hw
 | succ n ih =>
  intro U t ar hn Z W F J h1 h2;have a0 : U ≠ [] := by intro h; subst h; simp at hn
  have e : fu + U.length = (fu + n) + 1 := by omega
  rw [e];refine ⟨fun h => ?_,fun j hj => ?_⟩
  ·obtain ⟨i,hi⟩ := aG F a0;rw [h] at hi; cases hi
  ·obtain ⟨a3,I,z,A⟩ := mem_ready.1 hj;by_cases hl : (wM t U).getD j true = false
   ·have hr : j ∈ Region.ready .any ops lc := mem_ready.2 ⟨by rw [<- h1]; exact hl,I,z,fun e he hb => by rw [<- h1]; exact qw (A e he hb)⟩;obtain ⟨B,he,hw⟩ := y j I hr z U t ar Z W F J h1 h2 A;have : fu + n = B + U.length := by omega
    rw [this]; exact hw
   ·obtain ⟨X,u,Y,rfl,rfl⟩ := aq a3 hl;have hu := jF F u (by simp);rw [hu.1] at z; cases z;obtain ⟨k1,k2,k3,k4⟩ := fV (lx hd) F A fun x D d a4 => eH hd (jF F x (by simp [D])).1 hu.1 (aF F x D) a4
    refine k4.wpOp hu.1 (W u (by simp)) ?_;have := ih (X ++ Y) (t.setIfInBounds u.i true) (ar.put u.o.dst u.v) (by simp at hn ⊢; omega) (fun x D => Z x (by simp at D ⊢; rcases D with h | h <;> simp [h])) (fun x D => W x (by simp at D ⊢; rcases D with h | h <;> simp [h])) k1 (kD J hu.1 A) (k2.trans h1) (k3.trans h2);have e2 : fu + n = fu + (X ++ Y).length := by simp at hn ⊢; omega
    rw [e2]; exact this
def WP (P : Program) (f : FuncId) (ops : Array Oper) (fu : Nat) (dn : List Nat) (pend : List (Nat × List Ob)) (k : List Item) (a : Act) (w : World) (R : Value -> World -> Prop) : Prop :=
 ∀ (U : List Pd) (e : Array Bool) (ar : Act),(∀ u ∈ U,u.obs = [] \/ (u.i,u.obs) ∈ pend) -> (∀ u ∈ U,u.T w) -> OkU P ops e ar U -> Closed ops e -> wM e U = listed ops.size dn -> tx ar U = a ->
  wpAny P .any ops (RQ P f k R) (fu + U.length) e ar w
def sZ (ops : Array Oper) (j : Nat) : List (Nat × List Ob) -> List Ob
 | [] => []
 | (i,obs) :: r => match anc ops i j with
  | true => sZ ops j r
  | false => obs ++ sZ ops j r
def oc (ops : Array Oper) (j : Nat) : List (Nat × List Ob) -> List (Nat × List Ob)
 | [] => []
 | (i,obs) :: r => match anc ops i j with
  | true => oc ops j r
  | false => (i,obs) :: oc ops j r
theorem mT {j i : Nat} {obs : List Ob} (h : anc ops i j = false) : ∀ {pend : List (Nat × List Ob)},(i,obs) ∈ pend -> (i,obs) ∈ oc ops j pend
 | (e,o') :: r,hm => by
  simp only [oc];cases hm with
  | head => rw [h]; exact List.mem_cons_self
  | tail _ hm =>
   split
   ·exact mT h hm
   ·exact mC _ (mT h hm)
theorem nJ {w : World} {j i : Nat} {obs : List Ob} (h : anc ops i j = false) : ∀ {pend : List (Nat × List Ob)},wc w (sZ ops j pend) -> (i,obs) ∈ pend -> wc w obs
 | (e,o') :: r,ha,hm => by
  simp only [sZ] at ha;cases hm with
  | head => rw [h] at ha; exact (wL.1 ha).1
  | tail _ hm =>
   split at ha
   ·exact nJ h ha hm
   ·exact nJ h (wL.1 ha).2 hm
section
variable {f : FuncId} {k : List Item} {a : Act} {w : World} {R : Value -> World -> Prop} {fu : Nat} {dn : List Nat} {pend : List (Nat × List Ob)}
theorem Runs.CW {id : Nat} (hm : P.follows .mixedOrders = true) (h : WP P f ops ops.size [] [] k a { w with drawn := w.drawn + 1 } R) : Runs P f (.code (.region id ops true) :: k) a w R := by
 refine Runs.of_wp (wp_region_any hm ?_);have := h [] (Array.replicate ops.size false) a (by simp) (by simp) trivial (fun x o j ht => by
  rcases Nat.lt_or_ge x ops.size with e | e
  ·simp [e] at ht
  ·simp only [Array.getD_eq_getD_getElem?,Array.getElem?_replicate] at ht;split at ht <;> simp at ht) rfl rfl
 simpa using this
theorem WP.done (hs : rp ops = true) (e : ua (uu dn) 0 ops.toList = []) (h : Runs P f k a w R) : WP P f ops fu dn pend k a w R := by
 have hr := (kT hs).1 e;intro U t ar _ y z A h1 h2;refine jd hs (fun _ => True) (fun _ t ar u x => ?_) (fun j B hj => by rw [hr] at hj; cases hj) _ U t ar rfl (fun _ _ => trivial) y z A h1 h2;subst u; subst x;cases fu with
 | zero => exact ⟨hr,h⟩
 | succ fu => exact ⟨fun _ => h,fun i hi => by rw [hr] at hi; cases hi⟩
theorem WP.take {i : Nat} {o : Oper} {v : Value} {obs : List Ob} (B : rp ops = true) (hi : ops[i]? = some o) (hr : i ∈ Region.ready .any ops (listed ops.size dn))
  (hy : YieldsIf P ops (fun w => wc w obs) o v a) (Z : wc w obs) (h : WP P f ops fu (dn ++ [i]) ((i,obs) :: pend) k (a.put o.dst v) w R) : WP P f ops (fu + 1) dn pend k a w R := by
 intro U lr ar hp W X Y h1 h2;obtain ⟨O,o',z,A⟩ := mem_ready.1 hr;rw [hi] at z; cases z;have x : ∀ j y,ops[j]? = some y -> j ≠ i -> (listed ops.size dn).getD j true = false -> (∀ e ∈ y.after,Region.binds .any e = true -> e.on ≠ i) -> o.apart ops y = true := by
  intro j y hj I F J;obtain ⟨hd,hp⟩ := kU B hi hj (Ne.symm I);rcases hp with (hp | hp) | ⟨hp,hq⟩
  ·obtain ⟨e,he,D,rfl⟩ := bl.1 hp;exact absurd rfl (J e he D)
  ·obtain ⟨e,he,D,rfl⟩ := bl.1 hp;have := A e he D;exact (nS this F).elim
  ·unfold Oper.apart;cases S : o.dst with
   | none =>
    cases t : y.dst with
    | none => rfl
    | some d => simpa using ow hq t
   | some d =>
    have g1 := ow hp S;have g2 := ic hd S;cases t : y.dst with
    | none => simp [g1]
    | some e => rw [t] at g2; simp only [ne_eq,Option.some.injEq] at g2; simpa [g1,g2] using ow hq t
 have := h (⟨i,o,v,obs⟩ :: U) lr ar (fun u hu => by
   cases hu with
   | head => right; simp
   | tail _ hm => rcases hp u hm with h | h; exact .inl h; exact .inr (mC _ h)) (fun u hu => by
   cases hu with
   | head => exact Z
   | tail _ hm => exact W u hm) ⟨hi,by rw [h1]; exact O,by rw [h1]; exact A,by rw [h2]; exact hy,by rw [h1]; exact x,X⟩ Y (by rw [mV,<- h1]; rfl) (by simp only [tx,h2])
 simp only [lC] at this;have e : fu + 1 + U.length = fu + (U.length + 1) := by omega
 rw [e]; exact this
def segP (P : Program) (n : Nat) (ops : Array Oper) : List Nat -> Env -> List Value -> List (Nat × List Ob) -> List (Nat × List Ob)
 | [],L,_,pend => pend
 | i :: is,L,j,pend => match ops[i]? with
  | none => pend
  | some o => match uX ops L o with
   | none => pend
   | some false => match setE n o.dst undef L with
    | some L1 => segP P n ops is L1 j pend
    | none => pend
   | some true => match evOp P L o j with
    | none => pend
    | some (v,obs,e) => match setE n o.dst v L with
     | none => pend
     | some L1 => match obs with
      | [] => segP P n ops is L1 e pend
      | b :: t => segP P n ops is L1 e ((i,b :: t) :: pend)
theorem WP.weaken {e : List (Nat × List Ob)} (j : ∀ i obs,obs ≠ [] -> (i,obs) ∈ e -> (i,obs) ∈ pend) (h : WP P f ops fu dn pend k a w R) : WP P f ops fu dn e k a w R := by
 intro U z ar hp t x y h1 h2;refine h U z ar (fun u hu => ?_) t x y h1 h2;rcases hp u hu with h | h
 ·exact .inl h
 ·by_cases he : u.obs = []
  ·exact .inl he
  ·exact .inr (j _ _ he h)
theorem WP.segs {n : Nat} (z : rp ops = true) : ∀ (is : List Nat) (fu m : Nat) (dn : List Nat) (pend : List (Nat × List Ob)) (a : Act) (L : Env) (j : List Value) (L' : Env) (obs : List Ob),zN n a L -> (∀ x,tb m x = true ↔ x ∈ dn) ->
  jQ ops is m = true -> oa P n ops is L j = some (L',obs) -> wc w obs ->
  (∀ a',zN n a' L' -> WP P f ops fu (dn ++ is) (segP P n ops is L j pend) k a' w R) -> WP P f ops (is.length + fu) dn pend k a w R := by
 intro is;induction is with
 | nil => intro fu m dn pend a L j L' obs A _ _ h _ hk; simp [oa] at h; obtain ⟨rfl,rfl⟩ := h; simpa [segP] using hk a A
 | cons i is ih =>
  intro fu m dn pend a L j L' obs A hm ht h S hk;obtain ⟨o0,Y,Z,a0,U⟩ : ∃ o,ops[i]? = some o /\ tb m i = false /\ subM (nu o) m = true /\ jQ ops is (bitL i m) = true := by
   simp only [jQ] at ht;split at ht
   ·cases ht
   ·rename_i o S;split at ht
    ·cases ht
    ·rename_i h1;split at ht
     ·cases ht
     ·rename_i h2;exact ⟨o,S,h1,h2,ht⟩
  have B := ae z hm Y Z a0;have J : ∀ x,tb (bitL i m) x = true ↔ x ∈ dn ++ [i] := fun x => by
   rw [aM,hm,iA,List.mem_singleton,or_comm]
  have X : (i :: is).length + fu = (is.length + fu) + 1 := by simp; omega
  rw [X];simp only [oa] at h;split at h
  ·cases h
  ·rename_i o y;split at h
   ·cases h
   ·rename_i hw;split at h
    ·rename_i L1 t;have e : ∀ pend,segP P n ops (i :: is) L j pend = segP P n ops is L1 j pend := fun pend => by simp [segP,y,hw,t]
     refine WP.take z y B (obs := []) (v := undef) (.inr ⟨wo A hw,rfl⟩) trivial ?_;refine WP.weaken (pend := pend) (fun i' W O hm => by
      cases hm with
      | head => exact absurd rfl O
      | tail _ hm => exact hm) ?_
     exact ih fu _ (dn ++ [i]) pend _ L1 j L' obs (qe A t) J U h S fun a2 h2 => by have := hk a2 h2; rw [e] at this; simpa using this
    ·cases h
   ·rename_i hw;split at h
    ·cases h
    ·rename_i v F u hv;split at h
     ·cases h
     ·rename_i L1 t;split at h
      ·rename_i L2 I D;cases h;rw [wL] at S;refine WP.take z y B (obs := F) (v := v) (.inl ⟨wo A hw,fun w hw => kJ A hv hw⟩) S.1 ?_;cases F with
       | nil =>
        have e : ∀ pend,segP P n ops (i :: is) L j pend = segP P n ops is L1 u pend := fun pend => by simp [segP,y,hw,hv,t]
        refine WP.weaken (pend := pend) (fun i' W O hm => by
         cases hm with
         | head => exact absurd rfl O
         | tail _ hm => exact hm) ?_
        exact ih fu _ (dn ++ [i]) pend _ L1 u _ I (qe A t) J U D S.2 fun a2 h2 => by have := hk a2 h2; rw [e] at this; simpa using this
       | cons b bs =>
        have e : ∀ pend,segP P n ops (i :: is) L j pend = segP P n ops is L1 u ((i,b :: bs) :: pend) := fun pend => by simp [segP,y,hw,hv,t]
        exact ih fu _ (dn ++ [i]) ((i,b :: bs) :: pend) _ L1 u _ I (qe A t) J U D S.2 fun a2 h2 => by have := hk a2 h2; rw [e] at this; simpa using this
      ·cases h
theorem WP.seg {n : Nat} {L : Env} (e : rp ops = true) (A : zN n a L) (is : List Nat) (t : List Value) (ks : List Nat) {Lo : Env} {obs : List Ob}
  (ht : jQ ops is (uu dn) = true) (he : ly P n ops is L t ks = some (Lo,obs)) (B : wc w obs)
  (hk : ∀ a',zN n a' Lo -> WP P f ops fu (dn ++ is) (segP P n ops is L t pend) k a' w R) : WP P f ops (is.length + fu) dn pend k a w R := by
 unfold ly at he;split at he
 ·cases he
 ·rename_i L1 y hs;split at he
  ·rename_i z j;cases he;exact WP.segs e _ _ _ _ _ _ _ _ _ _ A (fun x => vY x dn) ht hs B fun a' u => hk a' (qd u j)
  ·cases he
theorem mP {ar : Act} {o : Oper} (e : ∀ cs b,o.op ≠ .select cs b) : ∀ {U : List Pd},(∀ u ∈ U,∀ d,u.o.dst = some d -> d ∉ o.looksAt ops) -> execOp (tx ar U).eval o = execOp ar.eval o /\ Region.wanted o (yielded ops (tx ar U).tmps) = Region.wanted o (yielded ops ar.tmps)
 | [],_ => ⟨rfl,rfl⟩
 | u :: U,h => by
  obtain ⟨h1,h2⟩ := mP (ar := ar) e fun x j => h x (mC _ j)
  exact ⟨(execOp_put o e _ _ _ (h u (by simp))).trans h1,(wanted_put o _ _ _ (h u (by simp))).trans h2⟩
def ActP (P : Program) (f : FuncId) (ops : Array Oper) (fu : Nat) (dn : List Nat) (pend : List (Nat × List Ob)) (k : List Item) (a : Act) (w : World) (R : Value -> World -> Prop) (j : Nat) : Prop :=
 ∃ (o : Oper) (e : Value -> World -> Prop),ops[j]? = some o /\ Region.wanted o (yielded ops a.tmps) = true /\ OpTo P o a w e /\ ∀ v w',e v w' -> wc w' (sZ ops j pend) /\ WP P f ops fu (dn ++ [j]) (oc ops j pend) k (a.put o.dst v) w' R
theorem WP.acts (hs : rp ops = true) {rs : List Nat} (hr : ua (uu dn) 0 ops.toList = rs) (A : rs ≠ []) (hA : ∀ j ∈ rs,ActP P f ops fu dn pend k a w R j) : WP P f ops (fu + 1) dn pend k a w R := by
 intro U S ar hp hT F W h1 h2;refine jd hs (fun u => u.obs = [] \/ (u.i,u.obs) ∈ pend) (fun h => absurd (hr.symm.trans ((kT hs).2 h)) A) (fun D Z I J U S ar hM hT F W h1 h2 B => ?_) _ U S ar rfl hp hT F W h1 h2;refine ⟨fu,rfl,?_⟩;have y := (mem_ready.1 I).1;obtain ⟨o,Rv,hi,hw,h,hk⟩ := hA D (hr ▸ (lv hs dn D).2 I);have a5 : Z = o := by rw [hi] at J; exact (Option.some.inj J).symm
 subst a5;rw [<- h1] at y;have t := jh (P := P) hi B F y;have O : ∀ cs b,Z.op ≠ .select cs b := fun cs b => Region.noSelect_spec (lx hs) D Z cs b hi
 obtain ⟨e1,e2⟩ := mP (ops := ops) (ar := ar) O fun u hu d hd => (Oper.apart_spec (t u hu)).1 d hd
 rw [h2] at e1 e2;unfold wpOp;simp only [hi,<- e2,hw,if_true];refine .inl (h.wp e1 fun v w' hv => ?_);obtain ⟨k1,k2⟩ := hk v w' hv;have e : ∀ u ∈ U,anc ops u.i D = false := fun u hu => by
  cases hA : anc ops u.i D with
  | false => rfl
  | true =>
   have t1 := Bu W _ _ _ hi B hA;exact (nS t1 (jF F u hu).2).elim
 have A : ∀ u ∈ U,u.i ≠ D := fun u hu he => by
  obtain ⟨X,Y,rfl⟩ := List.append_of_mem hu;have : (wM S (X ++ u :: Y)).getD u.i true ≠ false := by
   clear y t e1 e2 e hu hM hT F h1 h2;induction X with
   | nil =>
    simp only [List.nil_append,wM];intro h;rcases Nat.lt_or_ge u.i (wM S Y).size with h' | h'
    ·simp [h'] at h
    ·simp [Array.getElem?_eq_none h'] at h
   | cons z X ih => intro h; exact ih (rU h)
  rw [he] at this;exact this y
 refine k2 U (S.setIfInBounds D true) (ar.put Z.dst v) (fun u hu => ?_) (fun u hu => ?_) (jG (lx hs) v hi t A F) (kD W hi B) (by rw [sK,h1,mV]) (by rw [pz ar U fun u hu x hx => (Oper.apart_spec (t u hu)).2.1 x hx,h2])
 ·rcases hM u hu with h | h
  ·exact .inl h
  ·exact .inr (mT (e u hu) h)
 ·rcases hM u hu with h | h
  ·unfold Pd.T; rw [h]; trivial
  ·exact nJ (e u hu) k1 h
def eqL : List Nat -> List Nat -> Bool
 | [],[] => true
 | x :: l,y :: r => match Nat.beq x y with
  | true => eqL l r
  | false => false
 | _,_ => false
theorem ie : ∀ {l r : List Nat},eqL l r = true -> l = r
 | [],[],_ => rfl
 | x :: l,y :: r,h => by
  simp only [eqL] at h;split at h
  ·rename_i e;rw [Nat.eq_of_beq_eq_true e,ie h]
  ·cases h
theorem WP.effG {j : Nat} {o : Oper} {t : Value -> World -> Prop} (hs : rp ops = true) (hr : ua (uu dn) 0 ops.toList = [j]) (hi : ops[j]? = some o)
  (hw : Region.wanted o (yielded ops a.tmps) = true) (h : OpTo P o a w t) (hk : ∀ v w',t v w' -> wc w' (sZ ops j pend) /\ WP P f ops fu (dn ++ [j]) (oc ops j pend) k (a.put o.dst v) w' R) : WP P f ops (fu + 1) dn pend k a w R :=
 WP.acts hs hr (by simp) fun u e => by
  simp only [List.mem_singleton] at e;subst e;exact ⟨o,t,hi,hw,h,hk⟩
theorem WP.eff {j n d : Nat} {L : Env} {o : Oper} {t : Value -> World -> Prop} {obs : List Ob} (u : zN n a L) (hs : rp ops = true) (hr : eqL (ua (uu dn) 0 ops.toList) [j] = true) (hi : ops[j]? = some o) (hd : o.dst = some d) (hn : Nat.blt d n = true)
  (hw : uX ops L o = some true) (e : sZ ops j pend = obs) (h : OpTo P o a w t) (hk : ∀ v w',t v w' -> wc w' obs /\ ∀ a',zN n a' ((d,v) :: L) -> WP P f ops fu (dn ++ [j]) (oc ops j pend) k a' w' R) : WP P f ops (fu + 1) dn pend k a w R := by
 refine WP.effG hs (ie hr) hi (wo u hw) h fun v w' hv => ?_
 obtain ⟨h1,h2⟩ := hk v w' hv;exact ⟨by rw [e]; exact h1,h2 _ (by rw [hd]; exact u.put _ _ (by simpa [Nat.blt_eq] using hn))⟩
theorem WP.eff0 {j n : Nat} {L : Env} {o : Oper} {t : Value -> World -> Prop} {obs : List Ob} (u : zN n a L) (hs : rp ops = true) (hr : eqL (ua (uu dn) 0 ops.toList) [j] = true) (hi : ops[j]? = some o) (hd : o.dst = none)
  (hw : uX ops L o = some true) (e : sZ ops j pend = obs) (h : OpTo P o a w t) (hk : ∀ v w',t v w' -> wc w' obs /\ ∀ a',zN n a' L -> WP P f ops fu (dn ++ [j]) (oc ops j pend) k a' w' R) : WP P f ops (fu + 1) dn pend k a w R := by
 refine WP.effG hs (ie hr) hi (wo u hw) h fun v w' hv => ?_
 obtain ⟨h1,h2⟩ := hk v w' hv;exact ⟨by rw [e]; exact h1,h2 _ (by rw [hd]; exact u)⟩
def WQ (P : Program) (f : FuncId) (ops : Array Oper) (dn : List Nat) (pend : List (Nat × List Ob)) (k : List Item) (a : Act) (w : World) (R : Value -> World -> Prop) : Prop :=
 rp ops = true -> WP P f ops (ops.size - dn.length) dn pend k a w R
theorem Runs.drawn {id : Nat} (hm : P.follows .mixedOrders = true) (hs : rp ops = true) (h : WQ P f ops [] [] k a { w with drawn := w.drawn + 1 } R) : Runs P f (.code (.region id ops true) :: k) a w R := Runs.CW hm (by simpa [WQ] using h hs)
theorem WQ.done (hr : eqL (ua (uu dn) 0 ops.toList) [] = true) (h : Runs P f k a w R) : WQ P f ops dn pend k a w R := fun hs =>
 WP.done hs (ie hr) h
theorem WQ.seg {n : Nat} {L : Env} (t : zN n a L) (is : List Nat) (j : List Value) (ks : List Nat) {Lo : Env} {obs : List Ob}
  (ht : (Nat.ble (dn.length + is.length) ops.size && jQ ops is (uu dn)) = true) (he : ly P n ops is L j ks = some (Lo,obs)) (u : wc w obs)
  (hk : ∀ a',zN n a' Lo -> WQ P f ops (dn ++ is) (segP P n ops is L j pend) k a' w R) : WQ P f ops dn pend k a w R := by
 simp only [Bool.and_eq_true] at ht;have hle := Nat.le_of_ble_eq_true ht.1;have e : ops.size - dn.length = is.length + (ops.size - (dn ++ is).length) := by simp; omega
 unfold WQ;rw [e];intro hs;exact WP.seg hs t is j ks ht.2 he u fun a ha => hk a ha hs
theorem WQ.eff {j n d : Nat} {L : Env} {o : Oper} {u : Value -> World -> Prop} {obs : List Ob} (x : zN n a L) (hr : (Nat.blt dn.length ops.size && eqL (ua (uu dn) 0 ops.toList) [j]) = true) (hi : ops[j]? = some o) (hd : o.dst = some d) (hn : Nat.blt d n = true)
  (hw : uX ops L o = some true) (t : sZ ops j pend = obs) (h : OpTo P o a w u) (hk : ∀ v w',u v w' -> wc w' obs /\ ∀ a',zN n a' ((d,v) :: L) -> WQ P f ops (dn ++ [j]) (oc ops j pend) k a' w' R) : WQ P f ops dn pend k a w R := by
 rw [Bool.and_eq_true] at hr;have y : dn.length < ops.size := by simpa [Nat.blt_eq] using hr.1
 have e : ops.size - dn.length = (ops.size - (dn ++ [j]).length) + 1 := by simp; omega
 unfold WQ;rw [e];intro hs;exact WP.eff x hs hr.2 hi hd hn hw t h fun v w' hv => ⟨(hk v w' hv).1,fun a ha => (hk v w' hv).2 a ha hs⟩
theorem WQ.eff0 {j n : Nat} {L : Env} {o : Oper} {u : Value -> World -> Prop} {obs : List Ob} (x : zN n a L) (hr : (Nat.blt dn.length ops.size && eqL (ua (uu dn) 0 ops.toList) [j]) = true) (hi : ops[j]? = some o) (hd : o.dst = none)
  (hw : uX ops L o = some true) (t : sZ ops j pend = obs) (h : OpTo P o a w u) (hk : ∀ v w',u v w' -> wc w' obs /\ ∀ a',zN n a' L -> WQ P f ops (dn ++ [j]) (oc ops j pend) k a' w' R) : WQ P f ops dn pend k a w R := by
 rw [Bool.and_eq_true] at hr;have y : dn.length < ops.size := by simpa [Nat.blt_eq] using hr.1
 have e : ops.size - dn.length = (ops.size - (dn ++ [j]).length) + 1 := by simp; omega
 unfold WQ;rw [e];intro hs;exact WP.eff0 x hs hr.2 hi hd hw t h fun v w' hv => ⟨(hk v w' hv).1,fun a ha => (hk v w' hv).2 a ha hs⟩
def AQ (P : Program) (f : FuncId) (ops : Array Oper) (dn : List Nat) (pend : List (Nat × List Ob)) (k : List Item) (a : Act) (w : World) (R : Value -> World -> Prop) (j : Nat) : Prop :=
 rp ops = true -> ActP P f ops (ops.size - (dn.length + 1)) dn pend k a w R j
theorem WQ.acts (rs : List Nat) (hr : (Nat.blt dn.length ops.size && eqL (ua (uu dn) 0 ops.toList) rs) = true) (t : rs ≠ []) (hA : ∀ j ∈ rs,AQ P f ops dn pend k a w R j) : WQ P f ops dn pend k a w R := by
 rw [Bool.and_eq_true] at hr;have u : dn.length < ops.size := by simpa [Nat.blt_eq] using hr.1
 have e : ops.size - dn.length = (ops.size - (dn.length + 1)) + 1 := by omega
 unfold WQ;rw [e];exact fun hs => WP.acts hs (ie hr.2) t fun j hj => hA j hj hs
theorem WQ.act2 (i j : Nat) (hr : (Nat.blt dn.length ops.size && eqL (ua (uu dn) 0 ops.toList) [i,j]) = true) (h1 : AQ P f ops dn pend k a w R i) (h2 : AQ P f ops dn pend k a w R j) : WQ P f ops dn pend k a w R :=
 WQ.acts [i,j] hr (by simp) fun x e => by
  simp only [iC,List.not_mem_nil,or_false] at e;rcases e with rfl | rfl
  ·exact h1
  ·exact h2
theorem WQ.act3 (i j l : Nat) (hr : (Nat.blt dn.length ops.size && eqL (ua (uu dn) 0 ops.toList) [i,j,l]) = true) (h1 : AQ P f ops dn pend k a w R i) (h2 : AQ P f ops dn pend k a w R j) (h3 : AQ P f ops dn pend k a w R l) : WQ P f ops dn pend k a w R :=
 WQ.acts [i,j,l] hr (by simp) fun x e => by
  simp only [iC,List.not_mem_nil,or_false] at e;rcases e with rfl | rfl | rfl
  ·exact h1
  ·exact h2
  ·exact h3
theorem AQ.eff {j n d : Nat} {L : Env} {o : Oper} {e : Value -> World -> Prop} {obs : List Ob} (u : zN n a L) (hi : ops[j]? = some o) (hd : o.dst = some d) (hn : Nat.blt d n = true)
  (hw : uX ops L o = some true) (t : sZ ops j pend = obs) (h : OpTo P o a w e) (hk : ∀ v w',e v w' -> wc w' obs /\ ∀ a',zN n a' ((d,v) :: L) -> WQ P f ops (dn ++ [j]) (oc ops j pend) k a' w' R) : AQ P f ops dn pend k a w R j := by
 refine fun hs => ⟨o,e,hi,wo u hw,h,fun v w' hv => ?_⟩
 obtain ⟨h1,h2⟩ := hk v w' hv;refine ⟨by rw [t]; exact h1,?_⟩;have := h2 (a.put o.dst v) (by rw [hd]; exact u.put _ _ (by simpa [Nat.blt_eq] using hn));unfold WQ at this;simpa using this hs
theorem AQ.eff0 {j n : Nat} {L : Env} {o : Oper} {e : Value -> World -> Prop} {obs : List Ob} (u : zN n a L) (hi : ops[j]? = some o) (hd : o.dst = none)
  (hw : uX ops L o = some true) (t : sZ ops j pend = obs) (h : OpTo P o a w e) (hk : ∀ v w',e v w' -> wc w' obs /\ ∀ a',zN n a' L -> WQ P f ops (dn ++ [j]) (oc ops j pend) k a' w' R) : AQ P f ops dn pend k a w R j := by
 refine fun hs => ⟨o,e,hi,wo u hw,h,fun v w' hv => ?_⟩
 obtain ⟨h1,h2⟩ := hk v w' hv;refine ⟨by rw [t]; exact h1,?_⟩;have := h2 (a.put o.dst v) (by rw [hd]; exact u);unfold WQ at this;simpa using this hs
end
end
end
noncomputable section
theorem lR {α : Type} {enc : α -> List Value} {sz : Nat} (he : xV enc sz) {z : α} {j : Array Value} (hz : j.toList = enc z) (n : Nat) : (Builtin.zeroCells j n).toList = (List.replicate n z).flatMap enc := by
 have hs : j.size = sz := by rw [<- Array.length_toList,hz,he.len]
 apply List.ext_getElem?;intro i;simp only [Builtin.zeroCells,Array.toList_map,Array.toList_range,List.getElem?_map,hs];by_cases h : i < n * sz
 ·have h0 : 0 < sz := by
   rcases Nat.eq_zero_or_pos sz with e | e
   ·subst e; simp at h
   ·exact e
  have hj : i / sz < n := (Nat.div_lt_iff_lt_mul h0).2 h;have t := tO he (List.replicate n z) (i / sz) (i % sz) (by simpa using hj) (Nat.mod_lt _ h0);rw [Nat.mul_comm,Nat.div_add_mod] at t;rw [t,List.getElem?_range h];simp only [Option.map_some,List.getElem_replicate];have hm : i % sz < j.size := by rw [hs]; exact Nat.mod_lt _ h0
  rw [getElem!_pos j _ hm,<- hz];simp [hm]
 ·rw [List.getElem?_eq_none (by simp; omega),List.getElem?_eq_none (by rw [yA he]; simp; omega)]
  rfl
theorem bN {α : Type} {enc : α -> List Value} {sz : Nat} (he : xV enc sz) (l ys : List α) (lo : Nat) (h : lo + ys.length <= l.length) (cs : List Value) (off : Nat) (z : off + l.length * sz <= cs.length)
  (y : ∀ i,i < l.length * sz -> cs[off + i]? = (l.flatMap enc)[i]?) :
  ∀ i,i < l.length * sz -> (putAt cs (off + lo * sz) (ys.flatMap enc))[off + i]? = ((l.take lo ++ (ys ++ l.drop (lo + ys.length))).flatMap enc)[i]? := by
 intro i hi;have h1 : (lo + ys.length) * sz <= l.length * sz := Nat.mul_le_mul_right _ h;rw [Nat.add_mul] at h1;have e := yA he ys;have j : ((l.take lo).flatMap enc).length = lo * sz := by rw [yA he,List.length_take,Nat.min_eq_left (by omega)]
 have B : ((l.drop (lo + ys.length)).flatMap enc).length = l.length * sz - (lo + ys.length) * sz := by rw [yA he,List.length_drop,Nat.sub_mul]
 have x : l.flatMap enc = (l.take lo).flatMap enc ++ (l.drop lo).flatMap enc := by rw [<- List.flatMap_append,List.take_append_drop]
 have t : l.flatMap enc = (l.take (lo + ys.length)).flatMap enc ++ (l.drop (lo + ys.length)).flatMap enc := by rw [<- List.flatMap_append,List.take_append_drop]
 have u : ((l.take (lo + ys.length)).flatMap enc).length = lo * sz + ys.length * sz := by rw [yA he,List.length_take,Nat.min_eq_left (by omega),Nat.add_mul]
 rw [uM _ _ _ (by rw [e]; omega),List.flatMap_append,List.flatMap_append];by_cases D : i < lo * sz
 ·rw [aA,List.getElem?_append_left (by rw [List.length_take]; omega),List.getElem?_take,if_pos (by omega),y i hi,x,List.getElem?_append_left (by omega),List.getElem?_append_left (by omega)]
 ·by_cases F : i < lo * sz + ys.length * sz
  ·rw [List.getElem?_append_left (by simp only [lA,List.length_take,e]; omega),List.getElem?_append_right (by rw [List.length_take]; omega),
    List.getElem?_append_right (by omega),List.getElem?_append_left (by rw [j,e]; omega)]
   congr 1;rw [List.length_take,j]; omega
  ·rw [List.getElem?_append_right (by simp only [lA,List.length_take,e]; omega),List.getElem?_append_right (by omega),List.getElem?_append_right (by rw [j,e]; omega),List.getElem?_drop];have A : off + lo * sz + (ys.flatMap enc).length + (off + i - (List.take (off + lo * sz) cs ++ ys.flatMap enc).length) = off + i := by
    simp only [lA,List.length_take,e]; omega
   rw [A,y i hi,t,List.getElem?_append_right (by omega)];congr 1;rw [j,e,u]; omega
def qB {α : Type} (l : List α) (lo : Int) (z : α) : List α := l.take lo.toNat ++ (List.replicate (l.length - lo.toNat) z ++ [])
theorem nG {α : Type} {l : List α} {lo : Int} {z : α} {r : List α} (hr : mCut l lo (l.length : Int) = some r) : (qB l lo z).length = l.length := by
 obtain ⟨h1,h2⟩ := mG hr;simp [qB]; omega
section
variable {α : Type} {T : TypeId} {enc : α -> List Value} {sz : Nat} {w0 w : World} {As : List HP} {P : Program}
theorem OpTo.dN {n : Nat} {a : Act} {L : Env} {o : Oper} {t : TypeId} {sb sb' : Option Addr} {sc sc' : Nat} {l r : List α} {lo : Int} {z : α} {x : Operand} {ti : TypeInfo} {Y : Value} (J : zN n a L) (H : St w0 (Sl T enc sz sb sc l :: As) w) (he : xV enc sz)
  (hr : mCut l lo (l.length : Int) = some r) (D : yF sb sc lo.toNat sz = sb') (a5 : sc - lo.toNat = sc') (ho : o.op = .call { callee := .builtin .clear,args := #[x],argTypes := #[t] }) (I : evO L x = some (.slice sb' r.length sc'))
  (ht : P.underlying t = some (.slice T)) (hi : P.info? T = some ti) (hz : ti.zero = some Y) (O : Y.cells.toList = enc z) :
  OpTo P o a w fun v w' => v = .tuple #[] /\ St w0 (Sl T enc sz sb sc (qB l lo z) :: As) w' := by
 obtain ⟨dst,op,type,pos,after,guard⟩ := o;simp only at ho;subst ho;have hlen := qI hr;obtain ⟨a4,a3⟩ := mG hr;have j : qB l lo z = l.take lo.toNat ++ (List.replicate r.length z ++ l.drop (lo.toNat + (List.replicate r.length z).length)) := by
  unfold qB;have : r.length = l.length - lo.toNat := by omega
  rw [this];congr 2;simp; omega
 have X : ∀ w : World,(Go.zeroValue T).run P w = .ok Y w := fun w => by simp [Go.zeroValue,Go.typeInfo,Sem.run,hi,hz]
 rcases H.iO with ⟨h1,h2,h3⟩ | ⟨b,off,cs,e,H1,h3,h4,h5,h6⟩
 ·subst h1; subst h2;have hs : sb' = none := by rw [<- D]; unfold yF; split <;> rfl
  subst hs;refine OpTo.of_run (v := .tuple #[]) (w' := w) ?_ ⟨rfl,?_⟩
  ·simp [execOp,resolve,invoke,builtin,J.eval I,Builtin.clear_,xL P ht]
  ·simpa [qB] using H
 ·subst e;by_cases hn : r.length = 0
  ·refine OpTo.of_run (v := .tuple #[]) (w' := w) ?_ ⟨rfl,?_⟩
   ·rw [hn] at I;cases F : sb' <;> simp [execOp,resolve,invoke,builtin,J.eval I,Builtin.clear_,xL P ht,F]
   ·rw [j,hn];simpa using H
  ·have U : sc ≠ lo.toNat := by omega
   have hs : sb' = some ⟨b,off + lo.toNat * sz,none⟩ := by rw [<- D]; unfold yF; rw [if_neg U]; simp [Addr.add_lit]
   subst hs;have hmul : l.length * sz <= sc * sz := Nat.mul_le_mul_right _ h3;have S : (lo.toNat + r.length) * sz <= l.length * sz := Nat.mul_le_mul_right _ (by omega);rw [Nat.add_mul] at S;have y := yA he (List.replicate r.length z);simp only [List.length_replicate] at y;have Z := H1.one 0 rfl;have u := run_storeCells_at P b (off + lo.toNat * sz) T ((List.replicate r.length z).flatMap enc) 0 cs w Z (by simp only [Nat.add_zero,y]; omega) (ph he _);simp only [Nat.add_zero] at u;refine OpTo.of_run (v := .tuple #[]) (w' := w.setRow b (putAt cs.toList (off + lo.toNat * sz) ((List.replicate r.length z).flatMap enc)).toArray) ?_ ⟨rfl,?_⟩
   ·have W : ∃ m,r.length = m + 1 := ⟨r.length - 1,by omega⟩
    obtain ⟨m,hm⟩ := W;rw [uM _ _ _ (by simp only [Array.length_toList,y]; omega)];simp only [execOp,resolve,invoke,builtin,J.eval I,Builtin.clear_,xL P ht,Sem.run_bind,Result.andThen_ok,hm];simp [execOp,resolve,invoke,builtin,J.eval I,Builtin.clear_,xL P ht,X,hm,lR he O];rw [hm] at u;rw [show storeCells ⟨b,off + lo.toNat * sz,none⟩ (List.flatMap enc (List.replicate (m + 1) z)) = storeCells ⟨b,off + lo.toNat * sz,none⟩ (List.flatMap enc (List.replicate (m + 1) z)) 0 from rfl,u];simp [Result.andThen]
   ·have H2 := H1.set (w' := w.setRow b (putAt cs.toList (off + lo.toNat * sz) ((List.replicate r.length z).flatMap enc)).toArray) (by simp) (by simp) (by simp) (setRow_heap w b _ _ T (0,0) Z) (fun c O => setRow_other w b c _ O);have B := nG (z := z) hr;refine H2.head fun h hh => .inr ⟨b,off,_,rfl,hh,by rw [B]; exact h3,h4,by simp [qS]; omega,fun i A => ?_⟩
    rw [B] at A;rw [j];simp only [List.getElem?_toArray];exact bN he l (List.replicate r.length z) lo.toNat (by simp; omega) cs.toList off (by simp; omega) (fun i hi => by rw [<- h6 i hi]; simp) i A
end
end
noncomputable section
structure MCh (α : Type) where
 cap : Nat
 buf : List α
def vI (x : Int) : Value := .int .i64 x
def ChM {α : Type} (c : Nat) (ev : α -> Value) (m : MCh α) : HP := Ch c m.cap (m.buf.map ev)
def bV (α : Type) (n : Int) : Option (MCh α) := if 0 <= n /\ n <= 1073741824 then some ⟨n.toNat,[]⟩ else none
def MCh.room {α : Type} (m : MCh α) : Bool := decide (m.buf.length < m.cap)
def MCh.push {α : Type} (m : MCh α) (x : α) : MCh α := ⟨m.cap,m.buf ++ [x]⟩
def MCh.rest {α : Type} (m : MCh α) (b : List α) : MCh α := ⟨m.cap,b⟩
section
variable {α : Type} {ev : α -> Value} {P : Program} {f : FuncId} {k : List Item} {a : Act} {w w0 : World} {R : Value -> World -> Prop} {ops : Array Oper} {As : List HP} {n d c : Nat} {L : Env} {o : Oper} {m : MCh α}
theorem OpTo.BS {t e : TypeId} {dir : ChanDir} {x : Operand} {z : Int} {ti : TypeInfo} (ev : α -> Value) (hl : bV α z = some m) (I : zN n a L) (H : St w0 As w) (y : o.op = .makeChan t x) (S : evO L x = some (.int .i64 z))
  (ht : P.underlying t = some (.chan dir e)) (hi : P.info? e = some ti) (J : Nat.ble ti.bytes 131072 = true) :
  OpTo P o a w fun v w' => ∃ r : Nat,v = .chan (some r) /\ St w0 (ChM r ev m :: As) w' := by
 unfold bV at hl;split at hl
 ·rename_i hn;cases hl;obtain ⟨h0,h1⟩ := hn;have u := Nat.le_of_ble_eq_true J;obtain ⟨dst,op,type,pos,after,guard⟩ := o;simp only at y;subst y;obtain ⟨q,rfl⟩ := Int.eq_ofNat_of_zero_le h0;have hq : q <= 1073741824 := by omega
  have O : ti.bytes * q <= 281474976710656 - 112 := by
   calc ti.bytes * q <= 131072 * 1073741824 := Nat.mul_le_mul u hq
    _ <= 281474976710656 - 112 := by decide
  have U : ¬ ((q : Int) < 0) := by omega
  have B : ¬ ((q : Int) > IntKind.i64.max) := by
   have : IntKind.i64.max = 9223372036854775807 := rfl;rw [this]; omega
  have D : ¬ ((281474976710544 : Int) < (ti.bytes : Int) * (q : Int)) := by
   rw [<- Int.natCast_mul]; omega
  have j : (Instr.makeChan t (.int .i64 (q : Int))).run P w = .ok (.chan (some w.heap.size)) { w with heap := w.heap.push (.chan q #[] false 0 0 false) } := by
   have F : IntKind.i64.max < (q : Int) ↔ False := iff_false_intro B;simp [Instr.makeChan,xL P ht,asInt,asIntOf,typeInfo,hi,F,D,newObj];rw [if_neg (by omega)]
   rfl
  refine OpTo.of_run (w' := { w with heap := w.heap.push (.chan q #[] false 0 0 false) }) (v := .chan (some w.heap.size)) ?_ ⟨w.heap.size,rfl,?_⟩
  ·simp [execOp,I.eval S,j]
  ·have A := H.alloc (.chan q #[] false 0 0 false);exact A.head fun h hh => ⟨(0,0),by simpa using hh⟩
 ·cases hl
theorem Runs.ai {id : Nat} {x y : Operand} {e : TypeId} {u : α} {ti : TypeInfo} {z : Value} (D : zN n a L) (H : St w0 (ChM c ev m :: As) w) (A : ops[0]? = some o) (hd : o.dst = some d) (hn : Nat.blt d n = true) (F : o.guard = none)
  (I : o.op = .select #[{ chan := x,send := some y,elem := e }] false) (J : evO L x = some (.chan (some c))) (O : evO L y = some (ev u)) (hi : P.info? e = some ti) (hz : ti.zero = some z) (j : m.room = true)
  (hk : ∀ a' w',zN n a' ((d,.tuple #[goInt 0,.bool false]) :: L) -> St w0 (ChM c ev (m.push u) :: As) w' -> WR P f ops 1 k a' w' R) : Runs P f (.code (.region id ops false) :: k) a w R :=
 Runs.fa D H A hd hn F I J O hi hz (by simpa [MCh.room] using j) fun a' w' t B => hk a' w' t (by simpa [ChM,MCh.push] using B)
theorem Runs.ah {id : Nat} {x y : Operand} {e : TypeId} {u : α} {ti : TypeInfo} {z : Value} (A : zN n a L) (H : St w0 (ChM c ev m :: As) w) (t : ops[0]? = some o) (hd : o.dst = some d) (hn : Nat.blt d n = true) (B : o.guard = none)
  (D : o.op = .select #[{ chan := x,send := some y,elem := e }] false) (F : evO L x = some (.chan (some c))) (I : evO L y = some (ev u)) (hi : P.info? e = some ti) (hz : ti.zero = some z) (j : m.room = false)
  (hk : ∀ a',zN n a' ((d,.tuple #[goInt (-1),.bool false]) :: L) -> WR P f ops 1 k a' w R) : Runs P f (.code (.region id ops false) :: k) a w R :=
 Runs.gZ A H t hd hn B D F I hi hz (by simpa [MCh.room] using j) hk
theorem Runs.ag {id : Nat} {x : Operand} {e : TypeId} {u : α} {b : List α} {ti : TypeInfo} {z : Value} (B : m.buf = u :: b) (A : zN n a L) (H : St w0 (ChM c ev m :: As) w) (y : ops[0]? = some o) (hd : o.dst = some d) (hn : Nat.blt d n = true) (D : o.guard = none)
  (F : o.op = .select #[{ chan := x,send := none,elem := e }] false) (I : evO L x = some (.chan (some c))) (hi : P.info? e = some ti) (hz : ti.zero = some z)
  (hk : ∀ a' w',zN n a' ((d,.tuple #[goInt 0,.bool true,ev u]) :: L) -> St w0 (ChM c ev (m.rest b) :: As) w' -> WR P f ops 1 k a' w' R) : Runs P f (.code (.region id ops false) :: k) a w R :=
 have j : St w0 (Ch c m.cap (ev u :: b.map ev) :: As) w := by simpa [ChM,B] using H
 Runs.gY A j y hd hn D F I hi hz fun a' w' t j => hk a' w' t j
theorem Runs.af {id : Nat} {x : Operand} {e : TypeId} {ti : TypeInfo} {z : Value} (u : m.buf = []) (t : zN n a L) (H : St w0 (ChM c ev m :: As) w) (j : ops[0]? = some o) (hd : o.dst = some d) (hn : Nat.blt d n = true) (y : o.guard = none)
  (A : o.op = .select #[{ chan := x,send := none,elem := e }] false) (B : evO L x = some (.chan (some c))) (hi : P.info? e = some ti) (hz : ti.zero = some z)
  (hk : ∀ a',zN n a' ((d,.tuple #[goInt (-1),.bool false,z]) :: L) -> WR P f ops 1 k a' w R) : Runs P f (.code (.region id ops false) :: k) a w R :=
 Runs.gX t (by simpa [ChM,u] using H) j hd hn y A B hi hz hk
theorem OpTo.BQ {x : Operand} {t e : TypeId} {dir : ChanDir} (i : Nat) (j : zN n a L) (H : St w0 As w) (hi : As[i]? = some (ChM c ev m)) (u : o.op = .call { callee := .builtin .len,args := #[x],argTypes := #[t] }) (ht : P.underlying t = some (.chan dir e)) (y : evO L x = some (.chan (some c))) :
  OpTo P o a w fun v w' => v = .int .i64 (m.buf.length : Int) /\ w' = w := by
 refine (OpTo.C9 i j H hi u ht y).mono ?_;rintro v w' ⟨rfl,rfl⟩;exact ⟨by simp,rfl⟩
end
section
variable {G α : Type} {T : TypeId} {enc : G -> List Value} {R : G -> α -> HP} {w0 w : World} {As : List HP}
def Objs (R : G -> α -> HP) : List G -> List α -> List HP
 | g :: gs,x :: xs => R g x :: Objs R gs xs
 | _,_ => []
def SlX (T : TypeId) (enc : G -> List Value) (R : G -> α -> HP) (sb : Option Addr) (sc : Nat) (l : List α) : HP := fun h =>
 ∃ gs : List G,gs.length = l.length /\ sepL (Sl T enc 1 sb sc gs :: Objs R gs l) h
def But (R : G -> α -> HP) (gs : List G) (l : List α) (i : Int) : HP := sepL (Objs R (gs.eraseIdx i.toNat) (l.eraseIdx i.toNat))
theorem ld : ∀ (gs : List G) (l : List α) (i : Nat) (g : G) (x : α),gs[i]? = some g -> l[i]? = some x -> (Objs R gs l).Perm (R g x :: Objs R (gs.eraseIdx i) (l.eraseIdx i))
 | [],l,i,g,x,h,_ => by simp at h
 | g' :: gs,[],i,g,x,_,h => by simp at h
 | g' :: gs,x' :: l,0,g,x,h,h2 => by simp at h h2; subst h; subst h2; simp [Objs]
 | g' :: gs,x' :: l,i + 1,g,x,h,h2 => by
  simp only [Objs,List.eraseIdx_cons_succ];exact ((ld gs l i g x (by simpa using h) (by simpa using h2)).cons (R g' x')).trans (List.Perm.swap _ _ _)
theorem St.fg {sb : Option Addr} {sc : Nat} {l : List α} (H : St w0 (SlX T enc R sb sc l :: As) w) : ∃ gs : List G,gs.length = l.length /\ St w0 (Sl T enc 1 sb sc gs :: (Objs R gs l ++ As)) w := by
 obtain ⟨gs,H⟩ := H.ex;have hl := H.fact (q := gs.length = l.length) fun h hh => hh.1
 exact ⟨gs,hl,(H.head fun h hh => hh.2).flat⟩
theorem St.lJ {sb : Option Addr} {sc : Nat} (gs : List G) (l : List α) (hl : gs.length = l.length) (H : St w0 (Sl T enc 1 sb sc gs :: (Objs R gs l ++ As)) w) : St w0 (SlX T enc R sb sc l :: As) w :=
 (St.group (Sl T enc 1 sb sc gs :: Objs R gs l) H).head fun h hh => ⟨gs,hl,hh⟩
theorem St.jP {sb : Option Addr} {sc : Nat} {l : List α} {i : Int} {x : α} (H : St w0 (SlX T enc R sb sc l :: As) w) (e : mIdx l i = some x) :
  ∃ (gs : List G) (g : G),gs.length = l.length /\ mIdx gs i = some g /\ St w0 (R g x :: Sl T enc 1 sb sc gs :: But R gs l i :: As) w := by
 obtain ⟨gs,hl,H⟩ := H.fg;obtain ⟨⟨h0,h1⟩,h2⟩ := sy e;have j : i.toNat < gs.length := by rw [hl]; exact (List.getElem?_eq_some_iff.1 h2).1
 refine ⟨gs,gs[i.toNat],hl,by simp [mIdx,h0,j],?_⟩;have hp := ld (R := R) gs l i.toNat gs[i.toNat] x (by simp [j]) h2;have t := H.perm ((hp.append_right As).cons _);have u : St w0 (Objs R (gs.eraseIdx i.toNat) (l.eraseIdx i.toNat) ++ (R gs[i.toNat] x :: Sl T enc 1 sb sc gs :: As)) w := by
  refine t.perm ?_;exact (List.Perm.swap _ _ _).trans (List.perm_append_comm_assoc [R gs[i.toNat] x,Sl T enc 1 sb sc gs] _ As)
 exact ((St.group _ u).t2).t2
theorem St.kX {sb : Option Addr} {sc : Nat} {gs : List G} {l : List α} {i : Int} {x x' : α} {g g' : G} (H : St w0 (R g' x' :: Sl T enc 1 sb sc gs :: But R gs l i :: As) w) (e : mIdx l i = some x) (hl : gs.length = l.length) (B : mIdx gs i = some g) (he : enc g' = enc g) :
  St w0 (SlX T enc R sb sc (mSet l i x') :: As) w := by
 obtain ⟨⟨h0,h1⟩,h2⟩ := sy e;obtain ⟨_,h3⟩ := sy B;have y : i.toNat < gs.length := by rw [hl]; exact (List.getElem?_eq_some_iff.1 h2).1
 have u : (gs.set i.toNat g').flatMap enc = gs.flatMap enc := by
  have : ∀ (gs : List G) (j : Nat),gs[j]? = some g -> (gs.set j g').flatMap enc = gs.flatMap enc := by
   intro gs;induction gs with
   | nil => intro j; simp
   | cons a gs ih =>
    intro j hj;cases j with
    | zero => simp at hj; subst hj; simp [he]
    | succ j => simp at hj; simp [ih j hj]
  exact this gs i.toNat h3
 have z : Sl T enc 1 sb sc gs = Sl T enc 1 sb sc (gs.set i.toNat g') := by
  funext h;simp only [Sl,u,List.length_set];have : (gs = []) = (gs.set i.toNat g' = []) := by
   rw [<- List.length_eq_zero_iff,<- List.length_eq_zero_iff,List.length_set]
  rw [this]
 have t : But R gs l i = sepL (Objs R ((gs.set i.toNat g').eraseIdx i.toNat) ((l.set i.toNat x').eraseIdx i.toNat)) := by
  unfold But;rw [List.eraseIdx_set_eq,List.eraseIdx_set_eq]
 rw [z,t] at H;have A := H.t2.flat;have hp := ld (R := R) (gs.set i.toNat g') (l.set i.toNat x') i.toNat g' x' (by simp [y]) (by rw [List.getElem?_set_self (by omega)]);refine St.lJ (gs.set i.toNat g') (l.set i.toNat x') (by simp [hl]) (A.perm ?_);refine List.Perm.trans ?_ ((hp.symm.append_right As).cons _);refine List.Perm.trans (List.perm_append_comm_assoc _ [R g' x',Sl T enc 1 sb sc (gs.set i.toNat g')] As) ?_;exact List.Perm.swap _ _ _
theorem cz {l : List α} {i : Int} {x : α} (e : mIdx l i = some x) : mSet l i x = l := by
 obtain ⟨⟨h0,h1⟩,h2⟩ := sy e;obtain ⟨h3,h4⟩ := List.getElem?_eq_some_iff.1 h2;unfold mSet;rw [<- h4,List.set_getElem_self]
theorem St.bc {sb : Option Addr} {sc : Nat} {gs : List G} {l : List α} {i : Int} {x : α} {g g' : G} (H : St w0 (R g' x :: Sl T enc 1 sb sc gs :: But R gs l i :: As) w) (e : mIdx l i = some x) (hl : gs.length = l.length) (j : mIdx gs i = some g) (he : enc g' = enc g) :
  St w0 (SlX T enc R sb sc l :: As) w := by
 have := H.kX e hl j he
 rwa [cz e] at this
theorem St.Ba {sb : Option Addr} {sc : Nat} {gs : List G} {l : List α} {i : Int} {x x' : α} {g g' : G} (H : St w0 (R g' x' :: Sl T enc 1 sb sc (mSet gs i g') :: But R gs l i :: As) w) (e : mIdx l i = some x) (hl : gs.length = l.length) (y : mIdx gs i = some g) :
  St w0 (SlX T enc R sb sc (mSet l i x') :: As) w := by
 obtain ⟨⟨h0,h1⟩,h2⟩ := sy e;have t : i.toNat < gs.length := by rw [hl]; exact (List.getElem?_eq_some_iff.1 h2).1
 have j : But R gs l i = But R (mSet gs i g') (mSet l i x) i := by
  unfold But mSet;rw [List.eraseIdx_set_eq,List.eraseIdx_set_eq]
 rw [j] at H;have := H.kX (l := mSet l i x) (x := x) (g := g') (i := i) (by simp only [mIdx,mSet,h0,if_pos]; exact List.getElem?_set_self (List.getElem?_eq_some_iff.1 h2).1) (by simp [mSet,hl]) (by simp [mIdx,mSet,h0,t]) rfl;have u : mSet (mSet l i x) i x' = mSet l i x' := by simp [mSet]
 rwa [u] at this
theorem St.Ce (T : TypeId) (enc : G -> List Value) (R : G -> α -> HP) (H : St w0 As w) : St w0 (SlX T enc R none 0 [] :: As) w :=
 St.lJ [] [] rfl (by simpa [Objs] using H.bb T enc 1)
theorem St.Dj {sb : Option Addr} {sc : Nat} (gs : List G) (l : List α) (hl : gs.length = l.length) {Bs : List HP} (H : St w0 (Sl T enc 1 sb sc gs :: Bs) w) (e : Bs = Objs R gs l ++ As) : St w0 (SlX T enc R sb sc l :: As) w := by
 subst e;exact St.lJ gs l hl H
theorem mZ : ∀ (gs hs : List G) (l m : List α),gs.length = l.length -> Objs R (gs ++ hs) (l ++ m) = Objs R gs l ++ Objs R hs m
 | [],hs,[],m,_ => by simp [Objs]
 | g :: gs,hs,x :: l,m,h => by simp only [List.cons_append,Objs]; rw [mZ gs hs l m (by simpa using h)]
 | [],hs,x :: l,m,h => by simp at h
 | g :: gs,hs,[],m,h => by simp at h
theorem OpTo.AB {P : Program} {n : Nat} {a : Act} {L : Env} {o : Oper} {x y : Operand} {t u : TypeId} {d : TypeId} {ti : TypeInfo} {sb xb : Option Addr} {sc xc : Nat} {l ys r : List α} (hr : mApp l ys = some r) (O : zN n a L) (H : St w0 (SlX T enc R sb sc l :: SlX T enc R xb xc ys :: As) w) (he : xV enc 1)
  (U : o.op = .call { callee := .builtin .append,args := #[x,y],argTypes := #[t,u] }) (W : evO L x = some (.slice sb l.length sc)) (X : evO L y = some (.slice xb ys.length xc))
  (ht : P.underlying t = some (.slice T)) (hu : P.underlying u = some (.slice d)) (hi : P.info? T = some ti) (A : ti.size = 1) {z : Value} (hz : ti.zero = some z) (B : z.cells.size = 1) (S : Nat.ble ti.bytes 131072 = true) :
  OpTo P o a w fun v w' => ∃ sb' sc',v = .slice sb' r.length sc' /\ St w0 (SlX T enc R sb' sc' r :: As) w' := by
 obtain ⟨rfl,hle⟩ := fp hr;obtain ⟨gs,hl,H⟩ := H.fg;have H1 : St w0 (SlX T enc R xb xc ys :: Sl T enc 1 sb sc gs :: (Objs R gs l ++ As)) w := H.perm (List.perm_middle (l₁ := Sl T enc 1 sb sc gs :: Objs R gs l));obtain ⟨hs,e,F⟩ := H1.fg;have D : St w0 (Sl T enc 1 sb sc gs :: Sl T enc 1 xb xc hs :: (Objs R hs ys ++ (Objs R gs l ++ As))) w := by
  refine F.perm ?_;exact (List.Perm.cons _ (List.perm_middle (l₁ := Objs R hs ys))).trans (List.Perm.swap _ _ _)
 have j := SlRd.all (xe T enc 1 xb xc hs) he D 1 rfl;have := OpTo.uR (P := P) (o := o) (r := gs ++ hs) (ys := hs) (m := ys.length) (xb := xb) (xc := xc) (by unfold mApp; rw [if_pos (by omega)]) O D he U (by rw [hl]; exact W) X ht hu hi A hz B e.symm j S;refine this.mono ?_;rintro v w' ⟨sb',sc',rfl,I⟩;refine ⟨sb',sc',by simp [hl,e],?_⟩;refine St.lJ (gs ++ hs) (l ++ ys) (by simp [hl,e]) ?_;rw [mZ gs hs l ys hl];have J := I.t1.drop;refine J.perm (List.Perm.cons _ ?_);rw [aA];exact List.perm_append_comm_assoc _ _ _
end
def ecH (g : Option Addr × Nat × Nat) : List Value := [.slice g.1 g.2.1 g.2.2]
theorem vq : xV ecH 1 := ⟨fun _ => rfl,fun x u hu => by simp [ecH] at hu; subst hu; rfl⟩
def RS {α : Type} (T : TypeId) (enc : α -> List Value) (sz : Nat) (g : Option Addr × Nat × Nat) (x : List α) : HP := fun h => g.2.1 = x.length /\ Sl T enc sz g.1 g.2.2 x h
section
variable {α : Type} {T T' : TypeId} {enc : α -> List Value} {sz : Nat} {w0 w : World} {As : List HP}
theorem St.Cc {g : Option Addr × Nat × Nat} {x : List α} (H : St w0 (RS T enc sz g x :: As) w) : ∃ b c,g = (b,x.length,c) /\ St w0 (Sl T enc sz b c x :: As) w := by
 have hl := H.fact (q := g.2.1 = x.length) fun h hh => hh.1
 exact ⟨g.1,g.2.2,by rw [<- hl],H.head fun h hh => hh.2⟩
theorem St.cR {b : Option Addr} {c : Nat} {x : List α} (H : St w0 (Sl T enc sz b c x :: As) w) : St w0 (RS T enc sz (b,x.length,c) x :: As) w := H.head fun h hh => ⟨rfl,hh⟩
theorem St.kY {sb : Option Addr} {sc : Nat} {l : List (List α)} {i : Int} {x : List α} (H : St w0 (SlX T' ecH (RS T enc sz) sb sc l :: As) w) (e : mIdx l i = some x) :
  ∃ (gs : List (Option Addr × Nat × Nat)) (b : Option Addr) (c : Nat),gs.length = l.length /\ mIdx gs i = some (b,x.length,c) /\ St w0 (Sl T enc sz b c x :: Sl T' ecH 1 sb sc gs :: But (RS T enc sz) gs l i :: As) w := by
 obtain ⟨gs,g,hl,t,H⟩ := H.jP e;obtain ⟨b,c,rfl,j⟩ := H.Cc;exact ⟨gs,b,c,hl,t,j⟩
theorem St.iR {sb : Option Addr} {sc : Nat} {gs : List (Option Addr × Nat × Nat)} {l : List (List α)} {i : Int} {x : List α} {b : Option Addr} {c : Nat} (H : St w0 (Sl T enc sz b c x :: Sl T' ecH 1 sb sc gs :: But (RS T enc sz) gs l i :: As) w) (e : mIdx l i = some x) (hl : gs.length = l.length) (j : mIdx gs i = some (b,x.length,c)) :
  St w0 (SlX T' ecH (RS T enc sz) sb sc l :: As) w := H.cR.bc e hl j rfl
theorem St.ej {sb : Option Addr} {sc : Nat} {gs : List (Option Addr × Nat × Nat)} {l : List (List α)} {i : Int} {x x' : List α} {b b0 : Option Addr} {c j : Nat} {u : Nat} (H : St w0 (Sl T enc sz b c x' :: Sl T' ecH 1 sb sc (mSet gs i (b,x'.length,c)) :: But (RS T enc sz) gs l i :: As) w) (e : mIdx l i = some x) (hl : gs.length = l.length) (t : mIdx gs i = some (b0,u,j)) :
  St w0 (SlX T' ecH (RS T enc sz) sb sc (mSet l i x') :: As) w := H.cR.Ba e hl t
theorem fU (T : TypeId) (enc : α -> List Value) (sz : Nat) (H : St w0 As w) : ∀ n : Nat,St w0 (Objs (RS T enc sz) (List.replicate n (none,0,0)) (List.replicate n []) ++ As) w
 | 0 => by simpa [Objs] using H
 | n + 1 => by
  have := (fU T enc sz H n).bb T enc sz;simpa [List.replicate_succ,Objs] using this.cR
theorem OpTo.Da {P : Program} {n : Nat} {a : Act} {L : Env} {o : Oper} {t : TypeId} {x : Operand} {m : Int} {l : List (List α)} {ti : TypeInfo} {j : Value} (hl : mW m ([] : List α) = some l) (y : zN n a L) (H : St w0 As w) (D : o.op = .makeSlice t x x) (F : evO L x = some (.int .i64 m))
  (ht : P.underlying t = some (.slice T')) (hi : P.info? T' = some ti) (hs : ti.size = 1) (hz : ti.zero = some j) (B : j.cells.toList = [.slice none 0 0]) (A : Nat.ble ti.bytes 131072 = true) :
  OpTo P o a w fun v w' => ∃ r : Nat,v = .slice (some ⟨r,0,none⟩) l.length l.length /\ St w0 (SlX T' ecH (RS T enc sz) (some ⟨r,0,none⟩) l.length l :: As) w' := by
 obtain ⟨h0,rfl⟩ := iv hl;have := OpTo.make (P := P) (o := o) (z := ((none,0,0) : Option Addr × Nat × Nat)) (l := List.replicate m.toNat (none,0,0)) (by unfold mW; rw [if_pos h0]) y H vq D F ht hi hs hz B A;refine this.mono ?_;rintro v w' ⟨r,rfl,u⟩;refine ⟨r,by simp,?_⟩;refine St.lJ (List.replicate m.toNat (none,0,0)) (List.replicate m.toNat []) (by simp) ?_;have e := fU T enc sz u m.toNat;simp only [List.length_replicate] at e ⊢;exact e.perm (List.perm_middle)
end
end
end Go.Th
