/-
  The statements DispatchTwins of the program.
  Text 1 of 7: of what the proof needs (a row of the program: no condition is left); put together and made narrow by a program.
-/
import Derived.Calls
import Derived.Conc.LoneSelect
import Derived.KernelRfl
import Derived.Laws.AppendOwn
import Derived.Laws.StructEq
import Derived.OrdersHeld
set_option linter.unusedVariables false
set_option linter.unusedSimpArgs false
namespace Go.Th
abbrev rg_7 : List Nat := [0, 1, 2, 3, 4, 5, 6, 7]
abbrev rg_11 : List Nat := [0, 1, 2, 3, 4, 5, 6, 7, 8, 9, 10, 11]
abbrev rg_6 : List Nat := [0, 1, 2, 3, 4, 5, 6]
abbrev rg_13 : List Nat := [0, 1, 2, 3, 4, 5, 6, 7, 8, 9, 10, 11, 12, 13]
abbrev rg_8 : List Nat := [0, 1, 2, 3, 4, 5, 6, 7, 8]
abbrev rg_21 : List Nat := [0, 1, 2, 3, 4, 5, 6, 7, 8, 9, 10, 11, 12, 13, 14, 15, 16, 17, 18, 19, 20, 21]
abbrev rg_30 : List Nat := [0, 1, 2, 3, 4, 5, 6, 7, 8, 9, 10, 11, 12, 13, 14, 15, 16, 17, 18, 19, 20, 21, 22, 23, 24, 25, 26, 27, 28, 29, 30]
end Go.Th
noncomputable section
namespace Go.Th
theorem bS {A B : Type} (a : A) (f : A -> Option B) : (some a).bind f = f a := rfl
theorem lA {A : Type} {a b : List A} : (a ++ b).length = a.length + b.length := List.length_append
theorem mL {A : Type} {a : A} {l : List A} (m : List A) (h : a ∈ l) : a ∈ l ++ m := List.mem_append_left _ h
theorem mC {A : Type} (y : A) {a : A} {l : List A} (h : a ∈ l) : a ∈ y :: l := List.mem_cons_of_mem _ h
theorem dF {p : Prop} [i : Decidable p] (h : ¬p) : decide p = false := _root_.decide_eq_false h
theorem dT {p : Prop} [i : Decidable p] (h : p) : decide p = true := _root_.decide_eq_true h
theorem tN (n : Nat) : Int.toNat (n : Int) = n := Int.toNat_natCast n
theorem lC {A : Type} {a : A} {l : List A} : (a :: l).length = l.length + 1 := List.length_cons
theorem iC {A : Type} {a b : A} {l : List A} : a ∈ b :: l ↔ a = b \/ a ∈ l := List.mem_cons
theorem iA {A : Type} {a : A} {l m : List A} : a ∈ l ++ m ↔ a ∈ l \/ a ∈ m := List.mem_append
theorem aA {A : Type} (a b c : List A) : a ++ b ++ c = a ++ (b ++ c) := List.append_assoc ..
theorem aN {A : Type} (l : List A) : l ++ [] = l := List.append_nil _
theorem pC {A B : Type} {f : A -> B} {a : A} {l : List A} : (a :: l).map f = f a :: l.map f := List.map_cons
theorem lM {A B : Type} {l : List A} (f : A -> B) : (l.map f).length = l.length := List.length_map ..
theorem cT {A : Type} (a b : A) : cond true a b = a := rfl
theorem cF {A : Type} (a b : A) : cond false a b = b := rfl
end Go.Th
namespace Go.Th
abbrev Env := List (Nat × Value)
def look (t : Nat) : Env -> Option Value
 | [] => none
 | (u, v) :: r => match Nat.beq t u with
  | true => some v
  | false => look t r
structure zV (n : Nat) (a : Act) (L : Env) : Prop where
 size : a.tmps.size = n
 defers : a.defers = []
 has : ∀ t v, look t L = some v -> a.tmps[t]? = some v
theorem wB (t u : Nat) (v : Value) (r : Env) : look t ((u, v) :: r) = if t = u then some v else look t r := by
 simp only [look];split
 ·rename_i h; simp [Nat.eq_of_beq_eq_true h]
 ·rename_i h; simp [Nat.ne_of_beq_eq_false h]
theorem zV.put {n : Nat} {a : Act} {L : Env} (h : zV n a L) (d : Nat) (v : Value) (hd : d < n) : zV n (a.put (some d) v) ((d, v) :: L) := by
 refine ⟨by simp [Act.put, h.size], h.defers, fun t u hu => ?_⟩;rw [wB] at hu;simp only [Act.put];split at hu
 ·subst_vars; cases hu; simp [h.size, hd]
 ·rename_i i;rw [Array.getElem?_setIfInBounds_ne (fun e => i e.symm)];exact h.has t u hu
def evO (L : Env) : Operand -> Option Value
 | .tmp t => look t L
 | .const v => some v
 | .global g => some (.pointer (some ⟨g, 0, none⟩))
 | .func f => some (.func (.func f) #[] #[])
theorem zV.eval {n : Nat} {a : Act} {L : Env} (h : zV n a L) {x : Operand} {v : Value} (e : evO L x = some v) : a.eval x = v := by
 cases x with
 | tmp t =>
  have := h.has t v e;simp [Act.eval, Array.getD_eq_getD_getElem?, this]
 | const u => simpa [evO, Act.eval] using e
 | global g => simpa [evO, Act.eval] using e
 | func f => simpa [evO, Act.eval] using e
def rho (L : Env) (x : Operand) : Value := match evO L x with
 | some v => v
 | none => undef
def mw (L : Env) : List Operand -> Bool
 | [] => true
 | x :: r => match evO L x with
  | some _ => mw L r
  | none => false
theorem o6 {L : Env} : ∀ {l : List Operand}, mw L l = true -> ∀ x ∈ l, ∃ v, evO L x = some v
 | [], _, x, e => by cases e
 | y :: r, h, x, e => by
  simp only [mw] at h;split at h
  ·rename_i v hv;cases e with
   | head => exact ⟨v, hv⟩
   | tail _ hm => exact o6 h x hm
  ·cases h
def sw : Op -> Bool
 | .select .. => true
 | _ => false
theorem mJ {n : Nat} {a : Act} {L : Env} (h : zV n a L) {o : Oper} (hs : sw o.op = false) (e : mw L o.op.operands.toList = true) :
  execOp a.eval o = execOp (rho L) o := by
 refine execOp_congr o (fun cs b i => by simp [i, sw] at hs) (fun x j => ?_);obtain ⟨v, hv⟩ := o6 e x (by simpa using j);rw [h.eval hv]; simp [rho, hv]
inductive Ob where
 | cell (a : Addr) (v : Value)
 | p (q : Prop)
def Ob.holds (w : World) : Ob -> Prop
 | .cell a v => w.cell? a = some v
 | .p q => q
def xu (w : World) : List Ob -> Prop
 | [] => True
 | o :: r => o.holds w /\ xu w r
theorem xR {w : World} : ∀ {l m : List Ob}, xu w (l ++ m) ↔ xu w l /\ xu w m
 | [], m => by simp [xu]
 | o :: l, m => by simp [xu, xR (l := l) (m := m), and_assoc]
def runA (P : Program) {α : Type} : Sem α -> List Value -> Option (α × List Ob × List Value)
 | .pure a, e => some (a, [], e)
 | .load _ j k, e => match e with
  | [] => none
  | v :: e => match runA P (k v) e with
   | some (x, obs, i) => some (x, .cell j v :: obs, i)
   | none => none
 | .program k, e => runA P (k P) e
 | .mark _ k, e => runA P k e
 | _, _ => none
theorem qP (P : Program) (w : World) {α : Type} : ∀ (s : Sem α) (i : List Value) (x : α) (obs : List Ob) (e : List Value),
  runA P s i = some (x, obs, e) -> xu w obs -> s.run P w = .ok x w := by
 intro s;induction s with
 | pure a => intro i x obs e h _; simp [runA] at h; obtain ⟨rfl, _, _⟩ := h; rfl
 | load m z k ih =>
  intro i x obs e h j;cases i with
  | nil => simp [runA] at h
  | cons v i =>
   simp only [runA] at h;split at h
   ·rename_i y t l u;simp at h;obtain ⟨rfl, rfl, rfl⟩ := h;simp only [xu, Ob.holds] at j;simp only [Sem.run, j.1];exact ih v i _ _ _ u j.2
   ·cases h
 | program k ih => intro i x obs e h j; simp only [runA] at h; simp only [Sem.run]; exact ih P i x obs e h j
 | mark m k ih => intro i x obs e h j; simp only [runA] at h; simp only [Sem.run]; exact ih i x obs e h j
 | _ => intro i x obs e h; simp [runA] at h
def ym (base : Option Addr) (cap l size : Nat) : Option Addr := if cap = l then base else base.map (·.add (l * size))
def lB : Option Value -> Option Nat
 | none => some 0
 | some (.int _ i) => some i.toNat
 | _ => none
def oI : Option Value -> Nat -> List Ob
 | some (.int _ i), h => [.p (0 <= i /\ i <= (h : Int))]
 | _, _ => []
def oH (len : Nat) : Option Value -> Option Nat
 | none => some len
 | some (.int _ i) => some i.toNat
 | _ => none
def evOp (P : Program) (L : Env) (o : Oper) (j : List Value) : Option (Value × List Ob × List Value) :=
 match sw o.op, mw L o.op.operands.toList with
 | false, true =>
  match o.op with
  | .indexAddr t x i => match P.underlying t, rho L x, rho L i with
   | some (.slice e), .slice base len _, .int _ z => match j, P.info? e with
    | .pointer (some ⟨b, off, none⟩) :: j, some ti => some (.pointer (some ⟨b, off + z.toNat * ti.size, none⟩), [.p (base = some ⟨b, off, none⟩), .p (0 <= z /\ z < (len : Int))], j)
    | _, _ => none
   | some (.array len e), .pointer (some ⟨b, off, none⟩), .int _ z => match P.info? e with
    | some ti => some (.pointer (some ⟨b, off + z.toNat * ti.size, none⟩), [.p (0 <= z /\ z < (len : Int))], j)
    | none => none
   | _, _, _ => none
  | .slice t x lo hi none => match P.underlying t, rho L x with
   | some (.slice e), .slice base len cap => match P.info? e, lB (lo.map (rho L)), oH len (hi.map (rho L)) with
    | some ti, some l, some h => match j with
     | .slice B D F :: j => some (.slice B D F, .p (ym base cap l ti.size = B) :: .p (h - l = D) :: .p (cap - l = F) :: (oI (hi.map (rho L)) cap ++ oI (lo.map (rho L)) h), j)
     | _ => none
    | _, _, _ => none
   | some .string, .string s => match lB (lo.map (rho L)), oH s.size (hi.map (rho L)) with
    | some l, some h => some (.string (s.extract l h), oI (hi.map (rho L)) s.size ++ oI (lo.map (rho L)) h, j)
    | _, _ => none
   | _, _ => none
  | .binOp .quo _ x y _ => match rho L x, rho L y with
   | .int .i64 a, .int .i64 b => some (.int .i64 (IntKind.i64.wrap (a.tdiv b)), [.p (b ≠ 0)], j)
   | _, _ => none
  | .binOp .rem _ x y _ => match rho L x, rho L y with
   | .int .i64 a, .int .i64 b => some (.int .i64 (a.tmod b), [.p (b ≠ 0)], j)
   | _, _ => none
  | .binOp .shl _ x y _ => match rho L x, rho L y with
   | .int k a, .int _ b => some (.int k (k.wrap (a * 2 ^ (min b.toNat k.bits))), [.p (0 <= b)], j)
   | _, _ => none
  | .binOp .shr _ x y _ => match rho L x, rho L y with
   | .int k a, .int _ b => some (.int k (a.fdiv (2 ^ (min b.toNat k.bits))), [.p (0 <= b)], j)
   | _, _ => none
  | .index t x i => match P.underlying t, rho L x, rho L i with
   | some .string, .string s, .int _ z => match j with
    | .int .u8 c :: j => some (.int .u8 c, [.p (0 <= z /\ ∃ u, s[z.toNat]? = some u /\ c = (u.toNat : Int))], j)
    | _ => none
   | _, _, _ => none
  | _ => match runA P (execOp (rho L) o) j with
   | some (.value v, obs, A) => some (v, obs, A)
   | _ => none
 | _, _ => none
theorem vi (b off n : Nat) : (⟨b, off, none⟩ : Addr).add n = ⟨b, off + n, none⟩ := by
 unfold Addr.add; split <;> simp_all
theorem xt (P : Program) {t : TypeId} {d : TypeDesc} (h : P.underlying t = some d) (w : World) : (underlying t).run P w = .ok d w := by
 simp [underlying, program, bind, Sem.bind, Sem.run, h, pure]
theorem tr (P : Program) {t : TypeId} {i : TypeInfo} (h : P.info? t = some i) (w : World) : (sizeOf t).run P w = .ok i.size w := by
 simp [sizeOf, typeInfo, program, bind, Sem.bind, Sem.run, h, pure]
theorem eF (P : Program) {x : Value} {k : IntKind} {i : Int} {y : Nat} {c : BoundsCode} (e : x = .int k i) (h : 0 <= i /\ i <= (y : Int)) (w : World) :
  (Instr.sliceBound x y c).run P w = .ok i.toNat w := by
 subst e;simp [Instr.sliceBound, asIntOf, bind, Sem.bind, pure, h]
theorem gT (P : Program) {lo : Option Value} {l h : Nat} (hl : lB lo = some l) (w : World) (e : xu w (oI lo h)) (c : BoundsCode) :
  (match lo with
   | some v => Instr.sliceBound v h c
   | none => (pure 0 : Sem Nat)).run P w = .ok l w := by
 cases lo with
 | none => simp [lB] at hl; subst hl; rfl
 | some v =>
  cases v <;> simp only [lB] at hl <;> try cases hl
  rename_i k i;simp only [oI, xu, Ob.holds] at e;exact eF P rfl e.1 w
theorem fV (P : Program) {hi : Option Value} {len h cap : Nat} (hl : oH len hi = some h) (w : World) (e : xu w (oI hi cap)) (c : BoundsCode) :
  (match hi with
   | some v => Instr.sliceBound v cap c
   | none => (pure len : Sem Nat)).run P w = .ok h w := by
 cases hi with
 | none => simp [oH] at hl; subst hl; rfl
 | some v =>
  cases v <;> simp only [oH] at hl <;> try cases hl
  rename_i k i;simp only [oI, xu, Ob.holds] at e;exact eF P rfl e.1 w
theorem oV (P : Program) (b : Bool) (len cap : Nat) (lo hi : Option Value) {l h : Nat} (hl : lB lo = some l) (hh : oH len hi = some h) (w : World)
  (s : xu w (oI hi cap)) (j : xu w (oI lo h)) : (Instr.sliceBounds b len cap lo hi none).run P w = .ok (l, h, cap) w := by
 unfold Instr.sliceBounds;cases hi with
 | none =>
  simp only [oH, Option.some.injEq] at hh; subst hh;cases lo with
  | none => simp only [lB, Option.some.injEq] at hl; subst hl; simp
  | some v =>
   have e := gT P hl w j .sliceB;simp only at e;simp [e]
 | some u =>
  have i := fun c => fV P hh w s c
  simp only at i;cases lo with
  | none => simp only [lB, Option.some.injEq] at hl; subst hl; simp [i]
  | some v =>
   have e := gT P hl w j .sliceB;simp only at e;simp [e, i]
theorem nC {P : Program} {n : Nat} {a : Act} {L : Env} (hE : zV n a L) {o : Oper} {U : List Value} {v : Value} {obs : List Ob} {J : List Value}
  (h : evOp P L o U = some (v, obs, J)) {w : World} (z : xu w obs) : (execOp a.eval o).run P w = .ok (.value v) w := by
 unfold evOp at h;split at h
 case h_2 => cases h
 rename_i hs W;rw [mJ hE hs W];split at h
 ·
  rename_i t x i j;simp only [execOp, j];split at h
  ·rename_i e base len cap k iv hu A hi;rw [A, hi];split at h
   ·rename_i b off O ti B;simp only [Option.some.injEq, Prod.mk.injEq] at h;obtain ⟨rfl, rfl, _⟩ := h;simp only [xu, Ob.holds] at z;obtain ⟨rfl, D, -⟩ := z;simp [Instr.indexAt, asIntOf, xt P hu, D, tr P B, vi]
   ·cases h
  ·rename_i len e b off k iv hu A hi;rw [A, hi];split at h
   ·rename_i ti B;simp only [Option.some.injEq, Prod.mk.injEq] at h;obtain ⟨rfl, rfl, _⟩ := h;simp only [xu, Ob.holds] at z;obtain ⟨D, -⟩ := z;simp [Instr.indexAt, Instr.sureAddr, asIntOf, xt P hu, D, tr P B, vi]
   ·cases h
  ·cases h
 ·
  rename_i t x lo hi j;simp only [execOp, j];split at h
  ·rename_i e base len cap hu A;rw [A];split at h
   ·rename_i ti l hh B hl F;split at h
    ·simp only [Option.some.injEq, Prod.mk.injEq] at h;obtain ⟨rfl, rfl, _⟩ := h;simp only [xu, Ob.holds] at z;obtain ⟨rfl, rfl, rfl, z⟩ := z;rw [xR] at z;have X : (Instr.sliceBounds true len cap (lo.map (rho L)) (hi.map (rho L)) none).run P w = .ok (l, hh, cap) w := oV P true _ _ _ _ hl F w z.1 z.2;simp [Instr.sliceAt, Instr.slice, xt P hu, tr P B, ym, X]
    ·cases h
   ·cases h
  ·rename_i s hu A;rw [A];split at h
   ·rename_i l hh hl F;simp only [Option.some.injEq, Prod.mk.injEq] at h;obtain ⟨rfl, rfl, _⟩ := h;rw [xR] at z;have X : (Instr.sliceBounds false s.size s.size (lo.map (rho L)) (hi.map (rho L)) none).run P w = .ok (l, hh, s.size) w := oV P false _ _ _ _ hl F w z.1 z.2;simp [Instr.sliceAt, Instr.slice, xt P hu, X]
   ·cases h
  ·cases h
 ·
  rename_i t x y t2 j;simp only [execOp, j];split at h
  ·rename_i Y S A I;simp only [Option.some.injEq, Prod.mk.injEq] at h;obtain ⟨rfl, rfl, _⟩ := h;simp only [xu, Ob.holds] at z;simp [A, I, eqGuard, binOp, Op.intDiv, z.1]
  ·cases h
 ·
  rename_i t x y t2 j;simp only [execOp, j];split at h
  ·rename_i Y S A I;simp only [Option.some.injEq, Prod.mk.injEq] at h;obtain ⟨rfl, rfl, _⟩ := h;simp only [xu, Ob.holds] at z;simp [A, I, eqGuard, binOp, Op.intDiv, z.1]
  ·cases h
 ·
  rename_i t x y t2 j;simp only [execOp, j];split at h
  ·rename_i k Y k2 S A I;simp only [Option.some.injEq, Prod.mk.injEq] at h;obtain ⟨rfl, rfl, _⟩ := h;simp only [xu, Ob.holds] at z;have D : ¬ S < 0 := by omega
   simp [A, I, eqGuard, binOp, Op.shift, D]
  ·cases h
 ·
  rename_i t x y t2 j;simp only [execOp, j];split at h
  ·rename_i k Y k2 S A I;simp only [Option.some.injEq, Prod.mk.injEq] at h;obtain ⟨rfl, rfl, _⟩ := h;simp only [xu, Ob.holds] at z;have D : ¬ S < 0 := by omega
   simp [A, I, eqGuard, binOp, Op.shift, D]
  ·cases h
 ·
  rename_i t x i j;simp only [execOp, j];split at h
  ·rename_i s k iv hu A hi;rw [A, hi];split at h
   ·rename_i c O;simp only [Option.some.injEq, Prod.mk.injEq] at h;obtain ⟨rfl, rfl, _⟩ := h;simp only [xu, Ob.holds] at z;obtain ⟨⟨h0, u, Z, rfl⟩, -⟩ := z;simp [Instr.index, asIntOf, xt P hu, h0, Z]
   ·cases h
  ·cases h
 ·split at h
  ·rename_i u a1 a2 hr;simp only [Option.some.injEq, Prod.mk.injEq] at h;obtain ⟨rfl, rfl, _⟩ := h;exact qP P w _ _ _ _ _ hr z
  ·cases h
def vP (ops : Array Oper) (L : Env) (o : Oper) : Option Bool :=
 match o.guard with
 | none => some true
 | some (j, want) => match (ops[j]?).bind (·.dst) with
  | some d => match look d L with
   | some (.bool b) => some (b == want)
   | some (.tuple _) => some false
   | _ => none
  | none => none
theorem xA {n : Nat} {a : Act} {L : Env} (i : zV n a L) {ops : Array Oper} {o : Oper} {b : Bool} (h : vP ops L o = some b) :
  Region.wanted o (yielded ops a.tmps) = b := by
 unfold vP at h;unfold Region.wanted;split at h
 ·rename_i e; rw [e]; simpa using h
 ·rename_i j want e;rw [e];simp only;unfold yielded;split at h
  ·rename_i d hd;rw [hd];split at h
   ·rename_i u hu;simp only [bS, i.has _ _ hu];simpa using h
   ·rename_i u hu;simp only [bS, i.has _ _ hu];simpa using h
   ·cases h
  ·cases h
def setE (n : Nat) (d : Option Tmp) (v : Value) (L : Env) : Option Env :=
 match d with
 | none => some L
 | some d => match Nat.blt d n with
  | true => some ((d, v) :: L)
  | false => none
theorem sj {n : Nat} {a : Act} {L L' : Env} {d : Option Tmp} {v : Value} (e : zV n a L) (h : setE n d v L = some L') : zV n (a.put d v) L' := by
 unfold setE at h;split at h
 ·cases h; exact e
 ·split at h
  ·rename_i hd; cases h; exact e.put _ _ (by simpa [Nat.blt_eq] using hd)
  ·cases h
def rX (P : Program) (n : Nat) (ops : Array Oper) : List Nat -> Env -> List Value -> Option (Env × List Ob)
 | [], L, _ => some (L, [])
 | i :: is, L, e => match ops[i]? with
  | none => none
  | some o => match vP ops L o with
   | none => none
   | some false => match setE n o.dst undef L with
    | some s => rX P n ops is s e
    | none => none
   | some true => match evOp P L o e with
    | none => none
    | some (v, obs, j) => match setE n o.dst v L with
     | none => none
     | some s => match rX P n ops is s j with
      | some (L2, l) => some (L2, obs ++ l)
      | none => none
def sel : List Nat -> Env -> Option Env
 | [], _ => some []
 | k :: ks, L => match look k L with
  | none => none
  | some v => match sel ks L with
   | none => none
   | some r => some ((k, v) :: r)
theorem tW {n : Nat} {a : Act} {L : Env} (e : zV n a L) : ∀ {ks : List Nat} {Lo : Env}, sel ks L = some Lo -> zV n a Lo
 | [], Lo, h => by simp [sel] at h; subst h; exact ⟨e.size, e.defers, fun t v hv => by simp [look] at hv⟩
 | k :: ks, Lo, h => by
  simp only [sel] at h;split at h
  ·cases h
  ·rename_i v hv;split at h
   ·cases h
   ·rename_i r i;cases h;have ih := tW e i;refine ⟨e.size, e.defers, fun t u hu => ?_⟩;rw [wB] at hu;split at hu
    ·subst_vars; cases hu; exact e.has _ _ hv
    ·exact ih.has t u hu
def p4 (P : Program) (n : Nat) (ops : Array Oper) (is : List Nat) (L : Env) (e : List Value) (ks : List Nat) : Option (Env × List Ob) :=
 match rX P n ops is L e with
 | none => none
 | some (i, obs) => match sel ks i with
  | some Lo => some (Lo, obs)
  | none => none
theorem pT {P : Program} {n : Nat} {ops : Array Oper} {Q : Exit -> Act -> World -> Prop} {w : World} {rest : List Nat} :
  ∀ (is : List Nat) (a : Act) (L : Env) (e : List Value) (L' : Env) (obs : List Ob), zV n a L -> rX P n ops is L e = some (L', obs) -> xu w obs ->
   (∀ x, zV n x L' -> wpOps P ops Q rest x w) -> wpOps P ops Q (is ++ rest) a w := by
 intro is;induction is with
 | nil => intro a L e L' obs j h s hk; simp [rX] at h; obtain ⟨rfl, rfl⟩ := h; exact hk a j
 | cons i is ih =>
  intro a L e L' obs j h s hk;rw [List.cons_append, wpOps_cons];simp only [rX] at h;split at h
  ·cases h
  ·rename_i o u;unfold wpOp;simp only [u];split at h
   ·cases h
   ·rename_i hw;rw [xA j hw];split at h
    ·rename_i B l;exact ih _ _ _ _ _ (sj j l) h s hk
    ·cases h
   ·rename_i hw;rw [xA j hw];split at h
    ·cases h
    ·rename_i v y z hv;split at h
     ·cases h
     ·rename_i B l;split at h
      ·rename_i L2 A t;cases h;rw [xR] at s;have D := nC j hv s.1;simp only [if_true];refine .inl ?_;unfold Oper.wp;rw [D];exact ih _ _ _ _ _ (sj j l) t s.2 hk
      ·cases h
def yX (P : Program) (f : FuncId) (args : Array Value) (w : World) (R : Value -> World -> Prop) : Prop :=
 Calls P f args w fun e w' => ∃ v, e = .returned v /\ R v w'
theorem yX.mono {P : Program} {f : FuncId} {args : Array Value} {w : World} {R e : Value -> World -> Prop} (h : yX P f args w R) (i : ∀ v w', R v w' -> e v w') : yX P f args w e :=
 Calls.mono h fun _ _ ⟨v, he, hv⟩ => ⟨v, he, i _ _ hv⟩
def Runs (P : Program) (f : FuncId) (todo : List Item) (a : Act) (w : World) (R : Value -> World -> Prop) : Prop :=
 ∀ (b : Frame), b.fn = f -> b.kind = .normal -> ∀ cs, ∃ v w' fr, R v w' /\ Steps P (lone (b.at a todo) cs w) (lone fr cs w') /\ fr.fn = f /\ fr.leaving P w' (.returned v)
def qZ : Nat -> List Value -> Env
 | _, [] => []
 | i, v :: r => (i, v) :: qZ (i + 1) r
theorem pd : ∀ (l : List Value) (i t : Nat) (v : Value), look t (qZ i l) = some v -> i <= t /\ l[t - i]? = some v
 | [], i, t, v, h => by simp [qZ, look] at h
 | u :: l, i, t, v, h => by
  simp only [qZ] at h;rw [wB] at h;split at h
  ·subst_vars; cases h; simp
  ·rename_i e;obtain ⟨h1, h2⟩ := pd l (i + 1) t v h;refine ⟨by omega, ?_⟩;have : t - i = (t - (i + 1)) + 1 := by omega
   rw [this]; simpa using h2
section
variable {P : Program} {f : FuncId} {k : List Item} {a : Act} {w : World} {R : Value -> World -> Prop}
theorem enter {fn : Func} {c : Code} {args : List Value} {n : Nat} (hf : P.funcs[f]? = some fn) (j : fn.body = some c) (hn : fn.ntmps = n) (hl : Nat.ble args.length n = true)
  (h : ∀ a, zV n a (qZ 0 args) -> Runs P f [.code c] a w R) : yX P f args.toArray w R := by
 intro cs;have l : args.length <= n := Nat.le_of_ble_eq_true hl
 let b : Frame := { (default : Frame) with fn := f, kind := .normal }
 have e : Frame.enter P f args.toArray .normal =
   b.at { tmps := args.toArray ++ Array.replicate (fn.ntmps - args.toArray.size) undef, defers := [] } [.code c] := by
  simp [Frame.enter, Frame.at, hf, j, b]
 obtain ⟨v, w', fr, s, hs, h1, h2⟩ := h { tmps := args.toArray ++ Array.replicate (fn.ntmps - args.toArray.size) undef, defers := [] } ⟨by simp [hn]; omega, rfl, fun t v hv => by
  obtain ⟨_, h2⟩ := pd _ _ _ _ hv;simp only [Nat.sub_zero] at h2;have i : t < args.length := (List.getElem?_eq_some_iff.1 h2).1;rw [Array.getElem?_append_left (by simpa using i)];simpa using h2⟩ b rfl rfl cs
 exact ⟨.returned v, w', fr, ⟨v, rfl, s⟩, by rw [e]; exact hs, h1, h2⟩
theorem Runs.step {todo e : List Item} {i : Act} {w' : World} (hs : ∀ (b : Frame) cs, step P (lone (b.at a todo) cs w) = .next (lone (b.at i e) cs w')) (h : Runs P f e i w' R) : Runs P f todo a w R :=
 fun b j hk cs => let ⟨v, l, fr, s, h1, h2⟩ := h b j hk cs; ⟨v, l, fr, s, .head (hs b cs) h1, h2⟩
theorem Runs.skip (h : Runs P f k a w R) : Runs P f (.code .skip :: k) a w R := .step (fun _ _ => step_skip) h
theorem Runs.label {l : Nat} (h : Runs P f k a w R) : Runs P f (.code (.label l) :: k) a w R := .step (fun _ _ => step_label) h
theorem Runs.inBlock {id : Nat} (h : Runs P f k a w R) : Runs P f (.inBlock id :: k) a w R := .step (fun _ _ => step_inBlock) h
theorem Runs.seq {x y : Code} (h : Runs P f (.code x :: .code y :: k) a w R) : Runs P f (.code (.seq x y) :: k) a w R := .step (fun _ _ => step_seq) h
theorem Runs.block {id : Nat} {c : Code} (h : Runs P f (.code c :: .inBlock id :: k) a w R) : Runs P f (.code (.block id c) :: k) a w R := .step (fun _ _ => step_block) h
theorem Runs.exit {id : Nat} {e : List Item} (he : exitTo id k = some e) (h : Runs P f e a w R) : Runs P f (.code (.exit id) :: k) a w R := .step (fun _ _ => step_exit he) h
theorem Runs.inLoop {c : Code} (h : Runs P f (.code c :: .inLoop c :: k) a w R) : Runs P f (.inLoop c :: k) a w R := .step (fun _ _ => step_inLoop) h
theorem Runs.cond {n : Nat} {L : Env} {c : Operand} {x y : Code} {t : Bool} (e : zV n a L) (i : evO L c = some (.bool t)) (h1 : t = true -> Runs P f (.code x :: k) a w R) (h2 : t = false -> Runs P f (.code y :: k) a w R) :
  Runs P f (.code (.cond c x y) :: k) a w R := by
 cases t
 ·exact .step (fun _ _ => step_cond (e.eval i)) (h2 rfl)
 ·exact .step (fun _ _ => step_cond (e.eval i)) (h1 rfl)
theorem Runs.tG {n : Nat} {L : Env} {c : Operand} {x y : Code} (e : zV n a L) (i : evO L c = some (.bool true)) (h1 : Runs P f (.code x :: k) a w R) :
  Runs P f (.code (.cond c x y) :: k) a w R := .step (fun _ _ => step_cond (e.eval i)) h1
theorem Runs.uf {n : Nat} {L : Env} {c : Operand} {x y : Code} (e : zV n a L) (i : evO L c = some (.bool false)) (h1 : Runs P f (.code y :: k) a w R) :
  Runs P f (.code (.cond c x y) :: k) a w R := .step (fun _ _ => step_cond (e.eval i)) h1
theorem Runs.eB {c : Code} (h : Runs P f (.code c :: .inLoop c :: k) a w R) : Runs P f (.code (.loop c) :: k) a w R := .step (fun _ _ => step_loop) h
theorem Runs.loop {c : Code} (I : Nat -> Act -> World -> Prop) (N : Nat) (h0 : I N a w)
  (round : ∀ m, (∀ e, e < m -> ∀ a w, I e a w -> Runs P f (.inLoop c :: k) a w R) -> ∀ a w, I m a w -> Runs P f (.code c :: .inLoop c :: k) a w R) : Runs P f (.code (.loop c) :: k) a w R := by
 have key : ∀ m a w, I m a w -> Runs P f (.code c :: .inLoop c :: k) a w R := by
  intro m;induction m using Nat.strongRecOn with
  | _ m ih => exact round m fun e i a w j => .inLoop (ih e i a w j)
 exact .step (fun _ _ => step_loop) (key N a w h0)
def kf (L : Env) : List ResultVar -> Option (List Value)
 | [] => some []
 | .tmp t :: r => match look t L, kf L r with
  | some v, some vs => some (v :: vs)
  | _, _ => none
 | .cell _ _ :: _ => none
def uE : List Value -> Value
 | [v] => v
 | vs => .tuple vs.toArray
theorem p6 {n : Nat} {L : Env} (i : zV n a L) : ∀ (rs : List ResultVar) (vs : List Value), kf L rs = some vs ->
  (rs.mapM fun (x : ResultVar) => match x with
   | .tmp t => (pure (a.tmps.getD t undef) : Sem Value)
   | .cell x t => do loadVar t (<- asAddr (a.tmps.getD x undef))).run P w = .ok vs w
 | [], vs, h => by simp [kf] at h; subst h; simp
 | .tmp t :: r, vs, h => by
  simp only [kf] at h;split at h
  ·rename_i v us hv e;cases h;have ih := p6 i r us e;have := i.has _ _ hv;simp only [Array.getD_eq_getD_getElem?] at ih ⊢;simp only [List.mapM_cons, Sem.run_bind, Sem.run_pure, Result.andThen_ok, this, Option.getD_some];rw [ih]
   rfl
  ·cases h
 | .cell _ _ :: _, vs, h => by simp [kf] at h
theorem Runs.ret {n : Nat} {L : Env} {fn : Func} {rs : List ResultVar} {vs : List Value} (e : zV n a L) (hf : P.funcs[f]? = some fn) (j : fn.results = rs.toArray) (hv : kf L rs = some vs) (h : R (uE vs) w) :
  Runs P f (.code .ret :: k) a w R := by
 intro b i hk cs;refine ⟨uE vs, w, _, h, .one step_ret, by simp [Frame.at, i], rfl, e.defers, hk, fn, by simpa [Frame.at, i] using hf, ?_⟩;have := p6 (P := P) (w := w) e rs vs hv;unfold results;simp only [Frame.at, j, List.mapM_toArray, Sem.run_bind, Sem.run_map]
 erw [this]
 simp only [Result.andThen_ok]
 match vs with
 | [] => simp [uE]
 | [v] => simp [uE]
 | v :: u :: r => simp [uE]
theorem Runs.fin {n : Nat} {L : Env} {fn : Func} {rs : List ResultVar} {vs : List Value} (e : zV n a L) (hf : P.funcs[f]? = some fn) (j : fn.results = rs.toArray) (hv : kf L rs = some vs) (h : R (uE vs) w) :
  Runs P f [] a w R := by
 intro b i hk cs;refine ⟨uE vs, w, _, h, .one step_end, by simp [Frame.at, i], rfl, e.defers, hk, fn, by simpa [Frame.at, i] using hf, ?_⟩;have := p6 (P := P) (w := w) e rs vs hv;unfold results;simp only [Frame.at, j, List.mapM_toArray, Sem.run_bind, Sem.run_map]
 erw [this]
 simp only [Result.andThen_ok]
 match vs with
 | [] => simp [uE]
 | [v] => simp [uE]
 | v :: u :: r => simp [uE]
def rG (P : Program) (L : Env) : List ResultVar -> List Value -> Option (List Value × List Ob)
 | [], _ => some ([], [])
 | .tmp t :: r, e => match look t L, rG P L r e with
  | some v, some (vs, obs) => some (v :: vs, obs)
  | _, _ => none
 | .cell x t :: r, e => match look x L with
  | some (.pointer (some l)) => match runA P (loadVar t l) e with
   | some (v, obs, i) => match rG P L r i with
    | some (vs, j) => some (v :: vs, obs ++ j)
    | none => none
   | none => none
  | _ => none
theorem q5 {n : Nat} {L : Env} (u : zV n a L) : ∀ (rs : List ResultVar) (e : List Value) (vs : List Value) (obs : List Ob), rG P L rs e = some (vs, obs) -> xu w obs ->
  (rs.mapM fun (x : ResultVar) => match x with
   | .tmp t => (pure (a.tmps.getD t undef) : Sem Value)
   | .cell x t => do loadVar t (<- asAddr (a.tmps.getD x undef))).run P w = .ok vs w
 | [], e, vs, obs, h, _ => by simp [rG] at h; obtain ⟨rfl, _⟩ := h; simp
 | .tmp t :: r, e, vs, obs, h, j => by
  simp only [rG] at h;split at h
  ·rename_i v us obs hv i;cases h;have ih := q5 u r e us obs i j;have := u.has _ _ hv;simp only [Array.getD_eq_getD_getElem?] at ih ⊢;simp only [List.mapM_cons, Sem.run_bind, Sem.run_pure, Result.andThen_ok, this, Option.getD_some];rw [ih]
   rfl
  ·cases h
 | .cell x t :: r, e, vs, obs, h, j => by
  simp only [rG] at h;split at h
  ·rename_i y hv;split at h
   ·rename_i v z l A;split at h
    ·rename_i us s i;cases h;rw [xR] at j;have ih := q5 u r l us s i j.2;have h1 := qP P w _ _ _ _ _ A j.1;have := u.has _ _ hv;have h3 : (asAddr (.pointer (some y))).run P w = .ok y w := rfl;simp only [Array.getD_eq_getD_getElem?] at ih ⊢;simp only [List.mapM_cons, Sem.run_bind, Sem.run_pure, Result.andThen_ok, this, Option.getD_some, h3, h1];rw [ih]
     rfl
    ·cases h
   ·cases h
  ·cases h
theorem Runs.retO {n : Nat} {L : Env} {fn : Func} {rs : List ResultVar} {vs : List Value} {obs : List Ob} (i : zV n a L) (hf : P.funcs[f]? = some fn) (l : fn.results = rs.toArray) (e : List Value) (hv : rG P L rs e = some (vs, obs)) (s : xu w obs) (h : R (uE vs) w) :
  Runs P f (.code .ret :: k) a w R := by
 intro b j hk cs;refine ⟨uE vs, w, _, h, .one step_ret, by simp [Frame.at, j], rfl, i.defers, hk, fn, by simpa [Frame.at, j] using hf, ?_⟩;have := q5 (P := P) (w := w) i rs e vs obs hv s;unfold results;simp only [Frame.at, l, List.mapM_toArray, Sem.run_bind, Sem.run_map]
 erw [this]
 simp only [Result.andThen_ok]
 match vs with
 | [] => simp [uE]
 | [v] => simp [uE]
 | v :: u :: r => simp [uE]
def RQ (P : Program) (f : FuncId) (k : List Item) (R : Value -> World -> Prop) : Exit -> Act -> World -> Prop
 | .normal, a, w => Runs P f k a w R
 | _, _, _ => False
def WR (P : Program) (f : FuncId) (ops : Array Oper) (i : Nat) (k : List Item) (a : Act) (w : World) (R : Value -> World -> Prop) : Prop :=
 wpOps P ops (RQ P f k R) (List.range' i (ops.size - i)) a w
theorem Runs.cA {ops : Array Oper} {is : List Nat} (h : wpOps P ops (RQ P f k R) is a w) : Runs P f (.inRegion ops is :: k) a w R := by
 intro b j hk cs;obtain ⟨e, t, w', hq, i⟩ := wp_ops is a w h b k cs;cases e with
 | normal =>
  obtain ⟨v, l, fr, s, h1, h2⟩ := hq b j hk cs;exact ⟨v, l, fr, s, i.trans h1, h2⟩
 | _ => exact hq.elim
theorem Runs.region {id : Nat} {ops : Array Oper} (h : WR P f ops 0 k a w R) : Runs P f (.code (.region id ops false) :: k) a w R := by
 refine .step (fun _ _ => step_region) (Runs.cA ?_);unfold WR at h;rw [List.range_eq_range'];simpa using h
theorem WR.done {ops : Array Oper} {i : Nat} (hi : Nat.ble ops.size i = true) (h : Runs P f k a w R) : WR P f ops i k a w R := by
 have : ops.size - i = 0 := by have := Nat.le_of_ble_eq_true hi; omega
 simp [WR, this, wpOps, RQ]; exact h
theorem WR.seg {ops : Array Oper} {i n : Nat} {L : Env} (x : zV n a L) (j : Nat) (s : List Value) (ks : List Nat) {Lo : Env} {obs : List Ob}
  (hj : (Nat.ble i j && Nat.ble j ops.size) = true) (he : p4 P n ops (List.range' i (j - i)) L s ks = some (Lo, obs)) (y : xu w obs)
  (hk : ∀ l, zV n l Lo -> WR P f ops j k l w R) : WR P f ops i k a w R := by
 simp only [Bool.and_eq_true] at hj;have h1 := Nat.le_of_ble_eq_true hj.1;have h2 := Nat.le_of_ble_eq_true hj.2;unfold WR;have z : List.range' i (ops.size - i) = List.range' i (j - i) ++ List.range' j (ops.size - j) := by
  have A : ops.size - i = (j - i) + (ops.size - j) := by omega
  have B : i + (j - i) = j := by omega
  rw [A, <- List.range'_append_1, B]
 rw [z];unfold p4 at he;split at he
 ·cases he
 ·rename_i F u hs;split at he
  ·rename_i D e;cases he;exact pT _ _ _ _ _ _ x hs y fun l t => hk l (tW t e)
  ·cases he
def OpTo (P : Program) (o : Oper) (a : Act) (w : World) (e : Value -> World -> Prop) : Prop :=
 match (execOp a.eval o).run P w with
 | .ok (.value v) w' => e v w'
 | .ok .skip w' => e undef w'
 | .ok (.enter g args) w' => yX P g args w' e
 | _ => False
theorem OpTo.mono {o : Oper} {i e : Value -> World -> Prop} (h : OpTo P o a w i) (j : ∀ v w', i v w' -> e v w') : OpTo P o a w e := by
 unfold OpTo at *
 generalize (execOp a.eval o).run P w = r at *
 cases r with
 | ok n w' => cases n <;> first | exact j _ _ h | exact yX.mono h j | exact h.elim
 | halt x w' => exact h.elim
theorem OpTo.wp {o : Oper} {ar : Act} {i : Value -> World -> Prop} {K : Act -> World -> Prop} {Q : Exit -> Act -> World -> Prop} (he : execOp a.eval o = execOp ar.eval o) (h : OpTo P o a w i)
  (j : ∀ v w', i v w' -> K (ar.put o.dst v) w') : o.wp P ar w K Q := by
 unfold OpTo at h;unfold Oper.wp;rw [he] at h;generalize (execOp ar.eval o).run P w = r at *
 cases r with
 | ok n w' =>
  cases n <;> simp only [Oper.upon] at h ⊢ <;> first | exact j _ _ h | exact h.elim | skip
  exact Calls.mono h fun e l ⟨v, he, hv⟩ => by subst he; exact j _ _ hv
 | halt x w' => exact h.elim
theorem WR.eff {ops : Array Oper} {i n d : Nat} {L : Env} {o : Oper} {e : Value -> World -> Prop} (j : zV n a L) (hi : ops[i]? = some o) (hd : o.dst = some d) (hn : Nat.blt d n = true) (hw : vP ops L o = some true)
  (h : OpTo P o a w e) (hk : ∀ v w', e v w' -> ∀ l, zV n l ((d, v) :: L) -> WR P f ops (i + 1) k l w' R) : WR P f ops i k a w R := by
 unfold WR at *
 have s : i < ops.size := (Array.getElem?_eq_some_iff.1 hi).1;have : ops.size - i = (ops.size - (i + 1)) + 1 := by omega
 rw [this, List.range'_succ, wpOps_cons];unfold wpOp;simp only [hi, xA j hw, if_true];exact .inl (h.wp rfl fun v w' hv => hk v w' hv _ (by rw [hd]; exact j.put _ _ (by simpa [Nat.blt_eq] using hn)))
theorem WR.eff0 {ops : Array Oper} {i n : Nat} {L : Env} {o : Oper} {e : Value -> World -> Prop} (j : zV n a L) (hi : ops[i]? = some o) (hd : o.dst = none) (hw : vP ops L o = some true)
  (h : OpTo P o a w e) (hk : ∀ v w', e v w' -> ∀ l, zV n l L -> WR P f ops (i + 1) k l w' R) : WR P f ops i k a w R := by
 unfold WR at *
 have s : i < ops.size := (Array.getElem?_eq_some_iff.1 hi).1;have : ops.size - i = (ops.size - (i + 1)) + 1 := by omega
 rw [this, List.range'_succ, wpOps_cons];unfold wpOp;simp only [hi, xA j hw, if_true];exact .inl (h.wp rfl fun v w' hv => hk v w' hv _ (by rw [hd]; exact j))
end
def listed (m : Nat) (dn : List Nat) : Array Bool := dn.foldl (fun b i => b.setIfInBounds i true) (Array.replicate m false)
theorem oo (m : Nat) (dn : List Nat) (i : Nat) : listed m (dn ++ [i]) = (listed m dn).setIfInBounds i true := by simp [listed]
section
variable {P : Program} {f : FuncId} {k : List Item} {a : Act} {w : World} {R : Value -> World -> Prop} {ops : Array Oper}
theorem Runs.of_wp {c : Code} (h : c.wp P (RQ P f k R) a w) : Runs P f (.code c :: k) a w R := by
 intro b j hk cs;obtain ⟨e, t, w', hq, i⟩ := h b k cs;cases e with
 | normal =>
  obtain ⟨v, l, fr, s, h1, h2⟩ := hq b j hk cs;exact ⟨v, l, fr, s, i.trans h1, h2⟩
 | _ => exact hq.elim
end
theorem OpTo.of_run {P : Program} {o : Oper} {a : Act} {w w' : World} {v : Value} {e : Value -> World -> Prop} (h : (execOp a.eval o).run P w = .ok (.value v) w') (hv : e v w') : OpTo P o a w e := by
 unfold OpTo; rw [h]; exact hv
theorem OpTo.lZ {P : Program} {o : Oper} {a : Act} {w w' : World} {e : Value -> World -> Prop} (h : (execOp a.eval o).run P w = .ok .skip w') (hv : e undef w') : OpTo P o a w e := by
 unfold OpTo; rw [h]; exact hv
theorem OpTo.fZ {P : Program} {o : Oper} {a : Act} {w w' : World} {g : FuncId} {args : Array Value} {e : Value -> World -> Prop} (h : (execOp a.eval o).run P w = .ok (.enter g args) w') (hv : yX P g args w' e) : OpTo P o a w e := by
 unfold OpTo; rw [h]; exact hv
def qs (L : Env) : List Operand -> Option (List Value)
 | [] => some []
 | x :: r => match evO L x, qs L r with
  | some v, some vs => some (v :: vs)
  | _, _ => none
theorem oF {n : Nat} {a : Act} {L : Env} (i : zV n a L) : ∀ (l : List Operand) (vs : List Value), qs L l = some vs -> l.map a.eval = vs
 | [], vs, h => by simp [qs] at h; simp [h]
 | x :: r, vs, h => by
  simp only [qs] at h;split at h
  ·rename_i v us hv e;cases h;simp [i.eval hv, oF i r us e]
  ·cases h
def callParts : Op -> Option (Operand × List Operand)
 | .call { callee := .value g, args, .. } => some (g, args.toList)
 | _ => none
theorem OpTo.call {P : Program} {n : Nat} {a : Act} {L : Env} {w : World} {o : Oper} {x : Operand} {xs : List Operand} {g : FuncId} {first captured : Array Value} {vs : List Value} {l : Value -> World -> Prop} (s : zV n a L)
  (i : callParts o.op = some (x, xs)) (t : evO L x = some (.func (.func g) first captured)) (j : qs L xs = some vs)
  (u : ∀ args w, (callFunc g args).run P w = .ok (.enter g args) w) (h : yX P g (first ++ vs.toArray ++ captured) w l) : OpTo P o a w l := by
 obtain ⟨dst, op, type, pos, after, guard⟩ := o;cases op <;> simp only [callParts] at i <;> try cases i
 rename_i c;obtain ⟨callee, args, ats⟩ := c;cases callee <;> simp only at i <;> try cases i
 refine OpTo.fZ ?_ h;have e := oF s _ _ j;have y : args.map a.eval = vs.toArray := by
  apply Array.ext';simpa using e
 simp [execOp, resolve, Deferred.ofValue, s.eval t, invoke, u, y]
theorem OpTo.fn {P : Program} {n : Nat} {a : Act} {L : Env} {w : World} {o : Oper} {xs : List Operand} {g : FuncId} {vs : List Value} {i : Value -> World -> Prop} (j : zV n a L)
  (l : callParts o.op = some (.func g, xs)) (e : qs L xs = some vs)
  (s : ∀ args w, (callFunc g args).run P w = .ok (.enter g args) w) (h : yX P g vs.toArray w i) : OpTo P o a w i :=
 OpTo.call j l (first := #[]) (captured := #[]) rfl e s (by simpa using h)
end Go.Th
end
namespace Go.Th
noncomputable section
abbrev Hp := Nat -> Option Obj
abbrev HP := Hp -> Prop
def Sub (h g : Hp) : Prop := ∀ b o, h b = some o -> g b = some o
def Disj (h g : Hp) : Prop := ∀ b, h b = none \/ g b = none
theorem Sub.refl (h : Hp) : Sub h h := fun _ _ h => h
theorem Sub.trans {a b c : Hp} (h : Sub a b) (g : Sub b c) : Sub a c := fun x o e => g x o (h x o e)
def sepL : List HP -> HP
 | [], _ => True
 | A :: L, h => ∃ h1 h2, Disj h1 h2 /\ Sub h1 h /\ Sub h2 h /\ A h1 /\ sepL L h2
theorem ob : ∀ {L : List HP} {h g : Hp}, Sub h g -> sepL L h -> sepL L g
 | [], _, _, _, _ => trivial
 | A :: L, h, g, hs, ⟨h1, h2, hd, s1, s2, hA, e⟩ => ⟨h1, h2, hd, s1.trans hs, s2.trans hs, hA, e⟩
def union (h g : Hp) : Hp := fun b => match h b with
 | some o => some o
 | none => g b
theorem tF (h g : Hp) : Sub h (union h g) := fun b o e => by simp [union, e]
theorem tg {h g : Hp} (hd : Disj h g) : Sub g (union h g) := fun b o e => by
 rcases hd b with h1 | h1
 ·simp [union, h1, e]
 ·simp [h1] at e
theorem oA {h g k : Hp} (h1 : Sub h k) (h2 : Sub g k) : Sub (union h g) k := fun b o e => by
 unfold union at e;split at e
 ·rename_i x i; cases e; exact h1 _ _ i
 ·exact h2 _ _ e
theorem s9 {a b e i : Hp} (h : Disj a b) (h1 : Sub e a) (h2 : Sub i b) : Disj e i := fun x => by
 rcases h x with h | h
 ·left
  cases j : e x with
  | none => rfl
  | some o => rw [h1 x o j] at h; cases h
 ·right
  cases j : i x with
  | none => rfl
  | some o => rw [h2 x o j] at h; cases h
theorem sJ : ∀ {L M : List HP} {h : Hp}, sepL (L ++ M) h ↔ ∃ h1 h2, Disj h1 h2 /\ Sub h1 h /\ Sub h2 h /\ sepL L h1 /\ sepL M h2
 | [], M, h => by
  constructor
  ·intro j; exact ⟨fun _ => none, h, fun _ => .inl rfl, fun _ _ z => by simp at z, Sub.refl _, trivial, j⟩
  ·rintro ⟨h1, h2, hd, s1, s2, _, j⟩; exact ob s2 j
 | A :: L, M, h => by
  constructor
  ·rintro ⟨h1, h2, hd, s1, s2, hA, l⟩;obtain ⟨g1, g2, gd, t1, t2, s, j⟩ := sJ.1 l;refine ⟨union h1 g1, g2, ?_, oA s1 (t1.trans s2), t2.trans s2, ⟨h1, g1, s9 hd (Sub.refl _) t1, tF _ _, tg (s9 hd (Sub.refl _) t1), hA, s⟩, j⟩;intro b;rcases hd b with e | e
   ·rcases gd b with i | i
    ·left; simp [union, e, i]
    ·right; exact i
   ·right
    cases t : g2 b with
    | none => rfl
    | some o => rw [t2 b o t] at e; cases e
  ·rintro ⟨h1, h2, hd, s1, s2, ⟨x, k2, kd, y, u, hA, s⟩, j⟩;refine ⟨x, union k2 h2, ?_, y.trans s1, oA (u.trans s1) s2, hA, sJ.2 ⟨k2, h2, s9 hd u (Sub.refl _), tF _ _, tg (s9 hd u (Sub.refl _)), s, j⟩⟩;intro b;rcases kd b with e | e
   ·left; exact e
   ·rcases hd b with i | i
    ·left
     cases t : x b with
     | none => rfl
     | some o => rw [y b o t] at i; cases i
    ·right; simp [union, e, i]
theorem iG {A B : HP} {L : List HP} {h : Hp} (H : sepL (A :: B :: L) h) : sepL (B :: A :: L) h := by
 obtain ⟨h1, h2, hd, s1, s2, hA, g1, g2, gd, t1, t2, j, l⟩ := H;refine ⟨g1, union h1 g2, ?_, t1.trans s2, oA s1 (t2.trans s2), j, h1, g2, s9 hd (Sub.refl _) t2, tF _ _, tg (s9 hd (Sub.refl _) t2), hA, l⟩;intro b;rcases gd b with e | e
 ·left; exact e
 ·rcases hd b with i | i
  ·right; simp [union, e, i]
  ·left
   cases s : g1 b with
   | none => rfl
   | some o => rw [t1 b o s] at i; cases i
theorem iE {L M : List HP} (hp : L.Perm M) : ∀ {h : Hp}, sepL L h -> sepL M h := by
 induction hp with
 | nil => exact fun h => h
 | cons x _ ih => rintro h ⟨h1, h2, hd, s1, s2, hA, j⟩; exact ⟨h1, h2, hd, s1, s2, hA, ih j⟩
 | swap x y l => exact fun h => iG h
 | trans _ _ e i => exact fun h => i (e h)
def hpOf (w : World) : Hp := fun b => w.heap[b]?
structure St (w0 : World) (As : List HP) (w : World) : Prop where
 os : w.os = w0.os
 tape : w.tape = w0.tape
 output : w.output = w0.output
 heap : sepL As (hpOf w)
theorem St.perm {w0 w : World} {As Bs : List HP} (H : St w0 As w) (hp : As.Perm Bs) : St w0 Bs w := ⟨H.os, H.tape, H.output, iE hp H.heap⟩
def ie {α : Type} : List Nat -> List α -> List α
 | [], _ => []
 | i :: is, L => match L[i]? with
  | some x => x :: ie is L
  | none => ie is L
def memB (i : Nat) : List Nat -> Bool
 | [] => false
 | j :: r => match Nat.beq i j with
  | true => true
  | false => memB i r
def jQ : List Nat -> Nat -> Bool
 | is, 0 => match is with
  | [] => true
  | _ :: _ => false
 | is, n + 1 => memB n is && jQ (is.erase n) n
theorem kV : ∀ {l : List Nat} {i : Nat}, memB i l = true -> i ∈ l
 | [], i, h => by simp [memB] at h
 | j :: r, i, h => by
  simp only [memB] at h;split at h
  ·rename_i e; simp [Nat.eq_of_beq_eq_true e]
  ·exact mC _ (kV h)
theorem q8 : ∀ {n : Nat} {is : List Nat}, jQ is n = true -> is.Perm (List.range n)
 | 0, is, h => by
  cases is with
  | nil => simp
  | cons _ _ => simp [jQ] at h
 | n + 1, is, h => by
  simp only [jQ, Bool.and_eq_true] at h;rw [List.range_succ];have h1 := List.perm_cons_erase (kV h.1);exact h1.trans (((q8 h.2).cons n).trans (List.perm_append_singleton n (List.range n)).symm)
theorem ma {α : Type} (L : List α) : ∀ is : List Nat, ie is L = is.filterMap (L[·]?)
 | [] => rfl
 | i :: is => by
  simp only [ie, List.filterMap_cons, ma L is];cases L[i]? <;> rfl
theorem u7 {α : Type} : ∀ (L : List α), (List.range L.length).filterMap (L[·]?) = L
 | [] => rfl
 | x :: L => by
  rw [lC, List.range_succ_eq_map, List.filterMap_cons];simp only [List.getElem?_cons_zero, List.filterMap_map];congr 1;have : ((fun i => (x :: L)[i]?) ∘ Nat.succ) = fun i => L[i]? := by funext i; simp
  rw [this];exact u7 L
theorem St.idx {w0 w : World} {As : List HP} (H : St w0 As w) (is : List Nat) (h : jQ is As.length = true) : St w0 (ie is As) w := by
 refine H.perm ?_;rw [ma];have := (q8 h).filterMap (As[·]?);rw [u7] at this;exact this.symm
theorem St.ix {w0 w : World} {As : List HP} (H : St w0 As w) (is : List Nat) (h : jQ is (As.take is.length).length = true) : St w0 (ie is (As.take is.length) ++ As.drop is.length) w := by
 refine H.perm ?_;have h0 : As = As.take is.length ++ As.drop is.length := (List.take_append_drop _ _).symm
 conv => lhs; rw [h0]
 refine List.Perm.append_right _ ?_;rw [ma];have := (q8 h).filterMap ((As.take is.length)[·]?);rw [u7] at this;exact this.symm
theorem St.drop {w0 w : World} {A : HP} {As : List HP} (H : St w0 (A :: As) w) : St w0 As w := by
 obtain ⟨h1, h2, _, _, s2, _, e⟩ := H.heap;exact ⟨H.os, H.tape, H.output, ob s2 e⟩
theorem St.flat {w0 w : World} {Bs As : List HP} (H : St w0 (sepL Bs :: As) w) : St w0 (Bs ++ As) w :=
 ⟨H.os, H.tape, H.output, sJ.2 H.heap⟩
theorem St.group {w0 w : World} (Bs : List HP) {As : List HP} (H : St w0 (Bs ++ As) w) : St w0 (sepL Bs :: As) w :=
 ⟨H.os, H.tape, H.output, sJ.1 H.heap⟩
theorem St.head {w0 w : World} {A B : HP} {As : List HP} (H : St w0 (A :: As) w) (h : ∀ h, A h -> B h) : St w0 (B :: As) w := by
 obtain ⟨h1, h2, hd, s1, s2, hA, e⟩ := H.heap;exact ⟨H.os, H.tape, H.output, h1, h2, hd, s1, s2, h _ hA, e⟩
theorem St.ex {w0 w : World} {α : Sort _} {A : α -> HP} {As : List HP} (H : St w0 ((fun h => ∃ x, A x h) :: As) w) : ∃ x, St w0 (A x :: As) w := by
 obtain ⟨h1, h2, hd, s1, s2, ⟨x, hA⟩, e⟩ := H.heap;exact ⟨x, H.os, H.tape, H.output, h1, h2, hd, s1, s2, hA, e⟩
theorem St.fact {w0 w : World} {A : HP} {q : Prop} {As : List HP} (H : St w0 (A :: As) w) (h : ∀ h, A h -> q) : q := by
 obtain ⟨h1, h2, hd, s1, s2, hA, e⟩ := H.heap;exact h _ hA
theorem St.drew {w0 w : World} {As : List HP} (H : St w0 As w) : St w0 As { w with drawn := w.drawn + 1 } := ⟨H.os, H.tape, H.output, H.heap⟩
theorem St.drawn {w0 w : World} {As : List HP} (H : St w0 As w) (n : Nat) : St w0 As { w with drawn := n } := ⟨H.os, H.tape, H.output, H.heap⟩
theorem St.t1 {w0 w : World} {e A1 : HP} {As : List HP} (H : St w0 (e :: A1 :: As) w) : St w0 (A1 :: e :: As) w := H.ix [1, 0] rfl
theorem St.t2 {w0 w : World} {e A1 i : HP} {As : List HP} (H : St w0 (e :: A1 :: i :: As) w) : St w0 (i :: e :: A1 :: As) w := H.ix [2, 0, 1] rfl
theorem St.t3 {w0 w : World} {e A1 i j : HP} {As : List HP} (H : St w0 (e :: A1 :: i :: j :: As) w) : St w0 (j :: e :: A1 :: i :: As) w := H.ix [3, 0, 1, 2] rfl
theorem St.t4 {w0 w : World} {e A1 i j l : HP} {As : List HP} (H : St w0 (e :: A1 :: i :: j :: l :: As) w) : St w0 (l :: e :: A1 :: i :: j :: As) w := H.perm (List.perm_middle (l₁ := [e, A1, i, j]) (a := l) (l₂ := As))
theorem St.t5 {w0 w : World} {e A1 i j l s : HP} {As : List HP} (H : St w0 (e :: A1 :: i :: j :: l :: s :: As) w) : St w0 (s :: e :: A1 :: i :: j :: l :: As) w := H.perm (List.perm_middle (l₁ := [e, A1, i, j, l]) (a := s) (l₂ := As))
theorem St.t6 {w0 w : World} {e A1 i j l s t : HP} {As : List HP} (H : St w0 (e :: A1 :: i :: j :: l :: s :: t :: As) w) : St w0 (t :: e :: A1 :: i :: j :: l :: s :: As) w := H.perm (List.perm_middle (l₁ := [e, A1, i, j, l, s]) (a := t) (l₂ := As))
theorem St.t7 {w0 w : World} {e A1 i j l s t u : HP} {As : List HP} (H : St w0 (e :: A1 :: i :: j :: l :: s :: t :: u :: As) w) : St w0 (u :: e :: A1 :: i :: j :: l :: s :: t :: As) w := H.perm (List.perm_middle (l₁ := [e, A1, i, j, l, s, t]) (a := u) (l₂ := As))
theorem St.t8 {w0 w : World} {e A1 i j l s t u x : HP} {As : List HP} (H : St w0 (e :: A1 :: i :: j :: l :: s :: t :: u :: x :: As) w) : St w0 (x :: e :: A1 :: i :: j :: l :: s :: t :: u :: As) w := H.perm (List.perm_middle (l₁ := [e, A1, i, j, l, s, t, u]) (a := x) (l₂ := As))
theorem St.t9 {w0 w : World} {e A1 i j l s t u x y : HP} {As : List HP} (H : St w0 (e :: A1 :: i :: j :: l :: s :: t :: u :: x :: y :: As) w) : St w0 (y :: e :: A1 :: i :: j :: l :: s :: t :: u :: x :: As) w := H.perm (List.perm_middle (l₁ := [e, A1, i, j, l, s, t, u, x]) (a := y) (l₂ := As))
theorem St.t10 {w0 w : World} {i A1 j l s t u x y z e : HP} {As : List HP} (H : St w0 (i :: A1 :: j :: l :: s :: t :: u :: x :: y :: z :: e :: As) w) : St w0 (e :: i :: A1 :: j :: l :: s :: t :: u :: x :: y :: z :: As) w := H.perm (List.perm_middle (l₁ := [i, A1, j, l, s, t, u, x, y, z]) (a := e) (l₂ := As))
theorem St.t11 {w0 w : World} {j A1 l s t u x y z A e i : HP} {As : List HP} (H : St w0 (j :: A1 :: l :: s :: t :: u :: x :: y :: z :: A :: e :: i :: As) w) : St w0 (i :: j :: A1 :: l :: s :: t :: u :: x :: y :: z :: A :: e :: As) w := H.perm (List.perm_middle (l₁ := [j, A1, l, s, t, u, x, y, z, A, e]) (a := i) (l₂ := As))
theorem St.t12 {w0 w : World} {l A1 s t u x y z A B e i j : HP} {As : List HP} (H : St w0 (l :: A1 :: s :: t :: u :: x :: y :: z :: A :: B :: e :: i :: j :: As) w) : St w0 (j :: l :: A1 :: s :: t :: u :: x :: y :: z :: A :: B :: e :: i :: As) w := H.perm (List.perm_middle (l₁ := [l, A1, s, t, u, x, y, z, A, B, e, i]) (a := j) (l₂ := As))
theorem St.t13 {w0 w : World} {s A1 t u x y z A B D e i j l : HP} {As : List HP} (H : St w0 (s :: A1 :: t :: u :: x :: y :: z :: A :: B :: D :: e :: i :: j :: l :: As) w) : St w0 (l :: s :: A1 :: t :: u :: x :: y :: z :: A :: B :: D :: e :: i :: j :: As) w := H.perm (List.perm_middle (l₁ := [s, A1, t, u, x, y, z, A, B, D, e, i, j]) (a := l) (l₂ := As))
theorem St.t14 {w0 w : World} {t A1 u x y z A B D F e i j l s : HP} {As : List HP} (H : St w0 (t :: A1 :: u :: x :: y :: z :: A :: B :: D :: F :: e :: i :: j :: l :: s :: As) w) : St w0 (s :: t :: A1 :: u :: x :: y :: z :: A :: B :: D :: F :: e :: i :: j :: l :: As) w := H.perm (List.perm_middle (l₁ := [t, A1, u, x, y, z, A, B, D, F, e, i, j, l]) (a := s) (l₂ := As))
theorem St.x0 {w0 w : World} {e : HP} {As : List HP} (H : St w0 (e :: As) w) : St w0 (As) w := H.drop
theorem St.x1 {w0 w : World} {e A1 : HP} {As : List HP} (H : St w0 (e :: A1 :: As) w) : St w0 (e :: As) w := H.t1.drop
theorem St.x2 {w0 w : World} {e A1 i : HP} {As : List HP} (H : St w0 (e :: A1 :: i :: As) w) : St w0 (e :: A1 :: As) w := H.t2.drop
theorem St.x3 {w0 w : World} {e A1 i j : HP} {As : List HP} (H : St w0 (e :: A1 :: i :: j :: As) w) : St w0 (e :: A1 :: i :: As) w := H.t3.drop
theorem St.x4 {w0 w : World} {e A1 i j l : HP} {As : List HP} (H : St w0 (e :: A1 :: i :: j :: l :: As) w) : St w0 (e :: A1 :: i :: j :: As) w := H.t4.drop
theorem St.x5 {w0 w : World} {e A1 i j l s : HP} {As : List HP} (H : St w0 (e :: A1 :: i :: j :: l :: s :: As) w) : St w0 (e :: A1 :: i :: j :: l :: As) w := H.t5.drop
theorem St.x6 {w0 w : World} {e A1 i j l s t : HP} {As : List HP} (H : St w0 (e :: A1 :: i :: j :: l :: s :: t :: As) w) : St w0 (e :: A1 :: i :: j :: l :: s :: As) w := H.t6.drop
theorem St.x7 {w0 w : World} {e A1 i j l s t u : HP} {As : List HP} (H : St w0 (e :: A1 :: i :: j :: l :: s :: t :: u :: As) w) : St w0 (e :: A1 :: i :: j :: l :: s :: t :: As) w := H.t7.drop
theorem St.x8 {w0 w : World} {e A1 i j l s t u x : HP} {As : List HP} (H : St w0 (e :: A1 :: i :: j :: l :: s :: t :: u :: x :: As) w) : St w0 (e :: A1 :: i :: j :: l :: s :: t :: u :: As) w := H.t8.drop
theorem St.x9 {w0 w : World} {e A1 i j l s t u x y : HP} {As : List HP} (H : St w0 (e :: A1 :: i :: j :: l :: s :: t :: u :: x :: y :: As) w) : St w0 (e :: A1 :: i :: j :: l :: s :: t :: u :: x :: As) w := H.t9.drop
theorem St.x10 {w0 w : World} {i A1 j l s t u x y z e : HP} {As : List HP} (H : St w0 (i :: A1 :: j :: l :: s :: t :: u :: x :: y :: z :: e :: As) w) : St w0 (i :: A1 :: j :: l :: s :: t :: u :: x :: y :: z :: As) w := H.t10.drop
theorem St.x11 {w0 w : World} {j A1 l s t u x y z A e i : HP} {As : List HP} (H : St w0 (j :: A1 :: l :: s :: t :: u :: x :: y :: z :: A :: e :: i :: As) w) : St w0 (j :: A1 :: l :: s :: t :: u :: x :: y :: z :: A :: e :: As) w := H.t11.drop
theorem St.x12 {w0 w : World} {l A1 s t u x y z A B e i j : HP} {As : List HP} (H : St w0 (l :: A1 :: s :: t :: u :: x :: y :: z :: A :: B :: e :: i :: j :: As) w) : St w0 (l :: A1 :: s :: t :: u :: x :: y :: z :: A :: B :: e :: i :: As) w := H.t12.drop
theorem St.x13 {w0 w : World} {s A1 t u x y z A B D e i j l : HP} {As : List HP} (H : St w0 (s :: A1 :: t :: u :: x :: y :: z :: A :: B :: D :: e :: i :: j :: l :: As) w) : St w0 (s :: A1 :: t :: u :: x :: y :: z :: A :: B :: D :: e :: i :: j :: As) w := H.t13.drop
theorem St.x14 {w0 w : World} {t A1 u x y z A B D F e i j l s : HP} {As : List HP} (H : St w0 (t :: A1 :: u :: x :: y :: z :: A :: B :: D :: F :: e :: i :: j :: l :: s :: As) w) : St w0 (t :: A1 :: u :: x :: y :: z :: A :: B :: D :: F :: e :: i :: j :: l :: As) w := H.t14.drop
def One (b : Nat) (o : Obj) : HP := fun h => h b = some o
abbrev Blk (b : Nat) (T : TypeId) (cs : List Value) : HP := One b (.cells cs.toArray T (0, 0))
theorem jC {A : HP} : ∀ {As : List HP} {h : Hp} {i : Nat}, sepL As h -> As[i]? = some A -> ∃ h1, Sub h1 h /\ A h1
 | [], h, i, _, hi => by simp at hi
 | B :: As, h, i, ⟨h1, h2, hd, s1, s2, hA, e⟩, hi => by
  cases i with
  | zero => simp at hi; subst hi; exact ⟨h1, s1, hA⟩
  | succ i =>
   obtain ⟨g, j, l⟩ := jC e (by simpa using hi);exact ⟨g, j.trans s2, l⟩
theorem St.at {w0 w : World} {As : List HP} (H : St w0 As w) (i : Nat) {A : HP} (hi : As[i]? = some A) : ∃ h1, Sub h1 (hpOf w) /\ A h1 := jC H.heap hi
theorem St.one {w0 w : World} {As : List HP} (H : St w0 As w) (i : Nat) {b : Nat} {o : Obj} (hi : As[i]? = some (One b o)) : w.heap[b]? = some o := by
 obtain ⟨h1, s, h⟩ := H.at i hi;exact s _ _ h
theorem St.cell {w0 w : World} {As : List HP} (H : St w0 As w) (i : Nat) {b : Nat} {T : TypeId} {cs : List Value} (hi : As[i]? = some (Blk b T cs)) {off : Nat} {v : Value} (hv : cs[off]? = some v) :
  w.cell? ⟨b, off, none⟩ = some v := by
 simp [World.cell?, H.one i hi, hv]
theorem St.set {w0 w w' : World} {As : List HP} {b : Nat} {o o' : Obj} (H : St w0 (One b o :: As) w) (h1 : w'.os = w.os) (h2 : w'.tape = w.tape) (h3 : w'.output = w.output)
  (s : w'.heap[b]? = some o') (l : ∀ c, c ≠ b -> w'.heap[c]? = w.heap[c]?) : St w0 (One b o' :: As) w' := by
 obtain ⟨g1, g2, hd, s1, s2, hA, t⟩ := H.heap;refine ⟨h1.trans H.os, h2.trans H.tape, h3.trans H.output, fun c => if c = b then some o' else none, g2, ?_, ?_, ?_, by simp [One], t⟩
 ·intro c;by_cases i : c = b
  ·subst i
   right
   rcases hd c with e | e
   ·simp only [One] at hA; rw [hA] at e; cases e
   ·exact e
  ·left; simp [i]
 ·intro c x j;by_cases i : c = b
  ·subst i; simp at j; subst j; exact s
  ·simp [i] at j
 ·intro c x j;have i : c ≠ b := by
   rintro rfl;rcases hd c with e | e
   ·simp only [One] at hA; rw [hA] at e; cases e
   ·rw [j] at e; cases e
  have := s2 c x j;simp only [hpOf] at this ⊢;rw [l c i]; exact this
theorem St.new {w0 w w' : World} {As : List HP} {o : Obj} (H : St w0 As w) (h1 : w'.os = w.os) (h2 : w'.tape = w.tape) (h3 : w'.output = w.output)
  (s : w'.heap[w.heap.size]? = some o) (j : ∀ c, c < w.heap.size -> w'.heap[c]? = w.heap[c]?) : St w0 (One w.heap.size o :: As) w' := by
 have l : ∀ c x, hpOf w c = some x -> c < w.heap.size := fun c x e => (Array.getElem?_eq_some_iff.1 e).1
 refine ⟨h1.trans H.os, h2.trans H.tape, h3.trans H.output, fun c => if c = w.heap.size then some o else none, fun c => if c < w.heap.size then hpOf w c else none, ?_, ?_, ?_, by simp [One], ob ?_ H.heap⟩
 ·intro c;by_cases i : c = w.heap.size
  ·right; simp [i]
  ·left; simp [i]
 ·intro c x e;by_cases i : c = w.heap.size
  ·subst i; simp at e; subst e; exact s
  ·simp [i] at e
 ·intro c x e;simp only at e;split at e
  ·rename_i i; simp only [hpOf] at e ⊢; rw [j c i]; exact e
  ·cases e
 ·intro c x e;simp [l c x e];exact e
theorem St.alloc {w0 w : World} {As : List HP} (o : Obj) (H : St w0 As w) : St w0 (One w.heap.size o :: As) { w with heap := w.heap.push o } :=
 H.new rfl rfl rfl (by simp) (fun c e => by simp [Array.getElem?_push]; omega)
def Old (w0 : World) : HP := fun h => ∀ b, b < w0.heap.size -> h b = w0.heap[b]?
theorem St.begin (w0 : World) : St w0 [Old w0] w0 :=
 ⟨rfl, rfl, rfl, hpOf w0, fun _ => none, fun _ => .inr rfl, Sub.refl _, fun _ _ h => by simp at h, fun _ _ => rfl, trivial⟩
theorem St.old {w0 w : World} {As : List HP} (H : St w0 As w) (i : Nat) (hi : As[i]? = some (Old w0)) : ∀ b, b < w0.heap.size -> w.heap[b]? = w0.heap[b]? := by
 obtain ⟨h1, s, h⟩ := H.at i hi;intro b j;have := h b j;have e : w0.heap[b]? = some w0.heap[b] := by simp [j]
 rw [e] at this ⊢;exact s _ _ this
end
noncomputable section
def tA (P : Program) {α : Type} : Sem α -> List Value -> Nat -> Option (Obj × α × List Ob)
 | .new o k, e, r => match runA P (k r) [] with
  | some (v, [], _) => some (o, v, [])
  | _ => none
 | .load _ i k, e, r => match e with
  | [] => none
  | v :: e => match tA P (k v) e r with
   | some (o, x, obs) => some (o, x, .cell i v :: obs)
   | none => none
 | .program k, e, r => tA P (k P) e r
 | .mark _ k, e, r => tA P k e r
 | _, _, _ => none
theorem s0 (P : Program) (w : World) {α : Type} : ∀ (s : Sem α) (e : List Value) (o : Obj) (x : α) (obs : List Ob),
  tA P s e w.heap.size = some (o, x, obs) -> xu w obs -> s.run P w = .ok x { w with heap := w.heap.push o } := by
 intro s;induction s with
 | new o k ih =>
  intro e o' x obs h i;simp only [tA] at h;split at h
  ·rename_i v rest hv;simp only [Option.some.injEq, Prod.mk.injEq] at h;obtain ⟨rfl, rfl, rfl⟩ := h;simp only [Sem.run];exact qP P _ _ _ _ _ _ hv trivial
  ·cases h
 | load m t k ih =>
  intro e o x obs h i;cases e with
  | nil => simp [tA] at h
  | cons v e =>
   simp only [tA] at h;split at h
   ·rename_i o' y j l;simp only [Option.some.injEq, Prod.mk.injEq] at h;obtain ⟨rfl, rfl, rfl⟩ := h;simp only [xu, Ob.holds] at i;simp only [Sem.run, i.1];exact ih v e _ _ _ l i.2
   ·cases h
 | program k ih => intro e o x obs h i; simp only [tA] at h; simp only [Sem.run]; exact ih P e o x obs h i
 | mark m k ih => intro e o x obs h i; simp only [tA] at h; simp only [Sem.run]; exact ih e o x obs h i
 | _ => intro e o x obs h; simp [tA] at h
theorem OpTo.new {P : Program} {n : Nat} {a : Act} {L : Env} {w w0 : World} {As : List HP} {o : Oper} (l : zV n a L) (H : St w0 As w) (j : List Value) (i : Obj) (val : Nat -> Value) {obs : List Ob}
  (e : (!sw o.op && mw L o.op.operands.toList) = true) (he : ∀ r, tA P (execOp (rho L) o) j r = some (i, .value (val r), obs)) (s : xu w obs) :
  OpTo P o a w fun v w' => ∃ r, v = val r /\ St w0 (One r i :: As) w' := by
 simp only [Bool.and_eq_true, Bool.not_eq_true'] at e;refine OpTo.of_run (w' := { w with heap := w.heap.push i }) (v := val w.heap.size) ?_ ⟨w.heap.size, rfl, H.alloc i⟩;rw [mJ l e.1 e.2];exact s0 P w _ _ _ _ _ (he w.heap.size) s
def putAt : List Value -> Nat -> List Value -> List Value
 | cs, _, [] => cs
 | cs, off, v :: vs => putAt (cs.set off v) (off + 1) vs
theorem sQ : ∀ (vs cs : List Value) (off : Nat), (putAt cs off vs).length = cs.length
 | [], cs, off => rfl
 | v :: vs, cs, off => by simp [putAt, sQ vs]
theorem vK : ∀ (vs cs : List Value) (off : Nat), off + vs.length <= cs.length -> putAt cs off vs = cs.take off ++ vs ++ cs.drop (off + vs.length)
 | [], cs, off, _ => by simp [putAt]
 | v :: vs, cs, off, h => by
  simp only [lC] at h;rw [putAt, vK vs _ _ (by simp; omega)];have h1 : (cs.set off v).take (off + 1) = cs.take off ++ [v] := by
   apply List.ext_getElem?;intro i;simp only [List.getElem?_take, List.getElem?_set, List.getElem?_append, List.length_take];by_cases hi : i < off
   ·have h1 : i < off + 1 := by omega
    have h2 : i < min off cs.length := by omega
    have h3 : ¬ off = i := by omega
    simp [hi, h1, h2, h3]
   ·by_cases h2 : i = off
    ·subst h2;have h3 : ¬ i < min i cs.length := by omega
     have h4 : i - min i cs.length = 0 := by omega
     have e : i < cs.length := by omega
     simp [h3, h4, e]
    ·have h3 : ¬ i < off + 1 := by omega
     have h4 : ¬ i < min off cs.length := by omega
     have e : ([v] : List Value)[i - min off cs.length]? = none := by simp; omega
     simp [h3, h4, e]
  rw [h1, List.drop_set];have : ¬ off >= off + 1 + vs.length := by omega
  simp [aA, Nat.add_assoc, Nat.add_comm 1]
def oneB : Value -> Bool
 | .agg _ => false
 | .tuple _ => false
 | _ => true
theorem gz {v : Value} (h : oneB v = true) : v.oneCell' = true := by cases v <;> simp_all [oneB, Value.oneCell']
def qb : List Value -> Bool
 | [] => true
 | v :: r => oneB v && qb r
theorem pS : ∀ {l : List Value}, qb l = true -> ∀ v ∈ l, v.oneCell' = true
 | [], _, v, hv => by cases hv
 | u :: r, h, v, hv => by
  simp only [qb, Bool.and_eq_true] at h;cases hv with
  | head => exact gz h.1
  | tail _ hm => exact pS h.2 v hm
def vh : Op -> Option (TypeId × Operand × Operand)
 | .store t x y => some (t, x, y)
 | _ => none
theorem ph {P : Program} {w : World} {b off : Nat} {T t : TypeId} {cs : List Value} {v : Value} {ti : TypeInfo} (j : w.heap[b]? = some (.cells cs.toArray T (0, 0)))
  (hi : P.info? t = some ti) (hs : ti.size = v.cells.size) (h1 : qb v.cells.toList = true) (e : off + v.cells.size <= cs.length) :
  (Instr.storeAt t (.pointer (some ⟨b, off, none⟩)) v).run P w = .ok () (w.setRow b (putAt cs off v.cells.toList).toArray) := by
 have i := run_storeCells_at P b off T v.cells.toList 0 cs.toArray w j (by simpa using e) (pS h1);rw [vK _ _ _ (by simpa using e)];simp only [Nat.add_zero] at i;simp [Instr.storeAt, Instr.sureAddr, storeVar, tr P hi, hs];simpa using i
theorem OpTo.store {P : Program} {n : Nat} {a : Act} {L : Env} {w w0 : World} {As : List HP} {o : Oper} {b off : Nat} {T t : TypeId} {cs : List Value} {x y : Operand} {v : Value} {ti : TypeInfo} (i : zV n a L) (H : St w0 (Blk b T cs :: As) w)
  (j : vh o.op = some (t, x, y)) (s : evO L x = some (.pointer (some ⟨b, off, none⟩))) (u : evO L y = some v) (hi : P.info? t = some ti) (hs : ti.size = v.cells.size) (h1 : qb v.cells.toList = true)
  (e : off + v.cells.size <= cs.length) : OpTo P o a w fun _ w' => St w0 (Blk b T (putAt cs off v.cells.toList) :: As) w' := by
 obtain ⟨dst, op, type, pos, after, guard⟩ := o;cases op <;> simp only [vh] at j <;> try cases j
 have l := H.one 0 rfl;refine OpTo.lZ (w' := w.setRow b (putAt cs off v.cells.toList).toArray) ?_ ?_
 ·simp [execOp, i.eval s, i.eval u, ph l hi hs h1 e]
 ·exact H.set (by simp) (by simp) (by simp) (setRow_heap w b _ _ T (0, 0) l) (fun c z => setRow_other w b c _ z)
structure we {α : Type} (enc : α -> List Value) (sz : Nat) : Prop where
 len : ∀ x, (enc x).length = sz
 one : ∀ x u, u ∈ enc x -> u.oneCell' = true
def Sl {α : Type} (T : TypeId) (enc : α -> List Value) (sz : Nat) (sb : Option Addr) (sc : Nat) (l : List α) : HP := fun h =>
 (sb = none /\ l = [] /\ sc = 0) \/ ∃ b off cs, sb = some ⟨b, off, none⟩ /\ h b = some (.cells cs T (0, 0)) /\ l.length <= sc /\ sc <= maxLen /\ off + sc * sz <= cs.size /\
  ∀ i, i < l.length * sz -> cs[off + i]? = (l.flatMap enc)[i]?
theorem yi {α : Type} {enc : α -> List Value} {sz : Nat} (he : we enc sz) : ∀ l : List α, (l.flatMap enc).length = l.length * sz
 | [] => by simp
 | x :: l => by simp only [List.flatMap_cons, lA, he.len, yi he l, lC, Nat.succ_mul]; omega
theorem uA {α : Type} {enc : α -> List Value} {sz : Nat} (he : we enc sz) : ∀ (l : List α) (j q : Nat) (hj : j < l.length), q < sz -> (l.flatMap enc)[j * sz + q]? = (enc l[j])[q]?
 | [], j, q, hj, hq => by simp at hj
 | x :: l, 0, q, hj, hq => by
  simp only [List.flatMap_cons, Nat.zero_mul, Nat.zero_add, List.getElem_cons_zero];rw [List.getElem?_append_left (by rw [he.len]; exact hq)]
 | x :: l, j + 1, q, hj, hq => by
  simp only [List.flatMap_cons, List.getElem_cons_succ];rw [List.getElem?_append_right (by rw [he.len, Nat.succ_mul]; omega), he.len];have e : (j + 1) * sz + q - sz = j * sz + q := by rw [Nat.succ_mul]; omega
  rw [e];exact uA he l j q (by simpa using hj) hq
theorem rh {α : Type} {enc : α -> List Value} {sz : Nat} (he : we enc sz) (l : List α) : ∀ u ∈ l.flatMap enc, u.oneCell' = true := by
 intro u hu;obtain ⟨x, _, e⟩ := List.mem_flatMap.1 hu;exact he.one x u e
section
variable {α : Type} {T : TypeId} {enc : α -> List Value} {sz : Nat} {w0 w : World} {As : List HP}
theorem St.dO (T : TypeId) (enc : α -> List Value) (sz : Nat) (H : St w0 As w) : St w0 (Sl T enc sz none 0 [] :: As) w :=
 ⟨H.os, H.tape, H.output, fun _ => none, hpOf w, fun _ => .inl rfl, fun _ _ h => by simp at h, Sub.refl _, .inl ⟨rfl, rfl, rfl⟩, H.heap⟩
theorem St.pk (H : St w0 As w) (i : Nat) {sb : Option Addr} {sc : Nat} {l : List α} (hi : As[i]? = some (Sl T enc sz sb sc l)) : l.length <= sc /\ sc <= maxLen := by
 obtain ⟨h1, hs, h⟩ := H.at i hi;rcases h with ⟨_, rfl, rfl⟩ | ⟨b, off, cs, rfl, j, h2, e, h3, h4⟩
 ·simp
 ·exact ⟨h2, e⟩
theorem St.ag {sb : Option Addr} {sc : Nat} {l : List α} (H : St w0 (Sl T enc sz sb sc l :: As) w) (he : we enc sz) (lo hi : Nat) (h1 : lo <= hi) (h2 : hi <= l.length) :
  St w0 (Sl T enc sz (ym sb sc lo sz) (sc - lo) ((l.take hi).drop lo) :: As) w := by
 refine H.head fun h hh => ?_
 rcases hh with ⟨rfl, rfl, rfl⟩ | ⟨b, off, cs, rfl, u, h3, F, h4, z⟩
 ·simp at h2; subst h2;have : lo = 0 := by omega
  subst this
  left; simp [ym]
 ·right
  have hlen : ((l.take hi).drop lo).length = hi - lo := by simp [Nat.min_eq_left h2]
  have key : ∀ i, i < (hi - lo) * sz -> (((l.take hi).drop lo).flatMap enc)[i]? = (l.flatMap enc)[lo * sz + i]? := by
   intro i e;have j : 0 < sz := by
    rcases Nat.eq_zero_or_pos sz with h | h
    ·subst h; simp at e
    ·exact h
   have hj : i / sz < hi - lo := Nat.div_lt_of_lt_mul (by rw [Nat.mul_comm]; exact e);have hq : i % sz < sz := Nat.mod_lt _ j;have s : i = (i / sz) * sz + i % sz := by rw [Nat.mul_comm]; exact (Nat.div_add_mod i sz).symm
   have t := uA he ((l.take hi).drop lo) (i / sz) (i % sz) (by rw [hlen]; exact hj) hq;have x := uA he l (lo + i / sz) (i % sz) (by omega) hq;have A : ((l.take hi).drop lo)[i / sz]'(by rw [hlen]; exact hj) = l[lo + i / sz]'(by omega) := by simp
   rw [A] at t;rw [<- s] at t;have B : (lo + i / sz) * sz + i % sz = lo * sz + i := by rw [Nat.add_mul]; omega
   rw [B] at x;rw [t, x]
  by_cases y : sc = lo
  ·subst y;refine ⟨b, off, cs, by simp [ym], u, by rw [hlen]; omega, by omega, by simp; omega, fun i e => ?_⟩;rw [hlen] at e;have : hi - sc = 0 := by omega
   rw [this] at e; simp at e
  ·refine ⟨b, off + lo * sz, cs, by simp [ym, y, vi], u, by rw [hlen]; omega, by omega, ?_, fun i e => ?_⟩
   ·have : (sc - lo) * sz = sc * sz - lo * sz := Nat.sub_mul _ _ _;have D : lo * sz <= sc * sz := Nat.mul_le_mul_right _ (by omega);omega
   ·rw [hlen] at e;rw [key i e, Nat.add_assoc];refine z _ ?_;have D : lo * sz + (hi - lo) * sz = hi * sz := by rw [<- Nat.add_mul]; congr 1; omega
    have I : hi * sz <= l.length * sz := Nat.mul_le_mul_right _ h2;omega
theorem St.slOf {b : Nat} {cs : Array Value} {l : List α} {sc : Nat} (H : St w0 (One b (.cells cs T (0, 0)) :: As) w) (he : we enc sz) (h1 : l.length <= sc) (h2 : sc <= maxLen) (h3 : sc * sz <= cs.size)
  (h4 : ∀ i, i < l.length * sz -> cs[i]? = (l.flatMap enc)[i]?) : St w0 (Sl T enc sz (some ⟨b, 0, none⟩) sc l :: As) w :=
 H.head fun h hh => .inr ⟨b, 0, cs, rfl, hh, h1, h2, by omega, fun i hi => by rw [Nat.zero_add]; exact h4 i hi⟩
end
theorem St.mW {α : Type} {T : TypeId} {enc : α -> List Value} {sz : Nat} {w0 w : World} {As : List HP} {sb : Option Addr} {sc : Nat} {l : List α} (H : St w0 (Sl T enc sz sb sc l :: As) w) :
  (sb = none /\ l = [] /\ sc = 0) \/ ∃ b off cs, sb = some ⟨b, off, none⟩ /\ St w0 (One b (.cells cs T (0, 0)) :: As) w /\ l.length <= sc /\ sc <= maxLen /\ off + sc * sz <= cs.size /\
  ∀ i, i < l.length * sz -> cs[off + i]? = (l.flatMap enc)[i]? := by
 obtain ⟨h1, h2, hd, s1, s2, hA, e⟩ := H.heap;rcases hA with h | ⟨b, off, cs, j, s, rest⟩
 ·exact .inl h
 ·exact .inr ⟨b, off, cs, j, ⟨H.os, H.tape, H.output, h1, h2, hd, s1, s2, s, e⟩, rest⟩
def Rd (w : World) (i : Option Addr) (news : List Value) : Prop := news = [] \/ ∃ e, i = some e /\ ∀ j u, news[j]? = some u -> w.cell? (e.add j) = some u
theorem rq {P : Program} {w : World} {e : Option Addr} {news : List Value} {size m len cap : Nat} (h : Rd w e news) (hl : news.length = m * size) :
  (Builtin.firstCells size m (.slice e len cap)).run P w = .ok news.toArray w := by
 rcases h with rfl | ⟨i, rfl, h⟩
 ·cases e with
  | none => exact run_firstCells_none (P := P) (w := w) size m len cap
  | some a => exact run_firstCells_some (P := P) w size m a len cap [] hl (by simp)
 ·exact run_firstCells_some (P := P) w size m i len cap news hl h
section
variable {α : Type} {T : TypeId} {enc : α -> List Value} {sz : Nat} {w0 w : World} {As : List HP} {P : Program}
theorem mE {t u ty : TypeId} {d : TypeId} {ti : TypeInfo} {sb X : Option Addr} {sc xc m : Nat} {l e : List α} (H : St w0 (Sl T enc sz sb sc l :: As) w) (he : we enc sz)
  (ht : P.underlying t = some (.slice T)) (hu : P.underlying u = some (.slice d)) (hi : P.info? T = some ti) (B : ti.size = sz) {z : Value} (hz : ti.zero = some z) (Y : z.cells.size = sz)
  (hm : m = e.length) (Z : Rd w X (e.flatMap enc)) (D : l.length + e.length <= maxLen) (a0 : (l.length + e.length) * ti.bytes <= 140737488355328) :
  ∃ sb' sc' w', (Builtin.append_ #[t, u] ty #[.slice sb l.length sc, .slice X m xc]).run P w = .ok (.slice sb' (l ++ e).length sc') w' /\ St w0 (Sl T enc sz sb' sc' (l ++ e) :: As) w' := by
 subst hm;have x : (e.flatMap enc).length = e.length * sz := yi he e;have y : (l.flatMap enc).length = l.length * sz := yi he l;have J : (l ++ e).flatMap enc = l.flatMap enc ++ e.flatMap enc := by simp
 have a1 : ¬ (9223372036854775807 < ((l.length : Int) + (e.length : Int))) := by simp only [maxLen] at D; omega
 by_cases s : l.length + e.length <= sc
 ·rcases H.mW with ⟨rfl, rfl, rfl⟩ | ⟨b, off, cs, rfl, H1, h1, h2, h3, h4⟩
  ·have hy : e = [] := List.eq_nil_of_length_eq_zero (by simpa using s);subst hy;refine ⟨none, 0, w, ?_, H⟩;have hf := rq (P := P) (size := ti.size) (m := 0) (len := 0) (cap := xc) Z (by simp);simp only [List.flatMap_nil] at hf;simp [Builtin.append_, xt P ht, xt P hu, sizeOf, typeInfo, hi, Builtin.lenOf, hf]
  ·have hb := H1.one 0 rfl;have A : off + l.length * sz + 0 + (e.flatMap enc).length <= cs.size := by
    rw [x];have : (l.length + e.length) * sz <= sc * sz := Nat.mul_le_mul_right _ s;rw [Nat.add_mul] at this;omega
   have O := run_storeCells_at P b (off + l.length * sz) T (e.flatMap enc) 0 cs w hb A (rh he e);simp only [Nat.add_zero] at O A;have F := A;rw [x] at F;refine ⟨some ⟨b, off, none⟩, sc, w.setRow b (cs.toList.take (off + l.length * sz) ++ e.flatMap enc ++ cs.toList.drop (off + l.length * sz + (e.flatMap enc).length)).toArray, ?_, ?_⟩
   ·have hf := rq (P := P) (size := ti.size) (m := e.length) (len := e.length) (cap := xc) Z (by rw [x, B]);have S : (storeCells ((⟨b, off, none⟩ : Addr).add (l.length * ti.size)) (e.flatMap enc) 0).run P w = .ok () (w.setRow b (cs.toList.take (off + l.length * sz) ++ e.flatMap enc ++ cs.toList.drop (off + l.length * sz + (e.flatMap enc).length)).toArray) := by
     rw [vi, B]; exact O
    simp [Builtin.append_, xt P ht, xt P hu, sizeOf, typeInfo, hi, Builtin.lenOf, s, hf, S]
   ·have H2 := H1.set (o' := .cells (cs.toList.take (off + l.length * sz) ++ e.flatMap enc ++ cs.toList.drop (off + l.length * sz + (e.flatMap enc).length)).toArray T (0, 0)) (setRow_os _ _ _) (setRow_tape _ _ _) (setRow_output _ _ _) (setRow_heap w b cs _ T (0, 0) hb) (fun c hc => setRow_other w b c _ hc);refine H2.head fun h hh => .inr ⟨b, off, _, rfl, hh, by simpa using s, h2, ?_, ?_⟩
    ·simp only [List.size_toArray, lA, List.length_take, List.length_drop, Array.length_toList]; omega
    ·intro i I;simp only [lA, Nat.add_mul] at I;rw [J];simp only [List.getElem?_toArray];by_cases U : i < l.length * sz
     ·rw [aA, List.getElem?_append_left (by simp only [List.length_take, Array.length_toList]; omega), List.getElem?_take, if_pos (by omega), List.getElem?_append_left (by rw [y]; exact U)];rw [<- h4 i U]; simp
     ·rw [List.getElem?_append_left (by simp only [lA, List.length_take, Array.length_toList, x]; omega), List.getElem?_append_right (by simp only [List.length_take, Array.length_toList]; omega), List.getElem?_append_right (by rw [y]; omega)];congr 1;simp only [List.length_take, Array.length_toList, y]; omega
 ·have b0 : 0 < e.length := by
   have := (H.pk 0 rfl).1; omega
  have a3 : ¬ (281474976710656 < Builtin.nextslicecap (l.length + e.length) sc * ti.bytes) := by
   have := growslice_fits (need := l.length + e.length) (old := sc) (by omega) a0;omega
  have a4 := grownCap_ge w (l.length + e.length) sc T;have a5 := grownCap_le_maxLen w (l.length + e.length) sc T D;have a6 : Rd w.drew X (e.flatMap enc) := by
   rcases Z with h | ⟨xa, h1, h2⟩
   ·exact .inl h
   ·exact .inr ⟨xa, h1, by simpa using h2⟩
  have hf := rq (P := P) (size := ti.size) (m := e.length) (len := e.length) (cap := xc) a6 (by rw [x, B]);have a7 : (Builtin.firstCells ti.size l.length (.slice sb l.length sc)).run P w.drew = .ok (l.flatMap enc).toArray w.drew := by
   refine rq ?_ (by rw [y, B]);rcases H.mW with ⟨_, rfl, _⟩ | ⟨b, off, cs, rfl, H1, h1, h2, h3, h4⟩
   ·exact .inl rfl
   ·refine .inr ⟨_, rfl, fun j u hj => ?_⟩;have W := (List.getElem?_eq_some_iff.1 hj).1;rw [y] at W;have := h4 j W;rw [hj] at this;have a8 : w.drew.heap[b]? = some (.cells cs T (0, 0)) := H1.one 0 rfl;simp [World.cell?, vi, a8, this]
  refine ⟨some ⟨w.heap.size, 0, none⟩, grownCap w (l.length + e.length) sc T, w.drew.alloc (.cells ((l.flatMap enc).toArray ++ (e.flatMap enc).toArray ++ Builtin.zeroCells z.cells (grownCap w (l.length + e.length) sc T - (l.length + e.length))) T), ?_, ?_⟩
  ·have hn : ¬ (l.length + e.length <= sc) := s;simp [Builtin.append_, xt P ht, xt P hu, sizeOf, typeInfo, zeroValue, hi, hz, Builtin.lenOf, hn, a1, a3, Question.forced, hf, a7, newRow, grownCap];congr 2;apply Array.ext';simp [aA]
  ·have H2 := (H.drop.drew).alloc (.cells ((l.flatMap enc).toArray ++ (e.flatMap enc).toArray ++ Builtin.zeroCells z.cells (grownCap w (l.length + e.length) sc T - (l.length + e.length))) T (0, 0));refine St.slOf (b := w.heap.size) H2 he (by simpa using a4) a5 ?_ ?_
   ·simp only [Array.size_append, List.size_toArray, size_zeroCells, Y, x, y, <- Nat.add_mul];refine Nat.mul_le_mul_right _ ?_;omega
   ·intro i I;simp only [lA, Nat.add_mul] at I;rw [J];rw [Array.getElem?_append_left (by simp only [Array.size_append, List.size_toArray, x, y]; omega)];simp
theorem OpTo.append {n : Nat} {a : Act} {L : Env} {o : Oper} {x y : Operand} {t u : TypeId} {d : TypeId} {ti : TypeInfo} {sb D : Option Addr} {sc xc m : Nat} {l : List α} (e : List α) (F : zV n a L) (H : St w0 (Sl T enc sz sb sc l :: As) w) (he : we enc sz)
  (I : o.op = .call { callee := .builtin .append, args := #[x, y], argTypes := #[t, u] }) (J : evO L x = some (.slice sb l.length sc)) (O : evO L y = some (.slice D m xc))
  (ht : P.underlying t = some (.slice T)) (hu : P.underlying u = some (.slice d)) (hi : P.info? T = some ti) (s : ti.size = sz) {z : Value} (hz : ti.zero = some z) (A : z.cells.size = sz)
  (hm : m = e.length) (S : Rd w D (e.flatMap enc)) (i : l.length + e.length <= maxLen) (B : (l.length + e.length) * ti.bytes <= 140737488355328) :
  OpTo P o a w fun v w' => ∃ sb' sc', v = .slice sb' (l ++ e).length sc' /\ St w0 (Sl T enc sz sb' sc' (l ++ e) :: As) w' := by
 obtain ⟨dst, op, type, pos, after, guard⟩ := o;simp only at I;subst I;obtain ⟨sb', sc', w', j, U⟩ := mE (P := P) (ty := type) (xc := xc) H he ht hu hi s hz A hm S i B;refine OpTo.of_run ?_ ⟨sb', sc', rfl, U⟩;simp [execOp, resolve, invoke, builtin, F.eval J, F.eval O, j]
end
def w64 (x : Int) : Int := IntKind.i64.wrap x
def mIdx {α : Type} (l : List α) (i : Int) : Option α := if 0 <= i then l[i.toNat]? else none
def mSet {α : Type} (l : List α) (i : Int) (x : α) : List α := l.set i.toNat x
def mApp {α : Type} (l e : List α) : Option (List α) := if l.length + e.length <= 1073741824 then some (l ++ e) else none
def mCut {α : Type} (l : List α) (lo hi : Int) : Option (List α) := if 0 <= lo /\ lo <= hi /\ hi <= l.length then some ((l.take hi.toNat).drop lo.toNat) else none
def ecI (x : Int) : List Value := [.int .i64 x]
theorem xW : we ecI 1 := ⟨fun _ => rfl, fun x u hu => by simp [ecI] at hu; subst hu; rfl⟩
theorem pz {α : Type} {l : List α} {i : Int} {x : α} (h : mIdx l i = some x) : (0 <= i /\ i < (l.length : Int)) /\ l[i.toNat]? = some x := by
 unfold mIdx at h;split at h
 ·rename_i h0;refine ⟨⟨h0, ?_⟩, h⟩;have := (List.getElem?_eq_some_iff.1 h).1;omega
 ·cases h
theorem eg {α : Type} {l e r : List α} (h : mApp l e = some r) : r = l ++ e /\ l.length + e.length <= 1073741824 := by
 unfold mApp at h;split at h
 ·cases h; exact ⟨rfl, by assumption⟩
 ·cases h
theorem uz {α : Type} {l r : List α} {lo hi : Int} (h : mCut l lo hi = some r) : (0 <= lo /\ lo <= hi /\ hi <= l.length) /\ r = (l.take hi.toNat).drop lo.toNat := by
 unfold mCut at h;split at h
 ·cases h; exact ⟨by assumption, rfl⟩
 ·cases h
theorem pH {α : Type} (l : List α) (i : Int) (x : α) : (mSet l i x).length = l.length := by simp [mSet]
theorem bind_some {α β : Type} {x : Option α} {f : α -> Option β} {r : β} (h : x.bind f = some r) : ∃ y, x = some y /\ f y = some r := by
 cases x with
 | none => cases h
 | some y => exact ⟨y, rfl, h⟩
theorem wh {α : Type} {b : Bool} {x y z : α} (c : b = true) (h : cond b x y = z) : x = z := by subst c; exact h
theorem wg {α : Type} {b : Bool} {x y z : α} (c : b = false) (h : cond b x y = z) : y = z := by subst c; exact h
theorem zV.sel {n : Nat} {a : Act} {L Lo : Env} (e : zV n a L) (ks : List Nat) (h : Th.sel ks L = some Lo) : zV n a Lo := tW e h
theorem Runs.join {P : Program} {f : FuncId} {c : Code} {k : List Item} {a : Act} {w : World} {R : Value -> World -> Prop} (J : Act -> World -> Prop)
  (h1 : (∀ a w, J a w -> Runs P f k a w R) -> Runs P f (.code c :: k) a w R) (h2 : ∀ a w, J a w -> Runs P f k a w R) : Runs P f (.code c :: k) a w R := h1 h2
section
variable {α : Type} {T : TypeId} {enc : α -> List Value} {sz : Nat} {w0 w : World} {As : List HP} {P : Program}
theorem jz {x' : α} (he : we enc sz) : ∀ (l : List α) (j : Nat) (q : Nat) (vs : List Value), (hj : j < l.length) -> enc x' = putAt (enc l[j]) q vs -> q + vs.length <= sz ->
  (l.set j x').flatMap enc = putAt (l.flatMap enc) (j * sz + q) vs
 | [], j, q, vs, hj, h, hq => by simp at hj
 | x :: l, 0, q, vs, hj, h, hq => by
  simp only [List.getElem_cons_zero] at h;simp only [List.set_cons_zero, List.flatMap_cons, Nat.zero_mul, Nat.zero_add];rw [h, vK _ _ _ (by rw [he.len]; omega), vK _ _ _ (by rw [lA, he.len]; omega)];rw [List.take_append_of_le_length (by rw [he.len]; omega), List.drop_append_of_le_length (by rw [he.len]; omega)];simp [aA]
 | x :: l, j + 1, q, vs, hj, h, hq => by
  simp only [List.getElem_cons_succ] at h;simp only [List.set_cons_succ, List.flatMap_cons];have i : j < l.length := by simpa using hj
  rw [jz he l j q vs i h hq];have hl : (l.flatMap enc).length = l.length * sz := yi he l;have s : (j + 1) * sz <= l.length * sz := Nat.mul_le_mul_right _ i;rw [Nat.succ_mul] at s;have e : (j + 1) * sz + q = (enc x).length + (j * sz + q) := by rw [he.len, Nat.succ_mul]; omega
  rw [vK _ _ _ (by rw [hl]; omega), e, vK _ _ _ (by rw [lA, hl, Nat.add_assoc]; omega)];rw [List.take_append, List.drop_append];have t : (enc x).length + (j * sz + q) - (enc x).length = j * sz + q := by omega
  have u : (enc x).length + (j * sz + q) + vs.length - (enc x).length = j * sz + q + vs.length := by omega
  rw [t, u, List.take_of_length_le (l := enc x) (by omega), List.drop_of_length_le (l := enc x) (by omega)];simp [aA]
theorem OpTo.me {n : Nat} {a : Act} {L : Env} {o : Oper} {b off q : Nat} {t : TypeId} {sb : Option Addr} {sc : Nat} {l : List α} {y : Int} {x x' : α} {X Y : Operand} {v : Value} {ti : TypeInfo} (hE : zV n a L) (H : St w0 (Sl T enc sz sb sc l :: As) w) (he : we enc sz)
  (ho : vh o.op = some (t, X, Y)) (F : sb = some ⟨b, off, none⟩) (A : mIdx l y = some x) (hx : evO L X = some (.pointer (some ⟨b, off + y.toNat * sz + q, none⟩))) (hy : evO L Y = some v) (hi : P.info? t = some ti) (hs : ti.size = v.cells.size) (h1 : qb v.cells.toList = true)
  (hq : q + v.cells.size <= sz) (I : enc x' = putAt (enc x) q v.cells.toList) : OpTo P o a w fun _ w' => St w0 (Sl T enc sz sb sc (mSet l y x') :: As) w' := by
 subst F;obtain ⟨hb, hg⟩ := pz A;obtain ⟨B, J⟩ := List.getElem?_eq_some_iff.1 hg;rcases H.mW with ⟨h, _⟩ | ⟨b', Z, cs, e, H1, h3, h4, h5, h6⟩
 ·cases h
 ·cases e;have hmul : (y.toNat + 1) * sz <= l.length * sz := Nat.mul_le_mul_right _ B;have O : l.length * sz <= sc * sz := Nat.mul_le_mul_right _ h3;rw [Nat.succ_mul] at hmul;have D : St w0 (Blk b T cs.toList :: As) w := by simpa [Blk] using H1
  have S := OpTo.store (P := P) (o := o) (b := b) (off := off + y.toNat * sz + q) (cs := cs.toList) hE D ho hx hy hi hs h1 (by simp; omega);refine S.mono fun u w' H2 => ?_
  refine H2.head fun h hh => .inr ⟨b, off, _, rfl, hh, by simpa [mSet] using h3, h4, by simp [sQ]; omega, fun i z => ?_⟩
  have hlen : (mSet l y x').length = l.length := by simp [mSet]
  rw [hlen] at z;have s : v.cells.toList.length = v.cells.size := by simp
  have U := jz he l y.toNat q v.cells.toList B (by rw [J]; exact I) (by rw [s]; exact hq);have W : (l.flatMap enc).length = l.length * sz := yi he l;unfold mSet;rw [U];simp only [List.getElem?_toArray];rw [vK _ _ _ (by simp; omega), vK _ _ _ (by rw [W, s]; omega)];have hcs : ∀ j, j < l.length * sz -> cs.toList[off + j]? = (l.flatMap enc)[j]? := fun j hj => by rw [<- h6 j hj]; simp
  have a7 : cs.toList.length = cs.size := by simp
  by_cases c1 : i < y.toNat * sz + q
  ·rw [aA, aA, List.getElem?_append_left (by rw [List.length_take]; omega), List.getElem?_append_left (by rw [List.length_take]; omega), List.getElem?_take, List.getElem?_take, if_pos (by omega), if_pos c1];exact hcs i z
  ·by_cases c2 : i < y.toNat * sz + q + v.cells.size
   ·rw [List.getElem?_append_left (by simp only [lA, List.length_take, s]; omega), List.getElem?_append_right (by rw [List.length_take]; omega),
     List.getElem?_append_left (by simp only [lA, List.length_take, s]; omega), List.getElem?_append_right (by rw [List.length_take]; omega)]
    congr 1;rw [List.length_take, List.length_take]; omega
   ·rw [List.getElem?_append_right (by simp only [lA, List.length_take, s]; omega), List.getElem?_append_right (by simp only [lA, List.length_take, s]; omega), List.getElem?_drop, List.getElem?_drop];have e1 : off + y.toNat * sz + q + v.cells.toList.length + (off + i - (List.take (off + y.toNat * sz + q) cs.toList ++ v.cells.toList).length) = off + i := by
     simp only [lA, List.length_take, s]; omega
    have e2 : y.toNat * sz + q + v.cells.toList.length + (i - (List.take (y.toNat * sz + q) (l.flatMap enc) ++ v.cells.toList).length) = i := by
     simp only [lA, List.length_take, s]; omega
    rw [e1, e2];exact hcs i z
end
def SlRd {α : Type} (X : HP) (enc : α -> List Value) (sz : Nat) (sb : Option Addr) (l : List α) : Prop :=
 ∀ h, X h -> l = [] \/ ∃ b off cs T fr, sb = some ⟨b, off, none⟩ /\ h b = some (.cells cs T fr) /\ ∀ i, i < l.length * sz -> cs[off + i]? = (l.flatMap enc)[i]?
section
variable {α : Type} {T : TypeId} {enc : α -> List Value} {sz : Nat} {w0 w : World} {As : List HP} {P : Program}
theorem vj (T : TypeId) (enc : α -> List Value) (sz : Nat) (sb : Option Addr) (sc : Nat) (l : List α) : SlRd (Sl T enc sz sb sc l) enc sz sb l := by
 rintro h (⟨_, hl, _⟩ | ⟨b, off, cs, e, i, _, _, _, j⟩)
 ·exact .inl hl
 ·exact .inr ⟨b, off, cs, T, (0, 0), e, i, j⟩
theorem SlRd.all {X : HP} {sb : Option Addr} {l : List α} (hX : SlRd X enc sz sb l) (he : we enc sz) (H : St w0 As w) (i : Nat) (hi : As[i]? = some X) : Rd w sb (l.flatMap enc) := by
 obtain ⟨h1, hs, h⟩ := H.at i hi;rcases hX h1 h with rfl | ⟨b, off, cs, T, fr, rfl, t, x⟩
 ·exact .inl rfl
 ·refine .inr ⟨_, rfl, fun j u hj => ?_⟩;have e := (List.getElem?_eq_some_iff.1 hj).1;rw [yi he] at e;have s := hs _ _ t;simp only [hpOf] at s;have := x j e;rw [hj] at this;simp [vi, World.cell?, s, this]
theorem SlRd.idx {X : HP} {sb : Option Addr} {l : List α} (hX : SlRd X enc sz sb l) (he : we enc sz) (H : St w0 As w) (i : Nat) (hi : As[i]? = some X) {s : Int} {x : α} (D : mIdx l s = some x) :
  ∃ b off, sb = some ⟨b, off, none⟩ /\ (0 <= s /\ s < (l.length : Int)) /\ ∀ q v, (enc x)[q]? = some v -> w.cell? ⟨b, off + s.toNat * sz + q, none⟩ = some v := by
 obtain ⟨B, F⟩ := pz D;obtain ⟨j, t⟩ := List.getElem?_eq_some_iff.1 F;rcases hX.all he H i hi with h | ⟨J, u, I⟩
 ·obtain ⟨h1, hs, hh⟩ := H.at i hi;rcases hX h1 hh with rfl | ⟨b, off, cs, T, fr, rfl, y, z⟩
  ·simp at j
  ·refine ⟨b, off, rfl, B, fun q v hv => ?_⟩;have hq : q < sz := by have := (List.getElem?_eq_some_iff.1 hv).1; rw [he.len] at this; exact this
   have := yi he l;rw [h] at this;have h2 : (s.toNat + 1) * sz <= l.length * sz := Nat.mul_le_mul_right _ j;rw [Nat.succ_mul] at h2;simp at this; omega
 ·obtain ⟨h1, hs, hh⟩ := H.at i hi;rcases hX h1 hh with rfl | ⟨b, off, cs, T, fr, A, y, z⟩
  ·simp at j
  ·refine ⟨b, off, A, B, fun q v hv => ?_⟩;rw [u] at A;cases A;have hq : q < sz := by have := (List.getElem?_eq_some_iff.1 hv).1; rw [he.len] at this; exact this
   have e := I (s.toNat * sz + q) v (by rw [uA he l _ _ j hq, t]; exact hv);rw [vi, <- Nat.add_assoc] at e;exact e
theorem SlRd.cut {X : HP} {sb : Option Addr} {l r : List α} {sc lo : Nat} {hi : Nat} (hX : SlRd X enc sz sb l) (he : we enc sz) (h1 : lo <= hi) (h2 : hi <= l.length) (h3 : hi <= sc) (y : r = (l.take hi).drop lo) : SlRd X enc sz (ym sb sc lo sz) r := by
 intro h hh;subst y;rcases hX h hh with rfl | ⟨b, off, cs, T, fr, rfl, z, A⟩
 ·exact .inl (by simp)
 ·by_cases hz : hi - lo = 0
  ·left; apply List.eq_nil_of_length_eq_zero; simp; omega
  ·right
   have hlen : ((l.take hi).drop lo).length = hi - lo := by simp [Nat.min_eq_left h2]
   have j : ¬ sc = lo := by omega
   refine ⟨b, off + lo * sz, cs, T, fr, by simp [ym, j, vi], z, fun i e => ?_⟩;rw [hlen] at e;have s : 0 < sz := by
    rcases Nat.eq_zero_or_pos sz with h | h
    ·subst h; simp at e
    ·exact h
   have hj : i / sz < hi - lo := Nat.div_lt_of_lt_mul (by rw [Nat.mul_comm]; exact e);have hq : i % sz < sz := Nat.mod_lt _ s;have t : (i / sz) * sz + i % sz = i := by rw [Nat.mul_comm]; exact Nat.div_add_mod i sz
   have u := uA he ((l.take hi).drop lo) (i / sz) (i % sz) (by rw [hlen]; exact hj) hq;have x := uA he l (lo + i / sz) (i % sz) (by omega) hq;have B : ((l.take hi).drop lo)[i / sz]'(by rw [hlen]; exact hj) = l[lo + i / sz]'(by omega) := by simp
   rw [B, t] at u;have D : (lo + i / sz) * sz + i % sz = lo * sz + i := by rw [Nat.add_mul]; omega
   rw [D] at x;rw [u, <- x, Nat.add_assoc];refine A _ ?_;have F : lo * sz + (hi - lo) * sz = hi * sz := by rw [<- Nat.add_mul]; congr 1; omega
   have I : hi * sz <= l.length * sz := Nat.mul_le_mul_right _ h2;omega
theorem OpTo.mP {n : Nat} {a : Act} {L : Env} {o : Oper} (s : zV n a L) (H : St w0 As w) (he : we enc sz) (xs : List α) {cs : Array Value} {m : Nat}
  (j : (!sw o.op && mw L o.op.operands.toList) = true) (t : ∀ r, tA P (execOp (rho L) o) [] r = some (.cells cs T (0, 0), .value (.slice (some ⟨r, 0, none⟩) m m), [])) (hm : m = xs.length) (e : Nat.ble m 1000000 = true) (l : cs.toList = xs.flatMap enc) :
  OpTo P o a w fun v w' => ∃ r : Nat, v = .slice (some ⟨r, 0, none⟩) xs.length m /\ St w0 (Sl T enc sz (some ⟨r, 0, none⟩) m xs :: As) w' := by
 have h := OpTo.new (P := P) s H [] (.cells cs T (0, 0)) (fun r => .slice (some ⟨r, 0, none⟩) m m) j t trivial;refine h.mono ?_;rintro v w' ⟨r, rfl, u⟩;have x := Nat.le_of_ble_eq_true e;have y : cs.size = m * sz := by rw [<- Array.length_toList, l, yi he, hm]
 subst hm;exact ⟨r, rfl, St.slOf u he (Nat.le_refl _) (by unfold maxLen; omega) (by omega) fun i hi => by rw [<- l]; simp⟩
theorem St.fl {sb sb' : Option Addr} {sc sc' : Nat} {l r : List α} {lo hi : Int} (H : St w0 (Sl T enc sz sb sc l :: As) w) (he : we enc sz) (e : mCut l lo hi = some r) (h1 : ym sb sc lo.toNat sz = sb') (h2 : sc - lo.toNat = sc') :
  St w0 (Sl T enc sz sb' sc' r :: As) w := by
 obtain ⟨⟨h3, h4, i⟩, rfl⟩ := uz e;subst h1; subst h2;exact H.ag he lo.toNat hi.toNat (by omega) (by omega)
theorem s6 {l r : List α} {lo hi : Int} (e : mCut l lo hi = some r) : hi.toNat - lo.toNat = r.length := by
 obtain ⟨⟨h3, h4, i⟩, rfl⟩ := uz e;simp; omega
theorem eu {l r : List α} {lo hi : Int} (e : mCut l lo hi = some r) : 0 <= lo /\ lo <= (hi.toNat : Int) := by
 obtain ⟨⟨h3, h4, i⟩, rfl⟩ := uz e;omega
theorem nU {α : Type} {l r : List α} {lo : Int} {n : Nat} (e : mCut l lo (n : Int) = some r) : 0 <= lo /\ lo <= (n : Int) := by
 have := eu e;simpa using this
theorem ja {α : Type} {l r : List α} {lo hi : Int} {sc sc' : Nat} (i : mCut l lo hi = some r) (j : l.length <= sc) (h : sc - lo.toNat = sc') : r.length <= sc' := by
 have e := s6 i;obtain ⟨⟨h3, h4, s⟩, _⟩ := uz i;omega
theorem mz {l r : List α} {lo hi : Int} {sc : Nat} (e : mCut l lo hi = some r) (i : l.length <= sc) : 0 <= hi /\ hi <= (sc : Int) := by
 obtain ⟨⟨h3, h4, j⟩, rfl⟩ := uz e;omega
theorem SlRd.cut' {X : HP} {sb sb' : Option Addr} {l r : List α} {sc : Nat} {lo hi : Int} (hX : SlRd X enc sz sb l) (he : we enc sz) (i : mCut l lo hi = some r) (j : l.length <= sc) (h1 : ym sb sc lo.toNat sz = sb') : SlRd X enc sz sb' r := by
 obtain ⟨⟨h3, h4, s⟩, e⟩ := uz i;subst h1;exact hX.cut he (by omega) (by omega) (by omega) e
end
def mNz (x : Int) : Option Unit := if x ≠ 0 then some () else none
def mNn (x : Int) : Option Unit := if 0 <= x then some () else none
theorem eT {x : Int} {u : Unit} (h : mNz x = some u) : x ≠ 0 := by
 unfold mNz at h;split at h
 ·assumption
 ·cases h
theorem dw {x : Int} {u : Unit} (h : mNn x = some u) : 0 <= x := by
 unfold mNn at h;split at h
 ·assumption
 ·cases h
def ecB (x : Bool) : List Value := [.bool x]
theorem cq : we ecB 1 := ⟨fun _ => rfl, fun x u hu => by simp [ecB] at hu; subst hu; rfl⟩
theorem zV.dec {n : Nat} {a : Act} {L : Env} {b c : Bool} (e : zV n a L) (d : Nat) (h : b = c) (hl : look d L = some (.bool b)) : zV n a ((d, .bool c) :: L) := by
 subst h;refine ⟨e.size, e.defers, fun t v hv => ?_⟩;rw [wB] at hv;split at hv
 ·subst_vars; cases hv; exact e.has _ _ hl
 ·exact e.has _ _ hv
section
variable {α : Type} {T : TypeId} {enc : α -> List Value} {sz : Nat} {w0 w : World} {As : List HP} {P : Program}
theorem SlRd.base {X : HP} {sb : Option Addr} {l : List α} (hX : SlRd X enc sz sb l) (he : we enc sz) (H : St w0 As w) (i : Nat) (hi : As[i]? = some X) {e : Int} {x : α} (j : mIdx l e = some x) :
  ∃ b off, sb = some ⟨b, off, none⟩ /\ (0 <= e /\ e < (l.length : Int)) := by
 obtain ⟨b, off, h1, h2, _⟩ := hX.idx he H i hi j;exact ⟨b, off, h1, h2⟩
theorem SlRd.cells {X : HP} {sb : Option Addr} {l : List α} (hX : SlRd X enc sz sb l) (he : we enc sz) (H : St w0 As w) (i : Nat) (hi : As[i]? = some X) {b off : Nat} (hs : sb = some ⟨b, off, none⟩) {e : Int} {x : α} (s : mIdx l e = some x)
  (q : Nat) (v : Value) (hv : (enc x)[q]? = some v) : w.cell? ⟨b, off + e.toNat * sz + q, none⟩ = some v := by
 obtain ⟨t, j, h1, h2, h3⟩ := hX.idx he H i hi s;rw [hs] at h1;cases h1;exact h3 q v hv
theorem OpTo.rV {n : Nat} {a : Act} {L : Env} {o : Oper} {x y : Operand} {t u : TypeId} {d : TypeId} {ti : TypeInfo} {sb B : Option Addr} {sc xc m : Nat} {l e r : List α} (D : mApp l e = some r) (F : zV n a L) (H : St w0 (Sl T enc sz sb sc l :: As) w) (he : we enc sz)
  (I : o.op = .call { callee := .builtin .append, args := #[x, y], argTypes := #[t, u] }) (J : evO L x = some (.slice sb l.length sc)) (O : evO L y = some (.slice B m xc))
  (ht : P.underlying t = some (.slice T)) (hu : P.underlying u = some (.slice d)) (hi : P.info? T = some ti) (i : ti.size = sz) {z : Value} (hz : ti.zero = some z) (j : z.cells.size = sz)
  (hm : m = e.length) (s : Rd w B (e.flatMap enc)) (S : Nat.ble ti.bytes 131072 = true) :
  OpTo P o a w fun v w' => ∃ sb' sc', v = .slice sb' r.length sc' /\ St w0 (Sl T enc sz sb' sc' r :: As) w' := by
 obtain ⟨rfl, hle⟩ := eg D;have A := Nat.le_of_ble_eq_true S;refine OpTo.append e F H he I J O ht hu hi i hz j hm s (by unfold maxLen; omega) ?_
 calc (l.length + e.length) * ti.bytes <= 1073741824 * 131072 := Nat.mul_le_mul hle A
  _ <= 140737488355328 := by decide
def nD (P : Program) (t : TypeId) (xs e : Array Value) (b : Bool) : Prop := ∀ w, (Op.equal t (.agg xs) (.agg e)).run P w = .ok b w
theorem OpTo.eqS {n : Nat} {a : Act} {L : Env} {o : Oper} {x y : Operand} {t u : TypeId} {xs e : Array Value} {b : Bool} (i : zV n a L) (j : o.op = .binOp .eql t x y u) (l : evO L x = some (.agg xs)) (s : evO L y = some (.agg e))
  (z : P.eqGuardType P.depth t = false) (he : nD P t xs e b) : OpTo P o a w fun v w' => v = .bool b /\ w' = w := by
 obtain ⟨dst, op, type, pos, after, guard⟩ := o;simp only at j;subst j;refine OpTo.of_run (w' := w) ?_ ⟨rfl, rfl⟩;simp [execOp, i.eval l, i.eval s, eqGuard, binOp, z, he w]
theorem OpTo.neS {n : Nat} {a : Act} {L : Env} {o : Oper} {x y : Operand} {t u : TypeId} {xs e : Array Value} {b : Bool} (i : zV n a L) (j : o.op = .binOp .neq t x y u) (l : evO L x = some (.agg xs)) (s : evO L y = some (.agg e))
  (z : P.eqGuardType P.depth t = false) (he : nD P t xs e b) : OpTo P o a w fun v w' => v = .bool (!b) /\ w' = w := by
 obtain ⟨dst, op, type, pos, after, guard⟩ := o;simp only at j;subst j;refine OpTo.of_run (w' := w) ?_ ⟨rfl, rfl⟩;simp [execOp, i.eval l, i.eval s, eqGuard, binOp, z, he w]
end
theorem OpTo.fv {P : Program} {n : Nat} {a : Act} {L : Env} {w : World} {o : Oper} {x : Operand} {xs : List Operand} {g : FuncId} {vs cs : List Value} {i : Value -> World -> Prop} (j : zV n a L)
  (l : callParts o.op = some (x, xs)) (s : evO L x = some (.func (.func g) #[] cs.toArray)) (e : qs L xs = some vs)
  (t : ∀ args w, (callFunc g args).run P w = .ok (.enter g args) w) (h : yX P g (vs ++ cs).toArray w i) : OpTo P o a w i :=
 OpTo.call j l s e t (by simpa using h)
def rL {α : Type} (l : List α) (i : Int) (v : List α) : Option (List α) := if 0 <= i /\ i <= (l.length : Int) /\ l.length + v.length <= 1073741824 then some (l.take i.toNat ++ (v ++ l.drop i.toNat)) else none
theorem lT {P : Program} {w : World} {d : Nat} {xs e : Array Value} {L : List Field} (i : L = []) : (Op.eqFields d xs e L).run P w = .ok true w := by
 subst i; simp [Op.eqFields]
theorem uS {P : Program} {w : World} {d : Nat} {xs ys : Array Value} {L : List Field} {f : Field} {fs : List Field} {a b : Value} {r r' : Bool} (hL : L = f :: fs) (hn : (f.name == "_") = false)
  (pa : (part f.type xs f.offset).run P w = .ok a w) (pb : (part f.type ys f.offset).run P w = .ok b w) (he : (Op.equalIn d f.type a b).run P w = .ok r w) (hr : (Op.eqFields d xs ys fs).run P w = .ok r' w) :
  (Op.eqFields d xs ys L).run P w = .ok (r && r') w := by
 subst hL;have hn' : f.name ≠ "_" := by simpa using hn
 simp only [Op.eqFields, hn', ne_eq, not_false_eq_true, if_true, Sem.run_bind, pa, pb, he, Result.andThen_ok];cases r <;> simp [hr]
theorem ky {P : Program} {w : World} (d : Nat) {t : TypeId} {xs e : Array Value} {b : Bool} (ht : P.underlying t = some (.struct (P.fieldsOf t))) (hp : P.stoodInHeld t = false) (h : (Op.eqFields d xs e (P.fieldsOf t).toList).run P w = .ok b w) :
  (Op.equalIn (d + 1) t (.agg xs) (.agg e)).run P w = .ok b w := by rw [run_equalIn_struct w d t xs e ht hp, h]
def qI (i n : Nat) : Option Unit := if i = n then some () else none
theorem fw {i n : Nat} {u : Unit} (h : qI i n = some u) : i = n := by
 unfold qI at h;split at h
 ·assumption
 ·cases h
def mIn (i : Int) (n : Nat) : Option Unit := if 0 <= i /\ i < (n : Int) then some () else none
theorem mV {i : Int} {n : Nat} {u : Unit} (h : mIn i n = some u) : 0 <= i /\ i < (n : Int) := by
 unfold mIn at h;split at h
 ·assumption
 ·cases h
def jS {α : Type} (n : Int) (z : α) : Option (List α) := if 0 <= n /\ n <= 1073741824 then some (List.replicate n.toNat z) else none
theorem iW {α : Type} {n : Int} {z : α} {l : List α} (h : jS n z = some l) : (0 <= n /\ n <= 1073741824) /\ l = List.replicate n.toNat z := by
 unfold jS at h;split at h
 ·cases h; exact ⟨by assumption, rfl⟩
 ·cases h
def eQ (s : ByteArray) (i : Int) : Option Int := if 0 <= i then (s[i.toNat]?).map fun u => (u.toNat : Int) else none
theorem hO {s : ByteArray} {i c : Int} (h : eQ s i = some c) : 0 <= i /\ ∃ u, s[i.toNat]? = some u /\ c = (u.toNat : Int) := by
 unfold eQ at h;split at h
 ·obtain ⟨u, hu, rfl⟩ := Option.map_eq_some_iff.1 h;exact ⟨by assumption, u, hu, rfl⟩
 ·cases h
section
variable {α : Type} {T : TypeId} {enc : α -> List Value} {sz : Nat} {w0 w : World} {As : List HP} {P : Program}
theorem ql {n : Int} (h0 : 0 <= n) (h1 : n <= 1073741824) : IntKind.i64.wrap n = n := by
 unfold IntKind.wrap;simp only [IntKind.bits, IntKind.signed];have : n % 2 ^ 64 = n := Int.emod_eq_of_lt h0 (by omega);simp only [this];have h2 : ¬ (9223372036854775808 <= n) := by omega
 simp;intro h3; exact absurd h3 h2
theorem OpTo.make {n : Nat} {a : Act} {L : Env} {o : Oper} {t : TypeId} {x : Operand} {m : Int} {z : α} {l : List α} {ti : TypeInfo} {u : Value} (hl : jS m z = some l) (Y : zV n a L) (H : St w0 As w) (he : we enc sz) (S : o.op = .makeSlice t x x) (Z : evO L x = some (.int .i64 m))
  (ht : P.underlying t = some (.slice T)) (hi : P.info? T = some ti) (hs : ti.size = sz) (hz : ti.zero = some u) (U : u.cells.toList = enc z) (hb : Nat.ble ti.bytes 131072 = true) :
  OpTo P o a w fun v w' => ∃ r : Nat, v = .slice (some ⟨r, 0, none⟩) l.length l.length /\ St w0 (Sl T enc sz (some ⟨r, 0, none⟩) l.length l :: As) w' := by
 obtain ⟨⟨h0, h1⟩, rfl⟩ := iW hl;have F := Nat.le_of_ble_eq_true hb;have hw := ql h0 h1;obtain ⟨dst, op, type, pos, after, guard⟩ := o;simp only at S;subst S;obtain ⟨k, rfl⟩ := Int.eq_ofNat_of_zero_le h0;have hk : k <= 1073741824 := by omega
 have a1 : ti.bytes * k <= 281474976710656 := by
  calc ti.bytes * k <= 131072 * 1073741824 := Nat.mul_le_mul F hk
   _ <= 281474976710656 := by decide
 have y : u.cells.size = sz := by rw [<- Array.length_toList, U, he.len]
 let arr : Array Value := (Array.range (k * ti.size)).map (u.cells[· % u.cells.size]!)
 have A : (Instr.makeSlice t (.int .i64 k) (.int .i64 k)).run P w = .ok (.slice (some ⟨w.heap.size, 0, none⟩) k k) { w with heap := w.heap.push (.cells arr T (0, 0)) } := by
  have W : ¬ ((k : Int) < 0) := by omega
  have X : ¬ ((281474976710656 : Int) < (ti.bytes : Int) * (k : Int)) := by
   rw [<- Int.natCast_mul]; omega
  have j : ∀ (w : World), (askRoom (k * ti.bytes)).run P w = .ok () w := fun w => by
   unfold askRoom;split <;> rfl
  by_cases hn : k * ti.size = 0
  ·have B : arr = #[] := by simp [arr, hn]
   simp [Instr.makeSlice, xt P ht, asInt, asIntOf, typeInfo, hi, hw, W, X, j, tr P hi, hn, newRow, B];have I : (Array.map (fun _ => (default : Value)) (Array.range 0)) = #[] := Array.eq_empty_of_size_eq_zero (by simp);rw [I]
  ·simp [Instr.makeSlice, xt P ht, asInt, asIntOf, typeInfo, hi, hw, W, X, j, tr P hi, hn, newRow, zeroValue, hz, arr]
   try rfl
 refine OpTo.of_run (w' := { w with heap := w.heap.push (.cells arr T (0, 0)) }) (v := .slice (some ⟨w.heap.size, 0, none⟩) k k) ?_ ⟨w.heap.size, by simp, ?_⟩
 ·simp [execOp, Y.eval Z, A]
 ·have H2 := H.alloc (.cells arr T (0, 0));have := St.slOf (l := List.replicate k z) (sc := k) H2 he (by simp) (by unfold maxLen; omega) (by simp [arr, hs]) (fun i s => by
   simp only [List.length_replicate] at s;have D : 0 < sz := by
    rcases Nat.eq_zero_or_pos sz with h | h
    ·subst h; simp at s
    ·exact h
   have hj : i / sz < (List.replicate k z).length := by simp; exact Nat.div_lt_of_lt_mul (by rw [Nat.mul_comm]; exact s)
   have hq : i % sz < sz := Nat.mod_lt _ D;have e := uA he (List.replicate k z) (i / sz) (i % sz) hj hq;have J : (i / sz) * sz + i % sz = i := by rw [Nat.mul_comm]; exact Nat.div_add_mod i sz
   rw [J] at e;rw [e];simp only [List.getElem_replicate];rw [<- U];simp only [arr, hs, y];have O : i % sz < u.cells.size := by rw [y]; exact hq
   rw [Array.getElem?_map, Array.getElem?_range];simp [s, O])
  simpa using this
end
section
open Go.Conc
variable {P : Program} {f : FuncId} {k : List Item} {a : Act} {w w0 : World} {R : Value -> World -> Prop} {ops : Array Oper} {As : List HP} {n d c cap : Nat} {L : Env} {o : Oper} {buf : List Value}
end
end
noncomputable section
structure Pd where
 i : Nat
 o : Oper
 v : Value
 obs : List Ob
def Pd.T (u : Pd) (w : World) : Prop := xu w u.obs
def xQ (e : Array Bool) : List Pd -> Array Bool
 | [] => e
 | u :: U => (xQ e U).setIfInBounds u.i true
def uh (ar : Act) : List Pd -> Act
 | [] => ar
 | u :: U => (uh ar U).put u.o.dst u.v
def sR (o : Oper) (b : Array Bool) : Prop := ∀ e ∈ o.after, Region.binds .any e = true -> b.getD e.on false = true
def elN (i : Nat) : List Nat -> Bool
 | [] => false
 | x :: l => match Nat.beq i x with
  | true => true
  | false => elN i l
theorem iI {i : Nat} : ∀ {l : List Nat}, elN i l = true -> i ∈ l
 | x :: l, h => by
  simp only [elN] at h;split at h
  ·rename_i e;rw [Nat.eq_of_beq_eq_true e]; exact List.mem_cons_self
  ·exact mC _ (iI h)
def tf (o : Oper) : List Nat := (o.after.toList.filter (Region.binds .any)).map (·.on)
def ancS (ops : Array Oper) : Nat -> List Nat -> List Nat -> List Nat
 | 0, _, seen => seen
 | n + 1, [], seen => seen
 | n + 1, j :: todo, seen => match elN j seen with
  | true => ancS ops n todo seen
  | false => match ops[j]? with
   | none => ancS ops n todo seen
   | some o => ancS ops n (tf o ++ todo) (j :: seen)
def anc (ops : Array Oper) (i j : Nat) : Bool := match ops[j]? with
 | some o => elN i (ancS ops 4000 (tf o) [])
 | none => false
def Closed (ops : Array Oper) (b : Array Bool) : Prop := ∀ x o, ops[x]? = some o -> b.getD x false = true -> sR o b
theorem jE {o : Oper} {b : Array Bool} (hp : sR o b) : ∀ x ∈ tf o, b.getD x false = true := fun x i => by
 simp only [tf, List.mem_map, List.mem_filter, Array.mem_toList_iff] at i;obtain ⟨e, ⟨he, j⟩, rfl⟩ := i;exact hp e he j
theorem nZ {ops : Array Oper} {b : Array Bool} (s : Closed ops b) : ∀ (n : Nat) (todo seen : List Nat), (∀ x ∈ todo, b.getD x false = true) -> (∀ x ∈ seen, b.getD x false = true) -> ∀ x ∈ ancS ops n todo seen, b.getD x false = true
 | 0, todo, seen, _, hs, x, e => hs x (by simpa [ancS] using e)
 | n + 1, [], seen, _, hs, x, e => hs x (by simpa [ancS] using e)
 | n + 1, j :: todo, seen, ht, hs, x, e => by
  have i : ∀ x ∈ todo, b.getD x false = true := fun y l => ht y (mC _ l)
  have hj := ht j List.mem_cons_self;simp only [ancS] at e;split at e
  ·exact nZ s n todo seen i hs x e
  ·split at e
   ·exact nZ s n todo seen i hs x e
   ·rename_i o t;refine nZ s n _ _ (fun y l => ?_) (fun y l => ?_) x e
    ·rcases List.mem_append.1 l with h | h
     ·exact jE (s j o t hj) y h
     ·exact i y h
    ·cases l with
     | head => exact hj
     | tail _ hm => exact hs y hm
theorem cI {ops : Array Oper} {b : Array Bool} (e : Closed ops b) (i j : Nat) (o : Oper) (l : ops[j]? = some o) (hp : sR o b) (h : anc ops i j = true) : b.getD i false = true := by
 simp only [anc, l] at h;exact nZ e _ _ _ (jE hp) (by simp) _ (iI h)
def tb (m i : Nat) : Bool := match Nat.land (Nat.shiftRight m i) 1 with
 | 0 => false
 | _ + 1 => true
theorem lJ (m i : Nat) : tb m i = m.testBit i := by
 have e : Nat.land (Nat.shiftRight m i) 1 = (m >>> i) &&& 1 := rfl;unfold tb;rw [e, Nat.testBit, Nat.and_comm];cases h : 1 &&& m >>> i <;> simp
def bitL (i m : Nat) : Nat := Nat.lor (Nat.shiftLeft 1 i) m
theorem eN (i m x : Nat) : tb (bitL i m) x = true ↔ x = i \/ tb m x = true := by
 have e : bitL i m = (1 <<< i) ||| m := rfl;rw [lJ, lJ, e, Nat.testBit_or, Bool.or_eq_true];have : (1 <<< i).testBit x = true ↔ x = i := by
  rw [Nat.one_shiftLeft, Nat.testBit_two_pow];simp [eq_comm]
 rw [this]
def vg : List Nat -> Nat
 | [] => 0
 | x :: l => bitL x (vg l)
theorem wX (x : Nat) : ∀ l : List Nat, tb (vg l) x = true ↔ x ∈ l
 | [] => by simp [vg, lJ]
 | y :: l => by rw [vg, eN, wX x l, iC]
def subM (a b : Nat) : Bool := Nat.beq (Nat.land a b) a
theorem rZ {l : List Nat} {m : Nat} : subM (vg l) m = true ↔ ∀ x ∈ l, tb m x = true := by
 have e : Nat.land (vg l) m = vg l &&& m := rfl;unfold subM;rw [e];refine Iff.trans ⟨Nat.eq_of_beq_eq_true, fun h => by rw [h]; exact Nat.beq_refl _⟩ ?_;constructor
 ·intro h x i;have h1 := (wX x l).2 i;rw [lJ, <- h, Nat.testBit_and, Bool.and_eq_true] at h1;rw [lJ]; exact h1.2
 ·intro h;refine Nat.eq_of_testBit_eq fun x => ?_
  rw [Nat.testBit_and];cases i : (vg l).testBit x with
  | false => rfl
  | true =>
   have := h x ((wX x l).1 (by rw [lJ]; exact i));rw [lJ] at this;rw [this]; rfl
def qO (o : Oper) : Nat := vg (tf o)
def bm (ops : Array Oper) (o : Oper) : Nat := vg (o.looksAt ops)
def dneq (x y : Oper) : Bool := match x.dst, y.dst with
 | some d, some e => match Nat.beq d e with
  | true => false
  | false => true
 | _, _ => true
def nE (ops : Array Oper) (x y : Oper) : Bool := match x.dst with
 | some d => match tb (bm ops y) d with
  | true => false
  | false => true
 | none => true
def apP (ops : Array Oper) (i j : Nat) (x y : Oper) : Bool := Nat.beq i j || (dneq x y && (tb (qO y) i || tb (qO x) j || (nE ops x y && nE ops y x)))
def ia (ops : Array Oper) (i : Nat) (x : Oper) : Nat -> List Oper -> Bool
 | _, [] => true
 | j, y :: l => apP ops i j x y && ia ops i x (j + 1) l
def gG (ops : Array Oper) : Nat -> List Oper -> Bool
 | _, [] => true
 | i, x :: l => ia ops i x 0 ops.toList && (tf x).all (fun e => Nat.blt e ops.size) && gG ops (i + 1) l
def tm (ops : Array Oper) : Bool := Region.noSelect ops && gG ops 0 ops.toList
theorem oP {ops : Array Oper} {i : Nat} {x : Oper} : ∀ (l : List Oper) (j n : Nat) (y : Oper), ia ops i x j l = true -> l[n]? = some y -> apP ops i (j + n) x y = true
 | [], j, n, y, _, h => by simp at h
 | z :: l, j, 0, y, h, e => by
  simp only [ia, Bool.and_eq_true] at h;simp at e; subst e; exact h.1
 | z :: l, j, n + 1, y, h, e => by
  simp only [ia, Bool.and_eq_true] at h;have := oP l (j + 1) n y h.2 (by simpa using e)
  rwa [Nat.add_right_comm, Nat.add_assoc] at this
theorem qV {ops : Array Oper} : ∀ (l : List Oper) (i n : Nat) (x : Oper), gG ops i l = true -> l[n]? = some x -> ia ops (i + n) x 0 ops.toList = true /\ ∀ e ∈ tf x, e < ops.size
 | [], i, n, x, _, h => by simp at h
 | z :: l, i, 0, x, h, j => by
  simp only [gG, Bool.and_eq_true, List.all_eq_true] at h;simp at j; subst j;exact ⟨h.1.1, fun e he => by simpa [Nat.blt_eq] using h.1.2 e he⟩
 | z :: l, i, n + 1, x, h, j => by
  simp only [gG, Bool.and_eq_true] at h;have := qV l (i + 1) n x h.2 (by simpa using j)
  rwa [Nat.add_right_comm, Nat.add_assoc] at this
theorem ld {x y : Oper} (h : dneq x y = true) {d : Tmp} (e : x.dst = some d) : y.dst ≠ some d := by
 intro i;simp [dneq, e, i] at h
theorem rQ {ops : Array Oper} {x y : Oper} (h : nE ops x y = true) {d : Tmp} (e : x.dst = some d) : d ∉ y.looksAt ops := by
 intro i;have := (wX d (y.looksAt ops)).2 i;simp only [nE, e, bm, this] at h;cases h
theorem nt {ops : Array Oper} (h : tm ops = true) {i j : Nat} {x y : Oper} (l : ops[i]? = some x) (s : ops[j]? = some y) (e : i ≠ j) :
  dneq x y = true /\ ((tb (qO y) i = true \/ tb (qO x) j = true) \/ nE ops x y = true /\ nE ops y x = true) := by
 simp only [tm, Bool.and_eq_true] at h;have h1 := (qV _ 0 i x h.2 (by simpa using l)).1;have h2 := oP _ 0 j y h1 (by simpa using s);simp only [apP, Bool.or_eq_true, Bool.and_eq_true, Nat.zero_add] at h2;rcases h2 with h2 | h2
 ·exact absurd (Nat.eq_of_beq_eq_true h2) e
 ·exact h2
theorem hQ {o : Oper} {i : Nat} : tb (qO o) i = true ↔ ∃ e ∈ o.after, Region.binds .any e = true /\ e.on = i := by
 rw [qO, wX, tf];simp only [List.mem_map, List.mem_filter, Array.mem_toList_iff];constructor
 ·rintro ⟨e, ⟨h1, h2⟩, h3⟩; exact ⟨e, h1, h2, h3⟩
 ·rintro ⟨e, h1, h2, h3⟩; exact ⟨e, ⟨h1, h2⟩, h3⟩
theorem sF {m i : Nat} {d : Bool} : ∀ dn : List Nat, i < m -> ((listed m dn).getD i d = true ↔ i ∈ dn) := by
 suffices ∀ (dn : List Nat) (b : Array Bool), b.size = m -> i < m -> (((dn.foldl (fun b i => b.setIfInBounds i true) b).getD i d = true) ↔ (b.getD i d = true \/ i ∈ dn)) by
  intro dn hi;have h := this dn (Array.replicate m false) (by simp) hi;rw [listed, h];simp [hi]
 intro dn;induction dn with
 | nil => intro b _ _; simp
 | cons x dn ih =>
  intro b j hi;rw [List.foldl_cons, ih _ (by simpa using j) hi];by_cases e : x = i
  ·subst e; simp [j, hi]
  ·rw [getD_set_ne d e]; simp [Ne.symm e]
theorem jR {m i : Nat} {d : Bool} (dn : List Nat) (hi : m <= i) : (listed m dn).getD i d = d := by
 have hs : (listed m dn).size = m := by
  unfold listed
  suffices ∀ b : Array Bool, (dn.foldl (fun b i => b.setIfInBounds i true) b).size = b.size by simpa using this (Array.replicate m false)
  induction dn with
  | nil => simp
  | cons x dn ih => intro b; rw [List.foldl_cons, ih]; simp
 simp [Array.getElem?_eq_none (hs ▸ hi)]
def w3 (m : Nat) : Nat -> List Oper -> List Nat
 | _, [] => []
 | i, x :: l => match tb m i with
  | true => w3 m (i + 1) l
  | false => match subM (qO x) m with
   | true => i :: w3 m (i + 1) l
   | false => w3 m (i + 1) l
theorem qR {m j : Nat} : ∀ (l : List Oper) (i : Nat), j ∈ w3 m i l ↔ ∃ n x, l[n]? = some x /\ j = i + n /\ tb m j = false /\ subM (qO x) m = true
 | [], i => by simp [w3]
 | z :: l, i => by
  have ih := qR (m := m) (j := j) l (i + 1);have s : (∃ n x, (z :: l)[n]? = some x /\ j = i + n /\ tb m j = false /\ subM (qO x) m = true) ↔ (j = i /\ tb m i = false /\ subM (qO z) m = true) \/ j ∈ w3 m (i + 1) l := by
   rw [ih];constructor
   ·rintro ⟨n, x, e, hj, h1, h2⟩;cases n with
    | zero => simp at e; subst e; left; exact ⟨hj, by rw [hj] at h1; exact h1, h2⟩
    | succ n => right; exact ⟨n, x, by simpa using e, by omega, h1, h2⟩
   ·rintro (⟨rfl, h1, h2⟩ | ⟨n, x, e, hj, h1, h2⟩)
    ·exact ⟨0, z, by simp, by simp, h1, h2⟩
    ·exact ⟨n + 1, x, by simpa using e, by omega, h1, h2⟩
  rw [s, w3];split
  ·rename_i h; simp [h]
  ·rename_i h;split
   ·rename_i h2; simp [h, h2]
   ·rename_i h2; simp [h2]
theorem ou {ops : Array Oper} (h : tm ops = true) (dn : List Nat) (j : Nat) : j ∈ w3 (vg dn) 0 ops.toList ↔ j ∈ Region.ready .any ops (listed ops.size dn) := by
 rw [qR, mem_ready];constructor
 ·rintro ⟨n, x, l, hj, h1, h2⟩;have e : n = j := by omega
  subst e;have s : ops[n]? = some x := by simpa using l
  have i : n < ops.size := (Array.getElem?_eq_some_iff.1 s).1;refine ⟨?_, x, s, fun e he u => ?_⟩
  ·cases hh : (listed ops.size dn).getD n true with
   | false => rfl
   | true =>
    have := (wX n dn).2 ((sF dn i).1 hh);rw [this] at h1; cases h1
  ·simp only [tm, Bool.and_eq_true] at h;have t : e.on ∈ tf x := by
    simp only [tf, List.mem_map, List.mem_filter, Array.mem_toList_iff];exact ⟨e, ⟨he, u⟩, rfl⟩
   have hl := (qV _ 0 n x h.2 l).2 _ t;exact (sF dn hl).2 ((wX _ dn).1 (rZ.1 h2 _ t))
 ·rintro ⟨h1, x, l, h2⟩;have i : j < ops.size := (Array.getElem?_eq_some_iff.1 l).1;refine ⟨j, x, by simpa using l, by simp, ?_, ?_⟩
  ·cases hh : tb (vg dn) j with
   | false => rfl
   | true =>
    have := (sF (d := true) dn i).2 ((wX j dn).1 hh);rw [this] at h1; cases h1
  ·refine rZ.2 fun y z => ?_
   simp only [tf, List.mem_map, List.mem_filter, Array.mem_toList_iff] at z;obtain ⟨e, ⟨he, u⟩, rfl⟩ := z;have := h2 e he u;rcases Nat.lt_or_ge e.on ops.size with hl | hl
   ·exact (wX _ dn).2 ((sF dn hl).1 this)
   ·rw [jR dn hl] at this; cases this
theorem fS {ops : Array Oper} (h : tm ops = true) {m i : Nat} {o : Oper} {dn : List Nat} (hm : ∀ x, tb m x = true ↔ x ∈ dn) (e : ops[i]? = some o) (h1 : tb m i = false) (h2 : subM (qO o) m = true) :
  i ∈ Region.ready .any ops (listed ops.size dn) := by
 refine (ou h dn i).1 ((qR _ 0).2 ⟨i, o, by simpa using e, by simp, ?_, ?_⟩)
 ·cases hh : tb (vg dn) i with
  | false => rfl
  | true => rw [(hm i).2 ((wX i dn).1 hh)] at h1; cases h1
 ·exact rZ.2 fun x j => (wX x dn).2 ((hm x).1 (rZ.1 h2 x j))
theorem o9 {ops : Array Oper} (h : tm ops = true) {dn : List Nat} : w3 (vg dn) 0 ops.toList = [] ↔ Region.ready .any ops (listed ops.size dn) = [] := by
 rw [List.eq_nil_iff_forall_not_mem, List.eq_nil_iff_forall_not_mem];exact forall_congr' fun j => not_congr (ou h dn j)
def mj (ops : Array Oper) : List Nat -> Nat -> Bool
 | [], _ => true
 | i :: is, m => match ops[i]? with
  | none => false
  | some o => match tb m i with
   | true => false
   | false => match subM (qO o) m with
    | false => false
    | true => mj ops is (bitL i m)
section
variable {P : Program} {ops : Array Oper} {Q : Exit -> Act -> World -> Prop}
def OkU (P : Program) (ops : Array Oper) (l : Array Bool) (ar : Act) : List Pd -> Prop
 | [] => True
 | u :: U => ops[u.i]? = some u.o /\ (xQ l U).getD u.i true = false /\ sR u.o (xQ l U) /\ YieldsIf P ops u.T u.o u.v (uh ar U) /\
   (∀ j s, ops[j]? = some s -> j ≠ u.i -> (xQ l U).getD j true = false -> (∀ e ∈ s.after, Region.binds .any e = true -> e.on ≠ u.i) -> u.o.apart ops s = true) /\ OkU P ops l ar U
theorem tP {b : Array Bool} {i j : Nat} (h : (b.setIfInBounds i true).getD j true = false) : b.getD j true = false := by
 by_cases e : i = j
 ·subst e;rcases Nat.lt_or_ge i b.size with l | l
  ·simp [l] at h
  ·simp [Array.getElem?_eq_none l] at h
 ·rwa [getD_set_ne true e] at h
theorem ov {e : Array Bool} {j : Nat} : ∀ {U : List Pd}, (xQ e U).getD j true = false -> e.getD j true = false
 | [], h => h
 | u :: U, h => ov (U := U) (tP h)
theorem sv {e : Array Bool} {j : Nat} (h : e.getD j false = true) : ∀ {U : List Pd}, (xQ e U).getD j false = true
 | [] => h
 | u :: U => getD_set_true (sv h)
theorem qK {b : Array Bool} {j : Nat} (h : b.getD j false = true) (h2 : b.getD j true = false) : False := by
 rcases Nat.lt_or_ge j b.size with e | e
 ·simp [e] at h h2; rw [h2] at h; cases h
 ·simp [Array.getElem?_eq_none e] at h
theorem uZ (e : Array Bool) (j : Nat) : ∀ U : List Pd, xQ (e.setIfInBounds j true) U = (xQ e U).setIfInBounds j true
 | [] => rfl
 | u :: U => by
  simp only [xQ, uZ e j U];by_cases h : u.i = j
  ·subst h; simp
  ·rw [Array.setIfInBounds_comm _ _ h]
theorem nr {u : Pd} {a : Act} {d : Option Tmp} {v : Value} (hs : Region.noSelect ops = true) (hu : ops[u.i]? = some u.o) (hd : ∀ x, d = some x -> x ∉ u.o.looksAt ops) :
  YieldsIf P ops u.T u.o u.v a ↔ YieldsIf P ops u.T u.o u.v (a.put d v) :=
 ⟨fun h => h.of_same (execOp_put u.o (fun cs b => Region.noSelect_spec hs u.i u.o cs b hu) a d v hd) (wanted_put u.o a d v hd),
  fun h => h.of_same (execOp_put u.o (fun cs b => Region.noSelect_spec hs u.i u.o cs b hu) a d v hd).symm (wanted_put u.o a d v hd).symm⟩
theorem mI {t : Array Bool} {ar : Act} {j : Nat} {y : Oper} (hj : ops[j]? = some y) (hp : sR y t) : ∀ {U : List Pd}, OkU P ops t ar U -> (xQ t U).getD j true = false -> ∀ u ∈ U, u.o.apart ops y = true
 | [], _, _, u, hu => by cases hu
 | x :: U, h, l, u, hu => by
  obtain ⟨h1, h2, h3, h4, B, D⟩ := h;have z : j ≠ x.i := by
   rintro rfl;have : x.i < ops.size := (Array.getElem?_eq_some_iff.1 hj).1;simp only [xQ] at l;rcases Nat.lt_or_ge x.i (xQ t U).size with A | A
   ·simp [A] at l
   ·simp [Array.getElem?_eq_none A] at l
  have s : (xQ t U).getD j true = false := tP l;cases hu with
  | head =>
   refine B j y hj z s fun e he F heq => ?_
   have := hp e he F;rw [heq] at this;exact qK (sv (U := U) this) h2
  | tail _ hm => exact mI hj hp D s u hm
theorem rz {d : Option Tmp} {v : Value} (ar : Act) : ∀ (U : List Pd), (∀ u ∈ U, ∀ x, u.o.dst = some x -> d ≠ some x) -> uh (ar.put d v) U = (uh ar U).put d v
 | [], _ => rfl
 | u :: U, h => by
  simp only [uh, rz ar U fun u hu => h u (mC _ hu)];exact Act.put_comm _ v u.v fun x e => by
   have := h u (by simp);intro hd;exact this x hd e
theorem mF (hs : Region.noSelect ops = true) {J : Array Bool} {ar : Act} {j : Nat} {s : Oper} (v : Value) (hj : ops[j]? = some s) : ∀ {U : List Pd}, (∀ u ∈ U, u.o.apart ops s = true) -> (∀ u ∈ U, u.i ≠ j) -> OkU P ops J ar U ->
  OkU P ops (J.setIfInBounds j true) (ar.put s.dst v) U
 | [], _, _, _ => trivial
 | u :: U, t, y, h => by
  obtain ⟨h1, h2, h3, h4, S, W⟩ := h;have O : ∀ x ∈ U, x.o.apart ops s = true := fun x l => t x (mC _ l)
  have X : ∀ x ∈ U, x.i ≠ j := fun x l => y x (mC _ l)
  have z : uh (ar.put s.dst v) U = (uh ar U).put s.dst v := rz ar U fun u hu x l => by
   have := (Oper.apart_spec (O u hu)).2.1 x l;exact this
  refine ⟨h1, ?_, ?_, ?_, ?_, mF hs v hj O X W⟩
  ·rw [uZ, getD_set_ne true (Ne.symm (y u (by simp)))]; exact h2
  ·intro e he Y;rw [uZ];exact getD_set_true (h3 e he Y)
  ·rw [z];exact (nr hs h1 fun x l => (Oper.apart_spec (t u (by simp))).2.2 x l).1 h4
  ·intro Z D F A B I;rw [uZ] at B;exact S Z D F A (tP B) I
theorem je (hs : Region.noSelect ops = true) {s : Array Bool} {ar : Act} {u : Pd} : ∀ {X Y : List Pd}, OkU P ops s ar (X ++ u :: Y) -> sR u.o s -> (∀ x ∈ X, ∀ d, x.o.dst = some d -> u.o.dst ≠ some d) ->
  OkU P ops (s.setIfInBounds u.i true) (ar.put u.o.dst u.v) (X ++ Y) /\ xQ (s.setIfInBounds u.i true) (X ++ Y) = xQ s (X ++ u :: Y) /\
  uh (ar.put u.o.dst u.v) (X ++ Y) = uh ar (X ++ u :: Y) /\ YieldsIf P ops u.T u.o u.v ar
 | [], Y, h, hp, _ => by
  simp only [List.nil_append] at h ⊢;obtain ⟨h1, h2, h3, h4, A, t⟩ := h;have j := mI (P := P) h1 hp t h2;have z : ∀ x ∈ Y, x.i ≠ u.i := by
   intro x l heq;clear j h4 A;induction Y with
   | nil => cases l
   | cons y Y ih =>
    obtain ⟨g1, g2, g3, g4, g5, g6⟩ := t;cases l with
    | head =>
     simp only [xQ] at h2;rw [heq] at h2;rcases Nat.lt_or_ge u.i (xQ s Y).size with B | B
     ·simp [B] at h2
     ·simp [Array.getElem?_eq_none B] at h2
    | tail _ hm => exact ih (tP h2) (fun e he F => sv (hp e he F)) g6 hm
  refine ⟨mF hs u.v h1 j z t, by simp [xQ, uZ], ?_, ?_⟩
  ·rw [rz ar Y fun x l d hd => (Oper.apart_spec (j x l)).2.1 d hd]; rfl
  ·clear A h2 h3 z;induction Y with
   | nil => exact h4
   | cons y Y ih =>
    obtain ⟨g1, g2, g3, g4, g5, g6⟩ := t;refine ih ?_ g6 fun x l => j x (mC _ l)
    simp only [uh] at h4;exact (nr hs h1 fun x l => (Oper.apart_spec (j y (by simp))).1 x l).2 h4
 | x :: X, Y, h, hp, hd => by
  simp only [List.cons_append] at h ⊢;obtain ⟨h1, h2, h3, h4, A, t⟩ := h;obtain ⟨I, k2, D, J⟩ := je hs t hp fun y O => hd y (mC _ O)
  refine ⟨⟨h1, by rw [k2]; exact h2, by rw [k2]; exact h3, by rw [D]; exact h4, by rw [k2]; exact A, I⟩, by simp only [xQ, k2], by simp only [uh, D], J⟩
theorem ej {i : Nat} {e : Array Bool} : ∀ {U : List Pd}, e.getD i true = false -> (xQ e U).getD i true ≠ false -> ∃ X u Y, U = X ++ u :: Y /\ u.i = i
 | [], h1, h2 => absurd h1 h2
 | u :: U, h1, h2 => by
  by_cases hu : u.i = i
  ·exact ⟨[], u, U, rfl, hu⟩
  ·simp only [xQ] at h2;rw [getD_set_ne true hu] at h2;obtain ⟨X, x, Y, rfl, j⟩ := ej h1 h2;exact ⟨u :: X, x, Y, rfl, j⟩
theorem ey {e : Array Bool} {ar : Act} : ∀ {U : List Pd}, OkU P ops e ar U -> U ≠ [] -> ∃ i, i ∈ Region.ready .any ops e
 | [], _, h => absurd rfl h
 | [u], h, _ => by
  obtain ⟨h1, h2, h3, _⟩ := h;exact ⟨u.i, mem_ready.2 ⟨h2, u.o, h1, h3⟩⟩
 | u :: x :: U, h, _ => ey (U := x :: U) h.2.2.2.2.2 (by simp)
theorem oa (h : tm ops = true) : Region.noSelect ops = true := by
 simp only [tm, Bool.and_eq_true] at h; exact h.1
theorem ib (h : tm ops = true) {i j : Nat} {x y : Oper} (l : ops[i]? = some x) (s : ops[j]? = some y) (e : i ≠ j) {d : Tmp} (hd : x.dst = some d) : y.dst ≠ some d :=
 ld (nt h l s e).1 hd
theorem nV {e : Array Bool} {ar : Act} : ∀ {U : List Pd}, OkU P ops e ar U -> ∀ u ∈ U, ops[u.i]? = some u.o /\ e.getD u.i true = false
 | [], _, u, hu => by cases hu
 | x :: U, h, u, hu => by
  cases hu with
  | head => exact ⟨h.1, ov h.2.1⟩
  | tail _ hm => exact nV h.2.2.2.2.2 u hm
theorem eJ {e : Array Bool} {ar : Act} {u : Pd} {Y : List Pd} : ∀ {X : List Pd}, OkU P ops e ar (X ++ u :: Y) -> ∀ x ∈ X, x.i ≠ u.i
 | [], _, x, j => by cases j
 | y :: X, h, x, j => by
  cases j with
  | head =>
   intro he;have h2 := h.2.1;have : (xQ e (X ++ u :: Y)).getD u.i true ≠ false := by
    clear h h2 he;induction X with
    | nil =>
     simp only [List.nil_append, xQ];intro h;rcases Nat.lt_or_ge u.i (xQ e Y).size with l | l
     ·simp [l] at h
     ·simp [Array.getElem?_eq_none l] at h
    | cons z X ih => intro h; exact ih (tP h)
   rw [he] at h2;exact this h2
  | tail _ hm => exact eJ h.2.2.2.2.2 x hm
theorem o5 {l : Array Bool} {j : Nat} {t : Oper} (y : Closed ops l) (hj : ops[j]? = some t) (hp : sR t l) : Closed ops (l.setIfInBounds j true) := by
 intro x o s ht e he u;by_cases i : j = x
 ·subst i;rw [hj] at s; cases s;exact getD_set_true (hp e he u)
 ·rw [getD_set_ne false i] at ht;exact getD_set_true (y x o s ht e he u)
theorem nk (hd : tm ops = true) (M : Pd -> Prop) {fu : Nat} {w : World} {lc : Array Bool} {ac : Act}
  (F : Region.ready .any ops lc = [] -> ∀ l ar, l = lc -> ar = ac -> wpAny P .any ops Q fu l ar w)
  (s : ∀ j B, j ∈ Region.ready .any ops lc -> ops[j]? = some B -> ∀ U l ar, (∀ u ∈ U, M u) -> (∀ u ∈ U, u.T w) -> OkU P ops l ar U -> Closed ops l -> xQ l U = lc -> uh ar U = ac -> sR B l ->
   ∃ z, fu = z + 1 /\ wpOp P ops Q j (wpAny P .any ops Q (z + U.length) (l.setIfInBounds j true)) ar w) :
  ∀ (n : Nat) (U : List Pd) (l : Array Bool) (ar : Act), U.length = n -> (∀ u ∈ U, M u) -> (∀ u ∈ U, u.T w) -> OkU P ops l ar U -> Closed ops l -> xQ l U = lc -> uh ar U = ac -> wpAny P .any ops Q (fu + U.length) l ar w := by
 intro n;induction n with
 | zero =>
  intro U l ar hn W S D I h1 h2;have J : U = [] := List.eq_nil_of_length_eq_zero hn;subst J;simp only [xQ, uh] at h1 h2;by_cases O : Region.ready .any ops lc = []
  ·exact F O l ar h1 h2
  ·obtain ⟨i, hi⟩ := List.exists_mem_of_ne_nil _ O;obtain ⟨_, oi, Z, a0⟩ := mem_ready.1 hi;obtain ⟨z, rfl, _⟩ := s i oi hi Z [] l ar (by simp) (by simp) trivial I h1 h2 (by rw [h1]; exact a0);simp only [List.length_nil, Nat.add_zero];refine ⟨fun h => absurd (h1 ▸ h) O, fun j hj => ?_⟩;rw [h1] at hj;obtain ⟨_, B, t, y⟩ := mem_ready.1 hj;obtain ⟨a5, he, hw⟩ := s j B hj t [] l ar (by simp) (by simp) trivial I h1 h2 (by rw [h1]; exact y);cases he;simpa using hw
 | succ n ih =>
  intro U l ar hn W S D I h1 h2;have a1 : U ≠ [] := by intro h; subst h; simp at hn
  have e : fu + U.length = (fu + n) + 1 := by omega
  rw [e];refine ⟨fun h => ?_, fun j hj => ?_⟩
  ·obtain ⟨i, hi⟩ := ey D a1;rw [h] at hi; cases hi
  ·obtain ⟨a2, B, t, y⟩ := mem_ready.1 hj;by_cases hl : (xQ l U).getD j true = false
   ·have O : j ∈ Region.ready .any ops lc := mem_ready.2 ⟨by rw [<- h1]; exact hl, B, t, fun e he hb => by rw [<- h1]; exact sv (y e he hb)⟩;obtain ⟨z, he, hw⟩ := s j B O t U l ar W S D I h1 h2 y;have : fu + n = z + U.length := by omega
    rw [this]; exact hw
   ·obtain ⟨X, u, Y, rfl, rfl⟩ := ej a2 hl;have hu := nV D u (by simp);rw [hu.1] at t; cases t;obtain ⟨k1, k2, k3, k4⟩ := je (oa hd) D y fun x A d a3 => ib hd (nV D x (by simp [A])).1 hu.1 (eJ D x A) a3
    refine k4.wpOp hu.1 (S u (by simp)) ?_;have := ih (X ++ Y) (l.setIfInBounds u.i true) (ar.put u.o.dst u.v) (by simp at hn ⊢; omega) (fun x A => W x (by simp at A ⊢; rcases A with h | h <;> simp [h])) (fun x A => S x (by simp at A ⊢; rcases A with h | h <;> simp [h])) k1 (o5 I hu.1 y) (k2.trans h1) (k3.trans h2);have e2 : fu + n = fu + (X ++ Y).length := by simp at hn ⊢; omega
    rw [e2]; exact this
def WP (P : Program) (f : FuncId) (ops : Array Oper) (fu : Nat) (dn : List Nat) (pend : List (Nat × List Ob)) (k : List Item) (a : Act) (w : World) (R : Value -> World -> Prop) : Prop :=
 ∀ (U : List Pd) (e : Array Bool) (ar : Act), (∀ u ∈ U, u.obs = [] \/ (u.i, u.obs) ∈ pend) -> (∀ u ∈ U, u.T w) -> OkU P ops e ar U -> Closed ops e -> xQ e U = listed ops.size dn -> uh ar U = a ->
  wpAny P .any ops (RQ P f k R) (fu + U.length) e ar w
def td (ops : Array Oper) (j : Nat) : List (Nat × List Ob) -> List Ob
 | [] => []
 | (i, obs) :: r => match anc ops i j with
  | true => td ops j r
  | false => obs ++ td ops j r
def rW (ops : Array Oper) (j : Nat) : List (Nat × List Ob) -> List (Nat × List Ob)
 | [] => []
 | (i, obs) :: r => match anc ops i j with
  | true => rW ops j r
  | false => (i, obs) :: rW ops j r
theorem p7 {j i : Nat} {obs : List Ob} (h : anc ops i j = false) : ∀ {pend : List (Nat × List Ob)}, (i, obs) ∈ pend -> (i, obs) ∈ rW ops j pend
 | (e, o') :: r, hm => by
  simp only [rW];cases hm with
  | head => rw [h]; exact List.mem_cons_self
  | tail _ hm =>
   split
   ·exact p7 h hm
   ·exact mC _ (p7 h hm)
theorem qY {w : World} {j i : Nat} {obs : List Ob} (h : anc ops i j = false) : ∀ {pend : List (Nat × List Ob)}, xu w (td ops j pend) -> (i, obs) ∈ pend -> xu w obs
 | (e, o') :: r, ha, hm => by
  simp only [td] at ha;cases hm with
  | head => rw [h] at ha; exact (xR.1 ha).1
  | tail _ hm =>
   split at ha
   ·exact qY h ha hm
   ·exact qY h (xR.1 ha).2 hm
section
variable {f : FuncId} {k : List Item} {a : Act} {w : World} {R : Value -> World -> Prop} {fu : Nat} {dn : List Nat} {pend : List (Nat × List Ob)}
theorem Runs.ai {id : Nat} (hm : P.follows .mixedOrders = true) (h : WP P f ops ops.size [] [] k a { w with drawn := w.drawn + 1 } R) : Runs P f (.code (.region id ops true) :: k) a w R := by
 refine Runs.of_wp (wp_region_any hm ?_);have := h [] (Array.replicate ops.size false) a (by simp) (by simp) trivial (fun x o i ht => by
  rcases Nat.lt_or_ge x ops.size with e | e
  ·simp [e] at ht
  ·simp only [Array.getD_eq_getD_getElem?, Array.getElem?_replicate] at ht;split at ht <;> simp at ht) rfl rfl
 simpa using this
theorem WP.done (hs : tm ops = true) (e : w3 (vg dn) 0 ops.toList = []) (h : Runs P f k a w R) : WP P f ops fu dn pend k a w R := by
 have l := (o9 hs).1 e;intro U s ar _ t u x h1 h2;refine nk hs (fun _ => True) (fun _ s ar y z => ?_) (fun j A hj => by rw [l] at hj; cases hj) _ U s ar rfl (fun _ _ => trivial) t u x h1 h2;subst y; subst z;cases fu with
 | zero => exact ⟨l, h⟩
 | succ fu => exact ⟨fun _ => h, fun i hi => by rw [l] at hi; cases hi⟩
theorem WP.take {i : Nat} {o : Oper} {v : Value} {obs : List Ob} (x : tm ops = true) (hi : ops[i]? = some o) (O : i ∈ Region.ready .any ops (listed ops.size dn))
  (S : YieldsIf P ops (fun w => xu w obs) o v a) (W : xu w obs) (h : WP P f ops fu (dn ++ [i]) ((i, obs) :: pend) k (a.put o.dst v) w R) : WP P f ops (fu + 1) dn pend k a w R := by
 intro U X ar hp Y Z hc h1 h2;obtain ⟨A, o', y, z⟩ := mem_ready.1 O;rw [hi] at y; cases y;have s : ∀ j t, ops[j]? = some t -> j ≠ i -> (listed ops.size dn).getD j true = false -> (∀ e ∈ t.after, Region.binds .any e = true -> e.on ≠ i) -> o.apart ops t = true := by
  intro j t hj B D F;obtain ⟨hd, hp⟩ := nt x hi hj (Ne.symm B);rcases hp with (hp | hp) | ⟨hp, hq⟩
  ·obtain ⟨e, he, I, rfl⟩ := hQ.1 hp;exact absurd rfl (F e he I)
  ·obtain ⟨e, he, I, rfl⟩ := hQ.1 hp;have := z e he I;exact (qK this D).elim
  ·unfold Oper.apart;cases J : o.dst with
   | none =>
    cases l : t.dst with
    | none => rfl
    | some d => simpa using rQ hq l
   | some d =>
    have g1 := rQ hp J;have g2 := ld hd J;cases l : t.dst with
    | none => simp [g1]
    | some e => rw [l] at g2; simp only [ne_eq, Option.some.injEq] at g2; simpa [g1, g2] using rQ hq l
 have := h (⟨i, o, v, obs⟩ :: U) X ar (fun u hu => by
   cases hu with
   | head => right; simp
   | tail _ hm => rcases hp u hm with h | h; exact .inl h; exact .inr (mC _ h)) (fun u hu => by
   cases hu with
   | head => exact W
   | tail _ hm => exact Y u hm) ⟨hi, by rw [h1]; exact A, by rw [h1]; exact z, by rw [h2]; exact S, by rw [h1]; exact s, Z⟩ hc (by rw [oo, <- h1]; rfl) (by simp only [uh, h2])
 simp only [lC] at this;have e : fu + 1 + U.length = fu + (U.length + 1) := by omega
 rw [e]; exact this
def segP (P : Program) (n : Nat) (ops : Array Oper) : List Nat -> Env -> List Value -> List (Nat × List Ob) -> List (Nat × List Ob)
 | [], L, _, pend => pend
 | i :: is, L, j, pend => match ops[i]? with
  | none => pend
  | some o => match vP ops L o with
   | none => pend
   | some false => match setE n o.dst undef L with
    | some l => segP P n ops is l j pend
    | none => pend
   | some true => match evOp P L o j with
    | none => pend
    | some (v, obs, e) => match setE n o.dst v L with
     | none => pend
     | some l => match obs with
      | [] => segP P n ops is l e pend
      | b :: s => segP P n ops is l e ((i, b :: s) :: pend)
theorem WP.weaken {e : List (Nat × List Ob)} (j : ∀ i obs, obs ≠ [] -> (i, obs) ∈ e -> (i, obs) ∈ pend) (h : WP P f ops fu dn pend k a w R) : WP P f ops fu dn e k a w R := by
 intro U l ar hp s t x h1 h2;refine h U l ar (fun u hu => ?_) s t x h1 h2;rcases hp u hu with h | h
 ·exact .inl h
 ·by_cases he : u.obs = []
  ·exact .inl he
  ·exact .inr (j _ _ he h)
theorem WP.segs {n : Nat} (t : tm ops = true) : ∀ (is : List Nat) (fu m : Nat) (dn : List Nat) (pend : List (Nat × List Ob)) (a : Act) (L : Env) (j : List Value) (L' : Env) (obs : List Ob), zV n a L -> (∀ x, tb m x = true ↔ x ∈ dn) ->
  mj ops is m = true -> rX P n ops is L j = some (L', obs) -> xu w obs ->
  (∀ a', zV n a' L' -> WP P f ops fu (dn ++ is) (segP P n ops is L j pend) k a' w R) -> WP P f ops (is.length + fu) dn pend k a w R := by
 intro is;induction is with
 | nil => intro fu m dn pend a L j L' obs y _ _ h _ hk; simp [rX] at h; obtain ⟨rfl, rfl⟩ := h; simpa [segP] using hk a y
 | cons i is ih =>
  intro fu m dn pend a L j L' obs y hm ht h F hk;obtain ⟨o0, W, X, Y, I⟩ : ∃ o, ops[i]? = some o /\ tb m i = false /\ subM (qO o) m = true /\ mj ops is (bitL i m) = true := by
   simp only [mj] at ht;split at ht
   ·cases ht
   ·rename_i o F;split at ht
    ·cases ht
    ·rename_i h1;split at ht
     ·cases ht
     ·rename_i h2;exact ⟨o, F, h1, h2, ht⟩
  have z := fS t hm W X Y;have J : ∀ x, tb (bitL i m) x = true ↔ x ∈ dn ++ [i] := fun x => by
   rw [eN, hm, iA, List.mem_singleton, or_comm]
  have Z : (i :: is).length + fu = (is.length + fu) + 1 := by simp; omega
  rw [Z];simp only [rX] at h;split at h
  ·cases h
  ·rename_i o u;split at h
   ·cases h
   ·rename_i hw;split at h
    ·rename_i O l;have e : ∀ pend, segP P n ops (i :: is) L j pend = segP P n ops is O j pend := fun pend => by simp [segP, u, hw, l]
     refine WP.take t u z (obs := []) (v := undef) (.inr ⟨xA y hw, rfl⟩) trivial ?_;refine WP.weaken (pend := pend) (fun i' U S hm => by
      cases hm with
      | head => exact absurd rfl S
      | tail _ hm => exact hm) ?_
     exact ih fu _ (dn ++ [i]) pend _ O j L' obs (sj y l) J I h F fun a2 h2 => by have := hk a2 h2; rw [e] at this; simpa using this
    ·cases h
   ·rename_i hw;split at h
    ·cases h
    ·rename_i v A s hv;split at h
     ·cases h
     ·rename_i O l;split at h
      ·rename_i L2 B D;cases h;rw [xR] at F;refine WP.take t u z (obs := A) (v := v) (.inl ⟨xA y hw, fun w hw => nC y hv hw⟩) F.1 ?_;cases A with
       | nil =>
        have e : ∀ pend, segP P n ops (i :: is) L j pend = segP P n ops is O s pend := fun pend => by simp [segP, u, hw, hv, l]
        refine WP.weaken (pend := pend) (fun i' U S hm => by
         cases hm with
         | head => exact absurd rfl S
         | tail _ hm => exact hm) ?_
        exact ih fu _ (dn ++ [i]) pend _ O s _ B (sj y l) J I D F.2 fun a2 h2 => by have := hk a2 h2; rw [e] at this; simpa using this
       | cons b bs =>
        have e : ∀ pend, segP P n ops (i :: is) L j pend = segP P n ops is O s ((i, b :: bs) :: pend) := fun pend => by simp [segP, u, hw, hv, l]
        exact ih fu _ (dn ++ [i]) ((i, b :: bs) :: pend) _ O s _ B (sj y l) J I D F.2 fun a2 h2 => by have := hk a2 h2; rw [e] at this; simpa using this
      ·cases h
theorem WP.seg {n : Nat} {L : Env} (e : tm ops = true) (u : zV n a L) (is : List Nat) (i : List Value) (ks : List Nat) {Lo : Env} {obs : List Ob}
  (ht : mj ops is (vg dn) = true) (he : p4 P n ops is L i ks = some (Lo, obs)) (y : xu w obs)
  (hk : ∀ l, zV n l Lo -> WP P f ops fu (dn ++ is) (segP P n ops is L i pend) k l w R) : WP P f ops (is.length + fu) dn pend k a w R := by
 unfold p4 at he;split at he
 ·cases he
 ·rename_i A t hs;split at he
  ·rename_i z j;cases he;exact WP.segs e _ _ _ _ _ _ _ _ _ _ u (fun x => wX x dn) ht hs y fun l s => hk l (tW s j)
  ·cases he
theorem ow {ar : Act} {o : Oper} (e : ∀ cs b, o.op ≠ .select cs b) : ∀ {U : List Pd}, (∀ u ∈ U, ∀ d, u.o.dst = some d -> d ∉ o.looksAt ops) -> execOp (uh ar U).eval o = execOp ar.eval o /\ Region.wanted o (yielded ops (uh ar U).tmps) = Region.wanted o (yielded ops ar.tmps)
 | [], _ => ⟨rfl, rfl⟩
 | u :: U, h => by
  obtain ⟨h1, h2⟩ := ow (ar := ar) e fun x i => h x (mC _ i)
  exact ⟨(execOp_put o e _ _ _ (h u (by simp))).trans h1, (wanted_put o _ _ _ (h u (by simp))).trans h2⟩
def ActP (P : Program) (f : FuncId) (ops : Array Oper) (fu : Nat) (dn : List Nat) (pend : List (Nat × List Ob)) (k : List Item) (a : Act) (w : World) (R : Value -> World -> Prop) (j : Nat) : Prop :=
 ∃ (o : Oper) (e : Value -> World -> Prop), ops[j]? = some o /\ Region.wanted o (yielded ops a.tmps) = true /\ OpTo P o a w e /\ ∀ v w', e v w' -> xu w' (td ops j pend) /\ WP P f ops fu (dn ++ [j]) (rW ops j pend) k (a.put o.dst v) w' R
theorem WP.acts (hs : tm ops = true) {rs : List Nat} (hr : w3 (vg dn) 0 ops.toList = rs) (t : rs ≠ []) (hA : ∀ j ∈ rs, ActP P f ops fu dn pend k a w R j) : WP P f ops (fu + 1) dn pend k a w R := by
 intro U D ar hp W B O h1 h2;refine nk hs (fun u => u.obs = [] \/ (u.i, u.obs) ∈ pend) (fun h => absurd (hr.symm.trans ((o9 hs).2 h)) t) (fun y S F I U D ar Z W B O h1 h2 A => ?_) _ U D ar rfl hp W B O h1 h2;refine ⟨fu, rfl, ?_⟩;have l := (mem_ready.1 F).1;obtain ⟨o, Rv, hi, hw, h, hk⟩ := hA y (hr ▸ (ou hs dn y).2 F);have a0 : S = o := by rw [hi] at I; exact (Option.some.inj I).symm
 subst a0;rw [<- h1] at l;have s := mI (P := P) hi A B l;have J : ∀ cs b, S.op ≠ .select cs b := fun cs b => Region.noSelect_spec (oa hs) y S cs b hi
 obtain ⟨e1, e2⟩ := ow (ops := ops) (ar := ar) J fun u hu d hd => (Oper.apart_spec (s u hu)).1 d hd
 rw [h2] at e1 e2;unfold wpOp;simp only [hi, <- e2, hw, if_true];refine .inl (h.wp e1 fun v w' hv => ?_);obtain ⟨k1, k2⟩ := hk v w' hv;have e : ∀ u ∈ U, anc ops u.i y = false := fun u hu => by
  cases hA : anc ops u.i y with
  | false => rfl
  | true =>
   have t1 := cI O _ _ _ hi A hA;exact (qK t1 (nV B u hu).2).elim
 have t : ∀ u ∈ U, u.i ≠ y := fun u hu he => by
  obtain ⟨X, Y, rfl⟩ := List.append_of_mem hu;have : (xQ D (X ++ u :: Y)).getD u.i true ≠ false := by
   clear l s e1 e2 e hu Z W B h1 h2;induction X with
   | nil =>
    simp only [List.nil_append, xQ];intro h;rcases Nat.lt_or_ge u.i (xQ D Y).size with h' | h'
    ·simp [h'] at h
    ·simp [Array.getElem?_eq_none h'] at h
   | cons z X ih => intro h; exact ih (tP h)
  rw [he] at this;exact this l
 refine k2 U (D.setIfInBounds y true) (ar.put S.dst v) (fun u hu => ?_) (fun u hu => ?_) (mF (oa hs) v hi s t B) (o5 O hi A) (by rw [uZ, h1, oo]) (by rw [rz ar U fun u hu x hx => (Oper.apart_spec (s u hu)).2.1 x hx, h2])
 ·rcases Z u hu with h | h
  ·exact .inl h
  ·exact .inr (p7 (e u hu) h)
 ·rcases Z u hu with h | h
  ·unfold Pd.T; rw [h]; trivial
  ·exact qY (e u hu) k1 h
def eqL : List Nat -> List Nat -> Bool
 | [], [] => true
 | x :: l, y :: r => match Nat.beq x y with
  | true => eqL l r
  | false => false
 | _, _ => false
theorem lD : ∀ {l r : List Nat}, eqL l r = true -> l = r
 | [], [], _ => rfl
 | x :: l, y :: r, h => by
  simp only [eqL] at h;split at h
  ·rename_i e;rw [Nat.eq_of_beq_eq_true e, lD h]
  ·cases h
theorem WP.effG {j : Nat} {o : Oper} {i : Value -> World -> Prop} (hs : tm ops = true) (l : w3 (vg dn) 0 ops.toList = [j]) (hi : ops[j]? = some o)
  (hw : Region.wanted o (yielded ops a.tmps) = true) (h : OpTo P o a w i) (hk : ∀ v w', i v w' -> xu w' (td ops j pend) /\ WP P f ops fu (dn ++ [j]) (rW ops j pend) k (a.put o.dst v) w' R) : WP P f ops (fu + 1) dn pend k a w R :=
 WP.acts hs l (by simp) fun s e => by
  simp only [List.mem_singleton] at e;subst e;exact ⟨o, i, hi, hw, h, hk⟩
theorem WP.eff {j n d : Nat} {L : Env} {o : Oper} {i : Value -> World -> Prop} {obs : List Ob} (l : zV n a L) (hs : tm ops = true) (t : eqL (w3 (vg dn) 0 ops.toList) [j] = true) (hi : ops[j]? = some o) (hd : o.dst = some d) (hn : Nat.blt d n = true)
  (hw : vP ops L o = some true) (e : td ops j pend = obs) (h : OpTo P o a w i) (hk : ∀ v w', i v w' -> xu w' obs /\ ∀ s, zV n s ((d, v) :: L) -> WP P f ops fu (dn ++ [j]) (rW ops j pend) k s w' R) : WP P f ops (fu + 1) dn pend k a w R := by
 refine WP.effG hs (lD t) hi (xA l hw) h fun v w' hv => ?_
 obtain ⟨h1, h2⟩ := hk v w' hv;exact ⟨by rw [e]; exact h1, h2 _ (by rw [hd]; exact l.put _ _ (by simpa [Nat.blt_eq] using hn))⟩
theorem WP.eff0 {j n : Nat} {L : Env} {o : Oper} {i : Value -> World -> Prop} {obs : List Ob} (l : zV n a L) (hs : tm ops = true) (t : eqL (w3 (vg dn) 0 ops.toList) [j] = true) (hi : ops[j]? = some o) (hd : o.dst = none)
  (hw : vP ops L o = some true) (e : td ops j pend = obs) (h : OpTo P o a w i) (hk : ∀ v w', i v w' -> xu w' obs /\ ∀ s, zV n s L -> WP P f ops fu (dn ++ [j]) (rW ops j pend) k s w' R) : WP P f ops (fu + 1) dn pend k a w R := by
 refine WP.effG hs (lD t) hi (xA l hw) h fun v w' hv => ?_
 obtain ⟨h1, h2⟩ := hk v w' hv;exact ⟨by rw [e]; exact h1, h2 _ (by rw [hd]; exact l)⟩
def WQ (P : Program) (f : FuncId) (ops : Array Oper) (dn : List Nat) (pend : List (Nat × List Ob)) (k : List Item) (a : Act) (w : World) (R : Value -> World -> Prop) : Prop :=
 tm ops = true -> WP P f ops (ops.size - dn.length) dn pend k a w R
theorem Runs.drawn {id : Nat} (hm : P.follows .mixedOrders = true) (hs : tm ops = true) (h : WQ P f ops [] [] k a { w with drawn := w.drawn + 1 } R) : Runs P f (.code (.region id ops true) :: k) a w R := Runs.ai hm (by simpa [WQ] using h hs)
theorem WQ.done (e : eqL (w3 (vg dn) 0 ops.toList) [] = true) (h : Runs P f k a w R) : WQ P f ops dn pend k a w R := fun hs =>
 WP.done hs (lD e) h
theorem WQ.seg {n : Nat} {L : Env} (l : zV n a L) (is : List Nat) (i : List Value) (ks : List Nat) {Lo : Env} {obs : List Ob}
  (ht : (Nat.ble (dn.length + is.length) ops.size && mj ops is (vg dn)) = true) (he : p4 P n ops is L i ks = some (Lo, obs)) (s : xu w obs)
  (hk : ∀ j, zV n j Lo -> WQ P f ops (dn ++ is) (segP P n ops is L i pend) k j w R) : WQ P f ops dn pend k a w R := by
 simp only [Bool.and_eq_true] at ht;have hle := Nat.le_of_ble_eq_true ht.1;have e : ops.size - dn.length = is.length + (ops.size - (dn ++ is).length) := by simp; omega
 unfold WQ;rw [e];intro hs;exact WP.seg hs l is i ks ht.2 he s fun a ha => hk a ha hs
theorem WQ.eff {j n d : Nat} {L : Env} {o : Oper} {s : Value -> World -> Prop} {obs : List Ob} (u : zV n a L) (i : (Nat.blt dn.length ops.size && eqL (w3 (vg dn) 0 ops.toList) [j]) = true) (hi : ops[j]? = some o) (hd : o.dst = some d) (hn : Nat.blt d n = true)
  (hw : vP ops L o = some true) (l : td ops j pend = obs) (h : OpTo P o a w s) (hk : ∀ v w', s v w' -> xu w' obs /\ ∀ t, zV n t ((d, v) :: L) -> WQ P f ops (dn ++ [j]) (rW ops j pend) k t w' R) : WQ P f ops dn pend k a w R := by
 rw [Bool.and_eq_true] at i;have x : dn.length < ops.size := by simpa [Nat.blt_eq] using i.1
 have e : ops.size - dn.length = (ops.size - (dn ++ [j]).length) + 1 := by simp; omega
 unfold WQ;rw [e];intro hs;exact WP.eff u hs i.2 hi hd hn hw l h fun v w' hv => ⟨(hk v w' hv).1, fun a ha => (hk v w' hv).2 a ha hs⟩
theorem WQ.eff0 {j n : Nat} {L : Env} {o : Oper} {s : Value -> World -> Prop} {obs : List Ob} (u : zV n a L) (i : (Nat.blt dn.length ops.size && eqL (w3 (vg dn) 0 ops.toList) [j]) = true) (hi : ops[j]? = some o) (hd : o.dst = none)
  (hw : vP ops L o = some true) (l : td ops j pend = obs) (h : OpTo P o a w s) (hk : ∀ v w', s v w' -> xu w' obs /\ ∀ t, zV n t L -> WQ P f ops (dn ++ [j]) (rW ops j pend) k t w' R) : WQ P f ops dn pend k a w R := by
 rw [Bool.and_eq_true] at i;have x : dn.length < ops.size := by simpa [Nat.blt_eq] using i.1
 have e : ops.size - dn.length = (ops.size - (dn ++ [j]).length) + 1 := by simp; omega
 unfold WQ;rw [e];intro hs;exact WP.eff0 u hs i.2 hi hd hw l h fun v w' hv => ⟨(hk v w' hv).1, fun a ha => (hk v w' hv).2 a ha hs⟩
def AQ (P : Program) (f : FuncId) (ops : Array Oper) (dn : List Nat) (pend : List (Nat × List Ob)) (k : List Item) (a : Act) (w : World) (R : Value -> World -> Prop) (j : Nat) : Prop :=
 tm ops = true -> ActP P f ops (ops.size - (dn.length + 1)) dn pend k a w R j
theorem WQ.acts (rs : List Nat) (i : (Nat.blt dn.length ops.size && eqL (w3 (vg dn) 0 ops.toList) rs) = true) (l : rs ≠ []) (hA : ∀ j ∈ rs, AQ P f ops dn pend k a w R j) : WQ P f ops dn pend k a w R := by
 rw [Bool.and_eq_true] at i;have s : dn.length < ops.size := by simpa [Nat.blt_eq] using i.1
 have e : ops.size - dn.length = (ops.size - (dn.length + 1)) + 1 := by omega
 unfold WQ;rw [e];exact fun hs => WP.acts hs (lD i.2) l fun j hj => hA j hj hs
theorem WQ.act2 (i j : Nat) (l : (Nat.blt dn.length ops.size && eqL (w3 (vg dn) 0 ops.toList) [i, j]) = true) (h1 : AQ P f ops dn pend k a w R i) (h2 : AQ P f ops dn pend k a w R j) : WQ P f ops dn pend k a w R :=
 WQ.acts [i, j] l (by simp) fun x e => by
  simp only [iC, List.not_mem_nil, or_false] at e;rcases e with rfl | rfl
  ·exact h1
  ·exact h2
theorem WQ.act3 (i j l : Nat) (s : (Nat.blt dn.length ops.size && eqL (w3 (vg dn) 0 ops.toList) [i, j, l]) = true) (h1 : AQ P f ops dn pend k a w R i) (h2 : AQ P f ops dn pend k a w R j) (h3 : AQ P f ops dn pend k a w R l) : WQ P f ops dn pend k a w R :=
 WQ.acts [i, j, l] s (by simp) fun x e => by
  simp only [iC, List.not_mem_nil, or_false] at e;rcases e with rfl | rfl | rfl
  ·exact h1
  ·exact h2
  ·exact h3
theorem AQ.eff {j n d : Nat} {L : Env} {o : Oper} {e : Value -> World -> Prop} {obs : List Ob} (l : zV n a L) (hi : ops[j]? = some o) (hd : o.dst = some d) (hn : Nat.blt d n = true)
  (hw : vP ops L o = some true) (i : td ops j pend = obs) (h : OpTo P o a w e) (hk : ∀ v w', e v w' -> xu w' obs /\ ∀ s, zV n s ((d, v) :: L) -> WQ P f ops (dn ++ [j]) (rW ops j pend) k s w' R) : AQ P f ops dn pend k a w R j := by
 refine fun hs => ⟨o, e, hi, xA l hw, h, fun v w' hv => ?_⟩
 obtain ⟨h1, h2⟩ := hk v w' hv;refine ⟨by rw [i]; exact h1, ?_⟩;have := h2 (a.put o.dst v) (by rw [hd]; exact l.put _ _ (by simpa [Nat.blt_eq] using hn));unfold WQ at this;simpa using this hs
theorem AQ.eff0 {j n : Nat} {L : Env} {o : Oper} {e : Value -> World -> Prop} {obs : List Ob} (l : zV n a L) (hi : ops[j]? = some o) (hd : o.dst = none)
  (hw : vP ops L o = some true) (i : td ops j pend = obs) (h : OpTo P o a w e) (hk : ∀ v w', e v w' -> xu w' obs /\ ∀ s, zV n s L -> WQ P f ops (dn ++ [j]) (rW ops j pend) k s w' R) : AQ P f ops dn pend k a w R j := by
 refine fun hs => ⟨o, e, hi, xA l hw, h, fun v w' hv => ?_⟩
 obtain ⟨h1, h2⟩ := hk v w' hv;refine ⟨by rw [i]; exact h1, ?_⟩;have := h2 (a.put o.dst v) (by rw [hd]; exact l);unfold WQ at this;simpa using this hs
end
end
end
noncomputable section
theorem oL {α : Type} {enc : α -> List Value} {sz : Nat} (he : we enc sz) {z : α} {j : Array Value} (hz : j.toList = enc z) (n : Nat) : (Builtin.zeroCells j n).toList = (List.replicate n z).flatMap enc := by
 have hs : j.size = sz := by rw [<- Array.length_toList, hz, he.len]
 apply List.ext_getElem?;intro i;simp only [Builtin.zeroCells, Array.toList_map, Array.toList_range, List.getElem?_map, hs];by_cases h : i < n * sz
 ·have h0 : 0 < sz := by
   rcases Nat.eq_zero_or_pos sz with e | e
   ·subst e; simp at h
   ·exact e
  have hj : i / sz < n := (Nat.div_lt_iff_lt_mul h0).2 h;have l := uA he (List.replicate n z) (i / sz) (i % sz) (by simpa using hj) (Nat.mod_lt _ h0);rw [Nat.mul_comm, Nat.div_add_mod] at l;rw [l, List.getElem?_range h];simp only [Option.map_some, List.getElem_replicate];have hm : i % sz < j.size := by rw [hs]; exact Nat.mod_lt _ h0
  rw [getElem!_pos j _ hm, <- hz];simp [hm]
 ·rw [List.getElem?_eq_none (by simp; omega), List.getElem?_eq_none (by rw [yi he]; simp; omega)]
  rfl
theorem fE {α : Type} {enc : α -> List Value} {sz : Nat} (he : we enc sz) (l e : List α) (lo : Nat) (h : lo + e.length <= l.length) (cs : List Value) (off : Nat) (y : off + l.length * sz <= cs.length)
  (z : ∀ i, i < l.length * sz -> cs[off + i]? = (l.flatMap enc)[i]?) :
  ∀ i, i < l.length * sz -> (putAt cs (off + lo * sz) (e.flatMap enc))[off + i]? = ((l.take lo ++ (e ++ l.drop (lo + e.length))).flatMap enc)[i]? := by
 intro i hi;have h1 : (lo + e.length) * sz <= l.length * sz := Nat.mul_le_mul_right _ h;rw [Nat.add_mul] at h1;have j := yi he e;have s : ((l.take lo).flatMap enc).length = lo * sz := by rw [yi he, List.length_take, Nat.min_eq_left (by omega)]
 have A : ((l.drop (lo + e.length)).flatMap enc).length = l.length * sz - (lo + e.length) * sz := by rw [yi he, List.length_drop, Nat.sub_mul]
 have x : l.flatMap enc = (l.take lo).flatMap enc ++ (l.drop lo).flatMap enc := by rw [<- List.flatMap_append, List.take_append_drop]
 have t : l.flatMap enc = (l.take (lo + e.length)).flatMap enc ++ (l.drop (lo + e.length)).flatMap enc := by rw [<- List.flatMap_append, List.take_append_drop]
 have u : ((l.take (lo + e.length)).flatMap enc).length = lo * sz + e.length * sz := by rw [yi he, List.length_take, Nat.min_eq_left (by omega), Nat.add_mul]
 rw [vK _ _ _ (by rw [j]; omega), List.flatMap_append, List.flatMap_append];by_cases D : i < lo * sz
 ·rw [aA, List.getElem?_append_left (by rw [List.length_take]; omega), List.getElem?_take, if_pos (by omega), z i hi, x, List.getElem?_append_left (by omega), List.getElem?_append_left (by omega)]
 ·by_cases F : i < lo * sz + e.length * sz
  ·rw [List.getElem?_append_left (by simp only [lA, List.length_take, j]; omega), List.getElem?_append_right (by rw [List.length_take]; omega),
    List.getElem?_append_right (by omega), List.getElem?_append_left (by rw [s, j]; omega)]
   congr 1;rw [List.length_take, s]; omega
  ·rw [List.getElem?_append_right (by simp only [lA, List.length_take, j]; omega), List.getElem?_append_right (by omega), List.getElem?_append_right (by rw [s, j]; omega), List.getElem?_drop];have B : off + lo * sz + (e.flatMap enc).length + (off + i - (List.take (off + lo * sz) cs ++ e.flatMap enc).length) = off + i := by
    simp only [lA, List.length_take, j]; omega
   rw [B, z i hi, t, List.getElem?_append_right (by omega)];congr 1;rw [s, j, u]; omega
def sL {α : Type} (l : List α) (lo : Int) (z : α) : List α := l.take lo.toNat ++ (List.replicate (l.length - lo.toNat) z ++ [])
theorem qH {α : Type} {l : List α} {lo : Int} {z : α} {r : List α} (e : mCut l lo (l.length : Int) = some r) : (sL l lo z).length = l.length := by
 obtain ⟨h1, h2⟩ := nU e;simp [sL]; omega
section
variable {α : Type} {T : TypeId} {enc : α -> List Value} {sz : Nat} {w0 w : World} {As : List HP} {P : Program}
theorem OpTo.gD {n : Nat} {a : Act} {L : Env} {o : Oper} {t : TypeId} {sb sb' : Option Addr} {sc sc' : Nat} {l r : List α} {lo : Int} {z : α} {x : Operand} {ti : TypeInfo} {J : Value} (I : zV n a L) (H : St w0 (Sl T enc sz sb sc l :: As) w) (he : we enc sz)
  (O : mCut l lo (l.length : Int) = some r) (y : ym sb sc lo.toNat sz = sb') (a1 : sc - lo.toNat = sc') (Z : o.op = .call { callee := .builtin .clear, args := #[x], argTypes := #[t] }) (A : evO L x = some (.slice sb' r.length sc'))
  (ht : P.underlying t = some (.slice T)) (hi : P.info? T = some ti) (hz : ti.zero = some J) (S : J.cells.toList = enc z) :
  OpTo P o a w fun v w' => v = .tuple #[] /\ St w0 (Sl T enc sz sb sc (sL l lo z) :: As) w' := by
 obtain ⟨dst, op, type, pos, after, guard⟩ := o;simp only at Z;subst Z;have hlen := s6 O;obtain ⟨a2, a3⟩ := nU O;have j : sL l lo z = l.take lo.toNat ++ (List.replicate r.length z ++ l.drop (lo.toNat + (List.replicate r.length z).length)) := by
  unfold sL;have : r.length = l.length - lo.toNat := by omega
  rw [this];congr 2;simp; omega
 have U : ∀ w : World, (Go.zeroValue T).run P w = .ok J w := fun w => by simp [Go.zeroValue, Go.typeInfo, Sem.run, hi, hz]
 rcases H.mW with ⟨h1, h2, h3⟩ | ⟨b, off, cs, e, H1, h3, h4, h5, h6⟩
 ·subst h1; subst h2;have hs : sb' = none := by rw [<- y]; unfold ym; split <;> rfl
  subst hs;refine OpTo.of_run (v := .tuple #[]) (w' := w) ?_ ⟨rfl, ?_⟩
  ·simp [execOp, resolve, invoke, builtin, I.eval A, Builtin.clear_, xt P ht]
  ·simpa [sL] using H
 ·subst e;by_cases hn : r.length = 0
  ·refine OpTo.of_run (v := .tuple #[]) (w' := w) ?_ ⟨rfl, ?_⟩
   ·rw [hn] at A;cases B : sb' <;> simp [execOp, resolve, invoke, builtin, I.eval A, Builtin.clear_, xt P ht, B]
   ·rw [j, hn];simpa using H
  ·have W : sc ≠ lo.toNat := by omega
   have hs : sb' = some ⟨b, off + lo.toNat * sz, none⟩ := by rw [<- y]; unfold ym; rw [if_neg W]; simp [Addr.add_lit]
   subst hs;have hmul : l.length * sz <= sc * sz := Nat.mul_le_mul_right _ h3;have X : (lo.toNat + r.length) * sz <= l.length * sz := Nat.mul_le_mul_right _ (by omega);rw [Nat.add_mul] at X;have s := yi he (List.replicate r.length z);simp only [List.length_replicate] at s;have hb := H1.one 0 rfl;have u := run_storeCells_at P b (off + lo.toNat * sz) T ((List.replicate r.length z).flatMap enc) 0 cs w hb (by simp only [Nat.add_zero, s]; omega) (rh he _);simp only [Nat.add_zero] at u;refine OpTo.of_run (v := .tuple #[]) (w' := w.setRow b (putAt cs.toList (off + lo.toNat * sz) ((List.replicate r.length z).flatMap enc)).toArray) ?_ ⟨rfl, ?_⟩
   ·have Y : ∃ m, r.length = m + 1 := ⟨r.length - 1, by omega⟩
    obtain ⟨m, hm⟩ := Y;rw [vK _ _ _ (by simp only [Array.length_toList, s]; omega)];simp only [execOp, resolve, invoke, builtin, I.eval A, Builtin.clear_, xt P ht, Sem.run_bind, Result.andThen_ok, hm];simp [execOp, resolve, invoke, builtin, I.eval A, Builtin.clear_, xt P ht, U, hm, oL he S];rw [hm] at u;rw [show storeCells ⟨b, off + lo.toNat * sz, none⟩ (List.flatMap enc (List.replicate (m + 1) z)) = storeCells ⟨b, off + lo.toNat * sz, none⟩ (List.flatMap enc (List.replicate (m + 1) z)) 0 from rfl, u];simp [Result.andThen]
   ·have H2 := H1.set (w' := w.setRow b (putAt cs.toList (off + lo.toNat * sz) ((List.replicate r.length z).flatMap enc)).toArray) (by simp) (by simp) (by simp) (setRow_heap w b _ _ T (0, 0) hb) (fun c S => setRow_other w b c _ S);have D := qH (z := z) O;refine H2.head fun h hh => .inr ⟨b, off, _, rfl, hh, by rw [D]; exact h3, h4, by simp [sQ]; omega, fun i F => ?_⟩
    rw [D] at F;rw [j];simp only [List.getElem?_toArray];exact fE he l (List.replicate r.length z) lo.toNat (by simp; omega) cs.toList off (by simp; omega) (fun i hi => by rw [<- h6 i hi]; simp) i F
end
end
noncomputable section
structure MCh (α : Type) where
 cap : Nat
 buf : List α
def vI (x : Int) : Value := .int .i64 x
def MCh.room {α : Type} (m : MCh α) : Bool := decide (m.buf.length < m.cap)
def MCh.push {α : Type} (m : MCh α) (x : α) : MCh α := ⟨m.cap, m.buf ++ [x]⟩
def MCh.rest {α : Type} (m : MCh α) (b : List α) : MCh α := ⟨m.cap, b⟩
section
variable {α : Type} {ev : α -> Value} {P : Program} {f : FuncId} {k : List Item} {a : Act} {w w0 : World} {R : Value -> World -> Prop} {ops : Array Oper} {As : List HP} {n d c : Nat} {L : Env} {o : Oper} {m : MCh α}
end
section
variable {G α : Type} {T : TypeId} {enc : G -> List Value} {R : G -> α -> HP} {w0 w : World} {As : List HP}
end
def RS {α : Type} (T : TypeId) (enc : α -> List Value) (sz : Nat) (g : Option Addr × Nat × Nat) (x : List α) : HP := fun h => g.2.1 = x.length /\ Sl T enc sz g.1 g.2.2 x h
section
variable {α : Type} {T T' : TypeId} {enc : α -> List Value} {sz : Nat} {w0 w : World} {As : List HP}
end
end
end Go.Th
