/-
  The statements TracePlays of the program.
  Text 1 of 8: of what the proof needs (a row of the program: no condition is left); put together and made narrow by a program.
-/
import Derived.Calls
import Derived.Conc.LoneSelect
import Derived.KernelRfl
import Derived.Laws.AppendOwn
import Derived.Laws.StructEq
import Derived.OrdersHeld
set_option linter.unusedVariables false
set_option linter.unusedSimpArgs false
namespace Go.Th
abbrev rg_7 : List Nat := [0, 1, 2, 3, 4, 5, 6, 7]
abbrev rg_11 : List Nat := [0, 1, 2, 3, 4, 5, 6, 7, 8, 9, 10, 11]
abbrev rg_6 : List Nat := [0, 1, 2, 3, 4, 5, 6]
abbrev rg_13 : List Nat := [0, 1, 2, 3, 4, 5, 6, 7, 8, 9, 10, 11, 12, 13]
abbrev rg_8 : List Nat := [0, 1, 2, 3, 4, 5, 6, 7, 8]
abbrev rg_21 : List Nat := [0, 1, 2, 3, 4, 5, 6, 7, 8, 9, 10, 11, 12, 13, 14, 15, 16, 17, 18, 19, 20, 21]
abbrev rg_22 : List Nat := [0, 1, 2, 3, 4, 5, 6, 7, 8, 9, 10, 11, 12, 13, 14, 15, 16, 17, 18, 19, 20, 21, 22]
end Go.Th
noncomputable section
namespace Go.Th
theorem bS {A B : Type} (a : A) (f : A -> Option B) : (some a).bind f = f a := rfl
theorem lA {A : Type} {a b : List A} : (a ++ b).length = a.length + b.length := List.length_append
theorem mL {A : Type} {a : A} {l : List A} (m : List A) (h : a ∈ l) : a ∈ l ++ m := List.mem_append_left _ h
theorem mC {A : Type} (y : A) {a : A} {l : List A} (h : a ∈ l) : a ∈ y :: l := List.mem_cons_of_mem _ h
theorem dF {p : Prop} [i : Decidable p] (h : ¬p) : decide p = false := _root_.decide_eq_false h
theorem dT {p : Prop} [i : Decidable p] (h : p) : decide p = true := _root_.decide_eq_true h
theorem tN (n : Nat) : Int.toNat (n : Int) = n := Int.toNat_natCast n
theorem lC {A : Type} {a : A} {l : List A} : (a :: l).length = l.length + 1 := List.length_cons
theorem iC {A : Type} {a b : A} {l : List A} : a ∈ b :: l ↔ a = b \/ a ∈ l := List.mem_cons
theorem iA {A : Type} {a : A} {l m : List A} : a ∈ l ++ m ↔ a ∈ l \/ a ∈ m := List.mem_append
theorem aA {A : Type} (a b c : List A) : a ++ b ++ c = a ++ (b ++ c) := List.append_assoc ..
theorem aN {A : Type} (l : List A) : l ++ [] = l := List.append_nil _
theorem pC {A B : Type} {f : A -> B} {a : A} {l : List A} : (a :: l).map f = f a :: l.map f := List.map_cons
theorem lM {A B : Type} {l : List A} (f : A -> B) : (l.map f).length = l.length := List.length_map ..
theorem cT {A : Type} (a b : A) : cond true a b = a := rfl
theorem cF {A : Type} (a b : A) : cond false a b = b := rfl
end Go.Th
namespace Go.Th
abbrev Env := List (Nat × Value)
def look (t : Nat) : Env -> Option Value
 | [] => none
 | (u, v) :: r => match Nat.beq t u with
  | true => some v
  | false => look t r
structure zO (n : Nat) (a : Act) (L : Env) : Prop where
 size : a.tmps.size = n
 defers : a.defers = []
 has : ∀ t v, look t L = some v -> a.tmps[t]? = some v
theorem w2 (t u : Nat) (v : Value) (r : Env) : look t ((u, v) :: r) = if t = u then some v else look t r := by
 simp only [look];split
 ·rename_i h; simp [Nat.eq_of_beq_eq_true h]
 ·rename_i h; simp [Nat.ne_of_beq_eq_false h]
theorem zO.put {n : Nat} {a : Act} {L : Env} (h : zO n a L) (d : Nat) (v : Value) (hd : d < n) : zO n (a.put (some d) v) ((d, v) :: L) := by
 refine ⟨by simp [Act.put, h.size], h.defers, fun t u hu => ?_⟩;rw [w2] at hu;simp only [Act.put];split at hu
 ·subst_vars; cases hu; simp [h.size, hd]
 ·rename_i i;rw [Array.getElem?_setIfInBounds_ne (fun e => i e.symm)];exact h.has t u hu
def evO (L : Env) : Operand -> Option Value
 | .tmp t => look t L
 | .const v => some v
 | .global g => some (.pointer (some ⟨g, 0, none⟩))
 | .func f => some (.func (.func f) #[] #[])
theorem zO.eval {n : Nat} {a : Act} {L : Env} (h : zO n a L) {x : Operand} {v : Value} (e : evO L x = some v) : a.eval x = v := by
 cases x with
 | tmp t =>
  have := h.has t v e;simp [Act.eval, Array.getD_eq_getD_getElem?, this]
 | const u => simpa [evO, Act.eval] using e
 | global g => simpa [evO, Act.eval] using e
 | func f => simpa [evO, Act.eval] using e
def rho (L : Env) (x : Operand) : Value := match evO L x with
 | some v => v
 | none => undef
def ki (L : Env) : List Operand -> Bool
 | [] => true
 | x :: r => match evO L x with
  | some _ => ki L r
  | none => false
theorem lf {L : Env} : ∀ {l : List Operand}, ki L l = true -> ∀ x ∈ l, ∃ v, evO L x = some v
 | [], _, x, e => by cases e
 | y :: r, h, x, e => by
  simp only [ki] at h;split at h
  ·rename_i v hv;cases e with
   | head => exact ⟨v, hv⟩
   | tail _ hm => exact lf h x hm
  ·cases h
def rO : Op -> Bool
 | .select .. => true
 | _ => false
theorem km {n : Nat} {a : Act} {L : Env} (h : zO n a L) {o : Oper} (hs : rO o.op = false) (e : ki L o.op.operands.toList = true) :
  execOp a.eval o = execOp (rho L) o := by
 refine execOp_congr o (fun cs b i => by simp [i, rO] at hs) (fun x j => ?_);obtain ⟨v, hv⟩ := lf e x (by simpa using j);rw [h.eval hv]; simp [rho, hv]
inductive Ob where
 | cell (a : Addr) (v : Value)
 | p (q : Prop)
def Ob.holds (w : World) : Ob -> Prop
 | .cell a v => w.cell? a = some v
 | .p q => q
def xO (w : World) : List Ob -> Prop
 | [] => True
 | o :: r => o.holds w /\ xO w r
theorem wA {w : World} : ∀ {l m : List Ob}, xO w (l ++ m) ↔ xO w l /\ xO w m
 | [], m => by simp [xO]
 | o :: l, m => by simp [xO, wA (l := l) (m := m), and_assoc]
def runA (P : Program) {α : Type} : Sem α -> List Value -> Option (α × List Ob × List Value)
 | .pure a, e => some (a, [], e)
 | .load _ j k, e => match e with
  | [] => none
  | v :: e => match runA P (k v) e with
   | some (x, obs, i) => some (x, .cell j v :: obs, i)
   | none => none
 | .program k, e => runA P (k P) e
 | .mark _ k, e => runA P k e
 | _, _ => none
theorem nc (P : Program) (w : World) {α : Type} : ∀ (s : Sem α) (i : List Value) (x : α) (obs : List Ob) (e : List Value),
  runA P s i = some (x, obs, e) -> xO w obs -> s.run P w = .ok x w := by
 intro s;induction s with
 | pure a => intro i x obs e h _; simp [runA] at h; obtain ⟨rfl, _, _⟩ := h; rfl
 | load m z k ih =>
  intro i x obs e h j;cases i with
  | nil => simp [runA] at h
  | cons v i =>
   simp only [runA] at h;split at h
   ·rename_i y t l u;simp at h;obtain ⟨rfl, rfl, rfl⟩ := h;simp only [xO, Ob.holds] at j;simp only [Sem.run, j.1];exact ih v i _ _ _ u j.2
   ·cases h
 | program k ih => intro i x obs e h j; simp only [runA] at h; simp only [Sem.run]; exact ih P i x obs e h j
 | mark m k ih => intro i x obs e h j; simp only [runA] at h; simp only [Sem.run]; exact ih i x obs e h j
 | _ => intro i x obs e h; simp [runA] at h
def yF (base : Option Addr) (cap l size : Nat) : Option Addr := if cap = l then base else base.map (·.add (l * size))
def jB : Option Value -> Option Nat
 | none => some 0
 | some (.int _ i) => some i.toNat
 | _ => none
def mU : Option Value -> Nat -> List Ob
 | some (.int _ i), h => [.p (0 <= i /\ i <= (h : Int))]
 | _, _ => []
def nY (len : Nat) : Option Value -> Option Nat
 | none => some len
 | some (.int _ i) => some i.toNat
 | _ => none
def evOp (P : Program) (L : Env) (o : Oper) (j : List Value) : Option (Value × List Ob × List Value) :=
 match rO o.op, ki L o.op.operands.toList with
 | false, true =>
  match o.op with
  | .indexAddr t x i => match P.underlying t, rho L x, rho L i with
   | some (.slice e), .slice base len _, .int _ z => match j, P.info? e with
    | .pointer (some ⟨b, off, none⟩) :: j, some ti => some (.pointer (some ⟨b, off + z.toNat * ti.size, none⟩), [.p (base = some ⟨b, off, none⟩), .p (0 <= z /\ z < (len : Int))], j)
    | _, _ => none
   | some (.array len e), .pointer (some ⟨b, off, none⟩), .int _ z => match P.info? e with
    | some ti => some (.pointer (some ⟨b, off + z.toNat * ti.size, none⟩), [.p (0 <= z /\ z < (len : Int))], j)
    | none => none
   | _, _, _ => none
  | .slice t x lo hi none => match P.underlying t, rho L x with
   | some (.slice e), .slice base len cap => match P.info? e, jB (lo.map (rho L)), nY len (hi.map (rho L)) with
    | some ti, some l, some h => match j with
     | .slice B D F :: j => some (.slice B D F, .p (yF base cap l ti.size = B) :: .p (h - l = D) :: .p (cap - l = F) :: (mU (hi.map (rho L)) cap ++ mU (lo.map (rho L)) h), j)
     | _ => none
    | _, _, _ => none
   | some .string, .string s => match jB (lo.map (rho L)), nY s.size (hi.map (rho L)) with
    | some l, some h => some (.string (s.extract l h), mU (hi.map (rho L)) s.size ++ mU (lo.map (rho L)) h, j)
    | _, _ => none
   | _, _ => none
  | .binOp .quo _ x y _ => match rho L x, rho L y with
   | .int .i64 a, .int .i64 b => some (.int .i64 (IntKind.i64.wrap (a.tdiv b)), [.p (b ≠ 0)], j)
   | _, _ => none
  | .binOp .rem _ x y _ => match rho L x, rho L y with
   | .int .i64 a, .int .i64 b => some (.int .i64 (a.tmod b), [.p (b ≠ 0)], j)
   | _, _ => none
  | .binOp .shl _ x y _ => match rho L x, rho L y with
   | .int k a, .int _ b => some (.int k (k.wrap (a * 2 ^ (min b.toNat k.bits))), [.p (0 <= b)], j)
   | _, _ => none
  | .binOp .shr _ x y _ => match rho L x, rho L y with
   | .int k a, .int _ b => some (.int k (a.fdiv (2 ^ (min b.toNat k.bits))), [.p (0 <= b)], j)
   | _, _ => none
  | .index t x i => match P.underlying t, rho L x, rho L i with
   | some .string, .string s, .int _ z => match j with
    | .int .u8 c :: j => some (.int .u8 c, [.p (0 <= z /\ ∃ u, s[z.toNat]? = some u /\ c = (u.toNat : Int))], j)
    | _ => none
   | _, _, _ => none
  | _ => match runA P (execOp (rho L) o) j with
   | some (.value v, obs, A) => some (v, obs, A)
   | _ => none
 | _, _ => none
theorem vS (b off n : Nat) : (⟨b, off, none⟩ : Addr).add n = ⟨b, off + n, none⟩ := by
 unfold Addr.add; split <;> simp_all
theorem xx (P : Program) {t : TypeId} {d : TypeDesc} (h : P.underlying t = some d) (w : World) : (underlying t).run P w = .ok d w := by
 simp [underlying, program, bind, Sem.bind, Sem.run, h, pure]
theorem sH (P : Program) {t : TypeId} {i : TypeInfo} (h : P.info? t = some i) (w : World) : (sizeOf t).run P w = .ok i.size w := by
 simp [sizeOf, typeInfo, program, bind, Sem.bind, Sem.run, h, pure]
theorem bB (P : Program) {x : Value} {k : IntKind} {i : Int} {y : Nat} {c : BoundsCode} (e : x = .int k i) (h : 0 <= i /\ i <= (y : Int)) (w : World) :
  (Instr.sliceBound x y c).run P w = .ok i.toNat w := by
 subst e;simp [Instr.sliceBound, asIntOf, bind, Sem.bind, pure, h]
theorem dA (P : Program) {lo : Option Value} {l h : Nat} (hl : jB lo = some l) (w : World) (e : xO w (mU lo h)) (c : BoundsCode) :
  (match lo with
   | some v => Instr.sliceBound v h c
   | none => (pure 0 : Sem Nat)).run P w = .ok l w := by
 cases lo with
 | none => simp [jB] at hl; subst hl; rfl
 | some v =>
  cases v <;> simp only [jB] at hl <;> try cases hl
  rename_i k i;simp only [mU, xO, Ob.holds] at e;exact bB P rfl e.1 w
theorem cD (P : Program) {hi : Option Value} {len h cap : Nat} (hl : nY len hi = some h) (w : World) (e : xO w (mU hi cap)) (c : BoundsCode) :
  (match hi with
   | some v => Instr.sliceBound v cap c
   | none => (pure len : Sem Nat)).run P w = .ok h w := by
 cases hi with
 | none => simp [nY] at hl; subst hl; rfl
 | some v =>
  cases v <;> simp only [nY] at hl <;> try cases hl
  rename_i k i;simp only [mU, xO, Ob.holds] at e;exact bB P rfl e.1 w
theorem lz (P : Program) (b : Bool) (len cap : Nat) (lo hi : Option Value) {l h : Nat} (hl : jB lo = some l) (hh : nY len hi = some h) (w : World)
  (t : xO w (mU hi cap)) (j : xO w (mU lo h)) : (Instr.sliceBounds b len cap lo hi none).run P w = .ok (l, h, cap) w := by
 unfold Instr.sliceBounds;cases hi with
 | none =>
  simp only [nY, Option.some.injEq] at hh; subst hh;cases lo with
  | none => simp only [jB, Option.some.injEq] at hl; subst hl; simp
  | some v =>
   have e := dA P hl w j .sliceB;simp only at e;simp [e]
 | some u =>
  have i := fun c => cD P hh w t c
  simp only at i;cases lo with
  | none => simp only [jB, Option.some.injEq] at hl; subst hl; simp [i]
  | some v =>
   have e := dA P hl w j .sliceB;simp only at e;simp [e, i]
theorem mY {P : Program} {n : Nat} {a : Act} {L : Env} (hE : zO n a L) {o : Oper} {U : List Value} {v : Value} {obs : List Ob} {J : List Value}
  (h : evOp P L o U = some (v, obs, J)) {w : World} (z : xO w obs) : (execOp a.eval o).run P w = .ok (.value v) w := by
 unfold evOp at h;split at h
 case h_2 => cases h
 rename_i hs W;rw [km hE hs W];split at h
 ·
  rename_i t x i j;simp only [execOp, j];split at h
  ·rename_i e base len cap k Z hu A hi;rw [A, hi];split at h
   ·rename_i b off O ti B;simp only [Option.some.injEq, Prod.mk.injEq] at h;obtain ⟨rfl, rfl, _⟩ := h;simp only [xO, Ob.holds] at z;obtain ⟨rfl, D, -⟩ := z;simp [Instr.indexAt, asIntOf, xx P hu, D, sH P B, vS]
   ·cases h
  ·rename_i len e b off k Z hu A hi;rw [A, hi];split at h
   ·rename_i ti B;simp only [Option.some.injEq, Prod.mk.injEq] at h;obtain ⟨rfl, rfl, _⟩ := h;simp only [xO, Ob.holds] at z;obtain ⟨D, -⟩ := z;simp [Instr.indexAt, Instr.sureAddr, asIntOf, xx P hu, D, sH P B, vS]
   ·cases h
  ·cases h
 ·
  rename_i t x lo hi j;simp only [execOp, j];split at h
  ·rename_i e base len cap hu A;rw [A];split at h
   ·rename_i ti l hh B hl F;split at h
    ·simp only [Option.some.injEq, Prod.mk.injEq] at h;obtain ⟨rfl, rfl, _⟩ := h;simp only [xO, Ob.holds] at z;obtain ⟨rfl, rfl, rfl, z⟩ := z;rw [wA] at z;have X : (Instr.sliceBounds true len cap (lo.map (rho L)) (hi.map (rho L)) none).run P w = .ok (l, hh, cap) w := lz P true _ _ _ _ hl F w z.1 z.2;simp [Instr.sliceAt, Instr.slice, xx P hu, sH P B, yF, X]
    ·cases h
   ·cases h
  ·rename_i s hu A;rw [A];split at h
   ·rename_i l hh hl F;simp only [Option.some.injEq, Prod.mk.injEq] at h;obtain ⟨rfl, rfl, _⟩ := h;rw [wA] at z;have X : (Instr.sliceBounds false s.size s.size (lo.map (rho L)) (hi.map (rho L)) none).run P w = .ok (l, hh, s.size) w := lz P false _ _ _ _ hl F w z.1 z.2;simp [Instr.sliceAt, Instr.slice, xx P hu, X]
   ·cases h
  ·cases h
 ·
  rename_i t x y t2 j;simp only [execOp, j];split at h
  ·rename_i a' S A I;simp only [Option.some.injEq, Prod.mk.injEq] at h;obtain ⟨rfl, rfl, _⟩ := h;simp only [xO, Ob.holds] at z;simp [A, I, eqGuard, binOp, Op.intDiv, z.1]
  ·cases h
 ·
  rename_i t x y t2 j;simp only [execOp, j];split at h
  ·rename_i a' S A I;simp only [Option.some.injEq, Prod.mk.injEq] at h;obtain ⟨rfl, rfl, _⟩ := h;simp only [xO, Ob.holds] at z;simp [A, I, eqGuard, binOp, Op.intDiv, z.1]
  ·cases h
 ·
  rename_i t x y t2 j;simp only [execOp, j];split at h
  ·rename_i k a' k2 S A I;simp only [Option.some.injEq, Prod.mk.injEq] at h;obtain ⟨rfl, rfl, _⟩ := h;simp only [xO, Ob.holds] at z;have D : ¬ S < 0 := by omega
   simp [A, I, eqGuard, binOp, Op.shift, D]
  ·cases h
 ·
  rename_i t x y t2 j;simp only [execOp, j];split at h
  ·rename_i k a' k2 S A I;simp only [Option.some.injEq, Prod.mk.injEq] at h;obtain ⟨rfl, rfl, _⟩ := h;simp only [xO, Ob.holds] at z;have D : ¬ S < 0 := by omega
   simp [A, I, eqGuard, binOp, Op.shift, D]
  ·cases h
 ·
  rename_i t x i j;simp only [execOp, j];split at h
  ·rename_i s k Z hu A hi;rw [A, hi];split at h
   ·rename_i c O;simp only [Option.some.injEq, Prod.mk.injEq] at h;obtain ⟨rfl, rfl, _⟩ := h;simp only [xO, Ob.holds] at z;obtain ⟨⟨h0, u, Y, rfl⟩, -⟩ := z;simp [Instr.index, asIntOf, xx P hu, h0, Y]
   ·cases h
  ·cases h
 ·split at h
  ·rename_i u a0 a1 hr;simp only [Option.some.injEq, Prod.mk.injEq] at h;obtain ⟨rfl, rfl, _⟩ := h;exact nc P w _ _ _ _ _ hr z
  ·cases h
def uo (ops : Array Oper) (L : Env) (o : Oper) : Option Bool :=
 match o.guard with
 | none => some true
 | some (j, want) => match (ops[j]?).bind (·.dst) with
  | some d => match look d L with
   | some (.bool b) => some (b == want)
   | some (.tuple _) => some false
   | _ => none
  | none => none
theorem xN {n : Nat} {a : Act} {L : Env} (i : zO n a L) {ops : Array Oper} {o : Oper} {b : Bool} (h : uo ops L o = some b) :
  Region.wanted o (yielded ops a.tmps) = b := by
 unfold uo at h;unfold Region.wanted;split at h
 ·rename_i e; rw [e]; simpa using h
 ·rename_i j want e;rw [e];simp only;unfold yielded;split at h
  ·rename_i d hd;rw [hd];split at h
   ·rename_i u hu;simp only [bS, i.has _ _ hu];simpa using h
   ·rename_i u hu;simp only [bS, i.has _ _ hu];simpa using h
   ·cases h
  ·cases h
def setE (n : Nat) (d : Option Tmp) (v : Value) (L : Env) : Option Env :=
 match d with
 | none => some L
 | some d => match Nat.blt d n with
  | true => some ((d, v) :: L)
  | false => none
theorem sY {n : Nat} {a : Act} {L L' : Env} {d : Option Tmp} {v : Value} (e : zO n a L) (h : setE n d v L = some L') : zO n (a.put d v) L' := by
 unfold setE at h;split at h
 ·cases h; exact e
 ·split at h
  ·rename_i hd; cases h; exact e.put _ _ (by simpa [Nat.blt_eq] using hd)
  ·cases h
def pw (P : Program) (n : Nat) (ops : Array Oper) : List Nat -> Env -> List Value -> Option (Env × List Ob)
 | [], L, _ => some (L, [])
 | i :: is, L, e => match ops[i]? with
  | none => none
  | some o => match uo ops L o with
   | none => none
   | some false => match setE n o.dst undef L with
    | some L1 => pw P n ops is L1 e
    | none => none
   | some true => match evOp P L o e with
    | none => none
    | some (v, obs, j) => match setE n o.dst v L with
     | none => none
     | some L1 => match pw P n ops is L1 j with
      | some (L2, l) => some (L2, obs ++ l)
      | none => none
def sel : List Nat -> Env -> Option Env
 | [], _ => some []
 | k :: ks, L => match look k L with
  | none => none
  | some v => match sel ks L with
   | none => none
   | some r => some ((k, v) :: r)
theorem sZ {n : Nat} {a : Act} {L : Env} (e : zO n a L) : ∀ {ks : List Nat} {Lo : Env}, sel ks L = some Lo -> zO n a Lo
 | [], Lo, h => by simp [sel] at h; subst h; exact ⟨e.size, e.defers, fun t v hv => by simp [look] at hv⟩
 | k :: ks, Lo, h => by
  simp only [sel] at h;split at h
  ·cases h
  ·rename_i v hv;split at h
   ·cases h
   ·rename_i r hr;cases h;have ih := sZ e hr;refine ⟨e.size, e.defers, fun t u hu => ?_⟩;rw [w2] at hu;split at hu
    ·subst_vars; cases hu; exact e.has _ _ hv
    ·exact ih.has t u hu
def nP (P : Program) (n : Nat) (ops : Array Oper) (is : List Nat) (L : Env) (e : List Value) (ks : List Nat) : Option (Env × List Ob) :=
 match pw P n ops is L e with
 | none => none
 | some (L1, obs) => match sel ks L1 with
  | some Lo => some (Lo, obs)
  | none => none
theorem nW {P : Program} {n : Nat} {ops : Array Oper} {Q : Exit -> Act -> World -> Prop} {w : World} {rest : List Nat} :
  ∀ (is : List Nat) (a : Act) (L : Env) (e : List Value) (L' : Env) (obs : List Ob), zO n a L -> pw P n ops is L e = some (L', obs) -> xO w obs ->
   (∀ a', zO n a' L' -> wpOps P ops Q rest a' w) -> wpOps P ops Q (is ++ rest) a w := by
 intro is;induction is with
 | nil => intro a L e L' obs j h t hk; simp [pw] at h; obtain ⟨rfl, rfl⟩ := h; exact hk a j
 | cons i is ih =>
  intro a L e L' obs j h t hk;rw [List.cons_append, wpOps_cons];simp only [pw] at h;split at h
  ·cases h
  ·rename_i o x;unfold wpOp;simp only [x];split at h
   ·cases h
   ·rename_i hw;rw [xN j hw];split at h
    ·rename_i L1 l;exact ih _ _ _ _ _ (sY j l) h t hk
    ·cases h
   ·rename_i hw;rw [xN j hw];split at h
    ·cases h
    ·rename_i v y z hv;split at h
     ·cases h
     ·rename_i L1 l;split at h
      ·rename_i L2 A u;cases h;rw [wA] at t;have hr := mY j hv t.1;simp only [if_true];refine .inl ?_;unfold Oper.wp;rw [hr];exact ih _ _ _ _ _ (sY j l) u t.2 hk
      ·cases h
def yz (P : Program) (f : FuncId) (args : Array Value) (w : World) (R : Value -> World -> Prop) : Prop :=
 Calls P f args w fun e w' => ∃ v, e = .returned v /\ R v w'
theorem yz.mono {P : Program} {f : FuncId} {args : Array Value} {w : World} {R e : Value -> World -> Prop} (h : yz P f args w R) (hr : ∀ v w', R v w' -> e v w') : yz P f args w e :=
 Calls.mono h fun _ _ ⟨v, he, hv⟩ => ⟨v, he, hr _ _ hv⟩
def Runs (P : Program) (f : FuncId) (todo : List Item) (a : Act) (w : World) (R : Value -> World -> Prop) : Prop :=
 ∀ (b : Frame), b.fn = f -> b.kind = .normal -> ∀ cs, ∃ v w' fr, R v w' /\ Steps P (lone (b.at a todo) cs w) (lone fr cs w') /\ fr.fn = f /\ fr.leaving P w' (.returned v)
def oH : Nat -> List Value -> Env
 | _, [] => []
 | i, v :: r => (i, v) :: oH (i + 1) r
theorem nq : ∀ (l : List Value) (i t : Nat) (v : Value), look t (oH i l) = some v -> i <= t /\ l[t - i]? = some v
 | [], i, t, v, h => by simp [oH, look] at h
 | u :: l, i, t, v, h => by
  simp only [oH] at h;rw [w2] at h;split at h
  ·subst_vars; cases h; simp
  ·rename_i e;obtain ⟨h1, h2⟩ := nq l (i + 1) t v h;refine ⟨by omega, ?_⟩;have : t - i = (t - (i + 1)) + 1 := by omega
   rw [this]; simpa using h2
section
variable {P : Program} {f : FuncId} {k : List Item} {a : Act} {w : World} {R : Value -> World -> Prop}
theorem enter {fn : Func} {c : Code} {args : List Value} {n : Nat} (hf : P.funcs[f]? = some fn) (j : fn.body = some c) (hn : fn.ntmps = n) (hl : Nat.ble args.length n = true)
  (h : ∀ a, zO n a (oH 0 args) -> Runs P f [.code c] a w R) : yz P f args.toArray w R := by
 intro cs;have l : args.length <= n := Nat.le_of_ble_eq_true hl
 let b : Frame := { (default : Frame) with fn := f, kind := .normal }
 have e : Frame.enter P f args.toArray .normal =
   b.at { tmps := args.toArray ++ Array.replicate (fn.ntmps - args.toArray.size) undef, defers := [] } [.code c] := by
  simp [Frame.enter, Frame.at, hf, j, b]
 obtain ⟨v, w', fr, u, hs, h1, h2⟩ := h { tmps := args.toArray ++ Array.replicate (fn.ntmps - args.toArray.size) undef, defers := [] } ⟨by simp [hn]; omega, rfl, fun t v hv => by
  obtain ⟨_, h2⟩ := nq _ _ _ _ hv;simp only [Nat.sub_zero] at h2;have i : t < args.length := (List.getElem?_eq_some_iff.1 h2).1;rw [Array.getElem?_append_left (by simpa using i)];simpa using h2⟩ b rfl rfl cs
 exact ⟨.returned v, w', fr, ⟨v, rfl, u⟩, by rw [e]; exact hs, h1, h2⟩
theorem Runs.step {todo todo' : List Item} {a' : Act} {w' : World} (hs : ∀ (b : Frame) cs, step P (lone (b.at a todo) cs w) = .next (lone (b.at a' todo') cs w')) (h : Runs P f todo' a' w' R) : Runs P f todo a w R :=
 fun b e hk cs => let ⟨v, i, fr, j, h1, h2⟩ := h b e hk cs; ⟨v, i, fr, j, .head (hs b cs) h1, h2⟩
theorem Runs.skip (h : Runs P f k a w R) : Runs P f (.code .skip :: k) a w R := .step (fun _ _ => step_skip) h
theorem Runs.label {l : Nat} (h : Runs P f k a w R) : Runs P f (.code (.label l) :: k) a w R := .step (fun _ _ => step_label) h
theorem Runs.inBlock {id : Nat} (h : Runs P f k a w R) : Runs P f (.inBlock id :: k) a w R := .step (fun _ _ => step_inBlock) h
theorem Runs.seq {x y : Code} (h : Runs P f (.code x :: .code y :: k) a w R) : Runs P f (.code (.seq x y) :: k) a w R := .step (fun _ _ => step_seq) h
theorem Runs.block {id : Nat} {c : Code} (h : Runs P f (.code c :: .inBlock id :: k) a w R) : Runs P f (.code (.block id c) :: k) a w R := .step (fun _ _ => step_block) h
theorem Runs.exit {id : Nat} {e : List Item} (he : exitTo id k = some e) (h : Runs P f e a w R) : Runs P f (.code (.exit id) :: k) a w R := .step (fun _ _ => step_exit he) h
theorem Runs.inLoop {c : Code} (h : Runs P f (.code c :: .inLoop c :: k) a w R) : Runs P f (.inLoop c :: k) a w R := .step (fun _ _ => step_inLoop) h
theorem Runs.cond {n : Nat} {L : Env} {c : Operand} {x y : Code} {t : Bool} (e : zO n a L) (i : evO L c = some (.bool t)) (h1 : t = true -> Runs P f (.code x :: k) a w R) (h2 : t = false -> Runs P f (.code y :: k) a w R) :
  Runs P f (.code (.cond c x y) :: k) a w R := by
 cases t
 ·exact .step (fun _ _ => step_cond (e.eval i)) (h2 rfl)
 ·exact .step (fun _ _ => step_cond (e.eval i)) (h1 rfl)
theorem Runs.sR {n : Nat} {L : Env} {c : Operand} {x y : Code} (e : zO n a L) (i : evO L c = some (.bool true)) (h1 : Runs P f (.code x :: k) a w R) :
  Runs P f (.code (.cond c x y) :: k) a w R := .step (fun _ _ => step_cond (e.eval i)) h1
theorem Runs.uA {n : Nat} {L : Env} {c : Operand} {x y : Code} (e : zO n a L) (i : evO L c = some (.bool false)) (h1 : Runs P f (.code y :: k) a w R) :
  Runs P f (.code (.cond c x y) :: k) a w R := .step (fun _ _ => step_cond (e.eval i)) h1
theorem Runs.bM {c : Code} (h : Runs P f (.code c :: .inLoop c :: k) a w R) : Runs P f (.code (.loop c) :: k) a w R := .step (fun _ _ => step_loop) h
theorem Runs.loop {c : Code} (I : Nat -> Act -> World -> Prop) (N : Nat) (h0 : I N a w)
  (round : ∀ m, (∀ e, e < m -> ∀ a w, I e a w -> Runs P f (.inLoop c :: k) a w R) -> ∀ a w, I m a w -> Runs P f (.code c :: .inLoop c :: k) a w R) : Runs P f (.code (.loop c) :: k) a w R := by
 have key : ∀ m a w, I m a w -> Runs P f (.code c :: .inLoop c :: k) a w R := by
  intro m;induction m using Nat.strongRecOn with
  | _ m ih => exact round m fun e i a w j => .inLoop (ih e i a w j)
 exact .step (fun _ _ => step_loop) (key N a w h0)
def iT (L : Env) : List ResultVar -> Option (List Value)
 | [] => some []
 | .tmp t :: r => match look t L, iT L r with
  | some v, some vs => some (v :: vs)
  | _, _ => none
 | .cell _ _ :: _ => none
def tr : List Value -> Value
 | [v] => v
 | vs => .tuple vs.toArray
theorem nH {n : Nat} {L : Env} (i : zO n a L) : ∀ (rs : List ResultVar) (vs : List Value), iT L rs = some vs ->
  (rs.mapM fun (x : ResultVar) => match x with
   | .tmp t => (pure (a.tmps.getD t undef) : Sem Value)
   | .cell x t => do loadVar t (<- asAddr (a.tmps.getD x undef))).run P w = .ok vs w
 | [], vs, h => by simp [iT] at h; subst h; simp
 | .tmp t :: r, vs, h => by
  simp only [iT] at h;split at h
  ·rename_i v us hv e;cases h;have ih := nH i r us e;have := i.has _ _ hv;simp only [Array.getD_eq_getD_getElem?] at ih ⊢;simp only [List.mapM_cons, Sem.run_bind, Sem.run_pure, Result.andThen_ok, this, Option.getD_some];rw [ih]
   rfl
  ·cases h
 | .cell _ _ :: _, vs, h => by simp [iT] at h
theorem Runs.ret {n : Nat} {L : Env} {fn : Func} {rs : List ResultVar} {vs : List Value} (e : zO n a L) (hf : P.funcs[f]? = some fn) (hr : fn.results = rs.toArray) (hv : iT L rs = some vs) (h : R (tr vs) w) :
  Runs P f (.code .ret :: k) a w R := by
 intro b i hk cs;refine ⟨tr vs, w, _, h, .one step_ret, by simp [Frame.at, i], rfl, e.defers, hk, fn, by simpa [Frame.at, i] using hf, ?_⟩;have := nH (P := P) (w := w) e rs vs hv;unfold results;simp only [Frame.at, hr, List.mapM_toArray, Sem.run_bind, Sem.run_map]
 erw [this]
 simp only [Result.andThen_ok]
 match vs with
 | [] => simp [tr]
 | [v] => simp [tr]
 | v :: u :: r => simp [tr]
theorem Runs.fin {n : Nat} {L : Env} {fn : Func} {rs : List ResultVar} {vs : List Value} (e : zO n a L) (hf : P.funcs[f]? = some fn) (hr : fn.results = rs.toArray) (hv : iT L rs = some vs) (h : R (tr vs) w) :
  Runs P f [] a w R := by
 intro b i hk cs;refine ⟨tr vs, w, _, h, .one step_end, by simp [Frame.at, i], rfl, e.defers, hk, fn, by simpa [Frame.at, i] using hf, ?_⟩;have := nH (P := P) (w := w) e rs vs hv;unfold results;simp only [Frame.at, hr, List.mapM_toArray, Sem.run_bind, Sem.run_map]
 erw [this]
 simp only [Result.andThen_ok]
 match vs with
 | [] => simp [tr]
 | [v] => simp [tr]
 | v :: u :: r => simp [tr]
def qS (P : Program) (L : Env) : List ResultVar -> List Value -> Option (List Value × List Ob)
 | [], _ => some ([], [])
 | .tmp t :: r, e => match look t L, qS P L r e with
  | some v, some (vs, obs) => some (v :: vs, obs)
  | _, _ => none
 | .cell x t :: r, e => match look x L with
  | some (.pointer (some l)) => match runA P (loadVar t l) e with
   | some (v, obs, i) => match qS P L r i with
    | some (vs, j) => some (v :: vs, obs ++ j)
    | none => none
   | none => none
  | _ => none
theorem oV {n : Nat} {L : Env} (y : zO n a L) : ∀ (rs : List ResultVar) (e : List Value) (vs : List Value) (obs : List Ob), qS P L rs e = some (vs, obs) -> xO w obs ->
  (rs.mapM fun (x : ResultVar) => match x with
   | .tmp t => (pure (a.tmps.getD t undef) : Sem Value)
   | .cell x t => do loadVar t (<- asAddr (a.tmps.getD x undef))).run P w = .ok vs w
 | [], e, vs, obs, h, _ => by simp [qS] at h; obtain ⟨rfl, _⟩ := h; simp
 | .tmp t :: r, e, vs, obs, h, j => by
  simp only [qS] at h;split at h
  ·rename_i v us obs hv i;cases h;have ih := oV y r e us obs i j;have := y.has _ _ hv;simp only [Array.getD_eq_getD_getElem?] at ih ⊢;simp only [List.mapM_cons, Sem.run_bind, Sem.run_pure, Result.andThen_ok, this, Option.getD_some];rw [ih]
   rfl
  ·cases h
 | .cell x t :: r, e, vs, obs, h, j => by
  simp only [qS] at h;split at h
  ·rename_i z hv;split at h
   ·rename_i v A l hr;split at h
    ·rename_i us u i;cases h;rw [wA] at j;have ih := oV y r l us u i j.2;have h1 := nc P w _ _ _ _ _ hr j.1;have := y.has _ _ hv;have h3 : (asAddr (.pointer (some z))).run P w = .ok z w := rfl;simp only [Array.getD_eq_getD_getElem?] at ih ⊢;simp only [List.mapM_cons, Sem.run_bind, Sem.run_pure, Result.andThen_ok, this, Option.getD_some, h3, h1];rw [ih]
     rfl
    ·cases h
   ·cases h
  ·cases h
theorem Runs.retO {n : Nat} {L : Env} {fn : Func} {rs : List ResultVar} {vs : List Value} {obs : List Ob} (i : zO n a L) (hf : P.funcs[f]? = some fn) (hr : fn.results = rs.toArray) (e : List Value) (hv : qS P L rs e = some (vs, obs)) (l : xO w obs) (h : R (tr vs) w) :
  Runs P f (.code .ret :: k) a w R := by
 intro b j hk cs;refine ⟨tr vs, w, _, h, .one step_ret, by simp [Frame.at, j], rfl, i.defers, hk, fn, by simpa [Frame.at, j] using hf, ?_⟩;have := oV (P := P) (w := w) i rs e vs obs hv l;unfold results;simp only [Frame.at, hr, List.mapM_toArray, Sem.run_bind, Sem.run_map]
 erw [this]
 simp only [Result.andThen_ok]
 match vs with
 | [] => simp [tr]
 | [v] => simp [tr]
 | v :: u :: r => simp [tr]
def RQ (P : Program) (f : FuncId) (k : List Item) (R : Value -> World -> Prop) : Exit -> Act -> World -> Prop
 | .normal, a, w => Runs P f k a w R
 | _, _, _ => False
def WR (P : Program) (f : FuncId) (ops : Array Oper) (i : Nat) (k : List Item) (a : Act) (w : World) (R : Value -> World -> Prop) : Prop :=
 wpOps P ops (RQ P f k R) (List.range' i (ops.size - i)) a w
theorem Runs.jP {ops : Array Oper} {is : List Nat} (h : wpOps P ops (RQ P f k R) is a w) : Runs P f (.inRegion ops is :: k) a w R := by
 intro b j hk cs;obtain ⟨e, a', w', hq, i⟩ := wp_ops is a w h b k cs;cases e with
 | normal =>
  obtain ⟨v, l, fr, t, h1, h2⟩ := hq b j hk cs;exact ⟨v, l, fr, t, i.trans h1, h2⟩
 | _ => exact hq.elim
theorem Runs.region {id : Nat} {ops : Array Oper} (h : WR P f ops 0 k a w R) : Runs P f (.code (.region id ops false) :: k) a w R := by
 refine .step (fun _ _ => step_region) (Runs.jP ?_);unfold WR at h;rw [List.range_eq_range'];simpa using h
theorem WR.done {ops : Array Oper} {i : Nat} (hi : Nat.ble ops.size i = true) (h : Runs P f k a w R) : WR P f ops i k a w R := by
 have : ops.size - i = 0 := by have := Nat.le_of_ble_eq_true hi; omega
 simp [WR, this, wpOps, RQ]; exact h
theorem WR.seg {ops : Array Oper} {i n : Nat} {L : Env} (x : zO n a L) (j : Nat) (l : List Value) (ks : List Nat) {Lo : Env} {obs : List Ob}
  (hj : (Nat.ble i j && Nat.ble j ops.size) = true) (he : nP P n ops (List.range' i (j - i)) L l ks = some (Lo, obs)) (y : xO w obs)
  (hk : ∀ a', zO n a' Lo -> WR P f ops j k a' w R) : WR P f ops i k a w R := by
 simp only [Bool.and_eq_true] at hj;have h1 := Nat.le_of_ble_eq_true hj.1;have h2 := Nat.le_of_ble_eq_true hj.2;unfold WR;have hr : List.range' i (ops.size - i) = List.range' i (j - i) ++ List.range' j (ops.size - j) := by
  have z : ops.size - i = (j - i) + (ops.size - j) := by omega
  have A : i + (j - i) = j := by omega
  rw [z, <- List.range'_append_1, A]
 rw [hr];unfold nP at he;split at he
 ·cases he
 ·rename_i L1 u hs;split at he
  ·rename_i B e;cases he;exact nW _ _ _ _ _ _ x hs y fun a' t => hk a' (sZ t e)
  ·cases he
def OpTo (P : Program) (o : Oper) (a : Act) (w : World) (e : Value -> World -> Prop) : Prop :=
 match (execOp a.eval o).run P w with
 | .ok (.value v) w' => e v w'
 | .ok .skip w' => e undef w'
 | .ok (.enter g args) w' => yz P g args w' e
 | _ => False
theorem OpTo.mono {o : Oper} {i e : Value -> World -> Prop} (h : OpTo P o a w i) (hr : ∀ v w', i v w' -> e v w') : OpTo P o a w e := by
 unfold OpTo at *
 generalize (execOp a.eval o).run P w = r at *
 cases r with
 | ok n w' => cases n <;> first | exact hr _ _ h | exact yz.mono h hr | exact h.elim
 | halt x w' => exact h.elim
theorem OpTo.wp {o : Oper} {ar : Act} {i : Value -> World -> Prop} {K : Act -> World -> Prop} {Q : Exit -> Act -> World -> Prop} (he : execOp a.eval o = execOp ar.eval o) (h : OpTo P o a w i)
  (j : ∀ v w', i v w' -> K (ar.put o.dst v) w') : o.wp P ar w K Q := by
 unfold OpTo at h;unfold Oper.wp;rw [he] at h;generalize (execOp ar.eval o).run P w = r at *
 cases r with
 | ok n w' =>
  cases n <;> simp only [Oper.upon] at h ⊢ <;> first | exact j _ _ h | exact h.elim | skip
  exact Calls.mono h fun e l ⟨v, he, hv⟩ => by subst he; exact j _ _ hv
 | halt x w' => exact h.elim
theorem WR.eff {ops : Array Oper} {i n d : Nat} {L : Env} {o : Oper} {e : Value -> World -> Prop} (j : zO n a L) (hi : ops[i]? = some o) (hd : o.dst = some d) (hn : Nat.blt d n = true) (hw : uo ops L o = some true)
  (h : OpTo P o a w e) (hk : ∀ v w', e v w' -> ∀ a', zO n a' ((d, v) :: L) -> WR P f ops (i + 1) k a' w' R) : WR P f ops i k a w R := by
 unfold WR at *
 have l : i < ops.size := (Array.getElem?_eq_some_iff.1 hi).1;have : ops.size - i = (ops.size - (i + 1)) + 1 := by omega
 rw [this, List.range'_succ, wpOps_cons];unfold wpOp;simp only [hi, xN j hw, if_true];exact .inl (h.wp rfl fun v w' hv => hk v w' hv _ (by rw [hd]; exact j.put _ _ (by simpa [Nat.blt_eq] using hn)))
theorem WR.eff0 {ops : Array Oper} {i n : Nat} {L : Env} {o : Oper} {e : Value -> World -> Prop} (j : zO n a L) (hi : ops[i]? = some o) (hd : o.dst = none) (hw : uo ops L o = some true)
  (h : OpTo P o a w e) (hk : ∀ v w', e v w' -> ∀ a', zO n a' L -> WR P f ops (i + 1) k a' w' R) : WR P f ops i k a w R := by
 unfold WR at *
 have l : i < ops.size := (Array.getElem?_eq_some_iff.1 hi).1;have : ops.size - i = (ops.size - (i + 1)) + 1 := by omega
 rw [this, List.range'_succ, wpOps_cons];unfold wpOp;simp only [hi, xN j hw, if_true];exact .inl (h.wp rfl fun v w' hv => hk v w' hv _ (by rw [hd]; exact j))
end
def listed (m : Nat) (dn : List Nat) : Array Bool := dn.foldl (fun b i => b.setIfInBounds i true) (Array.replicate m false)
theorem mF (m : Nat) (dn : List Nat) (i : Nat) : listed m (dn ++ [i]) = (listed m dn).setIfInBounds i true := by simp [listed]
section
variable {P : Program} {f : FuncId} {k : List Item} {a : Act} {w : World} {R : Value -> World -> Prop} {ops : Array Oper}
theorem Runs.of_wp {c : Code} (h : c.wp P (RQ P f k R) a w) : Runs P f (.code c :: k) a w R := by
 intro b j hk cs;obtain ⟨e, a', w', hq, i⟩ := h b k cs;cases e with
 | normal =>
  obtain ⟨v, l, fr, t, h1, h2⟩ := hq b j hk cs;exact ⟨v, l, fr, t, i.trans h1, h2⟩
 | _ => exact hq.elim
end
theorem OpTo.of_run {P : Program} {o : Oper} {a : Act} {w w' : World} {v : Value} {e : Value -> World -> Prop} (h : (execOp a.eval o).run P w = .ok (.value v) w') (hv : e v w') : OpTo P o a w e := by
 unfold OpTo; rw [h]; exact hv
theorem OpTo.jZ {P : Program} {o : Oper} {a : Act} {w w' : World} {e : Value -> World -> Prop} (h : (execOp a.eval o).run P w = .ok .skip w') (hv : e undef w') : OpTo P o a w e := by
 unfold OpTo; rw [h]; exact hv
theorem OpTo.cY {P : Program} {o : Oper} {a : Act} {w w' : World} {g : FuncId} {args : Array Value} {e : Value -> World -> Prop} (h : (execOp a.eval o).run P w = .ok (.enter g args) w') (hv : yz P g args w' e) : OpTo P o a w e := by
 unfold OpTo; rw [h]; exact hv
def oa (L : Env) : List Operand -> Option (List Value)
 | [] => some []
 | x :: r => match evO L x, oa L r with
  | some v, some vs => some (v :: vs)
  | _, _ => none
theorem ml {n : Nat} {a : Act} {L : Env} (i : zO n a L) : ∀ (l : List Operand) (vs : List Value), oa L l = some vs -> l.map a.eval = vs
 | [], vs, h => by simp [oa] at h; simp [h]
 | x :: r, vs, h => by
  simp only [oa] at h;split at h
  ·rename_i v us hv e;cases h;simp [i.eval hv, ml i r us e]
  ·cases h
def callParts : Op -> Option (Operand × List Operand)
 | .call { callee := .value g, args, .. } => some (g, args.toList)
 | _ => none
theorem OpTo.call {P : Program} {n : Nat} {a : Act} {L : Env} {w : World} {o : Oper} {x : Operand} {xs : List Operand} {g : FuncId} {first captured : Array Value} {vs : List Value} {l : Value -> World -> Prop} (t : zO n a L)
  (i : callParts o.op = some (x, xs)) (u : evO L x = some (.func (.func g) first captured)) (j : oa L xs = some vs)
  (y : ∀ args w, (callFunc g args).run P w = .ok (.enter g args) w) (h : yz P g (first ++ vs.toArray ++ captured) w l) : OpTo P o a w l := by
 obtain ⟨dst, op, type, pos, after, guard⟩ := o;cases op <;> simp only [callParts] at i <;> try cases i
 rename_i c;obtain ⟨callee, args, ats⟩ := c;cases callee <;> simp only at i <;> try cases i
 refine OpTo.cY ?_ h;have e := ml t _ _ j;have z : args.map a.eval = vs.toArray := by
  apply Array.ext';simpa using e
 simp [execOp, resolve, Deferred.ofValue, t.eval u, invoke, y, z]
theorem OpTo.fn {P : Program} {n : Nat} {a : Act} {L : Env} {w : World} {o : Oper} {xs : List Operand} {g : FuncId} {vs : List Value} {i : Value -> World -> Prop} (j : zO n a L)
  (l : callParts o.op = some (.func g, xs)) (e : oa L xs = some vs)
  (t : ∀ args w, (callFunc g args).run P w = .ok (.enter g args) w) (h : yz P g vs.toArray w i) : OpTo P o a w i :=
 OpTo.call j l (first := #[]) (captured := #[]) rfl e t (by simpa using h)
end Go.Th
end
namespace Go.Th
noncomputable section
abbrev Hp := Nat -> Option Obj
abbrev HP := Hp -> Prop
def Sub (h g : Hp) : Prop := ∀ b o, h b = some o -> g b = some o
def Disj (h g : Hp) : Prop := ∀ b, h b = none \/ g b = none
theorem Sub.refl (h : Hp) : Sub h h := fun _ _ h => h
theorem Sub.trans {a b c : Hp} (h : Sub a b) (g : Sub b c) : Sub a c := fun x o e => g x o (h x o e)
def sepL : List HP -> HP
 | [], _ => True
 | A :: L, h => ∃ h1 h2, Disj h1 h2 /\ Sub h1 h /\ Sub h2 h /\ A h1 /\ sepL L h2
theorem mq : ∀ {L : List HP} {h g : Hp}, Sub h g -> sepL L h -> sepL L g
 | [], _, _, _, _ => trivial
 | A :: L, h, g, hs, ⟨h1, h2, hd, s1, s2, hA, e⟩ => ⟨h1, h2, hd, s1.trans hs, s2.trans hs, hA, e⟩
def union (h g : Hp) : Hp := fun b => match h b with
 | some o => some o
 | none => g b
theorem sV (h g : Hp) : Sub h (union h g) := fun b o e => by simp [union, e]
theorem si {h g : Hp} (hd : Disj h g) : Sub g (union h g) := fun b o e => by
 rcases hd b with h1 | h1
 ·simp [union, h1, e]
 ·simp [h1] at e
theorem mE {h g k : Hp} (h1 : Sub h k) (h2 : Sub g k) : Sub (union h g) k := fun b o e => by
 unfold union at e;split at e
 ·rename_i x i; cases e; exact h1 _ _ i
 ·exact h2 _ _ e
theorem qF {a b a' e : Hp} (h : Disj a b) (h1 : Sub a' a) (h2 : Sub e b) : Disj a' e := fun x => by
 rcases h x with h | h
 ·left
  cases i : a' x with
  | none => rfl
  | some o => rw [h1 x o i] at h; cases h
 ·right
  cases i : e x with
  | none => rfl
  | some o => rw [h2 x o i] at h; cases h
theorem rQ : ∀ {L M : List HP} {h : Hp}, sepL (L ++ M) h ↔ ∃ h1 h2, Disj h1 h2 /\ Sub h1 h /\ Sub h2 h /\ sepL L h1 /\ sepL M h2
 | [], M, h => by
  constructor
  ·intro j; exact ⟨fun _ => none, h, fun _ => .inl rfl, fun _ _ B => by simp at B, Sub.refl _, trivial, j⟩
  ·rintro ⟨h1, h2, hd, s1, s2, _, j⟩; exact mq s2 j
 | A :: L, M, h => by
  constructor
  ·rintro ⟨h1, h2, hd, s1, s2, hA, l⟩;obtain ⟨g1, g2, gd, t1, t2, t, j⟩ := rQ.1 l;refine ⟨union h1 g1, g2, ?_, mE s1 (t1.trans s2), t2.trans s2, ⟨h1, g1, qF hd (Sub.refl _) t1, sV _ _, si (qF hd (Sub.refl _) t1), hA, t⟩, j⟩;intro b;rcases hd b with e | e
   ·rcases gd b with i | i
    ·left; simp [union, e, i]
    ·right; exact i
   ·right
    cases u : g2 b with
    | none => rfl
    | some o => rw [t2 b o u] at e; cases e
  ·rintro ⟨h1, h2, hd, s1, s2, ⟨y, k2, kd, z, x, hA, t⟩, j⟩;refine ⟨y, union k2 h2, ?_, z.trans s1, mE (x.trans s1) s2, hA, rQ.2 ⟨k2, h2, qF hd x (Sub.refl _), sV _ _, si (qF hd x (Sub.refl _)), t, j⟩⟩;intro b;rcases kd b with e | e
   ·left; exact e
   ·rcases hd b with i | i
    ·left
     cases u : y b with
     | none => rfl
     | some o => rw [z b o u] at i; cases i
    ·right; simp [union, e, i]
theorem dg {A B : HP} {L : List HP} {h : Hp} (H : sepL (A :: B :: L) h) : sepL (B :: A :: L) h := by
 obtain ⟨h1, h2, hd, s1, s2, hA, g1, g2, gd, t1, t2, j, l⟩ := H;refine ⟨g1, union h1 g2, ?_, t1.trans s2, mE s1 (t2.trans s2), j, h1, g2, qF hd (Sub.refl _) t2, sV _ _, si (qF hd (Sub.refl _) t2), hA, l⟩;intro b;rcases gd b with e | e
 ·left; exact e
 ·rcases hd b with i | i
  ·right; simp [union, e, i]
  ·left
   cases t : g1 b with
   | none => rfl
   | some o => rw [t1 b o t] at i; cases i
theorem eT {L M : List HP} (hp : L.Perm M) : ∀ {h : Hp}, sepL L h -> sepL M h := by
 induction hp with
 | nil => exact fun h => h
 | cons x _ ih => rintro h ⟨h1, h2, hd, s1, s2, hA, j⟩; exact ⟨h1, h2, hd, s1, s2, hA, ih j⟩
 | swap x y l => exact fun h => dg h
 | trans _ _ e i => exact fun h => i (e h)
def hpOf (w : World) : Hp := fun b => w.heap[b]?
structure St (w0 : World) (As : List HP) (w : World) : Prop where
 os : w.os = w0.os
 tape : w.tape = w0.tape
 output : w.output = w0.output
 heap : sepL As (hpOf w)
theorem St.perm {w0 w : World} {As Bs : List HP} (H : St w0 As w) (hp : As.Perm Bs) : St w0 Bs w := ⟨H.os, H.tape, H.output, eT hp H.heap⟩
def ft {α : Type} : List Nat -> List α -> List α
 | [], _ => []
 | i :: is, L => match L[i]? with
  | some x => x :: ft is L
  | none => ft is L
def memB (i : Nat) : List Nat -> Bool
 | [] => false
 | j :: r => match Nat.beq i j with
  | true => true
  | false => memB i r
def fD : List Nat -> Nat -> Bool
 | is, 0 => match is with
  | [] => true
  | _ :: _ => false
 | is, n + 1 => memB n is && fD (is.erase n) n
theorem ga : ∀ {l : List Nat} {i : Nat}, memB i l = true -> i ∈ l
 | [], i, h => by simp [memB] at h
 | j :: r, i, h => by
  simp only [memB] at h;split at h
  ·rename_i e; simp [Nat.eq_of_beq_eq_true e]
  ·exact mC _ (ga h)
theorem nh : ∀ {n : Nat} {is : List Nat}, fD is n = true -> is.Perm (List.range n)
 | 0, is, h => by
  cases is with
  | nil => simp
  | cons _ _ => simp [fD] at h
 | n + 1, is, h => by
  simp only [fD, Bool.and_eq_true] at h;rw [List.range_succ];have h1 := List.perm_cons_erase (ga h.1);exact h1.trans (((nh h.2).cons n).trans (List.perm_append_singleton n (List.range n)).symm)
theorem kX {α : Type} (L : List α) : ∀ is : List Nat, ft is L = is.filterMap (L[·]?)
 | [] => rfl
 | i :: is => by
  simp only [ft, List.filterMap_cons, kX L is];cases L[i]? <;> rfl
theorem tY {α : Type} : ∀ (L : List α), (List.range L.length).filterMap (L[·]?) = L
 | [] => rfl
 | x :: L => by
  rw [lC, List.range_succ_eq_map, List.filterMap_cons];simp only [List.getElem?_cons_zero, List.filterMap_map];congr 1;have : ((fun i => (x :: L)[i]?) ∘ Nat.succ) = fun i => L[i]? := by funext i; simp
  rw [this];exact tY L
theorem St.idx {w0 w : World} {As : List HP} (H : St w0 As w) (is : List Nat) (h : fD is As.length = true) : St w0 (ft is As) w := by
 refine H.perm ?_;rw [kX];have := (nh h).filterMap (As[·]?);rw [tY] at this;exact this.symm
theorem St.ix {w0 w : World} {As : List HP} (H : St w0 As w) (is : List Nat) (h : fD is (As.take is.length).length = true) : St w0 (ft is (As.take is.length) ++ As.drop is.length) w := by
 refine H.perm ?_;have h0 : As = As.take is.length ++ As.drop is.length := (List.take_append_drop _ _).symm
 conv => lhs; rw [h0]
 refine List.Perm.append_right _ ?_;rw [kX];have := (nh h).filterMap ((As.take is.length)[·]?);rw [tY] at this;exact this.symm
theorem St.drop {w0 w : World} {A : HP} {As : List HP} (H : St w0 (A :: As) w) : St w0 As w := by
 obtain ⟨h1, h2, _, _, s2, _, e⟩ := H.heap;exact ⟨H.os, H.tape, H.output, mq s2 e⟩
theorem St.flat {w0 w : World} {Bs As : List HP} (H : St w0 (sepL Bs :: As) w) : St w0 (Bs ++ As) w :=
 ⟨H.os, H.tape, H.output, rQ.2 H.heap⟩
theorem St.group {w0 w : World} (Bs : List HP) {As : List HP} (H : St w0 (Bs ++ As) w) : St w0 (sepL Bs :: As) w :=
 ⟨H.os, H.tape, H.output, rQ.1 H.heap⟩
theorem St.head {w0 w : World} {A B : HP} {As : List HP} (H : St w0 (A :: As) w) (h : ∀ h, A h -> B h) : St w0 (B :: As) w := by
 obtain ⟨h1, h2, hd, s1, s2, hA, e⟩ := H.heap;exact ⟨H.os, H.tape, H.output, h1, h2, hd, s1, s2, h _ hA, e⟩
theorem St.ex {w0 w : World} {α : Sort _} {A : α -> HP} {As : List HP} (H : St w0 ((fun h => ∃ x, A x h) :: As) w) : ∃ x, St w0 (A x :: As) w := by
 obtain ⟨h1, h2, hd, s1, s2, ⟨x, hA⟩, e⟩ := H.heap;exact ⟨x, H.os, H.tape, H.output, h1, h2, hd, s1, s2, hA, e⟩
theorem St.fact {w0 w : World} {A : HP} {q : Prop} {As : List HP} (H : St w0 (A :: As) w) (h : ∀ h, A h -> q) : q := by
 obtain ⟨h1, h2, hd, s1, s2, hA, e⟩ := H.heap;exact h _ hA
theorem St.drew {w0 w : World} {As : List HP} (H : St w0 As w) : St w0 As { w with drawn := w.drawn + 1 } := ⟨H.os, H.tape, H.output, H.heap⟩
theorem St.drawn {w0 w : World} {As : List HP} (H : St w0 As w) (n : Nat) : St w0 As { w with drawn := n } := ⟨H.os, H.tape, H.output, H.heap⟩
theorem St.t1 {w0 w : World} {e A1 : HP} {As : List HP} (H : St w0 (e :: A1 :: As) w) : St w0 (A1 :: e :: As) w := H.ix [1, 0] rfl
theorem St.t2 {w0 w : World} {e A1 i : HP} {As : List HP} (H : St w0 (e :: A1 :: i :: As) w) : St w0 (i :: e :: A1 :: As) w := H.ix [2, 0, 1] rfl
theorem St.t3 {w0 w : World} {e A1 i j : HP} {As : List HP} (H : St w0 (e :: A1 :: i :: j :: As) w) : St w0 (j :: e :: A1 :: i :: As) w := H.ix [3, 0, 1, 2] rfl
theorem St.t4 {w0 w : World} {e A1 i j l : HP} {As : List HP} (H : St w0 (e :: A1 :: i :: j :: l :: As) w) : St w0 (l :: e :: A1 :: i :: j :: As) w := H.perm (List.perm_middle (l₁ := [e, A1, i, j]) (a := l) (l₂ := As))
theorem St.t5 {w0 w : World} {e A1 i j l t : HP} {As : List HP} (H : St w0 (e :: A1 :: i :: j :: l :: t :: As) w) : St w0 (t :: e :: A1 :: i :: j :: l :: As) w := H.perm (List.perm_middle (l₁ := [e, A1, i, j, l]) (a := t) (l₂ := As))
theorem St.t6 {w0 w : World} {e A1 i j l t u : HP} {As : List HP} (H : St w0 (e :: A1 :: i :: j :: l :: t :: u :: As) w) : St w0 (u :: e :: A1 :: i :: j :: l :: t :: As) w := H.perm (List.perm_middle (l₁ := [e, A1, i, j, l, t]) (a := u) (l₂ := As))
theorem St.t7 {w0 w : World} {e A1 i j l t u x : HP} {As : List HP} (H : St w0 (e :: A1 :: i :: j :: l :: t :: u :: x :: As) w) : St w0 (x :: e :: A1 :: i :: j :: l :: t :: u :: As) w := H.perm (List.perm_middle (l₁ := [e, A1, i, j, l, t, u]) (a := x) (l₂ := As))
theorem St.t8 {w0 w : World} {e A1 i j l t u x y : HP} {As : List HP} (H : St w0 (e :: A1 :: i :: j :: l :: t :: u :: x :: y :: As) w) : St w0 (y :: e :: A1 :: i :: j :: l :: t :: u :: x :: As) w := H.perm (List.perm_middle (l₁ := [e, A1, i, j, l, t, u, x]) (a := y) (l₂ := As))
theorem St.t9 {w0 w : World} {e A1 i j l t u x y z : HP} {As : List HP} (H : St w0 (e :: A1 :: i :: j :: l :: t :: u :: x :: y :: z :: As) w) : St w0 (z :: e :: A1 :: i :: j :: l :: t :: u :: x :: y :: As) w := H.perm (List.perm_middle (l₁ := [e, A1, i, j, l, t, u, x, y]) (a := z) (l₂ := As))
theorem St.t10 {w0 w : World} {i A1 j l t u x y z A e : HP} {As : List HP} (H : St w0 (i :: A1 :: j :: l :: t :: u :: x :: y :: z :: A :: e :: As) w) : St w0 (e :: i :: A1 :: j :: l :: t :: u :: x :: y :: z :: A :: As) w := H.perm (List.perm_middle (l₁ := [i, A1, j, l, t, u, x, y, z, A]) (a := e) (l₂ := As))
theorem St.t11 {w0 w : World} {j A1 l t u x y z A B e i : HP} {As : List HP} (H : St w0 (j :: A1 :: l :: t :: u :: x :: y :: z :: A :: B :: e :: i :: As) w) : St w0 (i :: j :: A1 :: l :: t :: u :: x :: y :: z :: A :: B :: e :: As) w := H.perm (List.perm_middle (l₁ := [j, A1, l, t, u, x, y, z, A, B, e]) (a := i) (l₂ := As))
theorem St.t12 {w0 w : World} {l A1 t u x y z A B D e i j : HP} {As : List HP} (H : St w0 (l :: A1 :: t :: u :: x :: y :: z :: A :: B :: D :: e :: i :: j :: As) w) : St w0 (j :: l :: A1 :: t :: u :: x :: y :: z :: A :: B :: D :: e :: i :: As) w := H.perm (List.perm_middle (l₁ := [l, A1, t, u, x, y, z, A, B, D, e, i]) (a := j) (l₂ := As))
theorem St.t13 {w0 w : World} {t A1 u x y z A B D F e i j l : HP} {As : List HP} (H : St w0 (t :: A1 :: u :: x :: y :: z :: A :: B :: D :: F :: e :: i :: j :: l :: As) w) : St w0 (l :: t :: A1 :: u :: x :: y :: z :: A :: B :: D :: F :: e :: i :: j :: As) w := H.perm (List.perm_middle (l₁ := [t, A1, u, x, y, z, A, B, D, F, e, i, j]) (a := l) (l₂ := As))
theorem St.t14 {w0 w : World} {u A1 x y z A B D F I e i j l t : HP} {As : List HP} (H : St w0 (u :: A1 :: x :: y :: z :: A :: B :: D :: F :: I :: e :: i :: j :: l :: t :: As) w) : St w0 (t :: u :: A1 :: x :: y :: z :: A :: B :: D :: F :: I :: e :: i :: j :: l :: As) w := H.perm (List.perm_middle (l₁ := [u, A1, x, y, z, A, B, D, F, I, e, i, j, l]) (a := t) (l₂ := As))
theorem St.x0 {w0 w : World} {e : HP} {As : List HP} (H : St w0 (e :: As) w) : St w0 (As) w := H.drop
theorem St.x1 {w0 w : World} {e A1 : HP} {As : List HP} (H : St w0 (e :: A1 :: As) w) : St w0 (e :: As) w := H.t1.drop
theorem St.x2 {w0 w : World} {e A1 i : HP} {As : List HP} (H : St w0 (e :: A1 :: i :: As) w) : St w0 (e :: A1 :: As) w := H.t2.drop
theorem St.x3 {w0 w : World} {e A1 i j : HP} {As : List HP} (H : St w0 (e :: A1 :: i :: j :: As) w) : St w0 (e :: A1 :: i :: As) w := H.t3.drop
theorem St.x4 {w0 w : World} {e A1 i j l : HP} {As : List HP} (H : St w0 (e :: A1 :: i :: j :: l :: As) w) : St w0 (e :: A1 :: i :: j :: As) w := H.t4.drop
theorem St.x5 {w0 w : World} {e A1 i j l t : HP} {As : List HP} (H : St w0 (e :: A1 :: i :: j :: l :: t :: As) w) : St w0 (e :: A1 :: i :: j :: l :: As) w := H.t5.drop
theorem St.x6 {w0 w : World} {e A1 i j l t u : HP} {As : List HP} (H : St w0 (e :: A1 :: i :: j :: l :: t :: u :: As) w) : St w0 (e :: A1 :: i :: j :: l :: t :: As) w := H.t6.drop
theorem St.x7 {w0 w : World} {e A1 i j l t u x : HP} {As : List HP} (H : St w0 (e :: A1 :: i :: j :: l :: t :: u :: x :: As) w) : St w0 (e :: A1 :: i :: j :: l :: t :: u :: As) w := H.t7.drop
theorem St.x8 {w0 w : World} {e A1 i j l t u x y : HP} {As : List HP} (H : St w0 (e :: A1 :: i :: j :: l :: t :: u :: x :: y :: As) w) : St w0 (e :: A1 :: i :: j :: l :: t :: u :: x :: As) w := H.t8.drop
theorem St.x9 {w0 w : World} {e A1 i j l t u x y z : HP} {As : List HP} (H : St w0 (e :: A1 :: i :: j :: l :: t :: u :: x :: y :: z :: As) w) : St w0 (e :: A1 :: i :: j :: l :: t :: u :: x :: y :: As) w := H.t9.drop
theorem St.x10 {w0 w : World} {i A1 j l t u x y z A e : HP} {As : List HP} (H : St w0 (i :: A1 :: j :: l :: t :: u :: x :: y :: z :: A :: e :: As) w) : St w0 (i :: A1 :: j :: l :: t :: u :: x :: y :: z :: A :: As) w := H.t10.drop
theorem St.x11 {w0 w : World} {j A1 l t u x y z A B e i : HP} {As : List HP} (H : St w0 (j :: A1 :: l :: t :: u :: x :: y :: z :: A :: B :: e :: i :: As) w) : St w0 (j :: A1 :: l :: t :: u :: x :: y :: z :: A :: B :: e :: As) w := H.t11.drop
theorem St.x12 {w0 w : World} {l A1 t u x y z A B D e i j : HP} {As : List HP} (H : St w0 (l :: A1 :: t :: u :: x :: y :: z :: A :: B :: D :: e :: i :: j :: As) w) : St w0 (l :: A1 :: t :: u :: x :: y :: z :: A :: B :: D :: e :: i :: As) w := H.t12.drop
theorem St.x13 {w0 w : World} {t A1 u x y z A B D F e i j l : HP} {As : List HP} (H : St w0 (t :: A1 :: u :: x :: y :: z :: A :: B :: D :: F :: e :: i :: j :: l :: As) w) : St w0 (t :: A1 :: u :: x :: y :: z :: A :: B :: D :: F :: e :: i :: j :: As) w := H.t13.drop
theorem St.x14 {w0 w : World} {u A1 x y z A B D F I e i j l t : HP} {As : List HP} (H : St w0 (u :: A1 :: x :: y :: z :: A :: B :: D :: F :: I :: e :: i :: j :: l :: t :: As) w) : St w0 (u :: A1 :: x :: y :: z :: A :: B :: D :: F :: I :: e :: i :: j :: l :: As) w := H.t14.drop
def One (b : Nat) (o : Obj) : HP := fun h => h b = some o
abbrev Blk (b : Nat) (T : TypeId) (cs : List Value) : HP := One b (.cells cs.toArray T (0, 0))
theorem gN {A : HP} : ∀ {As : List HP} {h : Hp} {i : Nat}, sepL As h -> As[i]? = some A -> ∃ h1, Sub h1 h /\ A h1
 | [], h, i, _, hi => by simp at hi
 | B :: As, h, i, ⟨h1, h2, hd, s1, s2, hA, e⟩, hi => by
  cases i with
  | zero => simp at hi; subst hi; exact ⟨h1, s1, hA⟩
  | succ i =>
   obtain ⟨g, j, l⟩ := gN e (by simpa using hi);exact ⟨g, j.trans s2, l⟩
theorem St.at {w0 w : World} {As : List HP} (H : St w0 As w) (i : Nat) {A : HP} (hi : As[i]? = some A) : ∃ h1, Sub h1 (hpOf w) /\ A h1 := gN H.heap hi
theorem St.one {w0 w : World} {As : List HP} (H : St w0 As w) (i : Nat) {b : Nat} {o : Obj} (hi : As[i]? = some (One b o)) : w.heap[b]? = some o := by
 obtain ⟨h1, s, h⟩ := H.at i hi;exact s _ _ h
theorem St.cell {w0 w : World} {As : List HP} (H : St w0 As w) (i : Nat) {b : Nat} {T : TypeId} {cs : List Value} (hi : As[i]? = some (Blk b T cs)) {off : Nat} {v : Value} (hv : cs[off]? = some v) :
  w.cell? ⟨b, off, none⟩ = some v := by
 simp [World.cell?, H.one i hi, hv]
theorem St.set {w0 w w' : World} {As : List HP} {b : Nat} {o o' : Obj} (H : St w0 (One b o :: As) w) (h1 : w'.os = w.os) (h2 : w'.tape = w.tape) (h3 : w'.output = w.output)
  (t : w'.heap[b]? = some o') (l : ∀ c, c ≠ b -> w'.heap[c]? = w.heap[c]?) : St w0 (One b o' :: As) w' := by
 obtain ⟨g1, g2, hd, s1, s2, hA, u⟩ := H.heap;refine ⟨h1.trans H.os, h2.trans H.tape, h3.trans H.output, fun c => if c = b then some o' else none, g2, ?_, ?_, ?_, by simp [One], u⟩
 ·intro c;by_cases i : c = b
  ·subst i
   right
   rcases hd c with e | e
   ·simp only [One] at hA; rw [hA] at e; cases e
   ·exact e
  ·left; simp [i]
 ·intro c x j;by_cases i : c = b
  ·subst i; simp at j; subst j; exact t
  ·simp [i] at j
 ·intro c x j;have i : c ≠ b := by
   rintro rfl;rcases hd c with e | e
   ·simp only [One] at hA; rw [hA] at e; cases e
   ·rw [j] at e; cases e
  have := s2 c x j;simp only [hpOf] at this ⊢;rw [l c i]; exact this
theorem St.new {w0 w w' : World} {As : List HP} {o : Obj} (H : St w0 As w) (h1 : w'.os = w.os) (h2 : w'.tape = w.tape) (h3 : w'.output = w.output)
  (t : w'.heap[w.heap.size]? = some o) (j : ∀ c, c < w.heap.size -> w'.heap[c]? = w.heap[c]?) : St w0 (One w.heap.size o :: As) w' := by
 have l : ∀ c x, hpOf w c = some x -> c < w.heap.size := fun c x e => (Array.getElem?_eq_some_iff.1 e).1
 refine ⟨h1.trans H.os, h2.trans H.tape, h3.trans H.output, fun c => if c = w.heap.size then some o else none, fun c => if c < w.heap.size then hpOf w c else none, ?_, ?_, ?_, by simp [One], mq ?_ H.heap⟩
 ·intro c;by_cases i : c = w.heap.size
  ·right; simp [i]
  ·left; simp [i]
 ·intro c x e;by_cases i : c = w.heap.size
  ·subst i; simp at e; subst e; exact t
  ·simp [i] at e
 ·intro c x e;simp only at e;split at e
  ·rename_i i; simp only [hpOf] at e ⊢; rw [j c i]; exact e
  ·cases e
 ·intro c x e;simp [l c x e];exact e
theorem St.alloc {w0 w : World} {As : List HP} (o : Obj) (H : St w0 As w) : St w0 (One w.heap.size o :: As) { w with heap := w.heap.push o } :=
 H.new rfl rfl rfl (by simp) (fun c e => by simp [Array.getElem?_push]; omega)
def Old (w0 : World) : HP := fun h => ∀ b, b < w0.heap.size -> h b = w0.heap[b]?
theorem St.begin (w0 : World) : St w0 [Old w0] w0 :=
 ⟨rfl, rfl, rfl, hpOf w0, fun _ => none, fun _ => .inr rfl, Sub.refl _, fun _ _ h => by simp at h, fun _ _ => rfl, trivial⟩
theorem St.old {w0 w : World} {As : List HP} (H : St w0 As w) (i : Nat) (hi : As[i]? = some (Old w0)) : ∀ b, b < w0.heap.size -> w.heap[b]? = w0.heap[b]? := by
 obtain ⟨h1, s, h⟩ := H.at i hi;intro b j;have := h b j;have e : w0.heap[b]? = some w0.heap[b] := by simp [j]
 rw [e] at this ⊢;exact s _ _ this
end
noncomputable section
def sM (P : Program) {α : Type} : Sem α -> List Value -> Nat -> Option (Obj × α × List Ob)
 | .new o k, e, r => match runA P (k r) [] with
  | some (v, [], _) => some (o, v, [])
  | _ => none
 | .load _ i k, e, r => match e with
  | [] => none
  | v :: e => match sM P (k v) e r with
   | some (o, x, obs) => some (o, x, .cell i v :: obs)
   | none => none
 | .program k, e, r => sM P (k P) e r
 | .mark _ k, e, r => sM P k e r
 | _, _, _ => none
theorem qh (P : Program) (w : World) {α : Type} : ∀ (s : Sem α) (e : List Value) (o : Obj) (x : α) (obs : List Ob),
  sM P s e w.heap.size = some (o, x, obs) -> xO w obs -> s.run P w = .ok x { w with heap := w.heap.push o } := by
 intro s;induction s with
 | new o k ih =>
  intro e o' x obs h i;simp only [sM] at h;split at h
  ·rename_i v rest hv;simp only [Option.some.injEq, Prod.mk.injEq] at h;obtain ⟨rfl, rfl, rfl⟩ := h;simp only [Sem.run];exact nc P _ _ _ _ _ _ hv trivial
  ·cases h
 | load m t k ih =>
  intro e o x obs h i;cases e with
  | nil => simp [sM] at h
  | cons v e =>
   simp only [sM] at h;split at h
   ·rename_i o' y j l;simp only [Option.some.injEq, Prod.mk.injEq] at h;obtain ⟨rfl, rfl, rfl⟩ := h;simp only [xO, Ob.holds] at i;simp only [Sem.run, i.1];exact ih v e _ _ _ l i.2
   ·cases h
 | program k ih => intro e o x obs h i; simp only [sM] at h; simp only [Sem.run]; exact ih P e o x obs h i
 | mark m k ih => intro e o x obs h i; simp only [sM] at h; simp only [Sem.run]; exact ih e o x obs h i
 | _ => intro e o x obs h; simp [sM] at h
theorem OpTo.new {P : Program} {n : Nat} {a : Act} {L : Env} {w w0 : World} {As : List HP} {o : Oper} (l : zO n a L) (H : St w0 As w) (j : List Value) (i : Obj) (val : Nat -> Value) {obs : List Ob}
  (e : (!rO o.op && ki L o.op.operands.toList) = true) (he : ∀ r, sM P (execOp (rho L) o) j r = some (i, .value (val r), obs)) (t : xO w obs) :
  OpTo P o a w fun v w' => ∃ r, v = val r /\ St w0 (One r i :: As) w' := by
 simp only [Bool.and_eq_true, Bool.not_eq_true'] at e;refine OpTo.of_run (w' := { w with heap := w.heap.push i }) (v := val w.heap.size) ?_ ⟨w.heap.size, rfl, H.alloc i⟩;rw [km l e.1 e.2];exact qh P w _ _ _ _ _ (he w.heap.size) t
def putAt : List Value -> Nat -> List Value -> List Value
 | cs, _, [] => cs
 | cs, off, v :: vs => putAt (cs.set off v) (off + 1) vs
theorem qt : ∀ (vs cs : List Value) (off : Nat), (putAt cs off vs).length = cs.length
 | [], cs, off => rfl
 | v :: vs, cs, off => by simp [putAt, qt vs]
theorem ud : ∀ (vs cs : List Value) (off : Nat), off + vs.length <= cs.length -> putAt cs off vs = cs.take off ++ vs ++ cs.drop (off + vs.length)
 | [], cs, off, _ => by simp [putAt]
 | v :: vs, cs, off, h => by
  simp only [lC] at h;rw [putAt, ud vs _ _ (by simp; omega)];have h1 : (cs.set off v).take (off + 1) = cs.take off ++ [v] := by
   apply List.ext_getElem?;intro i;simp only [List.getElem?_take, List.getElem?_set, List.getElem?_append, List.length_take];by_cases hi : i < off
   ·have h1 : i < off + 1 := by omega
    have h2 : i < min off cs.length := by omega
    have h3 : ¬ off = i := by omega
    simp [hi, h1, h2, h3]
   ·by_cases h2 : i = off
    ·subst h2;have h3 : ¬ i < min i cs.length := by omega
     have h4 : i - min i cs.length = 0 := by omega
     have e : i < cs.length := by omega
     simp [h3, h4, e]
    ·have h3 : ¬ i < off + 1 := by omega
     have h4 : ¬ i < min off cs.length := by omega
     have e : ([v] : List Value)[i - min off cs.length]? = none := by simp; omega
     simp [h3, h4, e]
  rw [h1, List.drop_set];have : ¬ off >= off + 1 + vs.length := by omega
  simp [aA, Nat.add_assoc, Nat.add_comm 1]
def oneB : Value -> Bool
 | .agg _ => false
 | .tuple _ => false
 | _ => true
theorem ej {v : Value} (h : oneB v = true) : v.oneCell' = true := by cases v <;> simp_all [oneB, Value.oneCell']
def pH : List Value -> Bool
 | [] => true
 | v :: r => oneB v && pH r
theorem nI : ∀ {l : List Value}, pH l = true -> ∀ v ∈ l, v.oneCell' = true
 | [], _, v, hv => by cases hv
 | u :: r, h, v, hv => by
  simp only [pH, Bool.and_eq_true] at h;cases hv with
  | head => exact ej h.1
  | tail _ hm => exact nI h.2 v hm
def vT : Op -> Option (TypeId × Operand × Operand)
 | .store t x y => some (t, x, y)
 | _ => none
theorem nk {P : Program} {w : World} {b off : Nat} {T t : TypeId} {cs : List Value} {v : Value} {ti : TypeInfo} (j : w.heap[b]? = some (.cells cs.toArray T (0, 0)))
  (hi : P.info? t = some ti) (hs : ti.size = v.cells.size) (h1 : pH v.cells.toList = true) (e : off + v.cells.size <= cs.length) :
  (Instr.storeAt t (.pointer (some ⟨b, off, none⟩)) v).run P w = .ok () (w.setRow b (putAt cs off v.cells.toList).toArray) := by
 have i := run_storeCells_at P b off T v.cells.toList 0 cs.toArray w j (by simpa using e) (nI h1);rw [ud _ _ _ (by simpa using e)];simp only [Nat.add_zero] at i;simp [Instr.storeAt, Instr.sureAddr, storeVar, sH P hi, hs];simpa using i
theorem OpTo.store {P : Program} {n : Nat} {a : Act} {L : Env} {w w0 : World} {As : List HP} {o : Oper} {b off : Nat} {T t : TypeId} {cs : List Value} {x y : Operand} {v : Value} {ti : TypeInfo} (i : zO n a L) (H : St w0 (Blk b T cs :: As) w)
  (j : vT o.op = some (t, x, y)) (u : evO L x = some (.pointer (some ⟨b, off, none⟩))) (z : evO L y = some v) (hi : P.info? t = some ti) (hs : ti.size = v.cells.size) (h1 : pH v.cells.toList = true)
  (e : off + v.cells.size <= cs.length) : OpTo P o a w fun _ w' => St w0 (Blk b T (putAt cs off v.cells.toList) :: As) w' := by
 obtain ⟨dst, op, type, pos, after, guard⟩ := o;cases op <;> simp only [vT] at j <;> try cases j
 have l := H.one 0 rfl;refine OpTo.jZ (w' := w.setRow b (putAt cs off v.cells.toList).toArray) ?_ ?_
 ·simp [execOp, i.eval u, i.eval z, nk l hi hs h1 e]
 ·exact H.set (by simp) (by simp) (by simp) (setRow_heap w b _ _ T (0, 0) l) (fun c A => setRow_other w b c _ A)
structure xX {α : Type} (enc : α -> List Value) (sz : Nat) : Prop where
 len : ∀ x, (enc x).length = sz
 one : ∀ x u, u ∈ enc x -> u.oneCell' = true
def Sl {α : Type} (T : TypeId) (enc : α -> List Value) (sz : Nat) (sb : Option Addr) (sc : Nat) (l : List α) : HP := fun h =>
 (sb = none /\ l = [] /\ sc = 0) \/ ∃ b off cs, sb = some ⟨b, off, none⟩ /\ h b = some (.cells cs T (0, 0)) /\ l.length <= sc /\ sc <= maxLen /\ off + sc * sz <= cs.size /\
  ∀ i, i < l.length * sz -> cs[off + i]? = (l.flatMap enc)[i]?
theorem yv {α : Type} {enc : α -> List Value} {sz : Nat} (he : xX enc sz) : ∀ l : List α, (l.flatMap enc).length = l.length * sz
 | [] => by simp
 | x :: l => by simp only [List.flatMap_cons, lA, he.len, yv he l, lC, Nat.succ_mul]; omega
theorem tc {α : Type} {enc : α -> List Value} {sz : Nat} (he : xX enc sz) : ∀ (l : List α) (j q : Nat) (hj : j < l.length), q < sz -> (l.flatMap enc)[j * sz + q]? = (enc l[j])[q]?
 | [], j, q, hj, hq => by simp at hj
 | x :: l, 0, q, hj, hq => by
  simp only [List.flatMap_cons, Nat.zero_mul, Nat.zero_add, List.getElem_cons_zero];rw [List.getElem?_append_left (by rw [he.len]; exact hq)]
 | x :: l, j + 1, q, hj, hq => by
  simp only [List.flatMap_cons, List.getElem_cons_succ];rw [List.getElem?_append_right (by rw [he.len, Nat.succ_mul]; omega), he.len];have e : (j + 1) * sz + q - sz = j * sz + q := by rw [Nat.succ_mul]; omega
  rw [e];exact tc he l j q (by simpa using hj) hq
theorem qD {α : Type} {enc : α -> List Value} {sz : Nat} (he : xX enc sz) (l : List α) : ∀ u ∈ l.flatMap enc, u.oneCell' = true := by
 intro u hu;obtain ⟨x, _, e⟩ := List.mem_flatMap.1 hu;exact he.one x u e
section
variable {α : Type} {T : TypeId} {enc : α -> List Value} {sz : Nat} {w0 w : World} {As : List HP}
theorem St.fl (T : TypeId) (enc : α -> List Value) (sz : Nat) (H : St w0 As w) : St w0 (Sl T enc sz none 0 [] :: As) w :=
 ⟨H.os, H.tape, H.output, fun _ => none, hpOf w, fun _ => .inl rfl, fun _ _ h => by simp at h, Sub.refl _, .inl ⟨rfl, rfl, rfl⟩, H.heap⟩
theorem St.oQ (H : St w0 As w) (i : Nat) {sb : Option Addr} {sc : Nat} {l : List α} (hi : As[i]? = some (Sl T enc sz sb sc l)) : l.length <= sc /\ sc <= maxLen := by
 obtain ⟨h1, hs, h⟩ := H.at i hi;rcases h with ⟨_, rfl, rfl⟩ | ⟨b, off, cs, rfl, j, h2, e, h3, h4⟩
 ·simp
 ·exact ⟨h2, e⟩
theorem St.Bw {sb : Option Addr} {sc : Nat} {l : List α} (H : St w0 (Sl T enc sz sb sc l :: As) w) (he : xX enc sz) (lo hi : Nat) (h1 : lo <= hi) (h2 : hi <= l.length) :
  St w0 (Sl T enc sz (yF sb sc lo sz) (sc - lo) ((l.take hi).drop lo) :: As) w := by
 refine H.head fun h hh => ?_
 rcases hh with ⟨rfl, rfl, rfl⟩ | ⟨b, off, cs, rfl, x, h3, I, h4, A⟩
 ·simp at h2; subst h2;have : lo = 0 := by omega
  subst this
  left; simp [yF]
 ·right
  have hlen : ((l.take hi).drop lo).length = hi - lo := by simp [Nat.min_eq_left h2]
  have key : ∀ i, i < (hi - lo) * sz -> (((l.take hi).drop lo).flatMap enc)[i]? = (l.flatMap enc)[lo * sz + i]? := by
   intro i e;have j : 0 < sz := by
    rcases Nat.eq_zero_or_pos sz with h | h
    ·subst h; simp at e
    ·exact h
   have hj : i / sz < hi - lo := Nat.div_lt_of_lt_mul (by rw [Nat.mul_comm]; exact e);have hq : i % sz < sz := Nat.mod_lt _ j;have t : i = (i / sz) * sz + i % sz := by rw [Nat.mul_comm]; exact (Nat.div_add_mod i sz).symm
   have u := tc he ((l.take hi).drop lo) (i / sz) (i % sz) (by rw [hlen]; exact hj) hq;have y := tc he l (lo + i / sz) (i % sz) (by omega) hq;have B : ((l.take hi).drop lo)[i / sz]'(by rw [hlen]; exact hj) = l[lo + i / sz]'(by omega) := by simp
   rw [B] at u;rw [<- t] at u;have D : (lo + i / sz) * sz + i % sz = lo * sz + i := by rw [Nat.add_mul]; omega
   rw [D] at y;rw [u, y]
  by_cases z : sc = lo
  ·subst z;refine ⟨b, off, cs, by simp [yF], x, by rw [hlen]; omega, by omega, by simp; omega, fun i e => ?_⟩;rw [hlen] at e;have : hi - sc = 0 := by omega
   rw [this] at e; simp at e
  ·refine ⟨b, off + lo * sz, cs, by simp [yF, z, vS], x, by rw [hlen]; omega, by omega, ?_, fun i e => ?_⟩
   ·have : (sc - lo) * sz = sc * sz - lo * sz := Nat.sub_mul _ _ _;have F : lo * sz <= sc * sz := Nat.mul_le_mul_right _ (by omega);omega
   ·rw [hlen] at e;rw [key i e, Nat.add_assoc];refine A _ ?_;have F : lo * sz + (hi - lo) * sz = hi * sz := by rw [<- Nat.add_mul]; congr 1; omega
    have J : hi * sz <= l.length * sz := Nat.mul_le_mul_right _ h2;omega
theorem St.slOf {b : Nat} {cs : Array Value} {l : List α} {sc : Nat} (H : St w0 (One b (.cells cs T (0, 0)) :: As) w) (he : xX enc sz) (h1 : l.length <= sc) (h2 : sc <= maxLen) (h3 : sc * sz <= cs.size)
  (h4 : ∀ i, i < l.length * sz -> cs[i]? = (l.flatMap enc)[i]?) : St w0 (Sl T enc sz (some ⟨b, 0, none⟩) sc l :: As) w :=
 H.head fun h hh => .inr ⟨b, 0, cs, rfl, hh, h1, h2, by omega, fun i hi => by rw [Nat.zero_add]; exact h4 i hi⟩
end
theorem St.jI {α : Type} {T : TypeId} {enc : α -> List Value} {sz : Nat} {w0 w : World} {As : List HP} {sb : Option Addr} {sc : Nat} {l : List α} (H : St w0 (Sl T enc sz sb sc l :: As) w) :
  (sb = none /\ l = [] /\ sc = 0) \/ ∃ b off cs, sb = some ⟨b, off, none⟩ /\ St w0 (One b (.cells cs T (0, 0)) :: As) w /\ l.length <= sc /\ sc <= maxLen /\ off + sc * sz <= cs.size /\
  ∀ i, i < l.length * sz -> cs[off + i]? = (l.flatMap enc)[i]? := by
 obtain ⟨h1, h2, hd, s1, s2, hA, e⟩ := H.heap;rcases hA with h | ⟨b, off, cs, j, t, rest⟩
 ·exact .inl h
 ·exact .inr ⟨b, off, cs, j, ⟨H.os, H.tape, H.output, h1, h2, hd, s1, s2, t, e⟩, rest⟩
def Rd (w : World) (xb : Option Addr) (news : List Value) : Prop := news = [] \/ ∃ e, xb = some e /\ ∀ j u, news[j]? = some u -> w.cell? (e.add j) = some u
theorem qv {P : Program} {w : World} {xb : Option Addr} {news : List Value} {size m len cap : Nat} (h : Rd w xb news) (hl : news.length = m * size) :
  (Builtin.firstCells size m (.slice xb len cap)).run P w = .ok news.toArray w := by
 rcases h with rfl | ⟨e, rfl, h⟩
 ·cases xb with
  | none => exact run_firstCells_none (P := P) (w := w) size m len cap
  | some a => exact run_firstCells_some (P := P) w size m a len cap [] hl (by simp)
 ·exact run_firstCells_some (P := P) w size m e len cap news hl h
section
variable {α : Type} {T : TypeId} {enc : α -> List Value} {sz : Nat} {w0 w : World} {As : List HP} {P : Program}
theorem kr {t u ty : TypeId} {d : TypeId} {ti : TypeInfo} {sb xb : Option Addr} {sc xc m : Nat} {l ys : List α} (H : St w0 (Sl T enc sz sb sc l :: As) w) (he : xX enc sz)
  (ht : P.underlying t = some (.slice T)) (hu : P.underlying u = some (.slice d)) (hi : P.info? T = some ti) (B : ti.size = sz) {z : Value} (hz : ti.zero = some z) (X : z.cells.size = sz)
  (hm : m = ys.length) (hr : Rd w xb (ys.flatMap enc)) (D : l.length + ys.length <= maxLen) (Y : (l.length + ys.length) * ti.bytes <= 140737488355328) :
  ∃ sb' sc' w', (Builtin.append_ #[t, u] ty #[.slice sb l.length sc, .slice xb m xc]).run P w = .ok (.slice sb' (l ++ ys).length sc') w' /\ St w0 (Sl T enc sz sb' sc' (l ++ ys) :: As) w' := by
 subst hm;have x : (ys.flatMap enc).length = ys.length * sz := yv he ys;have y : (l.flatMap enc).length = l.length * sz := yv he l;have J : (l ++ ys).flatMap enc = l.flatMap enc ++ ys.flatMap enc := by simp
 have Z : ¬ (9223372036854775807 < ((l.length : Int) + (ys.length : Int))) := by simp only [maxLen] at D; omega
 by_cases e : l.length + ys.length <= sc
 ·rcases H.jI with ⟨rfl, rfl, rfl⟩ | ⟨b, off, cs, rfl, H1, h1, h2, h3, h4⟩
  ·have hy : ys = [] := List.eq_nil_of_length_eq_zero (by simpa using e);subst hy;refine ⟨none, 0, w, ?_, H⟩;have hf := qv (P := P) (size := ti.size) (m := 0) (len := 0) (cap := xc) hr (by simp);simp only [List.flatMap_nil] at hf;simp [Builtin.append_, xx P ht, xx P hu, sizeOf, typeInfo, hi, Builtin.lenOf, hf]
  ·have hb := H1.one 0 rfl;have A : off + l.length * sz + 0 + (ys.flatMap enc).length <= cs.size := by
    rw [x];have : (l.length + ys.length) * sz <= sc * sz := Nat.mul_le_mul_right _ e;rw [Nat.add_mul] at this;omega
   have O := run_storeCells_at P b (off + l.length * sz) T (ys.flatMap enc) 0 cs w hb A (qD he ys);simp only [Nat.add_zero] at O A;have F := A;rw [x] at F;refine ⟨some ⟨b, off, none⟩, sc, w.setRow b (cs.toList.take (off + l.length * sz) ++ ys.flatMap enc ++ cs.toList.drop (off + l.length * sz + (ys.flatMap enc).length)).toArray, ?_, ?_⟩
   ·have hf := qv (P := P) (size := ti.size) (m := ys.length) (len := ys.length) (cap := xc) hr (by rw [x, B]);have S : (storeCells ((⟨b, off, none⟩ : Addr).add (l.length * ti.size)) (ys.flatMap enc) 0).run P w = .ok () (w.setRow b (cs.toList.take (off + l.length * sz) ++ ys.flatMap enc ++ cs.toList.drop (off + l.length * sz + (ys.flatMap enc).length)).toArray) := by
     rw [vS, B]; exact O
    simp [Builtin.append_, xx P ht, xx P hu, sizeOf, typeInfo, hi, Builtin.lenOf, e, hf, S]
   ·have H2 := H1.set (o' := .cells (cs.toList.take (off + l.length * sz) ++ ys.flatMap enc ++ cs.toList.drop (off + l.length * sz + (ys.flatMap enc).length)).toArray T (0, 0)) (setRow_os _ _ _) (setRow_tape _ _ _) (setRow_output _ _ _) (setRow_heap w b cs _ T (0, 0) hb) (fun c hc => setRow_other w b c _ hc);refine H2.head fun h hh => .inr ⟨b, off, _, rfl, hh, by simpa using e, h2, ?_, ?_⟩
    ·simp only [List.size_toArray, lA, List.length_take, List.length_drop, Array.length_toList]; omega
    ·intro i I;simp only [lA, Nat.add_mul] at I;rw [J];simp only [List.getElem?_toArray];by_cases U : i < l.length * sz
     ·rw [aA, List.getElem?_append_left (by simp only [List.length_take, Array.length_toList]; omega), List.getElem?_take, if_pos (by omega), List.getElem?_append_left (by rw [y]; exact U)];rw [<- h4 i U]; simp
     ·rw [List.getElem?_append_left (by simp only [lA, List.length_take, Array.length_toList, x]; omega), List.getElem?_append_right (by simp only [List.length_take, Array.length_toList]; omega), List.getElem?_append_right (by rw [y]; omega)];congr 1;simp only [List.length_take, Array.length_toList, y]; omega
 ·have a8 : 0 < ys.length := by
   have := (H.oQ 0 rfl).1; omega
  have a1 : ¬ (281474976710656 < Builtin.nextslicecap (l.length + ys.length) sc * ti.bytes) := by
   have := growslice_fits (need := l.length + ys.length) (old := sc) (by omega) Y;omega
  have a2 := grownCap_ge w (l.length + ys.length) sc T;have a3 := grownCap_le_maxLen w (l.length + ys.length) sc T D;have a4 : Rd w.drew xb (ys.flatMap enc) := by
   rcases hr with h | ⟨xa, h1, h2⟩
   ·exact .inl h
   ·exact .inr ⟨xa, h1, by simpa using h2⟩
  have hf := qv (P := P) (size := ti.size) (m := ys.length) (len := ys.length) (cap := xc) a4 (by rw [x, B]);have a5 : (Builtin.firstCells ti.size l.length (.slice sb l.length sc)).run P w.drew = .ok (l.flatMap enc).toArray w.drew := by
   refine qv ?_ (by rw [y, B]);rcases H.jI with ⟨_, rfl, _⟩ | ⟨b, off, cs, rfl, H1, h1, h2, h3, h4⟩
   ·exact .inl rfl
   ·refine .inr ⟨_, rfl, fun j u hj => ?_⟩;have W := (List.getElem?_eq_some_iff.1 hj).1;rw [y] at W;have := h4 j W;rw [hj] at this;have a6 : w.drew.heap[b]? = some (.cells cs T (0, 0)) := H1.one 0 rfl;simp [World.cell?, vS, a6, this]
  refine ⟨some ⟨w.heap.size, 0, none⟩, grownCap w (l.length + ys.length) sc T, w.drew.alloc (.cells ((l.flatMap enc).toArray ++ (ys.flatMap enc).toArray ++ Builtin.zeroCells z.cells (grownCap w (l.length + ys.length) sc T - (l.length + ys.length))) T), ?_, ?_⟩
  ·have hn : ¬ (l.length + ys.length <= sc) := e;simp [Builtin.append_, xx P ht, xx P hu, sizeOf, typeInfo, zeroValue, hi, hz, Builtin.lenOf, hn, Z, a1, Question.forced, hf, a5, newRow, grownCap];congr 2;apply Array.ext';simp [aA]
  ·have H2 := (H.drop.drew).alloc (.cells ((l.flatMap enc).toArray ++ (ys.flatMap enc).toArray ++ Builtin.zeroCells z.cells (grownCap w (l.length + ys.length) sc T - (l.length + ys.length))) T (0, 0));refine St.slOf (b := w.heap.size) H2 he (by simpa using a2) a3 ?_ ?_
   ·simp only [Array.size_append, List.size_toArray, size_zeroCells, X, x, y, <- Nat.add_mul];refine Nat.mul_le_mul_right _ ?_;omega
   ·intro i I;simp only [lA, Nat.add_mul] at I;rw [J];rw [Array.getElem?_append_left (by simp only [Array.size_append, List.size_toArray, x, y]; omega)];simp
theorem OpTo.append {n : Nat} {a : Act} {L : Env} {o : Oper} {x y : Operand} {t u : TypeId} {d : TypeId} {ti : TypeInfo} {sb xb : Option Addr} {sc xc m : Nat} {l : List α} (ys : List α) (D : zO n a L) (H : St w0 (Sl T enc sz sb sc l :: As) w) (he : xX enc sz)
  (F : o.op = .call { callee := .builtin .append, args := #[x, y], argTypes := #[t, u] }) (I : evO L x = some (.slice sb l.length sc)) (J : evO L y = some (.slice xb m xc))
  (ht : P.underlying t = some (.slice T)) (hu : P.underlying u = some (.slice d)) (hi : P.info? T = some ti) (j : ti.size = sz) {z : Value} (hz : ti.zero = some z) (A : z.cells.size = sz)
  (hm : m = ys.length) (hr : Rd w xb (ys.flatMap enc)) (e : l.length + ys.length <= maxLen) (B : (l.length + ys.length) * ti.bytes <= 140737488355328) :
  OpTo P o a w fun v w' => ∃ sb' sc', v = .slice sb' (l ++ ys).length sc' /\ St w0 (Sl T enc sz sb' sc' (l ++ ys) :: As) w' := by
 obtain ⟨dst, op, type, pos, after, guard⟩ := o;simp only at F;subst F;obtain ⟨sb', sc', w', i, O⟩ := kr (P := P) (ty := type) (xc := xc) H he ht hu hi j hz A hm hr e B;refine OpTo.of_run ?_ ⟨sb', sc', rfl, O⟩;simp [execOp, resolve, invoke, builtin, D.eval I, D.eval J, i]
end
def w64 (x : Int) : Int := IntKind.i64.wrap x
def mIdx {α : Type} (l : List α) (i : Int) : Option α := if 0 <= i then l[i.toNat]? else none
def mSet {α : Type} (l : List α) (i : Int) (x : α) : List α := l.set i.toNat x
def mApp {α : Type} (l ys : List α) : Option (List α) := if l.length + ys.length <= 1073741824 then some (l ++ ys) else none
def mCut {α : Type} (l : List α) (lo hi : Int) : Option (List α) := if 0 <= lo /\ lo <= hi /\ hi <= l.length then some ((l.take hi.toNat).drop lo.toNat) else none
def ecI (x : Int) : List Value := [.int .i64 x]
theorem wE : xX ecI 1 := ⟨fun _ => rfl, fun x u hu => by simp [ecI] at hu; subst hu; rfl⟩
theorem sC {α : Type} {l : List α} {i : Int} {x : α} (h : mIdx l i = some x) : (0 <= i /\ i < (l.length : Int)) /\ l[i.toNat]? = some x := by
 unfold mIdx at h;split at h
 ·rename_i h0;refine ⟨⟨h0, ?_⟩, h⟩;have := (List.getElem?_eq_some_iff.1 h).1;omega
 ·cases h
theorem gZ {α : Type} {l ys r : List α} (h : mApp l ys = some r) : r = l ++ ys /\ l.length + ys.length <= 1073741824 := by
 unfold mApp at h;split at h
 ·cases h; exact ⟨rfl, by assumption⟩
 ·cases h
theorem ta {α : Type} {l r : List α} {lo hi : Int} (h : mCut l lo hi = some r) : (0 <= lo /\ lo <= hi /\ hi <= l.length) /\ r = (l.take hi.toNat).drop lo.toNat := by
 unfold mCut at h;split at h
 ·cases h; exact ⟨by assumption, rfl⟩
 ·cases h
theorem tJ {α : Type} (l : List α) (i : Int) (x : α) : (mSet l i x).length = l.length := by simp [mSet]
theorem bind_some {α β : Type} {x : Option α} {f : α -> Option β} {r : β} (h : x.bind f = some r) : ∃ y, x = some y /\ f y = some r := by
 cases x with
 | none => cases h
 | some y => exact ⟨y, rfl, h⟩
theorem ye {α : Type} {b : Bool} {x y z : α} (c : b = true) (h : cond b x y = z) : x = z := by subst c; exact h
theorem yd {α : Type} {b : Bool} {x y z : α} (c : b = false) (h : cond b x y = z) : y = z := by subst c; exact h
theorem zO.sel {n : Nat} {a : Act} {L Lo : Env} (e : zO n a L) (ks : List Nat) (h : Th.sel ks L = some Lo) : zO n a Lo := sZ e h
theorem Runs.join {P : Program} {f : FuncId} {c : Code} {k : List Item} {a : Act} {w : World} {R : Value -> World -> Prop} (J : Act -> World -> Prop)
  (h1 : (∀ a w, J a w -> Runs P f k a w R) -> Runs P f (.code c :: k) a w R) (h2 : ∀ a w, J a w -> Runs P f k a w R) : Runs P f (.code c :: k) a w R := h1 h2
section
variable {α : Type} {T : TypeId} {enc : α -> List Value} {sz : Nat} {w0 w : World} {As : List HP} {P : Program}
theorem fk {x' : α} (he : xX enc sz) : ∀ (l : List α) (j : Nat) (q : Nat) (vs : List Value), (hj : j < l.length) -> enc x' = putAt (enc l[j]) q vs -> q + vs.length <= sz ->
  (l.set j x').flatMap enc = putAt (l.flatMap enc) (j * sz + q) vs
 | [], j, q, vs, hj, h, hq => by simp at hj
 | x :: l, 0, q, vs, hj, h, hq => by
  simp only [List.getElem_cons_zero] at h;simp only [List.set_cons_zero, List.flatMap_cons, Nat.zero_mul, Nat.zero_add];rw [h, ud _ _ _ (by rw [he.len]; omega), ud _ _ _ (by rw [lA, he.len]; omega)];rw [List.take_append_of_le_length (by rw [he.len]; omega), List.drop_append_of_le_length (by rw [he.len]; omega)];simp [aA]
 | x :: l, j + 1, q, vs, hj, h, hq => by
  simp only [List.getElem_cons_succ] at h;simp only [List.set_cons_succ, List.flatMap_cons];have i : j < l.length := by simpa using hj
  rw [fk he l j q vs i h hq];have hl : (l.flatMap enc).length = l.length * sz := yv he l;have t : (j + 1) * sz <= l.length * sz := Nat.mul_le_mul_right _ i;rw [Nat.succ_mul] at t;have e : (j + 1) * sz + q = (enc x).length + (j * sz + q) := by rw [he.len, Nat.succ_mul]; omega
  rw [ud _ _ _ (by rw [hl]; omega), e, ud _ _ _ (by rw [lA, hl, Nat.add_assoc]; omega)];rw [List.take_append, List.drop_append];have u : (enc x).length + (j * sz + q) - (enc x).length = j * sz + q := by omega
  have y : (enc x).length + (j * sz + q) + vs.length - (enc x).length = j * sz + q + vs.length := by omega
  rw [u, y, List.take_of_length_le (l := enc x) (by omega), List.drop_of_length_le (l := enc x) (by omega)];simp [aA]
theorem OpTo.kV {n : Nat} {a : Act} {L : Env} {o : Oper} {b off q : Nat} {t : TypeId} {sb : Option Addr} {sc : Nat} {l : List α} {z : Int} {x x' : α} {Y Z : Operand} {v : Value} {ti : TypeInfo} (hE : zO n a L) (H : St w0 (Sl T enc sz sb sc l :: As) w) (he : xX enc sz)
  (ho : vT o.op = some (t, Y, Z)) (I : sb = some ⟨b, off, none⟩) (B : mIdx l z = some x) (hx : evO L Y = some (.pointer (some ⟨b, off + z.toNat * sz + q, none⟩))) (hy : evO L Z = some v) (hi : P.info? t = some ti) (hs : ti.size = v.cells.size) (h1 : pH v.cells.toList = true)
  (hq : q + v.cells.size <= sz) (J : enc x' = putAt (enc x) q v.cells.toList) : OpTo P o a w fun _ w' => St w0 (Sl T enc sz sb sc (mSet l z x') :: As) w' := by
 subst I;obtain ⟨hb, hg⟩ := sC B;obtain ⟨D, O⟩ := List.getElem?_eq_some_iff.1 hg;rcases H.jI with ⟨h, _⟩ | ⟨b', a0, cs, e, H1, h3, h4, h5, h6⟩
 ·cases h
 ·cases e;have hmul : (z.toNat + 1) * sz <= l.length * sz := Nat.mul_le_mul_right _ D;have S : l.length * sz <= sc * sz := Nat.mul_le_mul_right _ h3;rw [Nat.succ_mul] at hmul;have F : St w0 (Blk b T cs.toList :: As) w := by simpa [Blk] using H1
  have U := OpTo.store (P := P) (o := o) (b := b) (off := off + z.toNat * sz + q) (cs := cs.toList) hE F ho hx hy hi hs h1 (by simp; omega);refine U.mono fun u w' H2 => ?_
  refine H2.head fun h hh => .inr ⟨b, off, _, rfl, hh, by simpa [mSet] using h3, h4, by simp [qt]; omega, fun i A => ?_⟩
  have hlen : (mSet l z x').length = l.length := by simp [mSet]
  rw [hlen] at A;have y : v.cells.toList.length = v.cells.size := by simp
  have W := fk he l z.toNat q v.cells.toList D (by rw [O]; exact J) (by rw [y]; exact hq);have X : (l.flatMap enc).length = l.length * sz := yv he l;unfold mSet;rw [W];simp only [List.getElem?_toArray];rw [ud _ _ _ (by simp; omega), ud _ _ _ (by rw [X, y]; omega)];have hcs : ∀ j, j < l.length * sz -> cs.toList[off + j]? = (l.flatMap enc)[j]? := fun j hj => by rw [<- h6 j hj]; simp
  have a8 : cs.toList.length = cs.size := by simp
  by_cases c1 : i < z.toNat * sz + q
  ·rw [aA, aA, List.getElem?_append_left (by rw [List.length_take]; omega), List.getElem?_append_left (by rw [List.length_take]; omega), List.getElem?_take, List.getElem?_take, if_pos (by omega), if_pos c1];exact hcs i A
  ·by_cases c2 : i < z.toNat * sz + q + v.cells.size
   ·rw [List.getElem?_append_left (by simp only [lA, List.length_take, y]; omega), List.getElem?_append_right (by rw [List.length_take]; omega),
     List.getElem?_append_left (by simp only [lA, List.length_take, y]; omega), List.getElem?_append_right (by rw [List.length_take]; omega)]
    congr 1;rw [List.length_take, List.length_take]; omega
   ·rw [List.getElem?_append_right (by simp only [lA, List.length_take, y]; omega), List.getElem?_append_right (by simp only [lA, List.length_take, y]; omega), List.getElem?_drop, List.getElem?_drop];have e1 : off + z.toNat * sz + q + v.cells.toList.length + (off + i - (List.take (off + z.toNat * sz + q) cs.toList ++ v.cells.toList).length) = off + i := by
     simp only [lA, List.length_take, y]; omega
    have e2 : z.toNat * sz + q + v.cells.toList.length + (i - (List.take (z.toNat * sz + q) (l.flatMap enc) ++ v.cells.toList).length) = i := by
     simp only [lA, List.length_take, y]; omega
    rw [e1, e2];exact hcs i A
end
def SlRd {α : Type} (X : HP) (enc : α -> List Value) (sz : Nat) (sb : Option Addr) (l : List α) : Prop :=
 ∀ h, X h -> l = [] \/ ∃ b off cs T fr, sb = some ⟨b, off, none⟩ /\ h b = some (.cells cs T fr) /\ ∀ i, i < l.length * sz -> cs[off + i]? = (l.flatMap enc)[i]?
section
variable {α : Type} {T : TypeId} {enc : α -> List Value} {sz : Nat} {w0 w : World} {As : List HP} {P : Program}
theorem yN (T : TypeId) (enc : α -> List Value) (sz : Nat) (sb : Option Addr) (sc : Nat) (l : List α) : SlRd (Sl T enc sz sb sc l) enc sz sb l := by
 rintro h (⟨_, hl, _⟩ | ⟨b, off, cs, e, i, _, _, _, j⟩)
 ·exact .inl hl
 ·exact .inr ⟨b, off, cs, T, (0, 0), e, i, j⟩
theorem SlRd.all {X : HP} {sb : Option Addr} {l : List α} (hX : SlRd X enc sz sb l) (he : xX enc sz) (H : St w0 As w) (i : Nat) (hi : As[i]? = some X) : Rd w sb (l.flatMap enc) := by
 obtain ⟨h1, hs, h⟩ := H.at i hi;rcases hX h1 h with rfl | ⟨b, off, cs, T, fr, rfl, x, y⟩
 ·exact .inl rfl
 ·refine .inr ⟨_, rfl, fun j u hj => ?_⟩;have e := (List.getElem?_eq_some_iff.1 hj).1;rw [yv he] at e;have t := hs _ _ x;simp only [hpOf] at t;have := y j e;rw [hj] at this;simp [vS, World.cell?, t, this]
theorem SlRd.idx {X : HP} {sb : Option Addr} {l : List α} (hX : SlRd X enc sz sb l) (he : xX enc sz) (H : St w0 As w) (i : Nat) (hi : As[i]? = some X) {t : Int} {x : α} (F : mIdx l t = some x) :
  ∃ b off, sb = some ⟨b, off, none⟩ /\ (0 <= t /\ t < (l.length : Int)) /\ ∀ q v, (enc x)[q]? = some v -> w.cell? ⟨b, off + t.toNat * sz + q, none⟩ = some v := by
 obtain ⟨D, I⟩ := sC F;obtain ⟨j, u⟩ := List.getElem?_eq_some_iff.1 I;rcases hX.all he H i hi with h | ⟨O, y, J⟩
 ·obtain ⟨h1, hs, hh⟩ := H.at i hi;rcases hX h1 hh with rfl | ⟨b, off, cs, T, fr, rfl, z, A⟩
  ·simp at j
  ·refine ⟨b, off, rfl, D, fun q v hv => ?_⟩;have hq : q < sz := by have := (List.getElem?_eq_some_iff.1 hv).1; rw [he.len] at this; exact this
   have := yv he l;rw [h] at this;have h2 : (t.toNat + 1) * sz <= l.length * sz := Nat.mul_le_mul_right _ j;rw [Nat.succ_mul] at h2;simp at this; omega
 ·obtain ⟨h1, hs, hh⟩ := H.at i hi;rcases hX h1 hh with rfl | ⟨b, off, cs, T, fr, B, z, A⟩
  ·simp at j
  ·refine ⟨b, off, B, D, fun q v hv => ?_⟩;rw [y] at B;cases B;have hq : q < sz := by have := (List.getElem?_eq_some_iff.1 hv).1; rw [he.len] at this; exact this
   have e := J (t.toNat * sz + q) v (by rw [tc he l _ _ j hq, u]; exact hv);rw [vS, <- Nat.add_assoc] at e;exact e
theorem SlRd.cut {X : HP} {sb : Option Addr} {l r : List α} {sc lo : Nat} {hi : Nat} (hX : SlRd X enc sz sb l) (he : xX enc sz) (h1 : lo <= hi) (h2 : hi <= l.length) (h3 : hi <= sc) (hr : r = (l.take hi).drop lo) : SlRd X enc sz (yF sb sc lo sz) r := by
 intro h hh;subst hr;rcases hX h hh with rfl | ⟨b, off, cs, T, fr, rfl, z, A⟩
 ·exact .inl (by simp)
 ·by_cases hz : hi - lo = 0
  ·left; apply List.eq_nil_of_length_eq_zero; simp; omega
  ·right
   have hlen : ((l.take hi).drop lo).length = hi - lo := by simp [Nat.min_eq_left h2]
   have j : ¬ sc = lo := by omega
   refine ⟨b, off + lo * sz, cs, T, fr, by simp [yF, j, vS], z, fun i e => ?_⟩;rw [hlen] at e;have t : 0 < sz := by
    rcases Nat.eq_zero_or_pos sz with h | h
    ·subst h; simp at e
    ·exact h
   have hj : i / sz < hi - lo := Nat.div_lt_of_lt_mul (by rw [Nat.mul_comm]; exact e);have hq : i % sz < sz := Nat.mod_lt _ t;have u : (i / sz) * sz + i % sz = i := by rw [Nat.mul_comm]; exact Nat.div_add_mod i sz
   have x := tc he ((l.take hi).drop lo) (i / sz) (i % sz) (by rw [hlen]; exact hj) hq;have y := tc he l (lo + i / sz) (i % sz) (by omega) hq;have B : ((l.take hi).drop lo)[i / sz]'(by rw [hlen]; exact hj) = l[lo + i / sz]'(by omega) := by simp
   rw [B, u] at x;have D : (lo + i / sz) * sz + i % sz = lo * sz + i := by rw [Nat.add_mul]; omega
   rw [D] at y;rw [x, <- y, Nat.add_assoc];refine A _ ?_;have F : lo * sz + (hi - lo) * sz = hi * sz := by rw [<- Nat.add_mul]; congr 1; omega
   have I : hi * sz <= l.length * sz := Nat.mul_le_mul_right _ h2;omega
theorem OpTo.oO {n : Nat} {a : Act} {L : Env} {o : Oper} (t : zO n a L) (H : St w0 As w) (he : xX enc sz) (xs : List α) {cs : Array Value} {m : Nat}
  (j : (!rO o.op && ki L o.op.operands.toList) = true) (hr : ∀ r, sM P (execOp (rho L) o) [] r = some (.cells cs T (0, 0), .value (.slice (some ⟨r, 0, none⟩) m m), [])) (hm : m = xs.length) (e : Nat.ble m 1000000 = true) (l : cs.toList = xs.flatMap enc) :
  OpTo P o a w fun v w' => ∃ r : Nat, v = .slice (some ⟨r, 0, none⟩) xs.length m /\ St w0 (Sl T enc sz (some ⟨r, 0, none⟩) m xs :: As) w' := by
 have h := OpTo.new (P := P) t H [] (.cells cs T (0, 0)) (fun r => .slice (some ⟨r, 0, none⟩) m m) j hr trivial;refine h.mono ?_;rintro v w' ⟨r, rfl, u⟩;have x := Nat.le_of_ble_eq_true e;have y : cs.size = m * sz := by rw [<- Array.length_toList, l, yv he, hm]
 subst hm;exact ⟨r, rfl, St.slOf u he (Nat.le_refl _) (by unfold maxLen; omega) (by omega) fun i hi => by rw [<- l]; simp⟩
theorem St.eH {sb sb' : Option Addr} {sc sc' : Nat} {l r : List α} {lo hi : Int} (H : St w0 (Sl T enc sz sb sc l :: As) w) (he : xX enc sz) (hr : mCut l lo hi = some r) (h1 : yF sb sc lo.toNat sz = sb') (h2 : sc - lo.toNat = sc') :
  St w0 (Sl T enc sz sb' sc' r :: As) w := by
 obtain ⟨⟨h3, h4, e⟩, rfl⟩ := ta hr;subst h1; subst h2;exact H.Bw he lo.toNat hi.toNat (by omega) (by omega)
theorem qZ {l r : List α} {lo hi : Int} (hr : mCut l lo hi = some r) : hi.toNat - lo.toNat = r.length := by
 obtain ⟨⟨h3, h4, e⟩, rfl⟩ := ta hr;simp; omega
theorem bI {l r : List α} {lo hi : Int} (hr : mCut l lo hi = some r) : 0 <= lo /\ lo <= (hi.toNat : Int) := by
 obtain ⟨⟨h3, h4, e⟩, rfl⟩ := ta hr;omega
theorem kB {α : Type} {l r : List α} {lo : Int} {n : Nat} (hr : mCut l lo (n : Int) = some r) : 0 <= lo /\ lo <= (n : Int) := by
 have := bI hr;simpa using this
theorem ba {α : Type} {l r : List α} {lo hi : Int} {sc sc' : Nat} (hr : mCut l lo hi = some r) (i : l.length <= sc) (h : sc - lo.toNat = sc') : r.length <= sc' := by
 have e := qZ hr;obtain ⟨⟨h3, h4, j⟩, _⟩ := ta hr;omega
theorem iH {l r : List α} {lo hi : Int} {sc : Nat} (hr : mCut l lo hi = some r) (e : l.length <= sc) : 0 <= hi /\ hi <= (sc : Int) := by
 obtain ⟨⟨h3, h4, i⟩, rfl⟩ := ta hr;omega
theorem SlRd.cut' {X : HP} {sb sb' : Option Addr} {l r : List α} {sc : Nat} {lo hi : Int} (hX : SlRd X enc sz sb l) (he : xX enc sz) (hr : mCut l lo hi = some r) (i : l.length <= sc) (h1 : yF sb sc lo.toNat sz = sb') : SlRd X enc sz sb' r := by
 obtain ⟨⟨h3, h4, j⟩, e⟩ := ta hr;subst h1;exact hX.cut he (by omega) (by omega) (by omega) e
end
def mNz (x : Int) : Option Unit := if x ≠ 0 then some () else none
def mNn (x : Int) : Option Unit := if 0 <= x then some () else none
theorem aE {x : Int} {u : Unit} (h : mNz x = some u) : x ≠ 0 := by
 unfold mNz at h;split at h
 ·assumption
 ·cases h
theorem Aa {x : Int} {u : Unit} (h : mNn x = some u) : 0 <= x := by
 unfold mNn at h;split at h
 ·assumption
 ·cases h
def ecB (x : Bool) : List Value := [.bool x]
theorem Bm : xX ecB 1 := ⟨fun _ => rfl, fun x u hu => by simp [ecB] at hu; subst hu; rfl⟩
theorem zO.dec {n : Nat} {a : Act} {L : Env} {b c : Bool} (e : zO n a L) (d : Nat) (h : b = c) (hl : look d L = some (.bool b)) : zO n a ((d, .bool c) :: L) := by
 subst h;refine ⟨e.size, e.defers, fun t v hv => ?_⟩;rw [w2] at hv;split at hv
 ·subst_vars; cases hv; exact e.has _ _ hl
 ·exact e.has _ _ hv
section
variable {α : Type} {T : TypeId} {enc : α -> List Value} {sz : Nat} {w0 w : World} {As : List HP} {P : Program}
theorem SlRd.base {X : HP} {sb : Option Addr} {l : List α} (hX : SlRd X enc sz sb l) (he : xX enc sz) (H : St w0 As w) (i : Nat) (hi : As[i]? = some X) {e : Int} {x : α} (j : mIdx l e = some x) :
  ∃ b off, sb = some ⟨b, off, none⟩ /\ (0 <= e /\ e < (l.length : Int)) := by
 obtain ⟨b, off, h1, h2, _⟩ := hX.idx he H i hi j;exact ⟨b, off, h1, h2⟩
theorem SlRd.cells {X : HP} {sb : Option Addr} {l : List α} (hX : SlRd X enc sz sb l) (he : xX enc sz) (H : St w0 As w) (i : Nat) (hi : As[i]? = some X) {b off : Nat} (hs : sb = some ⟨b, off, none⟩) {e : Int} {x : α} (t : mIdx l e = some x)
  (q : Nat) (v : Value) (hv : (enc x)[q]? = some v) : w.cell? ⟨b, off + e.toNat * sz + q, none⟩ = some v := by
 obtain ⟨u, j, h1, h2, h3⟩ := hX.idx he H i hi t;rw [hs] at h1;cases h1;exact h3 q v hv
theorem OpTo.rI {n : Nat} {a : Act} {L : Env} {o : Oper} {x y : Operand} {t u : TypeId} {d : TypeId} {ti : TypeInfo} {sb xb : Option Addr} {sc xc m : Nat} {l ys r : List α} (hr : mApp l ys = some r) (B : zO n a L) (H : St w0 (Sl T enc sz sb sc l :: As) w) (he : xX enc sz)
  (D : o.op = .call { callee := .builtin .append, args := #[x, y], argTypes := #[t, u] }) (F : evO L x = some (.slice sb l.length sc)) (I : evO L y = some (.slice xb m xc))
  (ht : P.underlying t = some (.slice T)) (hu : P.underlying u = some (.slice d)) (hi : P.info? T = some ti) (e : ti.size = sz) {z : Value} (hz : ti.zero = some z) (i : z.cells.size = sz)
  (hm : m = ys.length) (j : Rd w xb (ys.flatMap enc)) (J : Nat.ble ti.bytes 131072 = true) :
  OpTo P o a w fun v w' => ∃ sb' sc', v = .slice sb' r.length sc' /\ St w0 (Sl T enc sz sb' sc' r :: As) w' := by
 obtain ⟨rfl, hle⟩ := gZ hr;have A := Nat.le_of_ble_eq_true J;refine OpTo.append ys B H he D F I ht hu hi e hz i hm j (by unfold maxLen; omega) ?_
 calc (l.length + ys.length) * ti.bytes <= 1073741824 * 131072 := Nat.mul_le_mul hle A
  _ <= 140737488355328 := by decide
def my (P : Program) (t : TypeId) (xs ys : Array Value) (b : Bool) : Prop := ∀ w, (Op.equal t (.agg xs) (.agg ys)).run P w = .ok b w
theorem OpTo.eqS {n : Nat} {a : Act} {L : Env} {o : Oper} {x y : Operand} {t u : TypeId} {xs ys : Array Value} {b : Bool} (e : zO n a L) (i : o.op = .binOp .eql t x y u) (j : evO L x = some (.agg xs)) (l : evO L y = some (.agg ys))
  (z : P.eqGuardType P.depth t = false) (he : my P t xs ys b) : OpTo P o a w fun v w' => v = .bool b /\ w' = w := by
 obtain ⟨dst, op, type, pos, after, guard⟩ := o;simp only at i;subst i;refine OpTo.of_run (w' := w) ?_ ⟨rfl, rfl⟩;simp [execOp, e.eval j, e.eval l, eqGuard, binOp, z, he w]
theorem OpTo.neS {n : Nat} {a : Act} {L : Env} {o : Oper} {x y : Operand} {t u : TypeId} {xs ys : Array Value} {b : Bool} (e : zO n a L) (i : o.op = .binOp .neq t x y u) (j : evO L x = some (.agg xs)) (l : evO L y = some (.agg ys))
  (z : P.eqGuardType P.depth t = false) (he : my P t xs ys b) : OpTo P o a w fun v w' => v = .bool (!b) /\ w' = w := by
 obtain ⟨dst, op, type, pos, after, guard⟩ := o;simp only at i;subst i;refine OpTo.of_run (w' := w) ?_ ⟨rfl, rfl⟩;simp [execOp, e.eval j, e.eval l, eqGuard, binOp, z, he w]
end
theorem OpTo.fv {P : Program} {n : Nat} {a : Act} {L : Env} {w : World} {o : Oper} {x : Operand} {xs : List Operand} {g : FuncId} {vs cs : List Value} {i : Value -> World -> Prop} (j : zO n a L)
  (l : callParts o.op = some (x, xs)) (t : evO L x = some (.func (.func g) #[] cs.toArray)) (e : oa L xs = some vs)
  (u : ∀ args w, (callFunc g args).run P w = .ok (.enter g args) w) (h : yz P g (vs ++ cs).toArray w i) : OpTo P o a w i :=
 OpTo.call j l t e u (by simpa using h)
def qV {α : Type} (l : List α) (i : Int) (v : List α) : Option (List α) := if 0 <= i /\ i <= (l.length : Int) /\ l.length + v.length <= 1073741824 then some (l.take i.toNat ++ (v ++ l.drop i.toNat)) else none
def jG {α : Type} (l : List α) : Option (List α) := if l.length <= 1073741824 then some l else none
theorem kU {P : Program} {w : World} {d : Nat} {xs ys : Array Value} {L : List Field} (e : L = []) : (Op.eqFields d xs ys L).run P w = .ok true w := by
 subst e; simp [Op.eqFields]
theorem wT {P : Program} {w : World} {d : Nat} {xs ys : Array Value} {L : List Field} {f : Field} {fs : List Field} {a b : Value} {r r' : Bool} (hL : L = f :: fs) (hn : (f.name == "_") = false)
  (pa : (part f.type xs f.offset).run P w = .ok a w) (pb : (part f.type ys f.offset).run P w = .ok b w) (he : (Op.equalIn d f.type a b).run P w = .ok r w) (hr : (Op.eqFields d xs ys fs).run P w = .ok r' w) :
  (Op.eqFields d xs ys L).run P w = .ok (r && r') w := by
 subst hL;have hn' : f.name ≠ "_" := by simpa using hn
 simp only [Op.eqFields, hn', ne_eq, not_false_eq_true, if_true, Sem.run_bind, pa, pb, he, Result.andThen_ok];cases r <;> simp [hr]
theorem kF {P : Program} {w : World} (d : Nat) {t : TypeId} {xs ys : Array Value} {b : Bool} (ht : P.underlying t = some (.struct (P.fieldsOf t))) (hp : P.stoodInHeld t = false) (h : (Op.eqFields d xs ys (P.fieldsOf t).toList).run P w = .ok b w) :
  (Op.equalIn (d + 1) t (.agg xs) (.agg ys)).run P w = .ok b w := by rw [run_equalIn_struct w d t xs ys ht hp, h]
def oU (i n : Nat) : Option Unit := if i = n then some () else none
theorem cc {i n : Nat} {u : Unit} (h : oU i n = some u) : i = n := by
 unfold oU at h;split at h
 ·assumption
 ·cases h
def mIn (i : Int) (n : Nat) : Option Unit := if 0 <= i /\ i < (n : Int) then some () else none
theorem kR {i : Int} {n : Nat} {u : Unit} (h : mIn i n = some u) : 0 <= i /\ i < (n : Int) := by
 unfold mIn at h;split at h
 ·assumption
 ·cases h
def fQ {α : Type} (n : Int) (z : α) : Option (List α) := if 0 <= n /\ n <= 1073741824 then some (List.replicate n.toNat z) else none
theorem dX {α : Type} {n : Int} {z : α} {l : List α} (h : fQ n z = some l) : (0 <= n /\ n <= 1073741824) /\ l = List.replicate n.toNat z := by
 unfold fQ at h;split at h
 ·cases h; exact ⟨by assumption, rfl⟩
 ·cases h
def ay (s : ByteArray) (i : Int) : Option Int := if 0 <= i then (s[i.toNat]?).map fun u => (u.toNat : Int) else none
theorem dP {s : ByteArray} {i c : Int} (h : ay s i = some c) : 0 <= i /\ ∃ u, s[i.toNat]? = some u /\ c = (u.toNat : Int) := by
 unfold ay at h;split at h
 ·obtain ⟨u, hu, rfl⟩ := Option.map_eq_some_iff.1 h;exact ⟨by assumption, u, hu, rfl⟩
 ·cases h
section
variable {α : Type} {T : TypeId} {enc : α -> List Value} {sz : Nat} {w0 w : World} {As : List HP} {P : Program}
theorem ob {n : Int} (h0 : 0 <= n) (h1 : n <= 1073741824) : IntKind.i64.wrap n = n := by
 unfold IntKind.wrap;simp only [IntKind.bits, IntKind.signed];have : n % 2 ^ 64 = n := Int.emod_eq_of_lt h0 (by omega);simp only [this];have h2 : ¬ (9223372036854775808 <= n) := by omega
 simp;intro h3; exact absurd h3 h2
theorem OpTo.make {n : Nat} {a : Act} {L : Env} {o : Oper} {t : TypeId} {x : Operand} {m : Int} {z : α} {l : List α} {ti : TypeInfo} {y : Value} (hl : fQ m z = some l) (Z : zO n a L) (H : St w0 As w) (he : xX enc sz) (U : o.op = .makeSlice t x x) (hx : evO L x = some (.int .i64 m))
  (ht : P.underlying t = some (.slice T)) (hi : P.info? T = some ti) (hs : ti.size = sz) (hz : ti.zero = some y) (W : y.cells.toList = enc z) (hb : Nat.ble ti.bytes 131072 = true) :
  OpTo P o a w fun v w' => ∃ r : Nat, v = .slice (some ⟨r, 0, none⟩) l.length l.length /\ St w0 (Sl T enc sz (some ⟨r, 0, none⟩) l.length l :: As) w' := by
 obtain ⟨⟨h0, h1⟩, rfl⟩ := dX hl;have I := Nat.le_of_ble_eq_true hb;have hw := ob h0 h1;obtain ⟨dst, op, type, pos, after, guard⟩ := o;simp only at U;subst U;obtain ⟨k, rfl⟩ := Int.eq_ofNat_of_zero_le h0;have hk : k <= 1073741824 := by omega
 have a2 : ti.bytes * k <= 281474976710656 := by
  calc ti.bytes * k <= 131072 * 1073741824 := Nat.mul_le_mul I hk
   _ <= 281474976710656 := by decide
 have A : y.cells.size = sz := by rw [<- Array.length_toList, W, he.len]
 let arr : Array Value := (Array.range (k * ti.size)).map (y.cells[· % y.cells.size]!)
 have B : (Instr.makeSlice t (.int .i64 k) (.int .i64 k)).run P w = .ok (.slice (some ⟨w.heap.size, 0, none⟩) k k) { w with heap := w.heap.push (.cells arr T (0, 0)) } := by
  have X : ¬ ((k : Int) < 0) := by omega
  have Y : ¬ ((281474976710656 : Int) < (ti.bytes : Int) * (k : Int)) := by
   rw [<- Int.natCast_mul]; omega
  have j : ∀ (w : World), (askRoom (k * ti.bytes)).run P w = .ok () w := fun w => by
   unfold askRoom;split <;> rfl
  by_cases hn : k * ti.size = 0
  ·have D : arr = #[] := by simp [arr, hn]
   simp [Instr.makeSlice, xx P ht, asInt, asIntOf, typeInfo, hi, hw, X, Y, j, sH P hi, hn, newRow, D];have J : (Array.map (fun _ => (default : Value)) (Array.range 0)) = #[] := Array.eq_empty_of_size_eq_zero (by simp);rw [J]
  ·simp [Instr.makeSlice, xx P ht, asInt, asIntOf, typeInfo, hi, hw, X, Y, j, sH P hi, hn, newRow, zeroValue, hz, arr]
   try rfl
 refine OpTo.of_run (w' := { w with heap := w.heap.push (.cells arr T (0, 0)) }) (v := .slice (some ⟨w.heap.size, 0, none⟩) k k) ?_ ⟨w.heap.size, by simp, ?_⟩
 ·simp [execOp, Z.eval hx, B]
 ·have H2 := H.alloc (.cells arr T (0, 0));have := St.slOf (l := List.replicate k z) (sc := k) H2 he (by simp) (by unfold maxLen; omega) (by simp [arr, hs]) (fun i u => by
   simp only [List.length_replicate] at u;have F : 0 < sz := by
    rcases Nat.eq_zero_or_pos sz with h | h
    ·subst h; simp at u
    ·exact h
   have hj : i / sz < (List.replicate k z).length := by simp; exact Nat.div_lt_of_lt_mul (by rw [Nat.mul_comm]; exact u)
   have hq : i % sz < sz := Nat.mod_lt _ F;have e := tc he (List.replicate k z) (i / sz) (i % sz) hj hq;have O : (i / sz) * sz + i % sz = i := by rw [Nat.mul_comm]; exact Nat.div_add_mod i sz
   rw [O] at e;rw [e];simp only [List.getElem_replicate];rw [<- W];simp only [arr, hs, A];have S : i % sz < y.cells.size := by rw [A]; exact hq
   rw [Array.getElem?_map, Array.getElem?_range];simp [u, S])
  simpa using this
end
def Ch (c cap : Nat) (buf : List Value) : HP := fun h => ∃ x : Nat × Nat, One c (.chan cap buf.toArray false x.1 x.2 false) h
section
open Go.Conc
variable {P : Program} {f : FuncId} {k : List Item} {a : Act} {w w0 : World} {R : Value -> World -> Prop} {ops : Array Oper} {As : List HP} {n d c cap : Nat} {L : Env} {o : Oper} {buf : List Value}
theorem Runs.cL {todo todo' : List Item} {a' : Act} {w' : World} (hs : ∀ (b : Frame) cs, b.kind ≠ .early -> Go.step P (lone (b.at a todo) cs w) = .next (lone (b.at a' todo') cs w')) (h : Runs P f todo' a' w' R) : Runs P f todo a w R :=
 fun b e hk cs => let ⟨v, i, fr, j, h1, h2⟩ := h b e hk cs; ⟨v, i, fr, j, .head (hs b cs (by rw [hk]; simp)) h1, h2⟩
theorem rK {id : Nat} (hi : ops[0]? = some o) (h : Runs P f (.inRegion ops (0 :: List.range' 1 (ops.size - 1)) :: k) a w R) : Runs P f (.code (.region id ops false) :: k) a w R := by
 refine .step (fun _ _ => step_region) ?_;have e : 0 < ops.size := (Array.getElem?_eq_some_iff.1 hi).1;have : List.range ops.size = 0 :: List.range' 1 (ops.size - 1) := by
  rw [List.range_eq_range'];have : ops.size = (ops.size - 1) + 1 := by omega
  conv => lhs; rw [this]
  rw [List.range'_succ]
 rw [this]; exact h
theorem St.AV (H : St w0 (Ch c cap buf :: As) w) (e : List Value) (s r : Nat) : St w0 (Ch c cap e :: As) (w.setChan c cap e.toArray false s r false) := by
 obtain ⟨x, H⟩ := H.ex;have l := H.one 0 rfl;have i := (Array.getElem?_eq_some_iff.1 l).1;have t := H.set (w' := w.setChan c cap e.toArray false s r false) (o' := .chan cap e.toArray false s r false) rfl rfl rfl (by simp [World.setChan, i]) (fun j hj => by simp only [World.setChan]; rw [Array.getElem?_setIfInBounds_ne (Ne.symm hj)]);exact t.head fun h hh => ⟨(s, r), hh⟩
theorem mg {x y : Operand} {e : TypeId} {v : Value} {ti : TypeInfo} {z : Value} (i : zO n a L) (j : o.op = .select #[{ chan := x, send := some y, elem := e }] false) (l : evO L x = some (.chan (some c))) (t : evO L y = some v)
  (hi : P.info? e = some ti) (hz : ti.zero = some z) : (execOp a.eval o).run P w = .ok (.comm #[scase c v z] false .select) w := by
 obtain ⟨dst, op, type, pos, after, guard⟩ := o;simp only at j;subst j;simp [execOp, scase, i.eval l, i.eval t, zeroValue, typeInfo, hi, hz]
theorem mj {x : Operand} {e : TypeId} {ti : TypeInfo} {z : Value} (j : zO n a L) (i : o.op = .select #[{ chan := x, send := none, elem := e }] false) (l : evO L x = some (.chan (some c)))
  (hi : P.info? e = some ti) (hz : ti.zero = some z) : (execOp a.eval o).run P w = .ok (.comm #[rcase c z] false .select) w := by
 obtain ⟨dst, op, type, pos, after, guard⟩ := o;simp only at i;subst i;simp [execOp, rcase, j.eval l, zeroValue, typeInfo, hi, hz]
theorem Runs.iU {id : Nat} {x y : Operand} {e : TypeId} {v : Value} {ti : TypeInfo} {z : Value} (l : zO n a L) (H : St w0 (Ch c cap buf :: As) w) (i : ops[0]? = some o) (hd : o.dst = some d) (hn : Nat.blt d n = true) (t : o.guard = none)
  (u : o.op = .select #[{ chan := x, send := some y, elem := e }] false) (A : evO L x = some (.chan (some c))) (B : evO L y = some v) (hi : P.info? e = some ti) (hz : ti.zero = some z) (j : buf.length < cap)
  (hk : ∀ a' w', zO n a' ((d, .tuple #[goInt 0, .bool false]) :: L) -> St w0 (Ch c cap (buf ++ [v]) :: As) w' -> WR P f ops 1 k a' w' R) : Runs P f (.code (.region id ops false) :: k) a w R := by
 refine rK i ?_;obtain ⟨⟨s, r⟩, H1⟩ := H.ex;have D := H1.one 0 rfl;have F := H.AV (buf ++ [v]) (s + 1) r;refine Runs.cL (a' := a.put o.dst (.tuple #[goInt 0, .bool false])) (todo' := .inRegion ops (List.range' 1 (ops.size - 1)) :: k) (w' := w.setChan c cap (buf ++ [v]).toArray false (s + 1) r false) (fun b cs I => ?_) (Runs.jP ?_)
 ·have hw : Region.wanted o (yielded ops a.tmps) = true := by simp [Region.wanted, t]
  have := step_lone_select_send_room (buf := buf.toArray) (stepG_comm (k := k) (cs := cs) (rest := List.range' 1 (ops.size - 1)) i hw I (mg l u A B hi hz)) D (by simpa using j);rw [lone_eq_solo, this, Frame.finish_at, i];simp [lone_eq_solo]
 ·rw [hd]; rw [hd] at *
  exact hk _ _ (l.put _ _ (by simpa [Nat.blt_eq] using hn)) F
theorem Runs.iR {id : Nat} {x y : Operand} {e : TypeId} {v : Value} {ti : TypeInfo} {z : Value} (l : zO n a L) (H : St w0 (Ch c cap buf :: As) w) (i : ops[0]? = some o) (hd : o.dst = some d) (hn : Nat.blt d n = true) (t : o.guard = none)
  (u : o.op = .select #[{ chan := x, send := some y, elem := e }] false) (A : evO L x = some (.chan (some c))) (B : evO L y = some v) (hi : P.info? e = some ti) (hz : ti.zero = some z) (j : cap <= buf.length)
  (hk : ∀ a', zO n a' ((d, .tuple #[goInt (-1), .bool false]) :: L) -> WR P f ops 1 k a' w R) : Runs P f (.code (.region id ops false) :: k) a w R := by
 refine rK i ?_;obtain ⟨⟨s, r⟩, H1⟩ := H.ex;have D := H1.one 0 rfl;refine Runs.cL (a' := a.put o.dst (.tuple #[goInt (-1), .bool false])) (todo' := .inRegion ops (List.range' 1 (ops.size - 1)) :: k) (w' := w) (fun b cs F => ?_) (Runs.jP ?_)
 ·have hw : Region.wanted o (yielded ops a.tmps) = true := by simp [Region.wanted, t]
  have := step_lone_select_send_full (buf := buf.toArray) (stepG_comm (k := k) (cs := cs) (rest := List.range' 1 (ops.size - 1)) i hw F (mg l u A B hi hz)) D (by simpa using j);rw [lone_eq_solo, this, Frame.finish_at, i];simp [lone_eq_solo]
 ·rw [hd];exact hk _ (l.put _ _ (by simpa [Nat.blt_eq] using hn))
theorem Runs.ir {id : Nat} {x : Operand} {e : TypeId} {v : Value} {ti : TypeInfo} {z : Value} (j : zO n a L) (H : St w0 (Ch c cap (v :: buf) :: As) w) (i : ops[0]? = some o) (hd : o.dst = some d) (hn : Nat.blt d n = true) (l : o.guard = none)
  (t : o.op = .select #[{ chan := x, send := none, elem := e }] false) (u : evO L x = some (.chan (some c))) (hi : P.info? e = some ti) (hz : ti.zero = some z)
  (hk : ∀ a' w', zO n a' ((d, .tuple #[goInt 0, .bool true, v]) :: L) -> St w0 (Ch c cap buf :: As) w' -> WR P f ops 1 k a' w' R) : Runs P f (.code (.region id ops false) :: k) a w R := by
 refine rK i ?_;obtain ⟨⟨s, r⟩, H1⟩ := H.ex;have y := H1.one 0 rfl;have A := H.AV buf s (r + 1);refine Runs.cL (a' := a.put o.dst (.tuple #[goInt 0, .bool true, v])) (todo' := .inRegion ops (List.range' 1 (ops.size - 1)) :: k) (w' := w.setChan c cap buf.toArray false s (r + 1) false) (fun b cs B => ?_) (Runs.jP ?_)
 ·have hw : Region.wanted o (yielded ops a.tmps) = true := by simp [Region.wanted, l]
  have := step_lone_select_recv_buf (buf := (v :: buf).toArray) (stepG_comm (k := k) (cs := cs) (rest := List.range' 1 (ops.size - 1)) i hw B (mj j t u hi hz)) y (by simp);rw [lone_eq_solo, this, Frame.finish_at, i];simp [lone_eq_solo]
 ·rw [hd];exact hk _ _ (j.put _ _ (by simpa [Nat.blt_eq] using hn)) A
theorem Runs.iW {id : Nat} {x : Operand} {e : TypeId} {ti : TypeInfo} {z : Value} (j : zO n a L) (H : St w0 (Ch c cap [] :: As) w) (i : ops[0]? = some o) (hd : o.dst = some d) (hn : Nat.blt d n = true) (l : o.guard = none)
  (t : o.op = .select #[{ chan := x, send := none, elem := e }] false) (u : evO L x = some (.chan (some c))) (hi : P.info? e = some ti) (hz : ti.zero = some z)
  (hk : ∀ a', zO n a' ((d, .tuple #[goInt (-1), .bool false, z]) :: L) -> WR P f ops 1 k a' w R) : Runs P f (.code (.region id ops false) :: k) a w R := by
 refine rK i ?_;obtain ⟨⟨s, r⟩, H1⟩ := H.ex;have y := H1.one 0 rfl;refine Runs.cL (a' := a.put o.dst (.tuple #[goInt (-1), .bool false, z])) (todo' := .inRegion ops (List.range' 1 (ops.size - 1)) :: k) (w' := w) (fun b cs A => ?_) (Runs.jP ?_)
 ·have hw : Region.wanted o (yielded ops a.tmps) = true := by simp [Region.wanted, l]
  have := step_lone_select_default (stepG_comm (k := k) (cs := cs) (rest := List.range' 1 (ops.size - 1)) i hw A (mj j t u hi hz)) y;rw [lone_eq_solo, this, Frame.finish_at, i];simp [lone_eq_solo]
 ·rw [hd];exact hk _ (j.put _ _ (by simpa [Nat.blt_eq] using hn))
theorem OpTo.BL {x : Operand} {t e : TypeId} {dir : ChanDir} (i : Nat) (u : zO n a L) (H : St w0 As w) (hi : As[i]? = some (Ch c cap buf)) (j : o.op = .call { callee := .builtin .len, args := #[x], argTypes := #[t] }) (ht : P.underlying t = some (.chan dir e)) (y : evO L x = some (.chan (some c))) :
  OpTo P o a w fun v w' => v = .int .i64 buf.length /\ w' = w := by
 obtain ⟨dst, op, type, pos, after, guard⟩ := o;simp only at j;subst j;obtain ⟨h1, hs, ⟨s, r⟩, hh⟩ := H.at i hi;have l := hs _ _ hh;simp only [hpOf] at l;refine OpTo.of_run (w' := w) ?_ ⟨rfl, rfl⟩;simp [execOp, resolve, invoke, builtin, u.eval y, Builtin.len_, xx P ht, getObj, Sem.run, l, goInt]
end
end
noncomputable section
structure Pd where
 i : Nat
 o : Oper
 v : Value
 obs : List Ob
def Pd.T (u : Pd) (w : World) : Prop := xO w u.obs
def wz (e : Array Bool) : List Pd -> Array Bool
 | [] => e
 | u :: U => (wz e U).setIfInBounds u.i true
def uO (ar : Act) : List Pd -> Act
 | [] => ar
 | u :: U => (uO ar U).put u.o.dst u.v
def qn (o : Oper) (b : Array Bool) : Prop := ∀ e ∈ o.after, Region.binds .any e = true -> b.getD e.on false = true
def elN (i : Nat) : List Nat -> Bool
 | [] => false
 | x :: l => match Nat.beq i x with
  | true => true
  | false => elN i l
theorem dE {i : Nat} : ∀ {l : List Nat}, elN i l = true -> i ∈ l
 | x :: l, h => by
  simp only [elN] at h;split at h
  ·rename_i e;rw [Nat.eq_of_beq_eq_true e]; exact List.mem_cons_self
  ·exact mC _ (dE h)
def tQ (o : Oper) : List Nat := (o.after.toList.filter (Region.binds .any)).map (·.on)
def ancS (ops : Array Oper) : Nat -> List Nat -> List Nat -> List Nat
 | 0, _, seen => seen
 | n + 1, [], seen => seen
 | n + 1, j :: todo, seen => match elN j seen with
  | true => ancS ops n todo seen
  | false => match ops[j]? with
   | none => ancS ops n todo seen
   | some o => ancS ops n (tQ o ++ todo) (j :: seen)
def anc (ops : Array Oper) (i j : Nat) : Bool := match ops[j]? with
 | some o => elN i (ancS ops 4000 (tQ o) [])
 | none => false
def Closed (ops : Array Oper) (b : Array Bool) : Prop := ∀ x o, ops[x]? = some o -> b.getD x false = true -> qn o b
theorem gD {o : Oper} {b : Array Bool} (hp : qn o b) : ∀ x ∈ tQ o, b.getD x false = true := fun x i => by
 simp only [tQ, List.mem_map, List.mem_filter, Array.mem_toList_iff] at i;obtain ⟨e, ⟨he, j⟩, rfl⟩ := i;exact hp e he j
theorem kq {ops : Array Oper} {b : Array Bool} (t : Closed ops b) : ∀ (n : Nat) (todo seen : List Nat), (∀ x ∈ todo, b.getD x false = true) -> (∀ x ∈ seen, b.getD x false = true) -> ∀ x ∈ ancS ops n todo seen, b.getD x false = true
 | 0, todo, seen, _, hs, x, e => hs x (by simpa [ancS] using e)
 | n + 1, [], seen, _, hs, x, e => hs x (by simpa [ancS] using e)
 | n + 1, j :: todo, seen, ht, hs, x, e => by
  have i : ∀ x ∈ todo, b.getD x false = true := fun y l => ht y (mC _ l)
  have hj := ht j List.mem_cons_self;simp only [ancS] at e;split at e
  ·exact kq t n todo seen i hs x e
  ·split at e
   ·exact kq t n todo seen i hs x e
   ·rename_i o u;refine kq t n _ _ (fun y l => ?_) (fun y l => ?_) x e
    ·rcases List.mem_append.1 l with h | h
     ·exact gD (t j o u hj) y h
     ·exact i y h
    ·cases l with
     | head => exact hj
     | tail _ hm => exact hs y hm
theorem Ap {ops : Array Oper} {b : Array Bool} (e : Closed ops b) (i j : Nat) (o : Oper) (l : ops[j]? = some o) (hp : qn o b) (h : anc ops i j = true) : b.getD i false = true := by
 simp only [anc, l] at h;exact kq e _ _ _ (gD hp) (by simp) _ (dE h)
def tb (m i : Nat) : Bool := match Nat.land (Nat.shiftRight m i) 1 with
 | 0 => false
 | _ + 1 => true
theorem hG (m i : Nat) : tb m i = m.testBit i := by
 have e : Nat.land (Nat.shiftRight m i) 1 = (m >>> i) &&& 1 := rfl;unfold tb;rw [e, Nat.testBit, Nat.and_comm];cases h : 1 &&& m >>> i <;> simp
def bitL (i m : Nat) : Nat := Nat.lor (Nat.shiftLeft 1 i) m
theorem bz (i m x : Nat) : tb (bitL i m) x = true ↔ x = i \/ tb m x = true := by
 have e : bitL i m = (1 <<< i) ||| m := rfl;rw [hG, hG, e, Nat.testBit_or, Bool.or_eq_true];have : (1 <<< i).testBit x = true ↔ x = i := by
  rw [Nat.one_shiftLeft, Nat.testBit_two_pow];simp [eq_comm]
 rw [this]
def vR : List Nat -> Nat
 | [] => 0
 | x :: l => bitL x (vR l)
theorem vB (x : Nat) : ∀ l : List Nat, tb (vR l) x = true ↔ x ∈ l
 | [] => by simp [vR, hG]
 | y :: l => by rw [vR, bz, vB x l, iC]
def subM (a b : Nat) : Bool := Nat.beq (Nat.land a b) a
theorem oj {l : List Nat} {m : Nat} : subM (vR l) m = true ↔ ∀ x ∈ l, tb m x = true := by
 have e : Nat.land (vR l) m = vR l &&& m := rfl;unfold subM;rw [e];refine Iff.trans ⟨Nat.eq_of_beq_eq_true, fun h => by rw [h]; exact Nat.beq_refl _⟩ ?_;constructor
 ·intro h x i;have h1 := (vB x l).2 i;rw [hG, <- h, Nat.testBit_and, Bool.and_eq_true] at h1;rw [hG]; exact h1.2
 ·intro h;refine Nat.eq_of_testBit_eq fun x => ?_
  rw [Nat.testBit_and];cases i : (vR l).testBit x with
  | false => rfl
  | true =>
   have := h x ((vB x l).1 (by rw [hG]; exact i));rw [hG] at this;rw [this]; rfl
def oN (o : Oper) : Nat := vR (tQ o)
def A2 (ops : Array Oper) (o : Oper) : Nat := vR (o.looksAt ops)
def dneq (x y : Oper) : Bool := match x.dst, y.dst with
 | some d, some e => match Nat.beq d e with
  | true => false
  | false => true
 | _, _ => true
def lV (ops : Array Oper) (x y : Oper) : Bool := match x.dst with
 | some d => match tb (A2 ops y) d with
  | true => false
  | false => true
 | none => true
def apP (ops : Array Oper) (i j : Nat) (x y : Oper) : Bool := Nat.beq i j || (dneq x y && (tb (oN y) i || tb (oN x) j || (lV ops x y && lV ops y x)))
def fL (ops : Array Oper) (i : Nat) (x : Oper) : Nat -> List Oper -> Bool
 | _, [] => true
 | j, y :: l => apP ops i j x y && fL ops i x (j + 1) l
def dc (ops : Array Oper) : Nat -> List Oper -> Bool
 | _, [] => true
 | i, x :: l => fL ops i x 0 ops.toList && (tQ x).all (fun e => Nat.blt e ops.size) && dc ops (i + 1) l
def su (ops : Array Oper) : Bool := Region.noSelect ops && dc ops 0 ops.toList
theorem ld {ops : Array Oper} {i : Nat} {x : Oper} : ∀ (l : List Oper) (j n : Nat) (y : Oper), fL ops i x j l = true -> l[n]? = some y -> apP ops i (j + n) x y = true
 | [], j, n, y, _, h => by simp at h
 | z :: l, j, 0, y, h, e => by
  simp only [fL, Bool.and_eq_true] at h;simp at e; subst e; exact h.1
 | z :: l, j, n + 1, y, h, e => by
  simp only [fL, Bool.and_eq_true] at h;have := ld l (j + 1) n y h.2 (by simpa using e)
  rwa [Nat.add_right_comm, Nat.add_assoc] at this
theorem oG {ops : Array Oper} : ∀ (l : List Oper) (i n : Nat) (x : Oper), dc ops i l = true -> l[n]? = some x -> fL ops (i + n) x 0 ops.toList = true /\ ∀ e ∈ tQ x, e < ops.size
 | [], i, n, x, _, h => by simp at h
 | z :: l, i, 0, x, h, j => by
  simp only [dc, Bool.and_eq_true, List.all_eq_true] at h;simp at j; subst j;exact ⟨h.1.1, fun e he => by simpa [Nat.blt_eq] using h.1.2 e he⟩
 | z :: l, i, n + 1, x, h, j => by
  simp only [dc, Bool.and_eq_true] at h;have := oG l (i + 1) n x h.2 (by simpa using j)
  rwa [Nat.add_right_comm, Nat.add_assoc] at this
theorem jd {x y : Oper} (h : dneq x y = true) {d : Tmp} (e : x.dst = some d) : y.dst ≠ some d := by
 intro i;simp [dneq, e, i] at h
theorem pd {ops : Array Oper} {x y : Oper} (h : lV ops x y = true) {d : Tmp} (e : x.dst = some d) : d ∉ y.looksAt ops := by
 intro i;have := (vB d (y.looksAt ops)).2 i;simp only [lV, e, A2, this] at h;cases h
theorem mX {ops : Array Oper} (h : su ops = true) {i j : Nat} {x y : Oper} (l : ops[i]? = some x) (t : ops[j]? = some y) (e : i ≠ j) :
  dneq x y = true /\ ((tb (oN y) i = true \/ tb (oN x) j = true) \/ lV ops x y = true /\ lV ops y x = true) := by
 simp only [su, Bool.and_eq_true] at h;have h1 := (oG _ 0 i x h.2 (by simpa using l)).1;have h2 := ld _ 0 j y h1 (by simpa using t);simp only [apP, Bool.or_eq_true, Bool.and_eq_true, Nat.zero_add] at h2;rcases h2 with h2 | h2
 ·exact absurd (Nat.eq_of_beq_eq_true h2) e
 ·exact h2
theorem dN {o : Oper} {i : Nat} : tb (oN o) i = true ↔ ∃ e ∈ o.after, Region.binds .any e = true /\ e.on = i := by
 rw [oN, vB, tQ];simp only [List.mem_map, List.mem_filter, Array.mem_toList_iff];constructor
 ·rintro ⟨e, ⟨h1, h2⟩, h3⟩; exact ⟨e, h1, h2, h3⟩
 ·rintro ⟨e, h1, h2, h3⟩; exact ⟨e, ⟨h1, h2⟩, h3⟩
theorem rA {m i : Nat} {d : Bool} : ∀ dn : List Nat, i < m -> ((listed m dn).getD i d = true ↔ i ∈ dn) := by
 suffices ∀ (dn : List Nat) (b : Array Bool), b.size = m -> i < m -> (((dn.foldl (fun b i => b.setIfInBounds i true) b).getD i d = true) ↔ (b.getD i d = true \/ i ∈ dn)) by
  intro dn hi;have h := this dn (Array.replicate m false) (by simp) hi;rw [listed, h];simp [hi]
 intro dn;induction dn with
 | nil => intro b _ _; simp
 | cons x dn ih =>
  intro b j hi;rw [List.foldl_cons, ih _ (by simpa using j) hi];by_cases e : x = i
  ·subst e; simp [j, hi]
  ·rw [getD_set_ne d e]; simp [Ne.symm e]
theorem fY {m i : Nat} {d : Bool} (dn : List Nat) (hi : m <= i) : (listed m dn).getD i d = d := by
 have hs : (listed m dn).size = m := by
  unfold listed
  suffices ∀ b : Array Bool, (dn.foldl (fun b i => b.setIfInBounds i true) b).size = b.size by simpa using this (Array.replicate m false)
  induction dn with
  | nil => simp
  | cons x dn ih => intro b; rw [List.foldl_cons, ih]; simp
 simp [Array.getElem?_eq_none (hs ▸ hi)]
def vC (m : Nat) : Nat -> List Oper -> List Nat
 | _, [] => []
 | i, x :: l => match tb m i with
  | true => vC m (i + 1) l
  | false => match subM (oN x) m with
   | true => i :: vC m (i + 1) l
   | false => vC m (i + 1) l
theorem oX {m j : Nat} : ∀ (l : List Oper) (i : Nat), j ∈ vC m i l ↔ ∃ n x, l[n]? = some x /\ j = i + n /\ tb m j = false /\ subM (oN x) m = true
 | [], i => by simp [vC]
 | z :: l, i => by
  have ih := oX (m := m) (j := j) l (i + 1);have t : (∃ n x, (z :: l)[n]? = some x /\ j = i + n /\ tb m j = false /\ subM (oN x) m = true) ↔ (j = i /\ tb m i = false /\ subM (oN z) m = true) \/ j ∈ vC m (i + 1) l := by
   rw [ih];constructor
   ·rintro ⟨n, x, e, hj, h1, h2⟩;cases n with
    | zero => simp at e; subst e; left; exact ⟨hj, by rw [hj] at h1; exact h1, h2⟩
    | succ n => right; exact ⟨n, x, by simpa using e, by omega, h1, h2⟩
   ·rintro (⟨rfl, h1, h2⟩ | ⟨n, x, e, hj, h1, h2⟩)
    ·exact ⟨0, z, by simp, by simp, h1, h2⟩
    ·exact ⟨n + 1, x, by simpa using e, by omega, h1, h2⟩
  rw [t, vC];split
  ·rename_i h; simp [h]
  ·rename_i h;split
   ·rename_i h2; simp [h, h2]
   ·rename_i h2; simp [h2]
theorem nK {ops : Array Oper} (h : su ops = true) (dn : List Nat) (j : Nat) : j ∈ vC (vR dn) 0 ops.toList ↔ j ∈ Region.ready .any ops (listed ops.size dn) := by
 rw [oX, mem_ready];constructor
 ·rintro ⟨n, x, l, hj, h1, h2⟩;have e : n = j := by omega
  subst e;have t : ops[n]? = some x := by simpa using l
  have i : n < ops.size := (Array.getElem?_eq_some_iff.1 t).1;refine ⟨?_, x, t, fun e he z => ?_⟩
  ·cases hh : (listed ops.size dn).getD n true with
   | false => rfl
   | true =>
    have := (vB n dn).2 ((rA dn i).1 hh);rw [this] at h1; cases h1
  ·simp only [su, Bool.and_eq_true] at h;have u : e.on ∈ tQ x := by
    simp only [tQ, List.mem_map, List.mem_filter, Array.mem_toList_iff];exact ⟨e, ⟨he, z⟩, rfl⟩
   have hl := (oG _ 0 n x h.2 l).2 _ u;exact (rA dn hl).2 ((vB _ dn).1 (oj.1 h2 _ u))
 ·rintro ⟨h1, x, l, h2⟩;have i : j < ops.size := (Array.getElem?_eq_some_iff.1 l).1;refine ⟨j, x, by simpa using l, by simp, ?_, ?_⟩
  ·cases hh : tb (vR dn) j with
   | false => rfl
   | true =>
    have := (rA (d := true) dn i).2 ((vB j dn).1 hh);rw [this] at h1; cases h1
  ·refine oj.2 fun y A => ?_
   simp only [tQ, List.mem_map, List.mem_filter, Array.mem_toList_iff] at A;obtain ⟨e, ⟨he, z⟩, rfl⟩ := A;have := h2 e he z;rcases Nat.lt_or_ge e.on ops.size with hl | hl
   ·exact (vB _ dn).2 ((rA dn hl).1 this)
   ·rw [fY dn hl] at this; cases this
theorem cS {ops : Array Oper} (h : su ops = true) {m i : Nat} {o : Oper} {dn : List Nat} (hm : ∀ x, tb m x = true ↔ x ∈ dn) (e : ops[i]? = some o) (h1 : tb m i = false) (h2 : subM (oN o) m = true) :
  i ∈ Region.ready .any ops (listed ops.size dn) := by
 refine (nK h dn i).1 ((oX _ 0).2 ⟨i, o, by simpa using e, by simp, ?_, ?_⟩)
 ·cases hh : tb (vR dn) i with
  | false => rfl
  | true => rw [(hm i).2 ((vB i dn).1 hh)] at h1; cases h1
 ·exact oj.2 fun x j => (vB x dn).2 ((hm x).1 (oj.1 h2 x j))
theorem lW {ops : Array Oper} (h : su ops = true) {dn : List Nat} : vC (vR dn) 0 ops.toList = [] ↔ Region.ready .any ops (listed ops.size dn) = [] := by
 rw [List.eq_nil_iff_forall_not_mem, List.eq_nil_iff_forall_not_mem];exact forall_congr' fun j => not_congr (nK h dn j)
def kv (ops : Array Oper) : List Nat -> Nat -> Bool
 | [], _ => true
 | i :: is, m => match ops[i]? with
  | none => false
  | some o => match tb m i with
   | true => false
   | false => match subM (oN o) m with
    | false => false
    | true => kv ops is (bitL i m)
section
variable {P : Program} {ops : Array Oper} {Q : Exit -> Act -> World -> Prop}
def OkU (P : Program) (ops : Array Oper) (l : Array Bool) (ar : Act) : List Pd -> Prop
 | [] => True
 | u :: U => ops[u.i]? = some u.o /\ (wz l U).getD u.i true = false /\ qn u.o (wz l U) /\ YieldsIf P ops u.T u.o u.v (uO ar U) /\
   (∀ j t, ops[j]? = some t -> j ≠ u.i -> (wz l U).getD j true = false -> (∀ e ∈ t.after, Region.binds .any e = true -> e.on ≠ u.i) -> u.o.apart ops t = true) /\ OkU P ops l ar U
theorem ru {b : Array Bool} {i j : Nat} (h : (b.setIfInBounds i true).getD j true = false) : b.getD j true = false := by
 by_cases e : i = j
 ·subst e;rcases Nat.lt_or_ge i b.size with l | l
  ·simp [l] at h
  ·simp [Array.getElem?_eq_none l] at h
 ·rwa [getD_set_ne true e] at h
theorem mG {e : Array Bool} {j : Nat} : ∀ {U : List Pd}, (wz e U).getD j true = false -> e.getD j true = false
 | [], h => h
 | u :: U, h => mG (U := U) (ru h)
theorem rD {e : Array Bool} {j : Nat} (h : e.getD j false = true) : ∀ {U : List Pd}, (wz e U).getD j false = true
 | [] => h
 | u :: U => getD_set_true (rD h)
theorem oP {b : Array Bool} {j : Nat} (h : b.getD j false = true) (h2 : b.getD j true = false) : False := by
 rcases Nat.lt_or_ge j b.size with e | e
 ·simp [e] at h h2; rw [h2] at h; cases h
 ·simp [Array.getElem?_eq_none e] at h
theorem tO (e : Array Bool) (j : Nat) : ∀ U : List Pd, wz (e.setIfInBounds j true) U = (wz e U).setIfInBounds j true
 | [] => rfl
 | u :: U => by
  simp only [wz, tO e j U];by_cases h : u.i = j
  ·subst h; simp
  ·rw [Array.setIfInBounds_comm _ _ h]
theorem lH {u : Pd} {a : Act} {d : Option Tmp} {v : Value} (hs : Region.noSelect ops = true) (hu : ops[u.i]? = some u.o) (hd : ∀ x, d = some x -> x ∉ u.o.looksAt ops) :
  YieldsIf P ops u.T u.o u.v a ↔ YieldsIf P ops u.T u.o u.v (a.put d v) :=
 ⟨fun h => h.of_same (execOp_put u.o (fun cs b => Region.noSelect_spec hs u.i u.o cs b hu) a d v hd) (wanted_put u.o a d v hd),
  fun h => h.of_same (execOp_put u.o (fun cs b => Region.noSelect_spec hs u.i u.o cs b hu) a d v hd).symm (wanted_put u.o a d v hd).symm⟩
theorem kx {y : Array Bool} {ar : Act} {j : Nat} {z : Oper} (hj : ops[j]? = some z) (hp : qn z y) : ∀ {U : List Pd}, OkU P ops y ar U -> (wz y U).getD j true = false -> ∀ u ∈ U, u.o.apart ops z = true
 | [], _, _, u, hu => by cases hu
 | x :: U, h, l, u, hu => by
  obtain ⟨h1, h2, h3, h4, D, F⟩ := h;have A : j ≠ x.i := by
   rintro rfl;have : x.i < ops.size := (Array.getElem?_eq_some_iff.1 hj).1;simp only [wz] at l;rcases Nat.lt_or_ge x.i (wz y U).size with B | B
   ·simp [B] at l
   ·simp [Array.getElem?_eq_none B] at l
  have t : (wz y U).getD j true = false := ru l;cases hu with
  | head =>
   refine D j z hj A t fun e he I heq => ?_
   have := hp e he I;rw [heq] at this;exact oP (rD (U := U) this) h2
  | tail _ hm => exact kx hj hp F t u hm
theorem qE {d : Option Tmp} {v : Value} (ar : Act) : ∀ (U : List Pd), (∀ u ∈ U, ∀ x, u.o.dst = some x -> d ≠ some x) -> uO (ar.put d v) U = (uO ar U).put d v
 | [], _ => rfl
 | u :: U, h => by
  simp only [uO, qE ar U fun u hu => h u (mC _ hu)];exact Act.put_comm _ v u.v fun x e => by
   have := h u (by simp);intro hd;exact this x hd e
theorem kP (hs : Region.noSelect ops = true) {O : Array Bool} {ar : Act} {j : Nat} {t : Oper} (v : Value) (hj : ops[j]? = some t) : ∀ {U : List Pd}, (∀ u ∈ U, u.o.apart ops t = true) -> (∀ u ∈ U, u.i ≠ j) -> OkU P ops O ar U ->
  OkU P ops (O.setIfInBounds j true) (ar.put t.dst v) U
 | [], _, _, _ => trivial
 | u :: U, y, z, h => by
  obtain ⟨h1, h2, h3, h4, W, X⟩ := h;have S : ∀ x ∈ U, x.o.apart ops t = true := fun x l => y x (mC _ l)
  have Y : ∀ x ∈ U, x.i ≠ j := fun x l => z x (mC _ l)
  have A : uO (ar.put t.dst v) U = (uO ar U).put t.dst v := qE ar U fun u hu x l => by
   have := (Oper.apart_spec (S u hu)).2.1 x l;exact this
  refine ⟨h1, ?_, ?_, ?_, ?_, kP hs v hj S Y X⟩
  ·rw [tO, getD_set_ne true (Ne.symm (z u (by simp)))]; exact h2
  ·intro e he Z;rw [tO];exact getD_set_true (h3 e he Z)
  ·rw [A];exact (lH hs h1 fun x l => (Oper.apart_spec (y u (by simp))).2.2 x l).1 h4
  ·intro j' F I B D J;rw [tO] at D;exact W j' F I B (ru D) J
theorem gu (hs : Region.noSelect ops = true) {t : Array Bool} {ar : Act} {u : Pd} : ∀ {X Y : List Pd}, OkU P ops t ar (X ++ u :: Y) -> qn u.o t -> (∀ x ∈ X, ∀ d, x.o.dst = some d -> u.o.dst ≠ some d) ->
  OkU P ops (t.setIfInBounds u.i true) (ar.put u.o.dst u.v) (X ++ Y) /\ wz (t.setIfInBounds u.i true) (X ++ Y) = wz t (X ++ u :: Y) /\
  uO (ar.put u.o.dst u.v) (X ++ Y) = uO ar (X ++ u :: Y) /\ YieldsIf P ops u.T u.o u.v ar
 | [], Y, h, hp, _ => by
  simp only [List.nil_append] at h ⊢;obtain ⟨h1, h2, h3, h4, B, z⟩ := h;have j := kx (P := P) h1 hp z h2;have A : ∀ x ∈ Y, x.i ≠ u.i := by
   intro x l heq;clear j h4 B;induction Y with
   | nil => cases l
   | cons y Y ih =>
    obtain ⟨g1, g2, g3, g4, g5, g6⟩ := z;cases l with
    | head =>
     simp only [wz] at h2;rw [heq] at h2;rcases Nat.lt_or_ge u.i (wz t Y).size with D | D
     ·simp [D] at h2
     ·simp [Array.getElem?_eq_none D] at h2
    | tail _ hm => exact ih (ru h2) (fun e he I => rD (hp e he I)) g6 hm
  refine ⟨kP hs u.v h1 j A z, by simp [wz, tO], ?_, ?_⟩
  ·rw [qE ar Y fun x l d hd => (Oper.apart_spec (j x l)).2.1 d hd]; rfl
  ·clear B h2 h3 A;induction Y with
   | nil => exact h4
   | cons y Y ih =>
    obtain ⟨g1, g2, g3, g4, g5, g6⟩ := z;refine ih ?_ g6 fun x l => j x (mC _ l)
    simp only [uO] at h4;exact (lH hs h1 fun x l => (Oper.apart_spec (j y (by simp))).1 x l).2 h4
 | x :: X, Y, h, hp, hd => by
  simp only [List.cons_append] at h ⊢;obtain ⟨h1, h2, h3, h4, B, z⟩ := h;obtain ⟨J, k2, F, O⟩ := gu hs z hp fun y S => hd y (mC _ S)
  refine ⟨⟨h1, by rw [k2]; exact h2, by rw [k2]; exact h3, by rw [F]; exact h4, by rw [k2]; exact B, J⟩, by simp only [wz, k2], by simp only [uO, F], O⟩
theorem bO {i : Nat} {e : Array Bool} : ∀ {U : List Pd}, e.getD i true = false -> (wz e U).getD i true ≠ false -> ∃ X u Y, U = X ++ u :: Y /\ u.i = i
 | [], h1, h2 => absurd h1 h2
 | u :: U, h1, h2 => by
  by_cases hu : u.i = i
  ·exact ⟨[], u, U, rfl, hu⟩
  ·simp only [wz] at h2;rw [getD_set_ne true hu] at h2;obtain ⟨X, x, Y, rfl, j⟩ := bO h1 h2;exact ⟨u :: X, x, Y, rfl, j⟩
theorem bE {e : Array Bool} {ar : Act} : ∀ {U : List Pd}, OkU P ops e ar U -> U ≠ [] -> ∃ i, i ∈ Region.ready .any ops e
 | [], _, h => absurd rfl h
 | [u], h, _ => by
  obtain ⟨h1, h2, h3, _⟩ := h;exact ⟨u.i, mem_ready.2 ⟨h2, u.o, h1, h3⟩⟩
 | u :: x :: U, h, _ => bE (U := x :: U) h.2.2.2.2.2 (by simp)
theorem mH (h : su ops = true) : Region.noSelect ops = true := by
 simp only [su, Bool.and_eq_true] at h; exact h.1
theorem fG (h : su ops = true) {i j : Nat} {x y : Oper} (l : ops[i]? = some x) (t : ops[j]? = some y) (e : i ≠ j) {d : Tmp} (hd : x.dst = some d) : y.dst ≠ some d :=
 jd (mX h l t e).1 hd
theorem kH {e : Array Bool} {ar : Act} : ∀ {U : List Pd}, OkU P ops e ar U -> ∀ u ∈ U, ops[u.i]? = some u.o /\ e.getD u.i true = false
 | [], _, u, hu => by cases hu
 | x :: U, h, u, hu => by
  cases hu with
  | head => exact ⟨h.1, mG h.2.1⟩
  | tail _ hm => exact kH h.2.2.2.2.2 u hm
theorem bQ {e : Array Bool} {ar : Act} {u : Pd} {Y : List Pd} : ∀ {X : List Pd}, OkU P ops e ar (X ++ u :: Y) -> ∀ x ∈ X, x.i ≠ u.i
 | [], _, x, j => by cases j
 | y :: X, h, x, j => by
  cases j with
  | head =>
   intro he;have h2 := h.2.1;have : (wz e (X ++ u :: Y)).getD u.i true ≠ false := by
    clear h h2 he;induction X with
    | nil =>
     simp only [List.nil_append, wz];intro h;rcases Nat.lt_or_ge u.i (wz e Y).size with l | l
     ·simp [l] at h
     ·simp [Array.getElem?_eq_none l] at h
    | cons z X ih => intro h; exact ih (ru h)
   rw [he] at h2;exact this h2
  | tail _ hm => exact bQ h.2.2.2.2.2 x hm
theorem lG {l : Array Bool} {j : Nat} {u : Oper} (z : Closed ops l) (hj : ops[j]? = some u) (hp : qn u l) : Closed ops (l.setIfInBounds j true) := by
 intro x o t ht e he y;by_cases i : j = x
 ·subst i;rw [hj] at t; cases t;exact getD_set_true (hp e he y)
 ·rw [getD_set_ne false i] at ht;exact getD_set_true (z x o t ht e he y)
theorem kc (hd : su ops = true) (M : Pd -> Prop) {fu : Nat} {w : World} {lc : Array Bool} {ac : Act}
  (I : Region.ready .any ops lc = [] -> ∀ l ar, l = lc -> ar = ac -> wpAny P .any ops Q fu l ar w)
  (t : ∀ j D, j ∈ Region.ready .any ops lc -> ops[j]? = some D -> ∀ U l ar, (∀ u ∈ U, M u) -> (∀ u ∈ U, u.T w) -> OkU P ops l ar U -> Closed ops l -> wz l U = lc -> uO ar U = ac -> qn D l ->
   ∃ A, fu = A + 1 /\ wpOp P ops Q j (wpAny P .any ops Q (A + U.length) (l.setIfInBounds j true)) ar w) :
  ∀ (n : Nat) (U : List Pd) (l : Array Bool) (ar : Act), U.length = n -> (∀ u ∈ U, M u) -> (∀ u ∈ U, u.T w) -> OkU P ops l ar U -> Closed ops l -> wz l U = lc -> uO ar U = ac -> wpAny P .any ops Q (fu + U.length) l ar w := by
 intro n;induction n with
 | zero =>
  intro U l ar hn W S F J h1 h2;have O : U = [] := List.eq_nil_of_length_eq_zero hn;subst O;simp only [wz, uO] at h1 h2;by_cases hr : Region.ready .any ops lc = []
  ·exact I hr l ar h1 h2
  ·obtain ⟨i, hi⟩ := List.exists_mem_of_ne_nil _ hr;obtain ⟨_, oi, Z, a0⟩ := mem_ready.1 hi;obtain ⟨A, rfl, _⟩ := t i oi hi Z [] l ar (by simp) (by simp) trivial J h1 h2 (by rw [h1]; exact a0);simp only [List.length_nil, Nat.add_zero];refine ⟨fun h => absurd (h1 ▸ h) hr, fun j hj => ?_⟩;rw [h1] at hj;obtain ⟨_, D, y, z⟩ := mem_ready.1 hj;obtain ⟨a5, he, hw⟩ := t j D hj y [] l ar (by simp) (by simp) trivial J h1 h2 (by rw [h1]; exact z);cases he;simpa using hw
 | succ n ih =>
  intro U l ar hn W S F J h1 h2;have a1 : U ≠ [] := by intro h; subst h; simp at hn
  have e : fu + U.length = (fu + n) + 1 := by omega
  rw [e];refine ⟨fun h => ?_, fun j hj => ?_⟩
  ·obtain ⟨i, hi⟩ := bE F a1;rw [h] at hi; cases hi
  ·obtain ⟨a2, D, y, z⟩ := mem_ready.1 hj;by_cases hl : (wz l U).getD j true = false
   ·have hr : j ∈ Region.ready .any ops lc := mem_ready.2 ⟨by rw [<- h1]; exact hl, D, y, fun e he hb => by rw [<- h1]; exact rD (z e he hb)⟩;obtain ⟨A, he, hw⟩ := t j D hr y U l ar W S F J h1 h2 z;have : fu + n = A + U.length := by omega
    rw [this]; exact hw
   ·obtain ⟨X, u, Y, rfl, rfl⟩ := bO a2 hl;have hu := kH F u (by simp);rw [hu.1] at y; cases y;obtain ⟨k1, k2, k3, k4⟩ := gu (mH hd) F z fun x B d a3 => fG hd (kH F x (by simp [B])).1 hu.1 (bQ F x B) a3
    refine k4.wpOp hu.1 (S u (by simp)) ?_;have := ih (X ++ Y) (l.setIfInBounds u.i true) (ar.put u.o.dst u.v) (by simp at hn ⊢; omega) (fun x B => W x (by simp at B ⊢; rcases B with h | h <;> simp [h])) (fun x B => S x (by simp at B ⊢; rcases B with h | h <;> simp [h])) k1 (lG J hu.1 z) (k2.trans h1) (k3.trans h2);have e2 : fu + n = fu + (X ++ Y).length := by simp at hn ⊢; omega
    rw [e2]; exact this
def WP (P : Program) (f : FuncId) (ops : Array Oper) (fu : Nat) (dn : List Nat) (pend : List (Nat × List Ob)) (k : List Item) (a : Act) (w : World) (R : Value -> World -> Prop) : Prop :=
 ∀ (U : List Pd) (e : Array Bool) (ar : Act), (∀ u ∈ U, u.obs = [] \/ (u.i, u.obs) ∈ pend) -> (∀ u ∈ U, u.T w) -> OkU P ops e ar U -> Closed ops e -> wz e U = listed ops.size dn -> uO ar U = a ->
  wpAny P .any ops (RQ P f k R) (fu + U.length) e ar w
def sa (ops : Array Oper) (j : Nat) : List (Nat × List Ob) -> List Ob
 | [] => []
 | (i, obs) :: r => match anc ops i j with
  | true => sa ops j r
  | false => obs ++ sa ops j r
def py (ops : Array Oper) (j : Nat) : List (Nat × List Ob) -> List (Nat × List Ob)
 | [] => []
 | (i, obs) :: r => match anc ops i j with
  | true => py ops j r
  | false => (i, obs) :: py ops j r
theorem mn {j i : Nat} {obs : List Ob} (h : anc ops i j = false) : ∀ {pend : List (Nat × List Ob)}, (i, obs) ∈ pend -> (i, obs) ∈ py ops j pend
 | (e, o') :: r, hm => by
  simp only [py];cases hm with
  | head => rw [h]; exact List.mem_cons_self
  | tail _ hm =>
   split
   ·exact mn h hm
   ·exact mC _ (mn h hm)
theorem oZ {w : World} {j i : Nat} {obs : List Ob} (h : anc ops i j = false) : ∀ {pend : List (Nat × List Ob)}, xO w (sa ops j pend) -> (i, obs) ∈ pend -> xO w obs
 | (e, o') :: r, ha, hm => by
  simp only [sa] at ha;cases hm with
  | head => rw [h] at ha; exact (wA.1 ha).1
  | tail _ hm =>
   split at ha
   ·exact oZ h ha hm
   ·exact oZ h (wA.1 ha).2 hm
section
variable {f : FuncId} {k : List Item} {a : Act} {w : World} {R : Value -> World -> Prop} {fu : Nat} {dn : List Nat} {pend : List (Nat × List Ob)}
theorem Runs.Cd {id : Nat} (hm : P.follows .mixedOrders = true) (h : WP P f ops ops.size [] [] k a { w with drawn := w.drawn + 1 } R) : Runs P f (.code (.region id ops true) :: k) a w R := by
 refine Runs.of_wp (wp_region_any hm ?_);have := h [] (Array.replicate ops.size false) a (by simp) (by simp) trivial (fun x o i ht => by
  rcases Nat.lt_or_ge x ops.size with e | e
  ·simp [e] at ht
  ·simp only [Array.getD_eq_getD_getElem?, Array.getElem?_replicate] at ht;split at ht <;> simp at ht) rfl rfl
 simpa using this
theorem WP.done (hs : su ops = true) (e : vC (vR dn) 0 ops.toList = []) (h : Runs P f k a w R) : WP P f ops fu dn pend k a w R := by
 have hr := (lW hs).1 e;intro U l ar _ t u x h1 h2;refine kc hs (fun _ => True) (fun _ l ar y z => ?_) (fun j A hj => by rw [hr] at hj; cases hj) _ U l ar rfl (fun _ _ => trivial) t u x h1 h2;subst y; subst z;cases fu with
 | zero => exact ⟨hr, h⟩
 | succ fu => exact ⟨fun _ => h, fun i hi => by rw [hr] at hi; cases hi⟩
theorem WP.take {i : Nat} {o : Oper} {v : Value} {obs : List Ob} (y : su ops = true) (hi : ops[i]? = some o) (hr : i ∈ Region.ready .any ops (listed ops.size dn))
  (S : YieldsIf P ops (fun w => xO w obs) o v a) (W : xO w obs) (h : WP P f ops fu (dn ++ [i]) ((i, obs) :: pend) k (a.put o.dst v) w R) : WP P f ops (fu + 1) dn pend k a w R := by
 intro U X ar hp Y Z hc h1 h2;obtain ⟨B, o', z, A⟩ := mem_ready.1 hr;rw [hi] at z; cases z;have t : ∀ j x, ops[j]? = some x -> j ≠ i -> (listed ops.size dn).getD j true = false -> (∀ e ∈ x.after, Region.binds .any e = true -> e.on ≠ i) -> o.apart ops x = true := by
  intro j x hj D F I;obtain ⟨hd, hp⟩ := mX y hi hj (Ne.symm D);rcases hp with (hp | hp) | ⟨hp, hq⟩
  ·obtain ⟨e, he, J, rfl⟩ := dN.1 hp;exact absurd rfl (I e he J)
  ·obtain ⟨e, he, J, rfl⟩ := dN.1 hp;have := A e he J;exact (oP this F).elim
  ·unfold Oper.apart;cases O : o.dst with
   | none =>
    cases l : x.dst with
    | none => rfl
    | some d => simpa using pd hq l
   | some d =>
    have g1 := pd hp O;have g2 := jd hd O;cases l : x.dst with
    | none => simp [g1]
    | some e => rw [l] at g2; simp only [ne_eq, Option.some.injEq] at g2; simpa [g1, g2] using pd hq l
 have := h (⟨i, o, v, obs⟩ :: U) X ar (fun u hu => by
   cases hu with
   | head => right; simp
   | tail _ hm => rcases hp u hm with h | h; exact .inl h; exact .inr (mC _ h)) (fun u hu => by
   cases hu with
   | head => exact W
   | tail _ hm => exact Y u hm) ⟨hi, by rw [h1]; exact B, by rw [h1]; exact A, by rw [h2]; exact S, by rw [h1]; exact t, Z⟩ hc (by rw [mF, <- h1]; rfl) (by simp only [uO, h2])
 simp only [lC] at this;have e : fu + 1 + U.length = fu + (U.length + 1) := by omega
 rw [e]; exact this
def segP (P : Program) (n : Nat) (ops : Array Oper) : List Nat -> Env -> List Value -> List (Nat × List Ob) -> List (Nat × List Ob)
 | [], L, _, pend => pend
 | i :: is, L, j, pend => match ops[i]? with
  | none => pend
  | some o => match uo ops L o with
   | none => pend
   | some false => match setE n o.dst undef L with
    | some L1 => segP P n ops is L1 j pend
    | none => pend
   | some true => match evOp P L o j with
    | none => pend
    | some (v, obs, e) => match setE n o.dst v L with
     | none => pend
     | some L1 => match obs with
      | [] => segP P n ops is L1 e pend
      | b :: l => segP P n ops is L1 e ((i, b :: l) :: pend)
theorem WP.weaken {e : List (Nat × List Ob)} (j : ∀ i obs, obs ≠ [] -> (i, obs) ∈ e -> (i, obs) ∈ pend) (h : WP P f ops fu dn pend k a w R) : WP P f ops fu dn e k a w R := by
 intro U l ar hp t x y h1 h2;refine h U l ar (fun u hu => ?_) t x y h1 h2;rcases hp u hu with h | h
 ·exact .inl h
 ·by_cases he : u.obs = []
  ·exact .inl he
  ·exact .inr (j _ _ he h)
theorem WP.segs {n : Nat} (u : su ops = true) : ∀ (is : List Nat) (fu m : Nat) (dn : List Nat) (pend : List (Nat × List Ob)) (a : Act) (L : Env) (j : List Value) (L' : Env) (obs : List Ob), zO n a L -> (∀ x, tb m x = true ↔ x ∈ dn) ->
  kv ops is m = true -> pw P n ops is L j = some (L', obs) -> xO w obs ->
  (∀ a', zO n a' L' -> WP P f ops fu (dn ++ is) (segP P n ops is L j pend) k a' w R) -> WP P f ops (is.length + fu) dn pend k a w R := by
 intro is;induction is with
 | nil => intro fu m dn pend a L j L' obs z _ _ h _ hk; simp [pw] at h; obtain ⟨rfl, rfl⟩ := h; simpa [segP] using hk a z
 | cons i is ih =>
  intro fu m dn pend a L j L' obs z hm ht h I hk;obtain ⟨o0, W, X, Y, J⟩ : ∃ o, ops[i]? = some o /\ tb m i = false /\ subM (oN o) m = true /\ kv ops is (bitL i m) = true := by
   simp only [kv] at ht;split at ht
   ·cases ht
   ·rename_i o I;split at ht
    ·cases ht
    ·rename_i h1;split at ht
     ·cases ht
     ·rename_i h2;exact ⟨o, I, h1, h2, ht⟩
  have A := cS u hm W X Y;have O : ∀ x, tb (bitL i m) x = true ↔ x ∈ dn ++ [i] := fun x => by
   rw [bz, hm, iA, List.mem_singleton, or_comm]
  have Z : (i :: is).length + fu = (is.length + fu) + 1 := by simp; omega
  rw [Z];simp only [pw] at h;split at h
  ·cases h
  ·rename_i o y;split at h
   ·cases h
   ·rename_i hw;split at h
    ·rename_i L1 l;have e : ∀ pend, segP P n ops (i :: is) L j pend = segP P n ops is L1 j pend := fun pend => by simp [segP, y, hw, l]
     refine WP.take u y A (obs := []) (v := undef) (.inr ⟨xN z hw, rfl⟩) trivial ?_;refine WP.weaken (pend := pend) (fun i' U S hm => by
      cases hm with
      | head => exact absurd rfl S
      | tail _ hm => exact hm) ?_
     exact ih fu _ (dn ++ [i]) pend _ L1 j L' obs (sY z l) O J h I fun a2 h2 => by have := hk a2 h2; rw [e] at this; simpa using this
    ·cases h
   ·rename_i hw;split at h
    ·cases h
    ·rename_i v B t hv;split at h
     ·cases h
     ·rename_i L1 l;split at h
      ·rename_i L2 D F;cases h;rw [wA] at I;refine WP.take u y A (obs := B) (v := v) (.inl ⟨xN z hw, fun w hw => mY z hv hw⟩) I.1 ?_;cases B with
       | nil =>
        have e : ∀ pend, segP P n ops (i :: is) L j pend = segP P n ops is L1 t pend := fun pend => by simp [segP, y, hw, hv, l]
        refine WP.weaken (pend := pend) (fun i' U S hm => by
         cases hm with
         | head => exact absurd rfl S
         | tail _ hm => exact hm) ?_
        exact ih fu _ (dn ++ [i]) pend _ L1 t _ D (sY z l) O J F I.2 fun a2 h2 => by have := hk a2 h2; rw [e] at this; simpa using this
       | cons b bs =>
        have e : ∀ pend, segP P n ops (i :: is) L j pend = segP P n ops is L1 t ((i, b :: bs) :: pend) := fun pend => by simp [segP, y, hw, hv, l]
        exact ih fu _ (dn ++ [i]) ((i, b :: bs) :: pend) _ L1 t _ D (sY z l) O J F I.2 fun a2 h2 => by have := hk a2 h2; rw [e] at this; simpa using this
      ·cases h
theorem WP.seg {n : Nat} {L : Env} (e : su ops = true) (u : zO n a L) (is : List Nat) (i : List Value) (ks : List Nat) {Lo : Env} {obs : List Ob}
  (ht : kv ops is (vR dn) = true) (he : nP P n ops is L i ks = some (Lo, obs)) (y : xO w obs)
  (hk : ∀ a', zO n a' Lo -> WP P f ops fu (dn ++ is) (segP P n ops is L i pend) k a' w R) : WP P f ops (is.length + fu) dn pend k a w R := by
 unfold nP at he;split at he
 ·cases he
 ·rename_i L1 t hs;split at he
  ·rename_i z j;cases he;exact WP.segs e _ _ _ _ _ _ _ _ _ _ u (fun x => vB x dn) ht hs y fun a' l => hk a' (sZ l j)
  ·cases he
theorem mh {ar : Act} {o : Oper} (e : ∀ cs b, o.op ≠ .select cs b) : ∀ {U : List Pd}, (∀ u ∈ U, ∀ d, u.o.dst = some d -> d ∉ o.looksAt ops) -> execOp (uO ar U).eval o = execOp ar.eval o /\ Region.wanted o (yielded ops (uO ar U).tmps) = Region.wanted o (yielded ops ar.tmps)
 | [], _ => ⟨rfl, rfl⟩
 | u :: U, h => by
  obtain ⟨h1, h2⟩ := mh (ar := ar) e fun x i => h x (mC _ i)
  exact ⟨(execOp_put o e _ _ _ (h u (by simp))).trans h1, (wanted_put o _ _ _ (h u (by simp))).trans h2⟩
def ActP (P : Program) (f : FuncId) (ops : Array Oper) (fu : Nat) (dn : List Nat) (pend : List (Nat × List Ob)) (k : List Item) (a : Act) (w : World) (R : Value -> World -> Prop) (j : Nat) : Prop :=
 ∃ (o : Oper) (e : Value -> World -> Prop), ops[j]? = some o /\ Region.wanted o (yielded ops a.tmps) = true /\ OpTo P o a w e /\ ∀ v w', e v w' -> xO w' (sa ops j pend) /\ WP P f ops fu (dn ++ [j]) (py ops j pend) k (a.put o.dst v) w' R
theorem WP.acts (hs : su ops = true) {rs : List Nat} (hr : vC (vR dn) 0 ops.toList = rs) (y : rs ≠ []) (hA : ∀ j ∈ rs, ActP P f ops fu dn pend k a w R j) : WP P f ops (fu + 1) dn pend k a w R := by
 intro U F ar hp Z D S h1 h2;refine kc hs (fun u => u.obs = [] \/ (u.i, u.obs) ∈ pend) (fun h => absurd (hr.symm.trans ((lW hs).2 h)) y) (fun A W I J U F ar hM Z D S h1 h2 B => ?_) _ U F ar rfl hp Z D S h1 h2;refine ⟨fu, rfl, ?_⟩;have l := (mem_ready.1 I).1;obtain ⟨o, Rv, hi, hw, h, hk⟩ := hA A (hr ▸ (nK hs dn A).2 I);have a1 : W = o := by rw [hi] at J; exact (Option.some.inj J).symm
 subst a1;rw [<- h1] at l;have t := kx (P := P) hi B D l;have O : ∀ cs b, W.op ≠ .select cs b := fun cs b => Region.noSelect_spec (mH hs) A W cs b hi
 obtain ⟨e1, e2⟩ := mh (ops := ops) (ar := ar) O fun u hu d hd => (Oper.apart_spec (t u hu)).1 d hd
 rw [h2] at e1 e2;unfold wpOp;simp only [hi, <- e2, hw, if_true];refine .inl (h.wp e1 fun v w' hv => ?_);obtain ⟨k1, k2⟩ := hk v w' hv;have e : ∀ u ∈ U, anc ops u.i A = false := fun u hu => by
  cases hA : anc ops u.i A with
  | false => rfl
  | true =>
   have t1 := Ap S _ _ _ hi B hA;exact (oP t1 (kH D u hu).2).elim
 have y : ∀ u ∈ U, u.i ≠ A := fun u hu he => by
  obtain ⟨X, Y, rfl⟩ := List.append_of_mem hu;have : (wz F (X ++ u :: Y)).getD u.i true ≠ false := by
   clear l t e1 e2 e hu hM Z D h1 h2;induction X with
   | nil =>
    simp only [List.nil_append, wz];intro h;rcases Nat.lt_or_ge u.i (wz F Y).size with h' | h'
    ·simp [h'] at h
    ·simp [Array.getElem?_eq_none h'] at h
   | cons z X ih => intro h; exact ih (ru h)
  rw [he] at this;exact this l
 refine k2 U (F.setIfInBounds A true) (ar.put W.dst v) (fun u hu => ?_) (fun u hu => ?_) (kP (mH hs) v hi t y D) (lG S hi B) (by rw [tO, h1, mF]) (by rw [qE ar U fun u hu x hx => (Oper.apart_spec (t u hu)).2.1 x hx, h2])
 ·rcases hM u hu with h | h
  ·exact .inl h
  ·exact .inr (mn (e u hu) h)
 ·rcases hM u hu with h | h
  ·unfold Pd.T; rw [h]; trivial
  ·exact oZ (e u hu) k1 h
def eqL : List Nat -> List Nat -> Bool
 | [], [] => true
 | x :: l, y :: r => match Nat.beq x y with
  | true => eqL l r
  | false => false
 | _, _ => false
theorem ju : ∀ {l r : List Nat}, eqL l r = true -> l = r
 | [], [], _ => rfl
 | x :: l, y :: r, h => by
  simp only [eqL] at h;split at h
  ·rename_i e;rw [Nat.eq_of_beq_eq_true e, ju h]
  ·cases h
theorem WP.effG {j : Nat} {o : Oper} {i : Value -> World -> Prop} (hs : su ops = true) (hr : vC (vR dn) 0 ops.toList = [j]) (hi : ops[j]? = some o)
  (hw : Region.wanted o (yielded ops a.tmps) = true) (h : OpTo P o a w i) (hk : ∀ v w', i v w' -> xO w' (sa ops j pend) /\ WP P f ops fu (dn ++ [j]) (py ops j pend) k (a.put o.dst v) w' R) : WP P f ops (fu + 1) dn pend k a w R :=
 WP.acts hs hr (by simp) fun l e => by
  simp only [List.mem_singleton] at e;subst e;exact ⟨o, i, hi, hw, h, hk⟩
theorem WP.eff {j n d : Nat} {L : Env} {o : Oper} {i : Value -> World -> Prop} {obs : List Ob} (l : zO n a L) (hs : su ops = true) (hr : eqL (vC (vR dn) 0 ops.toList) [j] = true) (hi : ops[j]? = some o) (hd : o.dst = some d) (hn : Nat.blt d n = true)
  (hw : uo ops L o = some true) (e : sa ops j pend = obs) (h : OpTo P o a w i) (hk : ∀ v w', i v w' -> xO w' obs /\ ∀ a', zO n a' ((d, v) :: L) -> WP P f ops fu (dn ++ [j]) (py ops j pend) k a' w' R) : WP P f ops (fu + 1) dn pend k a w R := by
 refine WP.effG hs (ju hr) hi (xN l hw) h fun v w' hv => ?_
 obtain ⟨h1, h2⟩ := hk v w' hv;exact ⟨by rw [e]; exact h1, h2 _ (by rw [hd]; exact l.put _ _ (by simpa [Nat.blt_eq] using hn))⟩
theorem WP.eff0 {j n : Nat} {L : Env} {o : Oper} {i : Value -> World -> Prop} {obs : List Ob} (l : zO n a L) (hs : su ops = true) (hr : eqL (vC (vR dn) 0 ops.toList) [j] = true) (hi : ops[j]? = some o) (hd : o.dst = none)
  (hw : uo ops L o = some true) (e : sa ops j pend = obs) (h : OpTo P o a w i) (hk : ∀ v w', i v w' -> xO w' obs /\ ∀ a', zO n a' L -> WP P f ops fu (dn ++ [j]) (py ops j pend) k a' w' R) : WP P f ops (fu + 1) dn pend k a w R := by
 refine WP.effG hs (ju hr) hi (xN l hw) h fun v w' hv => ?_
 obtain ⟨h1, h2⟩ := hk v w' hv;exact ⟨by rw [e]; exact h1, h2 _ (by rw [hd]; exact l)⟩
def WQ (P : Program) (f : FuncId) (ops : Array Oper) (dn : List Nat) (pend : List (Nat × List Ob)) (k : List Item) (a : Act) (w : World) (R : Value -> World -> Prop) : Prop :=
 su ops = true -> WP P f ops (ops.size - dn.length) dn pend k a w R
theorem Runs.drawn {id : Nat} (hm : P.follows .mixedOrders = true) (hs : su ops = true) (h : WQ P f ops [] [] k a { w with drawn := w.drawn + 1 } R) : Runs P f (.code (.region id ops true) :: k) a w R := Runs.Cd hm (by simpa [WQ] using h hs)
theorem WQ.done (hr : eqL (vC (vR dn) 0 ops.toList) [] = true) (h : Runs P f k a w R) : WQ P f ops dn pend k a w R := fun hs =>
 WP.done hs (ju hr) h
theorem WQ.seg {n : Nat} {L : Env} (j : zO n a L) (is : List Nat) (i : List Value) (ks : List Nat) {Lo : Env} {obs : List Ob}
  (ht : (Nat.ble (dn.length + is.length) ops.size && kv ops is (vR dn)) = true) (he : nP P n ops is L i ks = some (Lo, obs)) (l : xO w obs)
  (hk : ∀ a', zO n a' Lo -> WQ P f ops (dn ++ is) (segP P n ops is L i pend) k a' w R) : WQ P f ops dn pend k a w R := by
 simp only [Bool.and_eq_true] at ht;have hle := Nat.le_of_ble_eq_true ht.1;have e : ops.size - dn.length = is.length + (ops.size - (dn ++ is).length) := by simp; omega
 unfold WQ;rw [e];intro hs;exact WP.seg hs j is i ks ht.2 he l fun a ha => hk a ha hs
theorem WQ.eff {j n d : Nat} {L : Env} {o : Oper} {l : Value -> World -> Prop} {obs : List Ob} (t : zO n a L) (hr : (Nat.blt dn.length ops.size && eqL (vC (vR dn) 0 ops.toList) [j]) = true) (hi : ops[j]? = some o) (hd : o.dst = some d) (hn : Nat.blt d n = true)
  (hw : uo ops L o = some true) (i : sa ops j pend = obs) (h : OpTo P o a w l) (hk : ∀ v w', l v w' -> xO w' obs /\ ∀ a', zO n a' ((d, v) :: L) -> WQ P f ops (dn ++ [j]) (py ops j pend) k a' w' R) : WQ P f ops dn pend k a w R := by
 rw [Bool.and_eq_true] at hr;have u : dn.length < ops.size := by simpa [Nat.blt_eq] using hr.1
 have e : ops.size - dn.length = (ops.size - (dn ++ [j]).length) + 1 := by simp; omega
 unfold WQ;rw [e];intro hs;exact WP.eff t hs hr.2 hi hd hn hw i h fun v w' hv => ⟨(hk v w' hv).1, fun a ha => (hk v w' hv).2 a ha hs⟩
theorem WQ.eff0 {j n : Nat} {L : Env} {o : Oper} {l : Value -> World -> Prop} {obs : List Ob} (t : zO n a L) (hr : (Nat.blt dn.length ops.size && eqL (vC (vR dn) 0 ops.toList) [j]) = true) (hi : ops[j]? = some o) (hd : o.dst = none)
  (hw : uo ops L o = some true) (i : sa ops j pend = obs) (h : OpTo P o a w l) (hk : ∀ v w', l v w' -> xO w' obs /\ ∀ a', zO n a' L -> WQ P f ops (dn ++ [j]) (py ops j pend) k a' w' R) : WQ P f ops dn pend k a w R := by
 rw [Bool.and_eq_true] at hr;have u : dn.length < ops.size := by simpa [Nat.blt_eq] using hr.1
 have e : ops.size - dn.length = (ops.size - (dn ++ [j]).length) + 1 := by simp; omega
 unfold WQ;rw [e];intro hs;exact WP.eff0 t hs hr.2 hi hd hw i h fun v w' hv => ⟨(hk v w' hv).1, fun a ha => (hk v w' hv).2 a ha hs⟩
def AQ (P : Program) (f : FuncId) (ops : Array Oper) (dn : List Nat) (pend : List (Nat × List Ob)) (k : List Item) (a : Act) (w : World) (R : Value -> World -> Prop) (j : Nat) : Prop :=
 su ops = true -> ActP P f ops (ops.size - (dn.length + 1)) dn pend k a w R j
theorem WQ.acts (rs : List Nat) (hr : (Nat.blt dn.length ops.size && eqL (vC (vR dn) 0 ops.toList) rs) = true) (i : rs ≠ []) (hA : ∀ j ∈ rs, AQ P f ops dn pend k a w R j) : WQ P f ops dn pend k a w R := by
 rw [Bool.and_eq_true] at hr;have l : dn.length < ops.size := by simpa [Nat.blt_eq] using hr.1
 have e : ops.size - dn.length = (ops.size - (dn.length + 1)) + 1 := by omega
 unfold WQ;rw [e];exact fun hs => WP.acts hs (ju hr.2) i fun j hj => hA j hj hs
theorem WQ.act2 (i j : Nat) (hr : (Nat.blt dn.length ops.size && eqL (vC (vR dn) 0 ops.toList) [i, j]) = true) (h1 : AQ P f ops dn pend k a w R i) (h2 : AQ P f ops dn pend k a w R j) : WQ P f ops dn pend k a w R :=
 WQ.acts [i, j] hr (by simp) fun x e => by
  simp only [iC, List.not_mem_nil, or_false] at e;rcases e with rfl | rfl
  ·exact h1
  ·exact h2
theorem WQ.act3 (i j l : Nat) (hr : (Nat.blt dn.length ops.size && eqL (vC (vR dn) 0 ops.toList) [i, j, l]) = true) (h1 : AQ P f ops dn pend k a w R i) (h2 : AQ P f ops dn pend k a w R j) (h3 : AQ P f ops dn pend k a w R l) : WQ P f ops dn pend k a w R :=
 WQ.acts [i, j, l] hr (by simp) fun x e => by
  simp only [iC, List.not_mem_nil, or_false] at e;rcases e with rfl | rfl | rfl
  ·exact h1
  ·exact h2
  ·exact h3
theorem AQ.eff {j n d : Nat} {L : Env} {o : Oper} {e : Value -> World -> Prop} {obs : List Ob} (l : zO n a L) (hi : ops[j]? = some o) (hd : o.dst = some d) (hn : Nat.blt d n = true)
  (hw : uo ops L o = some true) (i : sa ops j pend = obs) (h : OpTo P o a w e) (hk : ∀ v w', e v w' -> xO w' obs /\ ∀ a', zO n a' ((d, v) :: L) -> WQ P f ops (dn ++ [j]) (py ops j pend) k a' w' R) : AQ P f ops dn pend k a w R j := by
 refine fun hs => ⟨o, e, hi, xN l hw, h, fun v w' hv => ?_⟩
 obtain ⟨h1, h2⟩ := hk v w' hv;refine ⟨by rw [i]; exact h1, ?_⟩;have := h2 (a.put o.dst v) (by rw [hd]; exact l.put _ _ (by simpa [Nat.blt_eq] using hn));unfold WQ at this;simpa using this hs
theorem AQ.eff0 {j n : Nat} {L : Env} {o : Oper} {e : Value -> World -> Prop} {obs : List Ob} (l : zO n a L) (hi : ops[j]? = some o) (hd : o.dst = none)
  (hw : uo ops L o = some true) (i : sa ops j pend = obs) (h : OpTo P o a w e) (hk : ∀ v w', e v w' -> xO w' obs /\ ∀ a', zO n a' L -> WQ P f ops (dn ++ [j]) (py ops j pend) k a' w' R) : AQ P f ops dn pend k a w R j := by
 refine fun hs => ⟨o, e, hi, xN l hw, h, fun v w' hv => ?_⟩
 obtain ⟨h1, h2⟩ := hk v w' hv;refine ⟨by rw [i]; exact h1, ?_⟩;have := h2 (a.put o.dst v) (by rw [hd]; exact l);unfold WQ at this;simpa using this hs
end
end
end
noncomputable section
theorem mT {α : Type} {enc : α -> List Value} {sz : Nat} (he : xX enc sz) {z : α} {j : Array Value} (hz : j.toList = enc z) (n : Nat) : (Builtin.zeroCells j n).toList = (List.replicate n z).flatMap enc := by
 have hs : j.size = sz := by rw [<- Array.length_toList, hz, he.len]
 apply List.ext_getElem?;intro i;simp only [Builtin.zeroCells, Array.toList_map, Array.toList_range, List.getElem?_map, hs];by_cases h : i < n * sz
 ·have h0 : 0 < sz := by
   rcases Nat.eq_zero_or_pos sz with e | e
   ·subst e; simp at h
   ·exact e
  have hj : i / sz < n := (Nat.div_lt_iff_lt_mul h0).2 h;have l := tc he (List.replicate n z) (i / sz) (i % sz) (by simpa using hj) (Nat.mod_lt _ h0);rw [Nat.mul_comm, Nat.div_add_mod] at l;rw [l, List.getElem?_range h];simp only [Option.map_some, List.getElem_replicate];have hm : i % sz < j.size := by rw [hs]; exact Nat.mod_lt _ h0
  rw [getElem!_pos j _ hm, <- hz];simp [hm]
 ·rw [List.getElem?_eq_none (by simp; omega), List.getElem?_eq_none (by rw [yv he]; simp; omega)]
  rfl
theorem cA {α : Type} {enc : α -> List Value} {sz : Nat} (he : xX enc sz) (l ys : List α) (lo : Nat) (h : lo + ys.length <= l.length) (cs : List Value) (off : Nat) (y : off + l.length * sz <= cs.length)
  (z : ∀ i, i < l.length * sz -> cs[off + i]? = (l.flatMap enc)[i]?) :
  ∀ i, i < l.length * sz -> (putAt cs (off + lo * sz) (ys.flatMap enc))[off + i]? = ((l.take lo ++ (ys ++ l.drop (lo + ys.length))).flatMap enc)[i]? := by
 intro i hi;have h1 : (lo + ys.length) * sz <= l.length * sz := Nat.mul_le_mul_right _ h;rw [Nat.add_mul] at h1;have e := yv he ys;have j : ((l.take lo).flatMap enc).length = lo * sz := by rw [yv he, List.length_take, Nat.min_eq_left (by omega)]
 have A : ((l.drop (lo + ys.length)).flatMap enc).length = l.length * sz - (lo + ys.length) * sz := by rw [yv he, List.length_drop, Nat.sub_mul]
 have x : l.flatMap enc = (l.take lo).flatMap enc ++ (l.drop lo).flatMap enc := by rw [<- List.flatMap_append, List.take_append_drop]
 have t : l.flatMap enc = (l.take (lo + ys.length)).flatMap enc ++ (l.drop (lo + ys.length)).flatMap enc := by rw [<- List.flatMap_append, List.take_append_drop]
 have u : ((l.take (lo + ys.length)).flatMap enc).length = lo * sz + ys.length * sz := by rw [yv he, List.length_take, Nat.min_eq_left (by omega), Nat.add_mul]
 rw [ud _ _ _ (by rw [e]; omega), List.flatMap_append, List.flatMap_append];by_cases D : i < lo * sz
 ·rw [aA, List.getElem?_append_left (by rw [List.length_take]; omega), List.getElem?_take, if_pos (by omega), z i hi, x, List.getElem?_append_left (by omega), List.getElem?_append_left (by omega)]
 ·by_cases F : i < lo * sz + ys.length * sz
  ·rw [List.getElem?_append_left (by simp only [lA, List.length_take, e]; omega), List.getElem?_append_right (by rw [List.length_take]; omega),
    List.getElem?_append_right (by omega), List.getElem?_append_left (by rw [j, e]; omega)]
   congr 1;rw [List.length_take, j]; omega
  ·rw [List.getElem?_append_right (by simp only [lA, List.length_take, e]; omega), List.getElem?_append_right (by omega), List.getElem?_append_right (by rw [j, e]; omega), List.getElem?_drop];have B : off + lo * sz + (ys.flatMap enc).length + (off + i - (List.take (off + lo * sz) cs ++ ys.flatMap enc).length) = off + i := by
    simp only [lA, List.length_take, e]; omega
   rw [B, z i hi, t, List.getElem?_append_right (by omega)];congr 1;rw [j, e, u]; omega
def rW {α : Type} (l : List α) (lo : Int) (z : α) : List α := l.take lo.toNat ++ (List.replicate (l.length - lo.toNat) z ++ [])
theorem oJ {α : Type} {l : List α} {lo : Int} {z : α} {r : List α} (hr : mCut l lo (l.length : Int) = some r) : (rW l lo z).length = l.length := by
 obtain ⟨h1, h2⟩ := kB hr;simp [rW]; omega
section
variable {α : Type} {T : TypeId} {enc : α -> List Value} {sz : Nat} {w0 w : World} {As : List HP} {P : Program}
theorem OpTo.eI {n : Nat} {a : Act} {L : Env} {o : Oper} {t : TypeId} {sb sb' : Option Addr} {sc sc' : Nat} {l r : List α} {lo : Int} {z : α} {x : Operand} {ti : TypeInfo} {O : Value} (J : zO n a L) (H : St w0 (Sl T enc sz sb sc l :: As) w) (he : xX enc sz)
  (hr : mCut l lo (l.length : Int) = some r) (A : yF sb sc lo.toNat sz = sb') (a1 : sc - lo.toNat = sc') (Z : o.op = .call { callee := .builtin .clear, args := #[x], argTypes := #[t] }) (B : evO L x = some (.slice sb' r.length sc'))
  (ht : P.underlying t = some (.slice T)) (hi : P.info? T = some ti) (hz : ti.zero = some O) (S : O.cells.toList = enc z) :
  OpTo P o a w fun v w' => v = .tuple #[] /\ St w0 (Sl T enc sz sb sc (rW l lo z) :: As) w' := by
 obtain ⟨dst, op, type, pos, after, guard⟩ := o;simp only at Z;subst Z;have hlen := qZ hr;obtain ⟨a2, a3⟩ := kB hr;have j : rW l lo z = l.take lo.toNat ++ (List.replicate r.length z ++ l.drop (lo.toNat + (List.replicate r.length z).length)) := by
  unfold rW;have : r.length = l.length - lo.toNat := by omega
  rw [this];congr 2;simp; omega
 have U : ∀ w : World, (Go.zeroValue T).run P w = .ok O w := fun w => by simp [Go.zeroValue, Go.typeInfo, Sem.run, hi, hz]
 rcases H.jI with ⟨h1, h2, h3⟩ | ⟨b, off, cs, e, H1, h3, h4, h5, h6⟩
 ·subst h1; subst h2;have hs : sb' = none := by rw [<- A]; unfold yF; split <;> rfl
  subst hs;refine OpTo.of_run (v := .tuple #[]) (w' := w) ?_ ⟨rfl, ?_⟩
  ·simp [execOp, resolve, invoke, builtin, J.eval B, Builtin.clear_, xx P ht]
  ·simpa [rW] using H
 ·subst e;by_cases hn : r.length = 0
  ·refine OpTo.of_run (v := .tuple #[]) (w' := w) ?_ ⟨rfl, ?_⟩
   ·rw [hn] at B;cases D : sb' <;> simp [execOp, resolve, invoke, builtin, J.eval B, Builtin.clear_, xx P ht, D]
   ·rw [j, hn];simpa using H
  ·have W : sc ≠ lo.toNat := by omega
   have hs : sb' = some ⟨b, off + lo.toNat * sz, none⟩ := by rw [<- A]; unfold yF; rw [if_neg W]; simp [Addr.add_lit]
   subst hs;have hmul : l.length * sz <= sc * sz := Nat.mul_le_mul_right _ h3;have X : (lo.toNat + r.length) * sz <= l.length * sz := Nat.mul_le_mul_right _ (by omega);rw [Nat.add_mul] at X;have u := yv he (List.replicate r.length z);simp only [List.length_replicate] at u;have hb := H1.one 0 rfl;have y := run_storeCells_at P b (off + lo.toNat * sz) T ((List.replicate r.length z).flatMap enc) 0 cs w hb (by simp only [Nat.add_zero, u]; omega) (qD he _);simp only [Nat.add_zero] at y;refine OpTo.of_run (v := .tuple #[]) (w' := w.setRow b (putAt cs.toList (off + lo.toNat * sz) ((List.replicate r.length z).flatMap enc)).toArray) ?_ ⟨rfl, ?_⟩
   ·have Y : ∃ m, r.length = m + 1 := ⟨r.length - 1, by omega⟩
    obtain ⟨m, hm⟩ := Y;rw [ud _ _ _ (by simp only [Array.length_toList, u]; omega)];simp only [execOp, resolve, invoke, builtin, J.eval B, Builtin.clear_, xx P ht, Sem.run_bind, Result.andThen_ok, hm];simp [execOp, resolve, invoke, builtin, J.eval B, Builtin.clear_, xx P ht, U, hm, mT he S];rw [hm] at y;rw [show storeCells ⟨b, off + lo.toNat * sz, none⟩ (List.flatMap enc (List.replicate (m + 1) z)) = storeCells ⟨b, off + lo.toNat * sz, none⟩ (List.flatMap enc (List.replicate (m + 1) z)) 0 from rfl, y];simp [Result.andThen]
   ·have H2 := H1.set (w' := w.setRow b (putAt cs.toList (off + lo.toNat * sz) ((List.replicate r.length z).flatMap enc)).toArray) (by simp) (by simp) (by simp) (setRow_heap w b _ _ T (0, 0) hb) (fun c S => setRow_other w b c _ S);have F := oJ (z := z) hr;refine H2.head fun h hh => .inr ⟨b, off, _, rfl, hh, by rw [F]; exact h3, h4, by simp [qt]; omega, fun i I => ?_⟩
    rw [F] at I;rw [j];simp only [List.getElem?_toArray];exact cA he l (List.replicate r.length z) lo.toNat (by simp; omega) cs.toList off (by simp; omega) (fun i hi => by rw [<- h6 i hi]; simp) i I
end
end
noncomputable section
structure MCh (α : Type) where
 cap : Nat
 buf : List α
def vI (x : Int) : Value := .int .i64 x
def ChM {α : Type} (c : Nat) (ev : α -> Value) (m : MCh α) : HP := Ch c m.cap (m.buf.map ev)
def cO (α : Type) (n : Int) : Option (MCh α) := if 0 <= n /\ n <= 1073741824 then some ⟨n.toNat, []⟩ else none
def MCh.room {α : Type} (m : MCh α) : Bool := decide (m.buf.length < m.cap)
def MCh.push {α : Type} (m : MCh α) (x : α) : MCh α := ⟨m.cap, m.buf ++ [x]⟩
def MCh.rest {α : Type} (m : MCh α) (b : List α) : MCh α := ⟨m.cap, b⟩
section
variable {α : Type} {ev : α -> Value} {P : Program} {f : FuncId} {k : List Item} {a : Act} {w w0 : World} {R : Value -> World -> Prop} {ops : Array Oper} {As : List HP} {n d c : Nat} {L : Env} {o : Oper} {m : MCh α}
theorem OpTo.Ba {t e : TypeId} {dir : ChanDir} {x : Operand} {l : Int} {ti : TypeInfo} (ev : α -> Value) (hl : cO α l = some m) (y : zO n a L) (H : St w0 As w) (u : o.op = .makeChan t x) (z : evO L x = some (.int .i64 l))
  (ht : P.underlying t = some (.chan dir e)) (hi : P.info? e = some ti) (A : Nat.ble ti.bytes 131072 = true) :
  OpTo P o a w fun v w' => ∃ r : Nat, v = .chan (some r) /\ St w0 (ChM r ev m :: As) w' := by
 unfold cO at hl;split at hl
 ·rename_i hn;cases hl;obtain ⟨h0, h1⟩ := hn;have j := Nat.le_of_ble_eq_true A;obtain ⟨dst, op, type, pos, after, guard⟩ := o;simp only at u;subst u;obtain ⟨q, rfl⟩ := Int.eq_ofNat_of_zero_le h0;have hq : q <= 1073741824 := by omega
  have B : ti.bytes * q <= 281474976710656 - 112 := by
   calc ti.bytes * q <= 131072 * 1073741824 := Nat.mul_le_mul j hq
    _ <= 281474976710656 - 112 := by decide
  have O : ¬ ((q : Int) < 0) := by omega
  have D : ¬ ((q : Int) > IntKind.i64.max) := by
   have : IntKind.i64.max = 9223372036854775807 := rfl;rw [this]; omega
  have F : ¬ ((281474976710544 : Int) < (ti.bytes : Int) * (q : Int)) := by
   rw [<- Int.natCast_mul]; omega
  have i : (Instr.makeChan t (.int .i64 (q : Int))).run P w = .ok (.chan (some w.heap.size)) { w with heap := w.heap.push (.chan q #[] false 0 0 false) } := by
   have I : IntKind.i64.max < (q : Int) ↔ False := iff_false_intro D;simp [Instr.makeChan, xx P ht, asInt, asIntOf, typeInfo, hi, I, F, newObj];rw [if_neg (by omega)]
   rfl
  refine OpTo.of_run (w' := { w with heap := w.heap.push (.chan q #[] false 0 0 false) }) (v := .chan (some w.heap.size)) ?_ ⟨w.heap.size, rfl, ?_⟩
  ·simp [execOp, y.eval z, i]
  ·have J := H.alloc (.chan q #[] false 0 0 false);exact J.head fun h hh => ⟨(0, 0), by simpa using hh⟩
 ·cases hl
theorem Runs.cC {id : Nat} {x y : Operand} {e : TypeId} {u : α} {ti : TypeInfo} {z : Value} (t : zO n a L) (H : St w0 (ChM c ev m :: As) w) (j : ops[0]? = some o) (hd : o.dst = some d) (hn : Nat.blt d n = true) (A : o.guard = none)
  (B : o.op = .select #[{ chan := x, send := some y, elem := e }] false) (D : evO L x = some (.chan (some c))) (F : evO L y = some (ev u)) (hi : P.info? e = some ti) (hz : ti.zero = some z) (i : m.room = true)
  (hk : ∀ a' w', zO n a' ((d, .tuple #[goInt 0, .bool false]) :: L) -> St w0 (ChM c ev (m.push u) :: As) w' -> WR P f ops 1 k a' w' R) : Runs P f (.code (.region id ops false) :: k) a w R :=
 Runs.iU t H j hd hn A B D F hi hz (by simpa [MCh.room] using i) fun a' w' l I => hk a' w' l (by simpa [ChM, MCh.push] using I)
theorem Runs.cG {id : Nat} {x y : Operand} {e : TypeId} {u : α} {ti : TypeInfo} {z : Value} (l : zO n a L) (H : St w0 (ChM c ev m :: As) w) (j : ops[0]? = some o) (hd : o.dst = some d) (hn : Nat.blt d n = true) (t : o.guard = none)
  (A : o.op = .select #[{ chan := x, send := some y, elem := e }] false) (B : evO L x = some (.chan (some c))) (D : evO L y = some (ev u)) (hi : P.info? e = some ti) (hz : ti.zero = some z) (i : m.room = false)
  (hk : ∀ a', zO n a' ((d, .tuple #[goInt (-1), .bool false]) :: L) -> WR P f ops 1 k a' w R) : Runs P f (.code (.region id ops false) :: k) a w R :=
 Runs.iR l H j hd hn t A B D hi hz (by simpa [MCh.room] using i) hk
theorem Runs.bo {id : Nat} {x : Operand} {e : TypeId} {u : α} {b : List α} {ti : TypeInfo} {z : Value} (t : m.buf = u :: b) (y : zO n a L) (H : St w0 (ChM c ev m :: As) w) (i : ops[0]? = some o) (hd : o.dst = some d) (hn : Nat.blt d n = true) (A : o.guard = none)
  (B : o.op = .select #[{ chan := x, send := none, elem := e }] false) (D : evO L x = some (.chan (some c))) (hi : P.info? e = some ti) (hz : ti.zero = some z)
  (hk : ∀ a' w', zO n a' ((d, .tuple #[goInt 0, .bool true, ev u]) :: L) -> St w0 (ChM c ev (m.rest b) :: As) w' -> WR P f ops 1 k a' w' R) : Runs P f (.code (.region id ops false) :: k) a w R :=
 have j : St w0 (Ch c m.cap (ev u :: b.map ev) :: As) w := by simpa [ChM, t] using H
 Runs.ir y j i hd hn A B D hi hz fun a' w' l j => hk a' w' l j
theorem Runs.bp {id : Nat} {x : Operand} {e : TypeId} {ti : TypeInfo} {z : Value} (j : m.buf = []) (l : zO n a L) (H : St w0 (ChM c ev m :: As) w) (i : ops[0]? = some o) (hd : o.dst = some d) (hn : Nat.blt d n = true) (t : o.guard = none)
  (u : o.op = .select #[{ chan := x, send := none, elem := e }] false) (y : evO L x = some (.chan (some c))) (hi : P.info? e = some ti) (hz : ti.zero = some z)
  (hk : ∀ a', zO n a' ((d, .tuple #[goInt (-1), .bool false, z]) :: L) -> WR P f ops 1 k a' w R) : Runs P f (.code (.region id ops false) :: k) a w R :=
 Runs.iW l (by simpa [ChM, j] using H) i hd hn t u y hi hz hk
theorem OpTo.AR {x : Operand} {t e : TypeId} {dir : ChanDir} (i : Nat) (j : zO n a L) (H : St w0 As w) (hi : As[i]? = some (ChM c ev m)) (l : o.op = .call { callee := .builtin .len, args := #[x], argTypes := #[t] }) (ht : P.underlying t = some (.chan dir e)) (u : evO L x = some (.chan (some c))) :
  OpTo P o a w fun v w' => v = .int .i64 (m.buf.length : Int) /\ w' = w := by
 refine (OpTo.BL i j H hi l ht u).mono ?_;rintro v w' ⟨rfl, rfl⟩;exact ⟨by simp, rfl⟩
end
section
variable {G α : Type} {T : TypeId} {enc : G -> List Value} {R : G -> α -> HP} {w0 w : World} {As : List HP}
def Objs (R : G -> α -> HP) : List G -> List α -> List HP
 | g :: gs, x :: xs => R g x :: Objs R gs xs
 | _, _ => []
def SlX (T : TypeId) (enc : G -> List Value) (R : G -> α -> HP) (sb : Option Addr) (sc : Nat) (l : List α) : HP := fun h =>
 ∃ gs : List G, gs.length = l.length /\ sepL (Sl T enc 1 sb sc gs :: Objs R gs l) h
def But (R : G -> α -> HP) (gs : List G) (l : List α) (i : Int) : HP := sepL (Objs R (gs.eraseIdx i.toNat) (l.eraseIdx i.toNat))
theorem mR : ∀ (gs : List G) (l : List α) (i : Nat) (g : G) (x : α), gs[i]? = some g -> l[i]? = some x -> (Objs R gs l).Perm (R g x :: Objs R (gs.eraseIdx i) (l.eraseIdx i))
 | [], l, i, g, x, h, _ => by simp at h
 | g' :: gs, [], i, g, x, _, h => by simp at h
 | g' :: gs, x' :: l, 0, g, x, h, h2 => by simp at h h2; subst h; subst h2; simp [Objs]
 | g' :: gs, x' :: l, i + 1, g, x, h, h2 => by
  simp only [Objs, List.eraseIdx_cons_succ];exact ((mR gs l i g x (by simpa using h) (by simpa using h2)).cons (R g' x')).trans (List.Perm.swap _ _ _)
theorem St.jT {sb : Option Addr} {sc : Nat} {l : List α} (H : St w0 (SlX T enc R sb sc l :: As) w) : ∃ gs : List G, gs.length = l.length /\ St w0 (Sl T enc 1 sb sc gs :: (Objs R gs l ++ As)) w := by
 obtain ⟨gs, H⟩ := H.ex;have hl := H.fact (q := gs.length = l.length) fun h hh => hh.1
 exact ⟨gs, hl, (H.head fun h hh => hh.2).flat⟩
theorem St.kG {sb : Option Addr} {sc : Nat} (gs : List G) (l : List α) (hl : gs.length = l.length) (H : St w0 (Sl T enc 1 sb sc gs :: (Objs R gs l ++ As)) w) : St w0 (SlX T enc R sb sc l :: As) w :=
 (St.group (Sl T enc 1 sb sc gs :: Objs R gs l) H).head fun h hh => ⟨gs, hl, hh⟩
theorem St.iz {sb : Option Addr} {sc : Nat} {l : List α} {i : Int} {x : α} (H : St w0 (SlX T enc R sb sc l :: As) w) (e : mIdx l i = some x) :
  ∃ (gs : List G) (g : G), gs.length = l.length /\ mIdx gs i = some g /\ St w0 (R g x :: Sl T enc 1 sb sc gs :: But R gs l i :: As) w := by
 obtain ⟨gs, hl, H⟩ := H.jT;obtain ⟨⟨h0, h1⟩, h2⟩ := sC e;have j : i.toNat < gs.length := by rw [hl]; exact (List.getElem?_eq_some_iff.1 h2).1
 refine ⟨gs, gs[i.toNat], hl, by simp [mIdx, h0, j], ?_⟩;have hp := mR (R := R) gs l i.toNat gs[i.toNat] x (by simp [j]) h2;have t := H.perm ((hp.append_right As).cons _);have u : St w0 (Objs R (gs.eraseIdx i.toNat) (l.eraseIdx i.toNat) ++ (R gs[i.toNat] x :: Sl T enc 1 sb sc gs :: As)) w := by
  refine t.perm ?_;exact (List.Perm.swap _ _ _).trans (List.perm_append_comm_assoc [R gs[i.toNat] x, Sl T enc 1 sb sc gs] _ As)
 exact ((St.group _ u).t2).t2
theorem St.jf {sb : Option Addr} {sc : Nat} {gs : List G} {l : List α} {i : Int} {x x' : α} {g g' : G} (H : St w0 (R g' x' :: Sl T enc 1 sb sc gs :: But R gs l i :: As) w) (e : mIdx l i = some x) (hl : gs.length = l.length) (A : mIdx gs i = some g) (he : enc g' = enc g) :
  St w0 (SlX T enc R sb sc (mSet l i x') :: As) w := by
 obtain ⟨⟨h0, h1⟩, h2⟩ := sC e;obtain ⟨_, h3⟩ := sC A;have u : i.toNat < gs.length := by rw [hl]; exact (List.getElem?_eq_some_iff.1 h2).1
 have y : (gs.set i.toNat g').flatMap enc = gs.flatMap enc := by
  have : ∀ (gs : List G) (j : Nat), gs[j]? = some g -> (gs.set j g').flatMap enc = gs.flatMap enc := by
   intro gs;induction gs with
   | nil => intro j; simp
   | cons a gs ih =>
    intro j hj;cases j with
    | zero => simp at hj; subst hj; simp [he]
    | succ j => simp at hj; simp [ih j hj]
  exact this gs i.toNat h3
 have z : Sl T enc 1 sb sc gs = Sl T enc 1 sb sc (gs.set i.toNat g') := by
  funext h;simp only [Sl, y, List.length_set];have : (gs = []) = (gs.set i.toNat g' = []) := by
   rw [<- List.length_eq_zero_iff, <- List.length_eq_zero_iff, List.length_set]
  rw [this]
 have t : But R gs l i = sepL (Objs R ((gs.set i.toNat g').eraseIdx i.toNat) ((l.set i.toNat x').eraseIdx i.toNat)) := by
  unfold But;rw [List.eraseIdx_set_eq, List.eraseIdx_set_eq]
 rw [z, t] at H;have B := H.t2.flat;have hp := mR (R := R) (gs.set i.toNat g') (l.set i.toNat x') i.toNat g' x' (by simp [u]) (by rw [List.getElem?_set_self (by omega)]);refine St.kG (gs.set i.toNat g') (l.set i.toNat x') (by simp [hl]) (B.perm ?_);refine List.Perm.trans ?_ ((hp.symm.append_right As).cons _);refine List.Perm.trans (List.perm_append_comm_assoc _ [R g' x', Sl T enc 1 sb sc (gs.set i.toNat g')] As) ?_;exact List.Perm.swap _ _ _
theorem eO {l : List α} {i : Int} {x : α} (e : mIdx l i = some x) : mSet l i x = l := by
 obtain ⟨⟨h0, h1⟩, h2⟩ := sC e;obtain ⟨h3, h4⟩ := List.getElem?_eq_some_iff.1 h2;unfold mSet;rw [<- h4, List.set_getElem_self]
theorem St.aJ {sb : Option Addr} {sc : Nat} {gs : List G} {l : List α} {i : Int} {x : α} {g g' : G} (H : St w0 (R g' x :: Sl T enc 1 sb sc gs :: But R gs l i :: As) w) (e : mIdx l i = some x) (hl : gs.length = l.length) (j : mIdx gs i = some g) (he : enc g' = enc g) :
  St w0 (SlX T enc R sb sc l :: As) w := by
 have := H.jf e hl j he
 rwa [eO e] at this
theorem St.Bj (T : TypeId) (enc : G -> List Value) (R : G -> α -> HP) (H : St w0 As w) : St w0 (SlX T enc R none 0 [] :: As) w :=
 St.kG [] [] rfl (by simpa [Objs] using H.fl T enc 1)
theorem St.BF {sb : Option Addr} {sc : Nat} (gs : List G) (l : List α) (hl : gs.length = l.length) {Bs : List HP} (H : St w0 (Sl T enc 1 sb sc gs :: Bs) w) (e : Bs = Objs R gs l ++ As) : St w0 (SlX T enc R sb sc l :: As) w := by
 subst e;exact St.kG gs l hl H
theorem mJ : ∀ (gs hs : List G) (l m : List α), gs.length = l.length -> Objs R (gs ++ hs) (l ++ m) = Objs R gs l ++ Objs R hs m
 | [], hs, [], m, _ => by simp [Objs]
 | g :: gs, hs, x :: l, m, h => by simp only [List.cons_append, Objs]; rw [mJ gs hs l m (by simpa using h)]
 | [], hs, x :: l, m, h => by simp at h
 | g :: gs, hs, [], m, h => by simp at h
theorem OpTo.bX {P : Program} {n : Nat} {a : Act} {L : Env} {o : Oper} {x y : Operand} {t u : TypeId} {d : TypeId} {ti : TypeInfo} {sb xb : Option Addr} {sc xc : Nat} {l ys r : List α} (hr : mApp l ys = some r) (B : zO n a L) (H : St w0 (SlX T enc R sb sc l :: SlX T enc R xb xc ys :: As) w) (he : xX enc 1)
  (D : o.op = .call { callee := .builtin .append, args := #[x, y], argTypes := #[t, u] }) (F : evO L x = some (.slice sb l.length sc)) (I : evO L y = some (.slice xb ys.length xc))
  (ht : P.underlying t = some (.slice T)) (hu : P.underlying u = some (.slice d)) (hi : P.info? T = some ti) (e : ti.size = 1) {z : Value} (hz : ti.zero = some z) (i : z.cells.size = 1) (J : Nat.ble ti.bytes 131072 = true) :
  OpTo P o a w fun v w' => ∃ sb' sc', v = .slice sb' r.length sc' /\ St w0 (SlX T enc R sb' sc' r :: As) w' := by
 obtain ⟨rfl, hle⟩ := gZ hr;obtain ⟨gs, hl, H⟩ := H.jT;have H1 : St w0 (SlX T enc R xb xc ys :: Sl T enc 1 sb sc gs :: (Objs R gs l ++ As)) w := H.perm (List.perm_middle (l₁ := Sl T enc 1 sb sc gs :: Objs R gs l));obtain ⟨hs, hl2, O⟩ := H1.jT;have A : St w0 (Sl T enc 1 sb sc gs :: Sl T enc 1 xb xc hs :: (Objs R hs ys ++ (Objs R gs l ++ As))) w := by
  refine O.perm ?_;exact (List.Perm.cons _ (List.perm_middle (l₁ := Objs R hs ys))).trans (List.Perm.swap _ _ _)
 have j := SlRd.all (yN T enc 1 xb xc hs) he A 1 rfl;have := OpTo.rI (P := P) (o := o) (r := gs ++ hs) (ys := hs) (m := ys.length) (xb := xb) (xc := xc) (by unfold mApp; rw [if_pos (by omega)]) B A he D (by rw [hl]; exact F) I ht hu hi e hz i hl2.symm j J;refine this.mono ?_;rintro v w' ⟨sb', sc', rfl, S⟩;refine ⟨sb', sc', by simp [hl, hl2], ?_⟩;refine St.kG (gs ++ hs) (l ++ ys) (by simp [hl, hl2]) ?_;rw [mJ gs hs l ys hl];have U := S.t1.drop;refine U.perm (List.Perm.cons _ ?_);rw [aA];exact List.perm_append_comm_assoc _ _ _
end
def RS {α : Type} (T : TypeId) (enc : α -> List Value) (sz : Nat) (g : Option Addr × Nat × Nat) (x : List α) : HP := fun h => g.2.1 = x.length /\ Sl T enc sz g.1 g.2.2 x h
section
variable {α : Type} {T T' : TypeId} {enc : α -> List Value} {sz : Nat} {w0 w : World} {As : List HP}
end
end
end Go.Th
