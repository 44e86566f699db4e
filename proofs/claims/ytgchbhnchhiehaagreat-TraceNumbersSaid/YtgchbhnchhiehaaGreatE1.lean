/-
  The engine, part 1: a flat judgement 'Runs' for a frame of the model's machine, an evaluator of operations over a list of known slots, and the rules of code. It speaks of no program in special.
-/
import Derived.Calls
import Derived.OrdersHeld
import Derived.Conc.LoneSelect
import Derived.KernelRfl
set_option linter.unusedVariables false
set_option linter.unusedSimpArgs false
namespace Go.Th

abbrev Env := List (Nat × Value)

def look (t : Nat) : Env → Option Value
  | [] => none
  | (u, v) :: r => match Nat.beq t u with
    | true => some v
    | false => look t r

structure EnvOk (n : Nat) (a : Act) (L : Env) : Prop where
  size : a.tmps.size = n
  defers : a.defers = []
  has : ∀ t v, look t L = some v → a.tmps[t]? = some v

theorem look_cons (t u : Nat) (v : Value) (r : Env) : look t ((u, v) :: r) = if t = u then some v else look t r := by
  simp only [look]
  split
  · rename_i h; simp [Nat.eq_of_beq_eq_true h]
  · rename_i h; simp [Nat.ne_of_beq_eq_false h]

theorem EnvOk.put {n : Nat} {a : Act} {L : Env} (h : EnvOk n a L) (d : Nat) (v : Value) (hd : d < n) : EnvOk n (a.put (some d) v) ((d, v) :: L) := by
  refine ⟨by simp [Act.put, h.size], h.defers, fun t u hu => ?_⟩
  rw [look_cons] at hu
  simp only [Act.put]
  split at hu
  · subst_vars; cases hu; simp [h.size, hd]
  · rename_i hne
    rw [Array.getElem?_setIfInBounds_ne (fun e => hne e.symm)]
    exact h.has t u hu

theorem EnvOk.put_none {n : Nat} {a : Act} {L : Env} (h : EnvOk n a L) (v : Value) : EnvOk n (a.put none v) L := h

def evO (L : Env) : Operand → Option Value
  | .tmp t => look t L
  | .const v => some v
  | .global g => some (.pointer (some ⟨g, 0, none⟩))
  | .func f => some (.func (.func f) #[] #[])

theorem EnvOk.eval {n : Nat} {a : Act} {L : Env} (h : EnvOk n a L) {x : Operand} {v : Value} (hx : evO L x = some v) : a.eval x = v := by
  cases x with
  | tmp t =>
    have := h.has t v hx
    simp [Act.eval, Array.getD_eq_getD_getElem?, this]
  | const u => simpa [evO, Act.eval] using hx
  | global g => simpa [evO, Act.eval] using hx
  | func f => simpa [evO, Act.eval] using hx

def rho (L : Env) (x : Operand) : Value := match evO L x with
  | some v => v
  | none => undef

def okAll (L : Env) : List Operand → Bool
  | [] => true
  | x :: r => match evO L x with
    | some _ => okAll L r
    | none => false

theorem okAll_spec {L : Env} : ∀ {l : List Operand}, okAll L l = true → ∀ x ∈ l, ∃ v, evO L x = some v
  | [], _, x, hx => by cases hx
  | y :: r, h, x, hx => by
    simp only [okAll] at h
    split at h
    · rename_i v hv
      cases hx with
      | head => exact ⟨v, hv⟩
      | tail _ hm => exact okAll_spec h x hm
    · cases h

def isSelect : Op → Bool
  | .select .. => true
  | _ => false

theorem exec_eq {n : Nat} {a : Act} {L : Env} (h : EnvOk n a L) {o : Oper} (hs : isSelect o.op = false) (hok : okAll L o.op.operands.toList = true) :
    execOp a.eval o = execOp (rho L) o := by
  refine execOp_congr o (fun cs b hb => by simp [hb, isSelect] at hs) (fun x hx => ?_)
  obtain ⟨v, hv⟩ := okAll_spec hok x (by simpa using hx)
  rw [h.eval hv]; simp [rho, hv]

/-! What a reading step needs of the world. -/
inductive Ob where
  | cell (a : Addr) (v : Value)
  | p (q : Prop)
def Ob.holds (w : World) : Ob → Prop
  | .cell a v => w.cell? a = some v
  | .p q => q
def AllOb (w : World) : List Ob → Prop
  | [] => True
  | o :: r => o.holds w ∧ AllOb w r
theorem allOb_append {w : World} : ∀ {l m : List Ob}, AllOb w (l ++ m) ↔ AllOb w l ∧ AllOb w m
  | [], m => by simp [AllOb]
  | o :: l, m => by simp [AllOb, allOb_append (l := l) (m := m), and_assoc]

def runA (P : Program) {α : Type} : Sem α → List Value → Option (α × List Ob × List Value)
  | .pure a, orc => some (a, [], orc)
  | .load _ ad k, orc => match orc with
    | [] => none
    | v :: orc => match runA P (k v) orc with
      | some (x, obs, orc') => some (x, .cell ad v :: obs, orc')
      | none => none
  | .program k, orc => runA P (k P) orc
  | .mark _ k, orc => runA P k orc
  | _, _ => none

theorem runA_sound (P : Program) (w : World) {α : Type} : ∀ (s : Sem α) (orc : List Value) (x : α) (obs : List Ob) (orc' : List Value),
    runA P s orc = some (x, obs, orc') → AllOb w obs → s.run P w = .ok x w := by
  intro s
  induction s with
  | pure a => intro orc x obs orc' h _; simp [runA] at h; obtain ⟨rfl, _, _⟩ := h; rfl
  | load m ad k ih =>
    intro orc x obs orc' h hob
    cases orc with
    | nil => simp [runA] at h
    | cons v orc =>
      simp only [runA] at h
      split at h
      · rename_i y obs' orc'' hy
        simp at h
        obtain ⟨rfl, rfl, rfl⟩ := h
        simp only [AllOb, Ob.holds] at hob
        simp only [Sem.run, hob.1]
        exact ih v orc _ _ _ hy hob.2
      · cases h
  | program k ih => intro orc x obs orc' h hob; simp only [runA] at h; simp only [Sem.run]; exact ih P orc x obs orc' h hob
  | mark m k ih => intro orc x obs orc' h hob; simp only [runA] at h; simp only [Sem.run]; exact ih orc x obs orc' h hob
  | _ => intro orc x obs orc' h; simp [runA] at h

/-! Places and slices. -/
def rebase (base : Option Addr) (cap l size : Nat) : Option Addr := if cap = l then base else base.map (·.add (l * size))
def lowOf : Option Value → Option Nat
  | none => some 0
  | some (.int _ i) => some i.toNat
  | _ => none
def lowOb : Option Value → Nat → List Ob
  | some (.int _ i), h => [.p (0 ≤ i ∧ i ≤ (h : Int))]
  | _, _ => []
def highOf (len : Nat) : Option Value → Option Nat
  | none => some len
  | some (.int _ i) => some i.toNat
  | _ => none

def evOp (P : Program) (L : Env) (o : Oper) (orc : List Value) : Option (Value × List Ob × List Value) :=
  match isSelect o.op, okAll L o.op.operands.toList with
  | false, true =>
    match o.op with
    | .indexAddr t x i => match P.underlying t, rho L x, rho L i with
      | some (.slice e), .slice base len _, .int _ iv => match orc, P.info? e with
        | .pointer (some ⟨b, off, none⟩) :: orc, some ti => some (.pointer (some ⟨b, off + iv.toNat * ti.size, none⟩), [.p (base = some ⟨b, off, none⟩), .p (0 ≤ iv ∧ iv < (len : Int))], orc)
        | _, _ => none
      | some (.array len e), .pointer (some ⟨b, off, none⟩), .int _ iv => match P.info? e with
        | some ti => some (.pointer (some ⟨b, off + iv.toNat * ti.size, none⟩), [.p (0 ≤ iv ∧ iv < (len : Int))], orc)
        | none => none
      | _, _, _ => none
    | .slice t x lo hi none => match P.underlying t, rho L x with
      | some (.slice e), .slice base len cap => match P.info? e, lowOf (lo.map (rho L)), highOf len (hi.map (rho L)) with
        | some ti, some l, some h => match orc with
          | .slice b2 n2 c2 :: orc => some (.slice b2 n2 c2, .p (rebase base cap l ti.size = b2) :: .p (h - l = n2) :: .p (cap - l = c2) :: (lowOb (hi.map (rho L)) cap ++ lowOb (lo.map (rho L)) h), orc)
          | _ => none
        | _, _, _ => none
      | some .string, .string s => match lowOf (lo.map (rho L)), highOf s.size (hi.map (rho L)) with
        | some l, some h => some (.string (s.extract l h), lowOb (hi.map (rho L)) s.size ++ lowOb (lo.map (rho L)) h, orc)
        | _, _ => none
      | _, _ => none
    | .binOp .quo _ x y _ => match rho L x, rho L y with
      | .int .i64 a, .int .i64 b => some (.int .i64 (IntKind.i64.wrap (a.tdiv b)), [.p (b ≠ 0)], orc)
      | _, _ => none
    | .binOp .rem _ x y _ => match rho L x, rho L y with
      | .int .i64 a, .int .i64 b => some (.int .i64 (a.tmod b), [.p (b ≠ 0)], orc)
      | _, _ => none
    | .binOp .shl _ x y _ => match rho L x, rho L y with
      | .int k a, .int _ b => some (.int k (k.wrap (a * 2 ^ (min b.toNat k.bits))), [.p (0 ≤ b)], orc)
      | _, _ => none
    | .binOp .shr _ x y _ => match rho L x, rho L y with
      | .int k a, .int _ b => some (.int k (a.fdiv (2 ^ (min b.toNat k.bits))), [.p (0 ≤ b)], orc)
      | _, _ => none
    | .index t x i => match P.underlying t, rho L x, rho L i with
      | some .string, .string s, .int _ iv => match orc with
        | .int .u8 c :: orc => some (.int .u8 c, [.p (0 ≤ iv ∧ ∃ u, s[iv.toNat]? = some u ∧ c = (u.toNat : Int))], orc)
        | _ => none
      | _, _, _ => none
    | _ => match runA P (execOp (rho L) o) orc with
      | some (.value v, obs, orc') => some (v, obs, orc')
      | _ => none
  | _, _ => none

theorem addr_add (b off n : Nat) : (⟨b, off, none⟩ : Addr).add n = ⟨b, off + n, none⟩ := by
  unfold Addr.add; split <;> simp_all

theorem run_und (P : Program) {t : TypeId} {d : TypeDesc} (h : P.underlying t = some d) (w : World) : (underlying t).run P w = .ok d w := by
  simp [underlying, program, bind, Sem.bind, Sem.run, h, pure]
theorem run_size (P : Program) {t : TypeId} {i : TypeInfo} (h : P.info? t = some i) (w : World) : (sizeOf t).run P w = .ok i.size w := by
  simp [sizeOf, typeInfo, program, bind, Sem.bind, Sem.run, h, pure]
theorem run_bd (P : Program) {x : Value} {k : IntKind} {i : Int} {y : Nat} {c : BoundsCode} (hx : x = .int k i) (h : 0 ≤ i ∧ i ≤ (y : Int)) (w : World) :
    (Instr.sliceBound x y c).run P w = .ok i.toNat w := by
  subst hx
  simp [Instr.sliceBound, asIntOf, bind, Sem.bind, pure, h]

theorem low_run (P : Program) {lo : Option Value} {l h : Nat} (hl : lowOf lo = some l) (w : World) (ho : AllOb w (lowOb lo h)) (c : BoundsCode) :
    (match lo with
      | some v => Instr.sliceBound v h c
      | none => (pure 0 : Sem Nat)).run P w = .ok l w := by
  cases lo with
  | none => simp [lowOf] at hl; subst hl; rfl
  | some v =>
    cases v <;> simp only [lowOf] at hl <;> try cases hl
    rename_i k i
    simp only [lowOb, AllOb, Ob.holds] at ho
    exact run_bd P rfl ho.1 w

theorem high_run (P : Program) {hi : Option Value} {len h cap : Nat} (hl : highOf len hi = some h) (w : World) (ho : AllOb w (lowOb hi cap)) (c : BoundsCode) :
    (match hi with
      | some v => Instr.sliceBound v cap c
      | none => (pure len : Sem Nat)).run P w = .ok h w := by
  cases hi with
  | none => simp [highOf] at hl; subst hl; rfl
  | some v =>
    cases v <;> simp only [highOf] at hl <;> try cases hl
    rename_i k i
    simp only [lowOb, AllOb, Ob.holds] at ho
    exact run_bd P rfl ho.1 w

theorem bounds_run (P : Program) (b : Bool) (len cap : Nat) (lo hi : Option Value) {l h : Nat} (hl : lowOf lo = some l) (hh : highOf len hi = some h) (w : World)
    (o1 : AllOb w (lowOb hi cap)) (o2 : AllOb w (lowOb lo h)) : (Instr.sliceBounds b len cap lo hi none).run P w = .ok (l, h, cap) w := by
  unfold Instr.sliceBounds
  cases hi with
  | none =>
    simp only [highOf, Option.some.injEq] at hh; subst hh
    cases lo with
    | none => simp only [lowOf, Option.some.injEq] at hl; subst hl; simp
    | some v =>
      have e1 := low_run P hl w o2 .sliceB
      simp only at e1
      simp [e1]
  | some u =>
    have e2 := fun c => high_run P hh w o1 c
    simp only at e2
    cases lo with
    | none => simp only [lowOf, Option.some.injEq] at hl; subst hl; simp [e2]
    | some v =>
      have e1 := low_run P hl w o2 .sliceB
      simp only at e1
      simp [e1, e2]

theorem evOp_sound {P : Program} {n : Nat} {a : Act} {L : Env} (hE : EnvOk n a L) {o : Oper} {orc : List Value} {v : Value} {obs : List Ob} {orc' : List Value}
    (h : evOp P L o orc = some (v, obs, orc')) {w : World} (ho : AllOb w obs) : (execOp a.eval o).run P w = .ok (.value v) w := by
  unfold evOp at h
  split at h
  case h_2 => cases h
  rename_i hs hok
  rw [exec_eq hE hs hok]
  split at h
  · -- indexAddr
    rename_i t x i hop
    simp only [execOp, hop]
    split at h
    · rename_i e base len cap k iv hu hx hi
      rw [hx, hi]
      split at h
      · rename_i b off orc1 ti hti
        simp only [Option.some.injEq, Prod.mk.injEq] at h
        obtain ⟨rfl, rfl, _⟩ := h
        simp only [AllOb, Ob.holds] at ho
        obtain ⟨rfl, hb, -⟩ := ho
        simp [Instr.indexAt, asIntOf, run_und P hu, hb, run_size P hti, addr_add]
      · cases h
    · rename_i len e b off k iv hu hx hi
      rw [hx, hi]
      split at h
      · rename_i ti hti
        simp only [Option.some.injEq, Prod.mk.injEq] at h
        obtain ⟨rfl, rfl, _⟩ := h
        simp only [AllOb, Ob.holds] at ho
        obtain ⟨hb, -⟩ := ho
        simp [Instr.indexAt, Instr.sureAddr, asIntOf, run_und P hu, hb, run_size P hti, addr_add]
      · cases h
    · cases h
  · -- slice
    rename_i t x lo hi hop
    simp only [execOp, hop]
    split at h
    · rename_i e base len cap hu hx
      rw [hx]
      split at h
      · rename_i ti l hh hti hl hhi
        split at h
        · simp only [Option.some.injEq, Prod.mk.injEq] at h
          obtain ⟨rfl, rfl, _⟩ := h
          simp only [AllOb, Ob.holds] at ho
          obtain ⟨rfl, rfl, rfl, ho⟩ := ho
          rw [allOb_append] at ho
          have e3 : (Instr.sliceBounds true len cap (lo.map (rho L)) (hi.map (rho L)) none).run P w = .ok (l, hh, cap) w := bounds_run P true _ _ _ _ hl hhi w ho.1 ho.2
          simp [Instr.sliceAt, Instr.slice, run_und P hu, run_size P hti, rebase, e3]
        · cases h
      · cases h
    · rename_i s hu hx
      rw [hx]
      split at h
      · rename_i l hh hl hhi
        simp only [Option.some.injEq, Prod.mk.injEq] at h
        obtain ⟨rfl, rfl, _⟩ := h
        rw [allOb_append] at ho
        have e3 : (Instr.sliceBounds false s.size s.size (lo.map (rho L)) (hi.map (rho L)) none).run P w = .ok (l, hh, s.size) w := bounds_run P false _ _ _ _ hl hhi w ho.1 ho.2
        simp [Instr.sliceAt, Instr.slice, run_und P hu, e3]
      · cases h
    · cases h
  · -- quo
    rename_i t x y t2 hop
    simp only [execOp, hop]
    split at h
    · rename_i a' b' hx hy
      simp only [Option.some.injEq, Prod.mk.injEq] at h
      obtain ⟨rfl, rfl, _⟩ := h
      simp only [AllOb, Ob.holds] at ho
      simp [hx, hy, eqGuard, binOp, Op.intDiv, ho.1]
    · cases h
  · -- rem
    rename_i t x y t2 hop
    simp only [execOp, hop]
    split at h
    · rename_i a' b' hx hy
      simp only [Option.some.injEq, Prod.mk.injEq] at h
      obtain ⟨rfl, rfl, _⟩ := h
      simp only [AllOb, Ob.holds] at ho
      simp [hx, hy, eqGuard, binOp, Op.intDiv, ho.1]
    · cases h
  · -- shl
    rename_i t x y t2 hop
    simp only [execOp, hop]
    split at h
    · rename_i k a' k2 b' hx hy
      simp only [Option.some.injEq, Prod.mk.injEq] at h
      obtain ⟨rfl, rfl, _⟩ := h
      simp only [AllOb, Ob.holds] at ho
      have hb : ¬ b' < 0 := by omega
      simp [hx, hy, eqGuard, binOp, Op.shift, hb]
    · cases h
  · -- shr
    rename_i t x y t2 hop
    simp only [execOp, hop]
    split at h
    · rename_i k a' k2 b' hx hy
      simp only [Option.some.injEq, Prod.mk.injEq] at h
      obtain ⟨rfl, rfl, _⟩ := h
      simp only [AllOb, Ob.holds] at ho
      have hb : ¬ b' < 0 := by omega
      simp [hx, hy, eqGuard, binOp, Op.shift, hb]
    · cases h
  · -- index of a text
    rename_i t x i hop
    simp only [execOp, hop]
    split at h
    · rename_i s k iv hu hx hi
      rw [hx, hi]
      split at h
      · rename_i c orc1
        simp only [Option.some.injEq, Prod.mk.injEq] at h
        obtain ⟨rfl, rfl, _⟩ := h
        simp only [AllOb, Ob.holds] at ho
        obtain ⟨⟨h0, u, hs1, rfl⟩, -⟩ := ho
        simp [Instr.index, asIntOf, run_und P hu, h0, hs1]
      · cases h
    · cases h
  · split at h
    · rename_i u obs2 orc2 hr
      simp only [Option.some.injEq, Prod.mk.injEq] at h
      obtain ⟨rfl, rfl, _⟩ := h
      exact runA_sound P w _ _ _ _ _ hr ho
    · cases h

/-! A row of operations, one behind the other, none of which changes the world. -/
def wantedL (ops : Array Oper) (L : Env) (o : Oper) : Option Bool :=
  match o.guard with
  | none => some true
  | some (j, want) => match (ops[j]?).bind (·.dst) with
    | some d => match look d L with
      | some (.bool b) => some (b == want)
      | some (.tuple _) => some false
      | _ => none
    | none => none

theorem wantedL_sound {n : Nat} {a : Act} {L : Env} (hE : EnvOk n a L) {ops : Array Oper} {o : Oper} {b : Bool} (h : wantedL ops L o = some b) :
    Region.wanted o (yielded ops a.tmps) = b := by
  unfold wantedL at h
  unfold Region.wanted
  split at h
  · rename_i hg; rw [hg]; simpa using h
  · rename_i j want hg
    rw [hg]
    simp only
    unfold yielded
    split at h
    · rename_i d hd
      rw [hd]
      split at h
      · rename_i u hu
        simp only [Option.bind_some, hE.has _ _ hu]
        simpa using h
      · rename_i u hu
        simp only [Option.bind_some, hE.has _ _ hu]
        simpa using h
      · cases h
    · cases h

def setE (n : Nat) (d : Option Tmp) (v : Value) (L : Env) : Option Env :=
  match d with
  | none => some L
  | some d => match Nat.blt d n with
    | true => some ((d, v) :: L)
    | false => none

theorem setE_sound {n : Nat} {a : Act} {L L' : Env} {d : Option Tmp} {v : Value} (hE : EnvOk n a L) (h : setE n d v L = some L') : EnvOk n (a.put d v) L' := by
  unfold setE at h
  split at h
  · cases h; exact hE
  · split at h
    · rename_i hd; cases h; exact hE.put _ _ (by simpa [Nat.blt_eq] using hd)
    · cases h

def evSeg (P : Program) (n : Nat) (ops : Array Oper) : List Nat → Env → List Value → Option (Env × List Ob)
  | [], L, _ => some (L, [])
  | i :: is, L, orc => match ops[i]? with
    | none => none
    | some o => match wantedL ops L o with
      | none => none
      | some false => match setE n o.dst undef L with
        | some L1 => evSeg P n ops is L1 orc
        | none => none
      | some true => match evOp P L o orc with
        | none => none
        | some (v, obs, orc1) => match setE n o.dst v L with
          | none => none
          | some L1 => match evSeg P n ops is L1 orc1 with
            | some (L2, obs2) => some (L2, obs ++ obs2)
            | none => none

def sel : List Nat → Env → Option Env
  | [], _ => some []
  | k :: ks, L => match look k L with
    | none => none
    | some v => match sel ks L with
      | none => none
      | some r => some ((k, v) :: r)

theorem sel_sound {n : Nat} {a : Act} {L : Env} (hE : EnvOk n a L) : ∀ {ks : List Nat} {Lo : Env}, sel ks L = some Lo → EnvOk n a Lo
  | [], Lo, h => by simp [sel] at h; subst h; exact ⟨hE.size, hE.defers, fun t v hv => by simp [look] at hv⟩
  | k :: ks, Lo, h => by
    simp only [sel] at h
    split at h
    · cases h
    · rename_i v hv
      split at h
      · cases h
      · rename_i r hr
        cases h
        have ih := sel_sound hE hr
        refine ⟨hE.size, hE.defers, fun t u hu => ?_⟩
        rw [look_cons] at hu
        split at hu
        · subst_vars; cases hu; exact hE.has _ _ hv
        · exact ih.has t u hu

def segRes (P : Program) (n : Nat) (ops : Array Oper) (is : List Nat) (L : Env) (orc : List Value) (ks : List Nat) : Option (Env × List Ob) :=
  match evSeg P n ops is L orc with
  | none => none
  | some (L1, obs) => match sel ks L1 with
    | some Lo => some (Lo, obs)
    | none => none

theorem evSeg_ops {P : Program} {n : Nat} {ops : Array Oper} {Q : Exit → Act → World → Prop} {w : World} {rest : List Nat} :
    ∀ (is : List Nat) (a : Act) (L : Env) (orc : List Value) (L' : Env) (obs : List Ob), EnvOk n a L → evSeg P n ops is L orc = some (L', obs) → AllOb w obs →
      (∀ a', EnvOk n a' L' → wpOps P ops Q rest a' w) → wpOps P ops Q (is ++ rest) a w := by
  intro is
  induction is with
  | nil => intro a L orc L' obs hE h ho hk; simp [evSeg] at h; obtain ⟨rfl, rfl⟩ := h; exact hk a hE
  | cons i is ih =>
    intro a L orc L' obs hE h ho hk
    rw [List.cons_append, wpOps_cons]
    simp only [evSeg] at h
    split at h
    · cases h
    · rename_i o hoi
      unfold wpOp
      simp only [hoi]
      split at h
      · cases h
      · rename_i hw
        rw [wantedL_sound hE hw]
        split at h
        · rename_i L1 hL1
          exact ih _ _ _ _ _ (setE_sound hE hL1) h ho hk
        · cases h
      · rename_i hw
        rw [wantedL_sound hE hw]
        split at h
        · cases h
        · rename_i v obs1 orc1 hv
          split at h
          · cases h
          · rename_i L1 hL1
            split at h
            · rename_i L2 obs2 hseg
              cases h
              rw [allOb_append] at ho
              have hr := evOp_sound hE hv ho.1
              simp only [if_true]
              refine .inl ?_
              unfold Oper.wp
              rw [hr]
              exact ih _ _ _ _ _ (setE_sound hE hL1) hseg ho.2 hk
            · cases h

/-! A frame runs to its return. -/
def CallsR (P : Program) (f : FuncId) (args : Array Value) (w : World) (R : Value → World → Prop) : Prop :=
  Calls P f args w fun e w' => ∃ v, e = .returned v ∧ R v w'

theorem CallsR.mono {P : Program} {f : FuncId} {args : Array Value} {w : World} {R R' : Value → World → Prop} (h : CallsR P f args w R) (hr : ∀ v w', R v w' → R' v w') : CallsR P f args w R' :=
  Calls.mono h fun _ _ ⟨v, he, hv⟩ => ⟨v, he, hr _ _ hv⟩

def Runs (P : Program) (f : FuncId) (todo : List Item) (a : Act) (w : World) (R : Value → World → Prop) : Prop :=
  ∀ (b : Frame), b.fn = f → b.kind = .normal → ∀ cs, ∃ v w' fr, R v w' ∧ Steps P (lone (b.at a todo) cs w) (lone fr cs w') ∧ fr.fn = f ∧ fr.leaving P w' (.returned v)

def envFrom : Nat → List Value → Env
  | _, [] => []
  | i, v :: r => (i, v) :: envFrom (i + 1) r

theorem look_envFrom : ∀ (l : List Value) (i t : Nat) (v : Value), look t (envFrom i l) = some v → i ≤ t ∧ l[t - i]? = some v
  | [], i, t, v, h => by simp [envFrom, look] at h
  | u :: l, i, t, v, h => by
    simp only [envFrom] at h
    rw [look_cons] at h
    split at h
    · subst_vars; cases h; simp
    · rename_i hne
      obtain ⟨h1, h2⟩ := look_envFrom l (i + 1) t v h
      refine ⟨by omega, ?_⟩
      have : t - i = (t - (i + 1)) + 1 := by omega
      rw [this]; simpa using h2

section
variable {P : Program} {f : FuncId} {k : List Item} {a : Act} {w : World} {R : Value → World → Prop}

theorem enter {fn : Func} {c : Code} {args : List Value} {n : Nat} (hf : P.funcs[f]? = some fn) (hb : fn.body = some c) (hn : fn.ntmps = n) (hl : Nat.ble args.length n = true)
    (h : ∀ a, EnvOk n a (envFrom 0 args) → Runs P f [.code c] a w R) : CallsR P f args.toArray w R := by
  intro cs
  have hl' : args.length ≤ n := Nat.le_of_ble_eq_true hl
  let b : Frame := { (default : Frame) with fn := f, kind := .normal }
  have henter : Frame.enter P f args.toArray .normal =
      b.at { tmps := args.toArray ++ Array.replicate (fn.ntmps - args.toArray.size) undef, defers := [] } [.code c] := by
    simp [Frame.enter, Frame.at, hf, hb, b]
  obtain ⟨v, w', fr, hR, hs, h1, h2⟩ := h { tmps := args.toArray ++ Array.replicate (fn.ntmps - args.toArray.size) undef, defers := [] } ⟨by simp [hn]; omega, rfl, fun t v hv => by
    obtain ⟨_, h2⟩ := look_envFrom _ _ _ _ hv
    simp only [Nat.sub_zero] at h2
    have hlt : t < args.length := (List.getElem?_eq_some_iff.1 h2).1
    rw [Array.getElem?_append_left (by simpa using hlt)]
    simpa using h2⟩ b rfl rfl cs
  exact ⟨.returned v, w', fr, ⟨v, rfl, hR⟩, by rw [henter]; exact hs, h1, h2⟩

theorem Runs.step {todo todo' : List Item} {a' : Act} {w' : World} (hs : ∀ (b : Frame) cs, step P (lone (b.at a todo) cs w) = .next (lone (b.at a' todo') cs w')) (h : Runs P f todo' a' w' R) : Runs P f todo a w R :=
  fun b hb hk cs => let ⟨v, w2, fr, hR, h1, h2⟩ := h b hb hk cs; ⟨v, w2, fr, hR, .head (hs b cs) h1, h2⟩

theorem Runs.skip (h : Runs P f k a w R) : Runs P f (.code .skip :: k) a w R := .step (fun _ _ => step_skip) h
theorem Runs.label {l : Nat} (h : Runs P f k a w R) : Runs P f (.code (.label l) :: k) a w R := .step (fun _ _ => step_label) h
theorem Runs.inBlock {id : Nat} (h : Runs P f k a w R) : Runs P f (.inBlock id :: k) a w R := .step (fun _ _ => step_inBlock) h
theorem Runs.seq {x y : Code} (h : Runs P f (.code x :: .code y :: k) a w R) : Runs P f (.code (.seq x y) :: k) a w R := .step (fun _ _ => step_seq) h
theorem Runs.block {id : Nat} {c : Code} (h : Runs P f (.code c :: .inBlock id :: k) a w R) : Runs P f (.code (.block id c) :: k) a w R := .step (fun _ _ => step_block) h
theorem Runs.exit {id : Nat} {k' : List Item} (he : exitTo id k = some k') (h : Runs P f k' a w R) : Runs P f (.code (.exit id) :: k) a w R := .step (fun _ _ => step_exit he) h
theorem Runs.inLoop {c : Code} (h : Runs P f (.code c :: .inLoop c :: k) a w R) : Runs P f (.inLoop c :: k) a w R := .step (fun _ _ => step_inLoop) h
theorem Runs.cond {n : Nat} {L : Env} {c : Operand} {x y : Code} {t : Bool} (hE : EnvOk n a L) (hc : evO L c = some (.bool t)) (h1 : t = true → Runs P f (.code x :: k) a w R) (h2 : t = false → Runs P f (.code y :: k) a w R) :
    Runs P f (.code (.cond c x y) :: k) a w R := by
  cases t
  · exact .step (fun _ _ => step_cond (hE.eval hc)) (h2 rfl)
  · exact .step (fun _ _ => step_cond (hE.eval hc)) (h1 rfl)
theorem Runs.condT {n : Nat} {L : Env} {c : Operand} {x y : Code} (hE : EnvOk n a L) (hc : evO L c = some (.bool true)) (h1 : Runs P f (.code x :: k) a w R) :
    Runs P f (.code (.cond c x y) :: k) a w R := .step (fun _ _ => step_cond (hE.eval hc)) h1
theorem Runs.condF {n : Nat} {L : Env} {c : Operand} {x y : Code} (hE : EnvOk n a L) (hc : evO L c = some (.bool false)) (h1 : Runs P f (.code y :: k) a w R) :
    Runs P f (.code (.cond c x y) :: k) a w R := .step (fun _ _ => step_cond (hE.eval hc)) h1

theorem Runs.unroll {c : Code} (h : Runs P f (.code c :: .inLoop c :: k) a w R) : Runs P f (.code (.loop c) :: k) a w R := .step (fun _ _ => step_loop) h

/-- A loop whose rounds are counted downwards by a number. -/
theorem Runs.loop {c : Code} (I : Nat → Act → World → Prop) (N : Nat) (h0 : I N a w)
    (round : ∀ m, (∀ m', m' < m → ∀ a w, I m' a w → Runs P f (.inLoop c :: k) a w R) → ∀ a w, I m a w → Runs P f (.code c :: .inLoop c :: k) a w R) : Runs P f (.code (.loop c) :: k) a w R := by
  have key : ∀ m a w, I m a w → Runs P f (.code c :: .inLoop c :: k) a w R := by
    intro m
    induction m using Nat.strongRecOn with
    | _ m ih => exact round m fun m' hlt a w hI => .inLoop (ih m' hlt a w hI)
  exact .step (fun _ _ => step_loop) (key N a w h0)

def evAll (L : Env) : List ResultVar → Option (List Value)
  | [] => some []
  | .tmp t :: r => match look t L, evAll L r with
    | some v, some vs => some (v :: vs)
    | _, _ => none
  | .cell _ _ :: _ => none
def retVal : List Value → Value
  | [v] => v
  | vs => .tuple vs.toArray

theorem evAll_run {n : Nat} {L : Env} (hE : EnvOk n a L) : ∀ (rs : List ResultVar) (vs : List Value), evAll L rs = some vs →
    (rs.mapM fun (x : ResultVar) => match x with
      | .tmp t => (pure (a.tmps.getD t undef) : Sem Value)
      | .cell x t => do loadVar t (← asAddr (a.tmps.getD x undef))).run P w = .ok vs w
  | [], vs, h => by simp [evAll] at h; subst h; simp
  | .tmp t :: r, vs, h => by
    simp only [evAll] at h
    split at h
    · rename_i v us hv hus
      cases h
      have ih := evAll_run hE r us hus
      have := hE.has _ _ hv
      simp only [Array.getD_eq_getD_getElem?] at ih ⊢
      simp only [List.mapM_cons, Sem.run_bind, Sem.run_pure, Result.andThen_ok, this, Option.getD_some]
      rw [ih]
      rfl
    · cases h
  | .cell _ _ :: _, vs, h => by simp [evAll] at h

theorem Runs.ret {n : Nat} {L : Env} {fn : Func} {rs : List ResultVar} {vs : List Value} (hE : EnvOk n a L) (hf : P.funcs[f]? = some fn) (hr : fn.results = rs.toArray) (hv : evAll L rs = some vs) (h : R (retVal vs) w) :
    Runs P f (.code .ret :: k) a w R := by
  intro b hb hk cs
  refine ⟨retVal vs, w, _, h, .one step_ret, by simp [Frame.at, hb], rfl, hE.defers, hk, fn, by simpa [Frame.at, hb] using hf, ?_⟩
  have := evAll_run (P := P) (w := w) hE rs vs hv
  unfold results
  simp only [Frame.at, hr, List.mapM_toArray, Sem.run_bind, Sem.run_map]
  erw [this]
  simp only [Result.andThen_ok]
  match vs with
  | [] => simp [retVal]
  | [v] => simp [retVal]
  | v :: u :: r => simp [retVal]

theorem Runs.fin {n : Nat} {L : Env} {fn : Func} {rs : List ResultVar} {vs : List Value} (hE : EnvOk n a L) (hf : P.funcs[f]? = some fn) (hr : fn.results = rs.toArray) (hv : evAll L rs = some vs) (h : R (retVal vs) w) :
    Runs P f [] a w R := by
  intro b hb hk cs
  refine ⟨retVal vs, w, _, h, .one step_end, by simp [Frame.at, hb], rfl, hE.defers, hk, fn, by simpa [Frame.at, hb] using hf, ?_⟩
  have := evAll_run (P := P) (w := w) hE rs vs hv
  unfold results
  simp only [Frame.at, hr, List.mapM_toArray, Sem.run_bind, Sem.run_map]
  erw [this]
  simp only [Result.andThen_ok]
  match vs with
  | [] => simp [retVal]
  | [v] => simp [retVal]
  | v :: u :: r => simp [retVal]

def evAllO (P : Program) (L : Env) : List ResultVar → List Value → Option (List Value × List Ob)
  | [], _ => some ([], [])
  | .tmp t :: r, orc => match look t L, evAllO P L r orc with
    | some v, some (vs, obs) => some (v :: vs, obs)
    | _, _ => none
  | .cell x t :: r, orc => match look x L with
    | some (.pointer (some ad)) => match runA P (loadVar t ad) orc with
      | some (v, obs, orc1) => match evAllO P L r orc1 with
        | some (vs, obs2) => some (v :: vs, obs ++ obs2)
        | none => none
      | none => none
    | _ => none

theorem evAllO_run {n : Nat} {L : Env} (hE : EnvOk n a L) : ∀ (rs : List ResultVar) (orc : List Value) (vs : List Value) (obs : List Ob), evAllO P L rs orc = some (vs, obs) → AllOb w obs →
    (rs.mapM fun (x : ResultVar) => match x with
      | .tmp t => (pure (a.tmps.getD t undef) : Sem Value)
      | .cell x t => do loadVar t (← asAddr (a.tmps.getD x undef))).run P w = .ok vs w
  | [], orc, vs, obs, h, _ => by simp [evAllO] at h; obtain ⟨rfl, _⟩ := h; simp
  | .tmp t :: r, orc, vs, obs, h, ho => by
    simp only [evAllO] at h
    split at h
    · rename_i v us obs hv hus
      cases h
      have ih := evAllO_run hE r orc us obs hus ho
      have := hE.has _ _ hv
      simp only [Array.getD_eq_getD_getElem?] at ih ⊢
      simp only [List.mapM_cons, Sem.run_bind, Sem.run_pure, Result.andThen_ok, this, Option.getD_some]
      rw [ih]
      rfl
    · cases h
  | .cell x t :: r, orc, vs, obs, h, ho => by
    simp only [evAllO] at h
    split at h
    · rename_i ad hv
      split at h
      · rename_i v obs1 orc1 hr
        split at h
        · rename_i us obs2 hus
          cases h
          rw [allOb_append] at ho
          have ih := evAllO_run hE r orc1 us obs2 hus ho.2
          have h1 := runA_sound P w _ _ _ _ _ hr ho.1
          have := hE.has _ _ hv
          have h3 : (asAddr (.pointer (some ad))).run P w = .ok ad w := rfl
          simp only [Array.getD_eq_getD_getElem?] at ih ⊢
          simp only [List.mapM_cons, Sem.run_bind, Sem.run_pure, Result.andThen_ok, this, Option.getD_some, h3, h1]
          rw [ih]
          rfl
        · cases h
      · cases h
    · cases h

theorem Runs.retO {n : Nat} {L : Env} {fn : Func} {rs : List ResultVar} {vs : List Value} {obs : List Ob} (hE : EnvOk n a L) (hf : P.funcs[f]? = some fn) (hr : fn.results = rs.toArray) (orc : List Value) (hv : evAllO P L rs orc = some (vs, obs)) (ho : AllOb w obs) (h : R (retVal vs) w) :
    Runs P f (.code .ret :: k) a w R := by
  intro b hb hk cs
  refine ⟨retVal vs, w, _, h, .one step_ret, by simp [Frame.at, hb], rfl, hE.defers, hk, fn, by simpa [Frame.at, hb] using hf, ?_⟩
  have := evAllO_run (P := P) (w := w) hE rs orc vs obs hv ho
  unfold results
  simp only [Frame.at, hr, List.mapM_toArray, Sem.run_bind, Sem.run_map]
  erw [this]
  simp only [Result.andThen_ok]
  match vs with
  | [] => simp [retVal]
  | [v] => simp [retVal]
  | v :: u :: r => simp [retVal]

/-! A region. -/
def RQ (P : Program) (f : FuncId) (k : List Item) (R : Value → World → Prop) : Exit → Act → World → Prop
  | .normal, a, w => Runs P f k a w R
  | _, _, _ => False

def WR (P : Program) (f : FuncId) (ops : Array Oper) (i : Nat) (k : List Item) (a : Act) (w : World) (R : Value → World → Prop) : Prop :=
  wpOps P ops (RQ P f k R) (List.range' i (ops.size - i)) a w

theorem Runs.of_ops {ops : Array Oper} {is : List Nat} (h : wpOps P ops (RQ P f k R) is a w) : Runs P f (.inRegion ops is :: k) a w R := by
  intro b hb hk cs
  obtain ⟨e, a', w', hq, harr⟩ := wp_ops is a w h b k cs
  cases e with
  | normal =>
    obtain ⟨v, w2, fr, hR, h1, h2⟩ := hq b hb hk cs
    exact ⟨v, w2, fr, hR, harr.trans h1, h2⟩
  | _ => exact hq.elim

theorem Runs.region {id : Nat} {ops : Array Oper} (h : WR P f ops 0 k a w R) : Runs P f (.code (.region id ops false) :: k) a w R := by
  refine .step (fun _ _ => step_region) (Runs.of_ops ?_)
  unfold WR at h
  rw [List.range_eq_range']
  simpa using h

theorem WR.done {ops : Array Oper} {i : Nat} (hi : Nat.ble ops.size i = true) (h : Runs P f k a w R) : WR P f ops i k a w R := by
  have : ops.size - i = 0 := by have := Nat.le_of_ble_eq_true hi; omega
  simp [WR, this, wpOps, RQ]; exact h

theorem WR.seg {ops : Array Oper} {i n : Nat} {L : Env} (hE : EnvOk n a L) (j : Nat) (orc : List Value) (ks : List Nat) {Lo : Env} {obs : List Ob}
    (hj : (Nat.ble i j && Nat.ble j ops.size) = true) (he : segRes P n ops (List.range' i (j - i)) L orc ks = some (Lo, obs)) (ho : AllOb w obs)
    (hk : ∀ a', EnvOk n a' Lo → WR P f ops j k a' w R) : WR P f ops i k a w R := by
  simp only [Bool.and_eq_true] at hj
  have h1 := Nat.le_of_ble_eq_true hj.1
  have h2 := Nat.le_of_ble_eq_true hj.2
  unfold WR
  have hr : List.range' i (ops.size - i) = List.range' i (j - i) ++ List.range' j (ops.size - j) := by
    have e1 : ops.size - i = (j - i) + (ops.size - j) := by omega
    have e2 : i + (j - i) = j := by omega
    rw [e1, ← List.range'_append_1, e2]
  rw [hr]
  unfold segRes at he
  split at he
  · cases he
  · rename_i L1 obs1 hs
    split at he
    · rename_i Lo1 hsel
      cases he
      exact evSeg_ops _ _ _ _ _ _ hE hs ho fun a' ha' => hk a' (sel_sound ha' hsel)
    · cases he

/-- One operation that may change the world. -/
def OpTo (P : Program) (o : Oper) (a : Act) (w : World) (Rv : Value → World → Prop) : Prop :=
  match (execOp a.eval o).run P w with
  | .ok (.value v) w' => Rv v w'
  | .ok .skip w' => Rv undef w'
  | .ok (.enter g args) w' => CallsR P g args w' Rv
  | _ => False

theorem OpTo.mono {o : Oper} {Rv Rv' : Value → World → Prop} (h : OpTo P o a w Rv) (hr : ∀ v w', Rv v w' → Rv' v w') : OpTo P o a w Rv' := by
  unfold OpTo at *
  generalize (execOp a.eval o).run P w = r at *
  cases r with
  | ok n w' => cases n <;> first | exact hr _ _ h | exact CallsR.mono h hr | exact h.elim
  | halt x w' => exact h.elim

theorem OpTo.wp {o : Oper} {ar : Act} {Rv : Value → World → Prop} {K : Act → World → Prop} {Q : Exit → Act → World → Prop} (he : execOp a.eval o = execOp ar.eval o) (h : OpTo P o a w Rv)
    (hK : ∀ v w', Rv v w' → K (ar.put o.dst v) w') : o.wp P ar w K Q := by
  unfold OpTo at h
  unfold Oper.wp
  rw [he] at h
  generalize (execOp ar.eval o).run P w = r at *
  cases r with
  | ok n w' =>
    cases n <;> simp only [Oper.upon] at h ⊢ <;> first | exact hK _ _ h | exact h.elim | skip
    exact Calls.mono h fun e w'' ⟨v, he, hv⟩ => by subst he; exact hK _ _ hv
  | halt x w' => exact h.elim

theorem WR.eff {ops : Array Oper} {i n d : Nat} {L : Env} {o : Oper} {Rv : Value → World → Prop} (hE : EnvOk n a L) (hi : ops[i]? = some o) (hd : o.dst = some d) (hn : Nat.blt d n = true) (hw : wantedL ops L o = some true)
    (h : OpTo P o a w Rv) (hk : ∀ v w', Rv v w' → ∀ a', EnvOk n a' ((d, v) :: L) → WR P f ops (i + 1) k a' w' R) : WR P f ops i k a w R := by
  unfold WR at *
  have hlt : i < ops.size := (Array.getElem?_eq_some_iff.1 hi).1
  have : ops.size - i = (ops.size - (i + 1)) + 1 := by omega
  rw [this, List.range'_succ, wpOps_cons]
  unfold wpOp
  simp only [hi, wantedL_sound hE hw, if_true]
  exact .inl (h.wp rfl fun v w' hv => hk v w' hv _ (by rw [hd]; exact hE.put _ _ (by simpa [Nat.blt_eq] using hn)))

theorem WR.eff0 {ops : Array Oper} {i n : Nat} {L : Env} {o : Oper} {Rv : Value → World → Prop} (hE : EnvOk n a L) (hi : ops[i]? = some o) (hd : o.dst = none) (hw : wantedL ops L o = some true)
    (h : OpTo P o a w Rv) (hk : ∀ v w', Rv v w' → ∀ a', EnvOk n a' L → WR P f ops (i + 1) k a' w' R) : WR P f ops i k a w R := by
  unfold WR at *
  have hlt : i < ops.size := (Array.getElem?_eq_some_iff.1 hi).1
  have : ops.size - i = (ops.size - (i + 1)) + 1 := by omega
  rw [this, List.range'_succ, wpOps_cons]
  unfold wpOp
  simp only [hi, wantedL_sound hE hw, if_true]
  exact .inl (h.wp rfl fun v w' hv => hk v w' hv _ (by rw [hd]; exact hE))
end

/-! A region whose order is drawn: readings first, as soon as they may come up; S: what they need of the world, kept by whatever acts. -/
def listed (m : Nat) (dn : List Nat) : Array Bool := dn.foldl (fun b i => b.setIfInBounds i true) (Array.replicate m false)
theorem listed_snoc (m : Nat) (dn : List Nat) (i : Nat) : listed m (dn ++ [i]) = (listed m dn).setIfInBounds i true := by simp [listed]

def takeOk (ops : Array Oper) : List Nat → Array Bool → Bool
  | [], _ => true
  | i :: is, b => Region.free .any ops b i && (Region.ready .any ops b).contains i && takeOk ops is (b.setIfInBounds i true)

section
variable {P : Program} {f : FuncId} {k : List Item} {a : Act} {w : World} {R : Value → World → Prop} {ops : Array Oper}

theorem Runs.of_wp {c : Code} (h : c.wp P (RQ P f k R) a w) : Runs P f (.code c :: k) a w R := by
  intro b hb hk cs
  obtain ⟨e, a', w', hq, harr⟩ := h b k cs
  cases e with
  | normal =>
    obtain ⟨v, w2, fr, hR, h1, h2⟩ := hq b hb hk cs
    exact ⟨v, w2, fr, hR, harr.trans h1, h2⟩
  | _ => exact hq.elim

end

/-! What an operation does: calls. -/
theorem OpTo.of_run {P : Program} {o : Oper} {a : Act} {w w' : World} {v : Value} {Rv : Value → World → Prop} (h : (execOp a.eval o).run P w = .ok (.value v) w') (hv : Rv v w') : OpTo P o a w Rv := by
  unfold OpTo; rw [h]; exact hv
theorem OpTo.of_skip {P : Program} {o : Oper} {a : Act} {w w' : World} {Rv : Value → World → Prop} (h : (execOp a.eval o).run P w = .ok .skip w') (hv : Rv undef w') : OpTo P o a w Rv := by
  unfold OpTo; rw [h]; exact hv
theorem OpTo.of_enter {P : Program} {o : Oper} {a : Act} {w w' : World} {g : FuncId} {args : Array Value} {Rv : Value → World → Prop} (h : (execOp a.eval o).run P w = .ok (.enter g args) w') (hv : CallsR P g args w' Rv) : OpTo P o a w Rv := by
  unfold OpTo; rw [h]; exact hv

def evList (L : Env) : List Operand → Option (List Value)
  | [] => some []
  | x :: r => match evO L x, evList L r with
    | some v, some vs => some (v :: vs)
    | _, _ => none
theorem evList_eq {n : Nat} {a : Act} {L : Env} (hE : EnvOk n a L) : ∀ (l : List Operand) (vs : List Value), evList L l = some vs → l.map a.eval = vs
  | [], vs, h => by simp [evList] at h; simp [h]
  | x :: r, vs, h => by
    simp only [evList] at h
    split at h
    · rename_i v us hv hus
      cases h
      simp [hE.eval hv, evList_eq hE r us hus]
    · cases h

def callParts : Op → Option (Operand × List Operand)
  | .call { callee := .value g, args, .. } => some (g, args.toList)
  | _ => none

theorem OpTo.call {P : Program} {n : Nat} {a : Act} {L : Env} {w : World} {o : Oper} {x : Operand} {xs : List Operand} {g : FuncId} {first captured : Array Value} {vs : List Value} {Rv : Value → World → Prop} (hE : EnvOk n a L)
    (ho : callParts o.op = some (x, xs)) (hx : evO L x = some (.func (.func g) first captured)) (hxs : evList L xs = some vs)
    (hc : ∀ args w, (callFunc g args).run P w = .ok (.enter g args) w) (h : CallsR P g (first ++ vs.toArray ++ captured) w Rv) : OpTo P o a w Rv := by
  obtain ⟨dst, op, type, pos, after, guard⟩ := o
  cases op <;> simp only [callParts] at ho <;> try cases ho
  rename_i c
  obtain ⟨callee, args, ats⟩ := c
  cases callee <;> simp only at ho <;> try cases ho
  refine OpTo.of_enter ?_ h
  have e := evList_eq hE _ _ hxs
  have e2 : args.map a.eval = vs.toArray := by
    apply Array.ext'
    simpa using e
  simp [execOp, resolve, Deferred.ofValue, hE.eval hx, invoke, hc, e2]

theorem OpTo.fn {P : Program} {n : Nat} {a : Act} {L : Env} {w : World} {o : Oper} {xs : List Operand} {g : FuncId} {vs : List Value} {Rv : Value → World → Prop} (hE : EnvOk n a L)
    (ho : callParts o.op = some (.func g, xs)) (hxs : evList L xs = some vs)
    (hc : ∀ args w, (callFunc g args).run P w = .ok (.enter g args) w) (h : CallsR P g vs.toArray w Rv) : OpTo P o a w Rv :=
  OpTo.call hE ho (first := #[]) (captured := #[]) rfl hxs hc (by simpa using h)

end Go.Th
