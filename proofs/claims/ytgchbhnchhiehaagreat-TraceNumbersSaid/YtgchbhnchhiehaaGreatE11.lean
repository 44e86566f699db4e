/-
  The engine, part 11: short forms: a segment tells only what it makes new; steps in one.
-/
import Derived.Test.YtgchbhnchhiehaaGreatE10
set_option linter.unusedVariables false
set_option linter.unusedSimpArgs false
namespace Go.Th

abbrev vZ (x : Int) : Value := .int .i64 x
abbrev vP (p : Nat) : Value := .pointer (some ⟨p, 0, none⟩)

@[reducible] def catE : Env → Env → Env
  | [], L => L
  | p :: r, L => p :: catE r L
def keysE : Env → List Nat
  | [] => []
  | (t, _) :: r => t :: keysE r
def hasK (t : Nat) : Env → Bool
  | [] => false
  | (u, _) :: r => match Nat.beq t u with
    | true => true
    | false => hasK t r
def dstNew (ops : Array Oper) (new L : Env) : List Nat → Bool
  | [] => true
  | i :: is => match ops[i]? with
    | none => dstNew ops new L is
    | some o => match o.dst with
      | none => dstNew ops new L is
      | some d => match hasK d new with
        | true => dstNew ops new L is
        | false => match hasK d L with
          | true => false
          | false => dstNew ops new L is
def segD (P : Program) (n : Nat) (ops : Array Oper) (is : List Nat) (L : Env) (orc : List Value) (new : Env) : Option (Env × List Ob) :=
  match dstNew ops new L is with
  | false => none
  | true => segRes P n ops is L orc (keysE new)

theorem look_cat : ∀ (new L : Env) (t : Nat) (v : Value), look t (catE new L) = some v → (look t new = some v) ∨ (hasK t new = false ∧ look t L = some v)
  | [], L, t, v, h => Or.inr ⟨rfl, h⟩
  | (u, x) :: r, L, t, v, h => by
    rw [catE, look_cons] at h
    split at h
    · subst_vars
      left
      rw [look_cons, if_pos rfl]; exact h
    · rename_i hne
      rcases look_cat r L t v h with h1 | ⟨h1, h2⟩
      · left; rw [look_cons, if_neg hne]; exact h1
      · right
        refine ⟨?_, h2⟩
        simp only [hasK]
        split
        · rename_i hb; exact absurd (Nat.eq_of_beq_eq_true hb) hne
        · exact h1
theorem look_has : ∀ (L : Env) (t : Nat) (v : Value), look t L = some v → hasK t L = true
  | [], t, v, h => by cases h
  | (u, x) :: r, t, v, h => by
    simp only [look] at h
    simp only [hasK]
    split at h
    · rename_i hb; rw [hb]
    · rename_i hb; rw [hb]; exact look_has r t v h
theorem dstNew_spec {ops : Array Oper} {new L : Env} : ∀ {is : List Nat}, dstNew ops new L is = true → ∀ i ∈ is, ∀ o d, ops[i]? = some o → o.dst = some d → hasK d new = true ∨ hasK d L = false
  | [], _, i, hi, _, _, _, _ => by cases hi
  | j :: is, h, i, hi, o, d, ho, hd => by
    simp only [dstNew] at h
    rcases List.mem_cons.1 hi with rfl | hi
    · rw [ho] at h
      simp only [hd] at h
      cases h1 : hasK d new
      · rw [h1] at h
        simp only at h
        cases h2 : hasK d L
        · exact Or.inr rfl
        · rw [h2] at h; cases h
      · exact Or.inl rfl
    · have h' : dstNew ops new L is = true := by
        repeat' split at h
        all_goals first | exact h | cases h
      exact dstNew_spec h' i hi o d ho hd
theorem setE_keep {n : Nat} {d : Option Tmp} {v : Value} {L L1 : Env} {t : Nat} (h : setE n d v L = some L1) (hd : d ≠ some t) : look t L1 = look t L := by
  unfold setE at h
  split at h
  · cases h; rfl
  · split at h
    · cases h
      rw [look_cons, if_neg (fun e => hd (by rw [e]))]
    · cases h
theorem evSeg_keep {P : Program} {n : Nat} {ops : Array Oper} {t : Nat} : ∀ (is : List Nat) (L : Env) (orc : List Value) (L1 : Env) (obs : List Ob), evSeg P n ops is L orc = some (L1, obs) → (∀ i ∈ is, ∀ o, ops[i]? = some o → o.dst ≠ some t) → look t L1 = look t L
  | [], L, orc, L1, obs, h, _ => by simp [evSeg] at h; rw [h.1]
  | i :: is, L, orc, L1, obs, h, hd => by
    have hd' : ∀ j ∈ is, ∀ o, ops[j]? = some o → o.dst ≠ some t := fun j hj => hd j (List.mem_cons_of_mem _ hj)
    rw [evSeg] at h
    split at h
    · cases h
    · rename_i o ho
      have hdo := hd i (List.mem_cons_self ..) o ho
      split at h
      · cases h
      · split at h
        · rename_i L2 hs
          rw [evSeg_keep is L2 orc L1 obs h hd', setE_keep hs hdo]
        · cases h
      · split at h
        · cases h
        · split at h
          · cases h
          · rename_i L2 hs
            split at h
            · rename_i L3 obs2 h3
              cases h
              rw [evSeg_keep is L2 _ _ _ h3 hd', setE_keep hs hdo]
            · cases h
theorem EnvOk.cat {n : Nat} {a : Act} {L1 L new : Env} (h : EnvOk n a L1) (hs : Th.sel (keysE new) L1 = some new) (hk : ∀ t, hasK t new = false → hasK t L = true → look t L1 = look t L) : EnvOk n a (catE new L) := by
  have h2 := sel_sound h hs
  refine ⟨h.size, h.defers, fun t v hv => ?_⟩
  rcases look_cat new L t v hv with h1 | ⟨h1, h3⟩
  · exact h2.has t v h1
  · exact h.has t v (by rw [hk t h1 (look_has L t v h3)]; exact h3)
section
variable {P : Program} {f : FuncId} {k : List Item} {a : Act} {w : World} {R : Value → World → Prop}
theorem seg_new {P : Program} {n : Nat} {ops : Array Oper} {is : List Nat} {L new : Env} {orc : List Value} {obs : List Ob} (he : segD P n ops is L orc new = some (new, obs)) :
    ∃ L1, evSeg P n ops is L orc = some (L1, obs) ∧ ∀ a : Act, EnvOk n a L1 → EnvOk n a (catE new L) := by
  unfold segD at he
  split at he
  · cases he
  · rename_i hd
    unfold segRes at he
    split at he
    · cases he
    · rename_i L1 obs1 hs
      split at he
      · rename_i Lo1 hsel
        cases he
        refine ⟨L1, hs, fun a ha => ha.cat hsel fun t h1 h2 => evSeg_keep is L orc L1 _ hs fun i hi o ho e => ?_⟩
        rcases dstNew_spec hd i hi o t ho e with h3 | h3
        · rw [h1] at h3; cases h3
        · rw [h2] at h3; cases h3
      · cases he
theorem WR.d {ops : Array Oper} {i n : Nat} {L : Env} (hE : EnvOk n a L) (j : Nat) (orc : List Value) (new : Env) {obs : List Ob} (ho : AllOb w obs) (hk : ∀ a', EnvOk n a' (catE new L) → WR P f ops j k a' w R)
    (hj : (Nat.ble i j && Nat.ble j ops.size) = true := by rfl) (he : segD P n ops (List.range' i (j - i)) L orc new = some (new, obs) := by kernel_rfl) : WR P f ops i k a w R := by
  obtain ⟨L1, hs, hn⟩ := seg_new he
  simp only [Bool.and_eq_true] at hj
  have h1 := Nat.le_of_ble_eq_true hj.1
  have h2 := Nat.le_of_ble_eq_true hj.2
  unfold WR
  have hr : List.range' i (ops.size - i) = List.range' i (j - i) ++ List.range' j (ops.size - j) := by
    have e1 : ops.size - i = (j - i) + (ops.size - j) := by omega
    have e2 : i + (j - i) = j := by omega
    rw [e1, ← List.range'_append_1, e2]
  rw [hr]
  exact evSeg_ops _ _ _ _ _ _ hE hs ho fun a' ha' => hk a' (hn a' ha')
theorem WR.d0 {ops : Array Oper} {i n : Nat} {L : Env} (hE : EnvOk n a L) (j : Nat) (new : Env) (hk : ∀ a', EnvOk n a' (catE new L) → WR P f ops j k a' w R)
    (hj : (Nat.ble i j && Nat.ble j ops.size) = true := by rfl) (he : segD P n ops (List.range' i (j - i)) L [] new = some (new, []) := by kernel_rfl) : WR P f ops i k a w R := WR.d hE j [] new (obs := []) trivial hk hj he
theorem WR.e {ops : Array Oper} {i n : Nat} {L : Env} (hE : EnvOk n a L) (orc : List Value) (new : Env) {obs : List Ob} (ho : AllOb w obs) (hk : ∀ a', EnvOk n a' (catE new L) → Runs P f k a' w R)
    (hj : Nat.ble i ops.size = true := by rfl) (he : segD P n ops (List.range' i (ops.size - i)) L orc new = some (new, obs) := by kernel_rfl) : WR P f ops i k a w R :=
  WR.d hE ops.size orc new ho (fun a' ha' => WR.done (Nat.ble_eq_true_of_le (Nat.le_refl _)) (hk a' ha')) (by rw [hj]; exact Nat.ble_eq_true_of_le (Nat.le_refl _)) he
theorem WR.e0 {ops : Array Oper} {i n : Nat} {L : Env} (hE : EnvOk n a L) (new : Env) (hk : ∀ a', EnvOk n a' (catE new L) → Runs P f k a' w R)
    (hj : Nat.ble i ops.size = true := by rfl) (he : segD P n ops (List.range' i (ops.size - i)) L [] new = some (new, []) := by kernel_rfl) : WR P f ops i k a w R := WR.e hE [] new (obs := []) trivial hk hj he
theorem Runs.sr {id : Nat} {ops : Array Oper} {y : Code} (h : WR P f ops 0 (.code y :: k) a w R) : Runs P f (.code (.seq (.region id ops false) y) :: k) a w R := Runs.seq (Runs.region h)
theorem WQ.d {ops : Array Oper} {dn : List Nat} {pend : List (Nat × List Ob)} {n : Nat} {L : Env} (hE : EnvOk n a L) (is : List Nat) (orc : List Value) (new : Env) {obs : List Ob} (ho : AllOb w obs)
    (hk : ∀ a', EnvOk n a' (catE new L) → WQ P f ops (dn ++ is) (segP P n ops is L orc pend) k a' w R)
    (ht : (Nat.ble (dn.length + is.length) ops.size && takeM ops is (maskL dn)) = true := by kernel_rfl) (he : segD P n ops is L orc new = some (new, obs) := by kernel_rfl) : WQ P f ops dn pend k a w R := by
  obtain ⟨L1, hs, hn⟩ := seg_new he
  simp only [Bool.and_eq_true] at ht
  have hle := Nat.le_of_ble_eq_true ht.1
  have e : ops.size - dn.length = is.length + (ops.size - (dn ++ is).length) := by simp; omega
  unfold WQ
  rw [e]
  intro hs'
  exact WP.segs hs' _ _ _ _ _ _ _ _ _ _ hE (fun x => maskL_tb x dn) ht.2 hs ho fun a' ha' => hk a' (hn a' ha') hs'
theorem WQ.d0 {ops : Array Oper} {dn : List Nat} {pend : List (Nat × List Ob)} {n : Nat} {L : Env} (hE : EnvOk n a L) (is : List Nat) (new : Env)
    (hk : ∀ a', EnvOk n a' (catE new L) → WQ P f ops (dn ++ is) (segP P n ops is L [] pend) k a' w R)
    (ht : (Nat.ble (dn.length + is.length) ops.size && takeM ops is (maskL dn)) = true := by kernel_rfl) (he : segD P n ops is L [] new = some (new, []) := by kernel_rfl) : WQ P f ops dn pend k a w R := WQ.d hE is [] new (obs := []) trivial hk ht he
end
end Go.Th
