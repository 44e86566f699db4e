/-
  The engine by certificates, part 7: bridges between contracts as data and contracts of walks.
-/
import Derived.Test.YtgchbhnchhiehaaGreatR6
set_option linter.unusedVariables false
set_option linter.unusedSimpArgs false
namespace Go.Th
section
variable {E : Ev}
theorem flat_sub {w0 w : World} {Y : HP} {L A1 As : List HP} (h : ∀ As, St w0 (Y :: As) w ↔ St w0 (L ++ As) w) : St w0 (A1 ++ (Y :: As)) w ↔ St w0 (A1 ++ (L ++ As)) w := by
  constructor
  · intro H
    have H1 := (h (A1 ++ As)).1 (H.perm (List.perm_middle))
    refine H1.perm ?_
    rw [← List.append_assoc, ← List.append_assoc]
    exact List.Perm.append_right As List.perm_append_comm
  · intro H
    have H1 := (h (A1 ++ As)).2 (H.perm (by
      rw [← List.append_assoc, ← List.append_assoc]
      exact List.Perm.append_right As List.perm_append_comm))
    exact H1.perm List.perm_middle.symm
theorem fs0 {w0 w : World} {Y : HP} {L As : List HP} (h : ∀ As, St w0 (Y :: As) w ↔ St w0 (L ++ As) w) : St w0 (Y :: As) w ↔ St w0 (L ++ As) w := h As
theorem fs1 {w0 w : World} {A Y : HP} {L As : List HP} (h : ∀ As, St w0 (Y :: As) w ↔ St w0 (L ++ As) w) : St w0 (A :: Y :: As) w ↔ St w0 (A :: (L ++ As)) w := flat_sub (A1 := [A]) h
theorem fs2 {w0 w : World} {A B Y : HP} {L As : List HP} (h : ∀ As, St w0 (Y :: As) w ↔ St w0 (L ++ As) w) : St w0 (A :: B :: Y :: As) w ↔ St w0 (A :: B :: (L ++ As)) w := flat_sub (A1 := [A, B]) h
theorem fs3 {w0 w : World} {A B C Y : HP} {L As : List HP} (h : ∀ As, St w0 (Y :: As) w ↔ St w0 (L ++ As) w) : St w0 (A :: B :: C :: Y :: As) w ↔ St w0 (A :: B :: C :: (L ++ As)) w := flat_sub (A1 := [A, B, C]) h
theorem fs4 {w0 w : World} {A B C D Y : HP} {L As : List HP} (h : ∀ As, St w0 (Y :: As) w ↔ St w0 (L ++ As) w) : St w0 (A :: B :: C :: D :: Y :: As) w ↔ St w0 (A :: B :: C :: D :: (L ++ As)) w := flat_sub (A1 := [A, B, C, D]) h
theorem fs5 {w0 w : World} {A B C D D1 Y : HP} {L As : List HP} (h : ∀ As, St w0 (Y :: As) w ↔ St w0 (L ++ As) w) : St w0 (A :: B :: C :: D :: D1 :: Y :: As) w ↔ St w0 (A :: B :: C :: D :: D1 :: (L ++ As)) w := flat_sub (A1 := [A, B, C, D, D1]) h
theorem fs6 {w0 w : World} {A B C D D1 D2 Y : HP} {L As : List HP} (h : ∀ As, St w0 (Y :: As) w ↔ St w0 (L ++ As) w) : St w0 (A :: B :: C :: D :: D1 :: D2 :: Y :: As) w ↔ St w0 (A :: B :: C :: D :: D1 :: D2 :: (L ++ As)) w := flat_sub (A1 := [A, B, C, D, D1, D2]) h
theorem fs7 {w0 w : World} {A B C D D1 D2 D3 Y : HP} {L As : List HP} (h : ∀ As, St w0 (Y :: As) w ↔ St w0 (L ++ As) w) : St w0 (A :: B :: C :: D :: D1 :: D2 :: D3 :: Y :: As) w ↔ St w0 (A :: B :: C :: D :: D1 :: D2 :: D3 :: (L ++ As)) w := flat_sub (A1 := [A, B, C, D, D1, D2, D3]) h
theorem rdH (c : Nat) {F : List HP} {X : HP} {sb : Option Addr} {sc : Nat} {l : List (E.el c).α} (hm : X ∈ F) (hS : SlRd X (E.el c).enc (E.el c).sz sb l) (hC : l.length ≤ sc) : RdV.holds (E := E) F ⟨c, sb, sc, l⟩ := ⟨X, hm, hS, fun _ _ => hC⟩
theorem rd0 {F : List HP} : ∀ r ∈ ([] : List (RdV E)), r.holds F := fun r h => by cases h
theorem rdc {F : List HP} {r : RdV E} {L : List (RdV E)} (h : r.holds F) (hL : ∀ r ∈ L, r.holds F) : ∀ x ∈ r :: L, x.holds F := fun x hx => by
  cases hx with
  | head => exact h
  | tail _ h => exact hL _ h
/-- A reader's part, taken out of the rest. -/
theorem rd_take {F : List HP} {X : HP} (hX : X ∈ F) : ∃ F', ∀ (w0 w : World) (A : List HP), St w0 (A ++ F) w ↔ St w0 (X :: (A ++ F')) w := by
  obtain ⟨s, t, rfl⟩ := List.append_of_mem hX
  refine ⟨s ++ t, fun w0 w A => ?_⟩
  have hp : (A ++ (s ++ X :: t)).Perm (X :: (A ++ (s ++ t))) := by
    rw [← List.append_assoc, ← List.append_assoc]
    exact List.perm_middle
  exact ⟨fun H => H.perm hp, fun H => H.perm hp.symm⟩
theorem rd_cap {w0 w : World} {X : HP} {As : List HP} {n m : Nat} (H : St w0 (X :: As) w) (h : ∀ g, X g → n ≤ m) : n ≤ m := H.fact h
theorem ls1 {α : Type} {l : List α} (h : l.length = 1) : ∃ a, l = [a] := by
  match l, h with
  | [a], _ => exact ⟨a, rfl⟩
theorem lsS {α : Type} {l : List α} {n : Nat} (h : l.length = n + 1) : ∃ a r, l = a :: r ∧ r.length = n := by
  match l, h with
  | a :: r, h => exact ⟨a, r, rfl, by simpa using h⟩
theorem ls0 {α : Type} {l : List α} (h : l.length = 0) : l = [] := List.length_eq_zero_iff.1 h
end
end Go.Th
