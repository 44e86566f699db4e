/-
  The engine, part 2: what a world holds, block by block: assertions over disjoint parts of the heap, and what operations that write or make memory do to them.
-/
import Derived.Test.YtgchbhnchhiehaaGreatE1
import Derived.Laws.AppendOwn
set_option linter.unusedVariables false
set_option linter.unusedSimpArgs false
namespace Go.Th

abbrev Hp := Nat → Option Obj
abbrev HP := Hp → Prop
def Sub (h g : Hp) : Prop := ∀ b o, h b = some o → g b = some o
def Disj (h g : Hp) : Prop := ∀ b, h b = none ∨ g b = none
theorem Sub.refl (h : Hp) : Sub h h := fun _ _ h => h
theorem Sub.trans {a b c : Hp} (h : Sub a b) (g : Sub b c) : Sub a c := fun x o hx => g x o (h x o hx)

def sepL : List HP → HP
  | [], _ => True
  | A :: L, h => ∃ h1 h2, Disj h1 h2 ∧ Sub h1 h ∧ Sub h2 h ∧ A h1 ∧ sepL L h2

theorem sepL_mono : ∀ {L : List HP} {h g : Hp}, Sub h g → sepL L h → sepL L g
  | [], _, _, _, _ => trivial
  | A :: L, h, g, hs, ⟨h1, h2, hd, s1, s2, hA, hL⟩ => ⟨h1, h2, hd, s1.trans hs, s2.trans hs, hA, hL⟩

def union (h g : Hp) : Hp := fun b => match h b with
  | some o => some o
  | none => g b
theorem sub_union_left (h g : Hp) : Sub h (union h g) := fun b o hb => by simp [union, hb]
theorem sub_union_right {h g : Hp} (hd : Disj h g) : Sub g (union h g) := fun b o hb => by
  rcases hd b with h1 | h1
  · simp [union, h1, hb]
  · simp [h1] at hb
theorem union_sub {h g k : Hp} (h1 : Sub h k) (h2 : Sub g k) : Sub (union h g) k := fun b o hb => by
  unfold union at hb
  split at hb
  · rename_i x hx; cases hb; exact h1 _ _ hx
  · exact h2 _ _ hb
theorem disj_sub {a b a' b' : Hp} (h : Disj a b) (h1 : Sub a' a) (h2 : Sub b' b) : Disj a' b' := fun x => by
  rcases h x with h | h
  · left
    cases hx : a' x with
    | none => rfl
    | some o => rw [h1 x o hx] at h; cases h
  · right
    cases hx : b' x with
    | none => rfl
    | some o => rw [h2 x o hx] at h; cases h

theorem sepL_append : ∀ {L M : List HP} {h : Hp}, sepL (L ++ M) h ↔ ∃ h1 h2, Disj h1 h2 ∧ Sub h1 h ∧ Sub h2 h ∧ sepL L h1 ∧ sepL M h2
  | [], M, h => by
    constructor
    · intro hM; exact ⟨fun _ => none, h, fun _ => .inl rfl, fun _ _ hb => by simp at hb, Sub.refl _, trivial, hM⟩
    · rintro ⟨h1, h2, hd, s1, s2, _, hM⟩; exact sepL_mono s2 hM
  | A :: L, M, h => by
    constructor
    · rintro ⟨h1, h2, hd, s1, s2, hA, hLM⟩
      obtain ⟨g1, g2, gd, t1, t2, hL, hM⟩ := sepL_append.1 hLM
      refine ⟨union h1 g1, g2, ?_, union_sub s1 (t1.trans s2), t2.trans s2, ⟨h1, g1, disj_sub hd (Sub.refl _) t1, sub_union_left _ _, sub_union_right (disj_sub hd (Sub.refl _) t1), hA, hL⟩, hM⟩
      intro b
      rcases hd b with e | e
      · rcases gd b with e2 | e2
        · left; simp [union, e, e2]
        · right; exact e2
      · right
        cases hg : g2 b with
        | none => rfl
        | some o => rw [t2 b o hg] at e; cases e
    · rintro ⟨h1, h2, hd, s1, s2, ⟨k1, k2, kd, u1, u2, hA, hL⟩, hM⟩
      refine ⟨k1, union k2 h2, ?_, u1.trans s1, union_sub (u2.trans s1) s2, hA, sepL_append.2 ⟨k2, h2, disj_sub hd u2 (Sub.refl _), sub_union_left _ _, sub_union_right (disj_sub hd u2 (Sub.refl _)), hL, hM⟩⟩
      intro b
      rcases kd b with e | e
      · left; exact e
      · rcases hd b with e2 | e2
        · left
          cases hg : k1 b with
          | none => rfl
          | some o => rw [u1 b o hg] at e2; cases e2
        · right; simp [union, e, e2]

theorem sepL_swap {A B : HP} {L : List HP} {h : Hp} (H : sepL (A :: B :: L) h) : sepL (B :: A :: L) h := by
  obtain ⟨h1, h2, hd, s1, s2, hA, g1, g2, gd, t1, t2, hB, hL⟩ := H
  refine ⟨g1, union h1 g2, ?_, t1.trans s2, union_sub s1 (t2.trans s2), hB, h1, g2, disj_sub hd (Sub.refl _) t2, sub_union_left _ _, sub_union_right (disj_sub hd (Sub.refl _) t2), hA, hL⟩
  intro b
  rcases gd b with e | e
  · left; exact e
  · rcases hd b with e2 | e2
    · right; simp [union, e, e2]
    · left
      cases hg : g1 b with
      | none => rfl
      | some o => rw [t1 b o hg] at e2; cases e2

theorem sepL_perm {L M : List HP} (hp : L.Perm M) : ∀ {h : Hp}, sepL L h → sepL M h := by
  induction hp with
  | nil => exact fun h => h
  | cons x _ ih => rintro h ⟨h1, h2, hd, s1, s2, hA, hL⟩; exact ⟨h1, h2, hd, s1, s2, hA, ih hL⟩
  | swap x y l => exact fun h => sepL_swap h
  | trans _ _ ih1 ih2 => exact fun h => ih2 (ih1 h)

def hpOf (w : World) : Hp := fun b => w.heap[b]?

structure St (w0 : World) (As : List HP) (w : World) : Prop where
  os : w.os = w0.os
  tape : w.tape = w0.tape
  output : w.output = w0.output
  heap : sepL As (hpOf w)

theorem St.perm {w0 w : World} {As Bs : List HP} (H : St w0 As w) (hp : As.Perm Bs) : St w0 Bs w := ⟨H.os, H.tape, H.output, sepL_perm hp H.heap⟩

/-! The order of the parts, by their places. -/
def reidx {α : Type} : List Nat → List α → List α
  | [], _ => []
  | i :: is, L => match L[i]? with
    | some x => x :: reidx is L
    | none => reidx is L
def memB (i : Nat) : List Nat → Bool
  | [] => false
  | j :: r => match Nat.beq i j with
    | true => true
    | false => memB i r
def permB : List Nat → Nat → Bool
  | is, 0 => match is with
    | [] => true
    | _ :: _ => false
  | is, n + 1 => memB n is && permB (is.erase n) n

theorem memB_mem : ∀ {l : List Nat} {i : Nat}, memB i l = true → i ∈ l
  | [], i, h => by simp [memB] at h
  | j :: r, i, h => by
    simp only [memB] at h
    split at h
    · rename_i e; simp [Nat.eq_of_beq_eq_true e]
    · exact List.mem_cons_of_mem _ (memB_mem h)

theorem permB_perm : ∀ {n : Nat} {is : List Nat}, permB is n = true → is.Perm (List.range n)
  | 0, is, h => by
    cases is with
    | nil => simp
    | cons _ _ => simp [permB] at h
  | n + 1, is, h => by
    simp only [permB, Bool.and_eq_true] at h
    rw [List.range_succ]
    have h1 := List.perm_cons_erase (memB_mem h.1)
    exact h1.trans (((permB_perm h.2).cons n).trans (List.perm_append_singleton n (List.range n)).symm)

theorem reidx_eq {α : Type} (L : List α) : ∀ is : List Nat, reidx is L = is.filterMap (L[·]?)
  | [] => rfl
  | i :: is => by
    simp only [reidx, List.filterMap_cons, reidx_eq L is]
    cases L[i]? <;> rfl

theorem filterMap_range {α : Type} : ∀ (L : List α), (List.range L.length).filterMap (L[·]?) = L
  | [] => rfl
  | x :: L => by
    rw [List.length_cons, List.range_succ_eq_map, List.filterMap_cons]
    simp only [List.getElem?_cons_zero, List.filterMap_map]
    congr 1
    have : ((fun i => (x :: L)[i]?) ∘ Nat.succ) = fun i => L[i]? := by funext i; simp
    rw [this]
    exact filterMap_range L

theorem St.idx {w0 w : World} {As : List HP} (H : St w0 As w) (is : List Nat) (h : permB is As.length = true) : St w0 (reidx is As) w := by
  refine H.perm ?_
  rw [reidx_eq]
  have := (permB_perm h).filterMap (As[·]?)
  rw [filterMap_range] at this
  exact this.symm

/-- The first parts in another order. -/
theorem St.ix {w0 w : World} {As : List HP} (H : St w0 As w) (is : List Nat) (h : permB is (As.take is.length).length = true) : St w0 (reidx is (As.take is.length) ++ As.drop is.length) w := by
  refine H.perm ?_
  have h0 : As = As.take is.length ++ As.drop is.length := (List.take_append_drop _ _).symm
  conv => lhs; rw [h0]
  refine List.Perm.append_right _ ?_
  rw [reidx_eq]
  have := (permB_perm h).filterMap ((As.take is.length)[·]?)
  rw [filterMap_range] at this
  exact this.symm

theorem St.drop {w0 w : World} {A : HP} {As : List HP} (H : St w0 (A :: As) w) : St w0 As w := by
  obtain ⟨h1, h2, _, _, s2, _, hL⟩ := H.heap
  exact ⟨H.os, H.tape, H.output, sepL_mono s2 hL⟩
theorem St.flat {w0 w : World} {Bs As : List HP} (H : St w0 (sepL Bs :: As) w) : St w0 (Bs ++ As) w :=
  ⟨H.os, H.tape, H.output, sepL_append.2 H.heap⟩
theorem St.group {w0 w : World} (Bs : List HP) {As : List HP} (H : St w0 (Bs ++ As) w) : St w0 (sepL Bs :: As) w :=
  ⟨H.os, H.tape, H.output, sepL_append.1 H.heap⟩
theorem St.head {w0 w : World} {A B : HP} {As : List HP} (H : St w0 (A :: As) w) (h : ∀ h, A h → B h) : St w0 (B :: As) w := by
  obtain ⟨h1, h2, hd, s1, s2, hA, hL⟩ := H.heap
  exact ⟨H.os, H.tape, H.output, h1, h2, hd, s1, s2, h _ hA, hL⟩
theorem St.ex {w0 w : World} {α : Sort _} {A : α → HP} {As : List HP} (H : St w0 ((fun h => ∃ x, A x h) :: As) w) : ∃ x, St w0 (A x :: As) w := by
  obtain ⟨h1, h2, hd, s1, s2, ⟨x, hA⟩, hL⟩ := H.heap
  exact ⟨x, H.os, H.tape, H.output, h1, h2, hd, s1, s2, hA, hL⟩
theorem St.fact {w0 w : World} {A : HP} {q : Prop} {As : List HP} (H : St w0 (A :: As) w) (h : ∀ h, A h → q) : q := by
  obtain ⟨h1, h2, hd, s1, s2, hA, hL⟩ := H.heap
  exact h _ hA
theorem St.drew {w0 w : World} {As : List HP} (H : St w0 As w) : St w0 As { w with drawn := w.drawn + 1 } := ⟨H.os, H.tape, H.output, H.heap⟩
theorem St.drawn {w0 w : World} {As : List HP} (H : St w0 As w) (n : Nat) : St w0 As { w with drawn := n } := ⟨H.os, H.tape, H.output, H.heap⟩

/-! One part brought to the front; one part dropped. -/
theorem St.t1 {w0 w : World} {A0 A1 : HP} {As : List HP} (H : St w0 (A0 :: A1 :: As) w) : St w0 (A1 :: A0 :: As) w := H.ix [1, 0] rfl
theorem St.t2 {w0 w : World} {A0 A1 A2 : HP} {As : List HP} (H : St w0 (A0 :: A1 :: A2 :: As) w) : St w0 (A2 :: A0 :: A1 :: As) w := H.ix [2, 0, 1] rfl
theorem St.t3 {w0 w : World} {A0 A1 A2 A3 : HP} {As : List HP} (H : St w0 (A0 :: A1 :: A2 :: A3 :: As) w) : St w0 (A3 :: A0 :: A1 :: A2 :: As) w := H.ix [3, 0, 1, 2] rfl
theorem St.t4 {w0 w : World} {A0 A1 A2 A3 A4 : HP} {As : List HP} (H : St w0 (A0 :: A1 :: A2 :: A3 :: A4 :: As) w) : St w0 (A4 :: A0 :: A1 :: A2 :: A3 :: As) w := H.perm (List.perm_middle (l₁ := [A0, A1, A2, A3]) (a := A4) (l₂ := As))
theorem St.t5 {w0 w : World} {A0 A1 A2 A3 A4 A5 : HP} {As : List HP} (H : St w0 (A0 :: A1 :: A2 :: A3 :: A4 :: A5 :: As) w) : St w0 (A5 :: A0 :: A1 :: A2 :: A3 :: A4 :: As) w := H.perm (List.perm_middle (l₁ := [A0, A1, A2, A3, A4]) (a := A5) (l₂ := As))
theorem St.t6 {w0 w : World} {A0 A1 A2 A3 A4 A5 A6 : HP} {As : List HP} (H : St w0 (A0 :: A1 :: A2 :: A3 :: A4 :: A5 :: A6 :: As) w) : St w0 (A6 :: A0 :: A1 :: A2 :: A3 :: A4 :: A5 :: As) w := H.perm (List.perm_middle (l₁ := [A0, A1, A2, A3, A4, A5]) (a := A6) (l₂ := As))
theorem St.t7 {w0 w : World} {A0 A1 A2 A3 A4 A5 A6 A7 : HP} {As : List HP} (H : St w0 (A0 :: A1 :: A2 :: A3 :: A4 :: A5 :: A6 :: A7 :: As) w) : St w0 (A7 :: A0 :: A1 :: A2 :: A3 :: A4 :: A5 :: A6 :: As) w := H.perm (List.perm_middle (l₁ := [A0, A1, A2, A3, A4, A5, A6]) (a := A7) (l₂ := As))
theorem St.t8 {w0 w : World} {A0 A1 A2 A3 A4 A5 A6 A7 A8 : HP} {As : List HP} (H : St w0 (A0 :: A1 :: A2 :: A3 :: A4 :: A5 :: A6 :: A7 :: A8 :: As) w) : St w0 (A8 :: A0 :: A1 :: A2 :: A3 :: A4 :: A5 :: A6 :: A7 :: As) w := H.perm (List.perm_middle (l₁ := [A0, A1, A2, A3, A4, A5, A6, A7]) (a := A8) (l₂ := As))
theorem St.t9 {w0 w : World} {A0 A1 A2 A3 A4 A5 A6 A7 A8 A9 : HP} {As : List HP} (H : St w0 (A0 :: A1 :: A2 :: A3 :: A4 :: A5 :: A6 :: A7 :: A8 :: A9 :: As) w) : St w0 (A9 :: A0 :: A1 :: A2 :: A3 :: A4 :: A5 :: A6 :: A7 :: A8 :: As) w := H.perm (List.perm_middle (l₁ := [A0, A1, A2, A3, A4, A5, A6, A7, A8]) (a := A9) (l₂ := As))
theorem St.t10 {w0 w : World} {A0 A1 A2 A3 A4 A5 A6 A7 A8 A9 A10 : HP} {As : List HP} (H : St w0 (A0 :: A1 :: A2 :: A3 :: A4 :: A5 :: A6 :: A7 :: A8 :: A9 :: A10 :: As) w) : St w0 (A10 :: A0 :: A1 :: A2 :: A3 :: A4 :: A5 :: A6 :: A7 :: A8 :: A9 :: As) w := H.perm (List.perm_middle (l₁ := [A0, A1, A2, A3, A4, A5, A6, A7, A8, A9]) (a := A10) (l₂ := As))
theorem St.t11 {w0 w : World} {A0 A1 A2 A3 A4 A5 A6 A7 A8 A9 A10 A11 : HP} {As : List HP} (H : St w0 (A0 :: A1 :: A2 :: A3 :: A4 :: A5 :: A6 :: A7 :: A8 :: A9 :: A10 :: A11 :: As) w) : St w0 (A11 :: A0 :: A1 :: A2 :: A3 :: A4 :: A5 :: A6 :: A7 :: A8 :: A9 :: A10 :: As) w := H.perm (List.perm_middle (l₁ := [A0, A1, A2, A3, A4, A5, A6, A7, A8, A9, A10]) (a := A11) (l₂ := As))
theorem St.t12 {w0 w : World} {A0 A1 A2 A3 A4 A5 A6 A7 A8 A9 A10 A11 A12 : HP} {As : List HP} (H : St w0 (A0 :: A1 :: A2 :: A3 :: A4 :: A5 :: A6 :: A7 :: A8 :: A9 :: A10 :: A11 :: A12 :: As) w) : St w0 (A12 :: A0 :: A1 :: A2 :: A3 :: A4 :: A5 :: A6 :: A7 :: A8 :: A9 :: A10 :: A11 :: As) w := H.perm (List.perm_middle (l₁ := [A0, A1, A2, A3, A4, A5, A6, A7, A8, A9, A10, A11]) (a := A12) (l₂ := As))
theorem St.t13 {w0 w : World} {A0 A1 A2 A3 A4 A5 A6 A7 A8 A9 A10 A11 A12 A13 : HP} {As : List HP} (H : St w0 (A0 :: A1 :: A2 :: A3 :: A4 :: A5 :: A6 :: A7 :: A8 :: A9 :: A10 :: A11 :: A12 :: A13 :: As) w) : St w0 (A13 :: A0 :: A1 :: A2 :: A3 :: A4 :: A5 :: A6 :: A7 :: A8 :: A9 :: A10 :: A11 :: A12 :: As) w := H.perm (List.perm_middle (l₁ := [A0, A1, A2, A3, A4, A5, A6, A7, A8, A9, A10, A11, A12]) (a := A13) (l₂ := As))
theorem St.t14 {w0 w : World} {A0 A1 A2 A3 A4 A5 A6 A7 A8 A9 A10 A11 A12 A13 A14 : HP} {As : List HP} (H : St w0 (A0 :: A1 :: A2 :: A3 :: A4 :: A5 :: A6 :: A7 :: A8 :: A9 :: A10 :: A11 :: A12 :: A13 :: A14 :: As) w) : St w0 (A14 :: A0 :: A1 :: A2 :: A3 :: A4 :: A5 :: A6 :: A7 :: A8 :: A9 :: A10 :: A11 :: A12 :: A13 :: As) w := H.perm (List.perm_middle (l₁ := [A0, A1, A2, A3, A4, A5, A6, A7, A8, A9, A10, A11, A12, A13]) (a := A14) (l₂ := As))
theorem St.x0 {w0 w : World} {A0 : HP} {As : List HP} (H : St w0 (A0 :: As) w) : St w0 (As) w := H.drop
theorem St.x1 {w0 w : World} {A0 A1 : HP} {As : List HP} (H : St w0 (A0 :: A1 :: As) w) : St w0 (A0 :: As) w := H.t1.drop
theorem St.x2 {w0 w : World} {A0 A1 A2 : HP} {As : List HP} (H : St w0 (A0 :: A1 :: A2 :: As) w) : St w0 (A0 :: A1 :: As) w := H.t2.drop
theorem St.x3 {w0 w : World} {A0 A1 A2 A3 : HP} {As : List HP} (H : St w0 (A0 :: A1 :: A2 :: A3 :: As) w) : St w0 (A0 :: A1 :: A2 :: As) w := H.t3.drop
theorem St.x4 {w0 w : World} {A0 A1 A2 A3 A4 : HP} {As : List HP} (H : St w0 (A0 :: A1 :: A2 :: A3 :: A4 :: As) w) : St w0 (A0 :: A1 :: A2 :: A3 :: As) w := H.t4.drop
theorem St.x5 {w0 w : World} {A0 A1 A2 A3 A4 A5 : HP} {As : List HP} (H : St w0 (A0 :: A1 :: A2 :: A3 :: A4 :: A5 :: As) w) : St w0 (A0 :: A1 :: A2 :: A3 :: A4 :: As) w := H.t5.drop
theorem St.x6 {w0 w : World} {A0 A1 A2 A3 A4 A5 A6 : HP} {As : List HP} (H : St w0 (A0 :: A1 :: A2 :: A3 :: A4 :: A5 :: A6 :: As) w) : St w0 (A0 :: A1 :: A2 :: A3 :: A4 :: A5 :: As) w := H.t6.drop
theorem St.x7 {w0 w : World} {A0 A1 A2 A3 A4 A5 A6 A7 : HP} {As : List HP} (H : St w0 (A0 :: A1 :: A2 :: A3 :: A4 :: A5 :: A6 :: A7 :: As) w) : St w0 (A0 :: A1 :: A2 :: A3 :: A4 :: A5 :: A6 :: As) w := H.t7.drop
theorem St.x8 {w0 w : World} {A0 A1 A2 A3 A4 A5 A6 A7 A8 : HP} {As : List HP} (H : St w0 (A0 :: A1 :: A2 :: A3 :: A4 :: A5 :: A6 :: A7 :: A8 :: As) w) : St w0 (A0 :: A1 :: A2 :: A3 :: A4 :: A5 :: A6 :: A7 :: As) w := H.t8.drop
theorem St.x9 {w0 w : World} {A0 A1 A2 A3 A4 A5 A6 A7 A8 A9 : HP} {As : List HP} (H : St w0 (A0 :: A1 :: A2 :: A3 :: A4 :: A5 :: A6 :: A7 :: A8 :: A9 :: As) w) : St w0 (A0 :: A1 :: A2 :: A3 :: A4 :: A5 :: A6 :: A7 :: A8 :: As) w := H.t9.drop
theorem St.x10 {w0 w : World} {A0 A1 A2 A3 A4 A5 A6 A7 A8 A9 A10 : HP} {As : List HP} (H : St w0 (A0 :: A1 :: A2 :: A3 :: A4 :: A5 :: A6 :: A7 :: A8 :: A9 :: A10 :: As) w) : St w0 (A0 :: A1 :: A2 :: A3 :: A4 :: A5 :: A6 :: A7 :: A8 :: A9 :: As) w := H.t10.drop
theorem St.x11 {w0 w : World} {A0 A1 A2 A3 A4 A5 A6 A7 A8 A9 A10 A11 : HP} {As : List HP} (H : St w0 (A0 :: A1 :: A2 :: A3 :: A4 :: A5 :: A6 :: A7 :: A8 :: A9 :: A10 :: A11 :: As) w) : St w0 (A0 :: A1 :: A2 :: A3 :: A4 :: A5 :: A6 :: A7 :: A8 :: A9 :: A10 :: As) w := H.t11.drop
theorem St.x12 {w0 w : World} {A0 A1 A2 A3 A4 A5 A6 A7 A8 A9 A10 A11 A12 : HP} {As : List HP} (H : St w0 (A0 :: A1 :: A2 :: A3 :: A4 :: A5 :: A6 :: A7 :: A8 :: A9 :: A10 :: A11 :: A12 :: As) w) : St w0 (A0 :: A1 :: A2 :: A3 :: A4 :: A5 :: A6 :: A7 :: A8 :: A9 :: A10 :: A11 :: As) w := H.t12.drop
theorem St.x13 {w0 w : World} {A0 A1 A2 A3 A4 A5 A6 A7 A8 A9 A10 A11 A12 A13 : HP} {As : List HP} (H : St w0 (A0 :: A1 :: A2 :: A3 :: A4 :: A5 :: A6 :: A7 :: A8 :: A9 :: A10 :: A11 :: A12 :: A13 :: As) w) : St w0 (A0 :: A1 :: A2 :: A3 :: A4 :: A5 :: A6 :: A7 :: A8 :: A9 :: A10 :: A11 :: A12 :: As) w := H.t13.drop
theorem St.x14 {w0 w : World} {A0 A1 A2 A3 A4 A5 A6 A7 A8 A9 A10 A11 A12 A13 A14 : HP} {As : List HP} (H : St w0 (A0 :: A1 :: A2 :: A3 :: A4 :: A5 :: A6 :: A7 :: A8 :: A9 :: A10 :: A11 :: A12 :: A13 :: A14 :: As) w) : St w0 (A0 :: A1 :: A2 :: A3 :: A4 :: A5 :: A6 :: A7 :: A8 :: A9 :: A10 :: A11 :: A12 :: A13 :: As) w := H.t14.drop

/-! One block. -/
def One (b : Nat) (o : Obj) : HP := fun h => h b = some o
abbrev Blk (b : Nat) (T : TypeId) (cs : List Value) : HP := One b (.cells cs.toArray T (0, 0))

theorem sepL_get {A : HP} : ∀ {As : List HP} {h : Hp} {i : Nat}, sepL As h → As[i]? = some A → ∃ h1, Sub h1 h ∧ A h1
  | [], h, i, _, hi => by simp at hi
  | B :: As, h, i, ⟨h1, h2, hd, s1, s2, hA, hL⟩, hi => by
    cases i with
    | zero => simp at hi; subst hi; exact ⟨h1, s1, hA⟩
    | succ i =>
      obtain ⟨g, sg, hg⟩ := sepL_get hL (by simpa using hi)
      exact ⟨g, sg.trans s2, hg⟩
theorem St.at {w0 w : World} {As : List HP} (H : St w0 As w) (i : Nat) {A : HP} (hi : As[i]? = some A) : ∃ h1, Sub h1 (hpOf w) ∧ A h1 := sepL_get H.heap hi
theorem St.one {w0 w : World} {As : List HP} (H : St w0 As w) (i : Nat) {b : Nat} {o : Obj} (hi : As[i]? = some (One b o)) : w.heap[b]? = some o := by
  obtain ⟨h1, s, h⟩ := H.at i hi
  exact s _ _ h
theorem St.cell {w0 w : World} {As : List HP} (H : St w0 As w) (i : Nat) {b : Nat} {T : TypeId} {cs : List Value} (hi : As[i]? = some (Blk b T cs)) {off : Nat} {v : Value} (hv : cs[off]? = some v) :
    w.cell? ⟨b, off, none⟩ = some v := by
  simp [World.cell?, H.one i hi, hv]

theorem St.set {w0 w w' : World} {As : List HP} {b : Nat} {o o' : Obj} (H : St w0 (One b o :: As) w) (h1 : w'.os = w.os) (h2 : w'.tape = w.tape) (h3 : w'.output = w.output)
    (hb : w'.heap[b]? = some o') (hne : ∀ c, c ≠ b → w'.heap[c]? = w.heap[c]?) : St w0 (One b o' :: As) w' := by
  obtain ⟨g1, g2, hd, s1, s2, hA, hL⟩ := H.heap
  refine ⟨h1.trans H.os, h2.trans H.tape, h3.trans H.output, fun c => if c = b then some o' else none, g2, ?_, ?_, ?_, by simp [One], hL⟩
  · intro c
    by_cases hc : c = b
    · subst hc
      right
      rcases hd c with e | e
      · simp only [One] at hA; rw [hA] at e; cases e
      · exact e
    · left; simp [hc]
  · intro c x hx
    by_cases hc : c = b
    · subst hc; simp at hx; subst hx; exact hb
    · simp [hc] at hx
  · intro c x hx
    have hc : c ≠ b := by
      rintro rfl
      rcases hd c with e | e
      · simp only [One] at hA; rw [hA] at e; cases e
      · rw [hx] at e; cases e
    have := s2 c x hx
    simp only [hpOf] at this ⊢
    rw [hne c hc]; exact this

theorem St.new {w0 w w' : World} {As : List HP} {o : Obj} (H : St w0 As w) (h1 : w'.os = w.os) (h2 : w'.tape = w.tape) (h3 : w'.output = w.output)
    (hb : w'.heap[w.heap.size]? = some o) (hne : ∀ c, c < w.heap.size → w'.heap[c]? = w.heap[c]?) : St w0 (One w.heap.size o :: As) w' := by
  have hlt : ∀ c x, hpOf w c = some x → c < w.heap.size := fun c x hx => (Array.getElem?_eq_some_iff.1 hx).1
  refine ⟨h1.trans H.os, h2.trans H.tape, h3.trans H.output, fun c => if c = w.heap.size then some o else none, fun c => if c < w.heap.size then hpOf w c else none, ?_, ?_, ?_, by simp [One], sepL_mono ?_ H.heap⟩
  · intro c
    by_cases hc : c = w.heap.size
    · right; simp [hc]
    · left; simp [hc]
  · intro c x hx
    by_cases hc : c = w.heap.size
    · subst hc; simp at hx; subst hx; exact hb
    · simp [hc] at hx
  · intro c x hx
    simp only at hx
    split at hx
    · rename_i hc; simp only [hpOf] at hx ⊢; rw [hne c hc]; exact hx
    · cases hx
  · intro c x hx
    simp [hlt c x hx]
    exact hx

theorem St.alloc {w0 w : World} {As : List HP} (o : Obj) (H : St w0 As w) : St w0 (One w.heap.size o :: As) { w with heap := w.heap.push o } :=
  H.new rfl rfl rfl (by simp) (fun c hc => by simp [Array.getElem?_push]; omega)

/-! All that stood when the call began. -/
def Old (w0 : World) : HP := fun h => ∀ b, b < w0.heap.size → h b = w0.heap[b]?
theorem St.begin (w0 : World) : St w0 [Old w0] w0 :=
  ⟨rfl, rfl, rfl, hpOf w0, fun _ => none, fun _ => .inr rfl, Sub.refl _, fun _ _ h => by simp at h, fun _ _ => rfl, trivial⟩
theorem St.old {w0 w : World} {As : List HP} (H : St w0 As w) (i : Nat) (hi : As[i]? = some (Old w0)) : ∀ b, b < w0.heap.size → w.heap[b]? = w0.heap[b]? := by
  obtain ⟨h1, s, h⟩ := H.at i hi
  intro b hb
  have := h b hb
  have e : w0.heap[b]? = some w0.heap[b] := by simp [hb]
  rw [e] at this ⊢
  exact s _ _ this
theorem St.oldCell {w0 w : World} {As : List HP} (H : St w0 As w) (i : Nat) (hi : As[i]? = some (Old w0)) {a : Addr} {v : Value} (hv : w0.cell? a = some v) : w.cell? a = some v := by
  have hb : a.block < w0.heap.size := by
    unfold World.cell? at hv
    split at hv
    · rename_i h; exact (Array.getElem?_eq_some_iff.1 h).1
    · cases hv
  have := H.old i hi a.block hb
  simpa [World.cell?, this] using hv

end Go.Th
