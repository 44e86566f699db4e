/-
  The engine, part 9: a slice of numbers that the library's sort has sorted.
-/
import Derived.Test.YtgchbhnchhiehaaGreatE8
import Derived.Sort.Row
import Derived.Sort.Grow
set_option linter.unusedVariables false
set_option linter.unusedSimpArgs false
namespace Go.Th

theorem insI_perm (x : Int) : ∀ l : List Int, (insI x l).Perm (x :: l)
  | [] => List.Perm.refl _
  | y :: r => by
    unfold insI
    cases decide (x ≤ y) with
    | true => exact List.Perm.refl _
    | false => exact ((insI_perm x r).cons y).trans (List.Perm.swap _ _ _)
theorem iSort_perm : ∀ l : List Int, (iSort l).Perm l
  | [] => List.Perm.refl _
  | x :: r => (insI_perm x (iSort r)).trans ((iSort_perm r).cons x)
theorem insI_sorted (x : Int) : ∀ l : List Int, l.Pairwise (· ≤ ·) → (insI x l).Pairwise (· ≤ ·)
  | [], _ => List.pairwise_singleton _ _
  | y :: r, h => by
    obtain ⟨h1, h2⟩ := List.pairwise_cons.1 h
    unfold insI
    cases hd : decide (x ≤ y) with
    | true =>
      have hxy : x ≤ y := of_decide_eq_true hd
      refine List.pairwise_cons.2 ⟨fun z hz => ?_, h⟩
      rcases List.mem_cons.1 hz with rfl | hz
      · exact hxy
      · exact Int.le_trans hxy (h1 z hz)
    | false =>
      have hxy : ¬ x ≤ y := of_decide_eq_false hd
      refine List.pairwise_cons.2 ⟨fun z hz => ?_, insI_sorted x r h2⟩
      rcases List.mem_cons.1 ((insI_perm x r).mem_iff.1 hz) with rfl | hz
      · omega
      · exact h1 z hz
theorem iSort_sorted : ∀ l : List Int, (iSort l).Pairwise (· ≤ ·)
  | [] => List.Pairwise.nil
  | x :: r => insI_sorted x _ (iSort_sorted r)
theorem sorted_unique {l m : List Int} (h : l.Perm m) (hl : l.Pairwise (· ≤ ·)) (hm : m.Pairwise (· ≤ ·)) : l = m :=
  List.Perm.eq_of_pairwise (le := fun a b : Int => a ≤ b) (fun a b _ _ h1 h2 => by omega) hl hm h
theorem iSort_merge (l : List Int) : l.mergeSort (fun x y => decide (x ≤ y)) = iSort l := by
  refine sorted_unique ((List.mergeSort_perm _ _).trans (iSort_perm l).symm) ?_ (iSort_sorted l)
  have h := List.pairwise_mergeSort (le := fun x y : Int => decide (x ≤ y)) (fun a b c h1 h2 => by simp only [decide_eq_true_eq] at *; omega) (fun a b => by simp only [Bool.or_eq_true, decide_eq_true_eq]; omega) l
  exact h.imp fun {a b} hab => by simpa using hab

theorem mid_get (A X R : List Value) (k : Nat) : (A ++ (X ++ R))[k]? = if k < A.length then A[k]? else if k < A.length + X.length then X[k - A.length]? else R[k - A.length - X.length]? := by
  by_cases h1 : k < A.length
  · rw [if_pos h1, List.getElem?_append_left h1]
  · rw [if_neg h1, List.getElem?_append_right (by omega)]
    by_cases h2 : k < A.length + X.length
    · rw [if_pos h2, List.getElem?_append_left (by omega)]
    · rw [if_neg h2, List.getElem?_append_right (by omega)]
theorem St.grow {w0 w : World} {As : List HP} (H : St w0 As w) (os : Array Obj) : St w0 As (Go.Sort.grow w os) := by
  refine ⟨H.os, H.tape, H.output, sepL_mono (fun b o h => ?_) H.heap⟩
  have hlt := (Array.getElem?_eq_some_iff.1 h).1
  simp only [hpOf, Go.Sort.grow] at h ⊢
  rw [Array.getElem?_append_left hlt]; exact h
theorem St.sorted {w0 w : World} {As : List HP} {sb : Option Addr} {sc : Nat} {s t : List Int} (H : St w0 (Sl 3 ecI 1 sb sc s :: As) w) (hl : t.length = s.length) (hs : 0 < s.length) :
    ∃ b off, sb = some ⟨b, off, none⟩ ∧ Go.Sort.Holds (Value.int .i64) w b off s.toArray ∧ b < w.heap.size ∧
      ∀ (n : Nat) (os : Array Obj), St w0 (Sl 3 ecI 1 sb sc t :: As) (Go.Sort.grow (Go.Sort.putRow (Value.int .i64) (Go.Sort.ahead w n) b off t.toArray) os) := by
  obtain ⟨b, off, A, R, rfl, hA, h1, h2, h3, H1⟩ := H.slParts ecI_ok hs
  have hb := H1.one 0 rfl
  have hfs : s.flatMap ecI = s.map (Value.int .i64) := by
    clear hb H1 h3 h2 h1 hs hl H
    induction s with
    | nil => rfl
    | cons x s ih => simp [ecI, ih]
  have hft : t.flatMap ecI = t.map (Value.int .i64) := by
    clear hb H1 h3 h2 h1 hs hl H
    induction t with
    | nil => rfl
    | cons x s ih => simp [ecI, ih]
  refine ⟨b, off, rfl, fun j hj => ?_, (Array.getElem?_eq_some_iff.1 hb).1, fun n os => ?_⟩
  · have hj' : j < s.length := by simpa using hj
    refine ⟨?_, by simp [World.frozen?, hb]⟩
    simp only [World.cell?, hb, Option.isSome_none, Bool.false_eq_true, if_false]
    rw [hfs]
    simp only [List.getElem?_toArray]
    rw [List.getElem?_append_right (by omega), hA, Nat.add_sub_cancel_left, List.getElem?_append_left (by simpa using hj')]
    simp [hj']
  · refine St.grow ?_ os
    rw [hfs] at H1 hb
    have hcs : Go.Sort.putCells (Value.int .i64) off t.toArray (A ++ (s.map (Value.int .i64) ++ R)).toArray = (A ++ (t.flatMap ecI ++ R)).toArray := by
      rw [hft]
      apply Array.ext'
      apply List.ext_getElem?
      intro k
      simp only [Go.Sort.putCells, Array.getElem?_toList, Array.getElem?_mapIdx, List.getElem?_toArray, List.size_toArray]
      rw [mid_get, mid_get]
      simp only [List.length_map, hA, hl]
      by_cases c1 : k < off
      · have c2 : ¬ (off ≤ k ∧ k < off + s.length) := by omega
        simp [c1, c2]
      · by_cases c2 : k < off + s.length
        · have c3 : off ≤ k ∧ k < off + s.length := by omega
          have c4 : k - off < s.length := by omega
          have c5 : k - off < t.length := by omega
          simp [c1, c2, c3, c4, c5]
        · have c3 : ¬ (off ≤ k ∧ k < off + s.length) := by omega
          simp [c1, c2, c3]
    have H2 := H1.set (w' := Go.Sort.putRow (Value.int .i64) (Go.Sort.ahead w n) b off t.toArray) (o' := .cells (A ++ (t.flatMap ecI ++ R)).toArray 3 (0, 0)) rfl rfl rfl
      (by simp only [Go.Sort.putRow, Go.Sort.mapBlock, Go.Sort.ahead, Array.getElem?_modify, if_true, hb, Option.map_some, Go.Sort.onCells, hcs])
      (fun c hc => by simp only [Go.Sort.putRow, Go.Sort.mapBlock, Go.Sort.ahead, Array.getElem?_modify]; rw [if_neg (Ne.symm hc)])
    have hln : t.length ≤ sc := by omega
    have := St.slBack H2 ecI_ok hln h2 (by rw [hl]; exact h3)
    rw [hA] at this
    exact this

end Go.Th
