/-
  The plain law of chapter 23's boxes: what the models of mail's functions do, told by lists.
-/
import Derived.Test.YtlcllmgpmhjomaaM1
set_option linter.unusedVariables false
set_option linter.unusedSimpArgs false
namespace Go.Proofs.Ytlcllmgpmhjomaa
open Go.Th

theorem w64_id {x : Int} (h1 : -9223372036854775808 ≤ x) (h2 : x < 9223372036854775808) : w64 x = x := by
  show (if (true && decide (x % 18446744073709551616 ≥ 9223372036854775808)) = true then x % 18446744073709551616 - 18446744073709551616 else x % 18446744073709551616) = x
  by_cases h : x % 18446744073709551616 ≥ 9223372036854775808
  · rw [if_pos (by simpa using h)]; omega
  · rw [if_neg (by simpa using h)]; omega
theorem set_self {α : Type} {l : List α} {i : Nat} {x : α} (h : l[i]? = some x) : l.set i x = l := by
  obtain ⟨h3, h4⟩ := List.getElem?_eq_some_iff.1 h
  rw [← h4, List.set_getElem_self]
theorem mIdx_nat {α : Type} {l : List α} {i : Nat} {x : α} (h : l[i]? = some x) : mIdx l (i : Int) = some x := by simp [mIdx, h]
theorem mIdx_lt {α : Type} {l : List α} {i : Nat} (h : i < l.length) : mIdx l (i : Int) = some l[i] := mIdx_nat (by simp [h])
def capOf (room : Int) : Nat := (if (if 4096 < room then 4096 else room) > 1 then (if 4096 < room then 4096 else room) else 1 : Int).toNat
def boxesOf (b : Int) : Nat := (if (if 4 < b then 4 else b) > 1 then (if 4 < b then 4 else b) else 1 : Int).toNat
theorem capOf_bd (room : Int) : 1 ≤ capOf room ∧ capOf room ≤ 4096 := by unfold capOf; split <;> split at * <;> omega
theorem boxesOf_bd (b : Int) : 1 ≤ boxesOf b ∧ boxesOf b ≤ 4 := by unfold boxesOf; split <;> split at * <;> omega
/-- How many lie in all boxes. -/
def sumL {α : Type} : List (List α) → Nat
  | [] => 0
  | b :: bs => b.length + sumL bs
/-- Which box is the first that has any. -/
def firstIn {α : Type} : List (List α) → Option Nat
  | [] => none
  | [] :: bs => (firstIn bs).map (· + 1)
  | (_ :: _) :: bs => some 0
theorem firstIn_none {α : Type} : ∀ {bs : List (List α)}, firstIn bs = none → ∀ (j : Nat) (b : List α), bs[j]? = some b → b = []
  | [], _, j, b, h => by simp at h
  | [] :: bs, h, 0, b, hb => by simp at hb; exact hb
  | [] :: bs, h, j + 1, b, hb => firstIn_none (bs := bs) (by simpa [firstIn] using h) j b (by simpa using hb)
  | (x :: r) :: bs, h, j, b, hb => by simp [firstIn] at h
theorem firstIn_some {α : Type} : ∀ {bs : List (List α)} {k : Nat}, firstIn bs = some k → (∃ x r, bs[k]? = some (x :: r)) ∧ ∀ (j : Nat) (b : List α), j < k → bs[j]? = some b → b = []
  | [], k, h => by simp [firstIn] at h
  | [] :: bs, k, h => by
    simp only [firstIn, Option.map_eq_some_iff] at h
    obtain ⟨q, hq, rfl⟩ := h
    obtain ⟨h1, h2⟩ := firstIn_some hq
    refine ⟨by simpa using h1, fun j b hj hb => ?_⟩
    cases j with
    | zero => simp at hb; exact hb
    | succ j => exact h2 j b (by omega) (by simpa using hb)
  | (x :: r) :: bs, k, h => by simp [firstIn] at h; subst h; exact ⟨⟨x, r, by simp⟩, fun j b hj => by omega⟩
theorem firstIn_of {α : Type} : ∀ {bs : List (List α)} {k : Nat} {x : α} {r : List α}, bs[k]? = some (x :: r) → (∀ (j : Nat) (b : List α), j < k → bs[j]? = some b → b = []) → firstIn bs = some k
  | [], k, x, r, h, _ => by simp at h
  | [] :: bs, 0, x, r, h, _ => by simp at h
  | [] :: bs, k + 1, x, r, h, h2 => by
    simp only [firstIn, Option.map_eq_some_iff]
    exact ⟨k, firstIn_of (by simpa using h) fun j b hj hb => h2 (j + 1) b (by omega) (by simpa using hb), rfl⟩
  | (y :: s) :: bs, 0, x, r, h, _ => rfl
  | (y :: s) :: bs, k + 1, x, r, h, h2 => by have := h2 0 (y :: s) (by omega) (by simp); cases this
theorem firstIn_nil {α : Type} : ∀ {bs : List (List α)}, (∀ (j : Nat) (b : List α), bs[j]? = some b → b = []) → firstIn bs = none
  | [], _ => rfl
  | b :: bs, h => by
    have := h 0 b (by simp)
    subst this
    simp [firstIn, firstIn_nil (bs := bs) fun j b hb => h (j + 1) b (by simpa using hb)]
theorem sumL_set {α : Type} : ∀ {bs : List (List α)} {j : Nat} {b b' : List α}, bs[j]? = some b → sumL (bs.set j b') + b.length = sumL bs + b'.length
  | [], j, b, b', h => by simp at h
  | c :: bs, 0, b, b', h => by simp at h; subst h; simp [sumL]; omega
  | c :: bs, j + 1, b, b', h => by have := sumL_set (bs := bs) (b' := b') (by simpa using h); simp [sumL]; omega
theorem sumL_mem {α : Type} : ∀ {bs : List (List α)} {j : Nat} {b : List α}, bs[j]? = some b → b.length ≤ sumL bs
  | [], j, b, h => by simp at h
  | c :: bs, 0, b, h => by simp at h; subst h; simp [sumL]
  | c :: bs, j + 1, b, h => by have := sumL_mem (bs := bs) (by simpa using h); simp [sumL]; omega
theorem sumL_nil {α : Type} : ∀ {bs : List (List α)}, (∀ (j : Nat) (b : List α), bs[j]? = some b → b = []) → sumL bs = 0
  | [], _ => rfl
  | b :: bs, h => by
    have := h 0 b (by simp)
    subst this
    simp [sumL, sumL_nil (bs := bs) fun j b hb => h (j + 1) b (by simpa using hb)]
theorem sumL_rep {α : Type} (n : Nat) : sumL (List.replicate n ([] : List α)) = 0 := sumL_nil fun j b h => by
  rw [List.getElem?_replicate] at h
  split at h <;> simp_all

/-! string -/
def bx_string (c : Nat) (b : List ByteArray) : mail_Box_string := ⟨⟨c, b⟩⟩
def dk_string (c : Nat) (bs : List (List ByteArray)) : mail_Desk_string := ⟨bs.map (bx_string c)⟩
theorem newBox_string (room : Int) : mail_NewBox_string room = some (bx_string (capOf room) []) := by
  have h := capOf_bd room
  unfold mail_NewBox_string mChan
  rw [if_pos (by unfold capOf at h; omega)]
  rfl
theorem newDesk_l_string (room x1 : Int) (hx : x1 ≤ 4) : ∀ (k n : Nat) (x : Int) (i : Nat), x = i → x1 = i + n → n < k → mail_NewDesk_string_l0 room x1 k x (dk_string (capOf room) (List.replicate i [])) = some (dk_string (capOf room) (List.replicate (i + n) []))
  | 0, n, x, i, _, _, h => by omega
  | k + 1, 0, x, i, h1, h2, h => by
    unfold mail_NewDesk_string_l0
    have : decide (x < x1) = false := by simp; omega
    simp [this]
  | k + 1, n + 1, x, i, h1, h2, h => by
    unfold mail_NewDesk_string_l0
    have hd : decide (x < x1) = true := by simp; omega
    simp only [hd, cond_true, newBox_string, Option.bind_some]
    have ha : mApp (dk_string (capOf room) (List.replicate i [])).l [bx_string (capOf room) []] = some (dk_string (capOf room) (List.replicate (i + 1) [])).l := by
      unfold mApp dk_string
      rw [if_pos (by simp; omega)]
      simp [List.replicate_succ']
    rw [ha]
    simp only [Option.bind_some]
    rw [w64_id (by omega) (by omega)]
    have := newDesk_l_string room x1 hx k n (x + 1) (i + 1) (by omega) (by omega) (by omega)
    rw [Nat.add_right_comm] at this
    exact this
theorem newDesk_string (k : Nat) (boxes room : Int) (hk : 6 ≤ k) : mail_NewDesk_string k boxes room = some (dk_string (capOf room) (List.replicate (boxesOf boxes) [])) := by
  have hb := boxesOf_bd boxes
  have := newDesk_l_string room (boxesOf boxes : Int) (by omega) k (boxesOf boxes) 0 0 rfl (by simp) (by omega)
  unfold mail_NewDesk_string
  have e : (if (if 4 < boxes then 4 else boxes) > 1 then (if 4 < boxes then 4 else boxes) else 1 : Int) = (boxesOf boxes : Int) := by
    unfold boxesOf; split <;> split at * <;> omega
  rw [e]
  simp only [List.replicate_zero, Nat.zero_add] at this
  have e2 : mail_Desk_string.mk ([] : List mail_Box_string) = dk_string (capOf room) [] := rfl
  rw [e2, this]; rfl
theorem post_string (c : Nat) (b : List ByteArray) (v : ByteArray) : mail_Box_string_Post (bx_string c b) v = some (if b.length < c then (true, bx_string c (b ++ [v])) else (false, bx_string c b)) := by
  unfold mail_Box_string_Post
  by_cases h : b.length < c
  · have : MCh.room (bx_string c b).c_ = true := by simp [MCh.room, bx_string, h]
    rw [this, if_pos h]; rfl
  · have : MCh.room (bx_string c b).c_ = false := by show decide (b.length < c) = false; simp; omega
    rw [this, if_neg h]; rfl
theorem take_string (c : Nat) (b : List ByteArray) : mail_Box_string_Take (bx_string c b) = some (match b with | [] => (ByteArray.mk #[], false, bx_string c []) | u :: r => (u, true, bx_string c r)) := by
  cases b <;> rfl
theorem dkl_string (c : Nat) (bs : List (List ByteArray)) : (dk_string c bs).l.length = bs.length := by simp [dk_string]
theorem dki_string {c : Nat} {bs : List (List ByteArray)} {j : Nat} {b : List ByteArray} (h : bs[j]? = some b) : mIdx (dk_string c bs).l (j : Int) = some (bx_string c b) := mIdx_nat (by simp [dk_string, h])
theorem dks_string (c : Nat) (bs : List (List ByteArray)) (j : Nat) (b : List ByteArray) : mail_Desk_string.mk (mSet (dk_string c bs).l (j : Int) (bx_string c b)) = dk_string c (bs.set j b) := by
  simp [mSet, dk_string, List.map_set]
theorem dpost_string {c : Nat} {bs : List (List ByteArray)} {j : Nat} {b : List ByteArray} (h : bs[j]? = some b) (v : ByteArray) :
    mail_Desk_string_Post (dk_string c bs) (j : Int) v = some (if b.length < c then (0, dk_string c (bs.set j (b ++ [v]))) else (13, dk_string c bs)) := by
  have hj : j < bs.length := (List.getElem?_eq_some_iff.1 h).1
  unfold mail_Desk_string_Post
  have d1 : decide ((j : Int) < 0) = false := by simp
  have d2 : decide ((j : Int) ≥ ((dk_string c bs).l.length : Int)) = false := by simp [dkl_string]; omega
  rw [d1, d2]
  simp only [cond_false, Option.bind_some, dki_string h, post_string]
  by_cases hb : b.length < c
  · simp [hb, dks_string]
  · simp only [hb, if_false, Bool.not_false, cond_true, dks_string]
    rw [set_self h]
theorem dpostN_string {c : Nat} {bs : List (List ByteArray)} {i : Int} (h : i < 0 ∨ (bs.length : Int) ≤ i) (v : ByteArray) : mail_Desk_string_Post (dk_string c bs) i v = some (30, dk_string c bs) := by
  unfold mail_Desk_string_Post
  rcases h with h | h
  · have d1 : decide (i < 0) = true := by simpa using h
    rw [d1]; rfl
  · by_cases h0 : i < 0
    · have d1 : decide (i < 0) = true := by simpa using h0
      rw [d1]; rfl
    · have d1 : decide (i < 0) = false := by simpa using h0
      have d2 : decide (i ≥ ((dk_string c bs).l.length : Int)) = true := by simp [dkl_string]; omega
      rw [d1, d2]; rfl
theorem next_l_string (c : Nat) (bs : List (List ByteArray)) (hs : bs.length ≤ 4) : ∀ (k i : Nat) (x : Int), x = i → i ≤ bs.length → bs.length < k + i → (∀ (j : Nat) (b : List ByteArray), j < i → bs[j]? = some b → b = []) →
    mail_Desk_string_Next_l0 (bs.length : Int) k x (dk_string c bs) = some (match firstIn bs with
      | none => .inr (dk_string c bs)
      | some j => match bs[j]? with
        | some (v :: r) => .inl (v, (j : Int), true, dk_string c (bs.set j r))
        | _ => .inr (dk_string c bs))
  | 0, i, x, _, h1, h2, _ => by omega
  | k + 1, i, x, hx, h1, h2, h3 => by
    unfold mail_Desk_string_Next_l0
    by_cases hi : i < bs.length
    · have hd : decide (x < (bs.length : Int)) = true := by simp; omega
      have hg : bs[i]? = some bs[i] := by simp [hi]
      simp only [hd, cond_true]
      subst hx
      simp only [dki_string hg, Option.bind_some, take_string]
      cases hb : bs[i] with
      | nil =>
        simp only [cond_false]
        rw [dks_string, set_self (by rw [hg, hb]), w64_id (by omega) (by omega)]
        exact next_l_string c bs hs k (i + 1) _ (by simp) (by omega) (by omega) fun j b hj hb' => by
          by_cases hji : j = i
          · subst hji; rw [hg] at hb'; cases hb'; exact hb
          · exact h3 j b (by omega) hb'
      | cons v r =>
        have hf := firstIn_of (bs := bs) (k := i) (x := v) (r := r) (by rw [hg, hb]) h3
        simp only [cond_true, hf, hg, hb, dks_string]
    · have hd : decide (x < (bs.length : Int)) = false := by simp; omega
      have hf : firstIn bs = none := firstIn_nil fun j b hb => h3 j b (by have := (List.getElem?_eq_some_iff.1 hb).1; omega) hb
      simp only [hd, cond_false, hf]
theorem nextN_string {k c : Nat} {bs : List (List ByteArray)} (hs : bs.length ≤ 4) (hk : 6 ≤ k) (h : firstIn bs = none) : mail_Desk_string_Next k (dk_string c bs) = some (ByteArray.mk #[], 0, false, dk_string c bs) := by
  unfold mail_Desk_string_Next
  rw [dkl_string, next_l_string c bs hs k 0 0 rfl (by omega) (by omega) (fun j b hj => by omega), h]
  rfl
theorem nextS_string {k c j : Nat} {bs : List (List ByteArray)} {v : ByteArray} {r : List ByteArray} (hs : bs.length ≤ 4) (hk : 6 ≤ k) (h : firstIn bs = some j) (hj : bs[j]? = some (v :: r)) :
    mail_Desk_string_Next k (dk_string c bs) = some (v, (j : Int), true, dk_string c (bs.set j r)) := by
  unfold mail_Desk_string_Next
  rw [dkl_string, next_l_string c bs hs k 0 0 rfl (by omega) (by omega) (fun j b hj => by omega), h]
  simp only [hj]
  rfl

/-! int64 -/
def bx_int64 (c : Nat) (b : List Int) : mail_Box_int64 := ⟨⟨c, b⟩⟩
def dk_int64 (c : Nat) (bs : List (List Int)) : mail_Desk_int64 := ⟨bs.map (bx_int64 c)⟩
theorem newBox_int64 (room : Int) : mail_NewBox_int64 room = some (bx_int64 (capOf room) []) := by
  have h := capOf_bd room
  unfold mail_NewBox_int64 mChan
  rw [if_pos (by unfold capOf at h; omega)]
  rfl
theorem newDesk_l_int64 (room x1 : Int) (hx : x1 ≤ 4) : ∀ (k n : Nat) (x : Int) (i : Nat), x = i → x1 = i + n → n < k → mail_NewDesk_int64_l0 room x1 k x (dk_int64 (capOf room) (List.replicate i [])) = some (dk_int64 (capOf room) (List.replicate (i + n) []))
  | 0, n, x, i, _, _, h => by omega
  | k + 1, 0, x, i, h1, h2, h => by
    unfold mail_NewDesk_int64_l0
    have : decide (x < x1) = false := by simp; omega
    simp [this]
  | k + 1, n + 1, x, i, h1, h2, h => by
    unfold mail_NewDesk_int64_l0
    have hd : decide (x < x1) = true := by simp; omega
    simp only [hd, cond_true, newBox_int64, Option.bind_some]
    have ha : mApp (dk_int64 (capOf room) (List.replicate i [])).l [bx_int64 (capOf room) []] = some (dk_int64 (capOf room) (List.replicate (i + 1) [])).l := by
      unfold mApp dk_int64
      rw [if_pos (by simp; omega)]
      simp [List.replicate_succ']
    rw [ha]
    simp only [Option.bind_some]
    rw [w64_id (by omega) (by omega)]
    have := newDesk_l_int64 room x1 hx k n (x + 1) (i + 1) (by omega) (by omega) (by omega)
    rw [Nat.add_right_comm] at this
    exact this
theorem newDesk_int64 (k : Nat) (boxes room : Int) (hk : 6 ≤ k) : mail_NewDesk_int64 k boxes room = some (dk_int64 (capOf room) (List.replicate (boxesOf boxes) [])) := by
  have hb := boxesOf_bd boxes
  have := newDesk_l_int64 room (boxesOf boxes : Int) (by omega) k (boxesOf boxes) 0 0 rfl (by simp) (by omega)
  unfold mail_NewDesk_int64
  have e : (if (if 4 < boxes then 4 else boxes) > 1 then (if 4 < boxes then 4 else boxes) else 1 : Int) = (boxesOf boxes : Int) := by
    unfold boxesOf; split <;> split at * <;> omega
  rw [e]
  simp only [List.replicate_zero, Nat.zero_add] at this
  have e2 : mail_Desk_int64.mk ([] : List mail_Box_int64) = dk_int64 (capOf room) [] := rfl
  rw [e2, this]; rfl
theorem post_int64 (c : Nat) (b : List Int) (v : Int) : mail_Box_int64_Post (bx_int64 c b) v = some (if b.length < c then (true, bx_int64 c (b ++ [v])) else (false, bx_int64 c b)) := by
  unfold mail_Box_int64_Post
  by_cases h : b.length < c
  · have : MCh.room (bx_int64 c b).c_ = true := by simp [MCh.room, bx_int64, h]
    rw [this, if_pos h]; rfl
  · have : MCh.room (bx_int64 c b).c_ = false := by show decide (b.length < c) = false; simp; omega
    rw [this, if_neg h]; rfl
theorem take_int64 (c : Nat) (b : List Int) : mail_Box_int64_Take (bx_int64 c b) = some (match b with | [] => ((0 : Int), false, bx_int64 c []) | u :: r => (u, true, bx_int64 c r)) := by
  cases b <;> rfl
theorem dkl_int64 (c : Nat) (bs : List (List Int)) : (dk_int64 c bs).l.length = bs.length := by simp [dk_int64]
theorem dki_int64 {c : Nat} {bs : List (List Int)} {j : Nat} {b : List Int} (h : bs[j]? = some b) : mIdx (dk_int64 c bs).l (j : Int) = some (bx_int64 c b) := mIdx_nat (by simp [dk_int64, h])
theorem dks_int64 (c : Nat) (bs : List (List Int)) (j : Nat) (b : List Int) : mail_Desk_int64.mk (mSet (dk_int64 c bs).l (j : Int) (bx_int64 c b)) = dk_int64 c (bs.set j b) := by
  simp [mSet, dk_int64, List.map_set]
theorem dpost_int64 {c : Nat} {bs : List (List Int)} {j : Nat} {b : List Int} (h : bs[j]? = some b) (v : Int) :
    mail_Desk_int64_Post (dk_int64 c bs) (j : Int) v = some (if b.length < c then (0, dk_int64 c (bs.set j (b ++ [v]))) else (13, dk_int64 c bs)) := by
  have hj : j < bs.length := (List.getElem?_eq_some_iff.1 h).1
  unfold mail_Desk_int64_Post
  have d1 : decide ((j : Int) < 0) = false := by simp
  have d2 : decide ((j : Int) ≥ ((dk_int64 c bs).l.length : Int)) = false := by simp [dkl_int64]; omega
  rw [d1, d2]
  simp only [cond_false, Option.bind_some, dki_int64 h, post_int64]
  by_cases hb : b.length < c
  · simp [hb, dks_int64]
  · simp only [hb, if_false, Bool.not_false, cond_true, dks_int64]
    rw [set_self h]
theorem dpostN_int64 {c : Nat} {bs : List (List Int)} {i : Int} (h : i < 0 ∨ (bs.length : Int) ≤ i) (v : Int) : mail_Desk_int64_Post (dk_int64 c bs) i v = some (30, dk_int64 c bs) := by
  unfold mail_Desk_int64_Post
  rcases h with h | h
  · have d1 : decide (i < 0) = true := by simpa using h
    rw [d1]; rfl
  · by_cases h0 : i < 0
    · have d1 : decide (i < 0) = true := by simpa using h0
      rw [d1]; rfl
    · have d1 : decide (i < 0) = false := by simpa using h0
      have d2 : decide (i ≥ ((dk_int64 c bs).l.length : Int)) = true := by simp [dkl_int64]; omega
      rw [d1, d2]; rfl
theorem next_l_int64 (c : Nat) (bs : List (List Int)) (hs : bs.length ≤ 4) : ∀ (k i : Nat) (x : Int), x = i → i ≤ bs.length → bs.length < k + i → (∀ (j : Nat) (b : List Int), j < i → bs[j]? = some b → b = []) →
    mail_Desk_int64_Next_l0 (bs.length : Int) k x (dk_int64 c bs) = some (match firstIn bs with
      | none => .inr (dk_int64 c bs)
      | some j => match bs[j]? with
        | some (v :: r) => .inl (v, (j : Int), true, dk_int64 c (bs.set j r))
        | _ => .inr (dk_int64 c bs))
  | 0, i, x, _, h1, h2, _ => by omega
  | k + 1, i, x, hx, h1, h2, h3 => by
    unfold mail_Desk_int64_Next_l0
    by_cases hi : i < bs.length
    · have hd : decide (x < (bs.length : Int)) = true := by simp; omega
      have hg : bs[i]? = some bs[i] := by simp [hi]
      simp only [hd, cond_true]
      subst hx
      simp only [dki_int64 hg, Option.bind_some, take_int64]
      cases hb : bs[i] with
      | nil =>
        simp only [cond_false]
        rw [dks_int64, set_self (by rw [hg, hb]), w64_id (by omega) (by omega)]
        exact next_l_int64 c bs hs k (i + 1) _ (by simp) (by omega) (by omega) fun j b hj hb' => by
          by_cases hji : j = i
          · subst hji; rw [hg] at hb'; cases hb'; exact hb
          · exact h3 j b (by omega) hb'
      | cons v r =>
        have hf := firstIn_of (bs := bs) (k := i) (x := v) (r := r) (by rw [hg, hb]) h3
        simp only [cond_true, hf, hg, hb, dks_int64]
    · have hd : decide (x < (bs.length : Int)) = false := by simp; omega
      have hf : firstIn bs = none := firstIn_nil fun j b hb => h3 j b (by have := (List.getElem?_eq_some_iff.1 hb).1; omega) hb
      simp only [hd, cond_false, hf]
theorem nextN_int64 {k c : Nat} {bs : List (List Int)} (hs : bs.length ≤ 4) (hk : 6 ≤ k) (h : firstIn bs = none) : mail_Desk_int64_Next k (dk_int64 c bs) = some ((0 : Int), 0, false, dk_int64 c bs) := by
  unfold mail_Desk_int64_Next
  rw [dkl_int64, next_l_int64 c bs hs k 0 0 rfl (by omega) (by omega) (fun j b hj => by omega), h]
  rfl
theorem nextS_int64 {k c j : Nat} {bs : List (List Int)} {v : Int} {r : List Int} (hs : bs.length ≤ 4) (hk : 6 ≤ k) (h : firstIn bs = some j) (hj : bs[j]? = some (v :: r)) :
    mail_Desk_int64_Next k (dk_int64 c bs) = some (v, (j : Int), true, dk_int64 c (bs.set j r)) := by
  unfold mail_Desk_int64_Next
  rw [dkl_int64, next_l_int64 c bs hs k 0 0 rfl (by omega) (by omega) (fun j b hj => by omega), h]
  simp only [hj]
  rfl
theorem len_l_int64 (c : Nat) (bs : List (List Int)) (hs : bs.length ≤ 4) (hS : sumL bs < 1000000000) : ∀ (k i : Nat) (n x : Int), x = i → i ≤ bs.length → bs.length < k + i → n + sumL (bs.drop i) = sumL bs → 0 ≤ n →
    mail_Desk_int64_Len_l0 (bs.length : Int) (dk_int64 c bs) k n x = some (sumL bs : Int)
  | 0, i, n, x, _, h1, h2, _, _ => by omega
  | k + 1, i, n, x, hx, h1, h2, h3, h4 => by
    unfold mail_Desk_int64_Len_l0
    by_cases hi : i < bs.length
    · have hd : decide (x < (bs.length : Int)) = true := by simp; omega
      have hg : bs[i]? = some bs[i] := by simp [hi]
      simp only [hd, cond_true]
      subst hx
      simp only [dki_int64 hg, Option.bind_some, mail_Box_int64_Len]
      have hdr : bs.drop i = bs[i] :: bs.drop (i + 1) := List.drop_eq_getElem_cons hi
      rw [hdr] at h3
      simp only [sumL] at h3
      have e : ((bx_int64 c bs[i]).c_.buf.length : Int) = bs[i].length := rfl
      rw [e, w64_id (by omega) (by omega), w64_id (by omega) (by omega)]
      exact len_l_int64 c bs hs hS k (i + 1) _ _ (by simp) (by omega) (by omega) (by omega) (by omega)
    · have hd : decide (x < (bs.length : Int)) = false := by simp; omega
      simp only [hd, cond_false]
      rw [List.drop_eq_nil_of_le (by omega)] at h3
      simp only [sumL] at h3
      congr 1; omega
theorem len_int64 {k c : Nat} {bs : List (List Int)} (hs : bs.length ≤ 4) (hS : sumL bs < 1000000000) (hk : 6 ≤ k) : mail_Desk_int64_Len k (dk_int64 c bs) = some (sumL bs : Int) := by
  unfold mail_Desk_int64_Len
  rw [dkl_int64, len_l_int64 c bs hs hS k 0 0 0 rfl (by omega) (by omega) (by simp) (by omega)]
  rfl
theorem in_int64 {c j : Nat} {bs : List (List Int)} {b : List Int} (h : bs[j]? = some b) : mail_Desk_int64_In (dk_int64 c bs) (j : Int) = some (b.length : Int) := by
  have hj : j < bs.length := (List.getElem?_eq_some_iff.1 h).1
  unfold mail_Desk_int64_In
  have d1 : decide ((j : Int) < 0) = false := by simp
  have d2 : decide ((j : Int) ≥ ((dk_int64 c bs).l.length : Int)) = false := by simp [dkl_int64]; omega
  rw [d1, d2]
  simp only [cond_false, Option.bind_some, dki_int64 h, mail_Box_int64_Len]
  rfl
theorem inN_int64 {c : Nat} {bs : List (List Int)} {i : Int} (h : i < 0 ∨ (bs.length : Int) ≤ i) : mail_Desk_int64_In (dk_int64 c bs) i = some 0 := by
  unfold mail_Desk_int64_In
  rcases h with h | h
  · have d1 : decide (i < 0) = true := by simpa using h
    rw [d1]; rfl
  · by_cases h0 : i < 0
    · have d1 : decide (i < 0) = true := by simpa using h0
      rw [d1]; rfl
    · have d1 : decide (i < 0) = false := by simpa using h0
      have d2 : decide (i ≥ ((dk_int64 c bs).l.length : Int)) = true := by simp [dkl_int64]; omega
      rw [d1, d2]; rfl

/-! int -/
def bx_int (c : Nat) (b : List Int) : mail_Box_int := ⟨⟨c, b⟩⟩
def dk_int (c : Nat) (bs : List (List Int)) : mail_Desk_int := ⟨bs.map (bx_int c)⟩
theorem newBox_int (room : Int) : mail_NewBox_int room = some (bx_int (capOf room) []) := by
  have h := capOf_bd room
  unfold mail_NewBox_int mChan
  rw [if_pos (by unfold capOf at h; omega)]
  rfl
theorem newDesk_l_int (room x1 : Int) (hx : x1 ≤ 4) : ∀ (k n : Nat) (x : Int) (i : Nat), x = i → x1 = i + n → n < k → mail_NewDesk_int_l0 room x1 k x (dk_int (capOf room) (List.replicate i [])) = some (dk_int (capOf room) (List.replicate (i + n) []))
  | 0, n, x, i, _, _, h => by omega
  | k + 1, 0, x, i, h1, h2, h => by
    unfold mail_NewDesk_int_l0
    have : decide (x < x1) = false := by simp; omega
    simp [this]
  | k + 1, n + 1, x, i, h1, h2, h => by
    unfold mail_NewDesk_int_l0
    have hd : decide (x < x1) = true := by simp; omega
    simp only [hd, cond_true, newBox_int, Option.bind_some]
    have ha : mApp (dk_int (capOf room) (List.replicate i [])).l [bx_int (capOf room) []] = some (dk_int (capOf room) (List.replicate (i + 1) [])).l := by
      unfold mApp dk_int
      rw [if_pos (by simp; omega)]
      simp [List.replicate_succ']
    rw [ha]
    simp only [Option.bind_some]
    rw [w64_id (by omega) (by omega)]
    have := newDesk_l_int room x1 hx k n (x + 1) (i + 1) (by omega) (by omega) (by omega)
    rw [Nat.add_right_comm] at this
    exact this
theorem newDesk_int (k : Nat) (boxes room : Int) (hk : 6 ≤ k) : mail_NewDesk_int k boxes room = some (dk_int (capOf room) (List.replicate (boxesOf boxes) [])) := by
  have hb := boxesOf_bd boxes
  have := newDesk_l_int room (boxesOf boxes : Int) (by omega) k (boxesOf boxes) 0 0 rfl (by simp) (by omega)
  unfold mail_NewDesk_int
  have e : (if (if 4 < boxes then 4 else boxes) > 1 then (if 4 < boxes then 4 else boxes) else 1 : Int) = (boxesOf boxes : Int) := by
    unfold boxesOf; split <;> split at * <;> omega
  rw [e]
  simp only [List.replicate_zero, Nat.zero_add] at this
  have e2 : mail_Desk_int.mk ([] : List mail_Box_int) = dk_int (capOf room) [] := rfl
  rw [e2, this]; rfl
theorem post_int (c : Nat) (b : List Int) (v : Int) : mail_Box_int_Post (bx_int c b) v = some (if b.length < c then (true, bx_int c (b ++ [v])) else (false, bx_int c b)) := by
  unfold mail_Box_int_Post
  by_cases h : b.length < c
  · have : MCh.room (bx_int c b).c_ = true := by simp [MCh.room, bx_int, h]
    rw [this, if_pos h]; rfl
  · have : MCh.room (bx_int c b).c_ = false := by show decide (b.length < c) = false; simp; omega
    rw [this, if_neg h]; rfl
theorem take_int (c : Nat) (b : List Int) : mail_Box_int_Take (bx_int c b) = some (match b with | [] => ((0 : Int), false, bx_int c []) | u :: r => (u, true, bx_int c r)) := by
  cases b <;> rfl
theorem dkl_int (c : Nat) (bs : List (List Int)) : (dk_int c bs).l.length = bs.length := by simp [dk_int]
theorem dki_int {c : Nat} {bs : List (List Int)} {j : Nat} {b : List Int} (h : bs[j]? = some b) : mIdx (dk_int c bs).l (j : Int) = some (bx_int c b) := mIdx_nat (by simp [dk_int, h])
theorem dks_int (c : Nat) (bs : List (List Int)) (j : Nat) (b : List Int) : mail_Desk_int.mk (mSet (dk_int c bs).l (j : Int) (bx_int c b)) = dk_int c (bs.set j b) := by
  simp [mSet, dk_int, List.map_set]
theorem dpost_int {c : Nat} {bs : List (List Int)} {j : Nat} {b : List Int} (h : bs[j]? = some b) (v : Int) :
    mail_Desk_int_Post (dk_int c bs) (j : Int) v = some (if b.length < c then (0, dk_int c (bs.set j (b ++ [v]))) else (13, dk_int c bs)) := by
  have hj : j < bs.length := (List.getElem?_eq_some_iff.1 h).1
  unfold mail_Desk_int_Post
  have d1 : decide ((j : Int) < 0) = false := by simp
  have d2 : decide ((j : Int) ≥ ((dk_int c bs).l.length : Int)) = false := by simp [dkl_int]; omega
  rw [d1, d2]
  simp only [cond_false, Option.bind_some, dki_int h, post_int]
  by_cases hb : b.length < c
  · simp [hb, dks_int]
  · simp only [hb, if_false, Bool.not_false, cond_true, dks_int]
    rw [set_self h]
theorem dpostN_int {c : Nat} {bs : List (List Int)} {i : Int} (h : i < 0 ∨ (bs.length : Int) ≤ i) (v : Int) : mail_Desk_int_Post (dk_int c bs) i v = some (30, dk_int c bs) := by
  unfold mail_Desk_int_Post
  rcases h with h | h
  · have d1 : decide (i < 0) = true := by simpa using h
    rw [d1]; rfl
  · by_cases h0 : i < 0
    · have d1 : decide (i < 0) = true := by simpa using h0
      rw [d1]; rfl
    · have d1 : decide (i < 0) = false := by simpa using h0
      have d2 : decide (i ≥ ((dk_int c bs).l.length : Int)) = true := by simp [dkl_int]; omega
      rw [d1, d2]; rfl
theorem next_l_int (c : Nat) (bs : List (List Int)) (hs : bs.length ≤ 4) : ∀ (k i : Nat) (x : Int), x = i → i ≤ bs.length → bs.length < k + i → (∀ (j : Nat) (b : List Int), j < i → bs[j]? = some b → b = []) →
    mail_Desk_int_Next_l0 (bs.length : Int) k x (dk_int c bs) = some (match firstIn bs with
      | none => .inr (dk_int c bs)
      | some j => match bs[j]? with
        | some (v :: r) => .inl (v, (j : Int), true, dk_int c (bs.set j r))
        | _ => .inr (dk_int c bs))
  | 0, i, x, _, h1, h2, _ => by omega
  | k + 1, i, x, hx, h1, h2, h3 => by
    unfold mail_Desk_int_Next_l0
    by_cases hi : i < bs.length
    · have hd : decide (x < (bs.length : Int)) = true := by simp; omega
      have hg : bs[i]? = some bs[i] := by simp [hi]
      simp only [hd, cond_true]
      subst hx
      simp only [dki_int hg, Option.bind_some, take_int]
      cases hb : bs[i] with
      | nil =>
        simp only [cond_false]
        rw [dks_int, set_self (by rw [hg, hb]), w64_id (by omega) (by omega)]
        exact next_l_int c bs hs k (i + 1) _ (by simp) (by omega) (by omega) fun j b hj hb' => by
          by_cases hji : j = i
          · subst hji; rw [hg] at hb'; cases hb'; exact hb
          · exact h3 j b (by omega) hb'
      | cons v r =>
        have hf := firstIn_of (bs := bs) (k := i) (x := v) (r := r) (by rw [hg, hb]) h3
        simp only [cond_true, hf, hg, hb, dks_int]
    · have hd : decide (x < (bs.length : Int)) = false := by simp; omega
      have hf : firstIn bs = none := firstIn_nil fun j b hb => h3 j b (by have := (List.getElem?_eq_some_iff.1 hb).1; omega) hb
      simp only [hd, cond_false, hf]
theorem nextN_int {k c : Nat} {bs : List (List Int)} (hs : bs.length ≤ 4) (hk : 6 ≤ k) (h : firstIn bs = none) : mail_Desk_int_Next k (dk_int c bs) = some ((0 : Int), 0, false, dk_int c bs) := by
  unfold mail_Desk_int_Next
  rw [dkl_int, next_l_int c bs hs k 0 0 rfl (by omega) (by omega) (fun j b hj => by omega), h]
  rfl
theorem nextS_int {k c j : Nat} {bs : List (List Int)} {v : Int} {r : List Int} (hs : bs.length ≤ 4) (hk : 6 ≤ k) (h : firstIn bs = some j) (hj : bs[j]? = some (v :: r)) :
    mail_Desk_int_Next k (dk_int c bs) = some (v, (j : Int), true, dk_int c (bs.set j r)) := by
  unfold mail_Desk_int_Next
  rw [dkl_int, next_l_int c bs hs k 0 0 rfl (by omega) (by omega) (fun j b hj => by omega), h]
  simp only [hj]
  rfl
theorem len_l_int (c : Nat) (bs : List (List Int)) (hs : bs.length ≤ 4) (hS : sumL bs < 1000000000) : ∀ (k i : Nat) (n x : Int), x = i → i ≤ bs.length → bs.length < k + i → n + sumL (bs.drop i) = sumL bs → 0 ≤ n →
    mail_Desk_int_Len_l0 (bs.length : Int) (dk_int c bs) k n x = some (sumL bs : Int)
  | 0, i, n, x, _, h1, h2, _, _ => by omega
  | k + 1, i, n, x, hx, h1, h2, h3, h4 => by
    unfold mail_Desk_int_Len_l0
    by_cases hi : i < bs.length
    · have hd : decide (x < (bs.length : Int)) = true := by simp; omega
      have hg : bs[i]? = some bs[i] := by simp [hi]
      simp only [hd, cond_true]
      subst hx
      simp only [dki_int hg, Option.bind_some, mail_Box_int_Len]
      have hdr : bs.drop i = bs[i] :: bs.drop (i + 1) := List.drop_eq_getElem_cons hi
      rw [hdr] at h3
      simp only [sumL] at h3
      have e : ((bx_int c bs[i]).c_.buf.length : Int) = bs[i].length := rfl
      rw [e, w64_id (by omega) (by omega), w64_id (by omega) (by omega)]
      exact len_l_int c bs hs hS k (i + 1) _ _ (by simp) (by omega) (by omega) (by omega) (by omega)
    · have hd : decide (x < (bs.length : Int)) = false := by simp; omega
      simp only [hd, cond_false]
      rw [List.drop_eq_nil_of_le (by omega)] at h3
      simp only [sumL] at h3
      congr 1; omega
theorem len_int {k c : Nat} {bs : List (List Int)} (hs : bs.length ≤ 4) (hS : sumL bs < 1000000000) (hk : 6 ≤ k) : mail_Desk_int_Len k (dk_int c bs) = some (sumL bs : Int) := by
  unfold mail_Desk_int_Len
  rw [dkl_int, len_l_int c bs hs hS k 0 0 0 rfl (by omega) (by omega) (by simp) (by omega)]
  rfl

end Go.Proofs.Ytlcllmgpmhjomaa

