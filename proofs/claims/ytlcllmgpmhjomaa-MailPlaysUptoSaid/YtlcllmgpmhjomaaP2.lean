/-
  The plain law of chapter 23: what the models of the law's functions answer: true.
-/
import Derived.Test.YtlcllmgpmhjomaaP1
import Derived.KernelRfl
set_option linter.unusedVariables false
set_option linter.unusedSimpArgs false
namespace Go.Proofs.Ytlcllmgpmhjomaa
open Go.Th

theorem known_true (k : Nat) (hk : 6 ≤ k) : thicketlaw23_known k = some true := by
  obtain ⟨m, rfl⟩ : ∃ m, k = m + 6 := ⟨k - 6, by omega⟩
  kernel_rfl

theorem within {n lo hi : Int} (h : lo ≤ hi) (h1 : -1000000 ≤ lo) (h2 : hi ≤ 1000000) : ∃ r, thicketbook_Within n lo hi = some r ∧ lo ≤ r ∧ r ≤ hi := by
  unfold thicketbook_Within
  have e1 : w64 (hi - lo) = hi - lo := w64_id (by omega) (by omega)
  have e2 : w64 (hi - lo + 1) = hi - lo + 1 := w64_id (by omega) (by omega)
  rw [e1, e2]
  by_cases hc : (decide (n ≥ lo) && decide (n ≤ hi)) = true
  · rw [hc]
    simp only [Bool.and_eq_true, decide_eq_true_eq] at hc
    exact ⟨n, rfl, hc.1, hc.2⟩
  · rw [Bool.not_eq_true] at hc
    rw [hc]
    have hz : mNz (hi - lo + 1) = some () := by unfold mNz; rw [if_pos (by omega)]
    have b1 := Int.tmod_lt_of_pos n (b := hi - lo + 1) (by omega)
    have b2 := Int.lt_tmod_of_pos n (b := hi - lo + 1) (by omega)
    rw [hz]
    simp only [cond_false, Option.bind_some]
    by_cases ht : Int.tmod n (hi - lo + 1) < 0
    · have d : decide (Int.tmod n (hi - lo + 1) < 0) = true := by simpa using ht
      rw [d]
      simp only [cond_true, Option.bind_some]
      rw [w64_id (x := Int.tmod n (hi - lo + 1) + hi) (by omega) (by omega), w64_id (x := Int.tmod n (hi - lo + 1) + hi - lo) (by omega) (by omega), w64_id (x := Int.tmod n (hi - lo + 1) + hi - lo + 1) (by omega) (by omega), w64_id (by omega) (by omega)]
      exact ⟨_, rfl, by omega, by omega⟩
    · have d : decide (Int.tmod n (hi - lo + 1) < 0) = false := by simpa using ht
      rw [d]
      simp only [cond_false, Option.bind_some]
      rw [w64_id (by omega) (by omega)]
      exact ⟨_, rfl, by omega, by omega⟩

/-! MailOrder -/
theorem drop_cons {α : Type} {l : List α} {i : Nat} (h : i < l.length) : l.drop i = l[i] :: l.drop (i + 1) := List.drop_eq_getElem_cons h
theorem take_snoc {α : Type} {l : List α} {i : Nat} (h : i < l.length) : l.take i ++ [l[i]] = l.take (i + 1) := by simp

theorem order_l0 (s s1 a b : List ByteArray) (hs : s1.length ≤ 40) : ∀ k i : Nat, i ≤ s1.length → s1.length < k + i →
    thicketlaw23_MailOrder_l0 s s1 a k (i : Int) (bx_string 100 (s1.take i)) (dk_string 100 [[], s1.take i]) = some (.inr (bx_string 100 s1, dk_string 100 [[], s1]))
  | 0, i, h1, h2 => by omega
  | k + 1, i, h1, h2 => by
    unfold thicketlaw23_MailOrder_l0
    by_cases hi : i < s1.length
    · have hd : decide ((i : Int) < (s1.length : Int)) = true := by simp; omega
      have hp : mail_Desk_string_Post (dk_string 100 [[], s1.take i]) 1 s1[i] = some (0, dk_string 100 [[], s1.take (i + 1)]) := by
        have := dpost_string (c := 100) (bs := [[], s1.take i]) (j := 1) (b := s1.take i) rfl s1[i]
        rw [if_pos (by simp; omega), take_snoc hi] at this
        exact this
      have hq : mail_Box_string_Post (bx_string 100 (s1.take i)) s1[i] = some (true, bx_string 100 (s1.take (i + 1))) := by
        rw [post_string, if_pos (by simp; omega), take_snoc hi]
      simp only [hd, cond_true, mIdx_lt hi, Option.bind_some, hp, hq]
      simp only [bne_self_eq_false, cond_false, Option.bind_some, Bool.not_true]
      rw [w64_id (by omega) (by omega)]
      exact order_l0 s s1 a b hs k (i + 1) (by omega) (by omega)
    · have hd : decide ((i : Int) < (s1.length : Int)) = false := by simp; omega
      simp only [hd, cond_false]
      rw [List.take_of_length_le (by omega)]

theorem order_l1 (s s1 a b : List ByteArray) (x : mail_Box_string) (hs : s.length ≤ 40) : ∀ k i : Nat, i ≤ s.length → s.length < k + i →
    thicketlaw23_MailOrder_l1 s s1 x a k (i : Int) (dk_string 100 [s.take i, s1]) = some (.inr (dk_string 100 [s, s1]))
  | 0, i, h1, h2 => by omega
  | k + 1, i, h1, h2 => by
    unfold thicketlaw23_MailOrder_l1
    by_cases hi : i < s.length
    · have hd : decide ((i : Int) < (s.length : Int)) = true := by simp; omega
      have hp : mail_Desk_string_Post (dk_string 100 [s.take i, s1]) 0 s[i] = some (0, dk_string 100 [s.take (i + 1), s1]) := by
        have := dpost_string (c := 100) (bs := [s.take i, s1]) (j := 0) (b := s.take i) rfl s[i]
        rw [if_pos (by simp; omega), take_snoc hi] at this
        exact this
      simp only [hd, cond_true, mIdx_lt hi, Option.bind_some, hp]
      simp only [bne_self_eq_false, cond_false]
      rw [w64_id (by omega) (by omega)]
      exact order_l1 s s1 a b x hs k (i + 1) (by omega) (by omega)
    · have hd : decide ((i : Int) < (s.length : Int)) = false := by simp; omega
      simp only [hd, cond_false]
      rw [List.take_of_length_le (by omega)]

theorem order_l2 (s s1 a b : List ByteArray) (x : mail_Box_string) (hs : s.length ≤ 40) (hs1 : s1.length ≤ 40) : ∀ k i : Nat, i ≤ s.length + s1.length → s.length + s1.length + 6 < k + i →
    thicketlaw23_MailOrder_l2 s s1 x a k (i : Int) (dk_string 100 [s.drop i, s1.drop (i - s.length)]) = some (.inr (dk_string 100 [[], []]))
  | 0, i, h1, h2 => by omega
  | k + 1, i, h1, h2 => by
    unfold thicketlaw23_MailOrder_l2
    have hw : w64 ((s.length : Int) + (s1.length : Int)) = (s.length : Int) + (s1.length : Int) := w64_id (by omega) (by omega)
    rw [hw]
    by_cases hi : i < s.length + s1.length
    · have hd : decide ((i : Int) < (s.length : Int) + (s1.length : Int)) = true := by simp; omega
      by_cases h0 : i < s.length
      · have hn := nextS_string (k := k) (c := 100) (j := 0) (bs := [s.drop i, s1.drop (i - s.length)]) (v := s[i]) (r := s.drop (i + 1)) (by simp) (by omega) (by rw [drop_cons h0]; rfl) (by rw [drop_cons h0]; rfl)
        have d1 : decide ((i : Int) < (s.length : Int)) = true := by simp; omega
        have d2 : decide ((i : Int) ≥ (s.length : Int)) = false := by simp; omega
        simp only [hd, cond_true, hn, Option.bind_some, Bool.not_true, cond_false, d1, d2, mIdx_lt h0, beq_self_eq_true, Int.natCast_zero, bne_self_eq_false, List.set_cons_zero]
        rw [w64_id (by omega) (by omega)]
        have e : i - s.length = i + 1 - s.length := by omega
        rw [e]
        exact order_l2 s s1 a b x hs hs1 k (i + 1) (by omega) (by omega)
      · have hj : i - s.length < s1.length := by omega
        have hn := nextS_string (k := k) (c := 100) (j := 1) (bs := [s.drop i, s1.drop (i - s.length)]) (v := s1[i - s.length]) (r := s1.drop (i - s.length + 1)) (by simp) (by omega) (by rw [List.drop_eq_nil_of_le (by omega), drop_cons hj]; rfl) (by rw [drop_cons hj]; rfl)
        have d1 : decide ((i : Int) < (s.length : Int)) = false := by simp; omega
        have d2 : decide ((i : Int) ≥ (s.length : Int)) = true := by simp; omega
        have e3 : w64 ((i : Int) - (s.length : Int)) = ((i - s.length : Nat) : Int) := by rw [w64_id (by omega) (by omega)]; omega
        simp only [hd, cond_true, hn, Option.bind_some, Bool.not_true, cond_false, d1, d2, e3, mIdx_lt hj, beq_self_eq_true, Int.natCast_one, bne_self_eq_false]
        rw [w64_id (by omega) (by omega)]
        have e : i - s.length + 1 = i + 1 - s.length := by omega
        have e2 : [List.drop i s, List.drop (i - s.length) s1].set 1 (List.drop (i - s.length + 1) s1) = [s.drop (i + 1), s1.drop (i + 1 - s.length)] := by
          have z1 : s.drop i = [] := List.drop_eq_nil_of_le (by omega)
          have z2 : s.drop (i + 1) = [] := List.drop_eq_nil_of_le (by omega)
          rw [z1, z2, e]; rfl
        rw [e2]
        exact order_l2 s s1 a b x hs hs1 k (i + 1) (by omega) (by omega)
    · have hd : decide ((i : Int) < (s.length : Int) + (s1.length : Int)) = false := by simp; omega
      simp only [hd, cond_false]
      rw [List.drop_eq_nil_of_le (by omega), List.drop_eq_nil_of_le (by omega)]

theorem order_l3 (s1 a b : List ByteArray) (d : mail_Desk_string) (hs1 : s1.length ≤ 40) : ∀ k i : Nat, i ≤ s1.length → s1.length < k + i →
    thicketlaw23_MailOrder_l3 s1 d a k (i : Int) (bx_string 100 (s1.drop i)) = some (.inr (bx_string 100 []))
  | 0, i, h1, h2 => by omega
  | k + 1, i, h1, h2 => by
    unfold thicketlaw23_MailOrder_l3
    by_cases hi : i < s1.length
    · have hd : decide ((i : Int) < (s1.length : Int)) = true := by simp; omega
      simp only [hd, cond_true, take_string, drop_cons hi, Option.bind_some, Bool.not_true, cond_false, mIdx_lt hi, beq_self_eq_true]
      rw [w64_id (by omega) (by omega)]
      exact order_l3 s1 a b d hs1 k (i + 1) (by omega) (by omega)
    · have hd : decide ((i : Int) < (s1.length : Int)) = false := by simp; omega
      simp only [hd, cond_false]
      rw [List.drop_eq_nil_of_le (by omega)]

theorem cut40 (a : List ByteArray) : (bif decide ((a.length : Int) > 40) then (mCut a 0 40).bind fun l => some l else some a) = some (a.take 40) := by
  by_cases h : a.length > 40
  · have d : decide ((a.length : Int) > 40) = true := by simp; omega
    rw [d]
    have : mCut a 0 40 = some (a.take 40) := by
      unfold mCut
      rw [if_pos (by omega)]
      simp
    rw [this]; rfl
  · have d : decide ((a.length : Int) > 40) = false := by simp; omega
    rw [d, List.take_of_length_le (by omega)]; rfl

theorem order_true (a b : List ByteArray) : thicketlaw23_MailOrder 100 a b = some true := by
  unfold thicketlaw23_MailOrder
  have h1 : (a.take 40).length ≤ 40 := by simp; omega
  have h2 : (b.take 40).length ≤ 40 := by simp; omega
  have e0 := order_l0 (a.take 40) (b.take 40) a b h2 100 0 (by omega) (by omega)
  have e1 := order_l1 (a.take 40) (b.take 40) a b (bx_string 100 (b.take 40)) h1 100 0 (by omega) (by omega)
  have e2 := order_l2 (a.take 40) (b.take 40) a b (bx_string 100 (b.take 40)) h1 h2 100 0 (by omega) (by omega)
  have e3 := order_l3 (b.take 40) a b (dk_string 100 [[], []]) h2 100 0 (by omega) (by omega)
  have c : capOf 100 = 100 := by decide
  have d : boxesOf 2 = 2 := by decide
  have n2 : List.replicate 2 ([] : List ByteArray) = [[], []] := rfl
  simp only [List.take_zero, List.drop_zero, Nat.zero_sub, Int.natCast_zero] at e0 e1 e2 e3
  simp only [newDesk_string 100 2 100 (by omega), newBox_string, c, d, n2, Option.bind_some, cut40, e0, e1, e2, e3]
  rw [nextN_string (by simp) (by omega) (by rfl)]
  simp only [take_string, Option.bind_some, Bool.not_false, cond_true, known_true 100 (by omega)]

/-! MailFull -/
theorem full_l0 (N M : Nat) (l1 : List Int) (hN : 1 ≤ N) (hN4 : N ≤ 4) : ∀ (k i : Nat) (bs : List (List Int)), i ≤ 60 → 60 < k + i → bs.length = N → sumL bs ≤ i →
    ∃ bs' : List (List Int), bs'.length = N ∧ sumL bs' ≤ 60 ∧
      thicketlaw23_MailFull_l0 (N : Int) (M : Int) l1 k (sumL bs : Int) (i : Int) (bs.map fun b => (b.length : Int)) (dk_int M bs) = some (.inr ((sumL bs' : Int), dk_int M bs'))
  | 0, i, bs, h1, h2, _, _ => by omega
  | k + 1, i, bs, h1, h2, hl, hS => by
    unfold thicketlaw23_MailFull_l0
    by_cases hc : i < l1.length ∧ i < 60
    · have hd : (decide ((i : Int) < (l1.length : Int)) && decide ((i : Int) < 60)) = true := by simp; omega
      obtain ⟨r, hr, hr0, hr1⟩ := within (n := l1[i]'hc.1) (lo := 0) (hi := w64 ((N : Int) - 1)) (by rw [w64_id (by omega) (by omega)]; omega) (by omega) (by rw [w64_id (by omega) (by omega)]; omega)
      rw [w64_id (by omega) (by omega)] at hr1
      obtain ⟨j, rfl⟩ := Int.eq_ofNat_of_zero_le hr0
      have hj : j < bs.length := by omega
      have hg : bs[j]? = some bs[j] := by simp [hj]
      have hm : mIdx (bs.map fun b => (b.length : Int)) (j : Int) = some (bs[j].length : Int) := mIdx_nat (by simp [hj])
      simp only [hd, cond_true, mIdx_lt hc.1, Option.bind_some, hr, dpost_int hg, hm]
      by_cases hb : bs[j].length < M
      · have db : decide ((bs[j].length : Int) < (M : Int)) = true := by simp; omega
        have hset := sumL_set (bs := bs) (j := j) (b' := bs[j] ++ [(i : Int)]) hg
        simp only [List.length_append, List.length_cons, List.length_nil] at hset
        have hmap : mSet (bs.map fun b => (b.length : Int)) (j : Int) (w64 ((bs[j].length : Int) + 1)) = (bs.set j (bs[j] ++ [(i : Int)])).map fun b => (b.length : Int) := by
          have hle := sumL_mem hg
          rw [w64_id (by omega) (by omega)]
          simp [mSet, List.map_set]
        simp only [hb, if_true, db, beq_self_eq_true, Bool.not_true, cond_false, bne_self_eq_false, Option.bind_some, cond_true, hm, hmap]
        rw [w64_id (by omega) (by omega), w64_id (by omega) (by omega)]
        have := full_l0 N M l1 hN hN4 k (i + 1) (bs.set j (bs[j] ++ [(i : Int)])) (by omega) (by omega) (by simpa using hl) (by omega)
        have e : (sumL bs : Int) + 1 = (sumL (bs.set j (bs[j] ++ [(i : Int)])) : Int) := by omega
        rw [e]
        exact this
      · have db : decide ((bs[j].length : Int) < (M : Int)) = false := by simp; omega
        have x1 : ((13 : Int) == 0) = false := by decide
        have x2 : ((13 : Int) != 0) = true := by decide
        have x3 : ((13 : Int) != 13) = false := by decide
        simp only [hb, if_false, db, x1, x2, x3, beq_self_eq_true, Bool.not_true, cond_false, Option.bind_some, cond_true]
        rw [w64_id (by omega) (by omega)]
        exact full_l0 N M l1 hN hN4 k (i + 1) bs (by omega) (by omega) hl (by omega)
    · have hd : (decide ((i : Int) < (l1.length : Int)) && decide ((i : Int) < 60)) = false := by simp; omega
      simp only [hd, cond_false]
      exact ⟨bs, hl, by omega, rfl⟩

theorem full_l1 (N M : Nat) (l2 : List Int) (T : Nat) (hN4 : N ≤ 4) (hT : T ≤ 60) : ∀ (k i last : Nat) (bs : List (List Int)), i + sumL bs = T → T + 6 < k + i → bs.length = N → (∀ (j : Nat) (b : List Int), j < last → bs[j]? = some b → b = []) →
    ∃ bs' : List (List Int), bs'.length = N ∧ (∀ (j : Nat) (b : List Int), bs'[j]? = some b → b = []) ∧
      thicketlaw23_MailFull_l1 (T : Int) l2 k (last : Int) (i : Int) (dk_int M bs) = some (.inr (dk_int M bs'))
  | 0, i, last, bs, h1, h2, _, _ => by omega
  | k + 1, i, last, bs, h1, h2, hl, hla => by
    unfold thicketlaw23_MailFull_l1
    by_cases hi : i < T
    · have hd : decide ((i : Int) < (T : Int)) = true := by simp; omega
      cases hf : firstIn bs with
      | none =>
        have := sumL_nil (firstIn_none hf)
        omega
      | some j =>
        obtain ⟨⟨v, r, hj⟩, hb⟩ := firstIn_some hf
        have hle : ¬ j < last := fun h => by have := hla j _ h hj; cases this
        have hd2 : decide ((j : Int) < (last : Int)) = false := by simp; omega
        simp only [hd, cond_true, nextS_int (k := k) (bs := bs) (by omega) (by omega) hf hj, Option.bind_some, Bool.not_true, Bool.false_or, hd2, cond_false]
        rw [w64_id (by omega) (by omega)]
        have hset := sumL_set (bs := bs) (j := j) (b' := r) hj
        simp only [List.length_cons] at hset
        exact full_l1 N M l2 T hN4 hT k (i + 1) j (bs.set j r) (by omega) (by omega) (by simpa using hl) fun q b hq hb' => by
          rw [List.getElem?_set_ne (by omega)] at hb'
          exact hb q b hq hb'
    · have hd : decide ((i : Int) < (T : Int)) = false := by simp; omega
      simp only [hd, cond_false]
      refine ⟨bs, hl, fun j b hb => ?_, rfl⟩
      have := sumL_mem hb
      exact List.eq_nil_of_length_eq_zero (by omega)

theorem capOf_small {r : Int} (h1 : 1 ≤ r) (h2 : r ≤ 4096) : (capOf r : Int) = r := by unfold capOf; split <;> split at * <;> omega
theorem boxesOf_small {r : Int} (h1 : 1 ≤ r) (h2 : r ≤ 4) : (boxesOf r : Int) = r := by unfold boxesOf; split <;> split at * <;> omega

theorem full_true (boxes room : Int) (posts : List Int) : thicketlaw23_MailFull 100 boxes room posts = some true := by
  unfold thicketlaw23_MailFull
  obtain ⟨n, hn, n1, n4⟩ := within (n := boxes) (lo := 1) (hi := 4) (by omega) (by omega) (by omega)
  obtain ⟨m, hm, m1, m5⟩ := within (n := room) (lo := 1) (hi := 5) (by omega) (by omega) (by omega)
  have hN := boxesOf_small n1 n4
  have hM := capOf_small m1 (by omega)
  have hmk : mMake n (0 : Int) = some ((List.replicate (boxesOf n) ([] : List Int)).map fun b => (b.length : Int)) := by
    unfold mMake
    rw [if_pos (by omega)]
    have : n.toNat = boxesOf n := by omega
    simp [this]
  obtain ⟨bs, hl, hS, e0⟩ := full_l0 (boxesOf n) (capOf m) posts (by omega) (by omega) 100 0 (List.replicate (boxesOf n) []) (by omega) (by omega) (by simp) (by rw [sumL_rep]; omega)
  rw [sumL_rep, hN, hM] at e0
  obtain ⟨bs', hl', hn', e1⟩ := full_l1 (boxesOf n) (capOf m) posts (sumL bs) (by omega) hS 100 0 0 bs (by omega) (by omega) hl (fun j b hj => by omega)
  simp only [Int.natCast_zero] at e0 e1
  simp only [hn, hm, Option.bind_some, newDesk_int 100 n m (by omega), hmk, e0, e1, nextN_int (k := 100) (bs := bs') (by omega) (by omega) (firstIn_nil hn'), Bool.not_false, cond_true, len_int (k := 100) (bs := bs') (by omega) (by rw [sumL_nil hn']; omega) (by omega), sumL_nil hn', Int.natCast_zero, beq_self_eq_true, known_true 100 (by omega)]

end Go.Proofs.Ytlcllmgpmhjomaa
