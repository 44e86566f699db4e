/-
  The plain law of chapter 23, more: calls of any kind, against plain lists.
-/
import Derived.Test.YtlcllmgpmhjomaaP2
set_option linter.unusedVariables false
set_option linter.unusedSimpArgs false
namespace Go.Proofs.Ytlcllmgpmhjomaa
open Go.Th

/-- The first box that has any, or how many there are. -/
def firstN (bs : List (List Int)) : Nat := match firstIn bs with
  | some j => j
  | none => bs.length

theorem play_l1 (bs : List (List Int)) (most i1 v box : Int) (ok : Bool) (d : mail_Desk_int64) (l4 : List thicketlaw23_Ask) (hs : bs.length ≤ 4) : ∀ k i : Nat, i ≤ bs.length → bs.length < k + i → (∀ (j : Nat) (b : List Int), j < i → bs[j]? = some b → b = []) →
    thicketlaw23_play_l1 (bs.length : Int) most i1 v box ok d bs l4 k (i : Int) = some (firstN bs : Int)
  | 0, i, h1, h2, _ => by omega
  | k + 1, i, h1, h2, h3 => by
    unfold thicketlaw23_play_l1
    by_cases hi : i < bs.length
    · have hd : decide ((i : Int) < (bs.length : Int)) = true := by simp; omega
      have hg : bs[i]? = some bs[i] := by simp [hi]
      simp only [hd, cond_true, mIdx_lt hi, Option.bind_some]
      cases hb : bs[i] with
      | nil =>
        have e : (((([] : List Int).length : Nat) : Int) == 0) = true := by decide
        simp only [e, cond_true]
        rw [w64_id (by omega) (by omega)]
        exact play_l1 bs most i1 v box ok d l4 hs k (i + 1) (by omega) (by omega) fun j b hj hb' => by
          by_cases hji : j = i
          · subst hji; rw [hg] at hb'; cases hb'; exact hb
          · exact h3 j b (by omega) hb'
      | cons u r =>
        have e : ((((u :: r).length : Nat) : Int) == 0) = false := by simp; omega
        simp only [e, cond_false]
        have hf := firstIn_of (bs := bs) (k := i) (x := u) (r := r) (by rw [hg, hb]) h3
        simp only [firstN, hf]
    · have hd : decide ((i : Int) < (bs.length : Int)) = false := by simp; omega
      have hf : firstIn bs = none := firstIn_nil fun j b hb => h3 j b (by have := (List.getElem?_eq_some_iff.1 hb).1; omega) hb
      simp only [hd, cond_false, Option.bind_some, firstN, hf]
      congr 2; omega

theorem play_l2 (bs : List (List Int)) (c : Nat) (most i2 : Int) (l10 : List thicketlaw23_Ask) (hs : bs.length ≤ 4) (hS : sumL bs < 1000000) : ∀ (k i : Nat) (all : Int), i ≤ bs.length → bs.length < k + i → all + sumL (bs.drop i) = sumL bs → 0 ≤ all →
    thicketlaw23_play_l2 (bs.length : Int) most i2 bs (dk_int64 c bs) l10 k all (i : Int) = some (.inr (sumL bs : Int))
  | 0, i, all, h1, h2, _, _ => by omega
  | k + 1, i, all, h1, h2, h3, h4 => by
    unfold thicketlaw23_play_l2
    by_cases hi : i < bs.length
    · have hd : decide ((i : Int) < (bs.length : Int)) = true := by simp; omega
      have hg : bs[i]? = some bs[i] := by simp [hi]
      have hdr : bs.drop i = bs[i] :: bs.drop (i + 1) := List.drop_eq_getElem_cons hi
      rw [hdr] at h3
      simp only [sumL] at h3
      simp only [hd, cond_true, mIdx_lt hi, Option.bind_some, in_int64 hg, bne_self_eq_false, cond_false]
      rw [w64_id (by omega) (by omega), w64_id (by omega) (by omega)]
      exact play_l2 bs c most i2 l10 hs hS k (i + 1) _ (by omega) (by omega) (by omega) (by omega)
    · have hd : decide ((i : Int) < (bs.length : Int)) = false := by simp; omega
      simp only [hd, cond_false]
      rw [List.drop_eq_nil_of_le (by omega)] at h3
      simp only [sumL] at h3
      congr 2; omega

/-- What follows each call: all boxes tell what they hold. -/
theorem play_after {N : Nat} (M k : Nat) (i : Int) (bs : List (List Int)) (l2 : List thicketlaw23_Ask) (hl : bs.length = N) (hN : N ≤ 4) (hS : sumL bs < 1000000) (hk : 6 ≤ k) :
    thicketlaw23_play_l2 (N : Int) (M : Int) i bs (dk_int64 M bs) l2 k 0 0 = some (.inr (sumL bs : Int)) ∧ mail_Desk_int64_Len k (dk_int64 M bs) = some (sumL bs : Int) ∧
      mail_Desk_int64_In (dk_int64 M bs) (-1) = some 0 ∧ mail_Desk_int64_In (dk_int64 M bs) (N : Int) = some 0 := by
  subst hl
  have e := play_l2 bs M (M : Int) i l2 hN hS k 0 0 (by omega) (by omega) (by simp) (by omega)
  simp only [Int.natCast_zero] at e
  exact ⟨e, len_int64 hN (by omega) hk, inN_int64 (.inl (by omega)), inN_int64 (.inr (by omega))⟩

theorem play_l0 (N M : Nat) (l2 : List thicketlaw23_Ask) (hN1 : 1 ≤ N) (hN : N ≤ 4) (hM : M ≤ 4096) : ∀ (k i : Nat) (bs : List (List Int)), i ≤ 100 → 110 < k + i → bs.length = N → sumL bs ≤ i →
    ∃ d, thicketlaw23_play_l0 (N : Int) (M : Int) l2 k (i : Int) bs (dk_int64 M bs) = some (.inr d)
  | 0, i, bs, h1, h2, _, _ => by omega
  | k + 1, i, bs, h1, h2, hl, hS => by
    unfold thicketlaw23_play_l0
    by_cases hc : i < l2.length ∧ i < 100
    · have hd : (decide ((i : Int) < (l2.length : Int)) && decide ((i : Int) < 100)) = true := by simp; omega
      simp only [hd, cond_true, mIdx_lt hc.1, Option.bind_some]
      generalize l2[i]'hc.1 = x
      have hw : w64 ((i : Int) + 1) = ((i + 1 : Nat) : Int) := by rw [w64_id (by omega) (by omega)]; omega
      -- is it a call of Next?
      have hkind : (bif x.Kind == 3 then some (x.Kind == 3) else some (x.Kind == 4)) = some (x.Kind == 3 || x.Kind == 4) := by cases x.Kind == 3 <;> rfl
      simp only [hkind, Option.bind_some, hw]
      cases hK : (x.Kind == 3 || x.Kind == 4) with
      | true =>
        simp only [cond_true]
        have e1 : ∀ (v box : Int) (ok : Bool) (d : mail_Desk_int64), thicketlaw23_play_l1 (N : Int) (M : Int) (i : Int) v box ok d bs l2 k 0 = some (firstN bs : Int) := fun v box ok d => by
          have := play_l1 bs (M : Int) (i : Int) v box ok d l2 (by omega) k 0 (by omega) (by omega) (fun j b hj => by omega)
          rw [hl] at this; exact this
        cases hf : firstIn bs with
        | none =>
          have hfn : firstN bs = N := by simp [firstN, hf, hl]
          have d1 : decide ((N : Int) < (N : Int)) = false := by simp
          have z : ((0 : Int) != 0) = false := by decide
          simp only [nextN_int64 (k := k) (bs := bs) (c := M) (by omega) (by omega) hf, Option.bind_some, e1, hfn, d1, beq_self_eq_true, Bool.not_true, cond_false, Bool.not_false, cond_true, z]
          obtain ⟨q1, q2, q3, q4⟩ := play_after M k (i : Int) bs l2 hl hN (by omega) (by omega)
          have z0 : ((0 : Int) != 0) = false := by decide
          simp only [q1, Option.bind_some, q2, bne_self_eq_false, cond_false, q3, q4, z0]
          exact play_l0 N M l2 hN1 hN hM k (i + 1) bs (by omega) (by omega) hl (by omega)
        | some j =>
          obtain ⟨⟨v, r, hj⟩, hb⟩ := firstIn_some hf
          have hjl : j < bs.length := (List.getElem?_eq_some_iff.1 hj).1
          have hfn : firstN bs = j := by simp [firstN, hf]
          have d1 : decide ((j : Int) < (N : Int)) = true := by simp; omega
          have hset := sumL_set (bs := bs) (j := j) (b' := r) hj
          simp only [List.length_cons] at hset
          have hle := sumL_mem hj
          simp only [List.length_cons] at hle
          have hcut : mCut (v :: r) 1 ((v :: r).length : Int) = some r := by
            unfold mCut
            rw [if_pos ⟨by omega, by simp only [List.length_cons]; omega, by omega⟩]
            simp
          have happ : mApp ([] : List Int) r = some r := by
            unfold mApp
            rw [if_pos (by simp; omega)]
            simp
          have hms : mSet bs (j : Int) r = bs.set j r := by simp [mSet]
          have h0 : mIdx (v :: r) 0 = some v := rfl
          simp only [nextS_int64 (k := k) (bs := bs) (c := M) (by omega) (by omega) hf hj, Option.bind_some, e1, hfn, d1, beq_self_eq_true, Bool.not_true, cond_false, cond_true, bne_self_eq_false, mIdx_nat hj, h0, hcut, happ, hms]
          obtain ⟨q1, q2, q3, q4⟩ := play_after M k (i : Int) (bs.set j r) l2 (by simpa using hl) hN (by omega) (by omega)
          have z0 : ((0 : Int) != 0) = false := by decide
          simp only [q1, Option.bind_some, q2, bne_self_eq_false, cond_false, q3, q4, z0]
          exact play_l0 N M l2 hN1 hN hM k (i + 1) (bs.set j r) (by omega) (by omega) (by simpa using hl) (by omega)
      | false =>
        simp only [cond_false]
        by_cases hbox : x.Box < 0 ∨ (N : Int) ≤ x.Box
        · have d1 : (decide (x.Box < 0) || decide (x.Box ≥ (N : Int))) = true := by simp; omega
          have z : ((30 : Int) == 0) = false := by decide
          simp only [d1, cond_true, Option.bind_some, dpostN_int64 (c := M) (bs := bs) (i := x.Box) (by omega), bne_self_eq_false, cond_false, z]
          obtain ⟨q1, q2, q3, q4⟩ := play_after M k (i : Int) bs l2 hl hN (by omega) (by omega)
          have z0 : ((0 : Int) != 0) = false := by decide
          simp only [q1, Option.bind_some, q2, bne_self_eq_false, cond_false, q3, q4, z0]
          exact play_l0 N M l2 hN1 hN hM k (i + 1) bs (by omega) (by omega) hl (by omega)
        · have d1 : (decide (x.Box < 0) || decide (x.Box ≥ (N : Int))) = false := by simp; omega
          obtain ⟨j, hj⟩ := Int.eq_ofNat_of_zero_le (show 0 ≤ x.Box by omega)
          have hjl : j < bs.length := by omega
          rw [hj] at d1
          have hg : bs[j]? = some bs[j] := by simp [hjl]
          have hle := sumL_mem hg
          simp only [hj, d1, cond_false, mIdx_lt hjl, Option.bind_some, dpost_int64 hg]
          by_cases hb : bs[j].length < M
          · have db : decide ((bs[j].length : Int) ≥ (M : Int)) = false := by simp; omega
            have hset := sumL_set (bs := bs) (j := j) (b' := bs[j] ++ [x.V]) hg
            simp only [List.length_append, List.length_cons, List.length_nil] at hset
            have a1 : mApp ([] : List Int) bs[j] = some bs[j] := by unfold mApp; rw [if_pos (by simp; omega)]; simp
            have a2 : mApp bs[j] [x.V] = some (bs[j] ++ [x.V]) := by unfold mApp; rw [if_pos (by simp; omega)]
            have hms : mSet bs (j : Int) (bs[j] ++ [x.V]) = bs.set j (bs[j] ++ [x.V]) := by simp [mSet]
            simp only [hb, if_true, db, cond_false, Option.bind_some, bne_self_eq_false, beq_self_eq_true, cond_true, a1, a2, hms]
            obtain ⟨q1, q2, q3, q4⟩ := play_after M k (i : Int) (bs.set j (bs[j] ++ [x.V])) l2 (by simpa using hl) hN (by omega) (by omega)
            have z0 : ((0 : Int) != 0) = false := by decide
            simp only [q1, Option.bind_some, q2, bne_self_eq_false, cond_false, q3, q4, z0]
            exact play_l0 N M l2 hN1 hN hM k (i + 1) (bs.set j (bs[j] ++ [x.V])) (by omega) (by omega) (by simpa using hl) (by omega)
          · have db : decide ((bs[j].length : Int) ≥ (M : Int)) = true := by simp; omega
            have z : ((13 : Int) == 0) = false := by decide
            simp only [hb, if_false, db, cond_true, Option.bind_some, bne_self_eq_false, cond_false, z]
            obtain ⟨q1, q2, q3, q4⟩ := play_after M k (i : Int) bs l2 hl hN (by omega) (by omega)
            have z0 : ((0 : Int) != 0) = false := by decide
            simp only [q1, Option.bind_some, q2, bne_self_eq_false, cond_false, q3, q4, z0]
            exact play_l0 N M l2 hN1 hN hM k (i + 1) bs (by omega) (by omega) hl (by omega)
    · have hd : (decide ((i : Int) < (l2.length : Int)) && decide ((i : Int) < 100)) = false := by simp; omega
      simp only [hd, cond_false]
      exact ⟨_, rfl⟩

theorem play_true {k : Nat} (hk : 111 ≤ k) (boxes room : Int) (l : List thicketlaw23_Ask) : thicketlaw23_play k boxes room l = some true := by
  unfold thicketlaw23_play
  have hb := boxesOf_bd boxes
  have hc := capOf_bd room
  have eb : (if 1 > (if 4 < boxes then 4 else boxes) then 1 else (if 4 < boxes then 4 else boxes) : Int) = (boxesOf boxes : Int) := by
    unfold boxesOf; split <;> split <;> split at * <;> omega
  have ec : (if 1 > (if 4096 < room then 4096 else room) then 1 else (if 4096 < room then 4096 else room) : Int) = (capOf room : Int) := by
    unfold capOf; split <;> split <;> split at * <;> omega
  rw [eb, ec]
  have hm : mMake (boxesOf boxes : Int) ([] : List Int) = some (List.replicate (boxesOf boxes) []) := by
    unfold mMake
    rw [if_pos (by omega)]
    simp
  obtain ⟨d, e⟩ := play_l0 (boxesOf boxes) (capOf room) l (by omega) (by omega) (by omega) k 0 (List.replicate (boxesOf boxes) []) (by omega) (by omega) (by simp) (by rw [sumL_rep]; omega)
  simp only [Int.natCast_zero] at e
  simp only [newDesk_int64 k boxes room (by omega), Option.bind_some, hm, e]

/-! MailNumbers -/
theorem numbers_l0 : ∀ (k i : Nat) (l : List thicketlaw23_Ask), i ≤ 90 → 90 < k + i → l.length = i → ∃ l', thicketlaw23_MailNumbers_l0 k l (i : Int) = some l'
  | 0, i, l, h1, h2, _ => by omega
  | k + 1, i, l, h1, h2, hl => by
    unfold thicketlaw23_MailNumbers_l0
    by_cases hi : i < 90
    · have hd : decide ((i : Int) < 90) = true := by simp; omega
      have ht : Int.tmod (i : Int) 8 = ((i % 8 : Nat) : Int) := by rw [Int.tmod_eq_emod_of_nonneg (by omega)]; omega
      have h8 : i % 8 < ([0, 0, 0, 3, 0, 0, 4, 0] : List Int).length := by show i % 8 < 8; omega
      have ha : ∀ x : thicketlaw23_Ask, mApp l [x] = some (l ++ [x]) := fun x => by unfold mApp; rw [if_pos (by simp; omega)]
      simp only [hd, cond_true, ht, mIdx_lt h8, Option.bind_some, ha]
      rw [w64_id (x := (i : Int) + 1) (by omega) (by omega)]
      exact numbers_l0 k (i + 1) _ (by omega) (by omega) (by simp; omega)
    · have hd : decide ((i : Int) < 90) = false := by simp; omega
      simp only [hd, cond_false]
      exact ⟨l, rfl⟩
theorem numbers_l2 (boxes : Int) (l : List thicketlaw23_Ask) : ∀ (k i : Nat), i ≤ 4 → 120 < k + i → thicketlaw23_MailNumbers_l2 boxes l k (i : Int) = some (.inr ())
  | 0, i, h1, h2 => by omega
  | k + 1, i, h1, h2 => by
    unfold thicketlaw23_MailNumbers_l2
    by_cases hi : i < 4
    · have hd : decide ((i : Int) < 4) = true := by simp; omega
      simp only [hd, cond_true, play_true (k := k) (by omega), Option.bind_some, Bool.not_true, cond_false]
      rw [w64_id (by omega) (by omega)]
      exact numbers_l2 boxes l k (i + 1) (by omega) (by omega)
    · have hd : decide ((i : Int) < 4) = false := by simp; omega
      simp only [hd, cond_false]
theorem numbers_l1 (l : List thicketlaw23_Ask) : ∀ (k i : Nat), i ≤ 8 → 140 < k + i → thicketlaw23_MailNumbers_l1 l k ((i : Int) - 1) = some (.inr ())
  | 0, i, h1, h2 => by omega
  | k + 1, i, h1, h2 => by
    unfold thicketlaw23_MailNumbers_l1
    by_cases hi : i < 8
    · have hd : decide ((i : Int) - 1 < 7) = true := by simp; omega
      have e := numbers_l2 ((i : Int) - 1) l k 0 (by omega) (by omega)
      simp only [Int.natCast_zero] at e
      simp only [hd, cond_true, e, Option.bind_some]
      rw [w64_id (by omega) (by omega)]
      have := numbers_l1 l k (i + 1) (by omega) (by omega)
      have e2 : (i : Int) - 1 + 1 = ((i + 1 : Nat) : Int) - 1 := by omega
      rw [e2]; exact this
    · have hd : decide ((i : Int) - 1 < 7) = false := by simp; omega
      simp only [hd, cond_false]
theorem numbers_true : thicketlaw23_MailNumbers 200 = some true := by
  unfold thicketlaw23_MailNumbers
  obtain ⟨l, e⟩ := numbers_l0 200 0 [] (by omega) (by omega) rfl
  have e1 := numbers_l1 l 200 0 (by omega) (by omega)
  simp only [Int.natCast_zero] at e e1
  have z : (0 : Int) - 1 = -1 := by decide
  rw [z] at e1
  simp only [e, Option.bind_some, e1, known_true 200 (by omega)]

/-! MailPlays -/
theorem plays_l0 (b r : Int) (l : List thicketlaw23_Ask) (hl : l.length ≤ 1073741824) : ∀ (k i : Nat) (near : List thicketlaw23_Ask), i ≤ l.length → l.length < k + i → near.length = i → ∃ near', thicketlaw23_MailPlays_l0 b r l k near (i : Int) = some near'
  | 0, i, near, h1, h2, _ => by omega
  | k + 1, i, near, h1, h2, hn => by
    unfold thicketlaw23_MailPlays_l0
    by_cases hi : i < l.length
    · have hd : decide ((i : Int) < (l.length : Int)) = true := by simp; omega
      obtain ⟨q, hq, _, _⟩ := within (n := l[i].Box) (lo := -1) (hi := 4) (by omega) (by omega) (by omega)
      have ha : ∀ x : thicketlaw23_Ask, mApp near [x] = some (near ++ [x]) := fun x => by unfold mApp; rw [if_pos (by simp; omega)]
      simp only [hd, cond_true, mIdx_lt hi, Option.bind_some, hq, ha]
      rw [w64_id (by omega) (by omega)]
      exact plays_l0 b r l hl k (i + 1) _ (by omega) (by omega) (by simp; omega)
    · have hd : decide ((i : Int) < (l.length : Int)) = false := by simp; omega
      simp only [hd, cond_false]
      exact ⟨near, rfl⟩
theorem plays_true (boxes room : Int) (l : List thicketlaw23_Ask) (hl : l.length ≤ 1073741824) : thicketlaw23_MailPlays (l.length + 200) boxes room l = some true := by
  unfold thicketlaw23_MailPlays
  obtain ⟨near, e⟩ := plays_l0 boxes room l hl (l.length + 200) 0 [] (by omega) (by omega) rfl
  obtain ⟨q1, h1, _, _⟩ := within (n := boxes) (lo := 1) (hi := 4) (by omega) (by omega) (by omega)
  obtain ⟨q2, h2, _, _⟩ := within (n := room) (lo := 1) (hi := 9) (by omega) (by omega) (by omega)
  obtain ⟨q3, h3, _, _⟩ := within (n := room) (lo := 0) (hi := 20) (by omega) (by omega) (by omega)
  simp only [Int.natCast_zero] at e
  simp only [e, Option.bind_some, h1, h2, h3, play_true (k := l.length + 200) (by omega), cond_true, known_true (l.length + 200) (by omega)]

theorem mailOrder_plain (a b : List ByteArray) : ∃ k, thicketlaw23_MailOrder k a b = some true := ⟨_, order_true a b⟩
theorem mailFull_plain (boxes room : Int) (posts : List Int) : ∃ k, thicketlaw23_MailFull k boxes room posts = some true := ⟨_, full_true boxes room posts⟩
theorem mailNumbers_plain : ∃ k, thicketlaw23_MailNumbers k = some true := ⟨_, numbers_true⟩
theorem mailPlays_plain (boxes room : Int) (l : List thicketlaw23_Ask) (hl : l.length ≤ 1073741824) : ∃ k, thicketlaw23_MailPlays k boxes room l = some true := ⟨_, plays_true boxes room l hl⟩

end Go.Proofs.Ytlcllmgpmhjomaa
