/-
  The plain law of FairOrders: whether Fires are in order, asked by a map of last times, is what is asked of each pair.
-/
import Derived.Test.YtniljpojpnlmmaaGreatLd
set_option linter.unusedVariables false
set_option linter.unusedSimpArgs false
set_option maxRecDepth 10000
namespace Go.Proofs.YtniljpojpnlmmaaGreat
open Go.Th

theorem fw64 {x : Int} (h1 : -9223372036854775808 ≤ x) (h2 : x < 9223372036854775808) : w64 x = x := by
  show (if (true && decide (x % 18446744073709551616 ≥ 9223372036854775808)) = true then x % 18446744073709551616 - 18446744073709551616 else x % 18446744073709551616) = x
  by_cases h : x % 18446744073709551616 ≥ 9223372036854775808
  · rw [if_pos (by simpa using h)]; omega
  · rw [if_neg (by simpa using h)]; omega

/-- the map's way -/
def ordS : List (Int × Int) → List trace_Event → Bool
  | _, [] => true
  | m, e :: r => bif e.Command.Kind != 5 then ordS [] r else bif e.Reply.Why != 0 then ordS m r else
    match mGet kI e.Command.Queue m with
    | some t => bif decide (e.Reply.Time < t) then false else ordS (mPut kI e.Command.Queue e.Reply.Time m) r
    | none => ordS (mPut kI e.Command.Queue e.Reply.Time m) r
/-- the way of pairs -/
def scan (q t : Int) : List trace_Event → Bool
  | [] => true
  | x :: r => bif x.Command.Kind != 5 then true else bif x.Reply.Why == 0 && (x.Command.Queue == q && decide (x.Reply.Time < t)) then false else scan q t r
def ordB : List trace_Event → Bool
  | [] => true
  | e :: r => (bif e.Command.Kind != 5 || e.Reply.Why != 0 then true else scan e.Command.Queue e.Reply.Time r) && ordB r

theorem kI_t {a b : Int} (h : a = b) : kI a b = true := by simp [kI, h]
theorem kI_f {a b : Int} (h : ¬a = b) : kI a b = false := by simp [kI, h]
theorem get_put (q q' t : Int) : ∀ m : List (Int × Int), mGet kI q (mPut kI q' t m) = if q = q' then some t else mGet kI q m
  | [] => by
    by_cases h : q = q'
    · simp only [mPut, mGet, kI_t h, cond_true, if_pos h]
    · simp [mPut, mGet, kI_f h, h]
  | p :: m => by
    have ih := get_put q q' t m
    by_cases h1 : q' = p.1
    · by_cases h : q = q'
      · simp only [mPut, kI_t h1, cond_true, mGet, kI_t h, if_pos h]
      · have h2 : ¬q = p.1 := fun e => h (e.trans h1.symm)
        simp only [mPut, kI_t h1, cond_true, mGet, kI_f h, kI_f h2, if_neg h, cond_false]
    · simp only [mPut, kI_f h1, cond_false, mGet]
      by_cases h : q = q'
      · have h2 : ¬q = p.1 := fun e => h1 (h.symm.trans e)
        simp only [kI_f h2, cond_false, ih, if_pos h]
      · simp only [if_neg h] at ih ⊢
        rw [ih]
theorem scan_mono {q t t' : Int} (h : t' ≤ t) : ∀ l, scan q t l = true → scan q t' l = true
  | [], _ => rfl
  | x :: r, hs => by
    have ih := scan_mono (q := q) h r
    simp only [scan] at hs ⊢
    cases h1 : (x.Command.Kind != 5) <;> simp only [h1, cond_true, cond_false] at hs ⊢
    cases h2 : (x.Reply.Why == 0 && (x.Command.Queue == q && decide (x.Reply.Time < t))) <;> simp only [h2, cond_true, cond_false] at hs
    · have h3 : (x.Reply.Why == 0 && (x.Command.Queue == q && decide (x.Reply.Time < t'))) = false := by
        cases h4 : (x.Reply.Why == 0) <;> cases h5 : (x.Command.Queue == q) <;> simp [h4, h5] at h2 ⊢
        omega
      simp only [h3, cond_false]
      exact ih hs
    · cases hs
theorem ord_iff : ∀ (l : List trace_Event) (m : List (Int × Int)), ordS m l = true ↔ ((∀ q t, mGet kI q m = some t → scan q t l = true) ∧ ordB l = true)
  | [], m => by simp [ordS, scan, ordB]
  | e :: r, m => by
    have ih := ord_iff r
    cases h1 : (e.Command.Kind != 5)
    · cases h2 : (e.Reply.Why != 0)
      · have hw : (e.Reply.Why == 0) = true := by simpa using h2
        have key : ordS (mPut kI e.Command.Queue e.Reply.Time m) r = true ↔ ((∀ q t, mGet kI q m = some t → q ≠ e.Command.Queue → scan q t r = true) ∧ scan e.Command.Queue e.Reply.Time r = true ∧ ordB r = true) := by
          rw [ih]
          constructor
          · rintro ⟨h, hb⟩
            refine ⟨fun q t hq hne => h q t (by rw [get_put, if_neg hne]; exact hq), h _ _ (by rw [get_put, if_pos rfl]), hb⟩
          · rintro ⟨h, hs, hb⟩
            refine ⟨fun q t hq => ?_, hb⟩
            rw [get_put] at hq
            by_cases hqe : q = e.Command.Queue
            · rw [if_pos hqe] at hq; cases hq; rw [hqe]; exact hs
            · rw [if_neg hqe] at hq; exact h q t hq hqe
        have hsc : ∀ q t, scan q t (e :: r) = (bif (e.Command.Queue == q && decide (e.Reply.Time < t)) then false else scan q t r) := fun q t => by simp only [scan, h1, hw, Bool.true_and, cond_false]
        have hb : ordB (e :: r) = (scan e.Command.Queue e.Reply.Time r && ordB r) := by simp only [ordB, h1, h2, Bool.or_self, cond_false]
        have hne : ∀ q t, q ≠ e.Command.Queue → scan q t (e :: r) = scan q t r := fun q t h => by
          rw [hsc]; have : (e.Command.Queue == q) = false := by simpa using fun h' => h h'.symm
          simp [this]
        rw [hb]
        simp only [ordS, h1, h2, cond_false]
        cases hg : mGet kI e.Command.Queue m with
        | none =>
          simp only
          rw [key, Bool.and_eq_true]
          constructor
          · rintro ⟨h, hs, ho⟩
            refine ⟨fun q t hq => ?_, hs, ho⟩
            by_cases hqe : q = e.Command.Queue
            · rw [hqe, hg] at hq; cases hq
            · rw [hne _ _ hqe]; exact h q t hq hqe
          · rintro ⟨h, hs, ho⟩
            exact ⟨fun q t hq hqe => by rw [← hne q t hqe]; exact h q t hq, hs, ho⟩
        | some t0 =>
          simp only
          cases ht : decide (e.Reply.Time < t0)
          · simp only [cond_false]
            rw [key, Bool.and_eq_true]
            have ht0 : t0 ≤ e.Reply.Time := by simp at ht; omega
            constructor
            · rintro ⟨h, hs, ho⟩
              refine ⟨fun q t hq => ?_, hs, ho⟩
              by_cases hqe : q = e.Command.Queue
              · rw [hqe, hg] at hq; cases hq
                rw [hqe, hsc, ht]; simp only [Bool.and_false, cond_false]
                exact scan_mono ht0 r hs
              · rw [hne _ _ hqe]; exact h q t hq hqe
            · rintro ⟨h, hs, ho⟩
              exact ⟨fun q t hq hqe => by rw [← hne q t hqe]; exact h q t hq, hs, ho⟩
          · simp only [cond_true, Bool.false_eq_true, false_iff]
            rintro ⟨h, _⟩
            have := h _ _ hg
            rw [hsc, ht] at this
            simp at this
      · have hw : (e.Reply.Why == 0) = false := by simpa using h2
        simp only [ordS, scan, ordB, h1, h2, hw, cond_false, cond_true, Bool.false_and, Bool.or_true, Bool.true_and]
        exact ih m
    · simp only [ordS, scan, ordB, h1, cond_true, Bool.true_or, Bool.true_and]
      rw [ih]
      simp [mGet]
theorem ordS_eq (l : List trace_Event) : ordS [] l = ordB l := by
  rw [Bool.eq_iff_iff, ord_iff]
  simp [mGet]

theorem drop_cons {α : Type} : ∀ (l : List α) (i : Nat) (h : i < l.length), l.drop i = l[i] :: l.drop (i + 1) := fun l i h => List.drop_eq_getElem_cons h
theorem idxN {α : Type} (l : List α) (i : Nat) (h : i < l.length) : mIdx l (i : Int) = some l[i] := by
  simp [mIdx, h]

theorem order_l0 (l : List trace_Event) (hl : l.length ≤ 1073741824) : ∀ (n i k : Nat) (m : List (Int × Int)), i + n = l.length → n < k →
    fair_Order_l0 (l.length : Int) l k (i : Int) m = some (bif ordS m (l.drop i) then .inr () else .inl false)
  | 0, i, 0, m, _, hk => by omega
  | 0, i, k + 1, m, hi, _ => by
    have hd : decide ((i : Int) < (l.length : Int)) = false := by simp; omega
    rw [fair_Order_l0, hd, List.drop_eq_nil_of_le (by omega)]
    simp [ordS]
  | n + 1, i, 0, m, _, hk => by omega
  | n + 1, i, k + 1, m, hi, hk => by
    have hlt : i < l.length := by omega
    have hd : decide ((i : Int) < (l.length : Int)) = true := by simp; omega
    have ih := fun m => order_l0 l hl n (i + 1) k m (by omega) (by omega)
    have hw : w64 ((i : Int) + 1) = ((i + 1 : Nat) : Int) := by rw [fw64 (by omega) (by omega)]; rfl
    rw [fair_Order_l0, hd, drop_cons l i hlt, hw]
    simp only [cond_true, idxN l i hlt, Option.bind_some, ordS]
    generalize l[i] = e
    cases h1 : (e.Command.Kind != 5) <;> simp only [cond_true, cond_false, Option.bind_some]
    · cases h2 : (e.Reply.Why != 0) <;> simp only [cond_true, cond_false, Option.bind_some]
      · cases hg : mGet kI e.Command.Queue m with
        | none => simp only [mLook, hg, Option.bind_some, Bool.false_and, cond_false, ih]
        | some t0 =>
          simp only [mLook, hg, Option.bind_some, Bool.true_and]
          cases ht : decide (e.Reply.Time < t0) <;> simp only [cond_true, cond_false, Option.bind_some, ih]
      · exact ih m
    · exact ih []
theorem order_eq (l : List trace_Event) (hl : l.length ≤ 1073741824) (k : Nat) (hk : l.length < k) : fair_Order k l = some (ordB l) := by
  have h := order_l0 l hl l.length 0 k [] (by omega) hk
  rw [fair_Order]
  rw [show ((0 : Nat) : Int) = 0 from rfl] at h
  rw [h, List.drop_zero, ordS_eq]
  cases ordB l <;> rfl

theorem pairs_l1 (l : List trace_Event) (hl : l.length ≤ 1073741824) (i : Nat) (hi : i < l.length) : ∀ (n j k : Nat), j + n = l.length → n < k →
    thicketlaw27_ordered_l1 (i : Int) l k (j : Int) = some (bif scan l[i].Command.Queue l[i].Reply.Time (l.drop j) then .inr () else .inl false)
  | 0, j, 0, _, hk => by omega
  | 0, j, k + 1, hj, _ => by
    have hd : decide ((j : Int) < (l.length : Int)) = false := by simp; omega
    rw [thicketlaw27_ordered_l1, hd, List.drop_eq_nil_of_le (by omega)]
    simp [scan]
  | n + 1, j, 0, _, hk => by omega
  | n + 1, j, k + 1, hj, hk => by
    have hlt : j < l.length := by omega
    have hd : decide ((j : Int) < (l.length : Int)) = true := by simp; omega
    have ih := pairs_l1 l hl i hi n (j + 1) k (by omega) (by omega)
    have hw : w64 ((j : Int) + 1) = ((j + 1 : Nat) : Int) := by rw [fw64 (by omega) (by omega)]; rfl
    rw [thicketlaw27_ordered_l1, hd, drop_cons l j hlt, hw]
    simp only [cond_true, idxN l j hlt, idxN l i hi, Option.bind_some, scan, ih]
    generalize l[j] = e
    generalize l[i] = f
    cases h1 : (e.Command.Kind == 5)
    · have h1' : (e.Command.Kind != 5) = true := by simpa using h1
      simp [h1']
    · have h1' : (e.Command.Kind != 5) = false := by simpa using h1
      simp only [h1', cond_true, cond_false]
      cases h2 : (e.Reply.Why == 0) <;> cases h3 : (e.Command.Queue == f.Command.Queue) <;> cases h4 : decide (e.Reply.Time < f.Reply.Time) <;> simp
theorem pairs_l0 (l : List trace_Event) (hl : l.length ≤ 1073741824) : ∀ (n i k : Nat), i + n = l.length → n + l.length < k →
    thicketlaw27_ordered_l0 l k (i : Int) = some (bif ordB (l.drop i) then .inr () else .inl false)
  | 0, i, 0, _, hk => by omega
  | 0, i, k + 1, hi, _ => by
    have hd : decide ((i : Int) < (l.length : Int)) = false := by simp; omega
    rw [thicketlaw27_ordered_l0, hd, List.drop_eq_nil_of_le (by omega)]
    simp [ordB]
  | n + 1, i, 0, _, hk => by omega
  | n + 1, i, k + 1, hi, hk => by
    have hlt : i < l.length := by omega
    have hd : decide ((i : Int) < (l.length : Int)) = true := by simp; omega
    have ih := pairs_l0 l hl n (i + 1) k (by omega) (by omega)
    have hw : w64 ((i : Int) + 1) = ((i + 1 : Nat) : Int) := by rw [fw64 (by omega) (by omega)]; rfl
    have hp := pairs_l1 l hl i hlt n (i + 1) k (by omega) (by omega)
    rw [thicketlaw27_ordered_l0, hd, drop_cons l i hlt, hw]
    simp only [cond_true, idxN l i hlt, Option.bind_some, hp, ordB, ih]
    generalize l[i] = e
    cases h1 : (e.Command.Kind != 5)
    · cases h2 : (e.Reply.Why != 0)
      · simp only [cond_true, cond_false, Option.bind_some, Bool.or_self]
        cases hs : scan e.Command.Queue e.Reply.Time (l.drop (i + 1)) <;> simp
      · simp
    · simp
theorem pairs_eq (l : List trace_Event) (hl : l.length ≤ 1073741824) (k : Nat) (hk : l.length + l.length < k) : thicketlaw27_ordered k l = some (ordB l) := by
  have h := pairs_l0 l hl l.length 0 k (by omega) hk
  rw [thicketlaw27_ordered]
  rw [show ((0 : Nat) : Int) = 0 from rfl] at h
  rw [h, List.drop_zero]
  cases ordB l <;> rfl

theorem events_l0 (l2 l4 : List trace_Event) (ts : List Int) : ∀ (n i k : Nat) (m : List trace_Event), i + n = 30 → m.length = i → n < k →
    ∃ r, thicketlaw27_FairOrders_l0 l2 ts l4 k m (i : Int) = some r ∧ r.length ≤ 30
  | 0, i, 0, m, _, _, hk => by omega
  | 0, i, k + 1, m, hi, hm, _ => by
    have hd : decide ((i : Int) < 30) = false := by simp; omega
    refine ⟨m, ?_, by omega⟩
    rw [thicketlaw27_FairOrders_l0, hd]
    simp
  | n + 1, i, 0, m, _, _, hk => by omega
  | n + 1, i, k + 1, m, hi, hm, hk => by
    cases hd : decide ((i : Int) < (ts.length : Int))
    · refine ⟨m, ?_, by omega⟩
      rw [thicketlaw27_FairOrders_l0, hd]
      simp
    · have hlt : i < ts.length := by simp at hd; omega
      have h30 : decide ((i : Int) < 30) = true := by simp; omega
      have hw : w64 ((i : Int) + 1) = ((i + 1 : Nat) : Int) := by rw [fw64 (by omega) (by omega)]; rfl
      rw [thicketlaw27_FairOrders_l0, hd, h30, hw]
      simp only [Bool.and_true, cond_true, idxN ts i hlt, Option.bind_some]
      have h3 : ∀ (c : Bool) (a b : Int), (bif c then some a else some b) = some (bif c then a else b) := fun c a b => by cases c <;> rfl
      simp only [h3, Option.bind_some, mApp, List.length_singleton, hm]
      rw [if_pos (by omega)]
      simp only [Option.bind_some]
      exact events_l0 l2 l4 ts n (i + 1) k _ (by omega) (by simp [hm]) (by omega)

theorem known27 : thicketlaw27_known 2000 = some true := by kernel_rfl
theorem fairOrders_plain (l : List trace_Event) (times : List Int) : ∃ k, thicketlaw27_FairOrders k l times = some true := by
  refine ⟨2000, ?_⟩
  have hs : ∃ s, (bif decide ((l.length : Int) > 40) then (mCut l 0 40).bind fun l1 => some l1 else some l) = some s ∧ s.length ≤ 40 := by
    cases h : decide ((l.length : Int) > 40)
    · exact ⟨l, rfl, by simp at h; omega⟩
    · have h' : 40 < l.length := by simp at h; omega
      refine ⟨l.take 40, ?_, by simp; omega⟩
      have : mCut l 0 40 = some (l.take 40) := by
        simp only [mCut]
        rw [if_pos (by omega)]
        simp
      simp [this]
  obtain ⟨s, h1, h2⟩ := hs
  obtain ⟨r, h3, h4⟩ := events_l0 s l times 30 0 2000 [] rfl rfl (by omega)
  rw [thicketlaw27_FairOrders, h1]
  simp only [Option.bind_some]
  rw [show ((0 : Nat) : Int) = 0 from rfl] at h3
  rw [h3]
  simp only [Option.bind_some]
  rw [order_eq s (by omega) 2000 (by omega), pairs_eq s (by omega) 2000 (by omega)]
  simp only [Option.bind_some, beq_self_eq_true, cond_true]
  rw [order_eq r (by omega) 2000 (by omega), pairs_eq r (by omega) 2000 (by omega)]
  simp only [Option.bind_some, beq_self_eq_true, cond_true, known27]
end Go.Proofs.YtniljpojpnlmmaaGreat
