/-
  The plain law of (skew) binomial heaps: the law's own plain functions.
-/
import Derived.Test.YtmidmkinclmbdaaGreatP10
set_option linter.unusedVariables false
set_option linter.unusedSimpArgs false
set_option maxRecDepth 10000
namespace Go.Proofs.YtmidmkinclmbdaaGreat
open Go.Th

def ofI (x : It) : thicketlaw9_held := thicketlaw9_held.mk (x.i : Int) (api_Entry.mk x.k x.s)

/-! Within, Same, Limit -/
theorem within {n lo hi : Int} (h : lo ≤ hi) (h1 : -1000000 ≤ lo) (h2 : hi ≤ 1000000) : Do (thicketbook_Within n lo hi) fun r => lo ≤ r ∧ r ≤ hi := by
  unfold thicketbook_Within
  have e1 : w64 (hi - lo) = hi - lo := w64_id (by omega) (by omega)
  have e2 : w64 (hi - lo + 1) = hi - lo + 1 := w64_id (by omega) (by omega)
  rw [e1, e2]
  by_cases hc : (decide (n ≥ lo) && decide (n ≤ hi)) = true
  · rw [hc]
    simp only [Bool.and_eq_true, decide_eq_true_eq] at hc
    exact ⟨n, rfl, hc.1, hc.2⟩
  · rw [Bool.not_eq_true] at hc
    rw [hc]
    have hz : mNz (hi - lo + 1) = some () := by unfold mNz; rw [if_pos (by omega)]
    have b1 := Int.tmod_lt_of_pos n (b := hi - lo + 1) (by omega)
    have b2 := Int.lt_tmod_of_pos n (b := hi - lo + 1) (by omega)
    rw [hz]
    simp only [cond_false, Option.bind_some]
    by_cases ht : Int.tmod n (hi - lo + 1) < 0
    · have d : decide (Int.tmod n (hi - lo + 1) < 0) = true := by simpa using ht
      rw [d]
      simp only [cond_true, Option.bind_some]
      rw [w64_id (x := Int.tmod n (hi - lo + 1) + hi) (by omega) (by omega), w64_id (x := Int.tmod n (hi - lo + 1) + hi - lo) (by omega) (by omega), w64_id (x := Int.tmod n (hi - lo + 1) + hi - lo + 1) (by omega) (by omega), w64_id (by omega) (by omega)]
      exact ⟨_, rfl, by omega, by omega⟩
    · have d : decide (Int.tmod n (hi - lo + 1) < 0) = false := by simpa using ht
      rw [d]
      simp only [cond_false, Option.bind_some]
      rw [w64_id (by omega) (by omega)]
      exact ⟨_, rfl, by omega, by omega⟩
theorem same_l0 (l : List Int) (hl : l.length < 100000) : ∀ (post pre : List Int) (m : Nat), post.length < m → l = pre ++ post → thicketbook_Same_int_l0 l l m (pre.length : Int) = some (.inr ())
  | [], pre, m, hm, e => by
    obtain ⟨m, rfl⟩ : ∃ q, m = q + 1 := ⟨m - 1, by simp at hm; omega⟩
    rw [thicketbook_Same_int_l0, decide_eq_false (by rw [e]; simp)]
    rfl
  | x :: post, pre, m, hm, e => by
    obtain ⟨m, rfl⟩ : ∃ q, m = q + 1 := ⟨m - 1, by simp at hm; omega⟩
    simp only [List.length_cons] at hm
    have hlen : pre.length < 100000 := by have := congrArg List.length e; simp at this; omega
    have ei : mIdx l (pre.length : Int) = some x := by rw [e]; exact mIdx_mid ..
    rw [thicketbook_Same_int_l0, decide_eq_true (by rw [e]; simp; omega), ei]
    simp only [cond_true, Option.bind_some, bne_self_eq_false, cond_false]
    rw [w64_id (by omega) (by omega)]
    have := same_l0 l hl post (pre ++ [x]) m (by omega) (by rw [e]; simp)
    have e2 : ((pre ++ [x]).length : Int) = (pre.length : Int) + 1 := by simp
    rw [e2] at this
    exact this
theorem same_spec {k : Nat} (l : List Int) (hl : l.length < 100000) (hk : l.length < k) : thicketbook_Same_int k l l = some true := by
  unfold thicketbook_Same_int
  have := same_l0 l hl l [] k hk rfl
  rw [show ((l.length : Int) != (l.length : Int)) = false by simp, cond_false]
  have e : thicketbook_Same_int_l0 l l k 0 = some (.inr ()) := this
  rw [e]
  rfl
theorem bits_l0 : ∀ (d m : Nat) (x kk : Int), d < m → d ≤ 62 → x < 2 ^ d → 0 ≤ x → 0 ≤ kk → kk ≤ 100 - d → Do (thicketref1_Bits_l0 m x kk) fun r => kk ≤ r ∧ r ≤ 100 ∧ (0 < x → kk + 1 ≤ r)
  | 0, m, x, kk, hm, hd, hx, h0, hk, hk' => by
    obtain ⟨m, rfl⟩ : ∃ q, m = q + 1 := ⟨m - 1, by omega⟩
    rw [thicketref1_Bits_l0]
    have : x = 0 := by simp at hx; omega
    subst this
    refine Do.f rfl ?_
    exact ⟨_, rfl, Int.le_refl _, by omega, by omega⟩
  | d + 1, m, x, kk, hm, hd, hx, h0, hk, hk' => by
    obtain ⟨m, rfl⟩ : ∃ q, m = q + 1 := ⟨m - 1, by omega⟩
    rw [thicketref1_Bits_l0]
    refine Do.if (fun c => ?_) (fun c => ?_)
    · have hb : x < 9223372036854775808 := by
        have : (2 : Int) ^ (d + 1) ≤ 2 ^ 63 := by
          have := Nat.pow_le_pow_right (n := 2) (by decide) (show d + 1 ≤ 63 by omega)
          exact_mod_cast this
        omega
      have e : Int.tdiv x 2 = x / 2 := Int.tdiv_eq_ediv_of_nonneg h0
      rw [e, w64_id (by omega) (by omega), w64_id (by omega) (by omega)]
      have h2 : x / 2 < 2 ^ d := by
        rw [Int.pow_succ] at hx; omega
      refine (bits_l0 d m (x / 2) (kk + 1) (by omega) (by omega) h2 (by omega) (by omega) (by omega)).mono ?_
      rintro r ⟨h3, h4, _⟩
      exact ⟨by omega, h4, fun _ => h3⟩
    · have := of_decide_eq_false c
      exact ⟨_, rfl, Int.le_refl _, by omega, by omega⟩
theorem limit_l0 (d : Nat) : ∀ (m : Nat) (x kk : Int), kk = (d : Int) → d < m → d ≤ 200 → 0 ≤ x → x + 400 * (d : Int) ≤ 1000000 → Do (thicketref1_Limit_l0 400 m x kk) fun r => x + 400 * kk ≤ r := by
  induction d with
  | zero =>
    intro m x kk e hm hd h0 h1
    obtain ⟨m, rfl⟩ : ∃ q, m = q + 1 := ⟨m - 1, by omega⟩
    rw [thicketref1_Limit_l0]
    refine Do.f (decide_eq_false (by omega)) ?_
    exact ⟨_, rfl, by omega⟩
  | succ d ih =>
    intro m x kk e hm hd h0 h1
    obtain ⟨m, rfl⟩ : ∃ q, m = q + 1 := ⟨m - 1, by omega⟩
    rw [thicketref1_Limit_l0]
    refine Do.t (decide_eq_true (by omega)) ?_
    have ea : thicketref1_Add x 400 = some (x + 400) := by
      unfold thicketref1_Add
      rw [w64_id (x := 9223372036854775807 - x) (by omega) (by omega), w64_id (x := x + 400) (by omega) (by omega)]
      rw [show (decide (x > 0) && decide (400 > 9223372036854775807 - x)) = false by rw [Bool.and_eq_false_iff]; right; exact decide_eq_false (by omega)]
      rw [show decide (x < 0) = false from decide_eq_false (by omega)]
      simp only [Bool.false_and, cond_false]
    refine Do.seq ea ?_
    rw [w64_id (by omega) (by omega)]
    refine (ih m (x + 400) (kk - 1) (by omega) (by omega) (by omega) (by omega) (by omega)).mono ?_
    intro r h
    omega
theorem limit_spec {k : Nat} (n : Nat) (hn : n < 1000000) (hk : 1000 < k) : Do (thicketref1_Limit k 500 400 (n : Int)) fun r => 500 ≤ r ∧ (0 < n → 900 ≤ r) := by
  unfold thicketref1_Limit thicketref1_Bits
  have hp : (n : Int) < 2 ^ 40 := by
    have : (2 : Int) ^ 40 = 1099511627776 := by decide
    omega
  refine Do.assoc ((bits_l0 40 k n 0 (by omega) (by omega) hp (by omega) (by omega) (by omega)).bind ?_)
  rintro r ⟨h1, h2, h3⟩
  refine Do.seq rfl ?_
  refine (limit_l0 r.toNat k 500 r (by omega) (by omega) (by omega) (by omega) (by omega)).bind ?_
  intro s hs
  refine ⟨_, rfl, by omega, fun h => ?_⟩
  have := h3 (by omega)
  omega
theorem cost_spec {k : Nat} (w : thicketlaw9_world) (since kind : Int) (n : Nat) (hn : n < 1000000) (hk : 1000 < k) (h0 : 0 ≤ since) (h1 : since ≤ w.a_.m_.steps) (h2 : w.a_.m_.steps ≤ since + 500 ∨ (w.a_.m_.steps ≤ since + 900 ∧ 0 < n ∧ kind = 1)) (h3 : w.a_.m_.steps ≤ 9223372036854775807) :
    Do (thicketlaw9_world_cost k w since kind (n : Int)) fun r => ∃ sp mo, r = (true, thicketlaw9_world.mk w.a_ w.root0 w.root1 w.has0 w.has1 w.next sp mo) := by
  unfold thicketlaw9_world_cost arena_Arena_Meter meter_Meter_Steps
  simp only [Option.bind_some]
  rw [w64_id (by omega) (by omega)]
  by_cases hkd : kind = 1
  · refine Do.tb (by simp [hkd]) ?_
    refine Do.assoc ((limit_spec n hn hk).bind ?_)
    rintro s ⟨h4, h5⟩
    refine Do.seq rfl ?_
    refine ⟨_, rfl, _, _, Prod.ext (decide_eq_true ?_) rfl⟩
    rcases h2 with h2 | ⟨h2, h6, _⟩
    · omega
    · have := h5 h6; omega
  · refine Do.fb (by simp [hkd]) ?_
    refine Do.seq rfl ?_
    refine ⟨_, rfl, _, _, Prod.ext (decide_eq_true ?_) rfl⟩
    rcases h2 with h2 | ⟨h2, h6, h7⟩
    · omega
    · exact absurd h7 hkd

/-! least, without, cells -/
theorem before_spec (x y : It) : thicketlaw9_before (ofI x) (ofI y) = some (decide (x.lt y)) := by
  show ((bif (decide (x.k < y.k) || ((x.k == y.k) && decide (x.s < y.s))) then some true else (bif api_Entry.eq (api_Entry.mk x.k x.s) (api_Entry.mk y.k y.s) then some (decide ((x.i : Int) < (y.i : Int))) else some false)).bind fun s => some s) = _
  by_cases h : x.k < y.k ∨ (x.k = y.k ∧ x.s < y.s)
  · have h1 : (decide (x.k < y.k) || ((x.k == y.k) && decide (x.s < y.s))) = true := by simpa using h
    have h2 : x.lt y := by unfold It.lt; omega
    rw [h1, decide_eq_true h2]; rfl
  · have h1 : (decide (x.k < y.k) || ((x.k == y.k) && decide (x.s < y.s))) = false := by
      rw [Bool.eq_false_iff]; simpa using h
    rw [h1]
    simp only [cond_false]
    by_cases h3 : x.k = y.k ∧ x.s = y.s
    · have h4 : api_Entry.eq (api_Entry.mk x.k x.s) (api_Entry.mk y.k y.s) = true := by simp [api_Entry.eq, h3]
      rw [h4]
      simp only [cond_true, Option.bind_some]
      congr 1
      rw [decide_eq_decide]
      unfold It.lt; omega
    · have h4 : api_Entry.eq (api_Entry.mk x.k x.s) (api_Entry.mk y.k y.s) = false := by
        rw [Bool.eq_false_iff]; simpa [api_Entry.eq] using h3
      rw [h4]
      simp only [cond_false, Option.bind_some]
      have h5 : ¬ x.lt y := by unfold It.lt; omega
      rw [decide_eq_false h5]
theorem least_l0 (l : List It) (hl : l.length < 100000) : ∀ (post pre : List It) (j : Nat) (b : It) (m : Nat), post.length < m → l = pre ++ post → l[j]? = some b → (∀ y ∈ pre, ¬ y.lt b) →
    Do (thicketlaw9_least_l0 (l.map ofI) m (j : Int) (pre.length : Int)) fun r => ∃ (j : Nat) (x : It), r = (j : Int) ∧ l[j]? = some x ∧ ∀ y ∈ l, ¬ y.lt x
  | [], pre, j, b, m, hm, e, hj, hb => by
    obtain ⟨m, rfl⟩ : ∃ q, m = q + 1 := ⟨m - 1, by simp at hm; omega⟩
    rw [thicketlaw9_least_l0]
    refine Do.f (decide_eq_false (by rw [e]; simp)) ?_
    exact ⟨_, rfl, j, b, rfl, hj, by rw [e]; simpa using hb⟩
  | x :: post, pre, j, b, m, hm, e, hj, hb => by
    obtain ⟨m, rfl⟩ : ∃ q, m = q + 1 := ⟨m - 1, by simp at hm; omega⟩
    simp only [List.length_cons] at hm
    have hlen : pre.length < 100000 := by have := congrArg List.length e; simp at this; omega
    have ei : mIdx (l.map ofI) (pre.length : Int) = some (ofI x) := by
      rw [e, List.map_append, List.map_cons]
      have := mIdx_mid (pre.map ofI) (post.map ofI) (ofI x)
      rwa [List.length_map] at this
    have ej : mIdx (l.map ofI) (j : Int) = some (ofI b) := by rw [mIdx_nat, List.getElem?_map, hj]; rfl
    rw [thicketlaw9_least_l0]
    refine Do.t (decide_eq_true (by rw [e]; simp; omega)) ?_
    refine Do.assoc (Do.seq ei ?_)
    refine Do.assoc (Do.seq ej ?_)
    refine Do.assoc (Do.seq (before_spec x b) ?_)
    rw [w64_id (by omega) (by omega)]
    have e2 : ((pre ++ [x]).length : Int) = (pre.length : Int) + 1 := by simp
    by_cases h : x.lt b
    · refine Do.tb (decide_eq_true h) ?_
      refine Do.seq rfl ?_
      have := least_l0 l hl post (pre ++ [x]) pre.length x m (by omega) (by rw [e]; simp) (by rw [e]; simp) (by
        intro y hy
        rcases List.mem_append.1 hy with hy | hy
        · exact It.le_trans (It.lt_asymm h) (hb y hy)
        · simp at hy; subst hy; exact It.lt_irrefl _)
      rw [e2] at this
      exact this
    · refine Do.fb (decide_eq_false h) ?_
      refine Do.seq rfl ?_
      have := least_l0 l hl post (pre ++ [x]) j b m (by omega) (by rw [e]; simp) hj (by
        intro y hy
        rcases List.mem_append.1 hy with hy | hy
        · exact hb y hy
        · simp at hy; subst hy; exact h)
      rw [e2] at this
      exact this
theorem split_at {α : Type} {l : List α} {j : Nat} {x : α} (h : l[j]? = some x) : ∃ p q, l = p ++ x :: q ∧ j = p.length := by
  obtain ⟨h1, h2⟩ := List.getElem?_eq_some_iff.1 h
  refine ⟨l.take j, l.drop (j + 1), ?_, by simp; omega⟩
  rw [← h2]
  simp
theorem least_spec {k : Nat} (l : List It) (hne : l ≠ []) (hl : l.length < 100000) (hk : l.length < k) : Do (thicketlaw9_least k (l.map ofI)) fun r => ∃ p x q, l = p ++ x :: q ∧ r = (p.length : Int) ∧ ∀ y ∈ l, ¬ y.lt x := by
  unfold thicketlaw9_least
  cases l with
  | nil => exact absurd rfl hne
  | cons x l =>
    simp only [List.length_cons] at hk
    refine (least_l0 (x :: l) hl l [x] 0 x k (by omega) rfl rfl (by simp; exact It.lt_irrefl _)).bind ?_
    rintro _ ⟨j, y, rfl, h1, h2⟩
    obtain ⟨p, q, e, rfl⟩ := split_at h1
    exact ⟨_, rfl, p, y, q, e, rfl, h2⟩
theorem lwithout_spec (p q : List It) (x : It) (hl : (p ++ x :: q).length < 100000) : thicketlaw9_without ((p ++ x :: q).map ofI) (p.length : Int) = some ((p ++ q).map ofI) := by
  unfold thicketlaw9_without
  simp only [List.length_append, List.length_cons] at hl
  have e1 : mCut ((p ++ x :: q).map ofI) 0 (p.length : Int) = some (p.map ofI) := by
    unfold mCut
    rw [if_pos ⟨by omega, by omega, by simp; omega⟩]
    simp only [Int.toNat_natCast, Int.toNat_zero, List.drop_zero, List.map_append]
    rw [List.take_left' (by simp)]
  have e2 : mCut ((p ++ x :: q).map ofI) (w64 ((p.length : Int) + 1)) (((p ++ x :: q).map ofI).length : Int) = some (q.map ofI) := by
    have e3 : w64 ((p.length : Int) + 1) = ((p.length + 1 : Nat) : Int) := by rw [w64_id (by omega) (by omega)]; omega
    rw [e3, mCut_tail (by simp)]
    congr 1
    rw [show p ++ x :: q = (p ++ [x]) ++ q by simp, List.map_append, List.drop_left' (by simp)]
  rw [e1, e2]
  simp only [Option.bind_some]
  rw [mApp_ok (by simp; omega)]
  simp only [Option.bind_some, List.nil_append]
  rw [mApp_ok (by simp; omega)]
  simp
theorem cells_l1 (l3 : List It) (i : Nat) (x : It) (hx : l3[i]? = some x) : ∀ (A B : List Int) (m : Nat), A.length < m → A.length < 100000 → (∀ z ∈ B, (x.i : Int) < z) →
    Do (thicketlaw9_cells_l1 (i : Int) (A.reverse ++ B) (l3.map ofI) m (A.length : Int)) fun r => ∃ A' B', A.reverse ++ B = A' ++ B' ∧ r = (A'.length : Int) ∧ (∀ z ∈ B', (x.i : Int) < z) ∧ (∀ z A'', A' = A'' ++ [z] → z ≤ (x.i : Int))
  | [], B, m, hm, hl, hB => by
    obtain ⟨m, rfl⟩ : ∃ q, m = q + 1 := ⟨m - 1, by simp at hm; omega⟩
    rw [thicketlaw9_cells_l1]
    refine Do.fb (decide_eq_false (by simp)) ?_
    refine Do.seq rfl (Do.f rfl ?_)
    exact ⟨_, rfl, [], B, rfl, rfl, hB, fun z A'' e => by simp at e⟩
  | y :: A, B, m, hm, hl, hB => by
    obtain ⟨m, rfl⟩ : ∃ q, m = q + 1 := ⟨m - 1, by simp at hm; omega⟩
    simp only [List.length_cons] at hm hl
    have e0 : (y :: A).reverse ++ B = A.reverse ++ y :: B := by simp
    have ew : w64 ((((y :: A).length : Nat) : Int) - 1) = (A.length : Int) := by rw [w64_id] <;> simp <;> omega
    have ei : mIdx (A.reverse ++ y :: B) (A.length : Int) = some y := by
      have := mIdx_mid A.reverse B y
      simpa using this
    have ex : mIdx (l3.map ofI) (i : Int) = some (ofI x) := by rw [mIdx_nat, List.getElem?_map, hx]; rfl
    rw [e0, thicketlaw9_cells_l1, ew]
    refine Do.tb (decide_eq_true (by simp)) ?_
    refine Do.assoc (Do.seq ei ?_)
    refine Do.assoc (Do.seq ex ?_)
    refine Do.seq rfl ?_
    by_cases h : y > (x.i : Int)
    · refine Do.t (decide_eq_true h) ?_
      refine cells_l1 l3 i x hx A (y :: B) m (by omega) (by omega) ?_
      intro z hz
      rcases List.mem_cons.1 hz with rfl | hz
      · exact h
      · exact hB z hz
    · refine Do.f (decide_eq_false h) ?_
      refine ⟨_, rfl, A.reverse ++ [y], B, by simp, by simp, hB, fun z A'' e => ?_⟩
      have := List.append_inj' e rfl
      simp at this
      rw [← this.2]; omega
theorem cells_l0 (l : List It) (hl : l.length < 50000) : ∀ (post pre : List It) (o : List Int) (m : Nat), post.length + l.length + 10 < m → l = pre ++ post → Asc o → o.Perm (zl (pre.map It.i)) →
    Do (thicketlaw9_cells_l0 (l.map ofI) m o (pre.length : Int)) fun r => Asc r ∧ r.Perm (zl (l.map It.i))
  | [], pre, o, m, hm, e, ho, hp => by
    obtain ⟨m, rfl⟩ : ∃ q, m = q + 1 := ⟨m - 1, by simp at hm; omega⟩
    rw [thicketlaw9_cells_l0]
    refine Do.f (decide_eq_false (by rw [e]; simp)) ?_
    exact ⟨_, rfl, ho, by rw [e]; simpa using hp⟩
  | x :: post, pre, o, m, hm, e, ho, hp => by
    obtain ⟨m, rfl⟩ : ∃ q, m = q + 1 := ⟨m - 1, by simp at hm; omega⟩
    simp only [List.length_cons] at hm
    have hll := congrArg List.length e
    simp only [List.length_append, List.length_cons] at hll
    have hol : o.length = pre.length := by rw [hp.length_eq]; simp [zl]
    have hx : l[pre.length]? = some x := by rw [e]; simp
    have ex : mIdx (l.map ofI) (pre.length : Int) = some (ofI x) := by rw [mIdx_nat, List.getElem?_map, hx]; rfl
    rw [thicketlaw9_cells_l0]
    refine Do.t (decide_eq_true (by rw [e]; simp; omega)) ?_
    have h1 := cells_l1 l pre.length x hx o.reverse [] m (by simp; omega) (by simp; omega) (by simp)
    rw [List.reverse_reverse, List.append_nil, List.length_reverse] at h1
    refine h1.bind ?_
    rintro _ ⟨A, B, eo, rfl, hB, hA⟩
    rw [eo]
    have hal : A.length + B.length = o.length := by rw [eo]; simp
    have e1 : mCut (A ++ B) 0 (A.length : Int) = some A := by
      unfold mCut
      rw [if_pos ⟨by omega, by omega, by simp; omega⟩]
      simp
    have e2 : mCut (A ++ B) (A.length : Int) ((A ++ B).length : Int) = some B := by
      rw [mCut_tail (by simp)]; simp
    refine Do.seq e1 ?_
    refine Do.seq ex ?_
    refine Do.seq e2 ?_
    refine Do.seq (mApp_ok (by simp; omega)) ?_
    refine Do.seq (mApp_ok (by simp; omega)) ?_
    refine Do.seq (mApp_ok (by simp [ofI]; omega)) ?_
    rw [w64_id (by omega) (by omega)]
    have e3 : ((pre ++ [x]).length : Int) = (pre.length : Int) + 1 := by simp
    have ho' : Asc (A ++ B) := eo ▸ ho
    have hAle : ∀ z ∈ A, z ≤ (x.i : Int) := by
      intro z hz
      rcases List.eq_nil_or_concat A with rfl | ⟨A', y, rfl⟩
      · simp at hz
      · rw [List.concat_eq_append] at *
        have hy := hA y A' rfl
        have h2 := (List.pairwise_append.1 (List.pairwise_append.1 ho').1).2.2
        rcases List.mem_append.1 hz with hz | hz
        · exact Int.le_trans (h2 z hz y (by simp)) hy
        · simp at hz; subst hz; exact hy
    have hasc : Asc ((([] ++ A) ++ [(ofI x).cell]) ++ B) := by
      obtain ⟨h3, h4, h5⟩ := List.pairwise_append.1 ho'
      simp only [List.nil_append, ofI]
      refine List.pairwise_append.2 ⟨List.pairwise_append.2 ⟨h3, by simp, fun z hz u hu => by simp at hu; subst hu; exact hAle z hz⟩, h4, fun z hz u hu => ?_⟩
      rcases List.mem_append.1 hz with hz | hz
      · exact h5 z hz u hu
      · simp at hz; subst hz; have := hB u hu; omega
    have hperm : ((([] ++ A) ++ [(ofI x).cell]) ++ B).Perm (zl ((pre ++ [x]).map It.i)) := by
      have h6 : ((([] ++ A) ++ [(ofI x).cell]) ++ B).Perm ((A ++ B) ++ [(x.i : Int)]) := by
        refine List.perm_iff_count.2 fun P => ?_
        simp only [List.count_append, List.nil_append, ofI]; omega
      refine h6.trans ?_
      rw [List.map_append, zl_append]
      exact (eo ▸ hp).append_right _
    have := cells_l0 l hl post (pre ++ [x]) _ m (by omega) (by rw [e]; simp) hasc hperm
    rw [e3] at this
    exact this
theorem cells_spec {k : Nat} (l : List It) (hl : l.length < 50000) (hk : 2 * l.length + 20 < k) : thicketlaw9_cells k (l.map ofI) = some (iSort (zl (l.map It.i))) := by
  unfold thicketlaw9_cells
  obtain ⟨r, e, h1, h2⟩ := cells_l0 l hl l [] [] k (by omega) rfl (by simp [Asc]) (.refl _)
  have e' : thicketlaw9_cells_l0 (l.map ofI) k ([] : List Int) 0 = some r := e
  rw [e']
  simp only [Option.bind_some]
  rw [asc_eq h1 (iSort_asc _) (h2.trans (iSort_perm _).symm)]
end Go.Proofs.YtmidmkinclmbdaaGreat
