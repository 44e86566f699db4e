/-
  The plain law of (skew) binomial heaps: Sorts, Falls.
-/
import Derived.Test.YtmidmkinclmbdaaGreatZ15
set_option linter.unusedVariables false
set_option linter.unusedSimpArgs false
set_option maxRecDepth 10000
namespace Go.Proofs.YtmidmkinclmbdaaGreat
open Go.Th

theorem gmin_ok {k C : Nat} {w : thicketlaw11_world} {l m : List It} (G : Good C w l m) (hl : l.length < 1000) (hk : 300000 < k) :
    Do (skew_Min k w.a_ w.root0) fun r => Good C (WA w r.2) l m ∧ ((l = [] ∧ r.1 = -1) ∨ ∃ x ∈ l, r.1 = (x.i : Int) ∧ ∀ y ∈ l, ¬ y.lt x) := by
  obtain ⟨f, g, it, W⟩ := G
  have hmin := min_spec (k := k) W.hp W.hf (by omega)
  rw [← W.e0] at hmin
  refine hmin.mono ?_
  rintro r ⟨a1, H1, hr⟩
  have hra : r.2 = a1 := by
    rcases hr with ⟨_, rfl⟩ | ⟨c, _, rfl, _⟩ <;> rfl
  refine ⟨⟨f, g, it, by rw [hra]; exact W.arena rfl H1⟩, ?_⟩
  rcases hr with ⟨hfn, rfl⟩ | ⟨c, hc, rfl, hm⟩
  · left
    have hfs := W.fs
    rw [hfn] at hfs
    exact ⟨List.eq_nil_of_length_eq_zero hfs.symm, rfl⟩
  · right
    refine ⟨it c, W.p0.mem_iff.2 (List.mem_map_of_mem hc), rfl, fun y hy => ?_⟩
    obtain ⟨d, hd, ed⟩ := W.cell hy
    rw [← ed]; exact hm d hd
theorem gentry_ok {C : Nat} {w : thicketlaw11_world} {l m : List It} (G : Good C w l m) {x : It} (hx : x ∈ l) :
    Do (item_Entry w.a_ (x.i : Int)) fun r => r.1 = api_Entry.mk x.k x.s ∧ Good C (WA w r.2) l m := by
  obtain ⟨f, g, it, W⟩ := G
  obtain ⟨c, hc, e⟩ := W.cell hx
  obtain ⟨ν, hν, rfl⟩ := cell_node (up := -1) hc
  have h := entry_spec W.hp (x := it ν.c) (W.hp.item (List.mem_append_left _ hν))
  rw [e] at h
  refine h.mono ?_
  rintro _ ⟨a1, rfl, H1⟩
  exact ⟨rfl, f, g, it, W.arena rfl H1⟩
theorem gpush_ok {k C : Nat} {w : thicketlaw11_world} {l m : List It} (G : Good C w l m) (key : Int) (hl : l.length < 1000) (hn : w.next < 1000000) (hr : 2 * (l.length + m.length) + 2 ≤ C) (hk : 300000 < k) :
    Do (thicketlaw11_world_push k w 0 key) fun r => r.1 = true ∧ (∃ i, Good C r.2 (l ++ [⟨i, key, w.next⟩]) m) ∧ r.2.next = w.next + 1 := by
  obtain ⟨f, g, it, W⟩ := G
  show Do (thicketlaw11_world_push_at0 k w key) _
  refine (push_ok0 (k := k) W key hl hn hr hk).mono ?_
  rintro r ⟨h1, ⟨f', it', i, W'⟩, h2⟩
  exact ⟨h1, ⟨i, f', g, it', W'⟩, h2⟩
theorem gpop_ok {k C : Nat} {w : thicketlaw11_world} {l m : List It} (G : Good C w l m) (hne : l ≠ []) (hl : l.length < 1000) (hk : 300000 < k) :
    Do (thicketlaw11_world_pop k w 0) fun r => r.1 = true ∧ r.2.next = w.next ∧ ∃ p x q, l = p ++ x :: q ∧ (∀ y ∈ l, ¬ y.lt x) ∧ Good C r.2 (p ++ q) m := by
  obtain ⟨f, g, it, W⟩ := G
  show Do (thicketlaw11_world_pop_at0 k w) _
  refine (pop_ok0 (k := k) W hl hk).mono ?_
  rintro r ⟨h1, h2, ⟨h3, _⟩ | ⟨p, x, q, f', it', h3, h4, W'⟩⟩
  · exact absurd h3 hne
  · exact ⟨h1, h2, p, x, q, h3, h4, f', g, it', W'⟩
theorem gfall_ok {k C : Nat} {w : thicketlaw11_world} {l m : List It} (G : Good C w l m) (hne : l ≠ []) (at_ key : Int) (hl : l.length < 1000) (hk : 300000 < k) :
    Do (thicketlaw11_world_fall k w 0 at_ key) fun r => r.1 = true ∧ r.2.next = w.next ∧ ∃ p x q, l = p ++ x :: q ∧ thicketbook_Within at_ 0 (w64 ((l.length : Int) - 1)) = some (p.length : Int) ∧ Good C r.2 (p ++ q ++ [⟨x.i, if key < x.k then key else x.k, x.s⟩]) m := by
  obtain ⟨f, g, it, W⟩ := G
  show Do (thicketlaw11_world_fall_at0 k w at_ key) _
  refine (fall_ok0 (k := k) W at_ key hl hk).mono ?_
  rintro r ⟨h1, h2, ⟨h3, _⟩ | ⟨p, x, q, it', h3, h4, W'⟩⟩
  · exact absurd h3 hne
  · exact ⟨h1, h2, p, x, q, h3, h4, f, g, it', W'⟩
theorem gcut_ok {k C : Nat} {w : thicketlaw11_world} {l m : List It} (G : Good C w l m) (hne : l ≠ []) (at_ : Int) (hl : l.length < 1000) (hk : 300000 < k) :
    Do (thicketlaw11_world_cut k w 0 at_) fun r => r.1 = true ∧ r.2.next = w.next ∧ ∃ p x q, l = p ++ x :: q ∧ Good C r.2 (p ++ q) m := by
  obtain ⟨f, g, it, W⟩ := G
  show Do (thicketlaw11_world_cut_at0 k w at_) _
  refine (cut_ok0 (k := k) W at_ hl hk).mono ?_
  rintro r ⟨h1, h2, ⟨h3, _⟩ | ⟨p, x, q, f', it', h3, _, W'⟩⟩
  · exact absurd h3 hne
  · exact ⟨h1, h2, p, x, q, h3, f', g, it', W'⟩
theorem Good.has {C : Nat} {w : thicketlaw11_world} {l m : List It} (G : Good C w l m) : w.has0 = l.map ofI := by
  obtain ⟨f, g, it, W⟩ := G
  exact W.i0
theorem Good.ser {C : Nat} {w : thicketlaw11_world} {l m : List It} (G : Good C w l m) : (l.map It.s).Nodup ∧ ∀ x ∈ l, 0 ≤ x.s := by
  obtain ⟨f, g, it, W⟩ := G
  have := W.ser
  rw [List.map_append] at this
  exact ⟨(List.nodup_append.1 this).1, fun x hx => (W.sb x (List.mem_append_left _ hx)).1⟩
theorem Good.empty {C : Nat} {w : thicketlaw11_world} (G : Good C w [] []) : w.root0 = -1 ∧ arena_Arena_Len w.a_ = some 0 := by
  obtain ⟨f, g, it, W⟩ := G
  refine ⟨?_, empty_len W⟩
  have hfs := W.fs
  rw [W.e0]
  cases f with
  | nil => rfl
  | cons => simp [F.size] at hfs
theorem tmod_bd (x n : Int) (hn : 0 < n) : -n < Int.tmod x n ∧ Int.tmod x n < n := by
  have h1 := Int.tmod_lt_of_pos x (b := n) (by omega)
  have h2 := Int.lt_tmod_of_pos x (b := n) (by omega)
  omega

/-! Sorts -/
theorem sorts_l0 (falls keys : List Int) : ∀ (d i : Nat) (w : thicketlaw11_world) (l : List It) (k : Nat), i + d = 60 → Good 160 w l [] → l.length = i → w.next = i → (∀ x ∈ l, -1000 ≤ x.k) → 300000 + d < k →
    Do (thicketlaw11_SkewSorts_l0 falls keys k (i : Int) w) fun r => ∃ w' l', r = .inr w' ∧ Good 160 w' l' [] ∧ l'.length ≤ 60 ∧ (∀ x ∈ l', -1000 ≤ x.k) := by
  intro d
  induction d with
  | zero =>
    intro i w l k hi G hl hn hb hk
    obtain ⟨k, rfl⟩ : ∃ q, k = q + 1 := ⟨k - 1, by omega⟩
    rw [thicketlaw11_SkewSorts_l0]
    refine Do.f (by rw [Bool.and_eq_false_iff]; right; exact decide_eq_false (by omega)) ?_
    exact ⟨_, rfl, w, l, rfl, G, by omega, hb⟩
  | succ d ih =>
    intro i w l k hi G hl hn hb hk
    obtain ⟨k, rfl⟩ : ∃ q, k = q + 1 := ⟨k - 1, by omega⟩
    rw [thicketlaw11_SkewSorts_l0]
    by_cases hlt : i < keys.length
    · refine Do.t (by rw [Bool.and_eq_true]; exact ⟨decide_eq_true (by omega), decide_eq_true (by omega)⟩) ?_
      have ei : mIdx keys (i : Int) = some keys[i] := by rw [mIdx_nat, List.getElem?_eq_getElem hlt]
      generalize keys[i] = key at ei
      have hkb := tmod_bd key 50 (by omega)
      refine Do.seq ei ?_
      refine (gpush_ok (k := k) G (Int.tmod key 50) (by omega) (by omega) (by simp; omega) (by omega)).bind ?_
      rintro r ⟨h1, ⟨ii, G1⟩, h2⟩
      refine Do.f (by rw [h1]; rfl) ?_
      rw [w64_id (x := (i : Int) + 1) (by omega) (by omega)]
      have hb1 : ∀ x ∈ l ++ [(⟨ii, Int.tmod key 50, w.next⟩ : It)], -1000 ≤ x.k := by
        intro x hx
        rcases List.mem_append.1 hx with hx | hx
        · exact hb x hx
        · simp at hx; subst hx; simp only; omega
      refine Do.bind (P := fun s => s.1 = false ∧ s.2.next = r.2.next ∧ ∃ l', Good 160 s.2 l' [] ∧ l'.length = i + 1 ∧ ∀ x ∈ l', -1000 ≤ x.k) (Do.if (fun hc => ?_) (fun hc => ?_)) ?_
      · have hfl : i < falls.length := by have := of_decide_eq_true hc; omega
        have ef : mIdx falls (i : Int) = some falls[i] := by rw [mIdx_nat, List.getElem?_eq_getElem hfl]
        refine Do.seq ef (Do.seq ei ?_)
        have hkb2 := tmod_bd key 50 (by omega)
        rw [w64_id (x := Int.tmod key 50 - 20) (by omega) (by omega)]
        refine (gfall_ok (k := k) G1 (by simp) falls[i] (Int.tmod key 50 - 20) (by simp; omega) (by omega)).bind ?_
        rintro r2 ⟨h3, h4, p, x, q, e, _, G2⟩
        have hlen : p.length + q.length + 1 = l.length + 1 := by
          have := congrArg List.length e
          simp at this; omega
        refine ⟨_, rfl, by simp only; rw [h3]; rfl, h4, _, G2, by simp; omega, ?_⟩
        intro y hy
        simp only [List.mem_append, List.mem_singleton, List.not_mem_nil] at hy
        rcases hy with (hy | hy) | rfl
        · exact hb1 y (by rw [e]; simp [hy])
        · exact hb1 y (by rw [e]; simp [hy])
        · have := hb1 x (by rw [e]; simp)
          simp only; split <;> omega
      · exact ⟨_, rfl, rfl, rfl, _, G1, by simp; omega, hb1⟩
      · rintro s ⟨h3, h4, l', G2, h5, h6⟩
        refine Do.f h3 ?_
        exact ih (i + 1) s.2 l' k (by omega) G2 h5 (by rw [h4, h2]; omega) h6 (by omega)
    · refine Do.f (by rw [Bool.and_eq_false_iff]; left; exact decide_eq_false (by omega)) ?_
      exact ⟨_, rfl, w, l, rfl, G, by omega, hb⟩
/-- strictly ahead by key and serial -/
def Ahead (v v1 : Int) (x : It) : Prop := v < x.k ∨ (v = x.k ∧ v1 < x.s)
theorem refbefore {v v1 : Int} {x : It} (h : Ahead v v1 x) : thicketref1_Before (api_Entry.mk v v1) (api_Entry.mk x.k x.s) = some true := by
  unfold thicketref1_Before
  congr 1
  rw [Bool.or_eq_true, Bool.and_eq_true]
  rcases h with h | ⟨h, h'⟩
  · exact Or.inl (decide_eq_true h)
  · exact Or.inr ⟨by simpa using h, decide_eq_true h'⟩
theorem ahead_rest {l p q : List It} {x : It} (hs : (l.map It.s).Nodup) (e : l = p ++ x :: q) (hx : ∀ y ∈ l, ¬ y.lt x) : ∀ y ∈ p ++ q, Ahead x.k x.s y := by
  intro y hy
  have hyl : y ∈ l := by rw [e]; rcases List.mem_append.1 hy with h | h <;> simp [h]
  have h1 := hx y hyl
  have hne : y.s ≠ x.s := by
    have hp : (l.map It.s).Perm (x.s :: (p ++ q).map It.s) := by
      rw [e]
      exact (List.perm_middle.map It.s)
    have := (List.nodup_cons.1 (hp.nodup_iff.1 hs)).1
    exact fun e' => this (e' ▸ List.mem_map_of_mem hy)
  unfold It.lt at h1
  unfold Ahead
  omega
theorem sorts_l1 (n : Nat) (l2 : List Int) (hn : n ≤ 60) : ∀ (d i : Nat) (w : thicketlaw11_world) (l : List It) (v v1 : Int) (k : Nat), i + d = n → l.length = d → Good 160 w l [] → (∀ x ∈ l, Ahead v v1 x) → 300000 + d < k →
    Do (thicketlaw11_SkewSorts_l1 (n : Int) l2 k (i : Int) w v v1) fun r => ∃ w', r = .inr w' ∧ Good 160 w' [] [] := by
  intro d
  induction d with
  | zero =>
    intro i w l v v1 k hi hl G ha hk
    obtain ⟨k, rfl⟩ : ∃ q, k = q + 1 := ⟨k - 1, by omega⟩
    rw [thicketlaw11_SkewSorts_l1]
    refine Do.f (decide_eq_false (by omega)) ?_
    have := List.eq_nil_of_length_eq_zero hl
    subst this
    exact ⟨_, rfl, w, rfl, G⟩
  | succ d ih =>
    intro i w l v v1 k hi hl G ha hk
    obtain ⟨k, rfl⟩ : ∃ q, k = q + 1 := ⟨k - 1, by omega⟩
    have hne : l ≠ [] := fun e => by subst e; simp at hl
    rw [thicketlaw11_SkewSorts_l1]
    refine Do.t (decide_eq_true (by omega)) ?_
    refine (gmin_ok (k := k) G (by omega) (by omega)).bind ?_
    rintro r ⟨G1, ⟨h, _⟩ | ⟨x, hx, h1, hmin⟩⟩
    · exact absurd h hne
    rw [h1]
    refine (gentry_ok G1 hx).bind ?_
    rintro r2 ⟨h2, G2⟩
    rw [h2]
    refine Do.assoc (Do.seq (refbefore (ha x hx)) ?_)
    refine Do.fb rfl ?_
    refine Do.assoc ((gpop_ok (k := k) (w := WA w r2.2) G2 hne (by omega) (by omega)).bind ?_)
    rintro r3 ⟨h3, _, p, x', q, e, hx', G3⟩
    refine Do.fb (by rw [h3]; rfl) ?_
    have hlen : p.length + q.length + 1 = d + 1 := by
      have := congrArg List.length e
      simp at this; omega
    have hxx : x' = x := by
      have hx'l : x' ∈ l := by rw [e]; simp
      exact It.lt_total (hmin x' hx'l) (hx' x hx)
    subst hxx
    have hhas : (r3.2.has0.length : Int) = (d : Int) := by rw [G3.has, List.length_map, List.length_append]; omega
    refine Do.seq rfl (Do.f (by
      simp only
      rw [hhas, w64_id (x := (n : Int) - 1) (by omega) (by omega), w64_id (by omega) (by omega)]
      simp; omega) ?_)
    rw [w64_id (by omega) (by omega)]
    exact ih (i + 1) r3.2 (p ++ q) x'.k x'.s k (by omega) (by simp; omega) G3 (ahead_rest G.ser.1 e hx') (by omega)
theorem sorts_plain (keys falls : List Int) : ∃ k, thicketlaw11_SkewSorts k keys falls = some true := by
  refine ⟨400000, ?_⟩
  have : Do (thicketlaw11_SkewSorts 400000 keys falls) fun r => r = true := by
    unfold thicketlaw11_SkewSorts
    refine (fresh_ok (C := 160) (by omega)).bind ?_
    rintro w ⟨G, h0⟩
    refine (sorts_l0 falls keys 60 0 w [] 400000 rfl G rfl h0 (by simp) (by omega)).bind ?_
    rintro _ ⟨w1, l1, rfl, G1, h1, h2⟩
    have hh : (w1.has0.length : Int) = (l1.length : Int) := by rw [G1.has, List.length_map]
    show Do ((thicketlaw11_SkewSorts_l1 (w1.has0.length : Int) keys 400000 0 w1 (-9223372036854775808) (-1)).bind _) _
    rw [hh]
    refine (sorts_l1 l1.length keys h1 l1.length 0 w1 l1 (-9223372036854775808) (-1) 400000 (by omega) rfl G1 (fun x hx => Or.inl (by have := h2 x hx; omega)) (by omega)).bind ?_
    rintro _ ⟨w2, rfl, G2⟩
    obtain ⟨h3, h4⟩ := G2.empty
    refine Do.tb (by rw [h3]; rfl) ?_
    refine Do.assoc (Do.seq h4 (Do.tb rfl ?_))
    rw [known_true]
    exact ⟨_, rfl, rfl⟩
  obtain ⟨r, e, rfl⟩ := this
  exact e

/-! Falls -/
theorem falls_l0 (a b keys : List Int) : ∀ (d i : Nat) (w : thicketlaw11_world) (l : List It) (k : Nat), i + d = 50 → Good 160 w l [] → l.length = i → w.next = i → (∀ x ∈ l, -1000 < x.k) → 300000 + d < k →
    Do (thicketlaw11_SkewFalls_l0 a b keys k (i : Int) w) fun r => ∃ w' l', r = .inr w' ∧ Good 160 w' l' [] ∧ l'.length ≤ 50 ∧ (∀ x ∈ l', -1000 < x.k) := by
  intro d
  induction d with
  | zero =>
    intro i w l k hi G hl hn hb hk
    obtain ⟨k, rfl⟩ : ∃ q, k = q + 1 := ⟨k - 1, by omega⟩
    rw [thicketlaw11_SkewFalls_l0]
    refine Do.f (by rw [Bool.and_eq_false_iff]; right; exact decide_eq_false (by omega)) ?_
    exact ⟨_, rfl, w, l, rfl, G, by omega, hb⟩
  | succ d ih =>
    intro i w l k hi G hl hn hb hk
    obtain ⟨k, rfl⟩ : ∃ q, k = q + 1 := ⟨k - 1, by omega⟩
    rw [thicketlaw11_SkewFalls_l0]
    by_cases hlt : i < keys.length
    · refine Do.t (by rw [Bool.and_eq_true]; exact ⟨decide_eq_true (by omega), decide_eq_true (by omega)⟩) ?_
      have ei : mIdx keys (i : Int) = some keys[i] := by rw [mIdx_nat, List.getElem?_eq_getElem hlt]
      generalize keys[i] = key at ei
      have hkb := tmod_bd key 100 (by omega)
      refine Do.seq ei ?_
      refine (gpush_ok (k := k) G (Int.tmod key 100) (by omega) (by omega) (by simp; omega) (by omega)).bind ?_
      rintro r ⟨h1, ⟨ii, G1⟩, h2⟩
      refine Do.f (by rw [h1]; rfl) ?_
      rw [w64_id (x := (i : Int) + 1) (by omega) (by omega)]
      refine ih (i + 1) r.2 _ k (by omega) G1 (by simp; omega) (by rw [h2]; omega) ?_ (by omega)
      intro x hx
      rcases List.mem_append.1 hx with hx | hx
      · exact hb x hx
      · simp at hx; subst hx; simp only; omega
    · refine Do.f (by rw [Bool.and_eq_false_iff]; left; exact decide_eq_false (by omega)) ?_
      exact ⟨_, rfl, w, l, rfl, G, by omega, hb⟩
theorem falls_l1 (who cut l5 : List Int) : ∀ (d i : Nat) (w : thicketlaw11_world) (l : List It) (low : Int) (k : Nat), i + d = 20 → low = -1000 - (i : Int) → l.length ≤ 50 → Good 160 w l [] → (∀ x ∈ l, low ≤ x.k) → 300000 + d < k →
    Do (thicketlaw11_SkewFalls_l1 who cut l5 k low (i : Int) w) fun r => ∃ w' l', r = .inr w' ∧ Good 160 w' l' [] ∧ l'.length ≤ 50 := by
  intro d
  induction d with
  | zero =>
    intro i w l low k hi hlow hl G hb hk
    obtain ⟨k, rfl⟩ : ∃ q, k = q + 1 := ⟨k - 1, by omega⟩
    rw [thicketlaw11_SkewFalls_l1]
    refine Do.bind (P := fun b => b = false) ?_ (by
      rintro _ rfl
      exact Do.f rfl ⟨_, rfl, w, l, rfl, G, hl⟩)
    refine Do.if (fun _ => ?_) (fun _ => ⟨_, rfl, rfl⟩)
    exact Do.f (decide_eq_false (by omega)) ⟨_, rfl, rfl⟩
  | succ d ih =>
    intro i w l low k hi hlow hl G hb hk
    obtain ⟨k, rfl⟩ : ∃ q, k = q + 1 := ⟨k - 1, by omega⟩
    have hhas : (w.has0.length : Int) = (l.length : Int) := by rw [G.has, List.length_map]
    rw [thicketlaw11_SkewFalls_l1]
    refine Do.bind (P := fun b => b = true → (i < who.length ∧ l ≠ [])) ?_ ?_
    · refine Do.if (fun h1 => ?_) (fun _ => ⟨_, rfl, fun h => by cases h⟩)
      refine Do.if (fun _ => ?_) (fun _ => ⟨_, rfl, fun h => by cases h⟩)
      refine ⟨_, rfl, fun h => ⟨by have := of_decide_eq_true h1; omega, fun e => ?_⟩⟩
      rw [hhas, e] at h
      simp at h
    · rintro b hbb
      refine Do.if (fun h => ?_) (fun _ => ⟨_, rfl, w, l, rfl, G, hl⟩)
      obtain ⟨hwho, hne⟩ := hbb h
      have ew : mIdx who (i : Int) = some who[i] := by rw [mIdx_nat, List.getElem?_eq_getElem hwho]
      generalize who[i] = wi at ew
      have hlp : 0 < l.length := List.length_pos_iff.2 hne
      -- one round
      refine Do.bind (P := fun s5 => ∃ w' l', s5 = .inr (low - 1, w') ∧ Good 160 w' l' [] ∧ l'.length ≤ 50 ∧ ∀ x ∈ l', low - 1 ≤ x.k) ?_ ?_
      · refine Do.seq ew ?_
        rw [hhas]
        obtain ⟨j, ej, hj0, hj1⟩ := within (n := wi) (lo := 0) (hi := w64 ((l.length : Int) - 1)) (by rw [w64_id (by omega) (by omega)]; omega) (by omega) (by rw [w64_id (by omega) (by omega)]; omega)
        have hfall := gfall_ok (k := k) G hne wi (w64 (low - 1)) (by omega) (by omega)
        obtain ⟨r, er, h1, h2, p, x, q, e, hw, G1⟩ := hfall
        rw [hw]
        have eidx : mIdx w.has0 (p.length : Int) = some (ofI x) := by
          rw [G.has, e, List.map_append, List.map_cons]
          have := mIdx_mid (p.map ofI) (q.map ofI) (ofI x)
          rwa [List.length_map] at this
        refine Do.seq rfl (Do.seq eidx ?_)
        refine Do.assoc (Do.seq ew ?_)
        refine Do.assoc (Do.seq er ?_)
        refine Do.fb (by rw [h1]; rfl) ?_
        have elow : w64 (low - 1) = low - 1 := w64_id (by omega) (by omega)
        rw [elow] at G1
        have hxl : x ∈ l := by rw [e]; simp
        have hxk := hb x hxl
        rw [if_pos (by omega)] at G1
        have hlen : p.length + q.length + 1 = l.length := by rw [e]; simp; omega
        refine Do.assoc ((gmin_ok (k := k) G1 (by simp; omega) (by omega)).bind ?_)
        rintro r2 ⟨G2, ⟨h3, _⟩ | ⟨y, hy, h3, hmin⟩⟩
        · simp at h3
        have hyx : y = ⟨x.i, low - 1, x.s⟩ := by
          simp only [List.mem_append, List.mem_singleton, List.not_mem_nil] at hy
          have hlast := hmin ⟨x.i, low - 1, x.s⟩ (by simp)
          rcases hy with (hy | hy) | hy
          · have h4 := hb y (by rw [e]; simp [hy])
            exact absurd (show It.lt ⟨x.i, low - 1, x.s⟩ y from Or.inl (by simp only; omega)) hlast
          · have h4 := hb y (by rw [e]; simp [hy])
            exact absurd (show It.lt ⟨x.i, low - 1, x.s⟩ y from Or.inl (by simp only; omega)) hlast
          · exact hy
        refine Do.seq rfl (Do.f (by simp only; rw [h3, hyx]; simp [ofI]) ?_)
        have hhas2 : (r.2.has0.length : Int) = (l.length : Int) := by rw [G1.has, List.length_map]; simp; omega
        have hb2 : ∀ z ∈ p ++ q ++ [(⟨x.i, low - 1, x.s⟩ : It)], low - 1 ≤ z.k := by
          intro z hz
          simp only [List.mem_append, List.mem_singleton, List.not_mem_nil] at hz
          rcases hz with (hz | hz) | rfl
          · have := hb z (by rw [e]; simp [hz]); omega
          · have := hb z (by rw [e]; simp [hz]); omega
          · simp only; omega
        -- a cut
        refine Do.bind (P := fun c => c = true → (i < cut.length ∧ 1 < l.length)) ?_ ?_
        · refine Do.if (fun h5 => ?_) (fun _ => ⟨_, rfl, fun h => by cases h⟩)
          refine ⟨_, rfl, fun h => ⟨by have := of_decide_eq_true h5; omega, ?_⟩⟩
          have h6 := of_decide_eq_true h
          have h7 : (r.2.has0.length : Int) > 1 := h6
          rw [hhas2] at h7; omega
        · rintro c hc
          refine Do.bind (P := fun s9 => ∃ w' l', s9 = .inr w' ∧ Good 160 w' l' [] ∧ l'.length ≤ 50 ∧ 0 < l'.length ∧ ∀ x ∈ l', low - 1 ≤ x.k) ?_ ?_
          · refine Do.if (fun h5 => ?_) (fun _ => ⟨_, rfl, _, p ++ q ++ [(⟨x.i, low - 1, x.s⟩ : It)], rfl, G2, by simp; omega, List.length_pos_iff.2 (by simp), hb2⟩)
            obtain ⟨hcut, hl2⟩ := hc h5
            have ec : mIdx cut (i : Int) = some cut[i] := by rw [mIdx_nat, List.getElem?_eq_getElem hcut]
            refine Do.seq ec ?_
            refine Do.bind (P := fun _ => True) (Do.mono (within (n := cut[i]) (lo := 0) (hi := w64 ((r.2.has0.length : Int) - 2)) (by rw [hhas2, w64_id (by omega) (by omega)]; omega) (by omega) (by rw [hhas2, w64_id (by omega) (by omega)]; omega)) fun _ _ => trivial) ?_
            rintro jj _
            refine Do.assoc ((gcut_ok (k := k) (w := WA r.2 r2.2) G2 (by simp) jj (by simp; omega) (by omega)).bind ?_)
            rintro r3 ⟨h6, _, p3, x3, q3, e3, G3⟩
            refine Do.fb (by rw [h6]; rfl) ?_
            have hl3 : p3.length + q3.length + 1 = l.length := by
              have := congrArg List.length e3
              simp at this; omega
            refine Do.assoc ((good_right (k := k) G3 (by simp; omega) (by simp) (by omega)).bind ?_)
            rintro r4 ⟨h7, _, G4⟩
            refine Do.seq rfl (Do.f (by simp only; rw [h7]; rfl) ?_)
            refine ⟨_, rfl, r4.2, p3 ++ q3, rfl, G4, by simp; omega, by simp; omega, fun z hz => hb2 z ?_⟩
            rw [e3]
            rcases List.mem_append.1 hz with h | h <;> simp [h]
          · rintro _ ⟨w3, l3, rfl, G3, hl3, hp3, hb3⟩
            refine Do.bind (P := fun s => s.1 = false ∧ ∃ l', Good 160 s.2 l' [] ∧ l'.length ≤ 50 ∧ ∀ x ∈ l', low - 1 ≤ x.k) ?_ ?_
            · refine Do.if (fun _ => ?_) (fun _ => ⟨_, rfl, rfl, l3, G3, hl3, hb3⟩)
              refine (gpop_ok (k := k) G3 (List.length_pos_iff.1 hp3) (by omega) (by omega)).bind ?_
              rintro r5 ⟨h8, _, p5, x5, q5, e5, _, G5⟩
              refine Do.f (by rw [h8]; rfl) ?_
              have hl5 : p5.length + q5.length + 1 = l3.length := by
                have := congrArg List.length e5
                simp at this; omega
              refine (good_right (k := k) G5 (by simp; omega) (by simp) (by omega)).bind ?_
              rintro r6 ⟨h9, _, G6⟩
              refine ⟨_, rfl, by simp only; rw [h9]; rfl, p5 ++ q5, G6, by simp; omega, fun z hz => hb3 z ?_⟩
              rw [e5]
              rcases List.mem_append.1 hz with h | h <;> simp [h]
            · rintro s ⟨h8, l', G6, h9, h10⟩
              refine Do.f h8 ?_
              rw [elow]
              exact ⟨_, rfl, s.2, l', rfl, G6, h9, h10⟩
      · rintro _ ⟨w', l', rfl, G', h1, h2⟩
        show Do (thicketlaw11_SkewFalls_l1 who cut l5 k (low - 1) (w64 ((i : Int) + 1)) w') _
        rw [w64_id (x := (i : Int) + 1) (by omega) (by omega)]
        exact ih (i + 1) w' l' (low - 1) k (by omega) (by omega) h1 G' h2 (by omega)
theorem falls_plain (keys who cut : List Int) : ∃ k, thicketlaw11_SkewFalls k keys who cut = some true := by
  refine ⟨400000, ?_⟩
  have : Do (thicketlaw11_SkewFalls 400000 keys who cut) fun r => r = true := by
    unfold thicketlaw11_SkewFalls
    refine (fresh_ok (C := 160) (by omega)).bind ?_
    rintro w ⟨G, h0⟩
    refine (falls_l0 who cut keys 50 0 w [] 400000 rfl G rfl h0 (by simp) (by omega)).bind ?_
    rintro _ ⟨w1, l1, rfl, G1, h1, h2⟩
    refine (falls_l1 who cut keys 20 0 w1 l1 (-1000) 400000 rfl (by omega) h1 G1 (fun x hx => by have := h2 x hx; omega) (by omega)).bind ?_
    rintro _ ⟨w2, l2, rfl, G2, h3⟩
    refine Do.assoc ((good_right (k := 400000) G2 (by omega) (by simp) (by omega)).bind ?_)
    rintro r ⟨h4, _, G3⟩
    refine Do.tb h4 ?_
    rw [known_true]
    exact ⟨_, rfl, rfl⟩
  obtain ⟨r, e, rfl⟩ := this
  exact e
end Go.Proofs.YtmidmkinclmbdaaGreat
