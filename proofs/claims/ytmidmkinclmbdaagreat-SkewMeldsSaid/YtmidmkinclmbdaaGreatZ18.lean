/-
  The plain law of (skew) binomial heaps: Melds.
-/
import Derived.Test.YtmidmkinclmbdaaGreatZ15
set_option linter.unusedVariables false
set_option linter.unusedSimpArgs false
set_option maxRecDepth 10000
namespace Go.Proofs.YtmidmkinclmbdaaGreat
open Go.Th

theorem melds_l1 (pops : List Bool) (rows : List (NRow Int)) (i : Nat) (row : NRow Int) (hrow : rows[i]? = some row) : ∀ (d j : Nat) (w : thicketlaw11_world) (l m : List It) (k : Nat), j + d = 8 → Good 300 w l m → m.length = j → l.length ≤ 88 → w.next ≤ 1000 + j → 300000 + d < k →
    Do (thicketlaw11_SkewMelds_l1 pops (i : Int) rows k (j : Int) w) fun r => ∃ w' m', r = .inr w' ∧ Good 300 w' l m' ∧ m'.length ≤ 8 ∧ w'.next ≤ w.next + d := by
  have hidx : mIdx rows (i : Int) = some row := by rw [mIdx_nat]; exact hrow
  intro d
  induction d with
  | zero =>
    intro j w l m k hj G hm hl hn hk
    obtain ⟨k, rfl⟩ : ∃ q, k = q + 1 := ⟨k - 1, by omega⟩
    rw [thicketlaw11_SkewMelds_l1]
    refine Do.assoc (Do.seq hidx ?_)
    refine Do.bind (P := fun b => b = false) ?_ (by
      rintro _ rfl
      exact Do.f rfl ⟨_, rfl, w, m, rfl, G, by omega, by omega⟩)
    refine Do.if (fun _ => ?_) (fun _ => ⟨_, rfl, rfl⟩)
    exact ⟨_, rfl, decide_eq_false (by omega)⟩
  | succ d ih =>
    intro j w l m k hj G hm hl hn hk
    obtain ⟨k, rfl⟩ : ∃ q, k = q + 1 := ⟨k - 1, by omega⟩
    rw [thicketlaw11_SkewMelds_l1]
    refine Do.assoc (Do.seq hidx ?_)
    by_cases hlt : j < row.l.length
    · refine Do.tb (decide_eq_true (by omega)) ?_
      refine Do.seq rfl (Do.t (decide_eq_true (by omega)) ?_)
      refine Do.seq hidx ?_
      have ej : mIdx row.l (j : Int) = some row.l[j] := by rw [mIdx_nat, List.getElem?_eq_getElem hlt]
      refine Do.seq ej ?_
      obtain ⟨f, g, it, W⟩ := G
      show Do ((thicketlaw11_world_push_at1 k w (Int.tmod row.l[j] 30)).bind _) _
      refine (push_ok1 (k := k) W.swap (Int.tmod row.l[j] 30) (by omega) (by omega) (by omega) (by omega)).bind ?_
      rintro r ⟨h1, ⟨f', it', ii, W'⟩, h2⟩
      refine Do.f (by rw [h1]; rfl) ?_
      rw [w64_id (by omega) (by omega)]
      refine (ih (j + 1) r.2 l (m ++ [⟨ii, Int.tmod row.l[j] 30, w.next⟩]) k (by omega) ⟨f, f', it', W'.swap⟩ (by simp [hm]) hl (by omega) (by omega)).mono ?_
      rintro _ ⟨w', m', rfl, G', h3, h4⟩
      exact ⟨w', m', rfl, G', h3, by omega⟩
    · refine Do.fb (decide_eq_false (by omega)) ?_
      refine Do.seq rfl (Do.f rfl ?_)
      exact ⟨_, rfl, w, m, rfl, G, by omega, by omega⟩
theorem melds_l0 (pops : List Bool) (rows : List (NRow Int)) : ∀ (d i : Nat) (w : thicketlaw11_world) (l : List It) (k : Nat), i + d = 12 → Good 300 w l [] → l.length ≤ 8 * i → w.next ≤ 8 * i → 301000 + d < k →
    Do (thicketlaw11_SkewMelds_l0 pops rows k (i : Int) w) fun r => ∃ w', r = .inr w' := by
  intro d
  induction d with
  | zero =>
    intro i w l k hi G hl hn hk
    obtain ⟨k, rfl⟩ : ∃ q, k = q + 1 := ⟨k - 1, by omega⟩
    rw [thicketlaw11_SkewMelds_l0]
    refine Do.f (by rw [Bool.and_eq_false_iff]; right; exact decide_eq_false (by omega)) ?_
    exact ⟨_, rfl, w, rfl⟩
  | succ d ih =>
    intro i w l k hi G hl hn hk
    obtain ⟨k, rfl⟩ : ∃ q, k = q + 1 := ⟨k - 1, by omega⟩
    rw [thicketlaw11_SkewMelds_l0]
    by_cases hlt : i < rows.length
    · refine Do.t (by rw [Bool.and_eq_true]; exact ⟨decide_eq_true (by omega), decide_eq_true (by omega)⟩) ?_
      refine (melds_l1 pops rows i rows[i] (List.getElem?_eq_getElem hlt) 8 0 w l [] k rfl G rfl (by omega) (by omega) (by omega)).bind ?_
      rintro _ ⟨w1, m1, rfl, G1, hm1, hn1⟩
      refine Do.bind (P := fun s => s.1 = false ∧ s.2.next ≤ w1.next ∧ ∃ l', Good 300 s.2 l' m1 ∧ l'.length ≤ l.length) ?_ ?_
      · have rt : ∀ {w2 : thicketlaw11_world} {l2 : List It}, Good 300 w2 l2 m1 → l2.length ≤ l.length → w2.next ≤ w1.next → Do ((thicketlaw11_world_right k w2).bind fun t => some (!t.1, t.2)) fun s => s.1 = false ∧ s.2.next ≤ w1.next ∧ ∃ l', Good 300 s.2 l' m1 ∧ l'.length ≤ l.length := by
          intro w2 l2 G2 h2 h3
          refine (good_right (k := k) G2 (by omega) (by omega) (by omega)).bind ?_
          rintro r ⟨h4, h5, G3⟩
          exact ⟨_, rfl, by simp only; rw [h4]; rfl, by simp only; omega, l2, G3, h2⟩
        refine Do.if (fun hc => ?_) (fun _ => rt G1 (Nat.le_refl _) (Int.le_refl _))
        have hpl : i < pops.length := by have := of_decide_eq_true hc; omega
        have ep : mIdx pops (i : Int) = some pops[i] := by rw [mIdx_nat, List.getElem?_eq_getElem hpl]
        refine Do.seq ep ?_
        refine Do.if (fun _ => ?_) (fun _ => rt G1 (Nat.le_refl _) (Int.le_refl _))
        obtain ⟨f, g, it, W⟩ := G1
        show Do ((thicketlaw11_world_pop_at0 k w1).bind _) _
        refine (pop_ok0 (k := k) W (by omega) (by omega)).bind ?_
        rintro r ⟨h1, h2, h⟩
        refine Do.f (by rw [h1]; rfl) ?_
        rcases h with ⟨_, W'⟩ | ⟨p, x, q, f', it', e, _, W'⟩
        · exact rt ⟨f, g, it, W'⟩ (Nat.le_refl _) (by omega)
        · exact rt ⟨f', g, it', W'⟩ (by rw [e]; simp) (by omega)
      · rintro s ⟨h1, h2, l2, G2, hl2⟩
        refine Do.f h1 ?_
        have hlm : l2.length ≤ 8 * i := by omega
        refine Do.bind (P := fun s' => s'.1 = false ∧ s'.2.next ≤ w1.next ∧ Good 300 s'.2 (l2 ++ m1) []) ?_ ?_
        · obtain ⟨f, g, it, W⟩ := G2
          have hh : w64 ((s.2.has0.length : Int) + (s.2.has1.length : Int)) = ((l2.length + m1.length : Nat) : Int) := by
            rw [W.i0, W.i1, List.length_map, List.length_map, w64_id (by omega) (by omega)]; omega
          show Do ((thicketlaw11_world_meld_at0 k s.2).bind _) _
          refine (meld_ok0 (k := k) W (by omega) (by omega) (by omega)).bind ?_
          rintro r ⟨h3, h4, f', W'⟩
          refine Do.f (by rw [h3]; rfl) ?_
          have hh2 : (r.2.has0.length : Int) = ((l2.length + m1.length : Nat) : Int) := by rw [W'.i0, List.length_map, List.length_append]
          refine Do.f (by rw [hh, hh2]; simp) ?_
          refine Do.f (by rw [W'.e1]; rfl) ?_
          refine (good_right (k := k) (l := l2 ++ m1) (m := []) ⟨f', .nil, it, W'⟩ (by simp; omega) (by simp) (by omega)).bind ?_
          rintro r2 ⟨h5, h6, G3⟩
          exact ⟨_, rfl, by simp only; rw [h5]; rfl, by simp only; omega, G3⟩
        · rintro s' ⟨h3, h4, G3⟩
          refine Do.f h3 ?_
          rw [w64_id (by omega) (by omega)]
          exact ih (i + 1) s'.2 (l2 ++ m1) k (by omega) G3 (by simp; omega) (by omega) (by omega)
    · refine Do.f (by rw [Bool.and_eq_false_iff]; left; exact decide_eq_false (by omega)) ?_
      exact ⟨_, rfl, w, rfl⟩
theorem melds_plain (rows : List (NRow Int)) (pops : List Bool) : ∃ k, thicketlaw11_SkewMelds k rows pops = some true := by
  refine ⟨400000, ?_⟩
  unfold thicketlaw11_SkewMelds
  obtain ⟨w, e, G, h0⟩ := fresh_ok (C := 300) (by omega)
  rw [show (300 : Int) = ((300 : Nat) : Int) from rfl, e]
  simp only [Option.bind_some]
  obtain ⟨r, e2, w', rfl⟩ := melds_l0 pops rows 12 0 w [] 400000 rfl G (by simp) (by omega) (by omega)
  have e3 : thicketlaw11_SkewMelds_l0 pops rows 400000 0 w = some (.inr w') := e2
  rw [e3]
  simp only [known_true, Option.bind_some]
end Go.Proofs.YtmidmkinclmbdaaGreat
