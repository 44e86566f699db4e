/-
  The plain law of (skew) binomial heaps: any calls; Plays, Full, Drops.
-/
import Derived.Test.YtmidmkinclmbdaaGreatZ14
set_option linter.unusedVariables false
set_option linter.unusedSimpArgs false
set_option maxRecDepth 10000
namespace Go.Proofs.YtmidmkinclmbdaaGreat
open Go.Th

/-- a world that is right, whatever its rows are -/
def Good (C : Nat) (w : thicketlaw11_world) (l m : List It) : Prop := ∃ f g it, Wd C w.a_ w.root0 w.root1 w.has0 w.has1 w.next f g it l m
theorem fresh_ok {C : Nat} (h : C ≤ 65536) : Do (thicketlaw11_fresh (C : Int)) fun w => Good C w [] [] ∧ w.next = 0 := by
  unfold thicketlaw11_fresh
  obtain ⟨a, e, H⟩ := arena_New_spec h
  refine Do.seq e ?_
  refine Do.seq rfl ?_
  refine ⟨_, rfl, ⟨.nil, .nil, fun _ => ⟨0, 0, 0⟩, ?_, HB.nil, HB.nil, rfl, rfl, rfl, rfl, .refl _, .refl _, by simp, by simp, Int.le_refl _⟩, rfl⟩
  exact Hp.rebase (κ := ⟨C, 0, 0, 0⟩) (n := 0) (N := []) (L := []) H
theorem do_ok {k C : Nat} {w : thicketlaw11_world} {l m : List It} (G : Good C w l m) (x : thicketlaw11_Ask) (hl : l.length + m.length < 240) (hn : w.next < 100000) (hk : 300000 < k) :
    Do (thicketlaw11_world_do k w x) fun r => r.1 = true ∧ ∃ l' m', Good C r.2 l' m' ∧ l'.length + m'.length ≤ l.length + m.length + 1 ∧ r.2.next ≤ w.next + 1 := by
  obtain ⟨f, g, it, W⟩ := G
  unfold thicketlaw11_world_do
  refine (within (by omega) (by omega) (by omega)).bind ?_
  rintro h ⟨h0, h1⟩
  have h01 : h = 0 ∨ h = 1 := by omega
  have key : Do ((bif (Int.tmod x.I 3) != 0 then some (Int.tmod x.Key 20) else some x.Key)) fun _ => True := by
    cases (Int.tmod x.I 3) != 0 <;> exact ⟨_, rfl, trivial⟩
  refine key.bind ?_
  intro s _
  -- the push at the end
  have pu : Do ((thicketlaw11_world_push k w h s).bind fun t_6 => some (t_6.1, t_6.2)) fun r => r.1 = true ∧ ∃ l' m', Good C r.2 l' m' ∧ l'.length + m'.length ≤ l.length + m.length + 1 ∧ r.2.next ≤ w.next + 1 := by
    refine Do.bind (P := fun r => r.1 = true ∧ ∃ l' m', Good C r.2 l' m' ∧ l'.length + m'.length ≤ l.length + m.length + 1 ∧ r.2.next ≤ w.next + 1) ?_ (fun r h => ⟨_, rfl, h⟩)
    rcases h01 with rfl | rfl
    · show Do (thicketlaw11_world_push_at0 k w s) _
      by_cases hr : 2 * (l.length + m.length) + 2 ≤ C
      · refine (push_ok0 (k := k) W s (by omega) (by omega) hr hk).mono ?_
        rintro r ⟨e1, ⟨f', it', i, W'⟩, e2⟩
        exact ⟨e1, l ++ [⟨i, s, w.next⟩], m, ⟨f', g, it', W'⟩, by simp; omega, by omega⟩
      · refine (push_no0 (k := k) W s (by omega) (by omega) hk).mono ?_
        rintro r ⟨e1, W', e2⟩
        exact ⟨e1, l, m, ⟨f, g, it, W'⟩, by omega, by omega⟩
    · show Do (thicketlaw11_world_push_at1 k w s) _
      by_cases hr : 2 * (m.length + l.length) + 2 ≤ C
      · refine (push_ok1 (k := k) W.swap s (by omega) (by omega) hr hk).mono ?_
        rintro r ⟨e1, ⟨f', it', i, W'⟩, e2⟩
        exact ⟨e1, l, m ++ [⟨i, s, w.next⟩], ⟨f, f', it', W'.swap⟩, by simp; omega, by omega⟩
      · refine (push_no1 (k := k) W.swap s (by omega) (by omega) hk).mono ?_
        rintro r ⟨e1, W', e2⟩
        exact ⟨e1, l, m, ⟨f, g, it, W'.swap⟩, by omega, by omega⟩
  have two : ∀ p q : Int, Do (bif x.Kind == p then some (x.Kind == p) else some (x.Kind == q)) fun _ => True := by
    intro p q
    cases x.Kind == p <;> exact ⟨_, rfl, trivial⟩
  refine Do.bind (P := fun s1 => (∃ r, s1 = .inl r ∧ r.1 = true ∧ ∃ l' m', Good C r.2 l' m' ∧ l'.length + m'.length ≤ l.length + m.length + 1 ∧ r.2.next ≤ w.next + 1) ∨ s1 = .inr ()) ?_ ?_
  · refine (two 5 6).bind fun b _ => ?_
    refine Do.if (fun _ => ?_) (fun _ => ?_)
    · refine Do.bind (P := fun r => r.1 = true ∧ ∃ l' m', Good C r.2 l' m' ∧ l'.length + m'.length ≤ l.length + m.length + 1 ∧ r.2.next ≤ w.next + 1) ?_ (fun r h => ⟨_, rfl, Or.inl ⟨_, rfl, h⟩⟩)
      rcases h01 with rfl | rfl
      · show Do (thicketlaw11_world_pop_at0 k w) _
        refine (pop_ok0 (k := k) W (by omega) hk).mono ?_
        rintro r ⟨e1, e2, h⟩
        rcases h with ⟨_, W'⟩ | ⟨p, x, q, f', it', e, _, W'⟩
        · exact ⟨e1, l, m, ⟨f, g, it, W'⟩, by omega, by omega⟩
        · exact ⟨e1, p ++ q, m, ⟨f', g, it', W'⟩, by rw [e]; simp; omega, by omega⟩
      · show Do (thicketlaw11_world_pop_at1 k w) _
        refine (pop_ok1 (k := k) W.swap (by omega) hk).mono ?_
        rintro r ⟨e1, e2, h⟩
        rcases h with ⟨_, W'⟩ | ⟨p, x, q, f', it', e, _, W'⟩
        · exact ⟨e1, l, m, ⟨f, g, it, W'.swap⟩, by omega, by omega⟩
        · exact ⟨e1, l, p ++ q, ⟨f, f', it', W'.swap⟩, by rw [e]; simp; omega, by omega⟩
    · refine (two 7 8).bind fun b _ => ?_
      refine Do.if (fun _ => ?_) (fun _ => ?_)
      · refine Do.bind (P := fun r => r.1 = true ∧ ∃ l' m', Good C r.2 l' m' ∧ l'.length + m'.length ≤ l.length + m.length + 1 ∧ r.2.next ≤ w.next + 1) ?_ (fun r h => ⟨_, rfl, Or.inl ⟨_, rfl, h⟩⟩)
        rcases h01 with rfl | rfl
        · show Do (thicketlaw11_world_fall_at0 k w x.I s) _
          refine (fall_ok0 (k := k) W x.I s (by omega) hk).mono ?_
          rintro r ⟨e1, e2, h⟩
          rcases h with ⟨_, W'⟩ | ⟨p, x, q, it', e, _, W'⟩
          · exact ⟨e1, l, m, ⟨f, g, it, W'⟩, by omega, by omega⟩
          · exact ⟨e1, _, m, ⟨f, g, it', W'⟩, by rw [e]; simp, by omega⟩
        · show Do (thicketlaw11_world_fall_at1 k w x.I s) _
          refine (fall_ok1 (k := k) W.swap x.I s (by omega) hk).mono ?_
          rintro r ⟨e1, e2, h⟩
          rcases h with ⟨_, W'⟩ | ⟨p, x, q, it', e, _, W'⟩
          · exact ⟨e1, l, m, ⟨f, g, it, W'.swap⟩, by omega, by omega⟩
          · exact ⟨e1, l, _, ⟨f, g, it', W'.swap⟩, by rw [e]; simp, by omega⟩
      · refine Do.if (fun _ => ?_) (fun _ => ?_)
        · refine Do.bind (P := fun r => r.1 = true ∧ ∃ l' m', Good C r.2 l' m' ∧ l'.length + m'.length ≤ l.length + m.length + 1 ∧ r.2.next ≤ w.next + 1) ?_ (fun r h => ⟨_, rfl, Or.inl ⟨_, rfl, h⟩⟩)
          rcases h01 with rfl | rfl
          · show Do (thicketlaw11_world_cut_at0 k w x.I) _
            refine (cut_ok0 (k := k) W x.I (by omega) hk).mono ?_
            rintro r ⟨e1, e2, h⟩
            rcases h with ⟨_, W'⟩ | ⟨p, x, q, f', it', e, _, W'⟩
            · exact ⟨e1, l, m, ⟨f, g, it, W'⟩, by omega, by omega⟩
            · exact ⟨e1, p ++ q, m, ⟨f', g, it', W'⟩, by rw [e]; simp; omega, by omega⟩
          · show Do (thicketlaw11_world_cut_at1 k w x.I) _
            refine (cut_ok1 (k := k) W.swap x.I (by omega) hk).mono ?_
            rintro r ⟨e1, e2, h⟩
            rcases h with ⟨_, W'⟩ | ⟨p, x, q, f', it', e, _, W'⟩
            · exact ⟨e1, l, m, ⟨f, g, it, W'.swap⟩, by omega, by omega⟩
            · exact ⟨e1, l, p ++ q, ⟨f, f', it', W'.swap⟩, by rw [e]; simp; omega, by omega⟩
        · refine Do.if (fun _ => ?_) (fun _ => ?_)
          · refine Do.bind (P := fun r => r.1 = true ∧ ∃ l' m', Good C r.2 l' m' ∧ l'.length + m'.length ≤ l.length + m.length + 1 ∧ r.2.next ≤ w.next + 1) ?_ (fun r h => ⟨_, rfl, Or.inl ⟨_, rfl, h⟩⟩)
            rcases h01 with rfl | rfl
            · show Do (thicketlaw11_world_meld_at0 k w) _
              refine (meld_ok0 (k := k) W (by omega) (by omega) hk).mono ?_
              rintro r ⟨e1, e2, f', W'⟩
              exact ⟨e1, _, _, ⟨f', .nil, it, W'⟩, by simp, by omega⟩
            · show Do (thicketlaw11_world_meld_at1 k w) _
              refine (meld_ok1 (k := k) W.swap (by omega) (by omega) hk).mono ?_
              rintro r ⟨e1, e2, f', W'⟩
              exact ⟨e1, _, _, ⟨.nil, f', it, W'.swap⟩, by simp; omega, by omega⟩
          · refine Do.if (fun _ => ?_) (fun _ => ?_)
            · refine Do.bind (P := fun r => r.1 = true ∧ ∃ l' m', Good C r.2 l' m' ∧ l'.length + m'.length ≤ l.length + m.length + 1 ∧ r.2.next ≤ w.next + 1) ?_ (fun r h => ⟨_, rfl, Or.inl ⟨_, rfl, h⟩⟩)
              refine Do.if (fun _ => ?_) (fun _ => ?_)
              · exact ⟨_, rfl, rfl, l, m, ⟨f, g, it, W⟩, by omega, by simp only; omega⟩
              · refine Do.bind (P := fun r => r.1 = true ∧ ∃ l' m', Good C r.2 l' m' ∧ l'.length + m'.length ≤ l.length + m.length + 1 ∧ r.2.next ≤ w.next + 1) ?_ (fun r h => ⟨_, rfl, h⟩)
                rcases h01 with rfl | rfl
                · show Do (thicketlaw11_world_drop_at0 k w) _
                  refine (drop_ok0 (k := k) W (by omega) hk).mono ?_
                  rintro r ⟨e1, e2, W'⟩
                  exact ⟨e1, _, m, ⟨.nil, g, it, W'⟩, by simp; omega, by omega⟩
                · show Do (thicketlaw11_world_drop_at1 k w) _
                  refine (drop_ok1 (k := k) W.swap (by omega) hk).mono ?_
                  rintro r ⟨e1, e2, W'⟩
                  exact ⟨e1, l, _, ⟨f, .nil, it, W'.swap⟩, by simp; omega, by omega⟩
            · exact ⟨_, rfl, Or.inr rfl⟩
  · rintro s1 (⟨r, rfl, h⟩ | rfl)
    · exact ⟨_, rfl, h⟩
    · exact pu
theorem good_right {k C : Nat} {w : thicketlaw11_world} {l m : List It} (G : Good C w l m) (hl : l.length < 1000) (hm : m.length < 1000) (hk : 300000 < k) :
    Do (thicketlaw11_world_right k w) fun r => r.1 = true ∧ r.2.next = w.next ∧ Good C r.2 l m := by
  obtain ⟨f, g, it, W⟩ := G
  refine (right_ok (k := k) W hl hm hk).mono ?_
  rintro r ⟨h1, h2, h3⟩
  exact ⟨h1, h2, f, g, it, h3⟩
theorem play_l0 {C : Nat} (ls : List thicketlaw11_Ask) : ∀ (d i : Nat) (w : thicketlaw11_world) (l m : List It) (k : Nat), i + d = 70 → Good C w l m → l.length + m.length ≤ i → w.next ≤ i → 300000 + d < k →
    Do (thicketlaw11_play_l0 70 ls k (i : Int) w) fun r => ∃ w', r = .inr w' := by
  intro d
  induction d with
  | zero =>
    intro i w l m k hi G hl hn hk
    obtain ⟨k, rfl⟩ : ∃ q, k = q + 1 := ⟨k - 1, by omega⟩
    rw [thicketlaw11_play_l0]
    refine Do.f (by rw [Bool.and_eq_false_iff]; right; exact decide_eq_false (by omega)) ?_
    exact ⟨_, rfl, w, rfl⟩
  | succ d ih =>
    intro i w l m k hi G hl hn hk
    obtain ⟨k, rfl⟩ : ∃ q, k = q + 1 := ⟨k - 1, by omega⟩
    rw [thicketlaw11_play_l0]
    by_cases hlt : i < ls.length
    · refine Do.t (by rw [Bool.and_eq_true]; exact ⟨decide_eq_true (by omega), decide_eq_true (by omega)⟩) ?_
      have ei : mIdx ls (i : Int) = some ls[i] := by rw [mIdx_nat, List.getElem?_eq_getElem hlt]
      refine Do.assoc (Do.seq ei ?_)
      refine Do.assoc ((do_ok (k := k) G ls[i] (by omega) (by omega) (by omega)).bind ?_)
      rintro r ⟨h1, l', m', G', h2, h3⟩
      refine Do.fb (by rw [h1]; rfl) ?_
      refine Do.assoc ((good_right (k := k) G' (by omega) (by omega) (by omega)).bind ?_)
      rintro r2 ⟨h4, h5, G2⟩
      refine Do.seq rfl (Do.f (by simp only; rw [h4]; rfl) ?_)
      rw [w64_id (by omega) (by omega)]
      exact ih (i + 1) r2.2 l' m' k (by omega) G2 (by omega) (by omega) (by omega)
    · refine Do.f (by rw [Bool.and_eq_false_iff]; left; exact decide_eq_false (by omega)) ?_
      exact ⟨_, rfl, w, rfl⟩
theorem play_ok {C k : Nat} (hC : C ≤ 65536) (ls : List thicketlaw11_Ask) (hk : 301000 < k) : thicketlaw11_play k (C : Int) ls 70 = some true := by
  unfold thicketlaw11_play
  obtain ⟨w, e, G, h0⟩ := fresh_ok hC
  rw [e]
  simp only [Option.bind_some]
  obtain ⟨r, e2, w', rfl⟩ := play_l0 ls 70 0 w [] [] k rfl G (by simp) (by omega) (by omega)
  have e3 : thicketlaw11_play_l0 70 ls k 0 w = some (.inr w') := e2
  rw [e3]
  rfl
theorem known_true : thicketlaw11_known 400000 = some true := by kernel_rfl
theorem plays_plain (l : List thicketlaw11_Ask) : ∃ k, thicketlaw11_SkewPlays k l = some true := by
  refine ⟨400000, ?_⟩
  unfold thicketlaw11_SkewPlays
  rw [show (200 : Int) = ((200 : Nat) : Int) from rfl, play_ok (by omega) l (by omega)]
  simp only [Option.bind_some, cond_true, known_true]
theorem full_plain (size : Int) (l : List thicketlaw11_Ask) : ∃ k, thicketlaw11_SkewFull k size l = some true := by
  refine ⟨400000, ?_⟩
  unfold thicketlaw11_SkewFull
  obtain ⟨c, e, h0, h1⟩ := within (n := size) (lo := 0) (hi := 14) (by omega) (by omega) (by omega)
  rw [e]
  simp only [Option.bind_some]
  obtain ⟨c, rfl⟩ : ∃ d : Nat, c = (d : Int) := ⟨c.toNat, by omega⟩
  rw [play_ok (by omega) l (by omega)]
  simp only [Option.bind_some, cond_true, known_true]
/-! Drops -/
theorem drops_l0 {C : Nat} (hh : Int) (ls : List thicketlaw11_Ask) : ∀ (d i : Nat) (w : thicketlaw11_world) (l m : List It) (k : Nat), i + d = 50 → Good C w l m → l.length + m.length ≤ i → w.next ≤ i → 300000 + d < k →
    Do (thicketlaw11_SkewDrops_l0 hh ls k (i : Int) w) fun r => ∃ w' l' m', r = .inr w' ∧ Good C w' l' m' ∧ l'.length + m'.length ≤ 50 := by
  intro d
  induction d with
  | zero =>
    intro i w l m k hi G hl hn hk
    obtain ⟨k, rfl⟩ : ∃ q, k = q + 1 := ⟨k - 1, by omega⟩
    rw [thicketlaw11_SkewDrops_l0]
    refine Do.f (by rw [Bool.and_eq_false_iff]; right; exact decide_eq_false (by omega)) ?_
    exact ⟨_, rfl, w, l, m, rfl, G, by omega⟩
  | succ d ih =>
    intro i w l m k hi G hl hn hk
    obtain ⟨k, rfl⟩ : ∃ q, k = q + 1 := ⟨k - 1, by omega⟩
    rw [thicketlaw11_SkewDrops_l0]
    by_cases hlt : i < ls.length
    · refine Do.t (by rw [Bool.and_eq_true]; exact ⟨decide_eq_true (by omega), decide_eq_true (by omega)⟩) ?_
      have ei : mIdx ls (i : Int) = some ls[i] := by rw [mIdx_nat, List.getElem?_eq_getElem hlt]
      refine Do.seq ei ?_
      refine (do_ok (k := k) G ls[i] (by omega) (by omega) (by omega)).bind ?_
      rintro r ⟨h1, l', m', G', h2, h3⟩
      refine Do.f (by rw [h1]; rfl) ?_
      rw [w64_id (by omega) (by omega)]
      exact ih (i + 1) r.2 l' m' k (by omega) G' (by omega) (by omega) (by omega)
    · refine Do.f (by rw [Bool.and_eq_false_iff]; left; exact decide_eq_false (by omega)) ?_
      exact ⟨_, rfl, w, l, m, rfl, G, by omega⟩
theorem empty_len {C : Nat} {a : arena_Arena} {r0 r1 : Int} {h0 h1 : List thicketlaw11_held} {next : Int} {f g : F} {it : Nat → It} (W : Wd C a r0 r1 h0 h1 next f g it [] []) : arena_Arena_Len a = some 0 := by
  rw [Ar.lenIs W.hp, List.append_nil, lay_length, List.length_append, nd_size, nd_size, W.fs, W.gs]; rfl
theorem drops_plain (l : List thicketlaw11_Ask) (h : Int) : ∃ k, thicketlaw11_SkewDrops k l h = some true := by
  refine ⟨400000, ?_⟩
  have : Do (thicketlaw11_SkewDrops 400000 l h) fun r => r = true := by
    unfold thicketlaw11_SkewDrops
    refine (fresh_ok (C := 200) (by omega)).bind ?_
    rintro w ⟨G, h0⟩
    refine (drops_l0 (C := 200) h l 50 0 w [] [] 400000 rfl G (by simp) (by omega) (by omega)).bind ?_
    rintro _ ⟨w1, l1, m1, rfl, ⟨f, g, it, W⟩, hlm⟩
    refine (within (n := h) (lo := 0) (hi := 1) (by omega) (by omega) (by omega)).bind ?_
    rintro c ⟨h1, h2⟩
    have c01 : c = 0 ∨ c = 1 := by omega
    rcases c01 with rfl | rfl
    · rw [if_pos rfl]
      show Do (((thicketlaw11_world_drop_at0 400000 w1).bind _).bind _) _
      refine Do.assoc ((drop_ok0 (k := 400000) W (by omega) (by omega)).bind ?_)
      rintro r ⟨e1, _, W1⟩
      refine Do.tb e1 ?_
      refine Do.assoc ((right_ok (k := 400000) W1 (by simp) (by omega) (by omega)).bind ?_)
      rintro r2 ⟨e2, _, W2⟩
      refine Do.tb e2 (Do.tb (by rw [W2.i0]; rfl) ?_)
      show Do (((thicketlaw11_world_drop_at1 400000 r2.2).bind _).bind _) _
      refine Do.assoc ((drop_ok1 (k := 400000) W2.swap (by omega) (by omega)).bind ?_)
      rintro r3 ⟨e3, _, W3⟩
      refine Do.tb e3 ?_
      refine Do.assoc (Do.seq (empty_len W3) (Do.tb rfl ?_))
      rw [known_true]
      exact ⟨_, rfl, rfl⟩
    · rw [if_neg (by decide), if_pos rfl]
      show Do (((thicketlaw11_world_drop_at1 400000 w1).bind _).bind _) _
      refine Do.assoc ((drop_ok1 (k := 400000) W.swap (by omega) (by omega)).bind ?_)
      rintro r ⟨e1, _, W1⟩
      refine Do.tb e1 ?_
      refine Do.assoc ((right_ok (k := 400000) W1.swap (by omega) (by simp) (by omega)).bind ?_)
      rintro r2 ⟨e2, _, W2⟩
      refine Do.tb e2 (Do.tb (by rw [W2.i1]; rfl) ?_)
      show Do (((thicketlaw11_world_drop_at0 400000 r2.2).bind _).bind _) _
      refine Do.assoc ((drop_ok0 (k := 400000) W2 (by omega) (by omega)).bind ?_)
      rintro r3 ⟨e3, _, W3⟩
      refine Do.tb e3 ?_
      refine Do.assoc (Do.seq (empty_len W3) (Do.tb rfl ?_))
      rw [known_true]
      exact ⟨_, rfl, rfl⟩
  obtain ⟨r, e, rfl⟩ := this
  exact e
end Go.Proofs.YtmidmkinclmbdaaGreat
