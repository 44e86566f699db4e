/-
  The plain law of skew binomial heaps: Push, Pop, Cut, Meld.
-/
import Derived.Test.YtmidmkinclmbdaaGreatZ8
set_option linter.unusedVariables false
set_option linter.unusedSimpArgs false
set_option maxRecDepth 10000
namespace Go.Proofs.YtmidmkinclmbdaaGreat
open Go.Th

section
variable {κ : Cfg} {n : Nat} {a : arena_Arena} {it : Nat → It} {N : List Nd} {L : Heap}
theorem cs_append (s t : List Tr) : cs (s ++ t) = cs s ++ cs t := List.map_append
theorem cells_tree {f : F} {p q : List Tr} {t : Tr} (e : f.trees = p ++ t :: q) : f.cells.Perm (t.c :: (TC (p ++ q) ++ t.kids.cells)) := by
  rw [F.cells_trees, e]
  refine cpm fun P => ?_
  simp only [TC_append, TC_cons, Tr.cells, List.countP_append, List.countP_cons, List.cons_append]
  omega
theorem link_root {k : Nat} (hk : 3 ≤ k) {s t : Tr} {w w' : Int} {r : Nat} (H : Hp κ n a it (s.nd (-1) w ++ (t.nd (-1) w' ++ N)) L) (hs : s.r = r) (ht : t.r = r) (hb : r < 1000) :
    Do (trees_Link k a (s.c : Int) (t.c : Int) (r : Int)) fun res => ∃ w a', res = (((lk it s t).c : Int), a') ∧ Hp κ (n + 11) a' it ((lk it s t).nd (-1) w ++ N) L := by
  unfold trees_Link
  have m1 : (⟨s.c, -1, s.kids.hd, -1, w, s.r, 0⟩ : Nd) ∈ s.nd (-1) w ++ (t.nd (-1) w' ++ N) := List.mem_append_left _ (List.mem_cons_self ..)
  have m2 : (⟨t.c, -1, t.kids.hd, -1, w', t.r, 0⟩ : Nd) ∈ s.nd (-1) w ++ (t.nd (-1) w' ++ N) := List.mem_append_right _ (List.mem_append_left _ (List.mem_cons_self ..))
  refine (H.before hk m2 m1).bind ?_
  rintro _ ⟨a1, rfl, H⟩
  unfold lk
  by_cases c : (it t.c).lt (it s.c)
  · rw [if_pos c]
    refine Do.tb (decide_eq_true c) ?_
    have H1 : Hp κ (n + 6) a1 it (t.nd (-1) w' ++ (s.nd (-1) w ++ N)) L := H.p (npm fun p => by simp only [List.countP_append]; omega)
    refine (linked H1 ht hb).mono ?_
    rintro _ ⟨a2, rfl, H2⟩
    exact ⟨_, _, rfl, H2⟩
  · rw [if_neg c]
    refine Do.fb (decide_eq_false c) ?_
    refine (linked H hs hb).mono ?_
    rintro _ ⟨a2, rfl, H2⟩
    exact ⟨_, _, rfl, H2⟩
theorem Ord.congr {it it' : Nat → It} {f : F} {q : Nat} (h : Ord it (nd f (q : Int))) (hc : ∀ d ∈ f.cells, it' d = it d) (hq : it' q = it q) : Ord it' (nd f (q : Int)) := by
  intro ν hν r hr
  obtain ⟨h1, h2⟩ := nd_up f q ν hν
  rw [hc _ h1]
  rcases h2 with h2 | ⟨d, hd, h2⟩
  · have : r = q := by omega
    subst this; rw [hq]; exact h ν hν r hr
  · have : r = d := by omega
    subst this; rw [hc r hd]; exact h ν hν r hr
/-- the kids' order where the parent's item falls -/
theorem ord_fall {it it' : Nat → It} {q : Nat} : ∀ {f : F}, Ord it (nd f (q : Int)) → (∀ d ∈ f.cells, it' d = it d) → ¬ (it q).lt (it' q) → Ord it' (nd f (q : Int))
  | .nil, _, _, _ => fun ν hν => by simp [nd] at hν
  | .cons c r kids rest, h, hc, hq => by
    have h1 : Ord it (nd kids c) := h.sub fun ν hν => List.mem_cons_of_mem _ (List.mem_append_left _ hν)
    have h2 : Ord it (nd rest q) := h.sub fun ν hν => List.mem_cons_of_mem _ (List.mem_append_right _ hν)
    have hcc : it' c = it c := hc c (by rw [F.cells]; exact List.mem_cons_self ..)
    have h3 := h1.congr (it' := it') (fun d hd => hc d (by rw [F.cells]; exact List.mem_cons_of_mem _ (List.mem_append_left _ hd))) hcc
    have h4 := ord_fall (f := rest) h2 (fun d hd => hc d (by rw [F.cells]; exact List.mem_cons_of_mem _ (List.mem_append_right _ hd))) hq
    intro ν hν r' hr
    rw [nd] at hν
    rcases List.mem_cons.1 hν with rfl | hν
    · simp only at hr ⊢
      have : r' = q := by omega
      subst this
      rw [hcc]
      exact fun h5 => h _ (List.mem_cons_self ..) r' rfl (It.lt_of_le h5 hq)
    · rcases List.mem_append.1 hν with hν | hν
      · exact h3 ν hν r' hr
      · exact h4 ν hν r' hr
theorem hd_cons (c r : Nat) (a b : F) : (F.cons c r a b).hd = (c : Int) := rfl
theorem hd_nil : F.nil.hd = -1 := rfl
theorem lk_cases (it : Nat → It) (s t : Tr) : ∃ top low, lk it s t = top.under low ∧ ((top = s ∧ low = t) ∨ (top = t ∧ low = s)) ∧ ¬ (it low.c).lt (it top.c) := by
  unfold lk
  by_cases c : (it t.c).lt (it s.c)
  · rw [if_pos c]; exact ⟨t, s, rfl, Or.inr ⟨rfl, rfl⟩, It.lt_asymm c⟩
  · rw [if_neg c]; exact ⟨s, t, rfl, Or.inl ⟨rfl, rfl⟩, c⟩
/-- a node without children goes ahead of a heap -/
theorem single_spec {k : Nat} (hk : 3 ≤ k) {f : F} {c : Nat} {u w : Int} (H : Hp κ n a it ((Tr.mk c 0 .nil).nd u w ++ (nd f (-1) ++ N)) L) (hb : HB true it f) (hr : ∀ t ∈ f.trees, t.r < 100) :
    Do (skew_single k a f.hd (c : Int)) fun r => ∃ f' it' a', r = (f'.hd, a') ∧ Hp κ (n + 32) a' it' (nd f' (-1) ++ N) L ∧ HB true it' f' ∧ f'.cells.Perm (c :: f.cells) ∧ ((c :: f.cells).map it').Perm ((c :: f.cells).map it) ∧ ∀ d, d ∉ c :: f.cells → it' d = it d := by
  unfold skew_single
  have hcap := H.cap
  have hN : ∀ ν ∈ nd f (-1), ν ∈ (Tr.mk c 0 .nil).nd u w ++ (nd f (-1) ++ N) := fun ν h => List.mem_append_right _ (List.mem_append_left _ h)
  -- the node alone ahead of the others
  have alone : (f.trees.Pairwise fun s t => s.r < t.r) → ∀ {n' : Nat} {a' : arena_Arena}, n' ≤ n + 3 → Hp κ n' a' it ((Tr.mk c 0 .nil).nd u w ++ (nd f (-1) ++ N)) L →
      Do ((arena_Arena_Set a' (c : Int) 3 f.hd).bind fun t_3 => (arena_Arena_Set t_3.2 (c : Int) 0 (-1)).bind fun t_4 => some ((c : Int), t_4.2)) fun r => ∃ f' it' a', r = (f'.hd, a') ∧ Hp κ (n + 32) a' it' (nd f' (-1) ++ N) L ∧ HB true it' f' ∧ f'.cells.Perm (c :: f.cells) ∧ ((c :: f.cells).map it').Perm ((c :: f.cells).map it) ∧ ∀ d, d ∉ c :: f.cells → it' d = it d := by
    intro hp n' a' hn H1
    refine (Hp.set (ν := ⟨c, u, -1, -1, w, 0, 0⟩) H1 ⟨c, u, -1, -1, f.hd, 0, 0⟩).bind ?_
    rintro _ ⟨a2, rfl, H2⟩
    refine (Hp.set (ν := ⟨c, u, -1, -1, f.hd, 0, 0⟩) H2 ⟨c, -1, -1, -1, f.hd, 0, 0⟩).bind ?_
    rintro _ ⟨a3, rfl, H3⟩
    refine ⟨_, rfl, .cons c 0 .nil f, it, a3, rfl, Hp.mono (n := n' + 1 + 1) H3 (by omega), ⟨?_, ?_⟩, ?_, .refl _, fun _ _ => rfl⟩
    · intro t ht
      rw [F.trees] at ht
      rcases List.mem_cons.1 ht with rfl | ht
      · exact ⟨.nil, fun ν hν => by simp [nd] at hν⟩
      · exact hb.good t ht
    · exact ⟨hp, fun s _ => Nat.zero_le _, fun h => by cases h⟩
    · simp [F.cells]
  cases f with
  | nil =>
    refine Do.fb rfl ?_
    refine Do.seq rfl ?_
    refine (H.getN (c := -1) (by decide)).bind ?_
    rintro _ ⟨a1, rfl, H1⟩
    refine Do.tb rfl (Do.seq rfl (Do.t rfl ?_))
    exact alone (by simp [F.trees]) (by omega) H1
  | cons c1 r1 k1 f1 =>
    have h1N := hN _ (List.mem_cons_self ..)
    have hf1N : ∀ ν ∈ nd f1 (-1), ν ∈ (Tr.mk c 0 .nil).nd u w ++ (nd (.cons c1 r1 k1 f1) (-1) ++ N) := fun ν h => hN ν (List.mem_cons_of_mem _ (List.mem_append_right _ h))
    have hh1 := hd_ok H hf1N
    refine Do.tb (bne_iff_ne.2 (by simp only [F.hd]; omega)) ?_
    refine Do.assoc ((H.getc h1N (f := 3) (v := f1.hd) hh1.1 hh1.2).bind ?_)
    rintro _ ⟨a1, rfl, H1⟩
    refine Do.seq rfl ?_
    refine (H1.get h1N (f := 4) (v := (r1 : Int))).bind ?_
    rintro _ ⟨a2, rfl, H2⟩
    cases f1 with
    | nil =>
      refine Do.tb rfl (Do.seq rfl (Do.t rfl ?_))
      exact alone (by simp [F.trees]) (by omega) H2
    | cons c2 r2 k2 f2 =>
      have h2N := hf1N _ (List.mem_cons_self ..)
      refine Do.fb (by simp [F.hd]) ?_
      refine Do.assoc ((H2.get h2N (f := 4) (v := (r2 : Int))).bind ?_)
      rintro _ ⟨a3, rfl, H3⟩
      have hrow := hb.row
      simp only [F.trees, RowOk] at hrow
      obtain ⟨hp1, hp2, _⟩ := hrow
      have h12 : r1 ≤ r2 := hp2 ⟨c2, r2, k2⟩ (List.mem_cons_self ..)
      by_cases hne : r2 = r1
      · subst hne
        refine Do.seq rfl (Do.f (by simp) ?_)
        have hf2N : ∀ ν ∈ nd f2 (-1), ν ∈ (Tr.mk c 0 .nil).nd u w ++ (nd (.cons c1 r2 k1 (.cons c2 r2 k2 f2)) (-1) ++ N) := fun ν h => hf1N ν (List.mem_cons_of_mem _ (List.mem_append_right _ h))
        have hh2 := hd_ok H3 hf2N
        refine (H3.getc h2N (f := 3) (v := f2.hd) hh2.1 hh2.2).bind ?_
        rintro _ ⟨a4, rfl, H4⟩
        have H4' : Hp κ (n + 4) a4 it ((Tr.mk c1 r2 k1).nd (-1) (F.hd (.cons c2 r2 k2 f2)) ++ ((Tr.mk c2 r2 k2).nd (-1) f2.hd ++ ((Tr.mk c 0 .nil).nd u w ++ (nd f2 (-1) ++ N)))) L := H4.p (npm fun p => by
          simp only [nd, Tr.nd, List.countP_append, List.countP_cons]; omega)
        have hr2 : r2 < 100 := hr ⟨c2, r2, k2⟩ (by simp [F.trees])
        refine (link_root (k := k) (r := r2) hk H4' rfl rfl (by omega)).bind ?_
        rintro _ ⟨wt, a5, rfl, H5⟩
        have g1 := hb.good ⟨c1, r2, k1⟩ (by simp [F.trees])
        have g2 := hb.good ⟨c2, r2, k2⟩ (by simp [F.trees])
        obtain ⟨top, low, elk, htl, hlt⟩ := lk_cases it (Tr.mk c1 r2 k1) (Tr.mk c2 r2 k2)
        rw [elk] at H5 ⊢
        have gtop : GT true it top ∧ top.r = r2 := by rcases htl with ⟨rfl, rfl⟩ | ⟨rfl, rfl⟩ <;> exact ⟨by assumption, rfl⟩
        have glow : GT true it low ∧ low.r = r2 := by rcases htl with ⟨rfl, rfl⟩ | ⟨rfl, rfl⟩ <;> exact ⟨by assumption, rfl⟩
        have hfc : (F.cells (.cons c1 r2 k1 (.cons c2 r2 k2 f2))).Perm (top.c :: (low.cells ++ (top.kids.cells ++ f2.cells))) := by
          rcases htl with ⟨rfl, rfl⟩ | ⟨rfl, rfl⟩ <;> refine cpm fun p => ?_ <;> simp only [F.cells, Tr.cells, List.countP_append, List.countP_cons, List.cons_append] <;> omega
        have hn : (c :: (top.c :: (low.cells ++ (top.kids.cells ++ f2.cells)))).Nodup := by
          have h1 := H.nd
          rw [List.map_append, List.map_append, nd_cells, ← List.append_assoc] at h1
          have h2 := (List.nodup_append.1 h1).1
          have h3 : ((Tr.mk c 0 .nil).nd u w).map Nd.c = [c] := by simp [Tr.nd, nd]
          rw [h3] at h2
          exact (List.Perm.nodup_iff (hfc.cons c)).1 h2
        obtain ⟨hn1, hn2⟩ := List.nodup_cons.1 hn
        obtain ⟨hn3, hn4⟩ := List.nodup_cons.1 hn2
        have hct : c ≠ top.c := fun e => hn1 (e ▸ List.mem_cons_self ..)
        -- what comes behind the change of items
        have fin : ∀ (it' : Nat → It) {n' : Nat} {a' : arena_Arena}, Hp κ n' a' it' (⟨c, u, -1, -1, w, 0, 0⟩ :: ⟨top.c, -1, low.c, -1, wt, ((r2 + 1 : Nat) : Int), 0⟩ :: (nd (.cons low.c low.r low.kids top.kids) top.c ++ (nd f2 (-1) ++ N))) L → n' ≤ n + 27 →
            (∀ d, d ≠ c → d ≠ top.c → it' d = it d) → ¬ (it' c).lt (it' top.c) → ¬ (it top.c).lt (it' top.c) → ((c :: F.cells (.cons c1 r2 k1 (.cons c2 r2 k2 f2))).map it').Perm ((c :: F.cells (.cons c1 r2 k1 (.cons c2 r2 k2 f2))).map it) →
            Do ((trees_Under a' (c : Int) (top.c : Int)).bind fun t_9 => (arena_Arena_Set t_9 (top.c : Int) 3 f2.hd).bind fun t_10 => some ((top.c : Int), t_10.2)) fun r => ∃ f' it' a', r = (f'.hd, a') ∧ Hp κ (n + 32) a' it' (nd f' (-1) ++ N) L ∧ HB true it' f' ∧ f'.cells.Perm (c :: F.cells (.cons c1 r2 k1 (.cons c2 r2 k2 f2))) ∧ ((c :: F.cells (.cons c1 r2 k1 (.cons c2 r2 k2 f2))).map it').Perm ((c :: F.cells (.cons c1 r2 k1 (.cons c2 r2 k2 f2))).map it) ∧ ∀ d, d ∉ c :: F.cells (.cons c1 r2 k1 (.cons c2 r2 k2 f2)) → it' d = it d := by
          intro it' n' a' K hn' hA hB hC hD
          have hlowC : low.c < κ.C := K.lt (ν := ⟨low.c, top.c, low.kids.hd, -1, top.kids.hd, low.r, 0⟩) (by simp [nd])
          refine (under_spec K (by simp only; omega) (by simp only; omega)).bind ?_
          intro a6 K1
          have K2 := K1.p (List.Perm.swap ..)
          refine (K2.set ⟨top.c, -1, c, -1, f2.hd, ((r2 + 1 : Nat) : Int), 0⟩).bind ?_
          rintro _ ⟨a7, rfl, K3⟩
          have hmem : ∀ d ∈ low.cells ++ (top.kids.cells ++ f2.cells), d ≠ c ∧ d ≠ top.c := fun d hd => ⟨fun e => hn1 (e ▸ List.mem_cons_of_mem _ hd), fun e => hn3 (e ▸ hd)⟩
          have hkc : ∀ d ∈ F.cells (.cons low.c low.r low.kids top.kids), it' d = it d := fun d hd => by
            have : d ∈ low.cells ++ (top.kids.cells ++ f2.cells) := by
              rw [F.cells] at hd
              rcases List.mem_cons.1 hd with rfl | hd
              · exact List.mem_append_left _ (List.mem_cons_self ..)
              · rcases List.mem_append.1 hd with hd | hd
                · exact List.mem_append_left _ (List.mem_cons_of_mem _ hd)
                · exact List.mem_append_right _ (List.mem_append_left _ hd)
            exact hA d (hmem d this).1 (hmem d this).2
          have hbf2 : HB true it f2 := by
            refine ⟨fun t ht => hb.good t (by simp [F.trees, ht]), ?_⟩
            have := (List.pairwise_cons.1 hp1).2
            exact RowOk.of this
          have hbf2' : HB true it' f2 := hbf2.congr fun d hd => by
            have : d ∈ low.cells ++ (top.kids.cells ++ f2.cells) := List.mem_append_right _ (List.mem_append_right _ hd)
            exact hA d (hmem d this).1 (hmem d this).2
          have gund := gtop.1.under glow.1 (by rw [glow.2, gtop.2]) hlt
          refine ⟨_, rfl, .cons top.c (r2 + 1) (.cons c 0 .nil (.cons low.c low.r low.kids top.kids)) f2, it', a7, rfl, ?_, ⟨?_, ?_⟩, ?_, hD, ?_⟩
          · refine Hp.mono (n := n' + 4 + 1) (Hp.p K3 (npm fun p => ?_)) (by omega)
            simp only [nd, hd_cons, hd_nil, (show ((0 : Nat) : Int) = 0 from rfl), List.countP_append, List.countP_cons, List.nil_append]; omega
          · intro t ht
            rw [F.trees] at ht
            rcases List.mem_cons.1 ht with rfl | ht
            · refine ⟨?_, ?_⟩
              · have h1 := glow.1.sk
                have h2 := gtop.1.sk
                rw [glow.2] at h1 ⊢
                rw [gtop.2] at h2
                exact SK.leaf rfl h1 h2
              · have h3 : Ord it' (nd (.cons low.c low.r low.kids top.kids) (top.c : Int)) := ord_fall gund.ord hkc hC
                intro ν hν q hq
                rw [nd] at hν
                rcases List.mem_cons.1 hν with rfl | hν
                · simp only at hq ⊢
                  have : q = top.c := by omega
                  subst this; exact hB
                · exact h3 ν hν q hq
            · exact hbf2'.good t ht
          · refine ⟨(List.pairwise_cons.1 hp1).2, fun s hs => ?_, fun h => by cases h⟩
            have := (List.pairwise_cons.1 hp1).1 s hs
            simp only at this ⊢; omega
          · refine List.Perm.trans ?_ (hfc.cons c).symm
            refine cpm fun p => ?_
            simp only [F.cells, Tr.cells, List.countP_append, List.countP_cons, List.cons_append, List.nil_append, List.countP_nil]; omega
          · intro d hd
            have hd' : d ∉ c :: (top.c :: (low.cells ++ (top.kids.cells ++ f2.cells))) := fun h => hd ((hfc.cons c).mem_iff.2 h)
            simp only [List.mem_cons, not_or] at hd'
            exact hA d hd'.1 hd'.2.1
        have H6 : Hp κ (n + 15) a5 it (⟨c, u, -1, -1, w, 0, 0⟩ :: ⟨top.c, -1, low.c, -1, wt, ((r2 + 1 : Nat) : Int), 0⟩ :: (nd (.cons low.c low.r low.kids top.kids) top.c ++ (nd f2 (-1) ++ N))) L := H5.p (npm fun p => by
          simp only [Tr.nd, Tr.under, gtop.2, nd, hd_cons, hd_nil, (show ((0 : Nat) : Int) = 0 from rfl), List.countP_append, List.countP_cons, List.nil_append, List.countP_nil]; omega)
        refine (H6.before (k := k) hk (List.mem_cons_self ..) (List.mem_cons_of_mem _ (List.mem_cons_self ..))).bind ?_
        rintro _ ⟨a6, rfl, H7⟩
        by_cases hcb : (it c).lt (it top.c)
        · refine Do.tb (decide_eq_true hcb) ?_
          refine Do.assoc ((item_Swap_spec H7).bind ?_)
          intro a7 H8
          refine Do.seq rfl ?_
          refine fin (swp it c top.c) H8 (by omega) (fun d h1 h2 => swp_o it h1 h2) ?_ ?_ (swp_perm ?_ (List.mem_cons_self ..) ?_ hct)
          · rw [swp_l it hct, swp_r]; exact It.lt_asymm hcb
          · rw [swp_r]; exact It.lt_asymm hcb
          · exact (List.Perm.nodup_iff (hfc.cons c)).2 hn
          · exact (hfc.cons c).mem_iff.2 (List.mem_cons_of_mem _ (List.mem_cons_self ..))
        · refine Do.fb (decide_eq_false hcb) ?_
          refine Do.seq rfl ?_
          exact fin it H7 (by omega) (fun _ _ _ => rfl) hcb (It.lt_irrefl _) (.refl _)
      · refine Do.seq rfl (Do.t (by simp; omega) ?_)
        refine alone ?_ (by omega) H3
        simp only [F.trees]
        refine List.pairwise_cons.2 ⟨fun s hs => ?_, hp1⟩
        rcases List.mem_cons.1 hs with rfl | hs
        · simp only; omega
        · have := (List.pairwise_cons.1 hp1).1 s hs
          simp only at this ⊢; omega
/-- kids by their ranks -/
def zer (ls : List Lt) : List Lt := ls.filter fun l => l.t.r == 0
def pos (ls : List Lt) : List Lt := ls.filter fun l => !(l.t.r == 0)
theorem zp_perm (ls : List Lt) : (pos ls ++ zer ls).Perm ls := by
  have := List.filter_append_perm (fun l : Lt => !(l.t.r == 0)) ls
  have e : zer ls = ls.filter fun l => !(!(l.t.r == 0)) := by unfold zer; congr 1; funext l; simp
  rw [e]; exact this
theorem without_l0 (v_ : Int) (all : List Lt) (hN : ∀ l ∈ all, l.top ∈ N) (hl : all.length < 100000) (rest : List Int) (hr : rest.length < 100000) : ∀ (post pre : List Lt) {n : Nat} {a : arena_Arena} (H : Hp κ n a it N L) (m : Nat), post.length < m → all = pre ++ post →
    Do (skew_without_l0 (all.length : Int) (lc all) v_ m (rest ++ lc (pos pre)) (lc (zer pre)) (pre.length : Int) a) fun r => ∃ a', r = (rest ++ lc (pos all), lc (zer all), a') ∧ Hp κ (n + post.length) a' it N L
  | [], pre, n, a, H, m, hm, e => by
    obtain ⟨m, rfl⟩ : ∃ q, m = q + 1 := ⟨m - 1, by simp at hm; omega⟩
    rw [skew_without_l0]
    refine Do.f (decide_eq_false (by rw [e]; simp)) ?_
    have : pre = all := by rw [e]; simp
    subst this
    exact ⟨_, rfl, a, rfl, H⟩
  | l :: post, pre, n, a, H, m, hm, e => by
    obtain ⟨m, rfl⟩ : ∃ q, m = q + 1 := ⟨m - 1, by simp at hm; omega⟩
    simp only [List.length_cons] at hm
    have hlen : pre.length < 100000 := by have := congrArg List.length e; simp at this; omega
    have hz : (zer pre).length ≤ pre.length := List.length_filter_le ..
    have hps : (pos pre).length ≤ pre.length := List.length_filter_le ..
    have ei : mIdx (lc all) (pre.length : Int) = some (l.t.c : Int) := by
      rw [e, lc_append, lc_cons]
      have := mIdx_mid (lc pre) (lc post) (l.t.c : Int)
      rwa [lc_length] at this
    rw [skew_without_l0]
    refine Do.t (decide_eq_true (by rw [e]; simp; omega)) ?_
    refine Do.assoc (Do.seq ei ?_)
    refine Do.assoc ((H.get (hN l (by rw [e]; simp)) (f := 4) (v := (l.t.r : Int))).bind ?_)
    rintro _ ⟨a1, rfl, H1⟩
    have := without_l0 v_ all hN hl rest hr post (pre ++ [l]) H1 m (by omega) (by rw [e]; simp)
    have e2 : ((pre ++ [l]).length : Int) = (pre.length : Int) + 1 := by simp
    rw [e2] at this
    have ez : zer (pre ++ [l]) = zer pre ++ zer [l] := List.filter_append ..
    have ep : pos (pre ++ [l]) = pos pre ++ pos [l] := List.filter_append ..
    by_cases h0 : l.t.r = 0
    · refine Do.tb (by simp [h0]) ?_
      refine Do.assoc (Do.seq (mApp_ok (by rw [lc_length]; simp; omega)) ?_)
      refine Do.seq rfl ?_
      rw [w64_id (by omega) (by omega)]
      have e3 : zer [l] = [l] := by simp [zer, h0]
      have e4 : pos [l] = [] := by simp [pos, h0]
      rw [ez, ep, e3, e4, List.append_nil, lc_append] at this
      refine this.mono ?_
      rintro _ ⟨a2, rfl, H2⟩
      exact ⟨a2, rfl, H2.mono (by simp only [List.length_cons]; omega)⟩
    · refine Do.fb (by simp [h0]) ?_
      refine Do.assoc (Do.seq (mApp_ok (by rw [List.length_append, lc_length]; simp; omega)) ?_)
      refine Do.seq rfl ?_
      rw [w64_id (by omega) (by omega)]
      have e3 : zer [l] = [] := by simp [zer, h0]
      have e4 : pos [l] = [l] := by simp [pos, h0]
      rw [ez, ep, e3, e4, List.append_nil, lc_append, ← List.append_assoc] at this
      refine this.mono ?_
      rintro _ ⟨a2, rfl, H2⟩
      exact ⟨a2, rfl, H2.mono (by simp only [List.length_cons]; omega)⟩
theorem without_l1 (i : Int) (all : List Lt) (hl : all.length < 50) (S : Nat) (hS : S < 1024) : ∀ (post pre : List Lt) (f : F) {it : Nat → It} {n : Nat} {a : arena_Arena} (H : Hp κ n a it (LN post ++ (nd f (-1) ++ N)) L) (m : Nat), post.length + 3 < m → all = pre ++ post → HB true it f → (∀ l ∈ post, l.t.r = 0 ∧ l.t.kids = .nil) → f.size + post.length ≤ S →
    Do (skew_without_l1 i (all.length : Int) (lc all) m f.hd (pre.length : Int) a) fun r => ∃ f' it' a', r = (f'.hd, a') ∧ Hp κ (n + 32 * post.length) a' it' (nd f' (-1) ++ N) L ∧ HB true it' f' ∧ f'.cells.Perm (TC (post.map Lt.t) ++ f.cells) ∧ ((TC (post.map Lt.t) ++ f.cells).map it').Perm ((TC (post.map Lt.t) ++ f.cells).map it) ∧ ∀ d, d ∉ TC (post.map Lt.t) ++ f.cells → it' d = it d
  | [], pre, f, it, n, a, H, m, hm, e, hb, hz, hsz => by
    obtain ⟨m, rfl⟩ : ∃ q, m = q + 1 := ⟨m - 1, by simp at hm; omega⟩
    rw [skew_without_l1]
    refine Do.f (decide_eq_false (by rw [e]; simp)) ?_
    exact ⟨_, rfl, f, it, a, rfl, H, hb, by simp [TC], by simp [TC], fun _ _ => rfl⟩
  | l :: post, pre, f, it, n, a, H, m, hm, e, hb, hz, hsz => by
    obtain ⟨m, rfl⟩ : ∃ q, m = q + 1 := ⟨m - 1, by simp at hm; omega⟩
    simp only [List.length_cons] at hm hsz
    have hlen : pre.length < 100000 := by have := congrArg List.length e; simp at this; omega
    have ei : mIdx (lc all) (pre.length : Int) = some (l.t.c : Int) := by
      rw [e, lc_append, lc_cons]
      have := mIdx_mid (lc pre) (lc post) (l.t.c : Int)
      rwa [lc_length] at this
    rw [skew_without_l1]
    refine Do.t (decide_eq_true (by rw [e]; simp; omega)) ?_
    refine Do.seq ei ?_
    obtain ⟨⟨c, r, kids⟩, u, w⟩ := l
    obtain ⟨h0, h1⟩ := hz _ (List.mem_cons_self ..)
    simp only at h0 h1
    subst h0 h1
    have H1 : Hp κ n a it ((Tr.mk c 0 .nil).nd u w ++ (nd f (-1) ++ (LN post ++ N))) L := H.p (npm fun p => by
      simp only [LN_cons, Lt.nd, List.countP_append]; omega)
    have hR : f.size < 2 ^ 10 := by simp; omega
    refine (single_spec (k := m) (by omega) H1 hb (fun t ht => by have := hb.lt hR t ht; omega)).bind ?_
    rintro _ ⟨f1, it1, a1, rfl, H2, hb1, hc1, hp1, ho1⟩
    rw [w64_id (by omega) (by omega)]
    have H3 : Hp κ (n + 32) a1 it1 (LN post ++ (nd f1 (-1) ++ N)) L := H2.p (npm fun p => by
      simp only [List.countP_append]; omega)
    have hs1 : f1.size = f.size + 1 := by rw [← F.size_cells, hc1.length_eq, List.length_cons, F.size_cells]
    have := without_l1 i all hl S hS post (pre ++ [⟨⟨c, 0, .nil⟩, u, w⟩]) f1 H3 m (by omega) (by rw [e]; simp) hb1 (fun l hl => hz l (List.mem_cons_of_mem _ hl)) (by omega)
    have e2 : ((pre ++ [(⟨⟨c, 0, .nil⟩, u, w⟩ : Lt)]).length : Int) = (pre.length : Int) + 1 := by simp
    rw [e2] at this
    refine this.mono ?_
    rintro _ ⟨f2, it2, a2, rfl, H4, hb2, hc2, hp2, ho2⟩
    have hcell : TC ((((⟨⟨c, 0, .nil⟩, u, w⟩ : Lt) :: post)).map Lt.t) = c :: TC (post.map Lt.t) := by simp [TC_cons, Tr.cells, F.cells]
    rw [hcell]
    have hall : (TC (post.map Lt.t) ++ f1.cells).Perm (c :: TC (post.map Lt.t) ++ f.cells) := by
      refine (hc1.append_left _).trans ?_
      exact List.perm_middle
    -- the cells of those that are left stay as they were
    have hnd : ∀ d ∈ TC (post.map Lt.t), d ∉ c :: f.cells := fun d hd hd2 => by
      have h5 := H1.nd
      rw [List.map_append, List.map_append, List.map_append, nd_cells, LN_cells] at h5
      have h6 : ((Tr.mk c 0 .nil).nd u w).map Nd.c = [c] := by simp [Tr.nd, nd]
      rw [h6] at h5
      have h7 : ((c :: f.cells) ++ (TC (post.map Lt.t) ++ N.map Nd.c)).Nodup := by
        simpa using h5
      exact (List.nodup_append.1 h7).2.2 d hd2 d (List.mem_append_left _ hd) rfl
    refine ⟨f2, it2, a2, rfl, H4.mono (by simp only [List.length_cons]; omega), hb2, hc2.trans hall, ?_, ?_⟩
    · refine (hall.map it2).symm.trans (hp2.trans ?_)
      refine (hall.map it1).trans ?_
      have h8 : (c :: TC (post.map Lt.t) ++ f.cells).Perm (TC (post.map Lt.t) ++ (c :: f.cells)) := List.perm_middle.symm
      refine (h8.map it1).trans (List.Perm.trans ?_ (h8.map it).symm)
      rw [List.map_append, List.map_append]
      have h9 : (TC (post.map Lt.t)).map it1 = (TC (post.map Lt.t)).map it := List.map_congr_left fun d hd => ho1 d (hnd d hd)
      rw [h9]
      exact hp1.append_left _
    · intro d hd
      have hd' : d ∉ TC (post.map Lt.t) ++ f1.cells := fun h => hd (hall.mem_iff.1 h)
      rw [ho2 d hd']
      refine ho1 d fun h => hd ?_
      rcases List.mem_cons.1 h with rfl | h
      · exact List.mem_append_left _ (List.mem_cons_self ..)
      · exact List.mem_append_right _ h
theorem sk_zero {b : Bool} {g : F} (h : SK b g 0) : g = .nil := by cases h; rfl
theorem sk_pos : ∀ {f : F} {r : Nat}, SK true f r → (f.trees.filter fun t => !(t.r == 0)).length ≤ r ∧ (f.trees.filter fun t => t.r == 0).length ≤ r + 1 := by
  intro f r h
  induction h with
  | nil => simp [F.trees]
  | @real c r kids rest h1 h2 i1 i2 =>
    simp only [F.trees, List.filter_cons]
    cases r with
    | zero =>
      have hr : rest = .nil := by cases h2; rfl
      subst hr
      simp [F.trees]
    | succ r => simp; omega
  | @leaf d c r kids rest hb h1 h2 i1 i2 =>
    simp only [F.trees, List.filter_cons]
    cases r with
    | zero =>
      have hr : rest = .nil := by cases h2; rfl
      subst hr
      simp [F.trees]
    | succ r => simp; omega
/-- a heap without one of its roots -/
theorem without_spec {k : Nat} {f : F} {p q : List Tr} {t : Tr} (H : Hp κ n a it (nd f (-1) ++ N) L) (e : f.trees = p ++ t :: q) (hp : (t.c : Int) ∉ cs p) (hq : (t.c : Int) ∉ cs q)
    (hg : ∀ s ∈ p ++ q, GT true it s) (hk' : ∀ s ∈ t.kids.trees, GT true it s) (hsk : SK true t.kids t.r) (hpl : (p ++ q).length ≤ 10) (htr : t.r ≤ 10) (hsz : f.size < 1024) (hk : 95000 < k) :
    Do (skew_without k a (cs f.trees) (t.c : Int)) fun r => ∃ f' it' a', r = (f'.hd, ((it t.c).i : Int), a') ∧ Hp κ (n + 700) a' it' (nd f' (-1) ++ N) (((it t.c).i, (it t.c).cell (-1)) :: L) ∧ HB true it' f' ∧ f'.cells.Perm (TC (p ++ q) ++ t.kids.cells) ∧ ((TC (p ++ q) ++ t.kids.cells).map it').Perm ((TC (p ++ q) ++ t.kids.cells).map it) ∧ ∀ d, d ∉ TC (p ++ q) ++ t.kids.cells → it' d = it d := by
  unfold skew_without
  have hroom := len_ok H
  have hcap := H.cap
  have hl20 := hpl
  rw [List.length_append] at hl20
  have hskl := (sk_len hsk).1
  obtain ⟨hpos, hzer⟩ := sk_pos hsk
  rw [e, cs_append]
  refine Do.seq (deletefunc_spec (cs p) (cs q) (t.c : Int) hp hq (by simp [cs]; omega) (by simp [cs]; omega)) ?_
  obtain ⟨p', q', w, hl, rfl, rfl⟩ := loose_split (f := f) (up := -1) e
  have hN : nd f (-1) = LN p' ++ ((⟨t, -1, w⟩ : Lt).top :: (nd t.kids t.c ++ LN q')) := by
    rw [nd_loose, hl, LN_append, LN_cons, Lnd_eq]; simp
  have H1 : Hp κ n a it ((⟨t, -1, w⟩ : Lt).top :: (LN (p' ++ q' ++ t.kids.loose t.c) ++ N)) L := H.p (npm fun P => by
    rw [hN]
    simp only [LN_append, ← nd_loose, List.countP_append, List.countP_cons]; omega)
  have hkl := t.kids.len_size
  have hts : t.kids.size + 1 ≤ f.size := tree_size (f := f) (by rw [e]; simp)
  have hkN : ∀ μ ∈ nd t.kids t.c, μ ∈ (⟨t, -1, w⟩ : Lt).top :: (LN (p' ++ q' ++ t.kids.loose t.c) ++ N) := fun μ hμ => by
    refine List.mem_cons_of_mem _ (List.mem_append_left _ ?_)
    rw [LN_append, ← nd_loose]
    exact List.mem_append_right _ hμ
  refine (kids_spec (k := k) (f := t.kids) H1 (List.mem_cons_self ..) rfl hkN (by omega) (by omega)).bind ?_
  rintro _ ⟨a1, rfl, H2⟩
  have ek : cs t.kids.trees = lc (t.kids.loose t.c) := by simp only [lc, loose_t]
  have ekl : (t.kids.loose t.c).length = t.kids.len := by unfold F.len; rw [← loose_t t.kids t.c]; simp
  have epq : cs (p'.map Lt.t) ++ cs (q'.map Lt.t) = lc (p' ++ q') := by rw [lc_append]; rfl
  have hpq' : (p' ++ q').length ≤ 10 := by simpa using hpl
  have htopN : ∀ l ∈ t.kids.loose t.c, l.top ∈ (⟨t, -1, w⟩ : Lt).top :: (LN (p' ++ q' ++ t.kids.loose t.c) ++ N) := fun l hl => by
    refine List.mem_cons_of_mem _ (List.mem_append_left _ (top_mem ?_))
    exact List.mem_append_right _ hl
  have h0 := without_l0 (t.c : Int) (t.kids.loose t.c) htopN (by omega) (lc (p' ++ q')) (by rw [lc_length]; omega) (t.kids.loose t.c) [] H2 k (by omega) rfl
  simp only [ek, epq]
  rw [lc_length]
  have e0 : lc (p' ++ q') ++ lc (pos []) = lc (p' ++ q') := by simp [pos, lc, cs]
  rw [e0] at h0
  refine h0.bind ?_
  rintro _ ⟨a2, rfl, H3⟩
  refine (node_End_spec H3).bind ?_
  rintro _ ⟨a3, rfl, H4⟩
  have ec : lc (p' ++ q') ++ lc (pos (t.kids.loose t.c)) = lc (p' ++ q' ++ pos (t.kids.loose t.c)) := (lc_append _ _).symm
  have hposl : (pos (t.kids.loose t.c)).length ≤ t.r := by
    have : (pos (t.kids.loose t.c)).length = (t.kids.trees.filter fun t => !(t.r == 0)).length := by
      rw [← loose_t t.kids t.c, List.filter_map, List.length_map]; rfl
    omega
  have hzerl : (zer (t.kids.loose t.c)).length ≤ t.r + 1 := by
    have : (zer (t.kids.loose t.c)).length = (t.kids.trees.filter fun t => t.r == 0).length := by
      rw [← loose_t t.kids t.c, List.filter_map, List.length_map]; rfl
    omega
  have hLN : (LN (p' ++ q' ++ t.kids.loose t.c) ++ N).Perm (LN (p' ++ q' ++ pos (t.kids.loose t.c)) ++ (LN (zer (t.kids.loose t.c)) ++ N)) := by
    have h1 := LN_perm (zp_perm (t.kids.loose t.c))
    rw [LN_append] at h1
    refine npm fun P => ?_
    have := h1.countP_eq P
    simp only [LN_append, List.countP_append] at this ⊢; omega
  have H5 := Hp.p H4 hLN
  have hgood : ∀ l ∈ t.kids.loose t.c, GT true it l.t := loose_good hk'
  simp only [ec]
  refine (carry_spec (b := true) (k := k) (by omega) (p' ++ q' ++ pos (t.kids.loose t.c)) (by rw [List.length_append]; omega) H5 (by
    intro l hl
    rcases List.mem_append.1 hl with hl | hl
    · refine hg l.t ?_
      rw [← List.map_append]
      exact List.mem_map_of_mem hl
    · exact hgood l (List.mem_filter.1 hl).1)).bind ?_
  rintro _ ⟨f', a4, rfl, H6, g1, g2, g3⟩
  have H7 : Hp κ _ a4 it (LN (zer (t.kids.loose t.c)) ++ (nd f' (-1) ++ N)) _ := H6.p (npm fun P => by simp only [List.countP_append]; omega)
  have hz0 : ∀ l ∈ zer (t.kids.loose t.c), l.t.r = 0 ∧ l.t.kids = .nil := by
    intro l hl
    obtain ⟨h1, h2⟩ := List.mem_filter.1 hl
    have h3 : l.t.r = 0 := by simpa using h2
    refine ⟨h3, ?_⟩
    have h4 := (hgood l h1).sk
    rw [h3] at h4
    exact sk_zero h4
  have hzc : (TC ((zer (t.kids.loose t.c)).map Lt.t)).length = (zer (t.kids.loose t.c)).length := by
    have : ∀ ls : List Lt, (∀ l ∈ ls, l.t.r = 0 ∧ l.t.kids = .nil) → (TC (ls.map Lt.t)).length = ls.length := by
      intro ls
      induction ls with
      | nil => intro _; rfl
      | cons l ls ih =>
        intro h
        rw [List.map_cons, TC_cons, List.length_append, ih fun l hl => h l (List.mem_cons_of_mem _ hl)]
        simp [Tr.cells, (h l (List.mem_cons_self ..)).2, F.cells]; omega
    exact this _ hz0
  have hall : (TC ((zer (t.kids.loose t.c)).map Lt.t) ++ f'.cells).Perm (TC (p'.map Lt.t ++ q'.map Lt.t) ++ t.kids.cells) := by
    have h1 := TC_perm ((zp_perm (t.kids.loose t.c)).map Lt.t)
    rw [List.map_append, TC_append, loose_t, ← F.cells_trees] at h1
    refine cpm fun P => ?_
    have h2 := h1.countP_eq P
    have h3 := g3.countP_eq P
    simp only [List.map_append, TC_append, List.countP_append] at h2 h3 ⊢; omega
  have hct := (cells_tree e).length_eq
  rw [F.size_cells, List.length_cons] at hct
  have hsum := hall.length_eq
  rw [List.length_append, hzc, F.size_cells] at hsum
  have h1 := without_l1 ((it t.c).i : Int) (zer (t.kids.loose t.c)) (by omega) f.size hsz (zer (t.kids.loose t.c)) [] f' H7 k (by omega) rfl ⟨g1, .of g2⟩ hz0 (by omega)
  rw [lc_length]
  refine h1.bind ?_
  rintro _ ⟨f2, it2, a5, rfl, H8, hb2, hc2, hp2, ho2⟩
  refine ⟨_, rfl, f2, it2, a5, rfl, H8.mono ?_, hb2, hc2.trans hall, (hall.map it2).symm.trans (hp2.trans (hall.map it)), fun d hd => ho2 d fun h => hd (hall.mem_iff.1 h)⟩
  rw [List.length_append]
  omega
/-- Pop -/
theorem pop_nil {k : Nat} (a : arena_Arena) : skew_Pop k a (-1) = some (-1, -1, a) := by
  unfold skew_Pop
  rw [live_neg (by decide)]
  rfl
theorem pop_spec {k : Nat} {f : F} (H : Hp κ n a it (nd f (-1) ++ N) L) (hb : HB true it f) (hne : f ≠ .nil) (hs : f.size < 1024) (hk : 95000 < k) :
    Do (skew_Pop k a f.hd) fun r => ∃ c f' it' a', r = (f'.hd, ((it c).i : Int), a') ∧ Hp κ (n + 900) a' it' (nd f' (-1) ++ N) (((it c).i, (it c).cell (-1)) :: L) ∧ HB true it' f' ∧ (f.cells.map it).Perm (it c :: f'.cells.map it') ∧ (∀ d, d ∉ f.cells → it' d = it d) ∧ c ∈ f.cells ∧ ∀ d ∈ f.cells, ¬ (it d).lt (it c) := by
  unfold skew_Pop
  have hsub : ∀ ν ∈ nd f (-1), ν ∈ nd f (-1) ++ N := fun ν h => List.mem_append_left _ h
  have hroom := len_ok H
  have hls := f.len_size
  have hcap := H.cap
  have hR : f.size < 2 ^ 10 := by simpa using hs
  have hlen := hb.len hR
  cases ef : f.trees with
  | nil =>
    cases f with
    | nil => exact absurd rfl hne
    | cons => simp [F.trees] at ef
  | cons t0 ts =>
    have hlive : arena_Arena_Live a f.hd = some true := by
      cases f with
      | nil => exact absurd rfl hne
      | cons c r kids rest => exact H.live (hsub _ (List.mem_cons_self ..))
    refine Do.assoc (Do.seq hlive ?_)
    refine Do.seq rfl (Do.f rfl ?_)
    refine (list_spec (k := k) H hsub (by omega) (by omega)).bind ?_
    rintro _ ⟨a1, rfl, H1⟩
    refine (best_heap (k := k) H1 hsub hb ef hk (by omega)).bind ?_
    rintro _ ⟨t, a2, ht, rfl, H2, hmin⟩
    obtain ⟨p, q, e, hp, hq⟩ := root_split H2 ht
    have hrk := hb.lt hR t ht
    have hpq : (p ++ q).length + 1 = f.len := by unfold F.len; rw [e]; simp; omega
    refine (without_spec (k := k) H2 e hp hq (fun s hs => hb.good s (by rw [e]; rcases List.mem_append.1 hs with h | h <;> simp [h])) (hb.good t ht).kids (hb.good t ht).sk (by omega) (by omega) hs hk).bind ?_
    rintro _ ⟨f', it', a3, rfl, H3, h1, h2, h3, h4⟩
    have hcp := cells_tree e
    refine ⟨_, rfl, t.c, f', it', a3, rfl, H3.mono (by omega), h1, ?_, fun d hd => h4 d fun h => hd (hcp.mem_iff.2 (List.mem_cons_of_mem _ h)), hcp.mem_iff.2 (List.mem_cons_self ..), hmin⟩
    refine (hcp.map it).trans ?_
    rw [List.map_cons]
    exact (h3.symm.trans (h2.symm.map it')).cons _
/-- Push -/
theorem push_spec {k : Nat} {f : F} {x : It} (H : Hp κ n a it (nd f (-1) ++ N) ((x.i, x.cell (-1)) :: L)) (hb : HB true it f) (hs : f.size < 1024) (hr : 2 * f.size + 2 * N.length + 1 + L.length < κ.C) (hk : 95000 < k) :
    Do (skew_Push k a f.hd (x.i : Int)) fun r => ∃ f' it' a', r = (f'.hd, true, a') ∧ Hp κ (n + 500) a' it' (nd f' (-1) ++ N) L ∧ HB true it' f' ∧ (f'.cells.map it').Perm (x :: f.cells.map it) ∧ ∀ ν ∈ N, it' ν.c = it ν.c := by
  unfold skew_Push
  have hR : f.size < 2 ^ 10 := by simpa using hs
  refine (node_New_spec H (by rw [List.length_append, nd_size]; omega)).bind ?_
  rintro _ ⟨c, a1, rfl, H1, hc⟩
  refine Do.f rfl ?_
  have hcf : c ∉ f.cells := fun h => by
    obtain ⟨ν, hν, e⟩ := cell_node (up := -1) h
    exact hc ν (List.mem_append_left _ hν) e
  have hb' : HB true (upd it c x) f := hb.congr fun d hd => upd_ne _ _ (fun e => hcf (e ▸ hd))
  have H2 : Hp κ (n + 3) a1 (upd it c x) ((Tr.mk c 0 .nil).nd (-1) (-1) ++ (nd f (-1) ++ N)) L := H1
  refine (single_spec (k := k) (by omega) H2 hb' (fun t ht => by have := hb.lt hR t ht; omega)).bind ?_
  rintro _ ⟨f', it', a2, rfl, H3, h1, h2, h3, h4⟩
  refine ⟨_, rfl, f', it', a2, rfl, H3.mono (by omega), h1, ?_, fun ν hν => ?_⟩
  · refine (h2.map it').trans (h3.trans ?_)
    rw [List.map_cons, upd_same, List.map_congr_left (f := upd it c x) (g := it) fun d hd => upd_ne _ _ fun e => hcf (e ▸ hd)]
  · have hνc := hc ν (List.mem_append_right _ hν)
    rw [h4 ν.c ?_, upd_ne _ _ hνc]
    intro hm
    rcases List.mem_cons.1 hm with h5 | h5
    · exact hνc h5
    · have := H.nd
      rw [List.map_append, nd_cells] at this
      exact (List.nodup_append.1 this).2.2 _ h5 _ (List.mem_map_of_mem hν) rfl
theorem push_full {k : Nat} {f : F} {x : It} {r : Int} (H : Hp κ n a it N ((x.i, x.cell (-1)) :: L)) (hr : 2 * N.length + 1 + L.length = κ.C) :
    Do (skew_Push k a r (x.i : Int)) fun res => ∃ a', res = (r, false, a') ∧ Hp κ (n + 1) a' it N ((x.i, x.cell (-1)) :: L) := by
  unfold skew_Push
  refine (node_New_full H hr).bind ?_
  rintro _ ⟨a1, rfl, H1⟩
  refine Do.t rfl ?_
  exact ⟨_, rfl, a1, rfl, H1⟩
/-- Meld -/
theorem meld_spec {k : Nat} {f g : F} (H : Hp κ n a it (nd f (-1) ++ (nd g (-1) ++ N)) L) (hf : HB true it f) (hg : HB true it g) (hs : f.size < 256) (hs' : g.size < 256) (hk : 95000 < k) :
    Do (skew_Meld k a f.hd g.hd) fun r => ∃ f' a', r = (f'.hd, a') ∧ Hp κ (n + 500) a' it (nd f' (-1) ++ N) L ∧ HB true it f' ∧ f'.cells.Perm (f.cells ++ g.cells) := by
  unfold skew_Meld
  have hroom := len_ok H
  rw [List.length_append, nd_size] at hroom
  have hls := f.len_size
  have hls' := g.len_size
  have hcap := H.cap
  have hlen := hf.len (R := 8) (by simpa using hs)
  have hlen' := hg.len (R := 8) (by simpa using hs')
  by_cases hne : f.hd = g.hd
  · have : f = .nil ∧ g = .nil := by
      cases f with
      | nil =>
        cases g with
        | nil => exact ⟨rfl, rfl⟩
        | cons c r kids rest => simp only [F.hd] at hne; omega
      | cons c r kids rest =>
        cases g with
        | nil => simp only [F.hd] at hne; omega
        | cons c' r' kids' rest' =>
          simp only [F.hd] at hne
          have hn := H.nd
          have : c = c' := by omega
          subst this
          rw [nd, List.cons_append, List.map_cons, List.nodup_cons] at hn
          exact absurd (by simp [nd]) hn.1
    obtain ⟨rfl, rfl⟩ := this
    refine Do.t (by simp) ?_
    exact ⟨_, rfl, .nil, a, rfl, H.mono (by omega), HB.nil, .refl _⟩
  · refine Do.f (by simpa using hne) ?_
    refine (list_spec (k := k) H (fun ν h => List.mem_append_left _ h) (by omega) (by omega)).bind ?_
    rintro _ ⟨a1, rfl, H1⟩
    refine (list_spec (k := k) H1 (fun ν h => List.mem_append_right _ (List.mem_append_left _ h)) (by omega) (by omega)).bind ?_
    rintro _ ⟨a2, rfl, H2⟩
    refine Do.seq (mApp_ok (by simp [cs] at *; unfold F.len at hlen hlen'; omega)) ?_
    have e1 : cs f.trees ++ cs g.trees = lc (f.loose (-1) ++ g.loose (-1)) := by
      rw [lc_append, lc, lc, loose_t, loose_t]
    have H3 : Hp κ (n + f.len + g.len) a2 it (LN (f.loose (-1) ++ g.loose (-1)) ++ N) L := by
      rw [LN_append, ← nd_loose, ← nd_loose, List.append_assoc]; exact H2
    have hll : (f.loose (-1) ++ g.loose (-1)).length = f.len + g.len := by
      unfold F.len; rw [← loose_t f (-1), ← loose_t g (-1)]; simp
    simp only [e1]
    refine (carry_spec (b := true) (k := k) (by omega) _ (by omega) H3 (by
      intro l hl
      rcases List.mem_append.1 hl with hl | hl
      · exact loose_good hf.good l hl
      · exact loose_good hg.good l hl)).bind ?_
    rintro _ ⟨f', a3, rfl, H4, g1, g2, g3⟩
    refine ⟨_, rfl, f', a3, rfl, H4.mono (by omega), ⟨g1, .of g2⟩, g3.trans ?_⟩
    rw [List.map_append, TC_append, loose_t, loose_t, ← F.cells_trees, ← F.cells_trees]
/-- behind a rise to the root: the trees but for that root are good -/
theorem rise_good {b : Bool} {it' : Nat → It} {f : F} {t : Tr} {p q : List Tr} (hn : f.cells.Nodup) (hb : HB b it f) (e : f.trees = p ++ t :: q) (hI : RI it' (nd f (-1)) t.c true) :
    (∀ s ∈ p ++ q, GT b it' s) ∧ (∀ s ∈ t.kids.trees, GT b it' s) := by
  rw [F.cells_trees, e] at hn
  have hn' : (t.c :: (TC (p ++ q) ++ t.kids.cells)).Nodup := by
    refine (List.Perm.nodup_iff (cpm fun P => ?_)).1 hn
    simp only [TC_append, TC_cons, Tr.cells, List.countP_append, List.countP_cons, List.cons_append]; omega
  obtain ⟨h1, h2⟩ := List.nodup_cons.1 hn'
  have key : ∀ s : Tr, (∀ ν ∈ nd s.kids s.c, ν ∈ nd f (-1)) → (∀ d ∈ s.cells, d ≠ t.c) → Ord it' (nd s.kids s.c) := by
    intro s hs hd ν hν q hq
    obtain ⟨e1, e2⟩ := nd_up s.kids s.c ν hν
    refine hI.rest ν (hs ν hν) (hd _ (List.mem_cons_of_mem _ e1)) q hq ?_
    rcases e2 with e2 | ⟨d, hd', e2⟩
    · have : q = s.c := by omega
      subst this; exact hd _ (List.mem_cons_self ..)
    · have : q = d := by omega
      subst this; exact hd _ (List.mem_cons_of_mem _ hd')
  refine ⟨fun s hs => ?_, fun s hs => ?_⟩
  · have hsf : s ∈ f.trees := by rw [e]; rcases List.mem_append.1 hs with h | h <;> simp [h]
    refine ⟨(hb.good s hsf).sk, key s (fun ν hν => nd_tree hsf ν hν) fun d hd e' => ?_⟩
    exact h1 (e' ▸ List.mem_append_left _ (List.mem_flatMap.2 ⟨s, hs, hd⟩))
  · have htf : t ∈ f.trees := by rw [e]; simp
    have gt := hb.good t htf
    refine ⟨(sk_kids gt.sk s hs).1, key s (fun ν hν => nd_tree htf ν (nd_tree hs ν hν)) fun d hd e' => ?_⟩
    refine h1 (e' ▸ List.mem_append_right _ ?_)
    rw [F.cells_trees]
    exact List.mem_flatMap.2 ⟨s, hs, hd⟩
theorem root_of {f : F} {μ : Nd} {b : Bool} (hg : ∀ t ∈ f.trees, SK b t.kids t.r) (hμ : μ ∈ nd f (-1)) (hup : μ.up = -1) : ∃ t ∈ f.trees, μ.c = t.c := by
  rcases (upok f (-1) hg μ hμ).2 with ⟨_, t, ht, _, e⟩ | ⟨ξ, _, e, _⟩
  · exact ⟨t, ht, e⟩
  · omega
/-- Cut -/
theorem cut_spec {k : Nat} {f : F} {c : Nat} (H : Hp κ n a it (nd f (-1) ++ N) L) (hb : HB true it f) (hc : c ∈ f.cells) (hs : f.size < 1024) (hk : 95000 < k) :
    Do (skew_Cut k a f.hd ((it c).i : Int)) fun r => ∃ it' f' a', r = (f'.hd, a') ∧ Hp κ (n + 900) a' it' (nd f' (-1) ++ N) (((it c).i, (it c).cell (-1)) :: L) ∧ HB true it' f' ∧ (∀ d, d ∉ f.cells → it' d = it d) ∧ (f.cells.map it).Perm (it c :: f'.cells.map it') ∧ (∀ d ∈ f'.cells, d ∈ f.cells) := by
  unfold skew_Cut item_Node
  obtain ⟨ν, hν, rfl⟩ := cell_node (up := -1) hc
  have mν : ν ∈ nd f (-1) ++ N := List.mem_append_left _ hν
  have hss := hp_same H
  have hpos : 0 < f.size := by
    rw [← F.size_cells]; exact List.length_pos_of_mem hc
  have hroom := len_ok H
  have hls := f.len_size
  have hcap := H.cap
  have hR : f.size < 2 ^ 10 := by simpa using hs
  have hlen := hb.len hR
  obtain ⟨R, h1, h2, h3⟩ := size_le (b := true) H hpos fun t ht => (hb.good t ht).sk
  have hRQ := h3 10 hR
  refine Do.assoc ((Ar.cell H (H.item mν) (f := 9) (v := (ν.c : Int)) rfl (by omega) (by have := H.lt mν; omega)).bind ?_)
  rintro _ ⟨a1, rfl, H1⟩
  refine Do.seq rfl ?_
  refine Do.f (by simp) ?_
  have := rise_spec (k := k) true (nd f (-1)) hb.upOK R (fun ν hν => by
    obtain ⟨t, ht, e⟩ := rank_le f (-1) (fun t ht => (hb.good t ht).sk) ν hν
    have := h1 t ht; omega) (N := N) (L := L) H1 ν hν (by omega) h2 hb.ord.any
  refine this.bind ?_
  rintro _ ⟨μ, it', a2, rfl, hμ, H2, e1, e2, e3, _, e5⟩
  obtain ⟨hup, hI⟩ := e5 rfl
  rw [nd_cells] at e2 e3
  obtain ⟨t, ht, et⟩ := root_of (fun t ht => (hb.good t ht).sk) hμ hup
  have hsub : ∀ ν ∈ nd f (-1), ν ∈ nd f (-1) ++ N := fun ν h => List.mem_append_left _ h
  refine (list_spec (k := k) H2 hsub (by omega) (by omega)).bind ?_
  rintro _ ⟨a3, rfl, H3⟩
  rw [et] at hI e1 ⊢
  refine Do.seq (contains_spec (cs f.trees) (t.c : Int) (by rw [cs_length]; unfold F.len at hlen; omega) (by rw [cs_length]; unfold F.len at hlen; omega) (List.mem_map.2 ⟨t, ht, rfl⟩)) ?_
  refine Do.f rfl ?_
  obtain ⟨p, q, e, hp, hq⟩ := root_split H3 ht
  have hn : f.cells.Nodup := by
    have := H.nd
    rw [List.map_append, nd_cells] at this
    exact (List.nodup_append.1 this).1
  obtain ⟨g1, g2⟩ := rise_good hn hb e hI
  have hrk := hb.lt hR t ht
  have hpq : (p ++ q).length + 1 = f.len := by unfold F.len; rw [e]; simp; omega
  refine (without_spec (k := k) H3 e hp hq g1 g2 (hb.good t ht).sk (by omega) (by omega) hs hk).bind ?_
  rintro _ ⟨f', it2, a4, rfl, H4, h4, h5, h6, h7⟩
  rw [e1] at H4
  have hcp := cells_tree e
  refine ⟨_, rfl, it2, f', a4, rfl, H4.mono (by omega), h4, fun d hd => ?_, ?_, fun d hd => hcp.mem_iff.2 (List.mem_cons_of_mem _ (h5.mem_iff.1 hd))⟩
  · rw [h7 d fun h => hd (hcp.mem_iff.2 (List.mem_cons_of_mem _ h)), e2 d hd]
  · refine e3.symm.trans ?_
    have := hcp.map it'
    rw [List.map_cons, e1] at this
    exact this.trans ((h6.symm.trans (h5.symm.map it2)).cons _)
end
end Go.Proofs.YtmidmkinclmbdaaGreat
