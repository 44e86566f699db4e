/-
  The plain law of binomial heaps: Push, Pop, Cut, Meld.
-/
import Derived.Test.YtmidmkinclmbdaaGreatP8
set_option linter.unusedVariables false
set_option linter.unusedSimpArgs false
set_option maxRecDepth 10000
namespace Go.Proofs.YtmidmkinclmbdaaGreat
open Go.Th

section
variable {κ : Cfg} {n : Nat} {a : arena_Arena} {it : Nat → It} {N : List Nd} {L : Heap}
theorem cs_append (s t : List Tr) : cs (s ++ t) = cs s ++ cs t := List.map_append
theorem cells_tree {f : F} {p q : List Tr} {t : Tr} (e : f.trees = p ++ t :: q) : f.cells.Perm (t.c :: (TC (p ++ q) ++ t.kids.cells)) := by
  rw [F.cells_trees, e]
  refine cpm fun P => ?_
  simp only [TC_append, TC_cons, Tr.cells, List.countP_append, List.countP_cons, List.cons_append]
  omega
/-- a heap without one of its roots -/
theorem without_spec {k : Nat} {f : F} {p q : List Tr} {t : Tr} (H : Hp κ n a it (nd f (-1) ++ N) L) (e : f.trees = p ++ t :: q) (hp : (t.c : Int) ∉ cs p) (hq : (t.c : Int) ∉ cs q)
    (hg : ∀ s ∈ p ++ q, GT false it s) (hk' : ∀ s ∈ t.kids.trees, GT false it s) (hlen : (p ++ q).length + t.kids.len ≤ 20) (hk : 95000 < k) :
    Do (binomial_without k a (cs f.trees) (t.c : Int)) fun r => ∃ f' a', r = (f'.hd, ((it t.c).i : Int), a') ∧ Hp κ (n + 4 + t.kids.len + 14 * ((p ++ q).length + t.kids.len)) a' it (nd f' (-1) ++ N) (((it t.c).i, (it t.c).cell (-1)) :: L) ∧ HB false it f' ∧ f'.cells.Perm (TC (p ++ q) ++ t.kids.cells) := by
  unfold binomial_without
  have hroom := len_ok H
  have hcap := H.cap
  have hl20 : (p ++ q).length ≤ 20 := by omega
  rw [List.length_append] at hl20
  rw [e, cs_append]
  refine Do.seq (deletefunc_spec (cs p) (cs q) (t.c : Int) hp hq (by simp [cs]; omega) (by simp [cs]; omega)) ?_
  obtain ⟨p', q', w, hl, rfl, rfl⟩ := loose_split (f := f) (up := -1) e
  have hN : nd f (-1) = LN p' ++ ((⟨t, -1, w⟩ : Lt).top :: (nd t.kids t.c ++ LN q')) := by
    rw [nd_loose, hl, LN_append, LN_cons, Lnd_eq]; simp
  have H1 : Hp κ n a it ((⟨t, -1, w⟩ : Lt).top :: (LN (p' ++ q' ++ t.kids.loose t.c) ++ N)) L := H.p (npm fun P => by
    rw [hN]
    simp only [LN_append, ← nd_loose, List.countP_append, List.countP_cons]; omega)
  have hkl := t.kids.len_size
  have hts : t.kids.size + 1 ≤ f.size := tree_size (f := f) (by rw [e]; simp)
  refine (kids_spec (k := k) (f := t.kids) H1 (List.mem_cons_self ..) rfl (fun μ hμ => ?_) (by omega) (by omega)).bind ?_
  · refine List.mem_cons_of_mem _ (List.mem_append_left _ ?_)
    rw [LN_append, ← nd_loose]
    exact List.mem_append_right _ hμ
  rintro _ ⟨a1, rfl, H2⟩
  refine Do.seq (mApp_ok (by simp [cs] at *; unfold F.len at hlen; omega)) ?_
  refine (node_End_spec H2).bind ?_
  rintro _ ⟨a2, rfl, H3⟩
  have ec : cs (p'.map Lt.t) ++ cs (q'.map Lt.t) ++ cs t.kids.trees = lc (p' ++ q' ++ t.kids.loose t.c) := by
    rw [lc_append, lc_append]; simp only [lc, loose_t]
  have hll : (p' ++ q' ++ t.kids.loose t.c).length = (p'.map Lt.t ++ q'.map Lt.t).length + t.kids.len := by
    unfold F.len; rw [← loose_t t.kids t.c]; simp [Nat.add_assoc]
  simp only [ec]
  refine (carry_spec (b := false) (k := k) (by omega) (p' ++ q' ++ t.kids.loose t.c) (by omega) H3 (by
    intro l hl
    rcases List.mem_append.1 hl with hl | hl
    · refine hg l.t ?_
      rw [← List.map_append]
      exact List.mem_map_of_mem hl
    · exact loose_good hk' l hl)).bind ?_
  rintro _ ⟨f', a3, rfl, H4, g1, g2, g3⟩
  refine ⟨_, rfl, f', a3, rfl, H4.mono (by rw [hll]; omega), ⟨g1, .of g2⟩, g3.trans ?_⟩
  rw [List.map_append, List.map_append, TC_append, loose_t, ← F.cells_trees]
/-- Pop -/
theorem pop_nil {k : Nat} (a : arena_Arena) : binomial_Pop k a (-1) = some (-1, -1, a) := by
  unfold binomial_Pop
  rw [live_neg (by decide)]
  rfl
theorem pop_spec {k : Nat} {f : F} (H : Hp κ n a it (nd f (-1) ++ N) L) (hb : HB false it f) (hne : f ≠ .nil) (hs : f.size < 1024) (hk : 95000 < k) :
    Do (binomial_Pop k a f.hd) fun r => ∃ c f' it' a', r = (f'.hd, ((it c).i : Int), a') ∧ Hp κ (n + 500) a' it' (nd f' (-1) ++ N) (((it c).i, (it c).cell (-1)) :: L) ∧ HB false it' f' ∧ (f.cells.map it).Perm (it c :: f'.cells.map it') ∧ (∀ d, d ∉ f.cells → it' d = it d) ∧ c ∈ f.cells ∧ ∀ d ∈ f.cells, ¬ (it d).lt (it c) := by
  unfold binomial_Pop
  have hsub : ∀ ν ∈ nd f (-1), ν ∈ nd f (-1) ++ N := fun ν h => List.mem_append_left _ h
  have hroom := len_ok H
  have hls := f.len_size
  have hcap := H.cap
  have hR : f.size < 2 ^ 10 := by simpa using hs
  have hlen := hb.lenB hR
  cases ef : f.trees with
  | nil =>
    cases f with
    | nil => exact absurd rfl hne
    | cons => simp [F.trees] at ef
  | cons t0 ts =>
    have hlive : arena_Arena_Live a f.hd = some true := by
      cases f with
      | nil => exact absurd rfl hne
      | cons c r kids rest => exact H.live (hsub _ (List.mem_cons_self ..))
    refine Do.assoc (Do.seq hlive ?_)
    refine Do.seq rfl (Do.f rfl ?_)
    refine (list_spec (k := k) H hsub (by omega) (by omega)).bind ?_
    rintro _ ⟨a1, rfl, H1⟩
    refine (best_heap (k := k) H1 hsub hb ef hk (by omega)).bind ?_
    rintro _ ⟨t, a2, ht, rfl, H2, hmin⟩
    obtain ⟨p, q, e, hp, hq⟩ := root_split H2 ht
    have hrk := hb.lt hR t ht
    have hkl := (sk_len (hb.good t ht).sk).2 rfl
    have hpq : (p ++ q).length + 1 = f.len := by unfold F.len; rw [e]; simp; omega
    refine (without_spec (k := k) H2 e hp hq (fun s hs => hb.good s (by rw [e]; rcases List.mem_append.1 hs with h | h <;> simp [h])) (hb.good t ht).kids (by omega) hk).bind ?_
    rintro _ ⟨f', a3, rfl, H3, h1, h2⟩
    have hcp := (cells_tree e).trans (h2.symm.cons _)
    refine ⟨_, rfl, t.c, f', it, a3, rfl, H3.mono (by omega), h1, ?_, fun _ _ => rfl, hcp.mem_iff.2 (List.mem_cons_self ..), hmin⟩
    have := hcp.map it
    rwa [List.map_cons] at this
/-- Push -/
theorem push_spec {k : Nat} {f : F} {x : It} (H : Hp κ n a it (nd f (-1) ++ N) ((x.i, x.cell (-1)) :: L)) (hb : HB false it f) (hs : f.size < 1024) (hr : 2 * f.size + 2 * N.length + 1 + L.length < κ.C) (hk : 95000 < k) :
    Do (binomial_Push k a f.hd (x.i : Int)) fun r => ∃ f' it' a', r = (f'.hd, true, a') ∧ Hp κ (n + 500) a' it' (nd f' (-1) ++ N) L ∧ HB false it' f' ∧ (f'.cells.map it').Perm (x :: f.cells.map it) ∧ ∀ ν ∈ N, it' ν.c = it ν.c := by
  unfold binomial_Push
  have hroom := len_ok H
  have hls := f.len_size
  have hcap := H.cap
  have hR : f.size < 2 ^ 10 := by simpa using hs
  have hlen := hb.lenB hR
  refine (node_New_spec H (by rw [List.length_append, nd_size]; omega)).bind ?_
  rintro _ ⟨c, a1, rfl, H1, hc⟩
  refine Do.f rfl ?_
  have hcf : c ∉ f.cells := fun h => by
    obtain ⟨ν, hν, e⟩ := cell_node (up := -1) h
    exact hc ν (List.mem_append_left _ hν) e
  have hsub : ∀ ν ∈ nd f (-1), ν ∈ (⟨c, -1, -1, -1, -1, 0, 0⟩ : Nd) :: (nd f (-1) ++ N) := fun ν h => List.mem_cons_of_mem _ (List.mem_append_left _ h)
  refine (list_spec (k := k) H1 hsub (by omega) (by omega)).bind ?_
  rintro _ ⟨a2, rfl, H2⟩
  refine Do.seq (mApp_ok (by simp [cs] at *; unfold F.len at hlen; omega)) ?_
  have hb' : HB false (upd it c x) f := hb.congr fun d hd => upd_ne _ _ (fun e => hcf (e ▸ hd))
  have e1 : ([(c : Int)] ++ cs f.trees : List Int) = lc ((⟨⟨c, 0, .nil⟩, -1, -1⟩ : Lt) :: f.loose (-1)) := by
    rw [lc_cons, lc, loose_t]; rfl
  have H3 : Hp κ (n + 3 + f.len) a2 (upd it c x) (LN ((⟨⟨c, 0, .nil⟩, -1, -1⟩ : Lt) :: f.loose (-1)) ++ N) L := by
    rw [LN_cons, ← nd_loose]; exact H2
  have hll : ((⟨⟨c, 0, .nil⟩, -1, -1⟩ : Lt) :: f.loose (-1)).length = f.len + 1 := by
    unfold F.len; rw [← loose_t f (-1)]; simp
  simp only [e1]
  refine (carry_spec (b := false) (k := k) (by omega) _ (by omega) H3 (by
    intro l hl
    rcases List.mem_cons.1 hl with rfl | hl
    · exact ⟨.nil, fun ν hν => by simp [nd] at hν⟩
    · exact loose_good hb'.good l hl)).bind ?_
  rintro _ ⟨f', a3, rfl, H4, g1, g2, g3⟩
  refine ⟨_, rfl, f', upd it c x, a3, rfl, H4.mono (by omega), ⟨g1, .of g2⟩, ?_, fun ν hν => upd_ne _ _ (hc ν (List.mem_append_right _ hν))⟩
  rw [List.map_cons, TC_cons, loose_t, ← F.cells_trees] at g3
  have h1 := g3.map (upd it c x)
  have h2 : f.cells.map (upd it c x) = f.cells.map it := List.map_congr_left fun d hd => upd_ne _ _ fun e => hcf (e ▸ hd)
  have h3 : (Tr.cells ⟨c, 0, .nil⟩ ++ f.cells).map (upd it c x) = x :: f.cells.map it := by
    rw [← h2]; simp [Tr.cells, F.cells, upd_same]
  rwa [h3] at h1
theorem push_full {k : Nat} {f : F} {x : It} {r : Int} (H : Hp κ n a it N ((x.i, x.cell (-1)) :: L)) (hr : 2 * N.length + 1 + L.length = κ.C) :
    Do (binomial_Push k a r (x.i : Int)) fun res => ∃ a', res = (r, false, a') ∧ Hp κ (n + 1) a' it N ((x.i, x.cell (-1)) :: L) := by
  unfold binomial_Push
  refine (node_New_full H hr).bind ?_
  rintro _ ⟨a1, rfl, H1⟩
  refine Do.t rfl ?_
  exact ⟨_, rfl, a1, rfl, H1⟩
/-- Meld -/
theorem meld_spec {k : Nat} {f g : F} (H : Hp κ n a it (nd f (-1) ++ (nd g (-1) ++ N)) L) (hf : HB false it f) (hg : HB false it g) (hs : f.size < 1024) (hs' : g.size < 1024) (hk : 95000 < k) :
    Do (binomial_Meld k a f.hd g.hd) fun r => ∃ f' a', r = (f'.hd, a') ∧ Hp κ (n + 500) a' it (nd f' (-1) ++ N) L ∧ HB false it f' ∧ f'.cells.Perm (f.cells ++ g.cells) := by
  unfold binomial_Meld
  have hroom := len_ok H
  rw [List.length_append, nd_size] at hroom
  have hls := f.len_size
  have hls' := g.len_size
  have hcap := H.cap
  have hlen := hf.lenB (R := 10) (by simpa using hs)
  have hlen' := hg.lenB (R := 10) (by simpa using hs')
  by_cases hne : f.hd = g.hd
  · have : f = .nil ∧ g = .nil := by
      cases f with
      | nil =>
        cases g with
        | nil => exact ⟨rfl, rfl⟩
        | cons c r kids rest => simp only [F.hd] at hne; omega
      | cons c r kids rest =>
        cases g with
        | nil => simp only [F.hd] at hne; omega
        | cons c' r' kids' rest' =>
          simp only [F.hd] at hne
          have hn := H.nd
          have : c = c' := by omega
          subst this
          rw [nd, List.cons_append, List.map_cons, List.nodup_cons] at hn
          exact absurd (by simp [nd]) hn.1
    obtain ⟨rfl, rfl⟩ := this
    refine Do.t (by simp) ?_
    exact ⟨_, rfl, .nil, a, rfl, H.mono (by omega), HB.nil, .refl _⟩
  · refine Do.f (by simpa using hne) ?_
    refine (list_spec (k := k) H (fun ν h => List.mem_append_left _ h) (by omega) (by omega)).bind ?_
    rintro _ ⟨a1, rfl, H1⟩
    refine (list_spec (k := k) H1 (fun ν h => List.mem_append_right _ (List.mem_append_left _ h)) (by omega) (by omega)).bind ?_
    rintro _ ⟨a2, rfl, H2⟩
    refine Do.seq (mApp_ok (by simp [cs] at *; unfold F.len at hlen hlen'; omega)) ?_
    have e1 : cs f.trees ++ cs g.trees = lc (f.loose (-1) ++ g.loose (-1)) := by
      rw [lc_append, lc, lc, loose_t, loose_t]
    have H3 : Hp κ (n + f.len + g.len) a2 it (LN (f.loose (-1) ++ g.loose (-1)) ++ N) L := by
      rw [LN_append, ← nd_loose, ← nd_loose, List.append_assoc]; exact H2
    have hll : (f.loose (-1) ++ g.loose (-1)).length = f.len + g.len := by
      unfold F.len; rw [← loose_t f (-1), ← loose_t g (-1)]; simp
    simp only [e1]
    refine (carry_spec (b := false) (k := k) (by omega) _ (by omega) H3 (by
      intro l hl
      rcases List.mem_append.1 hl with hl | hl
      · exact loose_good hf.good l hl
      · exact loose_good hg.good l hl)).bind ?_
    rintro _ ⟨f', a3, rfl, H4, g1, g2, g3⟩
    refine ⟨_, rfl, f', a3, rfl, H4.mono (by omega), ⟨g1, .of g2⟩, g3.trans ?_⟩
    rw [List.map_append, TC_append, loose_t, loose_t, ← F.cells_trees, ← F.cells_trees]
/-- behind a rise to the root: the trees but for that root are good -/
theorem rise_good {b : Bool} {it' : Nat → It} {f : F} {t : Tr} {p q : List Tr} (hn : f.cells.Nodup) (hb : HB b it f) (e : f.trees = p ++ t :: q) (hI : RI it' (nd f (-1)) t.c true) :
    (∀ s ∈ p ++ q, GT b it' s) ∧ (∀ s ∈ t.kids.trees, GT b it' s) := by
  rw [F.cells_trees, e] at hn
  have hn' : (t.c :: (TC (p ++ q) ++ t.kids.cells)).Nodup := by
    refine (List.Perm.nodup_iff (cpm fun P => ?_)).1 hn
    simp only [TC_append, TC_cons, Tr.cells, List.countP_append, List.countP_cons, List.cons_append]; omega
  obtain ⟨h1, h2⟩ := List.nodup_cons.1 hn'
  have key : ∀ s : Tr, (∀ ν ∈ nd s.kids s.c, ν ∈ nd f (-1)) → (∀ d ∈ s.cells, d ≠ t.c) → Ord it' (nd s.kids s.c) := by
    intro s hs hd ν hν q hq
    obtain ⟨e1, e2⟩ := nd_up s.kids s.c ν hν
    refine hI.rest ν (hs ν hν) (hd _ (List.mem_cons_of_mem _ e1)) q hq ?_
    rcases e2 with e2 | ⟨d, hd', e2⟩
    · have : q = s.c := by omega
      subst this; exact hd _ (List.mem_cons_self ..)
    · have : q = d := by omega
      subst this; exact hd _ (List.mem_cons_of_mem _ hd')
  refine ⟨fun s hs => ?_, fun s hs => ?_⟩
  · have hsf : s ∈ f.trees := by rw [e]; rcases List.mem_append.1 hs with h | h <;> simp [h]
    refine ⟨(hb.good s hsf).sk, key s (fun ν hν => nd_tree hsf ν hν) fun d hd e' => ?_⟩
    exact h1 (e' ▸ List.mem_append_left _ (List.mem_flatMap.2 ⟨s, hs, hd⟩))
  · have htf : t ∈ f.trees := by rw [e]; simp
    have gt := hb.good t htf
    refine ⟨(sk_kids gt.sk s hs).1, key s (fun ν hν => nd_tree htf ν (nd_tree hs ν hν)) fun d hd e' => ?_⟩
    refine h1 (e' ▸ List.mem_append_right _ ?_)
    rw [F.cells_trees]
    exact List.mem_flatMap.2 ⟨s, hs, hd⟩
theorem root_of {f : F} {μ : Nd} {b : Bool} (hg : ∀ t ∈ f.trees, SK b t.kids t.r) (hμ : μ ∈ nd f (-1)) (hup : μ.up = -1) : ∃ t ∈ f.trees, μ.c = t.c := by
  rcases (upok f (-1) hg μ hμ).2 with ⟨_, t, ht, _, e⟩ | ⟨ξ, _, e, _⟩
  · exact ⟨t, ht, e⟩
  · omega
/-- Cut -/
theorem cut_spec {k : Nat} {f : F} {c : Nat} (H : Hp κ n a it (nd f (-1) ++ N) L) (hb : HB false it f) (hc : c ∈ f.cells) (hs : f.size < 1024) (hk : 95000 < k) :
    Do (binomial_Cut k a f.hd ((it c).i : Int)) fun r => ∃ it' f' a', r = (f'.hd, a') ∧ Hp κ (n + 500) a' it' (nd f' (-1) ++ N) (((it c).i, (it c).cell (-1)) :: L) ∧ HB false it' f' ∧ (∀ d, d ∉ f.cells → it' d = it d) ∧ (f.cells.map it).Perm (it c :: f'.cells.map it') ∧ (∀ d ∈ f'.cells, d ∈ f.cells) := by
  unfold binomial_Cut item_Node
  obtain ⟨ν, hν, rfl⟩ := cell_node (up := -1) hc
  have mν : ν ∈ nd f (-1) ++ N := List.mem_append_left _ hν
  have hss := hp_same H
  have hpos : 0 < f.size := by
    rw [← F.size_cells]; exact List.length_pos_of_mem hc
  have hroom := len_ok H
  have hls := f.len_size
  have hcap := H.cap
  have hR : f.size < 2 ^ 10 := by simpa using hs
  have hlen := hb.lenB hR
  obtain ⟨R, h1, h2, h3⟩ := size_le (b := false) H hpos fun t ht => (hb.good t ht).sk
  have hRQ := h3 10 hR
  refine Do.assoc ((Ar.cell H (H.item mν) (f := 9) (v := (ν.c : Int)) rfl (by omega) (by have := H.lt mν; omega)).bind ?_)
  rintro _ ⟨a1, rfl, H1⟩
  refine Do.seq rfl ?_
  refine Do.f (by simp) ?_
  have := rise_spec (k := k) true (nd f (-1)) hb.upOK R (fun ν hν => by
    obtain ⟨t, ht, e⟩ := rank_le f (-1) (fun t ht => (hb.good t ht).sk) ν hν
    have := h1 t ht; omega) (N := N) (L := L) H1 ν hν (by omega) h2 hb.ord.any
  refine this.bind ?_
  rintro _ ⟨μ, it', a2, rfl, hμ, H2, e1, e2, e3, _, e5⟩
  obtain ⟨hup, hI⟩ := e5 rfl
  rw [nd_cells] at e2 e3
  obtain ⟨t, ht, et⟩ := root_of (fun t ht => (hb.good t ht).sk) hμ hup
  have hsub : ∀ ν ∈ nd f (-1), ν ∈ nd f (-1) ++ N := fun ν h => List.mem_append_left _ h
  refine (list_spec (k := k) H2 hsub (by omega) (by omega)).bind ?_
  rintro _ ⟨a3, rfl, H3⟩
  rw [et] at hI e1 ⊢
  refine Do.seq (contains_spec (cs f.trees) (t.c : Int) (by rw [cs_length]; unfold F.len at hlen; omega) (by rw [cs_length]; unfold F.len at hlen; omega) (List.mem_map.2 ⟨t, ht, rfl⟩)) ?_
  refine Do.f rfl ?_
  obtain ⟨p, q, e, hp, hq⟩ := root_split H3 ht
  have hn : f.cells.Nodup := by
    have := H.nd
    rw [List.map_append, nd_cells] at this
    exact (List.nodup_append.1 this).1
  obtain ⟨g1, g2⟩ := rise_good hn hb e hI
  have hrk := hb.lt hR t ht
  have hkl := (sk_len (hb.good t ht).sk).2 rfl
  have hpq : (p ++ q).length + 1 = f.len := by unfold F.len; rw [e]; simp; omega
  refine (without_spec (k := k) H3 e hp hq g1 g2 (by omega) hk).bind ?_
  rintro _ ⟨f', a4, rfl, H4, h4, h5⟩
  rw [e1] at H4
  have hcp := (cells_tree e).trans (h5.symm.cons _)
  refine ⟨_, rfl, it', f', a4, rfl, H4.mono (by omega), h4, e2, ?_, fun d hd => hcp.mem_iff.2 (List.mem_cons_of_mem _ hd)⟩
  refine e3.symm.trans ?_
  have := hcp.map it'
  rw [List.map_cons, e1] at this
  exact this
end
end Go.Proofs.YtmidmkinclmbdaaGreat
