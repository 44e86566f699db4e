/-
  The plain law of (skew) binomial heaps: what a heap is; Min, an item that falls.
-/
import Derived.Test.YtmidmkinclmbdaaGreatZ7
set_option linter.unusedVariables false
set_option linter.unusedSimpArgs false
set_option maxRecDepth 10000
namespace Go.Proofs.YtmidmkinclmbdaaGreat
open Go.Th

def RowOk (b : Bool) : List Tr → Prop
  | [] => True
  | t :: r => r.Pairwise (fun s u => s.r < u.r) ∧ (∀ s ∈ r, t.r ≤ s.r) ∧ (b = false → ∀ s ∈ r, t.r < s.r)
theorem RowOk.of {b : Bool} {l : List Tr} (h : l.Pairwise fun s u => s.r < u.r) : RowOk b l := by
  cases l with
  | nil => trivial
  | cons t r =>
    obtain ⟨h1, h2⟩ := List.pairwise_cons.1 h
    exact ⟨h2, fun s hs => Nat.le_of_lt (h1 s hs), fun _ => h1⟩
theorem pair_len {R : Nat} {l : List Tr} (h : l.Pairwise fun s u => s.r < u.r) (hR : ∀ t ∈ l, t.r < R) : l.length ≤ R := by
  have h1 : (l.map Tr.r).Nodup := by
    refine List.pairwise_map.2 (h.imp fun {x y} h => ?_)
    omega
  have := nodup_sub (m := List.range R) h1 (by
    intro x hx
    obtain ⟨t, ht, rfl⟩ := List.mem_map.1 hx
    exact List.mem_range.2 (hR t ht))
  simpa using this
structure HB (b : Bool) (it : Nat → It) (f : F) : Prop where
  good : ∀ t ∈ f.trees, GT b it t
  row : RowOk b f.trees
theorem tree_size : ∀ {f : F} {t : Tr}, t ∈ f.trees → t.kids.size + 1 ≤ f.size
  | .nil, t, h => by simp [F.trees] at h
  | .cons c r kids rest, t, h => by
    rw [F.trees] at h
    rcases List.mem_cons.1 h with rfl | h
    · simp only [F.size]; omega
    · have := tree_size h
      simp only [F.size]; omega
theorem HB.lt {b : Bool} {it : Nat → It} {f : F} (h : HB b it f) {R : Nat} (hR : f.size < 2 ^ R) : ∀ t ∈ f.trees, t.r < R := by
  intro t ht
  have h1 := (h.good t ht).sk.size.1
  have h2 := tree_size ht
  exact (Nat.pow_lt_pow_iff_right (a := 2) (by decide)).1 (by omega)
theorem HB.len {b : Bool} {it : Nat → It} {f : F} (h : HB b it f) {R : Nat} (hR : f.size < 2 ^ R) : f.len ≤ R + 1 := by
  have h1 := h.lt hR
  have h2 := h.row
  unfold F.len
  cases e : f.trees with
  | nil => simp
  | cons t r =>
    rw [e] at h1 h2
    have := pair_len h2.1 (fun s hs => h1 s (List.mem_cons_of_mem _ hs))
    simp only [List.length_cons]; omega
theorem HB.lenB {it : Nat → It} {f : F} (h : HB false it f) {R : Nat} (hR : f.size < 2 ^ R) : f.len ≤ R := by
  have h1 := h.lt hR
  have h2 := h.row
  unfold F.len
  cases e : f.trees with
  | nil => simp
  | cons t r =>
    rw [e] at h1 h2
    exact pair_len (List.pairwise_cons.2 ⟨h2.2.2 rfl, h2.1⟩) h1
theorem HB.nil {b : Bool} {it : Nat → It} : HB b it .nil := ⟨by simp [F.trees], trivial⟩
theorem HB.congr {b : Bool} {it it' : Nat → It} {f : F} (h : HB b it f) (hc : ∀ c ∈ f.cells, it' c = it c) : HB b it' f := by
  refine ⟨fun t ht => ⟨(h.good t ht).sk, ?_⟩, h.row⟩
  have h1 := (h.good t ht).ord
  have hin : ∀ c ∈ t.cells, c ∈ f.cells := fun c hc => by rw [F.cells_trees]; exact List.mem_flatMap.2 ⟨t, ht, hc⟩
  have ups : ∀ (g : F) (q : Nat), (∀ c ∈ g.cells, it' c = it c) → it' q = it q → Ord it (nd g (q : Int)) → Ord it' (nd g (q : Int)) := by
    intro g
    induction g with
    | nil => intro q _ _ _ ν hν; simp [nd] at hν
    | cons c r kids rest i1 i2 =>
      intro q hg hq ho
      have hk : ∀ d ∈ kids.cells, it' d = it d := fun d hd => hg d (by rw [F.cells]; exact List.mem_cons_of_mem _ (List.mem_append_left _ hd))
      have hr : ∀ d ∈ rest.cells, it' d = it d := fun d hd => hg d (by rw [F.cells]; exact List.mem_cons_of_mem _ (List.mem_append_right _ hd))
      have hc : it' c = it c := hg c (by rw [F.cells]; exact List.mem_cons_self ..)
      intro ν hν q' hq'
      rw [nd] at hν
      rcases List.mem_cons.1 hν with rfl | hν
      · simp only at hq' ⊢
        have : q' = q := by omega
        subst this
        rw [hc, hq]
        exact ho _ (List.mem_cons_self ..) q' rfl
      · rcases List.mem_append.1 hν with hν | hν
        · exact i1 c hk hc (ho.sub fun ν h => List.mem_cons_of_mem _ (List.mem_append_left _ h)) ν hν q' hq'
        · exact i2 q hr hq (ho.sub fun ν h => List.mem_cons_of_mem _ (List.mem_append_right _ h)) ν hν q' hq'
  exact ups t.kids t.c (fun c hc' => hc c (hin c (List.mem_cons_of_mem _ hc'))) (hc _ (hin _ (List.mem_cons_self ..))) h1

theorem upok : ∀ {b : Bool} (f : F) (up : Int), (∀ t ∈ f.trees, SK b t.kids t.r) → ∀ ν ∈ nd f up, 0 ≤ ν.rank ∧ ((ν.up = up ∧ ∃ t ∈ f.trees, ν.rank = t.r ∧ ν.c = t.c) ∨ ∃ μ ∈ nd f up, ν.up = (μ.c : Int) ∧ ν.rank < μ.rank)
  | b, .nil, up, h, ν, hν => by simp [nd] at hν
  | b, .cons c r kids rest, up, h, ν, hν => by
    have hh := h ⟨c, r, kids⟩ (by simp [F.trees])
    rw [nd] at hν
    rcases List.mem_cons.1 hν with rfl | hν
    · exact ⟨by simp only; omega, Or.inl ⟨rfl, ⟨c, r, kids⟩, by simp [F.trees], rfl, rfl⟩⟩
    · rcases List.mem_append.1 hν with hν | hν
      · obtain ⟨h0, h1⟩ := upok (b := b) kids c (fun t ht => (sk_kids hh t ht).1) ν hν
        refine ⟨h0, Or.inr ?_⟩
        rcases h1 with ⟨h1, t, ht, h2, _⟩ | ⟨μ, hμ, h1⟩
        · have : t.r < r := (sk_kids hh t ht).2
          exact ⟨_, List.mem_cons_self .., h1, by simp only; omega⟩
        · exact ⟨μ, List.mem_cons_of_mem _ (List.mem_append_left _ hμ), h1⟩
      · obtain ⟨h0, h1⟩ := upok (b := b) rest up (fun t ht => h t (by simp [F.trees, ht])) ν hν
        refine ⟨h0, ?_⟩
        rcases h1 with ⟨h1, t, ht, h2⟩ | ⟨μ, hμ, h1⟩
        · exact Or.inl ⟨h1, t, by simp [F.trees, ht], h2⟩
        · exact Or.inr ⟨μ, List.mem_cons_of_mem _ (List.mem_append_right _ hμ), h1⟩
theorem rank_le : ∀ {b : Bool} (f : F) (up : Int), (∀ t ∈ f.trees, SK b t.kids t.r) → ∀ ν ∈ nd f up, ∃ t ∈ f.trees, ν.rank ≤ t.r
  | b, .nil, up, h, ν, hν => by simp [nd] at hν
  | b, .cons c r kids rest, up, h, ν, hν => by
    have hh := h ⟨c, r, kids⟩ (by simp [F.trees])
    rw [nd] at hν
    rcases List.mem_cons.1 hν with rfl | hν
    · exact ⟨⟨c, r, kids⟩, by simp [F.trees], Int.le_refl _⟩
    · rcases List.mem_append.1 hν with hν | hν
      · obtain ⟨t, ht, h1⟩ := rank_le (b := b) kids c (fun t ht => (sk_kids hh t ht).1) ν hν
        have : t.r < r := (sk_kids hh t ht).2
        exact ⟨⟨c, r, kids⟩, by simp [F.trees], by simp only; omega⟩
      · obtain ⟨t, ht, h1⟩ := rank_le (b := b) rest up (fun t ht => h t (by simp [F.trees, ht])) ν hν
        exact ⟨t, by simp [F.trees, ht], h1⟩
theorem HB.upOK {b : Bool} {it : Nat → It} {f : F} (h : HB b it f) : UpOK (nd f (-1)) := by
  intro ν hν
  obtain ⟨h0, h1⟩ := upok f (-1) (fun t ht => (h.good t ht).sk) ν hν
  refine ⟨h0, ?_⟩
  rcases h1 with ⟨h1, _⟩ | h1
  · exact Or.inl h1
  · exact Or.inr h1
theorem HB.ord {b : Bool} {it : Nat → It} {f : F} (h : HB b it f) : Ord it (nd f (-1)) := ord_row fun t ht => (h.good t ht).ord
theorem Ord.lower {it : Nat → It} {M : List Nd} {c : Nat} {x : It} (h : Ord it M) (hx : ¬ (it c).lt x) (hsame : ∀ ν ∈ M, ∀ μ ∈ M, ν.c = μ.c → ν = μ) (hself : ∀ ν ∈ M, ν.up ≠ (ν.c : Int)) : RI (upd it c x) M c false := by
  refine ⟨?_, ?_, ?_⟩
  · intro ν hν h1 q hq h2
    rw [upd_ne _ _ h1, upd_ne _ _ h2]; exact h ν hν q hq
  · intro ν hν h1 μ hμ e q hq
    have h2 : ν.c ≠ c := fun e' => by
      have := hself ν hν
      rw [e'] at this; exact this h1
    have h3 : q ≠ c := fun e' => by
      have := hself μ hμ
      rw [e, ← e'] at this; exact this hq
    rw [upd_ne _ _ h2, upd_ne _ _ h3]
    have := h μ hμ q hq
    rw [e] at this
    exact It.le_trans this (h ν hν c h1)
  · intro _ ν hν h1
    have h2 : ν.c ≠ c := fun e' => by
      have := hself ν hν
      rw [e'] at this; exact this h1
    rw [upd_ne _ _ h2, upd_same]
    exact fun h3 => h ν hν c h1 (It.lt_of_le h3 hx)
theorem Ord.any {it : Nat → It} {M : List Nd} {c : Nat} (h : Ord it M) : RI it M c true := by
  refine ⟨fun ν hν h1 q hq h2 => h ν hν q hq, fun ν hν h1 μ hμ e q hq => ?_, fun h => by cases h⟩
  have := h μ hμ q hq
  rw [e] at this
  exact It.le_trans this (h ν hν c h1)
theorem UpOK.self {M : List Nd} (h : UpOK M) (hs : ∀ ν ∈ M, ∀ μ ∈ M, ν.c = μ.c → ν = μ) : ∀ ν ∈ M, ν.up ≠ (ν.c : Int) := by
  intro ν hν e
  rcases (h ν hν).2 with h1 | ⟨μ, hμ, h1, h2⟩
  · omega
  · have := hs μ hμ ν hν (by omega)
    subst this; omega
theorem nd_up : ∀ (f : F) (up : Int), ∀ ν ∈ nd f up, ν.c ∈ f.cells ∧ (ν.up = up ∨ ∃ d ∈ f.cells, ν.up = (d : Int))
  | .nil, up, ν, hν => by simp [nd] at hν
  | .cons c r kids rest, up, ν, hν => by
    rw [nd] at hν
    rw [F.cells]
    rcases List.mem_cons.1 hν with rfl | hν
    · exact ⟨List.mem_cons_self .., Or.inl rfl⟩
    · rcases List.mem_append.1 hν with hν | hν
      · obtain ⟨h1, h2⟩ := nd_up kids c ν hν
        refine ⟨List.mem_cons_of_mem _ (List.mem_append_left _ h1), Or.inr ?_⟩
        rcases h2 with h2 | ⟨d, hd, h2⟩
        · exact ⟨c, List.mem_cons_self .., h2⟩
        · exact ⟨d, List.mem_cons_of_mem _ (List.mem_append_left _ hd), h2⟩
      · obtain ⟨h1, h2⟩ := nd_up rest up ν hν
        refine ⟨List.mem_cons_of_mem _ (List.mem_append_right _ h1), ?_⟩
        rcases h2 with h2 | ⟨d, hd, h2⟩
        · exact Or.inl h2
        · exact Or.inr ⟨d, List.mem_cons_of_mem _ (List.mem_append_right _ hd), h2⟩
theorem nd_tree {f : F} {up : Int} : ∀ {t : Tr}, t ∈ f.trees → ∀ ν ∈ nd t.kids t.c, ν ∈ nd f up := by
  intro t ht ν hν
  rw [nd_loose f up]
  rw [← loose_t f up] at ht
  obtain ⟨l, hl, rfl⟩ := List.mem_map.1 ht
  exact List.mem_flatMap.2 ⟨l, hl, by rw [Lnd_eq]; exact List.mem_cons_of_mem _ hν⟩

section
variable {κ : Cfg} {n : Nat} {a : arena_Arena} {it : Nat → It} {N : List Nd} {L : Heap} {b : Bool}
theorem len_ok {f : F} (H : Hp κ n a it (nd f (-1) ++ N) L) : 2 * f.size + 2 * N.length + L.length ≤ κ.C := by
  have := H.room
  rw [List.length_append, nd_size] at this; omega
theorem best_heap {k : Nat} {f : F} (H : Hp κ n a it N L) (hs : ∀ ν ∈ nd f (-1), ν ∈ N) (hb : HB b it f) {t0 : Tr} {ts : List Tr} (e : f.trees = t0 :: ts) (hk : 95000 < k) (hl : f.len < 90000) :
    Do (trees_Best k a (cs f.trees)) fun res => ∃ t a', t ∈ f.trees ∧ res = ((t.c : Int), a') ∧ Hp κ (n + 6 * f.len) a' it N L ∧ ∀ d ∈ f.cells, ¬ (it d).lt (it t.c) := by
  have hz : cs f.trees = zl (t0.c :: ts.map Tr.c) := by rw [e]; simp [cs, zl]
  have hlen : f.len = ts.length + 1 := by unfold F.len; rw [e]; rfl
  rw [hz]
  have hN : ∀ d ∈ t0.c :: ts.map Tr.c, ∃ ν ∈ N, ν.c = d := by
    intro d hd
    have : d ∈ f.trees.map Tr.c := by rw [e]; exact hd
    rw [← loose_t f (-1), List.map_map] at this
    obtain ⟨l, hl, rfl⟩ := List.mem_map.1 this
    exact ⟨l.top, hs _ (by rw [nd_loose]; exact top_mem hl), rfl⟩
  refine (best_spec t0.c (ts.map Tr.c) hN (by simp; omega) (by simp; omega) H).mono ?_
  rintro _ ⟨a1, rfl, H1⟩
  rw [List.length_map] at H1
  have hmem : bst it t0.c (ts.map Tr.c) ∈ f.trees.map Tr.c := by
    rw [e]
    rcases bst_mem (it := it) (ts.map Tr.c) t0.c with h | h
    · rw [h]; exact List.mem_cons_self ..
    · exact List.mem_cons_of_mem _ h
  obtain ⟨t, ht, et⟩ := List.mem_map.1 hmem
  have hmin := bst_min (it := it) (ts.map Tr.c) t0.c
  rw [← et] at hmin
  refine ⟨t, a1, ht, by rw [et], H1.mono (by omega), fun d hd => ?_⟩
  rw [F.cells_trees] at hd
  obtain ⟨s, hs', hd⟩ := List.mem_flatMap.1 hd
  have h1 := (hb.good s hs').least d hd
  refine It.le_trans ?_ h1
  rw [e] at hs'
  rcases List.mem_cons.1 hs' with rfl | hs'
  · exact hmin.1
  · exact hmin.2 _ (List.mem_map_of_mem hs')
/-- Min: the first item of all -/
theorem min_spec {k : Nat} {f : F} (H : Hp κ n a it (nd f (-1) ++ N) L) (hb : HB b it f) (hk : 95000 < k) :
    Do (skew_Min k a f.hd) fun res => ∃ a', Hp κ (n + 7 * f.len + 1) a' it (nd f (-1) ++ N) L ∧ ((f = .nil ∧ res = (-1, a')) ∨ ∃ c ∈ f.cells, res = (((it c).i : Int), a') ∧ ∀ d ∈ f.cells, ¬ (it d).lt (it c)) := by
  unfold skew_Min
  have hsub : ∀ ν ∈ nd f (-1), ν ∈ nd f (-1) ++ N := fun ν h => List.mem_append_left _ h
  have hroom := len_ok H
  have hls := f.len_size
  have hcap := H.cap
  refine (list_spec (k := k) H hsub (by omega) (by omega)).bind ?_
  rintro _ ⟨a1, rfl, H1⟩
  cases e : f.trees with
  | nil =>
    have : f = .nil := by
      cases f with
      | nil => rfl
      | cons => simp [F.trees] at e
    subst this
    refine Do.seq (best_nil (by omega) a1) ?_
    refine (H1.cellN (c := -1) (by decide)).bind ?_
    rintro _ ⟨a2, rfl, H2⟩
    exact ⟨_, rfl, a2, H2.mono (by omega), Or.inl ⟨rfl, rfl⟩⟩
  | cons t0 ts =>
    rw [← e]
    refine (best_heap (k := k) H1 hsub hb e hk (by omega)).bind ?_
    rintro _ ⟨t, a2, ht, rfl, H2, hmin⟩
    have : t ∈ (f.loose (-1)).map Lt.t := by rw [loose_t]; exact ht
    obtain ⟨l, hl, rfl⟩ := List.mem_map.1 this
    have htop : l.top ∈ nd f (-1) ++ N := hsub _ (by rw [nd_loose]; exact top_mem hl)
    refine (H2.geti htop).bind ?_
    rintro _ ⟨a3, rfl, H3⟩
    refine ⟨_, rfl, a3, H3.mono (by omega), Or.inr ⟨l.t.c, ?_, rfl, hmin⟩⟩
    rw [F.cells_trees]
    exact List.mem_flatMap.2 ⟨l.t, ht, List.mem_cons_self ..⟩
theorem hp_same {M : List Nd} (H : Hp κ n a it (M ++ N) L) : ∀ ν ∈ M, ∀ μ ∈ M, ν.c = μ.c → ν = μ := fun ν hν μ hμ e => H.same (List.mem_append_left _ hν) (List.mem_append_left _ hμ) e
theorem cell_node {f : F} {up : Int} {c : Nat} (h : c ∈ f.cells) : ∃ ν ∈ nd f up, ν.c = c := by
  rw [← nd_cells f up] at h
  obtain ⟨ν, hν, rfl⟩ := List.mem_map.1 h
  exact ⟨ν, hν, rfl⟩
theorem size_le {f : F} (H : Hp κ n a it (nd f (-1) ++ N) L) (hne : 0 < f.size) (hb : ∀ t ∈ f.trees, SK b t.kids t.r) : ∃ R, (∀ t ∈ f.trees, t.r ≤ R) ∧ R ≤ κ.C ∧ (∀ Q, f.size < 2 ^ Q → R < Q) := by
  have hroom := len_ok H
  -- the highest rank
  have : ∀ l : List Tr, (∀ t ∈ l, 2 ^ t.r ≤ f.size) → ∃ R, (∀ t ∈ l, t.r ≤ R) ∧ 2 ^ R ≤ f.size := by
    intro l
    induction l with
    | nil => intro _; exact ⟨0, by simp, by rw [Nat.pow_zero]; exact hne⟩
    | cons t l ih =>
      intro h
      obtain ⟨R, h1, h2⟩ := ih fun s hs => h s (List.mem_cons_of_mem _ hs)
      by_cases c : t.r ≤ R
      · exact ⟨R, fun s hs => by
          rcases List.mem_cons.1 hs with rfl | hs
          · exact c
          · exact h1 s hs, h2⟩
      · exact ⟨t.r, fun s hs => by
          rcases List.mem_cons.1 hs with rfl | hs
          · exact Nat.le_refl _
          · exact Nat.le_trans (h1 s hs) (by omega), h t (List.mem_cons_self ..)⟩
  obtain ⟨R, h1, h2⟩ := this f.trees fun t ht => by
    have e1 := (hb t ht).size.1
    have e2 := tree_size ht
    omega
  refine ⟨R, h1, ?_, fun Q hQ => (Nat.pow_lt_pow_iff_right (a := 2) (by decide)).1 (by omega)⟩
  have : R < 2 ^ R := Nat.lt_two_pow_self
  omega
/-- an item whose key has fallen rises -/
theorem fall_spec {k : Nat} {f : F} {c : Nat} {x : It} (H : Hp κ n a (upd it c x) (nd f (-1) ++ N) L) (hb : HB b it f) (hc : c ∈ f.cells) (hx : ¬ (it c).lt x) (hk : 70000 < k) {Q : Nat} (hQ : f.size < 2 ^ Q) (hQ' : Q < 60) :
    Do (skew_Fall k a f.hd (x.i : Int)) fun r => ∃ it' a', r = (f.hd, a') ∧ Hp κ (n + 13 * Q + 8) a' it' (nd f (-1) ++ N) L ∧ HB b it' f ∧ (∀ d, d ∉ f.cells → it' d = it d) ∧ (f.cells.map it').Perm (f.cells.map (upd it c x)) := by
  unfold skew_Fall
  obtain ⟨ν, hν, ec⟩ := cell_node (up := -1) hc
  have hs := hp_same H
  have hpos : 0 < f.size := by
    rw [← F.size_cells]; exact List.length_pos_of_mem hc
  have hroom := len_ok H
  obtain ⟨R, h1, h2, h3⟩ := size_le (b := b) H hpos fun t ht => (hb.good t ht).sk
  have hRQ := h3 Q hQ
  have hI : RI (upd it c x) (nd f (-1)) ν.c false := by rw [ec]; exact hb.ord.lower hx hs (hb.upOK.self hs)
  have := rise_spec (k := k) false (nd f (-1)) hb.upOK R (fun ν hν => by
    obtain ⟨t, ht, e⟩ := rank_le f (-1) (fun t ht => (hb.good t ht).sk) ν hν
    have := h1 t ht; omega) H ν hν (by omega) h2 hI
  rw [ec, upd_same] at this
  refine this.bind ?_
  rintro _ ⟨μ, it', a1, rfl, hμ, H1, e1, e2, e3, e4, _⟩
  rw [nd_cells] at e2 e3
  refine ⟨_, rfl, it', a1, rfl, H1.mono (by omega), ⟨fun t ht => ⟨(hb.good t ht).sk, ord_trees (e4 rfl) t ht⟩, hb.row⟩, fun d hd => ?_, e3⟩
  rw [e2 d hd]
  exact upd_ne _ _ (fun e => hd (e ▸ hc))
end
end Go.Proofs.YtmidmkinclmbdaaGreat
