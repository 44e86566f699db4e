/-
  The plain law of (skew) binomial heaps: List, Kids, the slices' calls, what is least, without (of binomial heaps in B).
-/
import Derived.Test.YtmidmkinclmbdaaGreatP5
set_option linter.unusedVariables false
set_option linter.unusedSimpArgs false
set_option maxRecDepth 10000
namespace Go.Proofs.YtmidmkinclmbdaaGreat
open Go.Th

section
variable {κ : Cfg} {n : Nat} {a : arena_Arena} {it : Nat → It} {N : List Nd} {L : Heap} {b : Bool}
theorem roots_lc (f : F) (up : Int) : f.roots = lc (f.loose up) := by
  rw [roots_trees, lc, loose_t, cs]
theorem cs_length (ts : List Tr) : (cs ts).length = ts.length := by simp [cs]
theorem list_spec {k : Nat} {f : F} (H : Hp κ n a it N L) (hs : ∀ ν ∈ nd f (-1), ν ∈ N) (hl : f.len ≤ κ.C) (hk : f.len < k) :
    Do (trees_List k a f.hd) fun r => ∃ a', r = (cs f.trees, a') ∧ Hp κ (n + f.len) a' it N L := by
  unfold trees_List node_Row
  refine Do.assoc ((row_l0 f (-1) H hs k [] hk (by simpa using hl)).bind ?_)
  rintro _ ⟨a1, rfl, H1⟩
  exact ⟨_, rfl, a1, by simp [roots_trees, cs], H1⟩
theorem kids_spec {k : Nat} {ν : Nd} {f : F} (H : Hp κ n a it N L) (hν : ν ∈ N) (hd : ν.down = f.hd) (hs : ∀ μ ∈ nd f ν.c, μ ∈ N) (hl : f.len ≤ κ.C) (hk : f.len < k) :
    Do (trees_Kids k a (ν.c : Int)) fun r => ∃ a', r = (cs f.trees, a') ∧ Hp κ (n + 1 + f.len) a' it N L := by
  unfold trees_Kids node_Row
  have hh := hd_ok H hs
  refine (H.getc hν (f := 1) (v := f.hd) hh.1 hh.2 (by rw [← hd]; rfl)).bind ?_
  rintro _ ⟨a1, rfl, H1⟩
  refine Do.assoc ((row_l0 f ν.c H1 hs k [] hk (by simpa using hl)).bind ?_)
  rintro _ ⟨a2, rfl, H2⟩
  exact ⟨_, rfl, a2, by simp [roots_trees, cs], H2⟩

/-! what is least in a tree -/
theorem least_in : ∀ (f : F) (q : Nat), Ord it (nd f (q : Int)) → ∀ c ∈ f.cells, ¬ (it c).lt (it q)
  | .nil, q, h, c, hc => by simp [F.cells] at hc
  | .cons d r kids rest, q, h, c, hc => by
    have h0 : ¬ (it d).lt (it q) := h ⟨d, q, kids.hd, -1, rest.hd, r, 0⟩ (List.mem_cons_self ..) q rfl
    have h1 : Ord it (nd kids d) := h.sub fun ν hν => List.mem_cons_of_mem _ (List.mem_append_left _ hν)
    have h2 : Ord it (nd rest q) := h.sub fun ν hν => List.mem_cons_of_mem _ (List.mem_append_right _ hν)
    rw [F.cells] at hc
    rcases List.mem_cons.1 hc with rfl | hc
    · exact h0
    · rcases List.mem_append.1 hc with hc | hc
      · exact It.le_trans h0 (least_in kids d h1 c hc)
      · exact least_in rest q h2 c hc
theorem GT.least {t : Tr} (h : GT b it t) : ∀ c ∈ t.cells, ¬ (it c).lt (it t.c) := by
  intro c hc
  rcases List.mem_cons.1 hc with rfl | hc
  · exact It.lt_irrefl _
  · exact least_in t.kids t.c h.ord c hc

/-- the trees of a row with good trees, as loose ones -/
theorem loose_good {f : F} {up : Int} (h : ∀ t ∈ f.trees, GT b it t) : ∀ l ∈ f.loose up, GT b it l.t := fun l hl => h l.t (by rw [← loose_t f up]; exact List.mem_map_of_mem hl)
/-- the children of a good tree are good trees of lower ranks -/
theorem sk_kids : ∀ {f : F} {r : Nat}, SK b f r → ∀ t ∈ f.trees, SK b t.kids t.r ∧ t.r < r := by
  intro f r h
  induction h with
  | nil => intro t ht; simp [F.trees] at ht
  | real h1 h2 i1 i2 =>
    intro t ht
    rw [F.trees] at ht
    rcases List.mem_cons.1 ht with rfl | ht
    · exact ⟨h1, Nat.lt_succ_self _⟩
    · obtain ⟨e1, e2⟩ := i2 t ht
      exact ⟨e1, by omega⟩
  | leaf hb h1 h2 i1 i2 =>
    intro t ht
    rw [F.trees, F.trees] at ht
    rcases List.mem_cons.1 ht with rfl | ht
    · exact ⟨.nil, by simp⟩
    rcases List.mem_cons.1 ht with rfl | ht
    · exact ⟨h1, Nat.lt_succ_self _⟩
    · obtain ⟨e1, e2⟩ := i2 t ht
      exact ⟨e1, by omega⟩
theorem sk_len : ∀ {f : F} {r : Nat}, SK b f r → f.len ≤ 2 * r ∧ (b = false → f.len = r) := by
  intro f r h
  induction h with
  | nil => exact ⟨by simp [F.len, F.trees], fun _ => rfl⟩
  | real h1 h2 i1 i2 =>
    simp only [F.len, F.trees, List.length_cons] at *
    exact ⟨by omega, fun e => by have := i2.2 e; omega⟩
  | leaf hb h1 h2 i1 i2 =>
    simp only [F.len, F.trees, List.length_cons] at *
    exact ⟨by omega, fun e => by rw [e] at hb; cases hb⟩
theorem ord_trees : ∀ {f : F} {up : Int}, Ord it (nd f up) → ∀ t ∈ f.trees, Ord it (nd t.kids t.c)
  | .nil, up, h, t, ht => by simp [F.trees] at ht
  | .cons c r kids rest, up, h, t, ht => by
    rw [F.trees] at ht
    rcases List.mem_cons.1 ht with rfl | ht
    · exact h.sub fun ν hν => List.mem_cons_of_mem _ (List.mem_append_left _ hν)
    · exact ord_trees (f := rest) (up := up) (h.sub fun ν hν => List.mem_cons_of_mem _ (List.mem_append_right _ hν)) t ht
theorem ord_row : ∀ {f : F}, (∀ t ∈ f.trees, Ord it (nd t.kids t.c)) → Ord it (nd f (-1))
  | .nil, h => fun ν hν => by simp [nd] at hν
  | .cons c r kids rest, h => by
    intro ν hν q hq
    rw [nd] at hν
    rcases List.mem_cons.1 hν with rfl | hν
    · simp only at hq; omega
    · rcases List.mem_append.1 hν with hν | hν
      · exact h ⟨c, r, kids⟩ (by simp [F.trees]) ν hν q hq
      · exact ord_row (f := rest) (fun t ht => h t (by simp [F.trees, ht])) ν hν q hq
theorem GT.kids {t : Tr} (h : GT b it t) : ∀ s ∈ t.kids.trees, GT b it s := fun s hs => ⟨(sk_kids h.sk s hs).1, ord_trees h.ord s hs⟩
end

/-! slices' calls -/
theorem indexfunc_l0 (l : List Int) (v : Int) (hl : l.length < 100000) : ∀ (post pre : List Int) (m : Nat), post.length < m → l = pre ++ post → v ∉ pre →
    (slices_IndexFunc_int_g105_l0 (l.length : Int) l v m (pre.length : Int) = some (.inr ()) ∧ v ∉ post) ∨ ∃ p q, l = p ++ v :: q ∧ v ∉ p ∧ slices_IndexFunc_int_g105_l0 (l.length : Int) l v m (pre.length : Int) = some (.inl (p.length : Int))
  | [], pre, m, hm, e, hv => by
    obtain ⟨m, rfl⟩ : ∃ q, m = q + 1 := ⟨m - 1, by simp at hm; omega⟩
    left
    rw [slices_IndexFunc_int_g105_l0, decide_eq_false (by rw [e]; simp)]
    exact ⟨rfl, by simp⟩
  | x :: post, pre, m, hm, e, hv => by
    obtain ⟨m, rfl⟩ : ∃ q, m = q + 1 := ⟨m - 1, by simp at hm; omega⟩
    simp only [List.length_cons] at hm
    have hlen : pre.length < 100000 := by have := congrArg List.length e; simp at this; omega
    have ei : mIdx l (pre.length : Int) = some x := by rw [e]; exact mIdx_mid ..
    rw [slices_IndexFunc_int_g105_l0, decide_eq_true (by rw [e]; simp; omega), ei]
    simp only [cond_true, Option.bind_some, binomial_without_f1]
    by_cases h : x = v
    · subst h
      right
      refine ⟨pre, post, e, hv, ?_⟩
      simp
    · have hb : (x == v) = false := by simpa using h
      rw [hb, cond_false, w64_id (by omega) (by omega)]
      have := indexfunc_l0 l v hl post (pre ++ [x]) m (by omega) (by rw [e]; simp) (by simp [hv]; exact fun e => h e.symm)
      have e2 : ((pre ++ [x]).length : Int) = (pre.length : Int) + 1 := by simp
      rw [e2] at this
      rcases this with ⟨h1, h2⟩ | h1
      · exact Or.inl ⟨h1, by simp [h2]; exact fun e => h e.symm⟩
      · exact Or.inr h1
theorem deletefunc_l0 (v : Int) : ∀ (R A : List Int) (g : Int) (m : Nat), R.length < m → A.length + R.length < 100000 → v ∉ R →
    Do (slices_DeleteFunc_int_g105_l0 v m (A.length : Int) ((A.length : Int) + 1) (A ++ g :: R)) fun r => ∃ g', r = (((A ++ R).length : Int), (A ++ R) ++ [g'])
  | [], A, g, m, hm, hb, hv => by
    obtain ⟨m, rfl⟩ : ∃ q, m = q + 1 := ⟨m - 1, by simp at hm; omega⟩
    rw [slices_DeleteFunc_int_g105_l0]
    refine Do.f (decide_eq_false (by simp)) ?_
    exact ⟨_, rfl, g, by simp⟩
  | x :: R, A, g, m, hm, hb, hv => by
    obtain ⟨m, rfl⟩ : ∃ q, m = q + 1 := ⟨m - 1, by simp at hm; omega⟩
    simp only [List.length_cons] at hm hb
    simp only [List.mem_cons, not_or] at hv
    rw [slices_DeleteFunc_int_g105_l0]
    refine Do.t (decide_eq_true (by simp; omega)) ?_
    have ei : mIdx (A ++ g :: x :: R) ((A.length : Int) + 1) = some x := by
      have := mIdx_mid (A ++ [g]) R x
      simpa using this
    refine Do.assoc (Do.seq ei ?_)
    refine Do.assoc (Do.seq rfl ?_)
    refine Do.tb (by simp; exact fun e => hv.1 e.symm) ?_
    refine Do.assoc (Do.seq (mIdx_mid A (x :: R) g) ?_)
    refine Do.seq rfl ?_
    have es : mSet (A ++ g :: x :: R) (A.length : Int) x = (A ++ [x]) ++ x :: R := by rw [set_mid]; simp
    rw [es, w64_id (by omega) (by omega), w64_id (by omega) (by omega)]
    have := deletefunc_l0 v R (A ++ [x]) x m (by omega) (by simp; omega) hv.2
    have e2 : ((A ++ [x]).length : Int) = (A.length : Int) + 1 := by simp
    rw [e2] at this
    refine this.mono ?_
    rintro _ ⟨g', rfl⟩
    exact ⟨g', by simp⟩
theorem deletefunc_spec {k : Nat} (p q : List Int) (v : Int) (hp : v ∉ p) (hq : v ∉ q) (hl : (p ++ v :: q).length < 100000) (hk : (p ++ v :: q).length < k) :
    slices_DeleteFunc_int_g105 k (p ++ v :: q) v = some (p ++ q) := by
  unfold slices_DeleteFunc_int_g105 slices_IndexFunc_int_g105
  rcases indexfunc_l0 (p ++ v :: q) v hl (p ++ v :: q) [] k hk rfl (by simp) with ⟨_, h2⟩ | ⟨p', q', e, hv, h⟩
  · simp at h2
  · have hpp : p' = p ∧ q' = q := by
      clear h
      have := congrArg (List.takeWhile (fun x => x != v)) e
      have h1 : ∀ (p q : List Int), v ∉ p → (p ++ v :: q).takeWhile (fun x => x != v) = p := by
        intro p q hp
        rw [List.takeWhile_append_of_pos (by intro x hx; simp; exact fun e => hp (e ▸ hx))]
        simp
      rw [h1 p q hp, h1 p' q' hv] at this
      subst this
      simpa using e.symm
    obtain ⟨rfl, rfl⟩ := hpp
    have h' : slices_IndexFunc_int_g105_l0 ((p' ++ v :: q').length : Int) (p' ++ v :: q') v k 0 = some (.inl (p'.length : Int)) := h
    rw [h']
    simp only [Option.bind_some]
    rw [show ((p'.length : Int) == -1) = false by simp, cond_false]
    simp only [List.length_append, List.length_cons] at hl hk
    rw [w64_id (by omega) (by omega)]
    obtain ⟨r, e1, g', rfl⟩ := deletefunc_l0 v q' p' v k (by omega) (by omega) hq
    rw [e1]
    simp only [Option.bind_some]
    have e2 : mCut ((p' ++ q') ++ [g']) ((p' ++ q').length : Int) (((p' ++ q') ++ [g']).length : Int) = some [g'] := by
      rw [mCut_tail (by simp)]
      simp
    rw [e2]
    simp only [Option.bind_some]
    have e3 : mCut (mClear ((p' ++ q') ++ [g']) ((p' ++ q').length : Int) 0) 0 ((p' ++ q').length : Int) = some (p' ++ q') := by
      unfold mCut mClear
      have : ((p' ++ q' ++ [g']).length - ((p' ++ q').length : Int).toNat) = 1 := by simp only [List.length_append, List.length_singleton]; omega
      rw [this]
      simp only [Int.toNat_natCast]
      rw [List.take_left' (l₁ := p' ++ q') rfl]
      rw [if_pos ⟨by omega, by omega, by simp; omega⟩]
      simp only [Int.toNat_zero, List.drop_zero]
      rw [List.take_left' (l₁ := p' ++ q') rfl]
    rw [e3]
    rfl
theorem index_l0 (l : List Int) (v : Int) (hl : l.length < 100000) : ∀ (post pre : List Int) (m : Nat), post.length < m → l = pre ++ post → v ∈ post →
    ∃ j : Nat, slices_Index_int_l0 v (l.length : Int) l m (pre.length : Int) = some (.inl (j : Int))
  | [], pre, m, hm, e, hv => by simp at hv
  | x :: post, pre, m, hm, e, hv => by
    obtain ⟨m, rfl⟩ : ∃ q, m = q + 1 := ⟨m - 1, by simp at hm; omega⟩
    simp only [List.length_cons] at hm
    have hlen : pre.length < 100000 := by have := congrArg List.length e; simp at this; omega
    have ei : mIdx l (pre.length : Int) = some x := by rw [e]; exact mIdx_mid ..
    rw [slices_Index_int_l0, decide_eq_true (by rw [e]; simp; omega), ei]
    simp only [cond_true, Option.bind_some]
    by_cases h : v = x
    · subst h
      exact ⟨pre.length, by simp⟩
    · rw [show (v == x) = false by simpa using h, cond_false, w64_id (by omega) (by omega)]
      have := index_l0 l v hl post (pre ++ [x]) m (by omega) (by rw [e]; simp) (by simpa [h] using hv)
      have e2 : ((pre ++ [x]).length : Int) = (pre.length : Int) + 1 := by simp
      rw [e2] at this
      exact this
theorem contains_spec {k : Nat} (l : List Int) (v : Int) (hl : l.length < 100000) (hk : l.length < k) (hv : v ∈ l) : slices_Contains_int k l v = some true := by
  unfold slices_Contains_int slices_Index_int
  obtain ⟨j, e⟩ := index_l0 l v hl l [] k hk rfl hv
  rw [show ((0 : Int)) = (([] : List Int).length : Int) from rfl, e]
  simp

section
variable {κ : Cfg} {n : Nat} {a : arena_Arena} {it : Nat → It} {N : List Nd} {L : Heap} {b : Bool}
/-- how a row's roots may be told apart -/
theorem root_split {f : F} {t : Tr} (H : Hp κ n a it (nd f (-1) ++ N) L) (ht : t ∈ f.trees) : ∃ p q, f.trees = p ++ t :: q ∧ (t.c : Int) ∉ cs p ∧ (t.c : Int) ∉ cs q := by
  obtain ⟨p, q, e⟩ := List.append_of_mem ht
  have h1 : (f.cells).Nodup := by
    rw [← nd_cells f (-1)]
    have := H.nd
    rw [List.map_append] at this
    exact (List.nodup_append.1 this).1
  rw [F.cells_trees, e, TC_append, TC_cons] at h1
  have h2 := (List.nodup_append.1 h1)
  have mem : ∀ {l : List Tr} {c : Nat}, (c : Int) ∈ cs l → c ∈ TC l := by
    intro l c hc
    obtain ⟨s, hs, e⟩ := List.mem_map.1 hc
    have : s.c = c := by omega
    exact List.mem_flatMap.2 ⟨s, hs, by rw [← this]; exact List.mem_cons_self ..⟩
  refine ⟨p, q, e, fun h => ?_, fun h => ?_⟩
  · exact h2.2.2 _ (mem h) t.c (List.mem_append_left _ (List.mem_cons_self ..)) rfl
  · exact (List.nodup_append.1 h2.2.1).2.2 t.c (List.mem_cons_self ..) _ (mem h) rfl
theorem loose_split : ∀ {f : F} {up : Int} {p q : List Tr} {t : Tr}, f.trees = p ++ t :: q → ∃ p' q' w, f.loose up = p' ++ (⟨t, up, w⟩ : Lt) :: q' ∧ p'.map Lt.t = p ∧ q'.map Lt.t = q
  | .nil, up, p, q, t, e => by simp [F.trees] at e
  | .cons c r kids rest, up, [], q, t, e => by
    simp only [F.trees, List.nil_append, List.cons.injEq] at e
    exact ⟨[], rest.loose up, rest.hd, by rw [F.loose, e.1]; rfl, rfl, by rw [loose_t]; exact e.2⟩
  | .cons c r kids rest, up, x :: p, q, t, e => by
    simp only [F.trees, List.cons_append, List.cons.injEq] at e
    obtain ⟨p', q', w, h1, h2, h3⟩ := loose_split (f := rest) (up := up) e.2
    exact ⟨⟨⟨c, r, kids⟩, up, rest.hd⟩ :: p', q', w, by rw [F.loose, h1]; rfl, by simp [h2, e.1], h3⟩
end
end Go.Proofs.YtmidmkinclmbdaaGreat
