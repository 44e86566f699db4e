/-
  The plain law of (skew) binomial heaps: All, Drop.
-/
import Derived.Test.YtmidmkinclmbdaaGreatZ8
set_option linter.unusedVariables false
set_option linter.unusedSimpArgs false
set_option maxRecDepth 10000
namespace Go.Proofs.YtmidmkinclmbdaaGreat
open Go.Th

/-! sorted lists of numbers -/
theorem insI_perm (x : Int) : ∀ l : List Int, (insI x l).Perm (x :: l)
  | [] => .refl _
  | y :: l => by
    rw [insI]
    cases h : decide (x ≤ y)
    · exact ((insI_perm x l).cons y).trans (List.Perm.swap ..)
    · exact .refl _
theorem iSort_perm : ∀ l : List Int, (iSort l).Perm l
  | [] => .refl _
  | x :: l => by rw [iSort]; exact (insI_perm x _).trans ((iSort_perm l).cons x)
abbrev Asc (l : List Int) : Prop := l.Pairwise (· ≤ ·)
theorem insI_asc (x : Int) : ∀ l : List Int, Asc l → Asc (insI x l)
  | [], _ => by simp [insI, Asc]
  | y :: l, h => by
    obtain ⟨h1, h2⟩ := List.pairwise_cons.1 h
    rw [insI]
    cases c : decide (x ≤ y)
    · refine List.pairwise_cons.2 ⟨fun z hz => ?_, insI_asc x l h2⟩
      have c' := of_decide_eq_false c
      rcases List.mem_cons.1 ((insI_perm x l).mem_iff.1 hz) with rfl | hz
      · omega
      · exact h1 z hz
    · have c' := of_decide_eq_true c
      refine List.pairwise_cons.2 ⟨fun z hz => ?_, h⟩
      rcases List.mem_cons.1 hz with rfl | hz
      · exact c'
      · exact Int.le_trans c' (h1 z hz)
theorem iSort_asc : ∀ l : List Int, Asc (iSort l)
  | [] => by simp [iSort, Asc]
  | x :: l => by rw [iSort]; exact insI_asc x _ (iSort_asc l)
theorem asc_eq : ∀ {l m : List Int}, Asc l → Asc m → l.Perm m → l = m
  | [], m, _, _, h => (List.Perm.eq_nil h.symm).symm
  | x :: l, [], _, _, h => by have := h.length_eq; simp at this
  | x :: l, y :: m, hl, hm, h => by
    obtain ⟨h1, h2⟩ := List.pairwise_cons.1 hl
    obtain ⟨h3, h4⟩ := List.pairwise_cons.1 hm
    have e : x = y := by
      have a1 := h.mem_iff.1 (List.mem_cons_self (a := x))
      have a2 := h.mem_iff.2 (List.mem_cons_self (a := y))
      rcases List.mem_cons.1 a1 with r | r
      · exact r
      · rcases List.mem_cons.1 a2 with r2 | r2
        · exact r2.symm
        · have := h3 x r
          have := h1 y r2
          omega
    subst e
    rw [asc_eq h2 h4 (List.Perm.cons_inv h)]
theorem iSort_congr {l m : List Int} (h : l.Perm m) : iSort l = iSort m := asc_eq (iSort_asc l) (iSort_asc m) ((iSort_perm l).trans (h.trans (iSort_perm m).symm))
theorem lSort_ok {l : List Int} (h : l.length ≤ 1073741824) : lSort l = some (iSort l) := by unfold lSort; rw [if_pos h]
theorem mIdx_last {α : Type} (l : List α) (x : α) (h : l.length < 100000) : mIdx (l ++ [x]) (w64 (((l ++ [x]).length : Int) - 1)) = some x := by
  have : w64 (((l ++ [x]).length : Int) - 1) = (l.length : Int) := by rw [w64_id] <;> simp <;> omega
  rw [this]; exact mIdx_mid l [] x
theorem mCut_last {α : Type} (l : List α) (x : α) (h : l.length < 100000) : mCut (l ++ [x]) 0 (w64 (((l ++ [x]).length : Int) - 1)) = some l := by
  have : w64 (((l ++ [x]).length : Int) - 1) = (l.length : Int) := by rw [w64_id] <;> simp <;> omega
  rw [this]
  unfold mCut
  rw [if_pos ⟨by omega, by omega, by simp; omega⟩]
  simp

section
variable {κ : Cfg} {it : Nat → It} {N : List Nd} {L : Heap} {b : Bool}
/-- a tree that is there -/
def Here (N : List Nd) (t : Tr) : Prop := ∃ u w, ∀ ν ∈ t.nd u w, ν ∈ N
theorem here_kids {t : Tr} (h : Here N t) : ∀ s ∈ t.kids.trees, Here N s := by
  intro s hs
  obtain ⟨u, w, h⟩ := h
  rw [← loose_t t.kids t.c] at hs
  obtain ⟨l, hl, rfl⟩ := List.mem_map.1 hs
  exact ⟨l.u, l.w, fun ν hν => h ν (List.mem_cons_of_mem _ (by rw [nd_loose]; exact List.mem_flatMap.2 ⟨l, hl, hν⟩))⟩
theorem here_roots {f : F} {up : Int} (h : ∀ ν ∈ nd f up, ν ∈ N) : ∀ t ∈ f.trees, Here N t := by
  intro s hs
  rw [← loose_t f up] at hs
  obtain ⟨l, hl, rfl⟩ := List.mem_map.1 hs
  exact ⟨l.u, l.w, fun ν hν => h ν (by rw [nd_loose]; exact List.mem_flatMap.2 ⟨l, hl, hν⟩)⟩
theorem TC_len : ∀ ts : List Tr, ts.length ≤ (TC ts).length
  | [] => Nat.le_refl _
  | t :: ts => by
    have := TC_len ts
    rw [TC_cons, List.length_append]
    simp only [Tr.cells, List.length_cons]; omega
theorem zl_append (l m : List Nat) : zl (l ++ m) = zl l ++ zl m := List.map_append
theorem below_l0 (l1 : List Int) (A : List Nat) (hA : A.Nodup) (hAl : A.length < 70000) : ∀ (q : Nat) (ws : List Tr) (o : List Nat) (seen : List Bool) {n : Nat} {a : arena_Arena} (H : Hp κ n a it N L) (m : Nat), (TC ws).length = q → 80000 + q < m → (∀ t ∈ ws, Here N t) → (o ++ TC ws).Perm A → seen.length = κ.C → (∀ c : Nat, c < κ.C → seen[c]? = some (decide (c ∈ o))) →
    Do (node_Below_g129_l0 l1 m (zl o) (cs ws) seen a) fun r => ∃ o' a', r = (zl o', a') ∧ Hp κ (n + (2 * q - ws.length)) a' it N L ∧ o'.Perm A := by
  intro q
  induction q using Nat.strongRecOn with
  | ind q ih =>
    intro ws o seen n a H m hq hm hh hp hs hseen
    obtain ⟨m, rfl⟩ : ∃ q, m = q + 1 := ⟨m - 1, by omega⟩
    have hcap := H.cap
    rw [node_Below_g129_l0]
    rcases List.eq_nil_or_concat ws with rfl | ⟨ws', t, rfl⟩
    · refine Do.f (decide_eq_false (by simp [cs])) ?_
      exact ⟨_, rfl, o, a, rfl, H.mono (by omega), by simpa [TC] using hp⟩
    · rw [List.concat_eq_append] at *
      have hcw : cs (ws' ++ [t]) = cs ws' ++ [(t.c : Int)] := by simp [cs]
      have hA2 := hp.length_eq
      have hTC : (TC (ws' ++ [t])).length = (TC ws').length + (t.kids.cells.length + 1) := by
        rw [TC_append, List.length_append]; simp [TC, Tr.cells]
      rw [List.length_append, hTC] at hA2
      rw [hTC] at hq
      have hwl := TC_len ws'
      have hnd : (o ++ TC (ws' ++ [t])).Nodup := hp.nodup_iff.2 hA
      have hct : t.c ∈ TC (ws' ++ [t]) := by rw [TC_append]; exact List.mem_append_right _ (by simp [TC, Tr.cells])
      have hto : t.c ∉ o := fun h => (List.nodup_append.1 hnd).2.2 t.c h t.c hct rfl
      obtain ⟨u, w, hN⟩ := hh t (by simp)
      have hν := hN _ (List.mem_cons_self ..)
      have htC : t.c < κ.C := H.lt hν
      rw [hcw]
      refine Do.t (decide_eq_true (by simp)) ?_
      refine Do.seq (mIdx_last _ _ (by rw [cs_length']; omega)) ?_
      refine Do.seq (mCut_last _ _ (by rw [cs_length']; omega)) ?_
      refine Do.assoc (Do.seq (H.live hν) ?_)
      refine Do.fb rfl ?_
      have hidx : mIdx seen (t.c : Int) = some false := by
        rw [mIdx_nat, hseen t.c htC, decide_eq_false hto]
      refine Do.assoc (Do.seq hidx ?_)
      refine Do.seq rfl (Do.f rfl ?_)
      refine Do.seq hidx ?_
      refine Do.seq (mApp_ok (by simp [zl]; omega)) ?_
      unfold trees_Nodes_f1
      have hks := t.kids.len_size
      have hroom := H.room
      have hksz : t.kids.size = t.kids.cells.length := (F.size_cells _).symm
      have hkC : t.kids.len ≤ κ.C := by
        have : ∀ c ∈ t.kids.cells, c ∈ N.map Nd.c := fun c hc => by
          obtain ⟨ν, hν, e⟩ := cell_node (up := t.c) hc
          exact e ▸ List.mem_map_of_mem (hN ν (List.mem_cons_of_mem _ hν))
        have hnk : t.kids.cells.Nodup := by
          have h1 := (List.nodup_append.1 hnd).2.1
          rw [TC_append] at h1
          have h2 := (List.nodup_append.1 h1).2.1
          simp only [TC, List.flatMap_cons, List.flatMap_nil, List.append_nil, Tr.cells, List.nodup_cons] at h2
          exact h2.2
        have := nodup_sub hnk this
        rw [List.length_map] at this
        omega
      refine Do.assoc ((kids_spec (k := m) H hν rfl (fun μ hμ => hN μ (List.mem_cons_of_mem _ hμ)) hkC (by omega)).bind ?_)
      rintro _ ⟨a1, rfl, H1⟩
      refine Do.seq rfl ?_
      refine Do.seq (mApp_ok (by simp only [cs_length']; unfold F.len at hks; omega)) ?_
      have e1 : zl o ++ [(t.c : Int)] = zl (o ++ [t.c]) := by simp [zl]
      have e2 : cs ws' ++ cs t.kids.trees = cs (ws' ++ t.kids.trees) := by simp [cs]
      simp only [e1, e2]
      have hT2 : (TC (ws' ++ t.kids.trees)).length = (TC ws').length + t.kids.cells.length := by
        rw [TC_append, List.length_append, ← F.cells_trees]
      refine (ih ((TC ws').length + t.kids.cells.length) (by omega) (ws' ++ t.kids.trees) (o ++ [t.c]) (mSet seen (t.c : Int) true) H1 m hT2 (by omega) ?_ ?_ ?_ ?_).mono ?_
      · intro s hs
        rcases List.mem_append.1 hs with hs | hs
        · exact hh s (by simp [hs])
        · exact here_kids ⟨u, w, hN⟩ s hs
      · refine List.Perm.trans (cpm fun P => ?_) hp
        simp only [TC_append, ← F.cells_trees, List.countP_append]
        simp only [TC, List.flatMap_cons, List.flatMap_nil, List.append_nil, Tr.cells, List.countP_cons, List.countP_nil]; omega
      · simp [mSet, hs]
      · intro c hc
        simp only [mSet, Int.toNat_natCast]
        by_cases e : t.c = c
        · subst e
          rw [List.getElem?_set_self (by omega)]
          simp
        · rw [getD_set_ne e, hseen c hc]
          have : c ≠ t.c := fun h => e h.symm
          simp [this]
      · rintro _ ⟨o', a2, rfl, H2, h2⟩
        refine ⟨o', a2, rfl, H2.mono ?_, h2⟩
        have hl1 : (ws' ++ t.kids.trees).length = ws'.length + t.kids.len := by simp [F.len]
        have hl2 : (ws' ++ [t]).length = ws'.length + 1 := by simp
        rw [hl1, hl2]
        have hk2 := TC_len (ws' ++ t.kids.trees)
        rw [hT2, hl1] at hk2
        omega
where cs_length' (ts : List Tr) : (cs ts).length = ts.length := by simp [cs]
theorem nodes_spec {k : Nat} {f : F} {n : Nat} {a : arena_Arena} (H : Hp κ n a it (nd f (-1) ++ N) L) (hk : 200000 < k) :
    Do (trees_Nodes k a f.hd) fun r => ∃ o a', r = (zl o, a') ∧ Hp κ (n + 2 * f.size) a' it (nd f (-1) ++ N) L ∧ o.Perm f.cells := by
  unfold trees_Nodes node_Below_g129
  have hsub : ∀ ν ∈ nd f (-1), ν ∈ nd f (-1) ++ N := fun ν h => List.mem_append_left _ h
  have hroom := len_ok H
  have hls := f.len_size
  have hcap := H.cap
  have hfl : f.trees.length = f.len := rfl
  refine (list_spec (k := k) H hsub (by omega) (by omega)).bind ?_
  rintro _ ⟨a1, rfl, H1⟩
  refine Do.assoc (Do.seq (Ar.cells H1) ?_)
  have e1 : mMake (κ.C : Int) false = some (List.replicate κ.C false) := by
    unfold mMake; rw [if_pos (by omega)]; simp
  refine Do.assoc (Do.seq e1 ?_)
  have e2 : lClone (cs f.trees) = some (cs f.trees) := by unfold lClone; rw [if_pos (by simp [cs]; omega)]
  refine Do.assoc (Do.seq e2 ?_)
  have hn : f.cells.Nodup := by
    have := H.nd
    rw [List.map_append, nd_cells] at this
    exact (List.nodup_append.1 this).1
  have hsz := f.size_cells
  have hTC : TC f.trees = f.cells := f.cells_trees.symm
  refine Do.assoc ((below_l0 (cs f.trees) f.cells hn (by omega) f.cells.length f.trees [] (List.replicate κ.C false) H1 k (by rw [hTC]) (by omega) (here_roots hsub) (by rw [hTC]; exact .refl _) (by simp) (fun c hc => by simp [hc])).bind ?_)
  rintro _ ⟨o, a2, rfl, H2, h⟩
  exact ⟨_, rfl, o, a2, rfl, H2.mono (by omega), h⟩
/-! Items -/
theorem items_l0 (all : List Nat) (hN : ∀ c ∈ all, ∃ ν ∈ N, ν.c = c) (hl : all.length < 100000) : ∀ (post pre : List Nat) {n : Nat} {a : arena_Arena} (H : Hp κ n a it N L) (m : Nat), post.length < m → all = pre ++ post →
    Do (node_Items_l0 (all.length : Int) (zl all) m (zl (pre.map fun c => (it c).i)) (pre.length : Int) a) fun r => ∃ a', r = (zl (all.map fun c => (it c).i), a') ∧ Hp κ (n + post.length) a' it N L
  | [], pre, n, a, H, m, hm, e => by
    obtain ⟨m, rfl⟩ : ∃ q, m = q + 1 := ⟨m - 1, by simp at hm; omega⟩
    rw [node_Items_l0]
    refine Do.f (decide_eq_false (by rw [e]; simp)) ?_
    exact ⟨_, rfl, a, by rw [e]; simp, H⟩
  | c :: post, pre, n, a, H, m, hm, e => by
    obtain ⟨m, rfl⟩ : ∃ q, m = q + 1 := ⟨m - 1, by simp at hm; omega⟩
    simp only [List.length_cons] at hm
    have hlen : pre.length < 100000 := by have := congrArg List.length e; simp at this; omega
    have ei : mIdx (zl all) (pre.length : Int) = some (c : Int) := by
      rw [e, zl_append]
      have := mIdx_mid (zl pre) (zl post) (c : Int)
      rwa [show (zl pre).length = pre.length by simp [zl]] at this
    obtain ⟨ν, hν, rfl⟩ := hN c (by rw [e]; simp)
    rw [node_Items_l0]
    refine Do.t (decide_eq_true (by rw [e]; simp; omega)) ?_
    refine Do.assoc (Do.seq ei ?_)
    refine Do.assoc ((H.geti hν).bind ?_)
    rintro _ ⟨a1, rfl, H1⟩
    refine Do.tb (bne_iff_ne.2 (by omega)) ?_
    refine Do.assoc (Do.seq (mApp_ok (by simp [zl]; omega)) ?_)
    refine Do.seq rfl ?_
    rw [w64_id (by omega) (by omega)]
    have := items_l0 all hN hl post (pre ++ [ν.c]) H1 m (by omega) (by rw [e]; simp)
    have e2 : ((pre ++ [ν.c]).length : Int) = (pre.length : Int) + 1 := by simp
    have e3 : zl ((pre ++ [ν.c]).map fun c => (it c).i) = zl (pre.map fun c => (it c).i) ++ [(((it ν.c).i : Nat) : Int)] := by simp [zl]
    rw [e2, e3] at this
    refine this.mono ?_
    rintro _ ⟨a2, rfl, H2⟩
    exact ⟨a2, rfl, H2.mono (by simp only [List.length_cons]; omega)⟩
theorem items_spec {k : Nat} (all : List Nat) (hN : ∀ c ∈ all, ∃ ν ∈ N, ν.c = c) (hl : all.length < 100000) {n : Nat} {a : arena_Arena} (H : Hp κ n a it N L) (hk : 100000 < k) :
    Do (node_Items k a (zl all)) fun r => ∃ a', r = (iSort (zl (all.map fun c => (it c).i)), a') ∧ Hp κ (n + all.length) a' it N L := by
  unfold node_Items
  have hz : (zl all).length = all.length := by simp [zl]
  rw [hz]
  refine (items_l0 all hN hl all [] H k (by omega) rfl).bind ?_
  rintro _ ⟨a1, rfl, H1⟩
  refine Do.seq (lSort_ok (by simp [zl]; omega)) ?_
  exact ⟨_, rfl, a1, rfl, H1⟩
theorem perm_nodes {f : F} {o : List Nat} (h : o.Perm f.cells) : ∀ c ∈ o, ∃ ν ∈ nd f (-1) ++ N, ν.c = c := by
  intro c hc
  obtain ⟨ν, hν, e⟩ := cell_node (up := -1) (h.mem_iff.1 hc)
  exact ⟨ν, List.mem_append_left _ hν, e⟩
/-- All: the items' cells, rising -/
theorem all_spec {k : Nat} {f : F} {n : Nat} {a : arena_Arena} (H : Hp κ n a it (nd f (-1) ++ N) L) (hk : 200000 < k) :
    Do (skew_All k a f.hd) fun r => ∃ a', r = (iSort (zl (f.cells.map fun c => (it c).i)), a') ∧ Hp κ (n + 3 * f.size) a' it (nd f (-1) ++ N) L := by
  unfold skew_All
  have hroom := len_ok H
  have hcap := H.cap
  have hsz := f.size_cells
  refine (nodes_spec (k := k) H hk).bind ?_
  rintro _ ⟨o, a1, rfl, H1, h⟩
  have hol := h.length_eq
  refine (items_spec (k := k) o (perm_nodes h) (by omega) H1 (by omega)).bind ?_
  rintro _ ⟨a2, rfl, H2⟩
  refine ⟨_, rfl, a2, ?_, H2.mono (by omega)⟩
  have : iSort (zl (o.map fun c => (it c).i)) = iSort (zl (f.cells.map fun c => (it c).i)) := iSort_congr ((h.map _).map _)
  rw [this]
/-- the item of a node that is given back -/
def out (it : Nat → It) (c : Nat) : Nat × arena_cell := ((it c).i, (it c).cell (-1))
theorem Hp.pl {n : Nat} {a : arena_Arena} {L' : Heap} (H : Hp κ n a it N L) (h : L.Perm L') : Hp κ n a it N L' := Ar.p H (h.append_left _)
theorem drop_l0 (all : List Nd) (l1 : List Int) (hl : all.length < 100000) : ∀ (post pre : List Nd) {n : Nat} {a : arena_Arena} {L : Heap} (H : Hp κ n a it (post ++ N) L) (m : Nat), post.length < m → all = pre ++ post →
    Do (node_Drop_l0 (all.length : Int) l1 (zl (all.map Nd.c)) m (pre.length : Int) a) fun a' => Hp κ (n + 3 * post.length) a' it N (post.map (fun ν => out it ν.c) ++ L)
  | [], pre, n, a, L, H, m, hm, e => by
    obtain ⟨m, rfl⟩ : ∃ q, m = q + 1 := ⟨m - 1, by simp at hm; omega⟩
    rw [node_Drop_l0]
    refine Do.f (decide_eq_false (by rw [e]; simp)) ?_
    exact ⟨_, rfl, H⟩
  | ν :: post, pre, n, a, L, H, m, hm, e => by
    obtain ⟨m, rfl⟩ : ∃ q, m = q + 1 := ⟨m - 1, by simp at hm; omega⟩
    simp only [List.length_cons] at hm
    have hlen : pre.length < 100000 := by have := congrArg List.length e; simp at this; omega
    have ei : mIdx (zl (all.map Nd.c)) (pre.length : Int) = some (ν.c : Int) := by
      rw [e, List.map_append, zl_append]
      have := mIdx_mid (zl (pre.map Nd.c)) (zl (post.map Nd.c)) (ν.c : Int)
      rwa [show (zl (pre.map Nd.c)).length = pre.length by simp [zl]] at this
    rw [node_Drop_l0]
    refine Do.t (decide_eq_true (by rw [e]; simp; omega)) ?_
    refine Do.seq ei ?_
    refine (node_End_spec H).bind ?_
    rintro _ ⟨a1, rfl, H1⟩
    rw [w64_id (by omega) (by omega)]
    have := drop_l0 all l1 hl post (pre ++ [ν]) H1 m (by omega) (by rw [e]; simp)
    have e2 : ((pre ++ [ν]).length : Int) = (pre.length : Int) + 1 := by simp
    rw [e2] at this
    refine this.mono fun a2 H2 => ?_
    have H3 := H2.pl (L' := (ν :: post).map (fun ν => out it ν.c) ++ L) List.perm_middle
    exact H3.mono (by simp only [List.length_cons]; omega)
/-- Drop: all nodes are given back -/
theorem drop_spec {k : Nat} {f : F} {n : Nat} {a : arena_Arena} (H : Hp κ n a it (nd f (-1) ++ N) L) (hk : 200000 < k) :
    Do (skew_Drop k a f.hd) fun r => ∃ a', r = (iSort (zl (f.cells.map fun c => (it c).i)), a') ∧ Hp κ (n + 6 * f.size) a' it N (f.cells.map (out it) ++ L) := by
  unfold skew_Drop node_Drop
  have hroom := len_ok H
  have hcap := H.cap
  have hsz := f.size_cells
  refine (nodes_spec (k := k) H hk).bind ?_
  rintro _ ⟨o, a1, rfl, H1, h⟩
  have hol := h.length_eq
  refine Do.assoc ((items_spec (k := k) o (perm_nodes h) (by omega) H1 (by omega)).bind ?_)
  rintro _ ⟨a2, rfl, H2⟩
  rw [← nd_cells f (-1)] at h
  obtain ⟨M, hM, eM⟩ := lift_perm h (nd f (-1)) rfl
  have hMl : M.length = o.length := by rw [← eM, List.length_map]
  have H3 : Hp κ (n + 2 * f.size + o.length) a2 it (M ++ N) L := H2.p (hM.symm.append_right N)
  have hz : ((zl o).length : Int) = (M.length : Int) := by simp [zl, hMl]
  have := drop_l0 M (iSort (zl (o.map fun c => (it c).i))) (by omega) M [] H3 k (by omega) rfl
  rw [eM] at this
  rw [hz]
  refine Do.assoc (this.bind fun a3 H4 => ?_)
  refine ⟨_, rfl, a3, ?_, ?_⟩
  · have : iSort (zl (o.map fun c => (it c).i)) = iSort (zl (f.cells.map fun c => (it c).i)) := by
      rw [nd_cells] at h
      exact iSort_congr ((h.map _).map _)
    rw [this]
  · have e : (M.map fun ν => out it ν.c) = (M.map Nd.c).map (out it) := by rw [List.map_map]; rfl
    rw [e, eM] at H4
    rw [nd_cells] at h
    exact (H4.pl ((h.map _).append_right L)).mono (by omega)
end
end Go.Proofs.YtmidmkinclmbdaaGreat
