/-
  The plain law of rows of trees, part 2: Row, Best, the sort by ranks.
-/
import Derived.Test.YtmidmkinclmbdaaGreatZ3
set_option linter.unusedVariables false
set_option linter.unusedSimpArgs false
set_option maxRecDepth 10000
namespace Go.Proofs.YtmidmkinclmbdaaGreat
open Go.Th

def Lt.top (l : Lt) : Nd := ⟨l.t.c, l.u, l.t.kids.hd, -1, l.w, l.t.r, 0⟩
theorem Lnd_eq (l : Lt) : l.nd = l.top :: nd l.t.kids l.t.c := rfl
theorem top_mem {ls : List Lt} {l : Lt} (h : l ∈ ls) : l.top ∈ LN ls := List.mem_flatMap.2 ⟨l, h, List.mem_cons_self ..⟩
/-- the cells of trees -/
def cs (ts : List Tr) : List Int := ts.map fun t => (t.c : Int)
def lc (ls : List Lt) : List Int := cs (ls.map Lt.t)
theorem lc_append (l m : List Lt) : lc (l ++ m) = lc l ++ lc m := by simp [lc, cs]
theorem lc_cons (l : Lt) (m : List Lt) : lc (l :: m) = (l.t.c : Int) :: lc m := rfl
theorem lc_length (l : List Lt) : (lc l).length = l.length := by simp [lc, cs]

section
variable {κ : Cfg} {it : Nat → It} {N : List Nd} {L : Heap}

/-! Row -/
theorem trow_l0 (all : List Lt) (hl : all.length < 100000) : ∀ (rs qs : List Lt) {n : Nat} {a : arena_Arena} (H : Hp κ n a it (LN rs ++ (nd (F.of (qs.map Lt.t)) (-1) ++ N)) L) (m : Nat), rs.length < m → all = rs.reverse ++ qs →
    Do (trees_Row_l0 (lc all) m (F.of (qs.map Lt.t)).hd ((rs.length : Int) - 1) a) fun r => ∃ a', r = ((F.of (all.map Lt.t)).hd, a') ∧ Hp κ (n + 2 * rs.length) a' it (nd (F.of (all.map Lt.t)) (-1) ++ N) L
  | [], qs, n, a, H, m, hm, e => by
    obtain ⟨m, rfl⟩ : ∃ q, m = q + 1 := ⟨m - 1, by omega⟩
    rw [trees_Row_l0]
    refine Do.f (decide_eq_false (by simp)) ?_
    have e' : all = qs := e
    subst e'
    exact ⟨_, rfl, a, rfl, H⟩
  | l :: rs, qs, n, a, H, m, hm, e => by
    obtain ⟨m, rfl⟩ : ∃ q, m = q + 1 := ⟨m - 1, by simp at hm; omega⟩
    simp only [List.length_cons] at hm
    have hlen : rs.length < 100000 := by have := congrArg List.length e; simp at this; omega
    have e1 : (((l :: rs).length : Nat) : Int) - 1 = (rs.length : Int) := by simp only [List.length_cons]; omega
    have ei : mIdx (lc all) (rs.length : Int) = some (l.t.c : Int) := by
      rw [e, List.reverse_cons, List.append_assoc, lc_append]
      have := mIdx_mid (lc rs.reverse) (lc qs) (l.t.c : Int)
      rw [lc_length, List.length_reverse] at this
      exact this
    rw [e1, trees_Row_l0]
    refine Do.t (decide_eq_true (by omega)) ?_
    refine Do.seq ei ?_
    have H1 : Hp κ n a it (l.top :: (nd l.t.kids l.t.c ++ (LN rs ++ (nd (F.of (qs.map Lt.t)) (-1) ++ N)))) L := by
      refine H.p (npm fun p => ?_)
      rw [LN_cons, Lnd_eq]
      simp only [List.countP_cons, List.countP_append]; omega
    refine (H1.set ⟨l.t.c, l.u, l.t.kids.hd, -1, (F.of (qs.map Lt.t)).hd, l.t.r, 0⟩).bind ?_
    rintro _ ⟨a1, rfl, H2⟩
    refine Do.seq ei ?_
    refine (H2.set (ν := ⟨l.t.c, l.u, l.t.kids.hd, -1, (F.of (qs.map Lt.t)).hd, l.t.r, 0⟩) ⟨l.t.c, -1, l.t.kids.hd, -1, (F.of (qs.map Lt.t)).hd, l.t.r, 0⟩).bind ?_
    rintro _ ⟨a2, rfl, H3⟩
    refine Do.seq ei ?_
    rw [w64_id (by omega) (by omega)]
    have H4 : Hp κ (n + 2) a2 it (LN rs ++ (nd (F.of ((l :: qs).map Lt.t)) (-1) ++ N)) L := by
      refine H3.p (npm fun p => ?_)
      simp only [List.map_cons, F.of, nd, List.countP_cons, List.countP_append]; omega
    refine (trow_l0 all hl rs (l :: qs) H4 m (by omega) (by rw [e]; simp)).mono ?_
    rintro _ ⟨a3, rfl, H5⟩
    exact ⟨a3, rfl, H5.mono (by simp only [List.length_cons]; omega)⟩
theorem trow_spec {k : Nat} (ls : List Lt) (hl : ls.length < 100000) (hk : ls.length < k) {n : Nat} {a : arena_Arena} (H : Hp κ n a it (LN ls ++ N) L) :
    Do (trees_Row k a (lc ls)) fun r => ∃ a', r = ((F.of (ls.map Lt.t)).hd, a') ∧ Hp κ (n + 2 * ls.length) a' it (nd (F.of (ls.map Lt.t)) (-1) ++ N) L := by
  unfold trees_Row
  rw [lc_length, w64_id (by omega) (by omega)]
  have H1 : Hp κ n a it (LN ls.reverse ++ (nd (F.of (([] : List Lt).map Lt.t)) (-1) ++ N)) L := H.p ((LN_perm ls.reverse_perm.symm).append_right _)
  have := trow_l0 ls hl ls.reverse [] H1 k (by simpa using hk) (by simp)
  rw [List.length_reverse] at this
  refine this.bind ?_
  rintro _ ⟨a1, rfl, H2⟩
  exact ⟨_, rfl, a1, rfl, H2⟩

/-! Best -/
def zl (l : List Nat) : List Int := l.map fun c : Nat => (c : Int)
def bst (it : Nat → It) : Nat → List Nat → Nat
  | b, [] => b
  | b, c :: r => bst it (if (it c).lt (it b) then c else b) r
theorem bst_mem : ∀ (l : List Nat) (b : Nat), bst it b l = b ∨ bst it b l ∈ l
  | [], b => Or.inl rfl
  | c :: r, b => by
    rw [bst]
    split
    · rcases bst_mem r c with h | h
      · exact Or.inr (by rw [h]; exact List.mem_cons_self ..)
      · exact Or.inr (List.mem_cons_of_mem _ h)
    · rcases bst_mem r b with h | h
      · exact Or.inl h
      · exact Or.inr (List.mem_cons_of_mem _ h)
theorem bst_min : ∀ (l : List Nat) (b : Nat), (¬ (it b).lt (it (bst it b l))) ∧ ∀ c ∈ l, ¬ (it c).lt (it (bst it b l))
  | [], b => ⟨It.lt_irrefl _, by simp⟩
  | c :: r, b => by
    rw [bst]
    split
    · rename_i h
      obtain ⟨h1, h2⟩ := bst_min r c
      refine ⟨It.le_trans h1 (It.lt_asymm h), fun d hd => ?_⟩
      rcases List.mem_cons.1 hd with rfl | hd
      · exact h1
      · exact h2 d hd
    · rename_i h
      obtain ⟨h1, h2⟩ := bst_min r b
      refine ⟨h1, fun d hd => ?_⟩
      rcases List.mem_cons.1 hd with rfl | hd
      · exact It.le_trans h1 h
      · exact h2 d hd
theorem best_l0 {k : Nat} (all : List Nat) (hN : ∀ c ∈ all, ∃ ν ∈ N, ν.c = c) (hl : all.length < 100000) : ∀ (post pre : List Nat) (b : Nat) {n : Nat} {a : arena_Arena} (H : Hp κ n a it N L) (m : Nat), post.length + 3 < m → all = pre ++ post → b ∈ all →
    Do (trees_Best_l0 (all.length : Int) (zl all) m (b : Int) (pre.length : Int) a) fun r => ∃ a', r = (((bst it b post : Nat) : Int), a') ∧ Hp κ (n + 6 * post.length) a' it N L
  | [], pre, b, n, a, H, m, hm, e, hb => by
    obtain ⟨m, rfl⟩ : ∃ q, m = q + 1 := ⟨m - 1, by simp at hm; omega⟩
    rw [trees_Best_l0]
    refine Do.f (decide_eq_false (by rw [e]; simp)) ?_
    exact ⟨_, rfl, a, rfl, H⟩
  | c :: post, pre, b, n, a, H, m, hm, e, hb => by
    obtain ⟨m, rfl⟩ : ∃ q, m = q + 1 := ⟨m - 1, by simp at hm; omega⟩
    simp only [List.length_cons] at hm
    have hlen : pre.length < 100000 := by have := congrArg List.length e; simp at this; omega
    have ei : mIdx (zl all) (pre.length : Int) = some (c : Int) := by
      rw [e, zl, List.map_append]
      have := mIdx_mid (zl pre) (zl post) (c : Int)
      rwa [zl, List.length_map] at this
    rw [trees_Best_l0]
    refine Do.t (decide_eq_true (by rw [e]; simp; omega)) ?_
    refine Do.assoc (Do.seq ei ?_)
    obtain ⟨ν, hν, ec⟩ := hN c (by rw [e]; simp)
    obtain ⟨μ, hμ, eb⟩ := hN b hb
    refine Do.assoc (Do.fb (by simp) ?_)
    have := H.before (k := m) (by omega) hν hμ
    rw [ec, eb] at this
    refine Do.assoc (this.bind ?_)
    rintro _ ⟨a1, rfl, H1⟩
    have hb' : (if (it c).lt (it b) then c else b) ∈ all := by
      split
      · rw [e]; simp
      · exact hb
    have := best_l0 (k := k) all hN hl post (pre ++ [c]) (if (it c).lt (it b) then c else b) H1 m (by omega) (by rw [e]; simp) hb'
    have e2 : w64 ((pre.length : Int) + 1) = ((pre ++ [c]).length : Int) := by rw [w64_id (by omega) (by omega)]; simp
    rw [← e2] at this
    simp only [Option.bind_some]
    rw [bst]
    by_cases hc : (it c).lt (it b)
    · rw [if_pos hc] at this ⊢
      refine Do.tb (decide_eq_true hc) ?_
      simp only [Option.bind_some]
      refine this.mono ?_
      rintro _ ⟨a2, rfl, H2⟩
      exact ⟨a2, rfl, H2.mono (by simp only [List.length_cons]; omega)⟩
    · rw [if_neg hc] at this ⊢
      refine Do.fb (decide_eq_false hc) ?_
      simp only [Option.bind_some]
      refine this.mono ?_
      rintro _ ⟨a2, rfl, H2⟩
      exact ⟨a2, rfl, H2.mono (by simp only [List.length_cons]; omega)⟩
theorem best_nil {k : Nat} (hk : 0 < k) (a : arena_Arena) : trees_Best k a [] = some (-1, a) := by
  obtain ⟨m, rfl⟩ : ∃ q, k = q + 1 := ⟨k - 1, by omega⟩
  unfold trees_Best
  rw [trees_Best_l0]; rfl
theorem best_spec {k : Nat} (c : Nat) (r : List Nat) (hN : ∀ d ∈ c :: r, ∃ ν ∈ N, ν.c = d) (hl : r.length < 90000) (hk : r.length + 4 < k) {n : Nat} {a : arena_Arena} (H : Hp κ n a it N L) :
    Do (trees_Best k a (zl (c :: r))) fun res => ∃ a', res = (((bst it c r : Nat) : Int), a') ∧ Hp κ (n + 6 * r.length) a' it N L := by
  obtain ⟨m, rfl⟩ : ∃ q, k = q + 1 := ⟨k - 1, by omega⟩
  unfold trees_Best
  rw [trees_Best_l0]
  refine Do.bind (P := fun res => ∃ a', res = (((bst it c r : Nat) : Int), a') ∧ Hp κ (n + 6 * r.length) a' it N L) ?_ (by
    rintro _ ⟨a2, rfl, H2⟩
    exact ⟨_, rfl, a2, rfl, H2⟩)
  refine Do.t (decide_eq_true (by simp [zl])) ?_
  refine Do.assoc (Do.seq (mIdx_mid [] (zl r) (c : Int)) ?_)
  simp only [Option.bind_some, beq_self_eq_true, cond_true]
  have := best_l0 (k := 0) (c :: r) hN (by simp only [List.length_cons]; omega) r [c] c H m (by omega) rfl (List.mem_cons_self ..)
  have e : ((zl (c :: r)).length : Int) = ((c :: r).length : Int) := by simp [zl]
  rw [e]
  exact this
end

/-! the sort by ranks -/
def rOk (x : trees_ranked) : Prop := 0 ≤ x.rank ∧ x.rank < 1000
theorem cmp_rank {x y : trees_ranked} (hx : rOk x) (hy : rOk y) : (trees_Carry_f1 x y).map (fun t => decide (t < 0)) = some (decide (x.rank < y.rank)) := by
  obtain ⟨h1, h2⟩ := hx
  obtain ⟨h3, h4⟩ := hy
  unfold trees_Carry_f1
  rw [w64_id (by omega) (by omega)]
  simp only [Option.map_some]
  congr 1
  rw [decide_eq_decide]
  split <;> split <;> omega
def RS (l : List trees_ranked) : Prop := l.Pairwise fun x y => x.rank ≤ y.rank
theorem set_mid {α : Type} (p q : List α) (x y : α) : mSet (p ++ x :: q) (p.length : Int) y = p ++ y :: q := by
  unfold mSet
  simp
theorem ins_l1 (b2 i1 : Int) : ∀ (rp : List trees_ranked) (x : trees_ranked) (S : List trees_ranked) (m : Nat), rp.length < m → rp.length < 1000 → rOk x → (∀ y ∈ rp, rOk y) → RS rp.reverse →
    Do (slices_insertionSortCmpFunc_trees_ranked_g97_l1 0 b2 i1 m (rp.length : Int) (rp.reverse ++ x :: S)) fun r => ∃ q, r = q ++ S ∧ RS q ∧ q.Perm (x :: rp)
  | [], x, S, m, hm, hb, hx, hr, hs => by
    obtain ⟨m, rfl⟩ : ∃ q, m = q + 1 := ⟨m - 1, by omega⟩
    rw [slices_insertionSortCmpFunc_trees_ranked_g97_l1]
    refine Do.fb (decide_eq_false (by simp)) ?_
    refine Do.seq rfl (Do.f rfl ?_)
    exact ⟨_, rfl, [x], rfl, by simp [RS], .refl _⟩
  | y :: rp, x, S, m, hm, hb, hx, hr, hs => by
    obtain ⟨m, rfl⟩ : ∃ q, m = q + 1 := ⟨m - 1, by omega⟩
    simp only [List.length_cons] at hm hb
    have hy := hr y (List.mem_cons_self ..)
    have e0 : (y :: rp).reverse ++ x :: S = rp.reverse ++ y :: x :: S := by simp
    have e1 : mIdx (rp.reverse ++ y :: x :: S) (((y :: rp).length : Nat) : Int) = some x := by
      have := mIdx_mid (rp.reverse ++ [y]) S x
      simpa using this
    have e2 : w64 ((((y :: rp).length : Nat) : Int) - 1) = (rp.length : Int) := by simp only [List.length_cons]; rw [w64_id (by omega) (by omega)]; omega
    have e3 : mIdx (rp.reverse ++ y :: x :: S) (rp.length : Int) = some y := by
      have := mIdx_mid rp.reverse (x :: S) y
      simpa using this
    rw [e0, slices_insertionSortCmpFunc_trees_ranked_g97_l1, e1, e2, e3]
    refine Do.tb (decide_eq_true (by simp only [List.length_cons]; omega)) ?_
    simp only [Option.bind_some]
    have hc := cmp_rank hx hy
    cases hf : trees_Carry_f1 x y with
    | none => rw [hf] at hc; cases hc
    | some t =>
      rw [hf] at hc
      simp only [Option.map_some, Option.some.injEq] at hc
      simp only [Option.bind_some]
      rw [hc]
      have hs' : RS rp.reverse := by
        simp only [RS, List.reverse_cons, List.pairwise_append] at hs
        exact hs.1
      have hle : ∀ z ∈ rp, z.rank ≤ y.rank := by
        simp only [RS, List.reverse_cons, List.pairwise_append] at hs
        intro z hz
        exact hs.2.2 z (by simpa using hz) y (by simp)
      by_cases hlt : x.rank < y.rank
      · refine Do.t (decide_eq_true hlt) ?_
        have e4 : mSet (rp.reverse ++ y :: x :: S) (((y :: rp).length : Nat) : Int) y = rp.reverse ++ y :: y :: S := by
          have := set_mid (rp.reverse ++ [y]) S x y
          simpa using this
        have e5 : mIdx (rp.reverse ++ y :: y :: S) (rp.length : Int) = some y := by
          have := mIdx_mid rp.reverse (y :: S) y
          simpa using this
        have e6 : mSet (rp.reverse ++ y :: y :: S) (rp.length : Int) x = rp.reverse ++ x :: y :: S := by
          have := set_mid rp.reverse (y :: S) y x
          simpa using this
        rw [e4, e5, e6]
        simp only [Option.bind_some]
        refine (ins_l1 b2 i1 rp x (y :: S) m (by omega) (by omega) hx (fun z hz => hr z (List.mem_cons_of_mem _ hz)) hs').mono ?_
        rintro _ ⟨q, rfl, hq, hp⟩
        refine ⟨q ++ [y], by simp, ?_, ?_⟩
        · simp only [RS, List.pairwise_append]
          refine ⟨hq, by simp, fun z hz u hu => ?_⟩
          simp only [List.mem_singleton] at hu
          subst hu
          rcases List.mem_cons.1 (hp.mem_iff.1 hz) with rfl | hz
          · omega
          · exact hle z hz
        · refine (List.perm_append_singleton y q).trans ((hp.cons y).trans (List.Perm.swap ..))
      · refine Do.f (decide_eq_false hlt) ?_
        refine ⟨_, rfl, rp.reverse ++ [y, x], by simp, ?_, ?_⟩
        · simp only [RS, List.pairwise_append]
          refine ⟨hs', by simp; omega, fun z hz u hu => ?_⟩
          have := hle z (by simpa using hz)
          simp only [List.mem_cons, List.not_mem_nil, or_false] at hu
          rcases hu with rfl | rfl <;> omega
        · refine (List.perm_append_comm).trans ?_
          simp only [List.cons_append, List.nil_append]
          exact (List.Perm.swap ..).trans (((List.reverse_perm rp).cons y).cons x)
theorem ins_l0 (all : Nat) (hall : all < 1000) : ∀ (d i : Nat) (A S : List trees_ranked) (m : Nat), A.length = i → S.length = d → all = i + d → all + d < m → RS A → (∀ y ∈ A ++ S, rOk y) →
    Do (slices_insertionSortCmpFunc_trees_ranked_g97_l0 0 (all : Int) m (i : Int) (A ++ S)) fun r => RS r ∧ r.Perm (A ++ S)
  | 0, i, A, S, m, hA, hS, e, hm, hs, hr => by
    obtain ⟨m, rfl⟩ : ∃ q, m = q + 1 := ⟨m - 1, by omega⟩
    rw [slices_insertionSortCmpFunc_trees_ranked_g97_l0]
    refine Do.f (decide_eq_false (by omega)) ?_
    have := List.eq_nil_of_length_eq_zero hS
    subst this
    exact ⟨_, rfl, by simpa using hs, .refl _⟩
  | d + 1, i, A, S, m, hA, hS, e, hm, hs, hr => by
    obtain ⟨m, rfl⟩ : ∃ q, m = q + 1 := ⟨m - 1, by omega⟩
    rw [slices_insertionSortCmpFunc_trees_ranked_g97_l0]
    refine Do.t (decide_eq_true (by omega)) ?_
    cases S with
    | nil => simp at hS
    | cons x S =>
      simp only [List.length_cons] at hS
      have := ins_l1 (all : Int) (i : Int) A.reverse x S m (by simp; omega) (by simp; omega) (hr x (by simp)) (fun y hy => hr y (by simp at hy; simp [hy])) (by simpa using hs)
      rw [List.reverse_reverse, List.length_reverse, hA] at this
      refine this.bind ?_
      rintro _ ⟨q, rfl, hq, hp⟩
      have hp' : q.Perm (A ++ [x]) := hp.trans ((List.reverse_perm A).cons x |>.trans (List.perm_append_singleton x A).symm)
      rw [w64_id (by omega) (by omega)]
      have hl : q.length = i + 1 := by rw [hp'.length_eq]; simp [hA]
      refine (ins_l0 all hall d (i + 1) q S m hl (by omega) (by omega) (by omega) hq (fun y hy => hr y ?_)).mono ?_
      · rcases List.mem_append.1 hy with hy | hy
        · have := hp'.mem_iff.1 hy
          simp at this ⊢
          rcases this with h | h <;> simp [h]
        · simp [hy]
      · rintro r ⟨h1, h2⟩
        refine ⟨h1, h2.trans ?_⟩
        have := hp'.append_right S
        simpa using this
theorem ins_sort {k : Nat} (l : List trees_ranked) (hl : l.length ≤ 20) (hk : 100 ≤ k) (hr : ∀ y ∈ l, rOk y) :
    Do (slices_insertionSortCmpFunc_trees_ranked_g97 k l 0 (l.length : Int)) fun r => RS r ∧ r.Perm l := by
  unfold slices_insertionSortCmpFunc_trees_ranked_g97
  rw [show w64 (0 + 1) = ((1 : Nat) : Int) from rfl]
  cases l with
  | nil =>
    obtain ⟨m, rfl⟩ : ∃ q, k = q + 1 := ⟨k - 1, by omega⟩
    rw [slices_insertionSortCmpFunc_trees_ranked_g97_l0]
    exact ⟨_, rfl, by simp [RS], .refl _⟩
  | cons x S =>
    have := ins_l0 (x :: S).length (by omega) S.length 1 [x] S k rfl rfl (by simp; omega) (by simp at *; omega) (by simp [RS]) (by simpa using hr)
    refine this.bind ?_
    rintro r ⟨h1, h2⟩
    have hsame : mSame r.length (x :: S).length = some () := by unfold mSame; rw [if_pos (by simpa using h2.length_eq)]
    simp only [hsame, Option.bind_some]
    exact ⟨_, rfl, h1, h2⟩
theorem sort_spec {k : Nat} (l : List trees_ranked) (hl : l.length ≤ 20) (hk : 200 ≤ k) (hr : ∀ y ∈ l, rOk y) :
    Do (slices_SortStableFunc_trees_ranked_g97 k l) fun r => RS r ∧ r.Perm l := by
  unfold slices_SortStableFunc_trees_ranked_g97 slices_stableCmpFunc_trees_ranked_g97
  obtain ⟨m, rfl⟩ : ∃ q, k = q + 2 := ⟨k - 2, by omega⟩
  by_cases h : l.length = 20
  · have hi := ins_sort (k := m + 1) l hl (by omega) hr
    have h20 : (l.length : Int) = 20 := by omega
    rw [slices_stableCmpFunc_trees_ranked_g97_l0, h20, decide_eq_true (by decide : (20 : Int) ≤ 20)]
    rw [h20] at hi
    simp only [cond_true]
    refine Do.assoc (Do.assoc (hi.bind ?_))
    rintro r ⟨h1, h2⟩
    have hsame : mSame r.length l.length = some () := by unfold mSame; rw [if_pos h2.length_eq]
    rw [slices_stableCmpFunc_trees_ranked_g97_l0, show w64 (20 + 20) = 40 from rfl, decide_eq_false (by decide : ¬ (40 : Int) ≤ 20)]
    simp only [cond_false, Option.bind_some]
    have e2 : slices_insertionSortCmpFunc_trees_ranked_g97 (m + 2) r 20 20 = some r := by
      unfold slices_insertionSortCmpFunc_trees_ranked_g97
      rw [slices_insertionSortCmpFunc_trees_ranked_g97_l0, show w64 (20 + 1) = 21 from rfl, decide_eq_false (by decide : ¬ (21 : Int) < 20)]
      simp [mSame]
    rw [e2]
    simp only [Option.bind_some]
    rw [slices_stableCmpFunc_trees_ranked_g97_l1, decide_eq_false (by decide : ¬ (20 : Int) < 20)]
    simp only [cond_false, Option.bind_some, hsame]
    exact ⟨_, rfl, h1, h2⟩
  · rw [slices_stableCmpFunc_trees_ranked_g97_l0, decide_eq_false (by omega : ¬ (20 : Int) ≤ (l.length : Int))]
    simp only [cond_false, Option.bind_some]
    refine Do.assoc ((ins_sort l hl (by omega) hr).bind ?_)
    rintro r ⟨h1, h2⟩
    have hsame : mSame r.length l.length = some () := by unfold mSame; rw [if_pos h2.length_eq]
    rw [slices_stableCmpFunc_trees_ranked_g97_l1, decide_eq_false (by omega : ¬ (20 : Int) < (l.length : Int))]
    simp only [cond_false, Option.bind_some, hsame]
    exact ⟨_, rfl, h1, h2⟩
end Go.Proofs.YtmidmkinclmbdaaGreat
