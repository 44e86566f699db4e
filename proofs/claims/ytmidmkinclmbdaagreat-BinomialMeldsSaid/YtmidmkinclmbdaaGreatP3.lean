/-
  The plain law of rows of trees: forests, what List, Kids, Under, Link, Row, Best do.
-/
import Derived.Test.YtmidmkinclmbdaaGreatP2
set_option linter.unusedVariables false
set_option linter.unusedSimpArgs false
set_option maxRecDepth 10000
namespace Go.Proofs.YtmidmkinclmbdaaGreat
open Go.Th

/-- rows of trees: a node's cell, its rank, its children, what is right of it -/
inductive F where
  | nil : F
  | cons (c r : Nat) (kids rest : F) : F
def F.hd : F → Int
  | .nil => -1
  | .cons c _ _ _ => (c : Int)
def F.size : F → Nat
  | .nil => 0
  | .cons _ _ kids rest => kids.size + rest.size + 1
structure Tr where
  c : Nat
  r : Nat
  kids : F
def F.trees : F → List Tr
  | .nil => []
  | .cons c r kids rest => ⟨c, r, kids⟩ :: rest.trees
def F.of : List Tr → F
  | [] => .nil
  | t :: ts => .cons t.c t.r t.kids (F.of ts)
theorem F.of_trees : ∀ f : F, F.of f.trees = f
  | .nil => rfl
  | .cons c r kids rest => by rw [F.trees, F.of, F.of_trees rest]
theorem F.trees_of : ∀ ts : List Tr, (F.of ts).trees = ts
  | [] => rfl
  | t :: ts => by rw [F.of, F.trees, F.trees_of ts]
def Tr.under (t l : Tr) : Tr := ⟨t.c, t.r + 1, .cons l.c l.r l.kids t.kids⟩
/-- the nodes of a row -/
def nd : F → Int → List Nd
  | .nil, _ => []
  | .cons c r kids rest, up => ⟨c, up, kids.hd, -1, rest.hd, r, 0⟩ :: (nd kids c ++ nd rest up)
def Tr.nd (t : Tr) (u w : Int) : List Nd := ⟨t.c, u, t.kids.hd, -1, w, t.r, 0⟩ :: Go.Proofs.YtmidmkinclmbdaaGreat.nd t.kids t.c
/-- a tree that hangs somewhere -/
structure Lt where
  t : Tr
  u : Int
  w : Int
def Lt.nd (l : Lt) : List Nd := l.t.nd l.u l.w
def LN (ls : List Lt) : List Nd := ls.flatMap Lt.nd
theorem LN_cons (l : Lt) (ls : List Lt) : LN (l :: ls) = l.nd ++ LN ls := rfl
theorem LN_append (l m : List Lt) : LN (l ++ m) = LN l ++ LN m := List.flatMap_append
theorem LN_perm {l m : List Lt} (h : l.Perm m) : (LN l).Perm (LN m) := h.flatMap_right _
def F.loose : F → Int → List Lt
  | .nil, _ => []
  | .cons c r kids rest, up => ⟨⟨c, r, kids⟩, up, rest.hd⟩ :: rest.loose up
theorem nd_loose : ∀ (f : F) (up : Int), nd f up = LN (f.loose up)
  | .nil, _ => rfl
  | .cons c r kids rest, up => by
    rw [F.loose, LN_cons, nd, nd_loose rest up]; rfl
theorem loose_t : ∀ (f : F) (up : Int), (f.loose up).map Lt.t = f.trees
  | .nil, _ => rfl
  | .cons c r kids rest, up => by rw [F.loose, List.map_cons, loose_t rest up, F.trees]
/-- the cells of a row, of a tree -/
def F.cells : F → List Nat
  | .nil => []
  | .cons c _ kids rest => c :: (kids.cells ++ rest.cells)
def Tr.cells (t : Tr) : List Nat := t.c :: t.kids.cells
def TC (ts : List Tr) : List Nat := ts.flatMap Tr.cells
theorem nd_cells : ∀ (f : F) (up : Int), (nd f up).map Nd.c = f.cells
  | .nil, _ => rfl
  | .cons c r kids rest, up => by rw [nd, List.map_cons, List.map_append, nd_cells, nd_cells, F.cells]
theorem F.cells_trees : ∀ f : F, f.cells = TC f.trees
  | .nil => rfl
  | .cons c r kids rest => by rw [F.cells, F.trees, F.cells_trees rest]; rfl
theorem F.size_cells : ∀ f : F, f.cells.length = f.size
  | .nil => rfl
  | .cons c r kids rest => by rw [F.cells, F.size, List.length_cons, List.length_append, F.size_cells, F.size_cells]
theorem nd_size (f : F) (up : Int) : (nd f up).length = f.size := by
  rw [← F.size_cells, ← nd_cells f up, List.length_map]
theorem LN_cells : ∀ ls : List Lt, (LN ls).map Nd.c = TC (ls.map Lt.t)
  | [] => rfl
  | l :: ls => by
    rw [LN_cons, List.map_append, LN_cells ls, List.map_cons]
    show (⟨l.t.c, l.u, l.t.kids.hd, -1, l.w, l.t.r, 0⟩ :: nd l.t.kids l.t.c : List Nd).map Nd.c ++ _ = _
    rw [List.map_cons, nd_cells]; rfl

section
variable {κ : Cfg} {n : Nat} {a : arena_Arena} {it : Nat → It} {N : List Nd} {L : Heap}

theorem hd_ok (H : Hp κ n a it N L) {f : F} {up : Int} (h : ∀ ν ∈ nd f up, ν ∈ N) : -1 ≤ f.hd ∧ f.hd < κ.C := by
  cases f with
  | nil => simp only [F.hd]; omega
  | cons c r kids rest =>
    have := H.lt (h _ (List.mem_cons_self ..))
    simp only [F.hd]; simp only at this; omega

/-- the cells of a row's roots -/
def F.roots : F → List Int
  | .nil => []
  | .cons c _ _ rest => (c : Int) :: rest.roots
theorem roots_trees : ∀ f : F, f.roots = f.trees.map fun t => (t.c : Int)
  | .nil => rfl
  | .cons c r kids rest => by rw [F.roots, F.trees, List.map_cons, roots_trees rest]
def F.len (f : F) : Nat := f.trees.length
theorem F.len_size : ∀ f : F, f.len ≤ f.size
  | .nil => Nat.le_refl _
  | .cons c r kids rest => by
    have := F.len_size rest
    simp only [F.len, F.trees, F.size, List.length_cons] at *; omega
theorem row_l0 : ∀ (f : F) (up : Int) {n : Nat} {a : arena_Arena} (H : Hp κ n a it N L) (hs : ∀ ν ∈ nd f up, ν ∈ N) (m : Nat) (out : List Int), f.len < m → out.length + f.len ≤ κ.C →
    Do (node_Row_l0 3 m f.hd out a) fun r => ∃ a', r = (out ++ f.roots, a') ∧ Hp κ (n + f.len) a' it N L
  | .nil, up, n, a, H, hs, m, out, hm, ho => by
    obtain ⟨m, rfl⟩ : ∃ q, m = q + 1 := ⟨m - 1, by omega⟩
    rw [node_Row_l0]
    refine Do.assoc (Do.seq (live_neg (by decide)) ?_)
    exact ⟨_, rfl, a, by simp [F.roots], H⟩
  | .cons c r kids rest, up, n, a, H, hs, m, out, hm, ho => by
    obtain ⟨m, rfl⟩ : ∃ q, m = q + 1 := ⟨m - 1, by omega⟩
    have hlen : (F.cons c r kids rest).len = rest.len + 1 := rfl
    rw [hlen] at hm ho ⊢
    have hν := hs _ (List.mem_cons_self ..)
    have hrest : ∀ ν ∈ nd rest up, ν ∈ N := fun ν h => hs ν (List.mem_cons_of_mem _ (List.mem_append_right _ h))
    rw [node_Row_l0]
    refine Do.assoc (Do.seq (H.live hν) (Do.tb rfl ?_))
    refine Do.assoc (Do.seq (Ar.cells H) ?_)
    have hcap := H.cap
    refine Do.seq rfl (Do.t (decide_eq_true (by omega)) ?_)
    refine Do.seq (mApp_ok (by simp only [List.length_singleton]; omega)) ?_
    have hh := hd_ok H hrest
    refine (H.getc hν (f := 3) hh.1 hh.2).bind ?_
    rintro _ ⟨a1, rfl, H⟩
    refine (row_l0 rest up H hrest m (out ++ [(c : Int)]) (by omega) (by simp only [List.length_append, List.length_singleton]; omega)).mono ?_
    rintro _ ⟨a2, rfl, H⟩
    exact ⟨a2, by simp [F.roots], H.mono (by omega)⟩
theorem nodup_sub : ∀ {l m : List Nat}, l.Nodup → (∀ x ∈ l, x ∈ m) → l.length ≤ m.length
  | [], _, _, _ => Nat.zero_le _
  | x :: l, m, hn, hs => by
    obtain ⟨h1, h2⟩ := List.nodup_cons.1 hn
    have hx := hs x (List.mem_cons_self ..)
    have := nodup_sub (m := m.erase x) h2 fun y hy => by
      have hne : y ≠ x := fun e => h1 (e ▸ hy)
      exact (List.mem_erase_of_ne hne).2 (hs y (List.mem_cons_of_mem _ hy))
    rw [List.length_erase_of_mem hx] at this
    have : 0 < m.length := List.length_pos_of_mem hx
    simp only [List.length_cons]; omega
end
/-- Where n hangs on a row, and its row of children: n becomes the first child of up. -/
theorem under_spec {κ : Cfg} {n : Nat} {a : arena_Arena} {it : Nat → It} {N : List Nd} {L : Heap} {ν μ : Nd} (H : Hp κ n a it (ν :: μ :: N) L) (h0 : -1 ≤ μ.down) (h1 : μ.down < κ.C) :
    Do (trees_Under a (ν.c : Int) (μ.c : Int)) fun a' => Hp κ (n + 4) a' it (⟨ν.c, μ.c, ν.down, ν.left, μ.down, ν.rank, ν.mark⟩ :: ⟨μ.c, μ.up, ν.c, μ.left, μ.right, μ.rank, μ.mark⟩ :: N) L := by
  unfold trees_Under
  refine (H.getc (List.mem_cons_of_mem _ (List.mem_cons_self ..)) (f := 1) h0 h1).bind ?_
  rintro _ ⟨a1, rfl, H⟩
  refine (H.set ⟨ν.c, ν.up, ν.down, ν.left, μ.down, ν.rank, ν.mark⟩).bind ?_
  rintro _ ⟨a2, rfl, H⟩
  refine (H.set (ν := ⟨ν.c, ν.up, ν.down, ν.left, μ.down, ν.rank, ν.mark⟩) ⟨ν.c, μ.c, ν.down, ν.left, μ.down, ν.rank, ν.mark⟩).bind ?_
  rintro _ ⟨a3, rfl, H⟩
  have H' := H.p (List.Perm.swap ..)
  refine (H'.set ⟨μ.c, μ.up, ν.c, μ.left, μ.right, μ.rank, μ.mark⟩).bind ?_
  rintro _ ⟨a4, rfl, H'⟩
  exact ⟨_, rfl, H'.p (List.Perm.swap ..)⟩
/-- the tree that two trees become -/
def lk (it : Nat → It) (s t : Tr) : Tr := if (it t.c).lt (it s.c) then t.under s else s.under t
theorem npm {l l' : List Nd} (h : ∀ p : Nd → Bool, l.countP p = l'.countP p) : l.Perm l' := by
  classical
  exact List.perm_iff_count.2 fun x => h _
theorem linked {κ : Cfg} {n : Nat} {a : arena_Arena} {it : Nat → It} {N : List Nd} {L : Heap} {s t : Tr} {u w u' w' : Int} {r : Nat} (H : Hp κ n a it (s.nd u w ++ (t.nd u' w' ++ N)) L) (hs : s.r = r) (hb : r < 1000) :
    Do ((trees_Under a (t.c : Int) (s.c : Int)).bind fun t_1 => (arena_Arena_Set t_1 (s.c : Int) 4 (w64 ((r : Int) + 1))).bind fun t_2 => some ((s.c : Int), t_2.2)) fun res => ∃ a', res = ((s.c : Int), a') ∧ Hp κ (n + 5) a' it ((s.under t).nd u w ++ N) L := by
  have H1 : Hp κ n a it (⟨t.c, u', t.kids.hd, -1, w', t.r, 0⟩ :: ⟨s.c, u, s.kids.hd, -1, w, s.r, 0⟩ :: (nd s.kids s.c ++ (nd t.kids t.c ++ N))) L := by
    refine H.p (npm fun p => ?_)
    simp only [Tr.nd, List.countP_cons, List.countP_append]; omega
  have hh := hd_ok H1 (f := s.kids) (up := s.c) fun ν h => List.mem_cons_of_mem _ (List.mem_cons_of_mem _ (List.mem_append_left _ h))
  refine (under_spec H1 hh.1 hh.2).bind ?_
  intro a1 H2
  have H3 := H2.p (List.Perm.swap ..)
  rw [w64_id (by omega) (by omega)]
  refine (H3.set ⟨s.c, u, t.c, -1, w, (r : Int) + 1, 0⟩ rfl rfl).bind ?_
  rintro _ ⟨a2, rfl, H4⟩
  refine ⟨_, rfl, _, rfl, ?_⟩
  have : (((s.under t).r : Nat) : Int) = (r : Int) + 1 := by simp only [Tr.under, hs]; omega
  have H5 := H4.p (M := (s.under t).nd u w ++ N) (npm fun p => by
    simp only [Tr.nd, this]
    simp only [Tr.under, nd, F.hd, List.countP_cons, List.countP_append]; omega)
  exact H5
theorem link_spec {κ : Cfg} {n : Nat} {a : arena_Arena} {it : Nat → It} {N : List Nd} {L : Heap} {k : Nat} (hk : 3 ≤ k) {s t : Tr} {u w u' w' : Int} {r : Nat} (H : Hp κ n a it (s.nd u w ++ (t.nd u' w' ++ N)) L) (hs : s.r = r) (ht : t.r = r) (hb : r < 1000) :
    Do (trees_Link k a (s.c : Int) (t.c : Int) (r : Int)) fun res => ∃ u w a', res = (((lk it s t).c : Int), a') ∧ Hp κ (n + 11) a' it ((lk it s t).nd u w ++ N) L := by
  unfold trees_Link
  have m1 : (⟨s.c, u, s.kids.hd, -1, w, s.r, 0⟩ : Nd) ∈ s.nd u w ++ (t.nd u' w' ++ N) := List.mem_append_left _ (List.mem_cons_self ..)
  have m2 : (⟨t.c, u', t.kids.hd, -1, w', t.r, 0⟩ : Nd) ∈ s.nd u w ++ (t.nd u' w' ++ N) := List.mem_append_right _ (List.mem_append_left _ (List.mem_cons_self ..))
  refine (H.before hk m2 m1).bind ?_
  rintro _ ⟨a1, rfl, H⟩
  unfold lk
  by_cases c : (it t.c).lt (it s.c)
  · rw [if_pos c]
    refine Do.tb (decide_eq_true c) ?_
    have H1 : Hp κ (n + 6) a1 it (t.nd u' w' ++ (s.nd u w ++ N)) L := H.p (npm fun p => by simp only [List.countP_append]; omega)
    refine (linked H1 ht hb).mono ?_
    rintro _ ⟨a2, rfl, H2⟩
    exact ⟨_, _, _, rfl, H2⟩
  · rw [if_neg c]
    refine Do.fb (decide_eq_false c) ?_
    refine (linked H hs hb).mono ?_
    rintro _ ⟨a2, rfl, H2⟩
    exact ⟨_, _, _, rfl, H2⟩
end Go.Proofs.YtmidmkinclmbdaaGreat
