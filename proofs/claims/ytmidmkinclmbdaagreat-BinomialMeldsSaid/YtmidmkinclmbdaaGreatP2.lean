/-
  The plain law of nodes and items: what the calls of item and node do to the nodes of a heap.
-/
import Derived.Test.YtmidmkinclmbdaaGreatP1
set_option linter.unusedVariables false
set_option linter.unusedSimpArgs false
set_option maxRecDepth 10000
namespace Go.Proofs.YtmidmkinclmbdaaGreat
open Go.Th

/-- an item: its cell, its key, its serial -/
structure It where
  i : Nat
  k : Int
  s : Int
def It.lt (x y : It) : Prop := x.k < y.k ∨ (x.k = y.k ∧ (x.s < y.s ∨ (x.s = y.s ∧ x.i < y.i)))
instance (x y : It) : Decidable (x.lt y) := by unfold It.lt; exact inferInstance
theorem It.lt_irrefl (x : It) : ¬ x.lt x := by unfold It.lt; omega
theorem It.le_trans {x y z : It} (h : ¬ y.lt x) (h' : ¬ z.lt y) : ¬ z.lt x := by unfold It.lt at *; omega
theorem It.lt_asymm {x y : It} (h : x.lt y) : ¬ y.lt x := by unfold It.lt at *; omega
theorem It.le_of_lt {x y z : It} (h : ¬ y.lt x) (h' : z.lt x) : z.lt y := by unfold It.lt at *; omega
theorem It.lt_of_le {x y z : It} (h : x.lt y) (h' : ¬ z.lt y) : x.lt z := by unfold It.lt at *; omega

/-- a node: its cell, its fields -/
structure Nd where
  c : Nat
  up : Int
  down : Int
  left : Int
  right : Int
  rank : Int
  mark : Int
def Nd.cell (ν : Nd) (i : Nat) : arena_cell := arena_cell.mk ν.up ν.down ν.left ν.right ν.rank ν.mark (i : Int) 0 0 (-1) true
def It.cell (x : It) (n : Int) : arena_cell := arena_cell.mk (-1) (-1) (-1) (-1) 0 0 (-1) x.k x.s n true
/-- the two cells of a node with its item -/
def pr (it : Nat → It) (ν : Nd) : Heap := [(ν.c, ν.cell (it ν.c).i), ((it ν.c).i, (it ν.c).cell ν.c)]
def lay (it : Nat → It) (N : List Nd) : Heap := N.flatMap (pr it)
theorem lay_cons (it : Nat → It) (ν : Nd) (N : List Nd) : lay it (ν :: N) = (ν.c, ν.cell (it ν.c).i) :: ((it ν.c).i, (it ν.c).cell ν.c) :: lay it N := rfl
theorem lay_append (it : Nat → It) (M N : List Nd) : lay it (M ++ N) = lay it M ++ lay it N := List.flatMap_append
theorem lay_perm {it : Nat → It} {M N : List Nd} (h : M.Perm N) : (lay it M).Perm (lay it N) := h.flatMap_right _
theorem lay_length (it : Nat → It) : ∀ N : List Nd, (lay it N).length = 2 * N.length
  | [] => rfl
  | ν :: N => by rw [lay_cons]; simp only [List.length_cons, lay_length it N]; omega
theorem lay_congr {it it' : Nat → It} : ∀ {N : List Nd}, (∀ ν ∈ N, it' ν.c = it ν.c) → lay it' N = lay it N
  | [], _ => rfl
  | ν :: N, h => by
    rw [lay_cons, lay_cons, h ν (List.mem_cons_self ..), lay_congr (N := N) fun μ hμ => h μ (List.mem_cons_of_mem _ hμ)]
theorem mem_lay {it : Nat → It} {ν : Nd} : ∀ {N : List Nd}, ν ∈ N → (ν.c, ν.cell (it ν.c).i) ∈ lay it N ∧ ((it ν.c).i, (it ν.c).cell ν.c) ∈ lay it N := fun {N} h =>
  ⟨List.mem_flatMap.2 ⟨ν, h, by simp [pr]⟩, List.mem_flatMap.2 ⟨ν, h, by simp [pr]⟩⟩

/-- an arena with nodes N, their items, and other cells L -/
def Hp (κ : Cfg) (n : Nat) (a : arena_Arena) (it : Nat → It) (N : List Nd) (L : Heap) : Prop := Ar κ n a (lay it N ++ L)

section
variable {κ : Cfg} {n : Nat} {a : arena_Arena} {it : Nat → It} {N : List Nd} {L : Heap}
theorem Hp.p {M : List Nd} (H : Hp κ n a it N L) (h : N.Perm M) : Hp κ n a it M L := Ar.p H ((lay_perm h).append_right _)
theorem Hp.mono {m : Nat} (H : Hp κ n a it N L) (h : n ≤ m) : Hp κ m a it N L := Ar.mono H h
theorem Hp.node (H : Hp κ n a it N L) {ν : Nd} (h : ν ∈ N) : (ν.c, ν.cell (it ν.c).i) ∈ lay it N ++ L := List.mem_append_left _ (mem_lay h).1
theorem Hp.item (H : Hp κ n a it N L) {ν : Nd} (h : ν ∈ N) : ((it ν.c).i, (it ν.c).cell ν.c) ∈ lay it N ++ L := List.mem_append_left _ (mem_lay h).2
theorem Hp.lt (H : Hp κ n a it N L) {ν : Nd} (h : ν ∈ N) : ν.c < κ.C := Ar.lt H (H.node h)
theorem Hp.itlt (H : Hp κ n a it N L) {ν : Nd} (h : ν ∈ N) : (it ν.c).i < κ.C := Ar.lt H (H.item h)
theorem Hp.live (H : Hp κ n a it N L) {ν : Nd} (h : ν ∈ N) : arena_Arena_Live a (ν.c : Int) = some true := live_mem H (H.node h)
theorem Hp.room (H : Hp κ n a it N L) : 2 * N.length + L.length ≤ κ.C := by
  have := Ar.room H
  rw [List.length_append, lay_length] at this; exact this
theorem lay_keys (it : Nat → It) : ∀ N : List Nd, ((lay it N).map Prod.fst).Perm (N.map Nd.c ++ N.map fun ν => (it ν.c).i)
  | [] => .refl _
  | ν :: N => by
    rw [lay_cons]
    simp only [List.map_cons, List.cons_append]
    refine List.Perm.cons _ ?_
    exact ((lay_keys it N).cons _).trans List.perm_middle.symm
theorem Hp.nodup (H : Hp κ n a it N L) : ((N.map Nd.c ++ N.map fun ν => (it ν.c).i) ++ L.map Prod.fst).Nodup := by
  have := Ar.nodup H
  rw [List.map_append] at this
  exact ((lay_keys it N).append_right _).nodup_iff.1 this
theorem Hp.nd (H : Hp κ n a it N L) : (N.map Nd.c).Nodup := (List.nodup_append.1 (List.nodup_append.1 H.nodup).1).1
theorem Hp.ne {ν μ : Nd} (H : Hp κ n a it (ν :: μ :: N) L) : ν.c ≠ μ.c := by
  have := H.nd
  simp only [List.map_cons, List.nodup_cons, List.mem_cons, not_or] at this
  exact this.1.1
theorem Hp.notin {ν : Nd} (H : Hp κ n a it (ν :: N) L) : ∀ μ ∈ N, μ.c ≠ ν.c := by
  have := H.nd
  simp only [List.map_cons, List.nodup_cons] at this
  exact fun μ hμ e => this.1 (e ▸ List.mem_map_of_mem (f := Nd.c) hμ)
theorem Hp.same (H : Hp κ n a it N L) {ν μ : Nd} (h : ν ∈ N) (h' : μ ∈ N) (e : ν.c = μ.c) : ν = μ := by
  obtain ⟨l1, l2, rfl⟩ := List.append_of_mem h
  have hp : (l1 ++ ν :: l2).Perm (ν :: (l1 ++ l2)) := List.perm_middle
  rcases List.mem_cons.1 (hp.mem_iff.1 h') with r | r
  · exact r.symm
  · exact absurd e.symm ((H.p hp).notin μ r)

theorem Hp.get (H : Hp κ n a it N L) {ν : Nd} (h : ν ∈ N) {f v : Int} (hf : arena_cell.get_f (ν.cell (it ν.c).i) f = some v := by rfl) (h0 : 0 ≤ f := by decide) (h1 : f < 10 := by decide) :
    Do (arena_Arena_Get a (ν.c : Int) f) fun r => ∃ a', r = (v, a') ∧ Hp κ (n + 1) a' it N L := Ar.get H (H.node h) hf h0 h1
theorem Hp.getc (H : Hp κ n a it N L) {ν : Nd} (h : ν ∈ N) {f v : Int} (hv : -1 ≤ v) (hc : v < κ.C) (hf : arena_cell.get_f (ν.cell (it ν.c).i) f = some v := by rfl) (h0 : 0 ≤ f := by decide) (h1 : f < 10 := by decide) :
    Do (arena_Arena_Cell a (ν.c : Int) f) fun r => ∃ a', r = (v, a') ∧ Hp κ (n + 1) a' it N L := Ar.cell H (H.node h) hf hv hc h0 h1
theorem Hp.geti (H : Hp κ n a it N L) {ν : Nd} (h : ν ∈ N) :
    Do (arena_Arena_Cell a (ν.c : Int) 6) fun r => ∃ a', r = (((it ν.c).i : Int), a') ∧ Hp κ (n + 1) a' it N L := H.getc h (by omega) (by have := H.itlt h; omega)
theorem Hp.getN (H : Hp κ n a it N L) {c f : Int} (h : c < 0) : Do (arena_Arena_Get a c f) fun r => ∃ a', r = (-1, a') ∧ Hp κ (n + 1) a' it N L := Ar.getN H h
theorem Hp.cellN (H : Hp κ n a it N L) {c f : Int} (h : c < 0) : Do (arena_Arena_Cell a c f) fun r => ∃ a', r = (-1, a') ∧ Hp κ (n + 1) a' it N L := Ar.cellN H h
theorem Hp.set {ν : Nd} (H : Hp κ n a it (ν :: N) L) (μ : Nd) {f v : Int} (hc : μ.c = ν.c := by rfl) (hf : arena_cell.set_f (ν.cell (it ν.c).i) f v = some (μ.cell (it ν.c).i) := by rfl) (h0 : 0 ≤ f := by decide) (h1 : f < 10 := by decide) :
    Do (arena_Arena_Set a (ν.c : Int) f v) fun r => ∃ a', r = (true, a') ∧ Hp κ (n + 1) a' it (μ :: N) L := by
  unfold Hp at H
  rw [lay_cons] at H
  refine (Ar.set H hf rfl h0 h1).mono ?_
  rintro _ ⟨a', rfl, H'⟩
  refine ⟨a', rfl, ?_⟩
  unfold Hp
  rw [lay_cons, hc]
  exact H'
theorem Hp.setN (H : Hp κ n a it N L) {c f v : Int} (h : c < 0) : Do (arena_Arena_Set a c f v) fun r => ∃ a', r = (false, a') ∧ Hp κ (n + 1) a' it N L := Ar.setN H h

/-! items -/
theorem entry_spec {L : Heap} (H : Ar κ n a L) {x : It} {p : Int} (h : (x.i, x.cell p) ∈ L) :
    Do (item_Entry a (x.i : Int)) fun r => ∃ a', r = (api_Entry.mk x.k x.s, a') ∧ Ar κ (n + 2) a' L := by
  unfold item_Entry
  refine (H.get h rfl).bind ?_
  rintro _ ⟨a1, rfl, H⟩
  refine (H.get h rfl).bind ?_
  rintro _ ⟨a2, rfl, H⟩
  exact ⟨_, rfl, _, rfl, H⟩
theorem isnan (x : Int) : cmp_isNaN_int64 x = some false := by unfold cmp_isNaN_int64; simp
def sgn (x y : Int) : Int := if x < y then -1 else if x > y then 1 else 0
theorem sgn_or (x y : Int) : (sgn x y = -1 ∧ x < y) ∨ (sgn x y = 1 ∧ y < x) ∨ (sgn x y = 0 ∧ x = y) := by
  unfold sgn; split
  · exact Or.inl ⟨rfl, by assumption⟩
  · split
    · exact Or.inr (Or.inl ⟨rfl, by omega⟩)
    · exact Or.inr (Or.inr ⟨rfl, by omega⟩)
theorem compare_int (x y : Int) : cmp_Compare_int64 x y = some (sgn x y) := by
  unfold cmp_Compare_int64 sgn
  rw [isnan, isnan]
  simp only [Option.bind_some, cond_false]
  by_cases h : x < y
  · simp [h]
  · by_cases h' : x > y
    · simp [h, h']
    · simp [h, h']
theorem or_two {k : Nat} (hk : 3 ≤ k) (x y : Int) : cmp_Or_int k [x, y] = some (if x ≠ 0 then x else y) := by
  obtain ⟨m, rfl⟩ : ∃ m, k = m + 3 := ⟨k - 3, by omega⟩
  unfold cmp_Or_int
  rw [cmp_Or_int_l0]
  rw [show (([x, y] : List Int).length : Int) = 2 from rfl]
  rw [show decide ((0 : Int) < 2) = true from rfl, cond_true, show mIdx [x, y] 0 = some x from rfl]
  simp only [Option.bind_some]
  by_cases h : x = 0
  · subst h
    rw [show ((0 : Int) != 0) = false from rfl, cond_false, show w64 (0 + 1) = 1 from rfl, cmp_Or_int_l0]
    rw [show decide ((1 : Int) < 2) = true from rfl, cond_true, show mIdx [0, y] 1 = some y from rfl]
    simp only [Option.bind_some]
    by_cases h' : y = 0
    · subst h'
      rw [show ((0 : Int) != 0) = false from rfl, cond_false, show w64 (1 + 1) = 2 from rfl, cmp_Or_int_l0]
      rfl
    · rw [show (y != 0) = true by simp [h'], cond_true]
      simp
  · rw [show (x != 0) = true by simp [h], cond_true]
    simp [h]
theorem compare_spec {k : Nat} (hk : 3 ≤ k) (x y : api_Entry) : order_Compare k x y = some (if sgn x.Key y.Key ≠ 0 then sgn x.Key y.Key else sgn x.Serial y.Serial) := by
  unfold order_Compare
  rw [compare_int, compare_int]
  simp only [Option.bind_some]
  rw [or_two hk]
  rfl
theorem before_items {k : Nat} (hk : 3 ≤ k) {L : Heap} (H : Ar κ n a L) {x y : It} {p q : Int} (h : (x.i, x.cell p) ∈ L) (h' : (y.i, y.cell q) ∈ L) :
    Do (item_Before k a (x.i : Int) (y.i : Int)) fun r => ∃ a', r = (decide (x.lt y), a') ∧ Ar κ (n + 4) a' L := by
  unfold item_Before
  refine (entry_spec H h).bind ?_
  rintro _ ⟨a1, rfl, H⟩
  refine (entry_spec H h').bind ?_
  rintro _ ⟨a2, rfl, H⟩
  refine Do.seq (compare_spec hk _ _) ?_
  refine ⟨_, rfl, a2, ?_, H⟩
  refine Prod.ext ?_ rfl
  rw [Bool.eq_iff_iff]
  simp only [Bool.or_eq_true, Bool.and_eq_true, decide_eq_true_eq, beq_iff_eq]
  unfold It.lt
  rcases sgn_or x.k y.k with ⟨e, h1⟩ | ⟨e, h1⟩ | ⟨e, h1⟩ <;> rw [e]
  · exact ⟨fun _ => Or.inl h1, fun _ => Or.inl (by rw [if_pos (by decide)]; decide)⟩
  · rw [if_pos (by decide)]
    refine ⟨fun h => ?_, fun h => ?_⟩
    · rcases h with h | h
      · exact absurd h (by decide)
      · exact absurd h.1 (by decide)
    · omega
  · rw [if_neg (by decide)]
    rcases sgn_or x.s y.s with ⟨e, h2⟩ | ⟨e, h2⟩ | ⟨e, h2⟩ <;> rw [e]
    · exact ⟨fun _ => Or.inr ⟨h1, Or.inl h2⟩, fun _ => Or.inl (by decide)⟩
    · refine ⟨fun h => ?_, fun h => ?_⟩
      · rcases h with h | h
        · exact absurd h (by decide)
        · exact absurd h.1 (by decide)
      · omega
    · refine ⟨fun h => ?_, fun h => ?_⟩
      · rcases h with h | h
        · exact absurd h (by decide)
        · exact Or.inr ⟨h1, Or.inr ⟨h2, by omega⟩⟩
      · refine Or.inr ⟨rfl, by omega⟩
theorem Hp.before {k : Nat} (hk : 3 ≤ k) (H : Hp κ n a it N L) {ν μ : Nd} (h : ν ∈ N) (h' : μ ∈ N) :
    Do (node_Before k a (ν.c : Int) (μ.c : Int)) fun r => ∃ a', r = (decide ((it ν.c).lt (it μ.c)), a') ∧ Hp κ (n + 6) a' it N L := by
  unfold node_Before
  refine (H.geti h).bind ?_
  rintro _ ⟨a1, rfl, H⟩
  refine (H.geti h').bind ?_
  rintro _ ⟨a2, rfl, H⟩
  refine (before_items hk H (H.item h) (H.item h')).bind ?_
  rintro _ ⟨a3, rfl, H⟩
  exact ⟨_, rfl, _, rfl, H⟩

theorem item_New_spec {L : Heap} (H : Ar κ n a L) (hr : L.length < κ.C) (key serial : Int) :
    Do (item_New a key serial) fun r => ∃ (i : Nat) (a' : arena_Arena), r = ((i : Int), true, a') ∧ i ∉ L.map Prod.fst ∧ Ar κ (n + 3) a' ((i, (It.mk i key serial).cell (-1)) :: L) := by
  unfold item_New
  refine (H.take hr).bind ?_
  rintro _ ⟨c, a1, rfl, hc, H⟩
  refine Do.tb rfl ?_
  refine Do.assoc ((H.set rfl).bind ?_)
  rintro _ ⟨a2, rfl, H⟩
  refine Do.assoc ((H.set rfl).bind ?_)
  rintro _ ⟨a3, rfl, H⟩
  exact ⟨_, rfl, c, _, rfl, hc, H⟩
theorem item_New_full {L : Heap} (H : Ar κ n a L) (hr : L.length = κ.C) (key serial : Int) :
    Do (item_New a key serial) fun r => ∃ (a' : arena_Arena), r = ((-1 : Int), false, a') ∧ Ar κ (n + 1) a' L := by
  unfold item_New
  refine (H.takeF hr).bind ?_
  rintro _ ⟨a1, rfl, H⟩
  exact ⟨_, rfl, _, rfl, H⟩
/-- it, but at one node another item -/
def upd (it : Nat → It) (c : Nat) (x : It) : Nat → It := fun d => if d = c then x else it d
theorem upd_same (it : Nat → It) (c : Nat) (x : It) : upd it c x c = x := by simp [upd]
theorem upd_ne (it : Nat → It) {c d : Nat} (x : It) (h : d ≠ c) : upd it c x d = it d := by simp [upd, h]
def swp (it : Nat → It) (c d : Nat) : Nat → It := upd (upd it c (it d)) d (it c)

/-- a new node with an item -/
theorem node_New_spec {x : It} (H : Hp κ n a it N ((x.i, x.cell (-1)) :: L)) (hr : 2 * N.length + 1 + L.length < κ.C) :
    Do (node_New a (x.i : Int)) fun r => ∃ (c : Nat) (a' : arena_Arena), r = ((c : Int), true, a') ∧ Hp κ (n + 3) a' (upd it c x) (⟨c, -1, -1, -1, -1, 0, 0⟩ :: N) L ∧ ∀ ν ∈ N, ν.c ≠ c := by
  unfold node_New item_Put
  simp only [Option.bind_assoc, Option.bind_some]
  have hl : (lay it N ++ (x.i, x.cell (-1)) :: L).length < κ.C := by simp only [List.length_append, List.length_cons, lay_length]; omega
  refine (Ar.take H hl).bind ?_
  rintro _ ⟨c, a1, rfl, hc, H⟩
  refine Do.tb rfl ?_
  refine Do.assoc ((Ar.set H rfl).bind ?_)
  rintro _ ⟨a2, rfl, H⟩
  have H1 : Ar κ (n + 2) a2 ((c, (Nd.mk c (-1) (-1) (-1) (-1) 0 0).cell x.i) :: (lay it N ++ (x.i, x.cell (-1)) :: L)) := H
  have H2 : Ar κ (n + 2) a2 ((x.i, x.cell (-1)) :: (c, (Nd.mk c (-1) (-1) (-1) (-1) 0 0).cell x.i) :: (lay it N ++ L)) := H1.p (pm fun p => by simp only [List.count_cons, List.count_append]; omega)
  refine Do.assoc ((Ar.set H2 (y := x.cell c) rfl).bind ?_)
  rintro _ ⟨a3, rfl, H3⟩
  have hn : ∀ ν ∈ N, ν.c ≠ c := fun ν hν e => hc (by
    rw [List.map_append]
    exact List.mem_append_left _ (e ▸ List.mem_map_of_mem (f := Prod.fst) (mem_lay (it := it) hν).1))
  refine ⟨_, rfl, c, _, rfl, ?_, hn⟩
  unfold Hp
  rw [lay_cons]
  simp only [upd_same]
  rw [lay_congr (it := it) (it' := upd it c x) fun ν hν => upd_ne _ _ (hn ν hν)]
  exact H3.t2
theorem node_New_full {x : It} (H : Hp κ n a it N ((x.i, x.cell (-1)) :: L)) (hr : 2 * N.length + 1 + L.length = κ.C) :
    Do (node_New a (x.i : Int)) fun r => ∃ (a' : arena_Arena), r = ((-1 : Int), false, a') ∧ Hp κ (n + 1) a' it N ((x.i, x.cell (-1)) :: L) := by
  unfold node_New
  have hl : (lay it N ++ (x.i, x.cell (-1)) :: L).length = κ.C := by simp only [List.length_append, List.length_cons, lay_length]; omega
  refine (Ar.takeF H hl).bind ?_
  rintro _ ⟨a1, rfl, H⟩
  exact ⟨_, rfl, _, rfl, H⟩
/-- a node is given back -/
theorem node_End_spec {ν : Nd} (H : Hp κ n a it (ν :: N) L) :
    Do (node_End a (ν.c : Int)) fun r => ∃ (a' : arena_Arena), r = (((it ν.c).i : Int), a') ∧ Hp κ (n + 3) a' it N (((it ν.c).i, (it ν.c).cell (-1)) :: L) := by
  unfold node_End
  refine (H.geti (List.mem_cons_self ..)).bind ?_
  rintro _ ⟨a1, rfl, H⟩
  unfold Hp at H
  rw [lay_cons] at H
  refine (Ar.set H.t2 (y := (it ν.c).cell (-1)) rfl).bind ?_
  rintro _ ⟨a2, rfl, H⟩
  refine (Ar.give H.t2).bind ?_
  rintro _ ⟨a3, rfl, H⟩
  refine ⟨_, rfl, _, rfl, ?_⟩
  unfold Hp
  exact H.p List.perm_middle.symm
/-- two nodes change their items -/
theorem item_Swap_spec {ν μ : Nd} (H : Hp κ n a it (ν :: μ :: N) L) :
    Do (item_Swap a (ν.c : Int) (μ.c : Int)) fun a' => Hp κ (n + 6) a' (swp it ν.c μ.c) (ν :: μ :: N) L := by
  unfold item_Swap item_Put
  simp only [Option.bind_assoc, Option.bind_some]
  have hne := H.ne
  have hni : ∀ ξ ∈ N, ξ.c ≠ ν.c ∧ ξ.c ≠ μ.c := by
    intro ξ hξ
    refine ⟨H.notin ξ (List.mem_cons_of_mem _ hξ), ?_⟩
    have hp : (ν :: μ :: N).Perm (μ :: ν :: N) := List.Perm.swap ..
    exact (H.p hp).notin ξ (List.mem_cons_of_mem _ hξ)
  refine (H.geti (List.mem_cons_self ..)).bind ?_
  rintro _ ⟨a1, rfl, H⟩
  refine (H.geti (List.mem_cons_of_mem _ (List.mem_cons_self ..))).bind ?_
  rintro _ ⟨a2, rfl, H⟩
  unfold Hp at H
  rw [lay_cons, lay_cons] at H
  refine (Ar.set H (y := ν.cell (it μ.c).i) rfl).bind ?_
  rintro _ ⟨a3, rfl, H⟩
  refine (Ar.set (Ar.t4 H) (y := (it μ.c).cell ν.c) rfl).bind ?_
  rintro _ ⟨a4, rfl, H⟩
  refine (Ar.set (Ar.t4 H) (y := μ.cell (it ν.c).i) rfl).bind ?_
  rintro _ ⟨a5, rfl, H⟩
  refine (Ar.set (Ar.t4 H) (y := (it ν.c).cell μ.c) rfl).bind ?_
  rintro _ ⟨a6, rfl, H⟩
  refine ⟨_, rfl, ?_⟩
  unfold Hp
  rw [lay_cons, lay_cons]
  have e1 : swp it ν.c μ.c ν.c = it μ.c := by simp [swp, upd, hne]
  have e2 : swp it ν.c μ.c μ.c = it ν.c := by simp [swp, upd]
  rw [e1, e2, lay_congr (it := it) (it' := swp it ν.c μ.c) fun ξ hξ => by simp [swp, upd, hni ξ hξ]]
  exact (show Ar κ (n + 6) a6 (_ :: _ :: _ :: _ :: (lay it N ++ L)) from H).p (pm fun p => by simp only [List.count_cons, List.cons_append]; omega)
/-- an item's key is lowered -/
theorem item_Lower_spec {L : Heap} {x : It} {p : Int} (H : Ar κ n a ((x.i, x.cell p) :: L)) {key : Int} (hk : key ≤ x.k) :
    Do (item_Lower a (x.i : Int) key) fun r => ∃ (a' : arena_Arena), r = (true, a') ∧ Ar κ (n + 2) a' ((x.i, (It.mk x.i key x.s).cell p) :: L) := by
  unfold item_Lower
  refine Do.assoc ((H.get (List.mem_cons_self ..) rfl).bind ?_)
  rintro _ ⟨a1, rfl, H⟩
  refine Do.f (decide_eq_false (by simp only [It.cell]; omega)) ?_
  refine (Ar.set H (y := (It.mk x.i key x.s).cell p) rfl).bind ?_
  rintro _ ⟨a2, rfl, H⟩
  exact ⟨_, rfl, _, rfl, H⟩
end
end Go.Proofs.YtmidmkinclmbdaaGreat
