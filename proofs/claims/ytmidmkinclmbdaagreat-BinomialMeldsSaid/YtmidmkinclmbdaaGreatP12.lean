/-
  The plain law of (skew) binomial heaps: the law's calls, each on a world that is right.
-/
import Derived.Test.YtmidmkinclmbdaaGreatP11
import Derived.Test.YtmidmkinclmbdaaGreatP9
set_option linter.unusedVariables false
set_option linter.unusedSimpArgs false
set_option maxRecDepth 10000
namespace Go.Proofs.YtmidmkinclmbdaaGreat
open Go.Th

def bs (C : Nat) (a : arena_Arena) : Cfg := ⟨C, a.m_.steps, a.m_.begun, a.m_.most⟩
theorem Hp.rebase {κ : Cfg} {n : Nat} {a : arena_Arena} {it : Nat → It} {N : List Nd} {L : Heap} (H : Hp κ n a it N L) : Hp (bs κ.C a) 0 a it N L :=
  { H with b0 := Int.le_trans H.b0 H.lo, lo := Int.le_refl _, hi := by simp [bs], beg := rfl, mst := rfl }
theorem Hp.span {κ : Cfg} {n : Nat} {a : arena_Arena} {it : Nat → It} {N : List Nd} {L : Heap} (H : Hp κ n a it N L) : 0 ≤ κ.b ∧ κ.b ≤ a.m_.steps ∧ a.m_.steps ≤ κ.b + n ∧ a.m_.steps ≤ 9223372036854775807 := ⟨H.b0, H.lo, H.hi, H.mx⟩
theorem lower_in {κ : Cfg} {n : Nat} {a : arena_Arena} {it : Nat → It} {N : List Nd} {L : Heap} (H : Hp κ n a it N L) {ν : Nd} (hν : ν ∈ N) {key : Int} (hk : key ≤ (it ν.c).k) :
    Do (item_Lower a ((it ν.c).i : Int) key) fun r => ∃ a', r = (true, a') ∧ Hp κ (n + 2) a' (upd it ν.c ⟨(it ν.c).i, key, (it ν.c).s⟩) N L := by
  obtain ⟨p, q, e⟩ := List.append_of_mem hν
  have hp : N.Perm (ν :: (p ++ q)) := by rw [e]; exact List.perm_middle
  have H1 := H.p hp
  have hni := H1.notin
  unfold Hp at H1
  rw [lay_cons] at H1
  refine (item_Lower_spec (x := it ν.c) (Ar.t2 H1) hk).mono ?_
  rintro _ ⟨a1, rfl, H2⟩
  refine ⟨a1, rfl, Hp.p (N := ν :: (p ++ q)) ?_ hp.symm⟩
  unfold Hp
  rw [lay_cons, upd_same, lay_congr (it := it) (it' := upd it ν.c ⟨(it ν.c).i, key, (it ν.c).s⟩) fun μ hμ => upd_ne _ _ (hni μ hμ)]
  exact Ar.t2 H2
theorem perm_upd {f : F} {it : Nat → It} {l p q : List It} {x x' : It} {c : Nat} (hn : f.cells.Nodup) (hl : l.Perm (f.cells.map it)) (e : l = p ++ x :: q) (hc : c ∈ f.cells) (hx : it c = x) :
    (p ++ q ++ [x']).Perm (f.cells.map (upd it c x')) := by
  have h1 := List.perm_cons_erase hc
  have hn' : (c :: f.cells.erase c).Nodup := h1.nodup_iff.1 hn
  have h2 : (f.cells.map it).Perm (x :: (f.cells.erase c).map it) := by
    have := h1.map it
    rwa [List.map_cons, hx] at this
  have h3 : (x :: (p ++ q)).Perm (x :: (f.cells.erase c).map it) := by
    refine List.Perm.trans ?_ (hl.trans h2)
    rw [e]; exact List.perm_middle.symm
  have h4 := List.Perm.cons_inv h3
  have h5 : (f.cells.erase c).map (upd it c x') = (f.cells.erase c).map it := List.map_congr_left fun d hd => upd_ne _ _ (fun e => (List.nodup_cons.1 hn').1 (e ▸ hd))
  have h6 : (f.cells.map (upd it c x')).Perm (x' :: (f.cells.erase c).map it) := by
    have := h1.map (upd it c x')
    rwa [List.map_cons, upd_same, h5] at this
  exact (List.perm_append_singleton x' (p ++ q)).trans ((h4.cons x').trans h6.symm)
theorem It.lt_total {x y : It} (h : ¬ x.lt y) (h' : ¬ y.lt x) : x = y := by
  obtain ⟨i, k, s⟩ := x
  obtain ⟨i', k', s'⟩ := y
  unfold It.lt at h h'
  simp only at h h'
  have e1 : k = k' := by omega
  have e2 : s = s' := by omega
  have e3 : i = i' := by omega
  rw [e1, e2, e3]

/-- A world that is right: its heaps are the rows f and g, they hold l and m. -/
structure Wd (C : Nat) (a : arena_Arena) (r0 r1 : Int) (h0 h1 : List thicketlaw9_held) (next : Int) (f g : F) (it : Nat → It) (l m : List It) : Prop where
  hp : Hp (bs C a) 0 a it (nd f (-1) ++ nd g (-1)) []
  hf : HB false it f
  hg : HB false it g
  e0 : r0 = f.hd
  e1 : r1 = g.hd
  i0 : h0 = l.map ofI
  i1 : h1 = m.map ofI
  p0 : l.Perm (f.cells.map it)
  p1 : m.Perm (g.cells.map it)
  ser : ((l ++ m).map It.s).Nodup
  sb : ∀ x ∈ l ++ m, 0 ≤ x.s ∧ x.s < next
  nx : 0 ≤ next
theorem Wd.swap {C : Nat} {a : arena_Arena} {r0 r1 : Int} {h0 h1 : List thicketlaw9_held} {next : Int} {f g : F} {it : Nat → It} {l m : List It} (W : Wd C a r0 r1 h0 h1 next f g it l m) : Wd C a r1 r0 h1 h0 next g f it m l where
  hp := W.hp.p List.perm_append_comm
  hf := W.hg
  hg := W.hf
  e0 := W.e1
  e1 := W.e0
  i0 := W.i1
  i1 := W.i0
  p0 := W.p1
  p1 := W.p0
  ser := ((List.perm_append_comm.map _).nodup_iff).1 W.ser
  sb := fun x hx => W.sb x (List.perm_append_comm.mem_iff.1 hx)
  nx := W.nx
section
variable {C : Nat} {a : arena_Arena} {r0 r1 : Int} {h0 h1 : List thicketlaw9_held} {next : Int} {f g : F} {it : Nat → It} {l m : List It}
theorem Wd.fs (W : Wd C a r0 r1 h0 h1 next f g it l m) : f.size = l.length := by rw [← F.size_cells, W.p0.length_eq, List.length_map]
theorem Wd.gs (W : Wd C a r0 r1 h0 h1 next f g it l m) : g.size = m.length := W.swap.fs
theorem Wd.nodup (W : Wd C a r0 r1 h0 h1 next f g it l m) : (f.cells ++ g.cells).Nodup := by
  have := W.hp.nd
  rwa [List.map_append, nd_cells, nd_cells] at this
theorem Wd.outg {it' : Nat → It} (W : Wd C a r0 r1 h0 h1 next f g it l m) (h : ∀ d, d ∉ f.cells → it' d = it d) : HB false it' g ∧ m.Perm (g.cells.map it') := by
  have h1 : ∀ d ∈ g.cells, it' d = it d := fun d hd => h d fun hd' => (List.nodup_append.1 W.nodup).2.2 d hd' d hd rfl
  refine ⟨W.hg.congr h1, ?_⟩
  rw [List.map_congr_left h1]; exact W.p1
theorem Wd.cell {x : It} (W : Wd C a r0 r1 h0 h1 next f g it l m) (h : x ∈ l) : ∃ c ∈ f.cells, it c = x := by
  have := W.p0.mem_iff.1 h
  obtain ⟨c, hc, e⟩ := List.mem_map.1 this
  exact ⟨c, hc, e⟩
theorem Wd.sub {l' : List It} {m' : List It} (W : Wd C a r0 r1 h0 h1 next f g it l m) (h : ∃ r, ((l' ++ m').map It.s ++ r).Perm ((l ++ m).map It.s)) : ((l' ++ m').map It.s).Nodup ∧ ∀ x ∈ l' ++ m', 0 ≤ x.s ∧ x.s < next := by
  obtain ⟨r, h⟩ := h
  refine ⟨(List.nodup_append.1 (h.nodup_iff.2 W.ser)).1, fun x hx => ?_⟩
  have : x.s ∈ (l ++ m).map It.s := h.mem_iff.1 (List.mem_append_left _ (List.mem_map_of_mem hx))
  obtain ⟨y, hy, e⟩ := List.mem_map.1 this
  rw [← e]; exact W.sb y hy
end
theorem spm {α : Type} [DecidableEq α] {l l' : List α} (h : ∀ p, l.count p = l'.count p) : l.Perm l' := List.perm_iff_count.2 h

theorem push_ok0 {k C : Nat} {w : thicketlaw9_world} {f g : F} {it : Nat → It} {l m : List It} (W : Wd C w.a_ w.root0 w.root1 w.has0 w.has1 w.next f g it l m) (key : Int) (hl : l.length < 1000) (hn : w.next < 1000000) (hr : 2 * (l.length + m.length) + 2 ≤ C) (hk : 300000 < k) :
    Do (thicketlaw9_world_push_at0 k w key) fun r => r.1 = true ∧ (∃ f' it' i, Wd C r.2.a_ r.2.root0 r.2.root1 r.2.has0 r.2.has1 r.2.next f' g it' (l ++ [⟨i, key, w.next⟩]) m) ∧ r.2.next = w.next + 1 := by
  obtain ⟨a, r0, r1, h0, h1, nx, sp, mo⟩ := w
  have hfs := W.fs
  have hgs := W.gs
  have W0 := W
  obtain ⟨hp, hf, hg, e0, e1, i0, i1, p0, p1, ser, sb, nx0⟩ := W
  simp only at hp e0 e1 i0 i1 sb nx0 hn ⊢
  subst e0 e1 i0 i1
  unfold thicketlaw9_world_push_at0
  have hlen : (lay it (nd f (-1) ++ nd g (-1)) ++ []).length < (bs C a).C := by
    rw [List.append_nil, lay_length, List.length_append, nd_size, nd_size]; simp only [bs]; omega
  refine (item_New_spec hp hlen key nx).bind ?_
  rintro _ ⟨i, a1, rfl, hi, H1⟩
  refine Do.f rfl ?_
  refine Do.seq (Ar.lenIs H1) ?_
  refine Do.seq (Ar.cells H1) ?_
  refine Do.seq rfl ?_
  refine Do.seq rfl ?_
  have H2 : Hp (bs C a) 3 a1 it (nd f (-1) ++ nd g (-1)) ((i, (It.mk i key nx).cell (-1)) :: []) := Ar.p H1 List.perm_middle.symm
  have H2' := H2.rebase
  refine (push_spec (k := k) (x := It.mk i key nx) H2' hf (by omega) (by rw [nd_size]; simp only [bs, List.length_nil]; omega) (by omega)).bind ?_
  rintro _ ⟨f', it', a2, rfl, H3, hb, hcp, hcg⟩
  have hw : w64 ((((l.map ofI).length : Nat) : Int) + 1) = ((l.length + 1 : Nat) : Int) := by rw [List.length_map, w64_id (by omega) (by omega)]; omega
  have hs := H3.span
  have hdec : decide (((((i, (It.mk i key nx).cell (-1)) :: (lay it (nd f (-1) ++ nd g (-1)) ++ [])).length : Nat) : Int) < ((bs C a).C : Int)) = true := by
    refine decide_eq_true ?_
    rw [List.length_cons, List.append_nil, lay_length, List.length_append, nd_size, nd_size]; simp only [bs]; omega
  rw [hdec, hw]
  refine Do.assoc ((cost_spec (k := k) (thicketlaw9_world.mk a2 _ _ _ _ _ _ _) a1.m_.steps _ (l.length + 1) (by omega) (by omega) hs.1 hs.2.1 (Or.inl hs.2.2.1) hs.2.2.2).bind ?_)
  rintro _ ⟨sp', mo', rfl⟩
  refine Do.fb rfl ?_
  refine Do.seq rfl (Do.f rfl ?_)
  refine Do.f rfl ?_
  refine Do.seq (mApp_ok (by simp; omega)) ?_
  refine Do.seq (mApp_ok (by simp; omega)) ?_
  refine ⟨_, rfl, rfl, ⟨f', it', i, ?_⟩, w64_id (x := nx + 1) (by omega) (by omega)⟩
  have hout : ∀ d ∈ g.cells, it' d = it d := fun d hd => by
    obtain ⟨ν, hν, rfl⟩ := cell_node (up := -1) hd
    exact hcg ν hν
  have hw2 : w64 (nx + 1) = nx + 1 := w64_id (by omega) (by omega)
  refine ⟨H3.rebase, hb, hg.congr hout, rfl, rfl, ?_, rfl, ?_, ?_, ?_, ?_, ?_⟩
  · simp [ofI]
  · exact (List.perm_append_singleton _ l).trans ((p0.cons _).trans hcp.symm)
  · rw [List.map_congr_left hout]; exact p1
  · have h3 : ((l ++ [(⟨i, key, nx⟩ : It)] ++ m).map It.s).Perm (nx :: (l ++ m).map It.s) := by
      refine spm fun p => ?_
      simp only [List.map_append, List.map_cons, List.map_nil, List.count_append, List.count_cons, List.count_nil]; omega
    refine h3.nodup_iff.2 (List.nodup_cons.2 ⟨fun h => ?_, ser⟩)
    obtain ⟨y, hy, e⟩ := List.mem_map.1 h
    have := (sb y hy).2
    omega
  · intro x hx
    simp only [hw2]
    simp only [List.mem_append, List.mem_singleton, List.not_mem_nil] at hx
    rcases hx with (hx | rfl) | hx
    · have := sb x (List.mem_append_left _ hx); omega
    · simp only; omega
    · have := sb x (List.mem_append_right _ hx); omega
  · simp only [hw2]; omega
theorem push_no0 {k C : Nat} {w : thicketlaw9_world} {f g : F} {it : Nat → It} {l m : List It} (W : Wd C w.a_ w.root0 w.root1 w.has0 w.has1 w.next f g it l m) (key : Int) (hl : l.length < 1000) (hr : C < 2 * (l.length + m.length) + 2) (hk : 300000 < k) :
    Do (thicketlaw9_world_push_at0 k w key) fun r => r.1 = true ∧ Wd C r.2.a_ r.2.root0 r.2.root1 r.2.has0 r.2.has1 r.2.next f g it l m ∧ r.2.next = w.next := by
  obtain ⟨a, r0, r1, h0, h1, nx, sp, mo⟩ := w
  have hfs := W.fs
  have hgs := W.gs
  have W0 := W
  obtain ⟨hp, hf, hg, e0, e1, i0, i1, p0, p1, ser, sb, nx0⟩ := W
  simp only at hp e0 e1 i0 i1 sb nx0 ⊢
  subst e0 e1 i0 i1
  unfold thicketlaw9_world_push_at0
  have hll : (lay it (nd f (-1) ++ nd g (-1)) ++ []).length = 2 * (l.length + m.length) := by
    rw [List.append_nil, lay_length, List.length_append, nd_size, nd_size]; omega
  have hroom := Ar.room hp
  rw [hll] at hroom
  simp only [bs] at hroom
  by_cases hfull : 2 * (l.length + m.length) = C
  · refine (item_New_full hp (by rw [hll]; exact hfull) key nx).bind ?_
    rintro _ ⟨a1, rfl, H1⟩
    refine Do.t rfl ?_
    refine Do.seq (Ar.lenIs H1) ?_
    refine Do.seq (Ar.cells H1) ?_
    refine ⟨_, rfl, ?_, ⟨Hp.rebase H1, hf, hg, rfl, rfl, rfl, rfl, p0, p1, ser, sb, nx0⟩, rfl⟩
    rw [hll]; simp [bs]; omega
  · refine (item_New_spec hp (by rw [hll]; simp only [bs]; omega) key nx).bind ?_
    rintro _ ⟨i, a1, rfl, hi, H1⟩
    refine Do.f rfl ?_
    refine Do.seq (Ar.lenIs H1) ?_
    refine Do.seq (Ar.cells H1) ?_
    refine Do.seq rfl ?_
    refine Do.seq rfl ?_
    have H2 : Hp (bs C a) 3 a1 it (nd f (-1) ++ nd g (-1)) ((i, (It.mk i key nx).cell (-1)) :: []) := Ar.p H1 List.perm_middle.symm
    have H2' := H2.rebase
    refine (push_full (k := k) (x := It.mk i key nx) (f := f) (r := f.hd) H2' (by rw [List.length_append, nd_size, nd_size]; simp only [bs, List.length_nil]; omega)).bind ?_
    rintro _ ⟨a2, rfl, H3⟩
    have hw : w64 ((((l.map ofI).length : Nat) : Int) + 1) = ((l.length + 1 : Nat) : Int) := by rw [List.length_map, w64_id (by omega) (by omega)]; omega
    have hs := H3.span
    have hdec : decide (((((i, (It.mk i key nx).cell (-1)) :: (lay it (nd f (-1) ++ nd g (-1)) ++ [])).length : Nat) : Int) < ((bs C a).C : Int)) = false := by
      refine decide_eq_false ?_
      rw [List.length_cons, hll]; simp only [bs]; omega
    rw [hdec, hw]
    have hs1 : a2.m_.steps ≤ a1.m_.steps + 500 := by
      have := hs.2.2.1
      simp only [bs] at this; omega
    refine Do.assoc ((cost_spec (k := k) (thicketlaw9_world.mk a2 _ _ _ _ _ _ _) a1.m_.steps _ (l.length + 1) (by omega) (by omega) hs.1 hs.2.1 (Or.inl hs1) hs.2.2.2).bind ?_)
    rintro _ ⟨sp', mo', rfl⟩
    refine Do.fb rfl ?_
    refine Do.seq rfl (Do.f rfl ?_)
    refine Do.t rfl ?_
    refine Do.tb (by simp) ?_
    have H4 : Ar (bs C a1) 1 a2 ((i, (It.mk i key nx).cell (-1)) :: (lay it (nd f (-1) ++ nd g (-1)) ++ [])) := Ar.p H3 List.perm_middle
    refine Do.assoc ((Ar.give H4).bind ?_)
    rintro _ ⟨a3, rfl, H5⟩
    exact ⟨_, rfl, rfl, ⟨Hp.rebase H5, hf, hg, rfl, rfl, rfl, rfl, p0, p1, ser, sb, nx0⟩, rfl⟩
theorem pop_ok0 {k C : Nat} {w : thicketlaw9_world} {f g : F} {it : Nat → It} {l m : List It} (W : Wd C w.a_ w.root0 w.root1 w.has0 w.has1 w.next f g it l m) (hl : l.length < 1000) (hk : 300000 < k) :
    Do (thicketlaw9_world_pop_at0 k w) fun r => r.1 = true ∧ r.2.next = w.next ∧ ((l = [] ∧ Wd C r.2.a_ r.2.root0 r.2.root1 r.2.has0 r.2.has1 r.2.next f g it l m) ∨
      ∃ p x q f' it', l = p ++ x :: q ∧ (∀ y ∈ l, ¬ y.lt x) ∧ Wd C r.2.a_ r.2.root0 r.2.root1 r.2.has0 r.2.has1 r.2.next f' g it' (p ++ q) m) := by
  obtain ⟨a, r0, r1, h0, h1, nx, sp, mo⟩ := w
  have hfs := W.fs
  have hgs := W.gs
  have W0 := W
  obtain ⟨hp, hf, hg, e0, e1, i0, i1, p0, p1, ser, sb, nx0⟩ := W
  simp only at hp e0 e1 i0 i1 sb nx0 ⊢
  subst e0 e1 i0 i1
  unfold thicketlaw9_world_pop_at0
  refine Do.seq rfl ?_
  refine Do.seq rfl ?_
  have hs0 := hp.span
  rw [List.length_map]
  by_cases hne : l = []
  · subst hne
    have hfn : f = .nil := by
      cases f with
      | nil => rfl
      | cons => simp [F.size] at hfs
    subst hfn
    refine Do.seq (pop_nil a) ?_
    refine (cost_spec (k := k) (thicketlaw9_world.mk a _ _ _ _ _ _ _) a.m_.steps 1 0 (by omega) (by omega) hs0.1 (Int.le_refl _) (Or.inl (by simp only; omega)) hs0.2.2.2).bind ?_
    rintro _ ⟨sp', mo', rfl⟩
    refine Do.f rfl (Do.t rfl ?_)
    exact ⟨_, rfl, rfl, rfl, Or.inl ⟨rfl, hp, hf, hg, rfl, rfl, rfl, rfl, p0, p1, ser, sb, nx0⟩⟩
  · have hfn : f ≠ .nil := fun e => by
      subst e
      simp only [F.size] at hfs
      exact hne (List.eq_nil_of_length_eq_zero hfs.symm)
    have hlp : 0 < l.length := List.length_pos_iff.2 hne
    refine (pop_spec (k := k) hp hf hfn (by omega) (by omega)).bind ?_
    rintro _ ⟨c, f', it', a1, rfl, H1, hb', hcp, hout, hcin, hmin⟩
    have hs := H1.span
    refine (cost_spec (k := k) (thicketlaw9_world.mk a1 _ _ _ _ _ _ _) a.m_.steps 1 l.length (by omega) (by omega) hs0.1 hs.2.1 (Or.inr ⟨(by have := hs.2.2.1; simp only [bs] at this ⊢; omega), hlp, rfl⟩) hs.2.2.2).bind ?_
    rintro _ ⟨sp', mo', rfl⟩
    refine Do.f rfl (Do.f (by simp; omega) ?_)
    refine (least_spec (k := k) l hne (by omega) (by omega)).bind ?_
    rintro _ ⟨p, x, q, e, rfl, hx⟩
    have hxc : x = it c := by
      have hxl : x ∈ l := by rw [e]; simp
      obtain ⟨d, hd, ed⟩ := W0.cell hxl
      have h1 := hmin d hd
      rw [ed] at h1
      have h2 : it c ∈ l := p0.mem_iff.2 (List.mem_map_of_mem hcin)
      exact It.lt_total h1 (hx _ h2)
    have hidx : mIdx (l.map ofI) (p.length : Int) = some (ofI x) := by
      rw [e, List.map_append, List.map_cons]
      have := mIdx_mid (p.map ofI) (q.map ofI) (ofI x)
      rwa [List.length_map] at this
    refine Do.assoc (Do.seq hidx ?_)
    refine Do.tb (by rw [hxc]; simp [ofI]) ?_
    have H1' : Ar _ _ a1 (((it c).i, (it c).cell (-1)) :: (lay it' (nd f' (-1) ++ nd g (-1)) ++ [])) := Ar.p H1 List.perm_middle
    unfold item_Node
    refine Do.assoc (Do.assoc ((Ar.cell H1' (List.mem_cons_self ..) (f := 9) (v := -1) rfl (by omega) (by omega)).bind ?_))
    rintro _ ⟨a2, rfl, H2⟩
    refine Do.seq rfl (Do.seq rfl ?_)
    have hwo : thicketlaw9_without (l.map ofI) (p.length : Int) = some ((p ++ q).map ofI) := by rw [e]; exact lwithout_spec p q x (by rw [← e]; omega)
    refine Do.seq hwo ?_
    refine Do.tb rfl ?_
    refine Do.assoc ((Ar.give H2).bind ?_)
    rintro _ ⟨a3, rfl, H3⟩
    have hl1 : (x :: (p ++ q)).Perm (x :: f'.cells.map it') := by
      refine List.Perm.trans ?_ (p0.trans ?_)
      · rw [e]; exact List.perm_middle.symm
      · rw [hxc]; exact hcp
    have hog := W0.outg (it' := it') hout
    have hsub := W0.sub (l' := p ++ q) (m' := m) ⟨[x.s], by
      refine spm fun P => ?_
      rw [e]
      simp only [List.map_append, List.map_cons, List.map_nil, List.count_append, List.count_cons, List.count_nil]; omega⟩
    exact ⟨_, rfl, rfl, rfl, Or.inr ⟨p, x, q, f', it', e, hx, Hp.rebase H3, hb', hog.1, rfl, rfl, rfl, rfl, List.Perm.cons_inv hl1, hog.2, hsub.1, hsub.2, nx0⟩⟩
theorem fall_ok0 {k C : Nat} {w : thicketlaw9_world} {f g : F} {it : Nat → It} {l m : List It} (W : Wd C w.a_ w.root0 w.root1 w.has0 w.has1 w.next f g it l m) (at_ key : Int) (hl : l.length < 1000) (hk : 300000 < k) :
    Do (thicketlaw9_world_fall_at0 k w at_ key) fun r => r.1 = true ∧ r.2.next = w.next ∧ ((l = [] ∧ Wd C r.2.a_ r.2.root0 r.2.root1 r.2.has0 r.2.has1 r.2.next f g it l m) ∨
      ∃ p x q it', l = p ++ x :: q ∧ thicketbook_Within at_ 0 (w64 ((l.length : Int) - 1)) = some (p.length : Int) ∧ Wd C r.2.a_ r.2.root0 r.2.root1 r.2.has0 r.2.has1 r.2.next f g it' (p ++ q ++ [⟨x.i, if key < x.k then key else x.k, x.s⟩]) m) := by
  obtain ⟨a, r0, r1, h0, h1, nx, sp, mo⟩ := w
  have hfs := W.fs
  have hgs := W.gs
  have W0 := W
  obtain ⟨hp, hf, hg, e0, e1, i0, i1, p0, p1, ser, sb, nx0⟩ := W
  simp only at hp e0 e1 i0 i1 sb nx0 ⊢
  subst e0 e1 i0 i1
  unfold thicketlaw9_world_fall_at0
  rw [List.length_map]
  by_cases hne : l = []
  · subst hne
    refine Do.t rfl ?_
    exact ⟨_, rfl, rfl, rfl, Or.inl ⟨rfl, hp, hf, hg, rfl, rfl, rfl, rfl, p0, p1, ser, sb, nx0⟩⟩
  · have hlp : 0 < l.length := List.length_pos_iff.2 hne
    refine Do.f (by simp; omega) ?_
    have ew : w64 ((l.length : Int) - 1) = (l.length : Int) - 1 := w64_id (by omega) (by omega)
    obtain ⟨j, ej, hj0, hj1⟩ := within (n := at_) (lo := 0) (hi := w64 ((l.length : Int) - 1)) (by omega) (by omega) (by omega)
    rw [ej]
    obtain ⟨j, rfl⟩ : ∃ d : Nat, j = (d : Int) := ⟨j.toNat, by omega⟩
    have hjl : j < l.length := by omega
    obtain ⟨p, q, e, rfl⟩ := split_at (List.getElem?_eq_getElem hjl)
    generalize l[p.length] = x at e
    have hidx : mIdx (l.map ofI) (p.length : Int) = some (ofI x) := by
      rw [e, List.map_append, List.map_cons]
      have := mIdx_mid (p.map ofI) (q.map ofI) (ofI x)
      rwa [List.length_map] at this
    refine Do.seq rfl (Do.seq hidx ?_)
    obtain ⟨c, hc, hx⟩ := W0.cell (x := x) (by rw [e]; simp)
    obtain ⟨ν, hν, rfl⟩ := cell_node (up := -1) hc
    subst hx
    generalize hkey : (if key < (ofI (it ν.c)).e.Key then key else (ofI (it ν.c)).e.Key) = ky
    have hky : ky ≤ (it ν.c).k := by
      have h8 : (if key < (it ν.c).k then key else (it ν.c).k) = ky := hkey
      rw [← h8]; split <;> omega
    refine (lower_in hp (List.mem_append_left _ hν) hky).bind ?_
    rintro _ ⟨a1, rfl, H1⟩
    refine Do.f rfl ?_
    refine Do.seq rfl (Do.seq rfl ?_)
    have H1' := H1.rebase
    have hs1 := H1'.span
    have hnd := W0.nodup
    refine (fall_spec (k := k) (x := ⟨(it ν.c).i, ky, (it ν.c).s⟩) H1' hf hc (by unfold It.lt; simp only; omega) (by omega) (Q := 10) (by omega) (by omega)).bind ?_
    rintro _ ⟨it', a2, rfl, H2, hb', hout, hperm⟩
    have hs := H2.span
    refine (cost_spec (k := k) (thicketlaw9_world.mk a2 _ _ _ _ _ _ _) a1.m_.steps 1 l.length (by omega) (by omega) hs1.1 hs.2.1 (Or.inl (by have := hs.2.2.1; simp only [bs] at this ⊢; omega)) hs.2.2.2).bind ?_
    rintro _ ⟨sp', mo', rfl⟩
    refine Do.f rfl ?_
    have hwo : thicketlaw9_without (l.map ofI) (p.length : Int) = some ((p ++ q).map ofI) := by rw [e]; exact lwithout_spec p q _ (by rw [← e]; omega)
    refine Do.seq hwo ?_
    have hlpq : p.length + q.length + 1 = l.length := by rw [e]; simp; omega
    refine Do.seq (mApp_ok (by simp; omega)) ?_
    have hog := W0.outg (it' := it') hout
    have hsub := W0.sub (l' := p ++ q ++ [⟨(it ν.c).i, ky, (it ν.c).s⟩]) (m' := m) ⟨[], by
      refine spm fun P => ?_
      rw [e]
      simp only [List.map_append, List.map_cons, List.map_nil, List.count_append, List.count_cons, List.count_nil]; omega⟩
    refine ⟨_, rfl, rfl, rfl, Or.inr ⟨p, it ν.c, q, it', e, rfl, ?_⟩⟩
    have e9 : (if key < (it ν.c).k then key else (it ν.c).k) = ky := hkey
    rw [e9]
    exact ⟨H2.rebase, hb', hog.1, rfl, rfl, by simp [ofI], rfl, (perm_upd (List.nodup_append.1 hnd).1 p0 e hc rfl).trans hperm.symm, hog.2, hsub.1, hsub.2, nx0⟩
theorem cut_ok0 {k C : Nat} {w : thicketlaw9_world} {f g : F} {it : Nat → It} {l m : List It} (W : Wd C w.a_ w.root0 w.root1 w.has0 w.has1 w.next f g it l m) (at_ : Int) (hl : l.length < 1000) (hk : 300000 < k) :
    Do (thicketlaw9_world_cut_at0 k w at_) fun r => r.1 = true ∧ r.2.next = w.next ∧ ((l = [] ∧ Wd C r.2.a_ r.2.root0 r.2.root1 r.2.has0 r.2.has1 r.2.next f g it l m) ∨
      ∃ p x q f' it', l = p ++ x :: q ∧ thicketbook_Within at_ 0 (w64 ((l.length : Int) - 1)) = some (p.length : Int) ∧ Wd C r.2.a_ r.2.root0 r.2.root1 r.2.has0 r.2.has1 r.2.next f' g it' (p ++ q) m) := by
  obtain ⟨a, r0, r1, h0, h1, nx, sp, mo⟩ := w
  have hfs := W.fs
  have hgs := W.gs
  have W0 := W
  obtain ⟨hp, hf, hg, e0, e1, i0, i1, p0, p1, ser, sb, nx0⟩ := W
  simp only at hp e0 e1 i0 i1 sb nx0 ⊢
  subst e0 e1 i0 i1
  unfold thicketlaw9_world_cut_at0
  rw [List.length_map]
  by_cases hne : l = []
  · subst hne
    refine Do.t rfl ?_
    exact ⟨_, rfl, rfl, rfl, Or.inl ⟨rfl, hp, hf, hg, rfl, rfl, rfl, rfl, p0, p1, ser, sb, nx0⟩⟩
  · have hlp : 0 < l.length := List.length_pos_iff.2 hne
    refine Do.f (by simp; omega) ?_
    have ew : w64 ((l.length : Int) - 1) = (l.length : Int) - 1 := w64_id (by omega) (by omega)
    obtain ⟨j, ej, hj0, hj1⟩ := within (n := at_) (lo := 0) (hi := w64 ((l.length : Int) - 1)) (by omega) (by omega) (by omega)
    rw [ej]
    obtain ⟨j, rfl⟩ : ∃ d : Nat, j = (d : Int) := ⟨j.toNat, by omega⟩
    have hjl : j < l.length := by omega
    obtain ⟨p, q, e, rfl⟩ := split_at (List.getElem?_eq_getElem hjl)
    generalize l[p.length] = x at e
    have hidx : mIdx (l.map ofI) (p.length : Int) = some (ofI x) := by
      rw [e, List.map_append, List.map_cons]
      have := mIdx_mid (p.map ofI) (q.map ofI) (ofI x)
      rwa [List.length_map] at this
    refine Do.seq rfl (Do.seq hidx ?_)
    obtain ⟨c, hc, hx⟩ := W0.cell (x := x) (by rw [e]; simp)
    subst hx
    have hs0 := hp.span
    have hnd := W0.nodup
    refine Do.seq rfl (Do.seq rfl ?_)
    refine (cut_spec (k := k) hp hf hc (by omega) (by omega)).bind ?_
    rintro _ ⟨it', f', a1, rfl, H1, hb', hout, hperm, hin⟩
    have hs := H1.span
    refine (cost_spec (k := k) (thicketlaw9_world.mk a1 _ _ _ _ _ _ _) a.m_.steps 1 l.length (by omega) (by omega) hs0.1 hs.2.1 (Or.inr ⟨(by have := hs.2.2.1; simp only [bs] at this ⊢; omega), hlp, rfl⟩) hs.2.2.2).bind ?_
    rintro _ ⟨sp', mo', rfl⟩
    refine Do.f rfl ?_
    have hwo : thicketlaw9_without (l.map ofI) (p.length : Int) = some ((p ++ q).map ofI) := by rw [e]; exact lwithout_spec p q _ (by rw [← e]; omega)
    refine Do.seq hwo ?_
    have H1' : Ar _ _ a1 (((it c).i, (it c).cell (-1)) :: (lay it' (nd f' (-1) ++ nd g (-1)) ++ [])) := Ar.p H1 List.perm_middle
    unfold item_Node
    refine Do.assoc (Do.assoc ((Ar.cell H1' (List.mem_cons_self ..) (f := 9) (v := -1) rfl (by omega) (by omega)).bind ?_))
    rintro _ ⟨a2, rfl, H2⟩
    refine Do.seq rfl ?_
    refine Do.tb rfl ?_
    refine Do.assoc ((Ar.give H2).bind ?_)
    rintro _ ⟨a3, rfl, H3⟩
    have hl1 : (it c :: (p ++ q)).Perm (it c :: f'.cells.map it') := by
      refine List.Perm.trans ?_ (p0.trans hperm)
      rw [e]; exact List.perm_middle.symm
    have hog := W0.outg (it' := it') hout
    have hsub := W0.sub (l' := p ++ q) (m' := m) ⟨[(it c).s], by
      refine spm fun P => ?_
      rw [e]
      simp only [List.map_append, List.map_cons, List.map_nil, List.count_append, List.count_cons, List.count_nil]; omega⟩
    exact ⟨_, rfl, rfl, rfl, Or.inr ⟨p, it c, q, f', it', e, rfl, Hp.rebase H3, hb', hog.1, rfl, rfl, rfl, rfl, List.Perm.cons_inv hl1, hog.2, hsub.1, hsub.2, nx0⟩⟩
theorem meld_ok0 {k C : Nat} {w : thicketlaw9_world} {f g : F} {it : Nat → It} {l m : List It} (W : Wd C w.a_ w.root0 w.root1 w.has0 w.has1 w.next f g it l m) (hl : l.length < 250) (hm : m.length < 250) (hk : 300000 < k) :
    Do (thicketlaw9_world_meld_at0 k w) fun r => r.1 = true ∧ r.2.next = w.next ∧ ∃ f', Wd C r.2.a_ r.2.root0 r.2.root1 r.2.has0 r.2.has1 r.2.next f' .nil it (l ++ m) [] := by
  obtain ⟨a, r0, r1, h0, h1, nx, sp, mo⟩ := w
  have hfs := W.fs
  have hgs := W.gs
  have W0 := W
  obtain ⟨hp, hf, hg, e0, e1, i0, i1, p0, p1, ser, sb, nx0⟩ := W
  simp only at hp e0 e1 i0 i1 sb nx0 ⊢
  subst e0 e1 i0 i1
  unfold thicketlaw9_world_meld_at0
  have hs0 := hp.span
  refine Do.seq rfl (Do.seq rfl ?_)
  have hp' : Hp (bs C a) 0 a it (nd f (-1) ++ (nd g (-1) ++ [])) [] := by rw [List.append_nil]; exact hp
  refine (meld_spec (k := k) hp' hf hg (by omega) (by omega) (by omega)).bind ?_
  rintro _ ⟨f', a1, rfl, H1, hb', hcp⟩
  have hs := H1.span
  have hw : w64 ((((l.map ofI).length : Nat) : Int) + (((m.map ofI).length : Nat) : Int)) = ((l.length + m.length : Nat) : Int) := by rw [List.length_map, List.length_map, w64_id (by omega) (by omega)]; omega
  have hw' : w64 ((((m.map ofI).length : Nat) : Int) + (((l.map ofI).length : Nat) : Int)) = ((l.length + m.length : Nat) : Int) := by rw [List.length_map, List.length_map, w64_id (by omega) (by omega)]; omega
  first
    | rw [hw]
    | rw [hw']
  refine (cost_spec (k := k) (thicketlaw9_world.mk a1 _ _ _ _ _ _ _) a.m_.steps 1 (l.length + m.length) (by omega) (by omega) hs0.1 hs.2.1 (Or.inl (by have := hs.2.2.1; simp only [bs] at this ⊢; omega)) hs.2.2.2).bind ?_
  rintro _ ⟨sp', mo', rfl⟩
  refine Do.f rfl ?_
  refine Do.seq (mApp_ok (by simp; omega)) ?_
  refine Do.seq (mApp_ok (by simp; omega)) ?_
  refine ⟨_, rfl, rfl, rfl, f', H1.rebase, hb', HB.nil, rfl, rfl, by simp, rfl, ?_, .refl _, by simpa using ser, by simpa using sb, nx0⟩
  have := hcp.map it
  rw [List.map_append] at this
  exact (p0.append p1).trans this.symm
theorem wdrop_l0 (cs' : List Nat) (it : Nat → It) (N : List Nd) (hl : cs'.length < 100000) : ∀ (post pre : List Nat) {κ : Cfg} {n : Nat} (w : thicketlaw9_world) (H : Hp κ n w.a_ it N (post.map (out it))) (m : Nat), post.length < m → cs' = pre ++ post →
    Do (thicketlaw9_world_drop_at0_l0 (zl (cs'.map fun c => (it c).i)) m (pre.length : Int) w) fun r => ∃ a' n', r = .inr (thicketlaw9_world.mk a' w.root0 w.root1 w.has0 w.has1 w.next w.spent w.most) ∧ Hp κ n' a' it N []
  | [], pre, κ, n, w, H, m, hm, e => by
    obtain ⟨m, rfl⟩ : ∃ q, m = q + 1 := ⟨m - 1, by simp at hm; omega⟩
    rw [thicketlaw9_world_drop_at0_l0]
    refine Do.f (decide_eq_false (by rw [e]; simp [zl])) ?_
    exact ⟨_, rfl, w.a_, n, rfl, H⟩
  | c :: post, pre, κ, n, w, H, m, hm, e => by
    obtain ⟨m, rfl⟩ : ∃ q, m = q + 1 := ⟨m - 1, by simp at hm; omega⟩
    simp only [List.length_cons] at hm
    have hlen : pre.length < 100000 := by have := congrArg List.length e; simp at this; omega
    have ei : mIdx (zl (cs'.map fun c => (it c).i)) (pre.length : Int) = some ((it c).i : Int) := by
      rw [e, List.map_append, zl_append]
      have := mIdx_mid (zl (pre.map fun c => (it c).i)) (zl (post.map fun c => (it c).i)) ((it c).i : Int)
      rwa [show (zl (pre.map fun c => (it c).i)).length = pre.length by simp [zl]] at this
    rw [thicketlaw9_world_drop_at0_l0]
    refine Do.t (decide_eq_true (by rw [e]; simp [zl]; omega)) ?_
    refine Do.assoc (Do.seq ei ?_)
    unfold item_Node
    have H' : Ar κ n w.a_ (((it c).i, (it c).cell (-1)) :: (lay it N ++ post.map (out it))) := Ar.p H List.perm_middle
    refine Do.assoc (Do.assoc ((Ar.cell H' (List.mem_cons_self ..) (f := 9) (v := -1) rfl (by omega) (by omega)).bind ?_))
    rintro _ ⟨a1, rfl, H1⟩
    refine Do.seq rfl ?_
    refine Do.fb rfl ?_
    refine Do.assoc (Do.seq ei ?_)
    refine Do.assoc ((Ar.give H1).bind ?_)
    rintro _ ⟨a2, rfl, H2⟩
    refine Do.seq rfl (Do.f rfl ?_)
    rw [w64_id (by omega) (by omega)]
    have := wdrop_l0 cs' it N hl post (pre ++ [c]) (thicketlaw9_world.mk a2 w.root0 w.root1 w.has0 w.has1 w.next w.spent w.most) H2 m (by omega) (by rw [e]; simp)
    have e2 : ((pre ++ [c]).length : Int) = (pre.length : Int) + 1 := by simp
    rw [e2] at this
    exact this
theorem drop_ok0 {k C : Nat} {w : thicketlaw9_world} {f g : F} {it : Nat → It} {l m : List It} (W : Wd C w.a_ w.root0 w.root1 w.has0 w.has1 w.next f g it l m) (hl : l.length < 1000) (hk : 300000 < k) :
    Do (thicketlaw9_world_drop_at0 k w) fun r => r.1 = true ∧ r.2.next = w.next ∧ Wd C r.2.a_ r.2.root0 r.2.root1 r.2.has0 r.2.has1 r.2.next .nil g it [] m := by
  obtain ⟨a, r0, r1, h0, h1, nx, sp, mo⟩ := w
  have hfs := W.fs
  have hgs := W.gs
  have W0 := W
  obtain ⟨hp, hf, hg, e0, e1, i0, i1, p0, p1, ser, sb, nx0⟩ := W
  simp only at hp e0 e1 i0 i1 sb nx0 ⊢
  subst e0 e1 i0 i1
  unfold thicketlaw9_world_drop_at0
  refine (drop_spec (k := k) hp (by omega)).bind ?_
  rintro _ ⟨a1, rfl, H1⟩
  refine Do.seq (cells_spec (k := k) l (by omega) (by omega)) ?_
  have e9 : iSort (zl (l.map It.i)) = iSort (zl (f.cells.map fun c => (it c).i)) := by
    refine iSort_congr ?_
    have := (p0.map It.i).map (fun c : Nat => (c : Int))
    simpa [zl, Function.comp_def] using this
  rw [e9]
  have hsl : (iSort (zl (f.cells.map fun c => (it c).i))).length = l.length := by
    rw [(iSort_perm _).length_eq]; simp [zl, F.size_cells, hfs]
  refine Do.seq (same_spec (k := k) (iSort (zl (f.cells.map fun c => (it c).i))) (by omega) (by omega)) ?_
  refine Do.f rfl ?_
  have h1 : (iSort (zl (f.cells.map fun c => (it c).i))).Perm (f.cells.map fun c => ((it c).i : Int)) := by
    simpa [zl, Function.comp_def] using iSort_perm (zl (f.cells.map fun c => (it c).i))
  obtain ⟨cs', hcs, ecs⟩ := lift_perm h1 f.cells rfl
  have e8 : iSort (zl (f.cells.map fun c => (it c).i)) = zl (cs'.map fun c => (it c).i) := by rw [← ecs]; simp [zl, Function.comp_def]
  rw [e8]
  have H2 : Hp (bs C a) _ a1 it (nd g (-1)) (cs'.map (out it)) := H1.pl (by rw [List.append_nil]; exact (hcs.map _).symm)
  have hcl : cs'.length = l.length := by rw [hcs.length_eq, F.size_cells, hfs]
  refine (wdrop_l0 cs' it (nd g (-1)) (by omega) cs' [] _ H2 k (by omega) rfl).bind ?_
  rintro _ ⟨a2, n2, rfl, H3⟩
  have hsub := W0.sub (l' := []) (m' := m) ⟨l.map It.s, by
    rw [List.nil_append, List.map_append]; exact List.perm_append_comm⟩
  exact ⟨_, rfl, rfl, rfl, H3.rebase, HB.nil, hg, rfl, rfl, rfl, rfl, .refl _, p1, hsub.1, hsub.2, nx0⟩
theorem push_ok1 {k C : Nat} {w : thicketlaw9_world} {f g : F} {it : Nat → It} {l m : List It} (W : Wd C w.a_ w.root1 w.root0 w.has1 w.has0 w.next f g it l m) (key : Int) (hl : l.length < 1000) (hn : w.next < 1000000) (hr : 2 * (l.length + m.length) + 2 ≤ C) (hk : 300000 < k) :
    Do (thicketlaw9_world_push_at1 k w key) fun r => r.1 = true ∧ (∃ f' it' i, Wd C r.2.a_ r.2.root1 r.2.root0 r.2.has1 r.2.has0 r.2.next f' g it' (l ++ [⟨i, key, w.next⟩]) m) ∧ r.2.next = w.next + 1 := by
  obtain ⟨a, r0, r1, h0, h1, nx, sp, mo⟩ := w
  have hfs := W.fs
  have hgs := W.gs
  have W0 := W
  obtain ⟨hp, hf, hg, e0, e1, i0, i1, p0, p1, ser, sb, nx0⟩ := W
  simp only at hp e0 e1 i0 i1 sb nx0 hn ⊢
  subst e0 e1 i0 i1
  unfold thicketlaw9_world_push_at1
  have hlen : (lay it (nd f (-1) ++ nd g (-1)) ++ []).length < (bs C a).C := by
    rw [List.append_nil, lay_length, List.length_append, nd_size, nd_size]; simp only [bs]; omega
  refine (item_New_spec hp hlen key nx).bind ?_
  rintro _ ⟨i, a1, rfl, hi, H1⟩
  refine Do.f rfl ?_
  refine Do.seq (Ar.lenIs H1) ?_
  refine Do.seq (Ar.cells H1) ?_
  refine Do.seq rfl ?_
  refine Do.seq rfl ?_
  have H2 : Hp (bs C a) 3 a1 it (nd f (-1) ++ nd g (-1)) ((i, (It.mk i key nx).cell (-1)) :: []) := Ar.p H1 List.perm_middle.symm
  have H2' := H2.rebase
  refine (push_spec (k := k) (x := It.mk i key nx) H2' hf (by omega) (by rw [nd_size]; simp only [bs, List.length_nil]; omega) (by omega)).bind ?_
  rintro _ ⟨f', it', a2, rfl, H3, hb, hcp, hcg⟩
  have hw : w64 ((((l.map ofI).length : Nat) : Int) + 1) = ((l.length + 1 : Nat) : Int) := by rw [List.length_map, w64_id (by omega) (by omega)]; omega
  have hs := H3.span
  have hdec : decide (((((i, (It.mk i key nx).cell (-1)) :: (lay it (nd f (-1) ++ nd g (-1)) ++ [])).length : Nat) : Int) < ((bs C a).C : Int)) = true := by
    refine decide_eq_true ?_
    rw [List.length_cons, List.append_nil, lay_length, List.length_append, nd_size, nd_size]; simp only [bs]; omega
  rw [hdec, hw]
  refine Do.assoc ((cost_spec (k := k) (thicketlaw9_world.mk a2 _ _ _ _ _ _ _) a1.m_.steps _ (l.length + 1) (by omega) (by omega) hs.1 hs.2.1 (Or.inl hs.2.2.1) hs.2.2.2).bind ?_)
  rintro _ ⟨sp', mo', rfl⟩
  refine Do.fb rfl ?_
  refine Do.seq rfl (Do.f rfl ?_)
  refine Do.f rfl ?_
  refine Do.seq (mApp_ok (by simp; omega)) ?_
  refine Do.seq (mApp_ok (by simp; omega)) ?_
  refine ⟨_, rfl, rfl, ⟨f', it', i, ?_⟩, w64_id (x := nx + 1) (by omega) (by omega)⟩
  have hout : ∀ d ∈ g.cells, it' d = it d := fun d hd => by
    obtain ⟨ν, hν, rfl⟩ := cell_node (up := -1) hd
    exact hcg ν hν
  have hw2 : w64 (nx + 1) = nx + 1 := w64_id (by omega) (by omega)
  refine ⟨H3.rebase, hb, hg.congr hout, rfl, rfl, ?_, rfl, ?_, ?_, ?_, ?_, ?_⟩
  · simp [ofI]
  · exact (List.perm_append_singleton _ l).trans ((p0.cons _).trans hcp.symm)
  · rw [List.map_congr_left hout]; exact p1
  · have h3 : ((l ++ [(⟨i, key, nx⟩ : It)] ++ m).map It.s).Perm (nx :: (l ++ m).map It.s) := by
      refine spm fun p => ?_
      simp only [List.map_append, List.map_cons, List.map_nil, List.count_append, List.count_cons, List.count_nil]; omega
    refine h3.nodup_iff.2 (List.nodup_cons.2 ⟨fun h => ?_, ser⟩)
    obtain ⟨y, hy, e⟩ := List.mem_map.1 h
    have := (sb y hy).2
    omega
  · intro x hx
    simp only [hw2]
    simp only [List.mem_append, List.mem_singleton, List.not_mem_nil] at hx
    rcases hx with (hx | rfl) | hx
    · have := sb x (List.mem_append_left _ hx); omega
    · simp only; omega
    · have := sb x (List.mem_append_right _ hx); omega
  · simp only [hw2]; omega
theorem push_no1 {k C : Nat} {w : thicketlaw9_world} {f g : F} {it : Nat → It} {l m : List It} (W : Wd C w.a_ w.root1 w.root0 w.has1 w.has0 w.next f g it l m) (key : Int) (hl : l.length < 1000) (hr : C < 2 * (l.length + m.length) + 2) (hk : 300000 < k) :
    Do (thicketlaw9_world_push_at1 k w key) fun r => r.1 = true ∧ Wd C r.2.a_ r.2.root1 r.2.root0 r.2.has1 r.2.has0 r.2.next f g it l m ∧ r.2.next = w.next := by
  obtain ⟨a, r0, r1, h0, h1, nx, sp, mo⟩ := w
  have hfs := W.fs
  have hgs := W.gs
  have W0 := W
  obtain ⟨hp, hf, hg, e0, e1, i0, i1, p0, p1, ser, sb, nx0⟩ := W
  simp only at hp e0 e1 i0 i1 sb nx0 ⊢
  subst e0 e1 i0 i1
  unfold thicketlaw9_world_push_at1
  have hll : (lay it (nd f (-1) ++ nd g (-1)) ++ []).length = 2 * (l.length + m.length) := by
    rw [List.append_nil, lay_length, List.length_append, nd_size, nd_size]; omega
  have hroom := Ar.room hp
  rw [hll] at hroom
  simp only [bs] at hroom
  by_cases hfull : 2 * (l.length + m.length) = C
  · refine (item_New_full hp (by rw [hll]; exact hfull) key nx).bind ?_
    rintro _ ⟨a1, rfl, H1⟩
    refine Do.t rfl ?_
    refine Do.seq (Ar.lenIs H1) ?_
    refine Do.seq (Ar.cells H1) ?_
    refine ⟨_, rfl, ?_, ⟨Hp.rebase H1, hf, hg, rfl, rfl, rfl, rfl, p0, p1, ser, sb, nx0⟩, rfl⟩
    rw [hll]; simp [bs]; omega
  · refine (item_New_spec hp (by rw [hll]; simp only [bs]; omega) key nx).bind ?_
    rintro _ ⟨i, a1, rfl, hi, H1⟩
    refine Do.f rfl ?_
    refine Do.seq (Ar.lenIs H1) ?_
    refine Do.seq (Ar.cells H1) ?_
    refine Do.seq rfl ?_
    refine Do.seq rfl ?_
    have H2 : Hp (bs C a) 3 a1 it (nd f (-1) ++ nd g (-1)) ((i, (It.mk i key nx).cell (-1)) :: []) := Ar.p H1 List.perm_middle.symm
    have H2' := H2.rebase
    refine (push_full (k := k) (x := It.mk i key nx) (f := f) (r := f.hd) H2' (by rw [List.length_append, nd_size, nd_size]; simp only [bs, List.length_nil]; omega)).bind ?_
    rintro _ ⟨a2, rfl, H3⟩
    have hw : w64 ((((l.map ofI).length : Nat) : Int) + 1) = ((l.length + 1 : Nat) : Int) := by rw [List.length_map, w64_id (by omega) (by omega)]; omega
    have hs := H3.span
    have hdec : decide (((((i, (It.mk i key nx).cell (-1)) :: (lay it (nd f (-1) ++ nd g (-1)) ++ [])).length : Nat) : Int) < ((bs C a).C : Int)) = false := by
      refine decide_eq_false ?_
      rw [List.length_cons, hll]; simp only [bs]; omega
    rw [hdec, hw]
    have hs1 : a2.m_.steps ≤ a1.m_.steps + 500 := by
      have := hs.2.2.1
      simp only [bs] at this; omega
    refine Do.assoc ((cost_spec (k := k) (thicketlaw9_world.mk a2 _ _ _ _ _ _ _) a1.m_.steps _ (l.length + 1) (by omega) (by omega) hs.1 hs.2.1 (Or.inl hs1) hs.2.2.2).bind ?_)
    rintro _ ⟨sp', mo', rfl⟩
    refine Do.fb rfl ?_
    refine Do.seq rfl (Do.f rfl ?_)
    refine Do.t rfl ?_
    refine Do.tb (by simp) ?_
    have H4 : Ar (bs C a1) 1 a2 ((i, (It.mk i key nx).cell (-1)) :: (lay it (nd f (-1) ++ nd g (-1)) ++ [])) := Ar.p H3 List.perm_middle
    refine Do.assoc ((Ar.give H4).bind ?_)
    rintro _ ⟨a3, rfl, H5⟩
    exact ⟨_, rfl, rfl, ⟨Hp.rebase H5, hf, hg, rfl, rfl, rfl, rfl, p0, p1, ser, sb, nx0⟩, rfl⟩
theorem pop_ok1 {k C : Nat} {w : thicketlaw9_world} {f g : F} {it : Nat → It} {l m : List It} (W : Wd C w.a_ w.root1 w.root0 w.has1 w.has0 w.next f g it l m) (hl : l.length < 1000) (hk : 300000 < k) :
    Do (thicketlaw9_world_pop_at1 k w) fun r => r.1 = true ∧ r.2.next = w.next ∧ ((l = [] ∧ Wd C r.2.a_ r.2.root1 r.2.root0 r.2.has1 r.2.has0 r.2.next f g it l m) ∨
      ∃ p x q f' it', l = p ++ x :: q ∧ (∀ y ∈ l, ¬ y.lt x) ∧ Wd C r.2.a_ r.2.root1 r.2.root0 r.2.has1 r.2.has0 r.2.next f' g it' (p ++ q) m) := by
  obtain ⟨a, r0, r1, h0, h1, nx, sp, mo⟩ := w
  have hfs := W.fs
  have hgs := W.gs
  have W0 := W
  obtain ⟨hp, hf, hg, e0, e1, i0, i1, p0, p1, ser, sb, nx0⟩ := W
  simp only at hp e0 e1 i0 i1 sb nx0 ⊢
  subst e0 e1 i0 i1
  unfold thicketlaw9_world_pop_at1
  refine Do.seq rfl ?_
  refine Do.seq rfl ?_
  have hs0 := hp.span
  rw [List.length_map]
  by_cases hne : l = []
  · subst hne
    have hfn : f = .nil := by
      cases f with
      | nil => rfl
      | cons => simp [F.size] at hfs
    subst hfn
    refine Do.seq (pop_nil a) ?_
    refine (cost_spec (k := k) (thicketlaw9_world.mk a _ _ _ _ _ _ _) a.m_.steps 1 0 (by omega) (by omega) hs0.1 (Int.le_refl _) (Or.inl (by simp only; omega)) hs0.2.2.2).bind ?_
    rintro _ ⟨sp', mo', rfl⟩
    refine Do.f rfl (Do.t rfl ?_)
    exact ⟨_, rfl, rfl, rfl, Or.inl ⟨rfl, hp, hf, hg, rfl, rfl, rfl, rfl, p0, p1, ser, sb, nx0⟩⟩
  · have hfn : f ≠ .nil := fun e => by
      subst e
      simp only [F.size] at hfs
      exact hne (List.eq_nil_of_length_eq_zero hfs.symm)
    have hlp : 0 < l.length := List.length_pos_iff.2 hne
    refine (pop_spec (k := k) hp hf hfn (by omega) (by omega)).bind ?_
    rintro _ ⟨c, f', it', a1, rfl, H1, hb', hcp, hout, hcin, hmin⟩
    have hs := H1.span
    refine (cost_spec (k := k) (thicketlaw9_world.mk a1 _ _ _ _ _ _ _) a.m_.steps 1 l.length (by omega) (by omega) hs0.1 hs.2.1 (Or.inr ⟨(by have := hs.2.2.1; simp only [bs] at this ⊢; omega), hlp, rfl⟩) hs.2.2.2).bind ?_
    rintro _ ⟨sp', mo', rfl⟩
    refine Do.f rfl (Do.f (by simp; omega) ?_)
    refine (least_spec (k := k) l hne (by omega) (by omega)).bind ?_
    rintro _ ⟨p, x, q, e, rfl, hx⟩
    have hxc : x = it c := by
      have hxl : x ∈ l := by rw [e]; simp
      obtain ⟨d, hd, ed⟩ := W0.cell hxl
      have h1 := hmin d hd
      rw [ed] at h1
      have h2 : it c ∈ l := p0.mem_iff.2 (List.mem_map_of_mem hcin)
      exact It.lt_total h1 (hx _ h2)
    have hidx : mIdx (l.map ofI) (p.length : Int) = some (ofI x) := by
      rw [e, List.map_append, List.map_cons]
      have := mIdx_mid (p.map ofI) (q.map ofI) (ofI x)
      rwa [List.length_map] at this
    refine Do.assoc (Do.seq hidx ?_)
    refine Do.tb (by rw [hxc]; simp [ofI]) ?_
    have H1' : Ar _ _ a1 (((it c).i, (it c).cell (-1)) :: (lay it' (nd f' (-1) ++ nd g (-1)) ++ [])) := Ar.p H1 List.perm_middle
    unfold item_Node
    refine Do.assoc (Do.assoc ((Ar.cell H1' (List.mem_cons_self ..) (f := 9) (v := -1) rfl (by omega) (by omega)).bind ?_))
    rintro _ ⟨a2, rfl, H2⟩
    refine Do.seq rfl (Do.seq rfl ?_)
    have hwo : thicketlaw9_without (l.map ofI) (p.length : Int) = some ((p ++ q).map ofI) := by rw [e]; exact lwithout_spec p q x (by rw [← e]; omega)
    refine Do.seq hwo ?_
    refine Do.tb rfl ?_
    refine Do.assoc ((Ar.give H2).bind ?_)
    rintro _ ⟨a3, rfl, H3⟩
    have hl1 : (x :: (p ++ q)).Perm (x :: f'.cells.map it') := by
      refine List.Perm.trans ?_ (p0.trans ?_)
      · rw [e]; exact List.perm_middle.symm
      · rw [hxc]; exact hcp
    have hog := W0.outg (it' := it') hout
    have hsub := W0.sub (l' := p ++ q) (m' := m) ⟨[x.s], by
      refine spm fun P => ?_
      rw [e]
      simp only [List.map_append, List.map_cons, List.map_nil, List.count_append, List.count_cons, List.count_nil]; omega⟩
    exact ⟨_, rfl, rfl, rfl, Or.inr ⟨p, x, q, f', it', e, hx, Hp.rebase H3, hb', hog.1, rfl, rfl, rfl, rfl, List.Perm.cons_inv hl1, hog.2, hsub.1, hsub.2, nx0⟩⟩
theorem fall_ok1 {k C : Nat} {w : thicketlaw9_world} {f g : F} {it : Nat → It} {l m : List It} (W : Wd C w.a_ w.root1 w.root0 w.has1 w.has0 w.next f g it l m) (at_ key : Int) (hl : l.length < 1000) (hk : 300000 < k) :
    Do (thicketlaw9_world_fall_at1 k w at_ key) fun r => r.1 = true ∧ r.2.next = w.next ∧ ((l = [] ∧ Wd C r.2.a_ r.2.root1 r.2.root0 r.2.has1 r.2.has0 r.2.next f g it l m) ∨
      ∃ p x q it', l = p ++ x :: q ∧ thicketbook_Within at_ 0 (w64 ((l.length : Int) - 1)) = some (p.length : Int) ∧ Wd C r.2.a_ r.2.root1 r.2.root0 r.2.has1 r.2.has0 r.2.next f g it' (p ++ q ++ [⟨x.i, if key < x.k then key else x.k, x.s⟩]) m) := by
  obtain ⟨a, r0, r1, h0, h1, nx, sp, mo⟩ := w
  have hfs := W.fs
  have hgs := W.gs
  have W0 := W
  obtain ⟨hp, hf, hg, e0, e1, i0, i1, p0, p1, ser, sb, nx0⟩ := W
  simp only at hp e0 e1 i0 i1 sb nx0 ⊢
  subst e0 e1 i0 i1
  unfold thicketlaw9_world_fall_at1
  rw [List.length_map]
  by_cases hne : l = []
  · subst hne
    refine Do.t rfl ?_
    exact ⟨_, rfl, rfl, rfl, Or.inl ⟨rfl, hp, hf, hg, rfl, rfl, rfl, rfl, p0, p1, ser, sb, nx0⟩⟩
  · have hlp : 0 < l.length := List.length_pos_iff.2 hne
    refine Do.f (by simp; omega) ?_
    have ew : w64 ((l.length : Int) - 1) = (l.length : Int) - 1 := w64_id (by omega) (by omega)
    obtain ⟨j, ej, hj0, hj1⟩ := within (n := at_) (lo := 0) (hi := w64 ((l.length : Int) - 1)) (by omega) (by omega) (by omega)
    rw [ej]
    obtain ⟨j, rfl⟩ : ∃ d : Nat, j = (d : Int) := ⟨j.toNat, by omega⟩
    have hjl : j < l.length := by omega
    obtain ⟨p, q, e, rfl⟩ := split_at (List.getElem?_eq_getElem hjl)
    generalize l[p.length] = x at e
    have hidx : mIdx (l.map ofI) (p.length : Int) = some (ofI x) := by
      rw [e, List.map_append, List.map_cons]
      have := mIdx_mid (p.map ofI) (q.map ofI) (ofI x)
      rwa [List.length_map] at this
    refine Do.seq rfl (Do.seq hidx ?_)
    obtain ⟨c, hc, hx⟩ := W0.cell (x := x) (by rw [e]; simp)
    obtain ⟨ν, hν, rfl⟩ := cell_node (up := -1) hc
    subst hx
    generalize hkey : (if key < (ofI (it ν.c)).e.Key then key else (ofI (it ν.c)).e.Key) = ky
    have hky : ky ≤ (it ν.c).k := by
      have h8 : (if key < (it ν.c).k then key else (it ν.c).k) = ky := hkey
      rw [← h8]; split <;> omega
    refine (lower_in hp (List.mem_append_left _ hν) hky).bind ?_
    rintro _ ⟨a1, rfl, H1⟩
    refine Do.f rfl ?_
    refine Do.seq rfl (Do.seq rfl ?_)
    have H1' := H1.rebase
    have hs1 := H1'.span
    have hnd := W0.nodup
    refine (fall_spec (k := k) (x := ⟨(it ν.c).i, ky, (it ν.c).s⟩) H1' hf hc (by unfold It.lt; simp only; omega) (by omega) (Q := 10) (by omega) (by omega)).bind ?_
    rintro _ ⟨it', a2, rfl, H2, hb', hout, hperm⟩
    have hs := H2.span
    refine (cost_spec (k := k) (thicketlaw9_world.mk a2 _ _ _ _ _ _ _) a1.m_.steps 1 l.length (by omega) (by omega) hs1.1 hs.2.1 (Or.inl (by have := hs.2.2.1; simp only [bs] at this ⊢; omega)) hs.2.2.2).bind ?_
    rintro _ ⟨sp', mo', rfl⟩
    refine Do.f rfl ?_
    have hwo : thicketlaw9_without (l.map ofI) (p.length : Int) = some ((p ++ q).map ofI) := by rw [e]; exact lwithout_spec p q _ (by rw [← e]; omega)
    refine Do.seq hwo ?_
    have hlpq : p.length + q.length + 1 = l.length := by rw [e]; simp; omega
    refine Do.seq (mApp_ok (by simp; omega)) ?_
    have hog := W0.outg (it' := it') hout
    have hsub := W0.sub (l' := p ++ q ++ [⟨(it ν.c).i, ky, (it ν.c).s⟩]) (m' := m) ⟨[], by
      refine spm fun P => ?_
      rw [e]
      simp only [List.map_append, List.map_cons, List.map_nil, List.count_append, List.count_cons, List.count_nil]; omega⟩
    refine ⟨_, rfl, rfl, rfl, Or.inr ⟨p, it ν.c, q, it', e, rfl, ?_⟩⟩
    have e9 : (if key < (it ν.c).k then key else (it ν.c).k) = ky := hkey
    rw [e9]
    exact ⟨H2.rebase, hb', hog.1, rfl, rfl, by simp [ofI], rfl, (perm_upd (List.nodup_append.1 hnd).1 p0 e hc rfl).trans hperm.symm, hog.2, hsub.1, hsub.2, nx0⟩
theorem cut_ok1 {k C : Nat} {w : thicketlaw9_world} {f g : F} {it : Nat → It} {l m : List It} (W : Wd C w.a_ w.root1 w.root0 w.has1 w.has0 w.next f g it l m) (at_ : Int) (hl : l.length < 1000) (hk : 300000 < k) :
    Do (thicketlaw9_world_cut_at1 k w at_) fun r => r.1 = true ∧ r.2.next = w.next ∧ ((l = [] ∧ Wd C r.2.a_ r.2.root1 r.2.root0 r.2.has1 r.2.has0 r.2.next f g it l m) ∨
      ∃ p x q f' it', l = p ++ x :: q ∧ thicketbook_Within at_ 0 (w64 ((l.length : Int) - 1)) = some (p.length : Int) ∧ Wd C r.2.a_ r.2.root1 r.2.root0 r.2.has1 r.2.has0 r.2.next f' g it' (p ++ q) m) := by
  obtain ⟨a, r0, r1, h0, h1, nx, sp, mo⟩ := w
  have hfs := W.fs
  have hgs := W.gs
  have W0 := W
  obtain ⟨hp, hf, hg, e0, e1, i0, i1, p0, p1, ser, sb, nx0⟩ := W
  simp only at hp e0 e1 i0 i1 sb nx0 ⊢
  subst e0 e1 i0 i1
  unfold thicketlaw9_world_cut_at1
  rw [List.length_map]
  by_cases hne : l = []
  · subst hne
    refine Do.t rfl ?_
    exact ⟨_, rfl, rfl, rfl, Or.inl ⟨rfl, hp, hf, hg, rfl, rfl, rfl, rfl, p0, p1, ser, sb, nx0⟩⟩
  · have hlp : 0 < l.length := List.length_pos_iff.2 hne
    refine Do.f (by simp; omega) ?_
    have ew : w64 ((l.length : Int) - 1) = (l.length : Int) - 1 := w64_id (by omega) (by omega)
    obtain ⟨j, ej, hj0, hj1⟩ := within (n := at_) (lo := 0) (hi := w64 ((l.length : Int) - 1)) (by omega) (by omega) (by omega)
    rw [ej]
    obtain ⟨j, rfl⟩ : ∃ d : Nat, j = (d : Int) := ⟨j.toNat, by omega⟩
    have hjl : j < l.length := by omega
    obtain ⟨p, q, e, rfl⟩ := split_at (List.getElem?_eq_getElem hjl)
    generalize l[p.length] = x at e
    have hidx : mIdx (l.map ofI) (p.length : Int) = some (ofI x) := by
      rw [e, List.map_append, List.map_cons]
      have := mIdx_mid (p.map ofI) (q.map ofI) (ofI x)
      rwa [List.length_map] at this
    refine Do.seq rfl (Do.seq hidx ?_)
    obtain ⟨c, hc, hx⟩ := W0.cell (x := x) (by rw [e]; simp)
    subst hx
    have hs0 := hp.span
    have hnd := W0.nodup
    refine Do.seq rfl (Do.seq rfl ?_)
    refine (cut_spec (k := k) hp hf hc (by omega) (by omega)).bind ?_
    rintro _ ⟨it', f', a1, rfl, H1, hb', hout, hperm, hin⟩
    have hs := H1.span
    refine (cost_spec (k := k) (thicketlaw9_world.mk a1 _ _ _ _ _ _ _) a.m_.steps 1 l.length (by omega) (by omega) hs0.1 hs.2.1 (Or.inr ⟨(by have := hs.2.2.1; simp only [bs] at this ⊢; omega), hlp, rfl⟩) hs.2.2.2).bind ?_
    rintro _ ⟨sp', mo', rfl⟩
    refine Do.f rfl ?_
    have hwo : thicketlaw9_without (l.map ofI) (p.length : Int) = some ((p ++ q).map ofI) := by rw [e]; exact lwithout_spec p q _ (by rw [← e]; omega)
    refine Do.seq hwo ?_
    have H1' : Ar _ _ a1 (((it c).i, (it c).cell (-1)) :: (lay it' (nd f' (-1) ++ nd g (-1)) ++ [])) := Ar.p H1 List.perm_middle
    unfold item_Node
    refine Do.assoc (Do.assoc ((Ar.cell H1' (List.mem_cons_self ..) (f := 9) (v := -1) rfl (by omega) (by omega)).bind ?_))
    rintro _ ⟨a2, rfl, H2⟩
    refine Do.seq rfl ?_
    refine Do.tb rfl ?_
    refine Do.assoc ((Ar.give H2).bind ?_)
    rintro _ ⟨a3, rfl, H3⟩
    have hl1 : (it c :: (p ++ q)).Perm (it c :: f'.cells.map it') := by
      refine List.Perm.trans ?_ (p0.trans hperm)
      rw [e]; exact List.perm_middle.symm
    have hog := W0.outg (it' := it') hout
    have hsub := W0.sub (l' := p ++ q) (m' := m) ⟨[(it c).s], by
      refine spm fun P => ?_
      rw [e]
      simp only [List.map_append, List.map_cons, List.map_nil, List.count_append, List.count_cons, List.count_nil]; omega⟩
    exact ⟨_, rfl, rfl, rfl, Or.inr ⟨p, it c, q, f', it', e, rfl, Hp.rebase H3, hb', hog.1, rfl, rfl, rfl, rfl, List.Perm.cons_inv hl1, hog.2, hsub.1, hsub.2, nx0⟩⟩
theorem meld_ok1 {k C : Nat} {w : thicketlaw9_world} {f g : F} {it : Nat → It} {l m : List It} (W : Wd C w.a_ w.root1 w.root0 w.has1 w.has0 w.next f g it l m) (hl : l.length < 250) (hm : m.length < 250) (hk : 300000 < k) :
    Do (thicketlaw9_world_meld_at1 k w) fun r => r.1 = true ∧ r.2.next = w.next ∧ ∃ f', Wd C r.2.a_ r.2.root1 r.2.root0 r.2.has1 r.2.has0 r.2.next f' .nil it (l ++ m) [] := by
  obtain ⟨a, r0, r1, h0, h1, nx, sp, mo⟩ := w
  have hfs := W.fs
  have hgs := W.gs
  have W0 := W
  obtain ⟨hp, hf, hg, e0, e1, i0, i1, p0, p1, ser, sb, nx0⟩ := W
  simp only at hp e0 e1 i0 i1 sb nx0 ⊢
  subst e0 e1 i0 i1
  unfold thicketlaw9_world_meld_at1
  have hs0 := hp.span
  refine Do.seq rfl (Do.seq rfl ?_)
  have hp' : Hp (bs C a) 0 a it (nd f (-1) ++ (nd g (-1) ++ [])) [] := by rw [List.append_nil]; exact hp
  refine (meld_spec (k := k) hp' hf hg (by omega) (by omega) (by omega)).bind ?_
  rintro _ ⟨f', a1, rfl, H1, hb', hcp⟩
  have hs := H1.span
  have hw : w64 ((((l.map ofI).length : Nat) : Int) + (((m.map ofI).length : Nat) : Int)) = ((l.length + m.length : Nat) : Int) := by rw [List.length_map, List.length_map, w64_id (by omega) (by omega)]; omega
  have hw' : w64 ((((m.map ofI).length : Nat) : Int) + (((l.map ofI).length : Nat) : Int)) = ((l.length + m.length : Nat) : Int) := by rw [List.length_map, List.length_map, w64_id (by omega) (by omega)]; omega
  first
    | rw [hw]
    | rw [hw']
  refine (cost_spec (k := k) (thicketlaw9_world.mk a1 _ _ _ _ _ _ _) a.m_.steps 1 (l.length + m.length) (by omega) (by omega) hs0.1 hs.2.1 (Or.inl (by have := hs.2.2.1; simp only [bs] at this ⊢; omega)) hs.2.2.2).bind ?_
  rintro _ ⟨sp', mo', rfl⟩
  refine Do.f rfl ?_
  refine Do.seq (mApp_ok (by simp; omega)) ?_
  refine Do.seq (mApp_ok (by simp; omega)) ?_
  refine ⟨_, rfl, rfl, rfl, f', H1.rebase, hb', HB.nil, rfl, rfl, by simp, rfl, ?_, .refl _, by simpa using ser, by simpa using sb, nx0⟩
  have := hcp.map it
  rw [List.map_append] at this
  exact (p0.append p1).trans this.symm
theorem wdrop_l1 (cs' : List Nat) (it : Nat → It) (N : List Nd) (hl : cs'.length < 100000) : ∀ (post pre : List Nat) {κ : Cfg} {n : Nat} (w : thicketlaw9_world) (H : Hp κ n w.a_ it N (post.map (out it))) (m : Nat), post.length < m → cs' = pre ++ post →
    Do (thicketlaw9_world_drop_at1_l0 (zl (cs'.map fun c => (it c).i)) m (pre.length : Int) w) fun r => ∃ a' n', r = .inr (thicketlaw9_world.mk a' w.root0 w.root1 w.has0 w.has1 w.next w.spent w.most) ∧ Hp κ n' a' it N []
  | [], pre, κ, n, w, H, m, hm, e => by
    obtain ⟨m, rfl⟩ : ∃ q, m = q + 1 := ⟨m - 1, by simp at hm; omega⟩
    rw [thicketlaw9_world_drop_at1_l0]
    refine Do.f (decide_eq_false (by rw [e]; simp [zl])) ?_
    exact ⟨_, rfl, w.a_, n, rfl, H⟩
  | c :: post, pre, κ, n, w, H, m, hm, e => by
    obtain ⟨m, rfl⟩ : ∃ q, m = q + 1 := ⟨m - 1, by simp at hm; omega⟩
    simp only [List.length_cons] at hm
    have hlen : pre.length < 100000 := by have := congrArg List.length e; simp at this; omega
    have ei : mIdx (zl (cs'.map fun c => (it c).i)) (pre.length : Int) = some ((it c).i : Int) := by
      rw [e, List.map_append, zl_append]
      have := mIdx_mid (zl (pre.map fun c => (it c).i)) (zl (post.map fun c => (it c).i)) ((it c).i : Int)
      rwa [show (zl (pre.map fun c => (it c).i)).length = pre.length by simp [zl]] at this
    rw [thicketlaw9_world_drop_at1_l0]
    refine Do.t (decide_eq_true (by rw [e]; simp [zl]; omega)) ?_
    refine Do.assoc (Do.seq ei ?_)
    unfold item_Node
    have H' : Ar κ n w.a_ (((it c).i, (it c).cell (-1)) :: (lay it N ++ post.map (out it))) := Ar.p H List.perm_middle
    refine Do.assoc (Do.assoc ((Ar.cell H' (List.mem_cons_self ..) (f := 9) (v := -1) rfl (by omega) (by omega)).bind ?_))
    rintro _ ⟨a1, rfl, H1⟩
    refine Do.seq rfl ?_
    refine Do.fb rfl ?_
    refine Do.assoc (Do.seq ei ?_)
    refine Do.assoc ((Ar.give H1).bind ?_)
    rintro _ ⟨a2, rfl, H2⟩
    refine Do.seq rfl (Do.f rfl ?_)
    rw [w64_id (by omega) (by omega)]
    have := wdrop_l1 cs' it N hl post (pre ++ [c]) (thicketlaw9_world.mk a2 w.root0 w.root1 w.has0 w.has1 w.next w.spent w.most) H2 m (by omega) (by rw [e]; simp)
    have e2 : ((pre ++ [c]).length : Int) = (pre.length : Int) + 1 := by simp
    rw [e2] at this
    exact this
theorem drop_ok1 {k C : Nat} {w : thicketlaw9_world} {f g : F} {it : Nat → It} {l m : List It} (W : Wd C w.a_ w.root1 w.root0 w.has1 w.has0 w.next f g it l m) (hl : l.length < 1000) (hk : 300000 < k) :
    Do (thicketlaw9_world_drop_at1 k w) fun r => r.1 = true ∧ r.2.next = w.next ∧ Wd C r.2.a_ r.2.root1 r.2.root0 r.2.has1 r.2.has0 r.2.next .nil g it [] m := by
  obtain ⟨a, r0, r1, h0, h1, nx, sp, mo⟩ := w
  have hfs := W.fs
  have hgs := W.gs
  have W0 := W
  obtain ⟨hp, hf, hg, e0, e1, i0, i1, p0, p1, ser, sb, nx0⟩ := W
  simp only at hp e0 e1 i0 i1 sb nx0 ⊢
  subst e0 e1 i0 i1
  unfold thicketlaw9_world_drop_at1
  refine (drop_spec (k := k) hp (by omega)).bind ?_
  rintro _ ⟨a1, rfl, H1⟩
  refine Do.seq (cells_spec (k := k) l (by omega) (by omega)) ?_
  have e9 : iSort (zl (l.map It.i)) = iSort (zl (f.cells.map fun c => (it c).i)) := by
    refine iSort_congr ?_
    have := (p0.map It.i).map (fun c : Nat => (c : Int))
    simpa [zl, Function.comp_def] using this
  rw [e9]
  have hsl : (iSort (zl (f.cells.map fun c => (it c).i))).length = l.length := by
    rw [(iSort_perm _).length_eq]; simp [zl, F.size_cells, hfs]
  refine Do.seq (same_spec (k := k) (iSort (zl (f.cells.map fun c => (it c).i))) (by omega) (by omega)) ?_
  refine Do.f rfl ?_
  have h1 : (iSort (zl (f.cells.map fun c => (it c).i))).Perm (f.cells.map fun c => ((it c).i : Int)) := by
    simpa [zl, Function.comp_def] using iSort_perm (zl (f.cells.map fun c => (it c).i))
  obtain ⟨cs', hcs, ecs⟩ := lift_perm h1 f.cells rfl
  have e8 : iSort (zl (f.cells.map fun c => (it c).i)) = zl (cs'.map fun c => (it c).i) := by rw [← ecs]; simp [zl, Function.comp_def]
  rw [e8]
  have H2 : Hp (bs C a) _ a1 it (nd g (-1)) (cs'.map (out it)) := H1.pl (by rw [List.append_nil]; exact (hcs.map _).symm)
  have hcl : cs'.length = l.length := by rw [hcs.length_eq, F.size_cells, hfs]
  refine (wdrop_l1 cs' it (nd g (-1)) (by omega) cs' [] _ H2 k (by omega) rfl).bind ?_
  rintro _ ⟨a2, n2, rfl, H3⟩
  have hsub := W0.sub (l' := []) (m' := m) ⟨l.map It.s, by
    rw [List.nil_append, List.map_append]; exact List.perm_append_comm⟩
  exact ⟨_, rfl, rfl, rfl, H3.rebase, HB.nil, hg, rfl, rfl, rfl, rfl, .refl _, p1, hsub.1, hsub.2, nx0⟩
end Go.Proofs.YtmidmkinclmbdaaGreat
