/-
  The plain law of binomial heaps: the law's own look at the shape.
-/
import Derived.Test.YtmidmkinclmbdaaGreatP12
set_option linter.unusedVariables false
set_option linter.unusedSimpArgs false
set_option maxRecDepth 10000
namespace Go.Proofs.YtmidmkinclmbdaaGreat
open Go.Th

abbrev WA (w : thicketlaw9_world) (a : arena_Arena) : thicketlaw9_world := thicketlaw9_world.mk a w.root0 w.root1 w.has0 w.has1 w.next w.spent w.most
def hasOf (w : thicketlaw9_world) (h : Int) : List thicketlaw9_held := if h = 0 then w.has0 else w.has1
section
variable {κ : Cfg} {it : Nat → It} {N : List Nd} {L : Heap}
theorem node_l0 (n1 : Int) (w : thicketlaw9_world) (l : List It) (hh : w.has0 = l.map ofI) (hl : l.length < 100000) {ν : Nd} (hν : ν ∈ N) (hn1 : n1 = (ν.c : Int)) (hnd : (l.map It.i).Nodup) (hin : it ν.c ∈ l) {n : Nat} (H : Hp κ n w.a_ it N L) : ∀ (post pre : List It) (m : Nat), post.length < m → l = pre ++ post → it ν.c ∉ pre →
    Do (thicketlaw9_world_node_at0_l0 n1 ((it ν.c).i : Int) w m (pre.length : Int)) fun r => ∃ a' n', r = .inl (ofI (it ν.c), true, WA w a') ∧ Hp κ n' a' it N L
  | [], pre, m, hm, e, hpre => by
    rw [e, List.append_nil] at hin
    exact absurd hin hpre
  | x :: post, pre, m, hm, e, hpre => by
    obtain ⟨m, rfl⟩ : ∃ q, m = q + 1 := ⟨m - 1, by simp at hm; omega⟩
    simp only [List.length_cons] at hm
    have hlen : pre.length < 100000 := by have := congrArg List.length e; simp at this; omega
    have ei : mIdx w.has0 (pre.length : Int) = some (ofI x) := by
      rw [hh, e, List.map_append, List.map_cons]
      have := mIdx_mid (pre.map ofI) (post.map ofI) (ofI x)
      rwa [List.length_map] at this
    rw [thicketlaw9_world_node_at0_l0]
    refine Do.t (decide_eq_true (by rw [hh, e]; simp; omega)) ?_
    refine Do.seq ei ?_
    by_cases hx : x = it ν.c
    · subst hx
      refine Do.t (by simp [ofI]) ?_
      refine Do.assoc ((Ar.cell H (H.item hν) (f := 9) (v := (ν.c : Int)) rfl (by omega) (by have := H.lt hν; omega)).bind ?_)
      rintro _ ⟨a1, rfl, H1⟩
      refine Do.tb (by simp [hn1]) ?_
      refine Do.assoc ((entry_spec H1 (H.item hν)).bind ?_)
      rintro _ ⟨a2, rfl, H2⟩
      refine Do.seq rfl ?_
      refine ⟨_, rfl, a2, _, ?_, H2⟩
      simp [ofI, api_Entry.eq]
    · have hne : x.i ≠ (it ν.c).i := fun e' => by
        have h1 : it ν.c ∈ post := by
          rw [e] at hin
          rcases List.mem_append.1 hin with h | h
          · exact absurd h hpre
          · rcases List.mem_cons.1 h with h | h
            · exact absurd h.symm hx
            · exact h
        rw [e, List.map_append, List.map_cons] at hnd
        have h2 := (List.nodup_cons.1 (List.nodup_append.1 hnd).2.1).1
        exact h2 (e' ▸ List.mem_map_of_mem h1)
      refine Do.f (by simp [ofI]; omega) ?_
      rw [w64_id (by omega) (by omega)]
      have := node_l0 n1 w l hh hl hν hn1 hnd hin H post (pre ++ [x]) m (by omega) (by rw [e]; simp) (by
        simp only [List.mem_append, List.mem_singleton, not_or]
        exact ⟨hpre, fun h => hx h.symm⟩)
      have e2 : ((pre ++ [x]).length : Int) = (pre.length : Int) + 1 := by simp
      rw [e2] at this
      exact this
theorem node_at_ok0 {k : Nat} (w : thicketlaw9_world) (l : List It) (hh : w.has0 = l.map ofI) (hl : l.length < 1000) {ν : Nd} (hν : ν ∈ N) (hnd : (l.map It.i).Nodup) (hin : it ν.c ∈ l) {n : Nat} (H : Hp κ n w.a_ it N L) (hk : 1000 < k) :
    Do (thicketlaw9_world_node_at0 k w (ν.c : Int)) fun r => ∃ a' n', r = (ofI (it ν.c), true, WA w a') ∧ Hp κ n' a' it N L := by
  unfold thicketlaw9_world_node_at0
  refine (H.geti hν).bind ?_
  rintro _ ⟨a1, rfl, H1⟩
  refine (node_l0 (ν.c : Int) (WA w a1) l hh (by omega) hν rfl hnd hin H1 l [] k (by omega) rfl (by simp)).bind ?_
  rintro _ ⟨a2, n2, rfl, H2⟩
  exact ⟨_, rfl, a2, n2, rfl, H2⟩
theorem node_l1 (n1 : Int) (w : thicketlaw9_world) (l : List It) (hh : w.has1 = l.map ofI) (hl : l.length < 100000) {ν : Nd} (hν : ν ∈ N) (hn1 : n1 = (ν.c : Int)) (hnd : (l.map It.i).Nodup) (hin : it ν.c ∈ l) {n : Nat} (H : Hp κ n w.a_ it N L) : ∀ (post pre : List It) (m : Nat), post.length < m → l = pre ++ post → it ν.c ∉ pre →
    Do (thicketlaw9_world_node_at1_l0 n1 ((it ν.c).i : Int) w m (pre.length : Int)) fun r => ∃ a' n', r = .inl (ofI (it ν.c), true, WA w a') ∧ Hp κ n' a' it N L
  | [], pre, m, hm, e, hpre => by
    rw [e, List.append_nil] at hin
    exact absurd hin hpre
  | x :: post, pre, m, hm, e, hpre => by
    obtain ⟨m, rfl⟩ : ∃ q, m = q + 1 := ⟨m - 1, by simp at hm; omega⟩
    simp only [List.length_cons] at hm
    have hlen : pre.length < 100000 := by have := congrArg List.length e; simp at this; omega
    have ei : mIdx w.has1 (pre.length : Int) = some (ofI x) := by
      rw [hh, e, List.map_append, List.map_cons]
      have := mIdx_mid (pre.map ofI) (post.map ofI) (ofI x)
      rwa [List.length_map] at this
    rw [thicketlaw9_world_node_at1_l0]
    refine Do.t (decide_eq_true (by rw [hh, e]; simp; omega)) ?_
    refine Do.seq ei ?_
    by_cases hx : x = it ν.c
    · subst hx
      refine Do.t (by simp [ofI]) ?_
      refine Do.assoc ((Ar.cell H (H.item hν) (f := 9) (v := (ν.c : Int)) rfl (by omega) (by have := H.lt hν; omega)).bind ?_)
      rintro _ ⟨a1, rfl, H1⟩
      refine Do.tb (by simp [hn1]) ?_
      refine Do.assoc ((entry_spec H1 (H.item hν)).bind ?_)
      rintro _ ⟨a2, rfl, H2⟩
      refine Do.seq rfl ?_
      refine ⟨_, rfl, a2, _, ?_, H2⟩
      simp [ofI, api_Entry.eq]
    · have hne : x.i ≠ (it ν.c).i := fun e' => by
        have h1 : it ν.c ∈ post := by
          rw [e] at hin
          rcases List.mem_append.1 hin with h | h
          · exact absurd h hpre
          · rcases List.mem_cons.1 h with h | h
            · exact absurd h.symm hx
            · exact h
        rw [e, List.map_append, List.map_cons] at hnd
        have h2 := (List.nodup_cons.1 (List.nodup_append.1 hnd).2.1).1
        exact h2 (e' ▸ List.mem_map_of_mem h1)
      refine Do.f (by simp [ofI]; omega) ?_
      rw [w64_id (by omega) (by omega)]
      have := node_l1 n1 w l hh hl hν hn1 hnd hin H post (pre ++ [x]) m (by omega) (by rw [e]; simp) (by
        simp only [List.mem_append, List.mem_singleton, not_or]
        exact ⟨hpre, fun h => hx h.symm⟩)
      have e2 : ((pre ++ [x]).length : Int) = (pre.length : Int) + 1 := by simp
      rw [e2] at this
      exact this
theorem node_at_ok1 {k : Nat} (w : thicketlaw9_world) (l : List It) (hh : w.has1 = l.map ofI) (hl : l.length < 1000) {ν : Nd} (hν : ν ∈ N) (hnd : (l.map It.i).Nodup) (hin : it ν.c ∈ l) {n : Nat} (H : Hp κ n w.a_ it N L) (hk : 1000 < k) :
    Do (thicketlaw9_world_node_at1 k w (ν.c : Int)) fun r => ∃ a' n', r = (ofI (it ν.c), true, WA w a') ∧ Hp κ n' a' it N L := by
  unfold thicketlaw9_world_node_at1
  refine (H.geti hν).bind ?_
  rintro _ ⟨a1, rfl, H1⟩
  refine (node_l1 (ν.c : Int) (WA w a1) l hh (by omega) hν rfl hnd hin H1 l [] k (by omega) rfl (by simp)).bind ?_
  rintro _ ⟨a2, n2, rfl, H2⟩
  exact ⟨_, rfl, a2, n2, rfl, H2⟩
theorem node_ok {k : Nat} (w : thicketlaw9_world) (h : Int) (h01 : h = 0 ∨ h = 1) (l : List It) (hh : hasOf w h = l.map ofI) (hl : l.length < 1000) {ν : Nd} (hν : ν ∈ N) (hnd : (l.map It.i).Nodup) (hin : it ν.c ∈ l) {n : Nat} (H : Hp κ n w.a_ it N L) (hk : 1000 < k) :
    Do (thicketlaw9_world_node k w h (ν.c : Int)) fun r => ∃ a' n', r = (ofI (it ν.c), true, WA w a') ∧ Hp κ n' a' it N L := by
  unfold thicketlaw9_world_node
  rcases h01 with rfl | rfl
  · rw [if_pos rfl]; exact node_at_ok0 w l hh hl hν hnd hin H hk
  · rw [if_neg (by decide), if_pos rfl]; exact node_at_ok1 w l hh hl hν hnd hin H hk
theorem tree_step {k : Nat} (h : Int) (h01 : h = 0 ∨ h = 1) (l : List It) (hl : l.length < 1000) (hnd : (l.map It.i).Nodup) {c r : Nat} {kids : F} {u wd : Int} (hN : ∀ ν ∈ (Tr.mk c r kids).nd u wd, ν ∈ N) (hin : it c ∈ l) (hu : -1 ≤ u ∧ u < κ.C) (hr : r < 100)
    (above : It) (top : Bool) (hab : top = true ∨ ¬ (it c).lt above) (hk : 1000 < k)
    (hK : ∀ (w : thicketlaw9_world) (n : Nat), hasOf w h = l.map ofI → Hp κ n w.a_ it N L → Do (thicketlaw9_world_tree_l0 (thicketlaw9_world_tree k) h (c : Int) ((it c).i : Int) (it c).k (it c).s k kids.hd ((r : Int) - 1) w) fun r => ∃ a' n', r = .inr (-1, WA w a') ∧ Hp κ n' a' it N L)
    (w : thicketlaw9_world) (n : Nat) (hh : hasOf w h = l.map ofI) (H : Hp κ n w.a_ it N L) :
    Do (thicketlaw9_world_tree (k + 1) w h (c : Int) (r : Int) u (ofI above) top) fun r => ∃ a' n', r = (true, WA w a') ∧ Hp κ n' a' it N L := by
  have hν := hN _ (List.mem_cons_self ..)
  have hkN : ∀ ν ∈ nd kids c, ν ∈ N := fun ν hν => hN ν (List.mem_cons_of_mem _ hν)
  rw [thicketlaw9_world_tree]
  refine (node_ok (k := k) w h h01 l hh hl hν hnd hin H hk).bind ?_
  rintro _ ⟨a1, n1, rfl, H1⟩
  refine Do.fb rfl ?_
  refine Do.assoc ((H1.get hν (f := 4) (v := (r : Int))).bind ?_)
  rintro _ ⟨a2, rfl, H2⟩
  refine Do.fb (by simp) ?_
  refine Do.assoc ((H2.getc hν (f := 0) (v := u) hu.1 hu.2).bind ?_)
  rintro _ ⟨a3, rfl, H3⟩
  refine Do.fb (by simp) ?_
  refine Do.assoc ((H3.getc hν (f := 2) (v := -1) (by omega) (by omega)).bind ?_)
  rintro _ ⟨a4, rfl, H4⟩
  refine Do.fb (by simp) ?_
  have hh' := hd_ok H4 hkN
  have fin : Do ((arena_Arena_Cell a4 (c : Int) 1).bind fun t_5 =>
      (thicketlaw9_world_tree_l0 (thicketlaw9_world_tree k) h (c : Int) ((it c).i : Int) (it c).k (it c).s k t_5.1 (w64 ((r : Int) - 1)) (WA w t_5.2)).bind fun s1 =>
      match s1 with
      | .inl r_ => some r_
      | .inr s2 => some (s2.1 == (-1), s2.2)) fun r => ∃ a' n', r = (true, WA w a') ∧ Hp κ n' a' it N L := by
    refine (H4.getc hν (f := 1) (v := kids.hd) hh'.1 hh'.2).bind ?_
    rintro _ ⟨a5, rfl, H5⟩
    rw [w64_id (by omega) (by omega)]
    refine (hK (WA w a5) _ hh H5).bind ?_
    rintro _ ⟨a6, n6, rfl, H6⟩
    exact ⟨_, rfl, a6, n6, rfl, H6⟩
  cases top with
  | true =>
    refine Do.fb rfl ?_
    refine Do.seq rfl (Do.f rfl ?_)
    exact fin
  | false =>
    have hab' : ¬ (it c).lt above := by
      rcases hab with h | h
      · cases h
      · exact h
    refine Do.tb rfl ?_
    refine Do.assoc (Do.seq (before_spec _ _) ?_)
    refine Do.seq rfl (Do.f (decide_eq_false hab') ?_)
    exact fin
theorem tree_kids (h : Int) (h01 : h = 0 ∨ h = 1) (l : List It) (hl : l.length < 1000) (hnd : (l.map It.i).Nodup) : ∀ {f : F} {r : Nat}, SK false f r → ∀ (q : Nat), (∀ ν ∈ nd f (q : Int), ν ∈ N) → (∀ c ∈ f.cells, it c ∈ l) → Ord it (nd f (q : Int)) → q < κ.C → r < 100 → ∀ (k m : Nat), 1000 + r < k → r < m → ∀ (w : thicketlaw9_world) (n : Nat), hasOf w h = l.map ofI → Hp κ n w.a_ it N L →
    Do (thicketlaw9_world_tree_l0 (thicketlaw9_world_tree k) h (q : Int) ((it q).i : Int) (it q).k (it q).s m f.hd ((r : Int) - 1) w) fun r => ∃ a' n', r = .inr (-1, WA w a') ∧ Hp κ n' a' it N L := by
  intro f r hsk
  induction hsk with
  | nil =>
    intro q hN hin ho hq hr k m hk hm w n hh H
    obtain ⟨m, rfl⟩ : ∃ q, m = q + 1 := ⟨m - 1, by omega⟩
    rw [thicketlaw9_world_tree_l0]
    refine Do.f (decide_eq_false (by omega)) ?_
    exact ⟨_, rfl, w.a_, n, rfl, H⟩
  | @real c r kids rest h1 h2 i1 i2 =>
    intro q hN hin ho hq hr k m hk hm w n hh H
    obtain ⟨m, rfl⟩ : ∃ q, m = q + 1 := ⟨m - 1, by omega⟩
    obtain ⟨k, rfl⟩ : ∃ q, k = q + 1 := ⟨k - 1, by omega⟩
    have e1 : (((r + 1 : Nat) : Int) - 1) = (r : Int) := by omega
    rw [e1, thicketlaw9_world_tree_l0]
    refine Do.t (decide_eq_true (by omega)) ?_
    refine Do.fb (by simp [F.hd]) ?_
    have hν := hN ⟨c, q, kids.hd, -1, rest.hd, r, 0⟩ (List.mem_cons_self ..)
    have hc : c < κ.C := H.lt hν
    have hck : it c ∈ l := hin c (by rw [F.cells]; exact List.mem_cons_self ..)
    have hoc : ¬ (it c).lt (it q) := ho ⟨c, q, kids.hd, -1, rest.hd, r, 0⟩ (List.mem_cons_self ..) q rfl
    have hK := i1 c (fun ν hν => hN ν (List.mem_cons_of_mem _ (List.mem_append_left _ hν))) (fun d hd => hin d (by rw [F.cells]; exact List.mem_cons_of_mem _ (List.mem_append_left _ hd))) (ho.sub fun ν hν => List.mem_cons_of_mem _ (List.mem_append_left _ hν)) hc (by omega) k k (by omega) (by omega)
    refine Do.assoc ((tree_step (k := k) (r := r) (kids := kids) (u := (q : Int)) (wd := rest.hd) h h01 l hl hnd (fun ν hν => ?_) hck ⟨by omega, by omega⟩ (by omega) (it q) false (Or.inr hoc) (by omega) hK w n hh H).bind ?_)
    · rcases List.mem_cons.1 hν with rfl | hν
      · exact hN _ (List.mem_cons_self ..)
      · exact hN ν (List.mem_cons_of_mem _ (List.mem_append_left _ hν))
    rintro _ ⟨a1, n1, rfl, H1⟩
    refine Do.seq rfl (Do.f rfl ?_)
    have hrN : ∀ ν ∈ nd rest (q : Int), ν ∈ N := fun ν hν => hN ν (List.mem_cons_of_mem _ (List.mem_append_right _ hν))
    have hh' := hd_ok H1 hrN
    refine (H1.getc hν (f := 3) (v := rest.hd) hh'.1 hh'.2).bind ?_
    rintro _ ⟨a2, rfl, H2⟩
    rw [w64_id (by omega) (by omega)]
    exact i2 q hrN (fun d hd => hin d (by rw [F.cells]; exact List.mem_cons_of_mem _ (List.mem_append_right _ hd))) (ho.sub fun ν hν => List.mem_cons_of_mem _ (List.mem_append_right _ hν)) hq (by omega) (k + 1) m (by omega) (by omega) (WA w a2) _ hh H2
  | leaf hb => cases hb
/-- the law's look at a tree -/
theorem tree_ok (h : Int) (h01 : h = 0 ∨ h = 1) (l : List It) (hl : l.length < 1000) (hnd : (l.map It.i).Nodup) {t : Tr} {wd : Int} (hN : ∀ ν ∈ t.nd (-1) wd, ν ∈ N) (hg : GT false it t) (hr : t.r < 99) (hin : ∀ c ∈ t.cells, it c ∈ l) (k : Nat) (hk : 2000 < k) (w : thicketlaw9_world) (n : Nat) (hh : hasOf w h = l.map ofI) (H : Hp κ n w.a_ it N L) (above : It) :
    Do (thicketlaw9_world_tree k w h (t.c : Int) (t.r : Int) (-1) (ofI above) true) fun r => ∃ a' n', r = (true, WA w a') ∧ Hp κ n' a' it N L := by
  obtain ⟨k, rfl⟩ : ∃ q, k = q + 1 := ⟨k - 1, by omega⟩
  have hc : t.c < κ.C := H.lt (hN _ (List.mem_cons_self ..))
  exact tree_step (k := k) h h01 l hl hnd hN (hin _ (List.mem_cons_self ..)) ⟨by omega, by omega⟩ (by omega) above true (Or.inl rfl) (by omega) (fun w n hh H => tree_kids h h01 l hl hnd hg.sk t.c (fun ν hν => hN ν (List.mem_cons_of_mem _ hν)) (fun c hc => hin c (List.mem_cons_of_mem _ hc)) hg.ord hc (by omega) k k (by omega) (by omega) w n hh H) w n hh H
end
/-! the bits of a count -/
theorem u64_id {x : Int} (h1 : 0 ≤ x) (h2 : x < 18446744073709551616) : IntKind.wrap .u64 x = x := by
  show (if (false && decide (x % 18446744073709551616 ≥ 9223372036854775808)) = true then x % 18446744073709551616 - 18446744073709551616 else x % 18446744073709551616) = x
  rw [if_neg (by simp)]; omega
theorem bit_eq (q : Nat) (hq : q < 1000000) : (IntKind.wrap .i64 ((BitVec.ofInt 64 (q : Int) &&& BitVec.ofInt 64 1).toNat : Int)) = ((q % 2 : Nat) : Int) := by
  have e : (BitVec.ofInt 64 (q : Int) &&& BitVec.ofInt 64 1).toNat = q % 2 := by
    rw [BitVec.toNat_and]
    have e1 : (BitVec.ofInt 64 (q : Int)).toNat = q := by
      rw [BitVec.toNat_ofInt]
      have : ((q : Int) % ((2 ^ 64 : Nat) : Int)) = q := by omega
      rw [this]; simp
    have e2 : (BitVec.ofInt 64 1).toNat = 1 := by decide
    rw [e1, e2, Nat.and_one_is_mod]
  rw [e]
  have := w64_id (x := ((q % 2 : Nat) : Int)) (by omega) (by omega)
  exact this
theorem size_mul {it : Nat → It} (j : Nat) : ∀ {f : F}, (∀ t ∈ f.trees, GT false it t) → (∀ t ∈ f.trees, j ≤ t.r) → ∃ q, f.size = q * 2 ^ j
  | .nil, _, _ => ⟨0, by simp [F.size]⟩
  | .cons c r kids rest, hg, hj => by
    obtain ⟨q, e⟩ := size_mul j (f := rest) (fun t ht => hg t (by simp [F.trees, ht])) (fun t ht => hj t (by simp [F.trees, ht]))
    have h1 := (hg ⟨c, r, kids⟩ (by simp [F.trees])).sk.size.2.2 rfl
    have h2 := hj ⟨c, r, kids⟩ (by simp [F.trees])
    simp only at h1 h2
    obtain ⟨d, rfl⟩ : ∃ d, r = j + d := ⟨r - j, by omega⟩
    refine ⟨2 ^ d + q, ?_⟩
    rw [F.size, e, Nat.add_mul, ← Nat.pow_add, Nat.add_comm d j]
    omega
section
variable {κ : Cfg} {it : Nat → It} {N : List Nd} {L : Heap}
theorem shape_l0 (left : Nat) (hleft : left < 1024) (l : List It) (hl : l.length < 1000) (hnd : (l.map It.i).Nodup) : ∀ (d j : Nat) (f : F) (q : Nat), j + d = 12 → left / 2 ^ j = q → f.size = q * 2 ^ j → f.size < 1024 → (∀ t ∈ f.trees, GT false it t) → (f.trees.Pairwise fun s u => s.r < u.r) → (∀ t ∈ f.trees, j ≤ t.r) → (∀ ν ∈ nd f (-1), ν ∈ N) → (∀ c ∈ f.cells, it c ∈ l) → ∀ (m : Nat), 3000 + d < m → ∀ (w : thicketlaw9_world) (n : Nat), w.has0 = l.map ofI → Hp κ n w.a_ it N L →
    Do (thicketlaw9_world_shape_at0_l0 (left : Int) m f.hd (j : Int) w) fun r => ∃ a' n', r = .inr (-1, WA w a') ∧ Hp κ n' a' it N L := by
  intro d
  induction d with
  | zero =>
    intro j f q hj hq hsz hlt hg hp hjr hN hin m hm w n hh H
    obtain ⟨m, rfl⟩ : ∃ q, m = q + 1 := ⟨m - 1, by omega⟩
    have hnil : f = .nil := by
      cases f with
      | nil => rfl
      | cons c r kids rest =>
        have h1 := (hg ⟨c, r, kids⟩ (by simp [F.trees])).sk.size.2.2 rfl
        have h2 := hjr ⟨c, r, kids⟩ (by simp [F.trees])
        simp only at h1 h2
        have h3 : 2 ^ 12 ≤ 2 ^ r := Nat.pow_le_pow_right (by decide) (by omega)
        simp only [F.size] at hlt
        omega
    subst hnil
    rw [thicketlaw9_world_shape_at0_l0]
    refine Do.f (decide_eq_false (by omega)) ?_
    exact ⟨_, rfl, w.a_, n, rfl, H⟩
  | succ d ih =>
    intro j f q hj hq hsz hlt hg hp hjr hN hin m hm w n hh H
    obtain ⟨m, rfl⟩ : ∃ q, m = q + 1 := ⟨m - 1, by omega⟩
    rw [thicketlaw9_world_shape_at0_l0]
    refine Do.t (decide_eq_true (by omega)) ?_
    rw [u64_id (by omega) (by omega)]
    have hnn : mNn (j : Int) = some () := by unfold mNn; rw [if_pos (by omega)]
    rw [hnn]
    simp only [Option.bind_some, Int.toNat_natCast]
    have hfd : Int.fdiv (left : Int) (2 ^ (min j 64)) = (q : Int) := by
      rw [Nat.min_eq_left (by omega), Int.fdiv_eq_ediv_of_nonneg _ (Int.pow_nonneg (by decide)), ← hq]
      norm_cast
    rw [hfd, bit_eq q (by
      have : q ≤ left := hq ▸ Nat.div_le_self ..
      omega), w64_id (by omega) (by omega)]
    have hnext : left / 2 ^ (j + 1) = q / 2 := by rw [Nat.pow_succ, ← Nat.div_div_eq_div_mul, hq]
    have go : ∀ (g : F) (w' : thicketlaw9_world) (n' q' : Nat), g.size = q' * 2 ^ (j + 1) → q / 2 = q' → g.size < 1024 → (∀ t ∈ g.trees, GT false it t) → (g.trees.Pairwise fun s u => s.r < u.r) → (∀ t ∈ g.trees, j + 1 ≤ t.r) → (∀ ν ∈ nd g (-1), ν ∈ N) → (∀ c ∈ g.cells, it c ∈ l) → w'.has0 = l.map ofI → Hp κ n' w'.a_ it N L →
        Do (thicketlaw9_world_shape_at0_l0 (left : Int) m g.hd ((j : Int) + 1) w') fun r => ∃ a' n', r = .inr (-1, WA w' a') ∧ Hp κ n' a' it N L := by
      intro g w' n' q' h1 h2 h3 h4 h5 h6 h7 h8 h9 h10
      have := ih (j + 1) g q' (by omega) (by rw [hnext, h2]) h1 h3 h4 h5 h6 h7 h8 m (by omega) w' n' h9 h10
      have e : (((j + 1 : Nat)) : Int) = (j : Int) + 1 := by omega
      rw [e] at this
      exact this
    by_cases hhead : ∃ c kids rest, f = .cons c j kids rest
    · obtain ⟨c, kids, rest, rfl⟩ := hhead
      have hge : ∀ t ∈ rest.trees, j + 1 ≤ t.r := fun t ht => by
        have := (List.pairwise_cons.1 hp).1 t ht
        simp only at this; omega
      have hgr : ∀ t ∈ rest.trees, GT false it t := fun t ht => hg t (by simp [F.trees, ht])
      obtain ⟨q', e⟩ := size_mul (j + 1) hgr hge
      have gt := hg ⟨c, j, kids⟩ (by simp [F.trees])
      have h1 := gt.sk.size.2.2 rfl
      simp only at h1
      have hq2 : q = 1 + 2 * q' := by
        have h2 : (1 + 2 * q') * 2 ^ j = q * 2 ^ j := by
          rw [← hsz, F.size, e, Nat.pow_succ, Nat.add_mul, Nat.one_mul]
          have : 2 * q' * 2 ^ j = q' * (2 ^ j * 2) := by rw [Nat.mul_comm 2 q', Nat.mul_assoc, Nat.mul_comm 2 (2 ^ j)]
          omega
        exact (Nat.eq_of_mul_eq_mul_right (Nat.two_pow_pos j) h2).symm
      have hodd : q % 2 = 1 := by omega
      rw [hodd]
      refine Do.bind (P := fun r => ∃ a' n', r = .inr (rest.hd, WA w a') ∧ Hp κ n' a' it N L) (Do.f rfl ?_) ?_
      · refine Do.fb (by simp [F.hd]) ?_
        have htN : ∀ ν ∈ (Tr.mk c j kids).nd (-1) rest.hd, ν ∈ N := fun ν hν => by
          rcases List.mem_cons.1 hν with rfl | hν
          · exact hN _ (List.mem_cons_self ..)
          · exact hN ν (List.mem_cons_of_mem _ (List.mem_append_left _ hν))
        refine Do.assoc ((tree_ok (0 : Int) (by decide) l hl hnd htN gt (by simp only; omega) (fun d hd => hin d (by
          rw [F.cells]
          rcases List.mem_cons.1 hd with rfl | hd
          · exact List.mem_cons_self ..
          · exact List.mem_cons_of_mem _ (List.mem_append_left _ hd))) m (by omega) w n hh H ⟨0, 0, 0⟩).bind ?_)
        rintro _ ⟨a1, n1, rfl, H1⟩
        refine Do.seq rfl (Do.f rfl ?_)
        have hrN : ∀ ν ∈ nd rest (-1), ν ∈ N := fun ν hν => hN ν (List.mem_cons_of_mem _ (List.mem_append_right _ hν))
        have hh' := hd_ok H1 hrN
        refine (H1.getc (hN _ (List.mem_cons_self ..)) (f := 3) (v := rest.hd) hh'.1 hh'.2).bind ?_
        rintro _ ⟨a2, rfl, H2⟩
        exact ⟨_, rfl, a2, _, rfl, H2⟩
      · rintro _ ⟨a1, n1, rfl, H1⟩
        exact go rest (WA w a1) n1 q' e (by omega) (by simp only [F.size] at hlt; omega) hgr (List.pairwise_cons.1 hp).2 hge (fun ν hν => hN ν (List.mem_cons_of_mem _ (List.mem_append_right _ hν))) (fun d hd => hin d (by rw [F.cells]; exact List.mem_cons_of_mem _ (List.mem_append_right _ hd))) hh H1
    · have hge : ∀ t ∈ f.trees, j + 1 ≤ t.r := fun t ht => by
        have h1 := hjr t ht
        cases f with
        | nil => simp [F.trees] at ht
        | cons c r kids rest =>
          have h2 : r ≠ j := fun e => hhead ⟨c, kids, rest, by rw [e]⟩
          have h3 := hjr ⟨c, r, kids⟩ (by simp [F.trees])
          rw [F.trees] at ht
          rcases List.mem_cons.1 ht with rfl | ht
          · simp only at h1 ⊢; omega
          · have := (List.pairwise_cons.1 hp).1 t ht
            simp only at this h3; omega
      obtain ⟨q', e⟩ := size_mul (j + 1) hg hge
      have hq2 : q = 2 * q' := by
        have h2 : (2 * q') * 2 ^ j = q * 2 ^ j := by
          rw [← hsz, e, Nat.pow_succ, Nat.mul_comm 2 q', Nat.mul_assoc, Nat.mul_comm 2 (2 ^ j)]
        exact (Nat.eq_of_mul_eq_mul_right (Nat.two_pow_pos j) h2).symm
      have heven : q % 2 = 0 := by omega
      rw [heven]
      refine Do.bind (P := fun r => r = .inr (f.hd, w)) (Do.t rfl ⟨_, rfl, rfl⟩) ?_
      rintro _ rfl
      exact go f w n q' e (by omega) hlt hg hp hge hN hin hh H
theorem shape_ok0 {k : Nat} {w : thicketlaw9_world} {f : F} (l : List It) (hl : l.length < 1000) (hnd : (l.map It.i).Nodup) (hb : HB false it f) (hfs : f.size = l.length) (hN : ∀ ν ∈ nd f (-1), ν ∈ N) (hin : ∀ c ∈ f.cells, it c ∈ l) (hk : 4000 < k) {n : Nat} (hh : w.has0 = l.map ofI) (hr : w.root0 = f.hd) (H : Hp κ n w.a_ it N L) :
    Do (thicketlaw9_world_shape k w 0) fun r => ∃ a' n', r = (true, WA w a') ∧ Hp κ n' a' it N L := by
  have e0 : thicketlaw9_world_shape k w 0 = thicketlaw9_world_shape_at0 k w := rfl
  rw [e0]
  unfold thicketlaw9_world_shape_at0
  have hp : f.trees.Pairwise fun s u => s.r < u.r := by
    have := hb.row
    cases e : f.trees with
    | nil => exact List.Pairwise.nil
    | cons t r =>
      rw [e] at this
      exact List.pairwise_cons.2 ⟨this.2.2 rfl, this.1⟩
  have := shape_l0 l.length (by omega) l hl hnd 12 0 f l.length rfl (by simp) (by simp [hfs]) (by omega) hb.good hp (fun _ _ => Nat.zero_le _) hN hin k (by omega) w n hh H
  rw [hr, hh, List.length_map]
  refine this.bind ?_
  rintro _ ⟨a1, n1, rfl, H1⟩
  exact ⟨_, rfl, a1, n1, rfl, H1⟩
theorem shape_l1 (left : Nat) (hleft : left < 1024) (l : List It) (hl : l.length < 1000) (hnd : (l.map It.i).Nodup) : ∀ (d j : Nat) (f : F) (q : Nat), j + d = 12 → left / 2 ^ j = q → f.size = q * 2 ^ j → f.size < 1024 → (∀ t ∈ f.trees, GT false it t) → (f.trees.Pairwise fun s u => s.r < u.r) → (∀ t ∈ f.trees, j ≤ t.r) → (∀ ν ∈ nd f (-1), ν ∈ N) → (∀ c ∈ f.cells, it c ∈ l) → ∀ (m : Nat), 3000 + d < m → ∀ (w : thicketlaw9_world) (n : Nat), w.has1 = l.map ofI → Hp κ n w.a_ it N L →
    Do (thicketlaw9_world_shape_at1_l0 (left : Int) m f.hd (j : Int) w) fun r => ∃ a' n', r = .inr (-1, WA w a') ∧ Hp κ n' a' it N L := by
  intro d
  induction d with
  | zero =>
    intro j f q hj hq hsz hlt hg hp hjr hN hin m hm w n hh H
    obtain ⟨m, rfl⟩ : ∃ q, m = q + 1 := ⟨m - 1, by omega⟩
    have hnil : f = .nil := by
      cases f with
      | nil => rfl
      | cons c r kids rest =>
        have h1 := (hg ⟨c, r, kids⟩ (by simp [F.trees])).sk.size.2.2 rfl
        have h2 := hjr ⟨c, r, kids⟩ (by simp [F.trees])
        simp only at h1 h2
        have h3 : 2 ^ 12 ≤ 2 ^ r := Nat.pow_le_pow_right (by decide) (by omega)
        simp only [F.size] at hlt
        omega
    subst hnil
    rw [thicketlaw9_world_shape_at1_l0]
    refine Do.f (decide_eq_false (by omega)) ?_
    exact ⟨_, rfl, w.a_, n, rfl, H⟩
  | succ d ih =>
    intro j f q hj hq hsz hlt hg hp hjr hN hin m hm w n hh H
    obtain ⟨m, rfl⟩ : ∃ q, m = q + 1 := ⟨m - 1, by omega⟩
    rw [thicketlaw9_world_shape_at1_l0]
    refine Do.t (decide_eq_true (by omega)) ?_
    rw [u64_id (by omega) (by omega)]
    have hnn : mNn (j : Int) = some () := by unfold mNn; rw [if_pos (by omega)]
    rw [hnn]
    simp only [Option.bind_some, Int.toNat_natCast]
    have hfd : Int.fdiv (left : Int) (2 ^ (min j 64)) = (q : Int) := by
      rw [Nat.min_eq_left (by omega), Int.fdiv_eq_ediv_of_nonneg _ (Int.pow_nonneg (by decide)), ← hq]
      norm_cast
    rw [hfd, bit_eq q (by
      have : q ≤ left := hq ▸ Nat.div_le_self ..
      omega), w64_id (by omega) (by omega)]
    have hnext : left / 2 ^ (j + 1) = q / 2 := by rw [Nat.pow_succ, ← Nat.div_div_eq_div_mul, hq]
    have go : ∀ (g : F) (w' : thicketlaw9_world) (n' q' : Nat), g.size = q' * 2 ^ (j + 1) → q / 2 = q' → g.size < 1024 → (∀ t ∈ g.trees, GT false it t) → (g.trees.Pairwise fun s u => s.r < u.r) → (∀ t ∈ g.trees, j + 1 ≤ t.r) → (∀ ν ∈ nd g (-1), ν ∈ N) → (∀ c ∈ g.cells, it c ∈ l) → w'.has1 = l.map ofI → Hp κ n' w'.a_ it N L →
        Do (thicketlaw9_world_shape_at1_l0 (left : Int) m g.hd ((j : Int) + 1) w') fun r => ∃ a' n', r = .inr (-1, WA w' a') ∧ Hp κ n' a' it N L := by
      intro g w' n' q' h1 h2 h3 h4 h5 h6 h7 h8 h9 h10
      have := ih (j + 1) g q' (by omega) (by rw [hnext, h2]) h1 h3 h4 h5 h6 h7 h8 m (by omega) w' n' h9 h10
      have e : (((j + 1 : Nat)) : Int) = (j : Int) + 1 := by omega
      rw [e] at this
      exact this
    by_cases hhead : ∃ c kids rest, f = .cons c j kids rest
    · obtain ⟨c, kids, rest, rfl⟩ := hhead
      have hge : ∀ t ∈ rest.trees, j + 1 ≤ t.r := fun t ht => by
        have := (List.pairwise_cons.1 hp).1 t ht
        simp only at this; omega
      have hgr : ∀ t ∈ rest.trees, GT false it t := fun t ht => hg t (by simp [F.trees, ht])
      obtain ⟨q', e⟩ := size_mul (j + 1) hgr hge
      have gt := hg ⟨c, j, kids⟩ (by simp [F.trees])
      have h1 := gt.sk.size.2.2 rfl
      simp only at h1
      have hq2 : q = 1 + 2 * q' := by
        have h2 : (1 + 2 * q') * 2 ^ j = q * 2 ^ j := by
          rw [← hsz, F.size, e, Nat.pow_succ, Nat.add_mul, Nat.one_mul]
          have : 2 * q' * 2 ^ j = q' * (2 ^ j * 2) := by rw [Nat.mul_comm 2 q', Nat.mul_assoc, Nat.mul_comm 2 (2 ^ j)]
          omega
        exact (Nat.eq_of_mul_eq_mul_right (Nat.two_pow_pos j) h2).symm
      have hodd : q % 2 = 1 := by omega
      rw [hodd]
      refine Do.bind (P := fun r => ∃ a' n', r = .inr (rest.hd, WA w a') ∧ Hp κ n' a' it N L) (Do.f rfl ?_) ?_
      · refine Do.fb (by simp [F.hd]) ?_
        have htN : ∀ ν ∈ (Tr.mk c j kids).nd (-1) rest.hd, ν ∈ N := fun ν hν => by
          rcases List.mem_cons.1 hν with rfl | hν
          · exact hN _ (List.mem_cons_self ..)
          · exact hN ν (List.mem_cons_of_mem _ (List.mem_append_left _ hν))
        refine Do.assoc ((tree_ok (1 : Int) (by decide) l hl hnd htN gt (by simp only; omega) (fun d hd => hin d (by
          rw [F.cells]
          rcases List.mem_cons.1 hd with rfl | hd
          · exact List.mem_cons_self ..
          · exact List.mem_cons_of_mem _ (List.mem_append_left _ hd))) m (by omega) w n hh H ⟨0, 0, 0⟩).bind ?_)
        rintro _ ⟨a1, n1, rfl, H1⟩
        refine Do.seq rfl (Do.f rfl ?_)
        have hrN : ∀ ν ∈ nd rest (-1), ν ∈ N := fun ν hν => hN ν (List.mem_cons_of_mem _ (List.mem_append_right _ hν))
        have hh' := hd_ok H1 hrN
        refine (H1.getc (hN _ (List.mem_cons_self ..)) (f := 3) (v := rest.hd) hh'.1 hh'.2).bind ?_
        rintro _ ⟨a2, rfl, H2⟩
        exact ⟨_, rfl, a2, _, rfl, H2⟩
      · rintro _ ⟨a1, n1, rfl, H1⟩
        exact go rest (WA w a1) n1 q' e (by omega) (by simp only [F.size] at hlt; omega) hgr (List.pairwise_cons.1 hp).2 hge (fun ν hν => hN ν (List.mem_cons_of_mem _ (List.mem_append_right _ hν))) (fun d hd => hin d (by rw [F.cells]; exact List.mem_cons_of_mem _ (List.mem_append_right _ hd))) hh H1
    · have hge : ∀ t ∈ f.trees, j + 1 ≤ t.r := fun t ht => by
        have h1 := hjr t ht
        cases f with
        | nil => simp [F.trees] at ht
        | cons c r kids rest =>
          have h2 : r ≠ j := fun e => hhead ⟨c, kids, rest, by rw [e]⟩
          have h3 := hjr ⟨c, r, kids⟩ (by simp [F.trees])
          rw [F.trees] at ht
          rcases List.mem_cons.1 ht with rfl | ht
          · simp only at h1 ⊢; omega
          · have := (List.pairwise_cons.1 hp).1 t ht
            simp only at this h3; omega
      obtain ⟨q', e⟩ := size_mul (j + 1) hg hge
      have hq2 : q = 2 * q' := by
        have h2 : (2 * q') * 2 ^ j = q * 2 ^ j := by
          rw [← hsz, e, Nat.pow_succ, Nat.mul_comm 2 q', Nat.mul_assoc, Nat.mul_comm 2 (2 ^ j)]
        exact (Nat.eq_of_mul_eq_mul_right (Nat.two_pow_pos j) h2).symm
      have heven : q % 2 = 0 := by omega
      rw [heven]
      refine Do.bind (P := fun r => r = .inr (f.hd, w)) (Do.t rfl ⟨_, rfl, rfl⟩) ?_
      rintro _ rfl
      exact go f w n q' e (by omega) hlt hg hp hge hN hin hh H
theorem shape_ok1 {k : Nat} {w : thicketlaw9_world} {f : F} (l : List It) (hl : l.length < 1000) (hnd : (l.map It.i).Nodup) (hb : HB false it f) (hfs : f.size = l.length) (hN : ∀ ν ∈ nd f (-1), ν ∈ N) (hin : ∀ c ∈ f.cells, it c ∈ l) (hk : 4000 < k) {n : Nat} (hh : w.has1 = l.map ofI) (hr : w.root1 = f.hd) (H : Hp κ n w.a_ it N L) :
    Do (thicketlaw9_world_shape k w 1) fun r => ∃ a' n', r = (true, WA w a') ∧ Hp κ n' a' it N L := by
  have e0 : thicketlaw9_world_shape k w 1 = thicketlaw9_world_shape_at1 k w := rfl
  rw [e0]
  unfold thicketlaw9_world_shape_at1
  have hp : f.trees.Pairwise fun s u => s.r < u.r := by
    have := hb.row
    cases e : f.trees with
    | nil => exact List.Pairwise.nil
    | cons t r =>
      rw [e] at this
      exact List.pairwise_cons.2 ⟨this.2.2 rfl, this.1⟩
  have := shape_l1 l.length (by omega) l hl hnd 12 0 f l.length rfl (by simp) (by simp [hfs]) (by omega) hb.good hp (fun _ _ => Nat.zero_le _) hN hin k (by omega) w n hh H
  rw [hr, hh, List.length_map]
  refine this.bind ?_
  rintro _ ⟨a1, n1, rfl, H1⟩
  exact ⟨_, rfl, a1, n1, rfl, H1⟩
end
end Go.Proofs.YtmidmkinclmbdaaGreat
