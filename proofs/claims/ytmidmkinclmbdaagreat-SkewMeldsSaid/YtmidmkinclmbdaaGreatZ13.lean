/-
  The plain law of skew binomial heaps: the law's own look at the shape.
-/
import Derived.Test.YtmidmkinclmbdaaGreatZ12
set_option linter.unusedVariables false
set_option linter.unusedSimpArgs false
set_option maxRecDepth 10000
namespace Go.Proofs.YtmidmkinclmbdaaGreat
open Go.Th

abbrev WA (w : thicketlaw11_world) (a : arena_Arena) : thicketlaw11_world := thicketlaw11_world.mk a w.root0 w.root1 w.has0 w.has1 w.next w.spent w.most
def hasOf (w : thicketlaw11_world) (h : Int) : List thicketlaw11_held := if h = 0 then w.has0 else w.has1
section
variable {κ : Cfg} {it : Nat → It} {N : List Nd} {L : Heap}
theorem node_l0 (n1 : Int) (w : thicketlaw11_world) (l : List It) (hh : w.has0 = l.map ofI) (hl : l.length < 100000) {ν : Nd} (hν : ν ∈ N) (hn1 : n1 = (ν.c : Int)) (hnd : (l.map It.i).Nodup) (hin : it ν.c ∈ l) {n : Nat} (H : Hp κ n w.a_ it N L) : ∀ (post pre : List It) (m : Nat), post.length < m → l = pre ++ post → it ν.c ∉ pre →
    Do (thicketlaw11_world_node_at0_l0 n1 ((it ν.c).i : Int) w m (pre.length : Int)) fun r => ∃ a' n', r = .inl (ofI (it ν.c), true, WA w a') ∧ Hp κ n' a' it N L
  | [], pre, m, hm, e, hpre => by
    rw [e, List.append_nil] at hin
    exact absurd hin hpre
  | x :: post, pre, m, hm, e, hpre => by
    obtain ⟨m, rfl⟩ : ∃ q, m = q + 1 := ⟨m - 1, by simp at hm; omega⟩
    simp only [List.length_cons] at hm
    have hlen : pre.length < 100000 := by have := congrArg List.length e; simp at this; omega
    have ei : mIdx w.has0 (pre.length : Int) = some (ofI x) := by
      rw [hh, e, List.map_append, List.map_cons]
      have := mIdx_mid (pre.map ofI) (post.map ofI) (ofI x)
      rwa [List.length_map] at this
    rw [thicketlaw11_world_node_at0_l0]
    refine Do.t (decide_eq_true (by rw [hh, e]; simp; omega)) ?_
    refine Do.seq ei ?_
    by_cases hx : x = it ν.c
    · subst hx
      refine Do.t (by simp [ofI]) ?_
      refine Do.assoc ((Ar.cell H (H.item hν) (f := 9) (v := (ν.c : Int)) rfl (by omega) (by have := H.lt hν; omega)).bind ?_)
      rintro _ ⟨a1, rfl, H1⟩
      refine Do.tb (by simp [hn1]) ?_
      refine Do.assoc ((entry_spec H1 (H.item hν)).bind ?_)
      rintro _ ⟨a2, rfl, H2⟩
      refine Do.seq rfl ?_
      refine ⟨_, rfl, a2, _, ?_, H2⟩
      simp [ofI, api_Entry.eq]
    · have hne : x.i ≠ (it ν.c).i := fun e' => by
        have h1 : it ν.c ∈ post := by
          rw [e] at hin
          rcases List.mem_append.1 hin with h | h
          · exact absurd h hpre
          · rcases List.mem_cons.1 h with h | h
            · exact absurd h.symm hx
            · exact h
        rw [e, List.map_append, List.map_cons] at hnd
        have h2 := (List.nodup_cons.1 (List.nodup_append.1 hnd).2.1).1
        exact h2 (e' ▸ List.mem_map_of_mem h1)
      refine Do.f (by simp [ofI]; omega) ?_
      rw [w64_id (by omega) (by omega)]
      have := node_l0 n1 w l hh hl hν hn1 hnd hin H post (pre ++ [x]) m (by omega) (by rw [e]; simp) (by
        simp only [List.mem_append, List.mem_singleton, not_or]
        exact ⟨hpre, fun h => hx h.symm⟩)
      have e2 : ((pre ++ [x]).length : Int) = (pre.length : Int) + 1 := by simp
      rw [e2] at this
      exact this
theorem node_at_ok0 {k : Nat} (w : thicketlaw11_world) (l : List It) (hh : w.has0 = l.map ofI) (hl : l.length < 1000) {ν : Nd} (hν : ν ∈ N) (hnd : (l.map It.i).Nodup) (hin : it ν.c ∈ l) {n : Nat} (H : Hp κ n w.a_ it N L) (hk : 1000 < k) :
    Do (thicketlaw11_world_node_at0 k w (ν.c : Int)) fun r => ∃ a' n', r = (ofI (it ν.c), true, WA w a') ∧ Hp κ n' a' it N L := by
  unfold thicketlaw11_world_node_at0
  refine (H.geti hν).bind ?_
  rintro _ ⟨a1, rfl, H1⟩
  refine (node_l0 (ν.c : Int) (WA w a1) l hh (by omega) hν rfl hnd hin H1 l [] k (by omega) rfl (by simp)).bind ?_
  rintro _ ⟨a2, n2, rfl, H2⟩
  exact ⟨_, rfl, a2, n2, rfl, H2⟩
theorem node_l1 (n1 : Int) (w : thicketlaw11_world) (l : List It) (hh : w.has1 = l.map ofI) (hl : l.length < 100000) {ν : Nd} (hν : ν ∈ N) (hn1 : n1 = (ν.c : Int)) (hnd : (l.map It.i).Nodup) (hin : it ν.c ∈ l) {n : Nat} (H : Hp κ n w.a_ it N L) : ∀ (post pre : List It) (m : Nat), post.length < m → l = pre ++ post → it ν.c ∉ pre →
    Do (thicketlaw11_world_node_at1_l0 n1 ((it ν.c).i : Int) w m (pre.length : Int)) fun r => ∃ a' n', r = .inl (ofI (it ν.c), true, WA w a') ∧ Hp κ n' a' it N L
  | [], pre, m, hm, e, hpre => by
    rw [e, List.append_nil] at hin
    exact absurd hin hpre
  | x :: post, pre, m, hm, e, hpre => by
    obtain ⟨m, rfl⟩ : ∃ q, m = q + 1 := ⟨m - 1, by simp at hm; omega⟩
    simp only [List.length_cons] at hm
    have hlen : pre.length < 100000 := by have := congrArg List.length e; simp at this; omega
    have ei : mIdx w.has1 (pre.length : Int) = some (ofI x) := by
      rw [hh, e, List.map_append, List.map_cons]
      have := mIdx_mid (pre.map ofI) (post.map ofI) (ofI x)
      rwa [List.length_map] at this
    rw [thicketlaw11_world_node_at1_l0]
    refine Do.t (decide_eq_true (by rw [hh, e]; simp; omega)) ?_
    refine Do.seq ei ?_
    by_cases hx : x = it ν.c
    · subst hx
      refine Do.t (by simp [ofI]) ?_
      refine Do.assoc ((Ar.cell H (H.item hν) (f := 9) (v := (ν.c : Int)) rfl (by omega) (by have := H.lt hν; omega)).bind ?_)
      rintro _ ⟨a1, rfl, H1⟩
      refine Do.tb (by simp [hn1]) ?_
      refine Do.assoc ((entry_spec H1 (H.item hν)).bind ?_)
      rintro _ ⟨a2, rfl, H2⟩
      refine Do.seq rfl ?_
      refine ⟨_, rfl, a2, _, ?_, H2⟩
      simp [ofI, api_Entry.eq]
    · have hne : x.i ≠ (it ν.c).i := fun e' => by
        have h1 : it ν.c ∈ post := by
          rw [e] at hin
          rcases List.mem_append.1 hin with h | h
          · exact absurd h hpre
          · rcases List.mem_cons.1 h with h | h
            · exact absurd h.symm hx
            · exact h
        rw [e, List.map_append, List.map_cons] at hnd
        have h2 := (List.nodup_cons.1 (List.nodup_append.1 hnd).2.1).1
        exact h2 (e' ▸ List.mem_map_of_mem h1)
      refine Do.f (by simp [ofI]; omega) ?_
      rw [w64_id (by omega) (by omega)]
      have := node_l1 n1 w l hh hl hν hn1 hnd hin H post (pre ++ [x]) m (by omega) (by rw [e]; simp) (by
        simp only [List.mem_append, List.mem_singleton, not_or]
        exact ⟨hpre, fun h => hx h.symm⟩)
      have e2 : ((pre ++ [x]).length : Int) = (pre.length : Int) + 1 := by simp
      rw [e2] at this
      exact this
theorem node_at_ok1 {k : Nat} (w : thicketlaw11_world) (l : List It) (hh : w.has1 = l.map ofI) (hl : l.length < 1000) {ν : Nd} (hν : ν ∈ N) (hnd : (l.map It.i).Nodup) (hin : it ν.c ∈ l) {n : Nat} (H : Hp κ n w.a_ it N L) (hk : 1000 < k) :
    Do (thicketlaw11_world_node_at1 k w (ν.c : Int)) fun r => ∃ a' n', r = (ofI (it ν.c), true, WA w a') ∧ Hp κ n' a' it N L := by
  unfold thicketlaw11_world_node_at1
  refine (H.geti hν).bind ?_
  rintro _ ⟨a1, rfl, H1⟩
  refine (node_l1 (ν.c : Int) (WA w a1) l hh (by omega) hν rfl hnd hin H1 l [] k (by omega) rfl (by simp)).bind ?_
  rintro _ ⟨a2, n2, rfl, H2⟩
  exact ⟨_, rfl, a2, n2, rfl, H2⟩
theorem node_ok {k : Nat} (w : thicketlaw11_world) (h : Int) (h01 : h = 0 ∨ h = 1) (l : List It) (hh : hasOf w h = l.map ofI) (hl : l.length < 1000) {ν : Nd} (hν : ν ∈ N) (hnd : (l.map It.i).Nodup) (hin : it ν.c ∈ l) {n : Nat} (H : Hp κ n w.a_ it N L) (hk : 1000 < k) :
    Do (thicketlaw11_world_node k w h (ν.c : Int)) fun r => ∃ a' n', r = (ofI (it ν.c), true, WA w a') ∧ Hp κ n' a' it N L := by
  unfold thicketlaw11_world_node
  rcases h01 with rfl | rfl
  · rw [if_pos rfl]; exact node_at_ok0 w l hh hl hν hnd hin H hk
  · rw [if_neg (by decide), if_pos rfl]; exact node_at_ok1 w l hh hl hν hnd hin H hk
end
theorem u64_id {x : Int} (h1 : 0 ≤ x) (h2 : x < 18446744073709551616) : IntKind.wrap .u64 x = x := by
  show (if (false && decide (x % 18446744073709551616 ≥ 9223372036854775808)) = true then x % 18446744073709551616 - 18446744073709551616 else x % 18446744073709551616) = x
  rw [if_neg (by simp)]; omega
section
variable {κ : Cfg} {it : Nat → It} {N : List Nd} {L : Heap}
theorem tree_step0 {k : Nat} (l : List It) (hl : l.length < 1000) (hnd : (l.map It.i).Nodup) {c r : Nat} {kids : F} {u wd : Int} (hN : ∀ ν ∈ (Tr.mk c r kids).nd u wd, ν ∈ N) (hin : it c ∈ l) (hu : -1 ≤ u ∧ u < κ.C) (hr : r ≤ 20) (hsk : SK true kids r) (hsz : kids.size + 1 ≤ l.length)
    (above : It) (top : Bool) (hab : top = true ∨ ¬ (it c).lt above) (hk : 1000 < k)
    (hK : ∀ (w : thicketlaw11_world) (n : Nat), w.has0 = l.map ofI → Hp κ n w.a_ it N L → Do (thicketlaw11_world_tree_at0_l0 (thicketlaw11_world_tree_at0 k) (c : Int) (r : Int) ((it c).i : Int) (it c).k (it c).s k 1 kids.hd 0 w) fun res => ∃ a' n', res = .inr (((kids.size + 1 : Nat) : Int), -1, WA w a') ∧ Hp κ n' a' it N L)
    (w : thicketlaw11_world) (n : Nat) (hh : w.has0 = l.map ofI) (H : Hp κ n w.a_ it N L) :
    Do (thicketlaw11_world_tree_at0 (k + 1) w (c : Int) u (ofI above) top) fun res => ∃ a' n', res = (((kids.size + 1 : Nat) : Int), WA w a') ∧ Hp κ n' a' it N L := by
  have hν := hN _ (List.mem_cons_self ..)
  have hkN : ∀ ν ∈ nd kids c, ν ∈ N := fun ν hν => hN ν (List.mem_cons_of_mem _ hν)
  rw [thicketlaw11_world_tree_at0]
  have e0 : thicketlaw11_world_node k w 0 (c : Int) = thicketlaw11_world_node_at0 k w (c : Int) := rfl
  rw [e0]
  refine (node_at_ok0 (k := k) w l hh hl hν hnd hin H hk).bind ?_
  rintro _ ⟨a1, n1, rfl, H1⟩
  refine (H1.get hν (f := 4) (v := (r : Int))).bind ?_
  rintro _ ⟨a2, rfl, H2⟩
  refine Do.fb rfl (Do.fb (decide_eq_false (by omega)) (Do.fb (decide_eq_false (by simp only; omega)) ?_))
  refine Do.assoc ((H2.getc hν (f := 0) (v := u) hu.1 hu.2).bind ?_)
  rintro _ ⟨a3, rfl, H3⟩
  refine Do.fb (by simp) ?_
  refine Do.assoc ((H3.getc hν (f := 2) (v := -1) (by omega) (by omega)).bind ?_)
  rintro _ ⟨a4, rfl, H4⟩
  refine Do.fb (by simp) ?_
  have hh' := hd_ok H4 hkN
  obtain ⟨s1, s2, _⟩ := hsk.size
  have hp20 : 2 ^ r ≤ 2 ^ 20 := Nat.pow_le_pow_right (by decide) hr
  have h20 : (2 : Nat) ^ 20 = 1048576 := by decide
  have hpc : ((2 : Int) ^ r) = ((2 ^ r : Nat) : Int) := by norm_cast
  have hps : 2 ^ (r + 1) = 2 * 2 ^ r := by rw [Nat.pow_succ]; omega
  have fin : Do ((arena_Arena_Cell a4 (c : Int) 1).bind fun t_5 =>
      (thicketlaw11_world_tree_at0_l0 (thicketlaw11_world_tree_at0 k) (c : Int) (r : Int) ((it c).i : Int) (it c).k (it c).s k 1 t_5.1 0 (WA w t_5.2)).bind fun s1 =>
      match s1 with
      | .inl r_ => some r_
      | .inr s2 =>
        ((bif s2.2.1 != (-1) then
          some true
        else
          (bif decide (s2.1 > (s2.2.2.has0.length : Int)) then
            some true
          else
            (mNn (IntKind.wrap .u64 ((r : Int)))).bind fun u1 =>
            (bif decide (s2.1 < w64 (1 * 2 ^ (min (Int.toNat (IntKind.wrap .u64 ((r : Int)))) 64))) then
              some true
            else
              (mNn (IntKind.wrap .u64 ((r : Int)))).bind fun u2 =>
              some (decide (s2.1 > w64 ((w64 (2 * 2 ^ (min (Int.toNat (IntKind.wrap .u64 ((r : Int)))) 64))) - 1))))))).bind fun s3 =>
        (bif s3 then
          some (0, s2.2.2)
        else
          some (s2.1, s2.2.2))) fun res => ∃ a' n', res = (((kids.size + 1 : Nat) : Int), WA w a') ∧ Hp κ n' a' it N L := by
    refine (H4.getc hν (f := 1) (v := kids.hd) hh'.1 hh'.2).bind ?_
    rintro _ ⟨a5, rfl, H5⟩
    refine (hK (WA w a5) _ hh H5).bind ?_
    rintro _ ⟨a6, n6, rfl, H6⟩
    have hlen : (w.has0.length : Int) = (l.length : Int) := by rw [hh, List.length_map]
    refine Do.fb rfl (Do.fb (decide_eq_false (by simp only; rw [hlen]; omega)) ?_)
    have hw : IntKind.wrap .u64 (r : Int) = (r : Int) := u64_id (by omega) (by omega)
    have hnn : mNn (r : Int) = some () := by unfold mNn; rw [if_pos (by omega)]
    have hmin : min (Int.toNat (r : Int)) 64 = r := by omega
    rw [hw, hmin, hpc]
    refine Do.assoc (Do.seq hnn ?_)
    rw [w64_id (x := 1 * ((2 ^ r : Nat) : Int)) (by omega) (by omega), w64_id (x := 2 * ((2 ^ r : Nat) : Int)) (by omega) (by omega), w64_id (x := 2 * ((2 ^ r : Nat) : Int) - 1) (by omega) (by omega)]
    refine Do.fb (decide_eq_false (by simp only; omega)) ?_
    refine Do.assoc (Do.seq hnn ?_)
    refine Do.seq rfl (Do.f (decide_eq_false (by simp only; omega)) ?_)
    exact ⟨_, rfl, a6, n6, rfl, H6⟩
  cases top with
  | true =>
    refine Do.fb rfl ?_
    refine Do.seq rfl (Do.f rfl ?_)
    exact fin
  | false =>
    have hab' : ¬ (it c).lt above := by
      rcases hab with h | h
      · cases h
      · exact h
    refine Do.tb rfl ?_
    refine Do.assoc (Do.seq (before_spec _ _) ?_)
    refine Do.seq rfl (Do.f (decide_eq_false hab') ?_)
    exact fin
theorem tree_kids0 (l : List It) (hl : l.length < 1000) (hnd : (l.map It.i).Nodup) : ∀ (f : F) (R : Nat) (q : Nat), (∀ t ∈ f.trees, SK true t.kids t.r ∧ t.r < R) → (∀ ν ∈ nd f (q : Int), ν ∈ N) → (∀ c ∈ f.cells, it c ∈ l) → Ord it (nd f (q : Int)) → q < κ.C → R ≤ 20 → ∀ (k m : Nat), 1000 + R < k → f.len < m → ∀ (sz i : Nat), i + f.len ≤ 60 → sz + f.size ≤ l.length → ∀ (w : thicketlaw11_world) (n : Nat), w.has0 = l.map ofI → Hp κ n w.a_ it N L →
    Do (thicketlaw11_world_tree_at0_l0 (thicketlaw11_world_tree_at0 k) (q : Int) (R : Int) ((it q).i : Int) (it q).k (it q).s m (sz : Int) f.hd (i : Int) w) fun res => ∃ a' n', res = .inr (((sz + f.size : Nat) : Int), -1, WA w a') ∧ Hp κ n' a' it N L := by
  intro f
  induction f with
  | nil =>
    intro R q hg hN hin ho hq hR k m hk hm sz i hi hsz w n hh H
    obtain ⟨m, rfl⟩ : ∃ q, m = q + 1 := ⟨m - 1, by simp only [F.len, F.trees] at hm; omega⟩
    rw [thicketlaw11_world_tree_at0_l0]
    refine Do.f (by rw [Bool.and_eq_false_iff]; right; rfl) ?_
    exact ⟨_, rfl, w.a_, n, rfl, H⟩
  | cons c r kids rest i1 i2 =>
    intro R q hg hN hin ho hq hR k m hk hm sz i hi hsz w n hh H
    have hlen : (F.cons c r kids rest).len = rest.len + 1 := rfl
    rw [hlen] at hm hi
    simp only [F.size] at hsz
    obtain ⟨m, rfl⟩ : ∃ q, m = q + 1 := ⟨m - 1, by omega⟩
    obtain ⟨k, rfl⟩ : ∃ q, k = q + 1 := ⟨k - 1, by omega⟩
    obtain ⟨hsk, hrR⟩ := hg ⟨c, r, kids⟩ (by simp [F.trees])
    simp only at hsk hrR
    rw [thicketlaw11_world_tree_at0_l0]
    refine Do.t (by rw [Bool.and_eq_true]; exact ⟨decide_eq_true (by omega), bne_iff_ne.2 (by simp only [F.hd]; omega)⟩) ?_
    have hν := hN ⟨c, q, kids.hd, -1, rest.hd, r, 0⟩ (List.mem_cons_self ..)
    have hc : c < κ.C := H.lt hν
    have hck : it c ∈ l := hin c (by rw [F.cells]; exact List.mem_cons_self ..)
    have hoc : ¬ (it c).lt (it q) := ho ⟨c, q, kids.hd, -1, rest.hd, r, 0⟩ (List.mem_cons_self ..) q rfl
    refine (H.get hν (f := 4) (v := (r : Int))).bind ?_
    rintro _ ⟨a0, rfl, H0⟩
    have hkl := (sk_len hsk).1
    have hK := fun (w : thicketlaw11_world) (n : Nat) (hh : w.has0 = l.map ofI) (H : Hp κ n w.a_ it N L) => i1 r c (fun t ht => sk_kids hsk t ht) (fun ν hν => hN ν (List.mem_cons_of_mem _ (List.mem_append_left _ hν))) (fun d hd => hin d (by rw [F.cells]; exact List.mem_cons_of_mem _ (List.mem_append_left _ hd))) (ho.sub fun ν hν => List.mem_cons_of_mem _ (List.mem_append_left _ hν)) hc (by omega) k k (by omega) (by omega) 1 0 (by omega) (by omega) w n hh H
    refine (tree_step0 (k := k) (r := r) (kids := kids) (u := (q : Int)) (wd := rest.hd) l hl hnd (fun ν hν => ?_) hck ⟨by omega, by omega⟩ (by omega) hsk (by omega) (it q) false (Or.inr hoc) (by omega) (fun w n hh H => by
      have := hK w n hh H
      rw [Nat.add_comm 1 kids.size] at this
      exact this) (WA w a0) _ hh H0).bind ?_
    · rcases List.mem_cons.1 hν with rfl | hν
      · exact hN _ (List.mem_cons_self ..)
      · exact hN ν (List.mem_cons_of_mem _ (List.mem_append_left _ hν))
    rintro _ ⟨a1, n1, rfl, H1⟩
    refine Do.f (by
      rw [Bool.or_eq_false_iff]
      exact ⟨by simp only [beq_eq_false_iff_ne]; omega, decide_eq_false (by simp only; omega)⟩) ?_
    have hrN : ∀ ν ∈ nd rest (q : Int), ν ∈ N := fun ν hν => hN ν (List.mem_cons_of_mem _ (List.mem_append_right _ hν))
    have hh' := hd_ok H1 hrN
    refine (H1.getc hν (f := 3) (v := rest.hd) hh'.1 hh'.2).bind ?_
    rintro _ ⟨a2, rfl, H2⟩
    have e1 : w64 ((sz : Int) + ((kids.size + 1 : Nat) : Int)) = ((sz + (kids.size + 1) : Nat) : Int) := by rw [w64_id (by omega) (by omega)]; omega
    have e2 : w64 ((i : Int) + 1) = ((i + 1 : Nat) : Int) := by rw [w64_id (by omega) (by omega)]; omega
    simp only [e1, e2]
    have := i2 R q (fun t ht => hg t (by simp [F.trees, ht])) hrN (fun d hd => hin d (by rw [F.cells]; exact List.mem_cons_of_mem _ (List.mem_append_right _ hd))) (ho.sub fun ν hν => List.mem_cons_of_mem _ (List.mem_append_right _ hν)) hq hR (k + 1) m (by omega) (by omega) (sz + (kids.size + 1)) (i + 1) (by omega) (by omega) (WA w a2) _ hh H2
    have e3 : sz + (kids.size + 1) + rest.size = sz + (F.cons c r kids rest).size := by simp only [F.size]; omega
    rw [e3] at this
    exact this
/-- the law's look at a tree -/
theorem tree_ok0 (l : List It) (hl : l.length < 1000) (hnd : (l.map It.i).Nodup) {t : Tr} {wd : Int} (hN : ∀ ν ∈ t.nd (-1) wd, ν ∈ N) (hg : GT true it t) (hr : t.r ≤ 20) (hsz : t.kids.size + 1 ≤ l.length) (hin : ∀ c ∈ t.cells, it c ∈ l) (k : Nat) (hk : 2000 < k) (w : thicketlaw11_world) (n : Nat) (hh : w.has0 = l.map ofI) (H : Hp κ n w.a_ it N L) (above : It) :
    Do (thicketlaw11_world_tree k w 0 (t.c : Int) (-1) (ofI above) true) fun res => ∃ a' n', res = (((t.kids.size + 1 : Nat) : Int), WA w a') ∧ Hp κ n' a' it N L := by
  obtain ⟨k, rfl⟩ : ∃ q, k = q + 1 := ⟨k - 1, by omega⟩
  have hc : t.c < κ.C := H.lt (hN _ (List.mem_cons_self ..))
  have e0 : thicketlaw11_world_tree (k + 1) w 0 (t.c : Int) (-1) (ofI above) true = thicketlaw11_world_tree_at0 (k + 1) w (t.c : Int) (-1) (ofI above) true := rfl
  rw [e0]
  have hkl := (sk_len hg.sk).1
  exact tree_step0 (k := k) (r := t.r) (kids := t.kids) l hl hnd hN (hin _ (List.mem_cons_self ..)) ⟨by omega, by omega⟩ hr hg.sk hsz above true (Or.inl rfl) (by omega) (fun w n hh H => by
    have := tree_kids0 l hl hnd t.kids t.r t.c (fun s hs => sk_kids hg.sk s hs) (fun ν hν => hN ν (List.mem_cons_of_mem _ hν)) (fun c hc => hin c (List.mem_cons_of_mem _ hc)) hg.ord hc hr k k (by omega) (by omega) 1 0 (by omega) (by omega) w n hh H
    rw [Nat.add_comm 1 t.kids.size] at this
    exact this) w n hh H
theorem shape_l0 (l : List It) (hl : l.length < 1000) (hnd : (l.map It.i).Nodup) : ∀ (f : F) (all last : Int) (i : Nat), (∀ t ∈ f.trees, GT true it t ∧ t.r ≤ 20) → (∀ t ∈ f.trees, last ≤ t.r) → (0 < i → f.trees.Pairwise fun s u => s.r < u.r) → (1 < i → ∀ t ∈ f.trees, last < t.r) → RowOk true f.trees → i + f.len ≤ 40 → 0 ≤ all → all + f.size ≤ l.length → (∀ ν ∈ nd f (-1), ν ∈ N) → (∀ c ∈ f.cells, it c ∈ l) → ∀ (m : Nat), 3000 + f.len < m → ∀ (w : thicketlaw11_world) (n : Nat), w.has0 = l.map ofI → Hp κ n w.a_ it N L →
    Do (thicketlaw11_world_shape_at0_l0 m f.hd all last (i : Int) w) fun res => ∃ a' n', res = .inr (-1, all + f.size, WA w a') ∧ Hp κ n' a' it N L
  | .nil, all, last, i, hg, hlast, hpw, hlt, hrow, hi, h0, hall, hN, hin, m, hm, w, n, hh, H => by
    obtain ⟨m, rfl⟩ : ∃ q, m = q + 1 := ⟨m - 1, by omega⟩
    rw [thicketlaw11_world_shape_at0_l0]
    refine Do.f (by rw [Bool.and_eq_false_iff]; right; rfl) ?_
    exact ⟨_, rfl, w.a_, n, by simp [F.size, F.hd], H⟩
  | .cons c r kids rest, all, last, i, hg, hlast, hpw, hlt, hrow, hi, h0, hall, hN, hin, m, hm, w, n, hh, H => by
    have hlen : (F.cons c r kids rest).len = rest.len + 1 := rfl
    rw [hlen] at hm hi
    simp only [F.size] at hall
    obtain ⟨m, rfl⟩ : ∃ q, m = q + 1 := ⟨m - 1, by omega⟩
    rw [thicketlaw11_world_shape_at0_l0]
    refine Do.t (by rw [Bool.and_eq_true]; exact ⟨decide_eq_true (by omega), bne_iff_ne.2 (by simp only [F.hd]; omega)⟩) ?_
    have hν := hN ⟨c, -1, kids.hd, -1, rest.hd, r, 0⟩ (List.mem_cons_self ..)
    refine (H.get hν (f := 4) (v := (r : Int))).bind ?_
    rintro _ ⟨a0, rfl, H0⟩
    obtain ⟨gt, hr20⟩ := hg ⟨c, r, kids⟩ (by simp [F.trees])
    have htN : ∀ ν ∈ (Tr.mk c r kids).nd (-1) rest.hd, ν ∈ N := fun ν hν => by
      rcases List.mem_cons.1 hν with rfl | hν
      · exact hN _ (List.mem_cons_self ..)
      · exact hN ν (List.mem_cons_of_mem _ (List.mem_append_left _ hν))
    refine (tree_ok0 l hl hnd htN gt hr20 (by simp only; omega) (fun d hd => hin d (by
      rw [F.cells]
      rcases List.mem_cons.1 hd with rfl | hd
      · exact List.mem_cons_self ..
      · exact List.mem_cons_of_mem _ (List.mem_append_left _ hd))) m (by omega) (WA w a0) _ hh H0 ⟨0, 0, 0⟩).bind ?_
    rintro _ ⟨a1, n1, rfl, H1⟩
    have h1 := hlast ⟨c, r, kids⟩ (by simp [F.trees])
    simp only at h1
    refine Do.f (by
      rw [Bool.or_eq_false_iff, Bool.or_eq_false_iff, Bool.and_eq_false_iff]
      refine ⟨⟨by simp only [beq_eq_false_iff_ne]; omega, decide_eq_false (by simp only; omega)⟩, ?_⟩
      by_cases h : 1 < i
      · left
        have := hlt h ⟨c, r, kids⟩ (by simp [F.trees])
        simp only [beq_eq_false_iff_ne] at this ⊢; omega
      · right; exact decide_eq_false (by omega)) ?_
    have hrN : ∀ ν ∈ nd rest (-1), ν ∈ N := fun ν hν => hN ν (List.mem_cons_of_mem _ (List.mem_append_right _ hν))
    have hh' := hd_ok H1 hrN
    refine (H1.getc hν (f := 3) (v := rest.hd) hh'.1 hh'.2).bind ?_
    rintro _ ⟨a2, rfl, H2⟩
    have e1 : w64 (all + ((kids.size + 1 : Nat) : Int)) = all + ((kids.size + 1 : Nat) : Int) := w64_id (by omega) (by omega)
    have e2 : w64 ((i : Int) + 1) = ((i + 1 : Nat) : Int) := by rw [w64_id (by omega) (by omega)]; omega
    simp only [e1, e2]
    simp only [F.trees, RowOk] at hrow
    have := shape_l0 l hl hnd rest (all + ((kids.size + 1 : Nat) : Int)) (r : Int) (i + 1) (fun t ht => hg t (by simp [F.trees, ht])) (fun t ht => by have := hrow.2.1 t ht; omega) (fun _ => hrow.1) (fun h => fun t ht => by
      have := (List.pairwise_cons.1 (hpw (by omega))).1 t ht
      simp only at this; omega) (RowOk.of hrow.1) (by omega) (by omega) (by omega) hrN (fun d hd => hin d (by rw [F.cells]; exact List.mem_cons_of_mem _ (List.mem_append_right _ hd))) m (by omega) (WA w a2) _ hh H2
    refine this.mono ?_
    rintro _ ⟨a3, n3, rfl, H3⟩
    refine ⟨a3, n3, ?_, H3⟩
    simp only [F.size]
    congr 3
    omega
theorem shape_ok0 {k : Nat} {w : thicketlaw11_world} {f : F} (l : List It) (hl : l.length < 1000) (hnd : (l.map It.i).Nodup) (hb : HB true it f) (hfs : f.size = l.length) (hN : ∀ ν ∈ nd f (-1), ν ∈ N) (hin : ∀ c ∈ f.cells, it c ∈ l) (hk : 4000 < k) {n : Nat} (hh : w.has0 = l.map ofI) (hr : w.root0 = f.hd) (H : Hp κ n w.a_ it N L) :
    Do (thicketlaw11_world_shape k w 0) fun r => ∃ a' n', r = (true, WA w a') ∧ Hp κ n' a' it N L := by
  have e0 : thicketlaw11_world_shape k w 0 = thicketlaw11_world_shape_at0 k w := rfl
  rw [e0]
  unfold thicketlaw11_world_shape_at0
  have hR : f.size < 2 ^ 10 := by simp; omega
  have hlen := hb.len hR
  have := shape_l0 l hl hnd f 0 (-1) 0 (fun t ht => ⟨hb.good t ht, by have := hb.lt hR t ht; omega⟩) (fun t ht => by omega) (fun h => by omega) (fun h => by omega) hb.row (by omega) (by omega) (by omega) hN hin k (by omega) w n hh H
  rw [hr]
  refine this.bind ?_
  rintro _ ⟨a1, n1, rfl, H1⟩
  refine Do.tb rfl ?_
  have hlen2 : (w.has0.length : Int) = (l.length : Int) := by rw [hh, List.length_map]
  refine Do.seq rfl ?_
  refine ⟨_, rfl, a1, n1, ?_, H1⟩
  simp only [hlen2, hfs]
  simp
theorem tree_step1 {k : Nat} (l : List It) (hl : l.length < 1000) (hnd : (l.map It.i).Nodup) {c r : Nat} {kids : F} {u wd : Int} (hN : ∀ ν ∈ (Tr.mk c r kids).nd u wd, ν ∈ N) (hin : it c ∈ l) (hu : -1 ≤ u ∧ u < κ.C) (hr : r ≤ 20) (hsk : SK true kids r) (hsz : kids.size + 1 ≤ l.length)
    (above : It) (top : Bool) (hab : top = true ∨ ¬ (it c).lt above) (hk : 1000 < k)
    (hK : ∀ (w : thicketlaw11_world) (n : Nat), w.has1 = l.map ofI → Hp κ n w.a_ it N L → Do (thicketlaw11_world_tree_at1_l0 (thicketlaw11_world_tree_at1 k) (c : Int) (r : Int) ((it c).i : Int) (it c).k (it c).s k 1 kids.hd 0 w) fun res => ∃ a' n', res = .inr (((kids.size + 1 : Nat) : Int), -1, WA w a') ∧ Hp κ n' a' it N L)
    (w : thicketlaw11_world) (n : Nat) (hh : w.has1 = l.map ofI) (H : Hp κ n w.a_ it N L) :
    Do (thicketlaw11_world_tree_at1 (k + 1) w (c : Int) u (ofI above) top) fun res => ∃ a' n', res = (((kids.size + 1 : Nat) : Int), WA w a') ∧ Hp κ n' a' it N L := by
  have hν := hN _ (List.mem_cons_self ..)
  have hkN : ∀ ν ∈ nd kids c, ν ∈ N := fun ν hν => hN ν (List.mem_cons_of_mem _ hν)
  rw [thicketlaw11_world_tree_at1]
  have e0 : thicketlaw11_world_node k w 1 (c : Int) = thicketlaw11_world_node_at1 k w (c : Int) := rfl
  rw [e0]
  refine (node_at_ok1 (k := k) w l hh hl hν hnd hin H hk).bind ?_
  rintro _ ⟨a1, n1, rfl, H1⟩
  refine (H1.get hν (f := 4) (v := (r : Int))).bind ?_
  rintro _ ⟨a2, rfl, H2⟩
  refine Do.fb rfl (Do.fb (decide_eq_false (by omega)) (Do.fb (decide_eq_false (by simp only; omega)) ?_))
  refine Do.assoc ((H2.getc hν (f := 0) (v := u) hu.1 hu.2).bind ?_)
  rintro _ ⟨a3, rfl, H3⟩
  refine Do.fb (by simp) ?_
  refine Do.assoc ((H3.getc hν (f := 2) (v := -1) (by omega) (by omega)).bind ?_)
  rintro _ ⟨a4, rfl, H4⟩
  refine Do.fb (by simp) ?_
  have hh' := hd_ok H4 hkN
  obtain ⟨s1, s2, _⟩ := hsk.size
  have hp20 : 2 ^ r ≤ 2 ^ 20 := Nat.pow_le_pow_right (by decide) hr
  have h20 : (2 : Nat) ^ 20 = 1048576 := by decide
  have hpc : ((2 : Int) ^ r) = ((2 ^ r : Nat) : Int) := by norm_cast
  have hps : 2 ^ (r + 1) = 2 * 2 ^ r := by rw [Nat.pow_succ]; omega
  have fin : Do ((arena_Arena_Cell a4 (c : Int) 1).bind fun t_5 =>
      (thicketlaw11_world_tree_at1_l0 (thicketlaw11_world_tree_at1 k) (c : Int) (r : Int) ((it c).i : Int) (it c).k (it c).s k 1 t_5.1 0 (WA w t_5.2)).bind fun s1 =>
      match s1 with
      | .inl r_ => some r_
      | .inr s2 =>
        ((bif s2.2.1 != (-1) then
          some true
        else
          (bif decide (s2.1 > (s2.2.2.has1.length : Int)) then
            some true
          else
            (mNn (IntKind.wrap .u64 ((r : Int)))).bind fun u1 =>
            (bif decide (s2.1 < w64 (1 * 2 ^ (min (Int.toNat (IntKind.wrap .u64 ((r : Int)))) 64))) then
              some true
            else
              (mNn (IntKind.wrap .u64 ((r : Int)))).bind fun u2 =>
              some (decide (s2.1 > w64 ((w64 (2 * 2 ^ (min (Int.toNat (IntKind.wrap .u64 ((r : Int)))) 64))) - 1))))))).bind fun s3 =>
        (bif s3 then
          some (0, s2.2.2)
        else
          some (s2.1, s2.2.2))) fun res => ∃ a' n', res = (((kids.size + 1 : Nat) : Int), WA w a') ∧ Hp κ n' a' it N L := by
    refine (H4.getc hν (f := 1) (v := kids.hd) hh'.1 hh'.2).bind ?_
    rintro _ ⟨a5, rfl, H5⟩
    refine (hK (WA w a5) _ hh H5).bind ?_
    rintro _ ⟨a6, n6, rfl, H6⟩
    have hlen : (w.has1.length : Int) = (l.length : Int) := by rw [hh, List.length_map]
    refine Do.fb rfl (Do.fb (decide_eq_false (by simp only; rw [hlen]; omega)) ?_)
    have hw : IntKind.wrap .u64 (r : Int) = (r : Int) := u64_id (by omega) (by omega)
    have hnn : mNn (r : Int) = some () := by unfold mNn; rw [if_pos (by omega)]
    have hmin : min (Int.toNat (r : Int)) 64 = r := by omega
    rw [hw, hmin, hpc]
    refine Do.assoc (Do.seq hnn ?_)
    rw [w64_id (x := 1 * ((2 ^ r : Nat) : Int)) (by omega) (by omega), w64_id (x := 2 * ((2 ^ r : Nat) : Int)) (by omega) (by omega), w64_id (x := 2 * ((2 ^ r : Nat) : Int) - 1) (by omega) (by omega)]
    refine Do.fb (decide_eq_false (by simp only; omega)) ?_
    refine Do.assoc (Do.seq hnn ?_)
    refine Do.seq rfl (Do.f (decide_eq_false (by simp only; omega)) ?_)
    exact ⟨_, rfl, a6, n6, rfl, H6⟩
  cases top with
  | true =>
    refine Do.fb rfl ?_
    refine Do.seq rfl (Do.f rfl ?_)
    exact fin
  | false =>
    have hab' : ¬ (it c).lt above := by
      rcases hab with h | h
      · cases h
      · exact h
    refine Do.tb rfl ?_
    refine Do.assoc (Do.seq (before_spec _ _) ?_)
    refine Do.seq rfl (Do.f (decide_eq_false hab') ?_)
    exact fin
theorem tree_kids1 (l : List It) (hl : l.length < 1000) (hnd : (l.map It.i).Nodup) : ∀ (f : F) (R : Nat) (q : Nat), (∀ t ∈ f.trees, SK true t.kids t.r ∧ t.r < R) → (∀ ν ∈ nd f (q : Int), ν ∈ N) → (∀ c ∈ f.cells, it c ∈ l) → Ord it (nd f (q : Int)) → q < κ.C → R ≤ 20 → ∀ (k m : Nat), 1000 + R < k → f.len < m → ∀ (sz i : Nat), i + f.len ≤ 60 → sz + f.size ≤ l.length → ∀ (w : thicketlaw11_world) (n : Nat), w.has1 = l.map ofI → Hp κ n w.a_ it N L →
    Do (thicketlaw11_world_tree_at1_l0 (thicketlaw11_world_tree_at1 k) (q : Int) (R : Int) ((it q).i : Int) (it q).k (it q).s m (sz : Int) f.hd (i : Int) w) fun res => ∃ a' n', res = .inr (((sz + f.size : Nat) : Int), -1, WA w a') ∧ Hp κ n' a' it N L := by
  intro f
  induction f with
  | nil =>
    intro R q hg hN hin ho hq hR k m hk hm sz i hi hsz w n hh H
    obtain ⟨m, rfl⟩ : ∃ q, m = q + 1 := ⟨m - 1, by simp only [F.len, F.trees] at hm; omega⟩
    rw [thicketlaw11_world_tree_at1_l0]
    refine Do.f (by rw [Bool.and_eq_false_iff]; right; rfl) ?_
    exact ⟨_, rfl, w.a_, n, rfl, H⟩
  | cons c r kids rest i1 i2 =>
    intro R q hg hN hin ho hq hR k m hk hm sz i hi hsz w n hh H
    have hlen : (F.cons c r kids rest).len = rest.len + 1 := rfl
    rw [hlen] at hm hi
    simp only [F.size] at hsz
    obtain ⟨m, rfl⟩ : ∃ q, m = q + 1 := ⟨m - 1, by omega⟩
    obtain ⟨k, rfl⟩ : ∃ q, k = q + 1 := ⟨k - 1, by omega⟩
    obtain ⟨hsk, hrR⟩ := hg ⟨c, r, kids⟩ (by simp [F.trees])
    simp only at hsk hrR
    rw [thicketlaw11_world_tree_at1_l0]
    refine Do.t (by rw [Bool.and_eq_true]; exact ⟨decide_eq_true (by omega), bne_iff_ne.2 (by simp only [F.hd]; omega)⟩) ?_
    have hν := hN ⟨c, q, kids.hd, -1, rest.hd, r, 0⟩ (List.mem_cons_self ..)
    have hc : c < κ.C := H.lt hν
    have hck : it c ∈ l := hin c (by rw [F.cells]; exact List.mem_cons_self ..)
    have hoc : ¬ (it c).lt (it q) := ho ⟨c, q, kids.hd, -1, rest.hd, r, 0⟩ (List.mem_cons_self ..) q rfl
    refine (H.get hν (f := 4) (v := (r : Int))).bind ?_
    rintro _ ⟨a0, rfl, H0⟩
    have hkl := (sk_len hsk).1
    have hK := fun (w : thicketlaw11_world) (n : Nat) (hh : w.has1 = l.map ofI) (H : Hp κ n w.a_ it N L) => i1 r c (fun t ht => sk_kids hsk t ht) (fun ν hν => hN ν (List.mem_cons_of_mem _ (List.mem_append_left _ hν))) (fun d hd => hin d (by rw [F.cells]; exact List.mem_cons_of_mem _ (List.mem_append_left _ hd))) (ho.sub fun ν hν => List.mem_cons_of_mem _ (List.mem_append_left _ hν)) hc (by omega) k k (by omega) (by omega) 1 0 (by omega) (by omega) w n hh H
    refine (tree_step1 (k := k) (r := r) (kids := kids) (u := (q : Int)) (wd := rest.hd) l hl hnd (fun ν hν => ?_) hck ⟨by omega, by omega⟩ (by omega) hsk (by omega) (it q) false (Or.inr hoc) (by omega) (fun w n hh H => by
      have := hK w n hh H
      rw [Nat.add_comm 1 kids.size] at this
      exact this) (WA w a0) _ hh H0).bind ?_
    · rcases List.mem_cons.1 hν with rfl | hν
      · exact hN _ (List.mem_cons_self ..)
      · exact hN ν (List.mem_cons_of_mem _ (List.mem_append_left _ hν))
    rintro _ ⟨a1, n1, rfl, H1⟩
    refine Do.f (by
      rw [Bool.or_eq_false_iff]
      exact ⟨by simp only [beq_eq_false_iff_ne]; omega, decide_eq_false (by simp only; omega)⟩) ?_
    have hrN : ∀ ν ∈ nd rest (q : Int), ν ∈ N := fun ν hν => hN ν (List.mem_cons_of_mem _ (List.mem_append_right _ hν))
    have hh' := hd_ok H1 hrN
    refine (H1.getc hν (f := 3) (v := rest.hd) hh'.1 hh'.2).bind ?_
    rintro _ ⟨a2, rfl, H2⟩
    have e1 : w64 ((sz : Int) + ((kids.size + 1 : Nat) : Int)) = ((sz + (kids.size + 1) : Nat) : Int) := by rw [w64_id (by omega) (by omega)]; omega
    have e2 : w64 ((i : Int) + 1) = ((i + 1 : Nat) : Int) := by rw [w64_id (by omega) (by omega)]; omega
    simp only [e1, e2]
    have := i2 R q (fun t ht => hg t (by simp [F.trees, ht])) hrN (fun d hd => hin d (by rw [F.cells]; exact List.mem_cons_of_mem _ (List.mem_append_right _ hd))) (ho.sub fun ν hν => List.mem_cons_of_mem _ (List.mem_append_right _ hν)) hq hR (k + 1) m (by omega) (by omega) (sz + (kids.size + 1)) (i + 1) (by omega) (by omega) (WA w a2) _ hh H2
    have e3 : sz + (kids.size + 1) + rest.size = sz + (F.cons c r kids rest).size := by simp only [F.size]; omega
    rw [e3] at this
    exact this
/-- the law's look at a tree -/
theorem tree_ok1 (l : List It) (hl : l.length < 1000) (hnd : (l.map It.i).Nodup) {t : Tr} {wd : Int} (hN : ∀ ν ∈ t.nd (-1) wd, ν ∈ N) (hg : GT true it t) (hr : t.r ≤ 20) (hsz : t.kids.size + 1 ≤ l.length) (hin : ∀ c ∈ t.cells, it c ∈ l) (k : Nat) (hk : 2000 < k) (w : thicketlaw11_world) (n : Nat) (hh : w.has1 = l.map ofI) (H : Hp κ n w.a_ it N L) (above : It) :
    Do (thicketlaw11_world_tree k w 1 (t.c : Int) (-1) (ofI above) true) fun res => ∃ a' n', res = (((t.kids.size + 1 : Nat) : Int), WA w a') ∧ Hp κ n' a' it N L := by
  obtain ⟨k, rfl⟩ : ∃ q, k = q + 1 := ⟨k - 1, by omega⟩
  have hc : t.c < κ.C := H.lt (hN _ (List.mem_cons_self ..))
  have e0 : thicketlaw11_world_tree (k + 1) w 1 (t.c : Int) (-1) (ofI above) true = thicketlaw11_world_tree_at1 (k + 1) w (t.c : Int) (-1) (ofI above) true := rfl
  rw [e0]
  have hkl := (sk_len hg.sk).1
  exact tree_step1 (k := k) (r := t.r) (kids := t.kids) l hl hnd hN (hin _ (List.mem_cons_self ..)) ⟨by omega, by omega⟩ hr hg.sk hsz above true (Or.inl rfl) (by omega) (fun w n hh H => by
    have := tree_kids1 l hl hnd t.kids t.r t.c (fun s hs => sk_kids hg.sk s hs) (fun ν hν => hN ν (List.mem_cons_of_mem _ hν)) (fun c hc => hin c (List.mem_cons_of_mem _ hc)) hg.ord hc hr k k (by omega) (by omega) 1 0 (by omega) (by omega) w n hh H
    rw [Nat.add_comm 1 t.kids.size] at this
    exact this) w n hh H
theorem shape_l1 (l : List It) (hl : l.length < 1000) (hnd : (l.map It.i).Nodup) : ∀ (f : F) (all last : Int) (i : Nat), (∀ t ∈ f.trees, GT true it t ∧ t.r ≤ 20) → (∀ t ∈ f.trees, last ≤ t.r) → (0 < i → f.trees.Pairwise fun s u => s.r < u.r) → (1 < i → ∀ t ∈ f.trees, last < t.r) → RowOk true f.trees → i + f.len ≤ 40 → 0 ≤ all → all + f.size ≤ l.length → (∀ ν ∈ nd f (-1), ν ∈ N) → (∀ c ∈ f.cells, it c ∈ l) → ∀ (m : Nat), 3000 + f.len < m → ∀ (w : thicketlaw11_world) (n : Nat), w.has1 = l.map ofI → Hp κ n w.a_ it N L →
    Do (thicketlaw11_world_shape_at1_l0 m f.hd all last (i : Int) w) fun res => ∃ a' n', res = .inr (-1, all + f.size, WA w a') ∧ Hp κ n' a' it N L
  | .nil, all, last, i, hg, hlast, hpw, hlt, hrow, hi, h0, hall, hN, hin, m, hm, w, n, hh, H => by
    obtain ⟨m, rfl⟩ : ∃ q, m = q + 1 := ⟨m - 1, by omega⟩
    rw [thicketlaw11_world_shape_at1_l0]
    refine Do.f (by rw [Bool.and_eq_false_iff]; right; rfl) ?_
    exact ⟨_, rfl, w.a_, n, by simp [F.size, F.hd], H⟩
  | .cons c r kids rest, all, last, i, hg, hlast, hpw, hlt, hrow, hi, h0, hall, hN, hin, m, hm, w, n, hh, H => by
    have hlen : (F.cons c r kids rest).len = rest.len + 1 := rfl
    rw [hlen] at hm hi
    simp only [F.size] at hall
    obtain ⟨m, rfl⟩ : ∃ q, m = q + 1 := ⟨m - 1, by omega⟩
    rw [thicketlaw11_world_shape_at1_l0]
    refine Do.t (by rw [Bool.and_eq_true]; exact ⟨decide_eq_true (by omega), bne_iff_ne.2 (by simp only [F.hd]; omega)⟩) ?_
    have hν := hN ⟨c, -1, kids.hd, -1, rest.hd, r, 0⟩ (List.mem_cons_self ..)
    refine (H.get hν (f := 4) (v := (r : Int))).bind ?_
    rintro _ ⟨a0, rfl, H0⟩
    obtain ⟨gt, hr20⟩ := hg ⟨c, r, kids⟩ (by simp [F.trees])
    have htN : ∀ ν ∈ (Tr.mk c r kids).nd (-1) rest.hd, ν ∈ N := fun ν hν => by
      rcases List.mem_cons.1 hν with rfl | hν
      · exact hN _ (List.mem_cons_self ..)
      · exact hN ν (List.mem_cons_of_mem _ (List.mem_append_left _ hν))
    refine (tree_ok1 l hl hnd htN gt hr20 (by simp only; omega) (fun d hd => hin d (by
      rw [F.cells]
      rcases List.mem_cons.1 hd with rfl | hd
      · exact List.mem_cons_self ..
      · exact List.mem_cons_of_mem _ (List.mem_append_left _ hd))) m (by omega) (WA w a0) _ hh H0 ⟨0, 0, 0⟩).bind ?_
    rintro _ ⟨a1, n1, rfl, H1⟩
    have h1 := hlast ⟨c, r, kids⟩ (by simp [F.trees])
    simp only at h1
    refine Do.f (by
      rw [Bool.or_eq_false_iff, Bool.or_eq_false_iff, Bool.and_eq_false_iff]
      refine ⟨⟨by simp only [beq_eq_false_iff_ne]; omega, decide_eq_false (by simp only; omega)⟩, ?_⟩
      by_cases h : 1 < i
      · left
        have := hlt h ⟨c, r, kids⟩ (by simp [F.trees])
        simp only [beq_eq_false_iff_ne] at this ⊢; omega
      · right; exact decide_eq_false (by omega)) ?_
    have hrN : ∀ ν ∈ nd rest (-1), ν ∈ N := fun ν hν => hN ν (List.mem_cons_of_mem _ (List.mem_append_right _ hν))
    have hh' := hd_ok H1 hrN
    refine (H1.getc hν (f := 3) (v := rest.hd) hh'.1 hh'.2).bind ?_
    rintro _ ⟨a2, rfl, H2⟩
    have e1 : w64 (all + ((kids.size + 1 : Nat) : Int)) = all + ((kids.size + 1 : Nat) : Int) := w64_id (by omega) (by omega)
    have e2 : w64 ((i : Int) + 1) = ((i + 1 : Nat) : Int) := by rw [w64_id (by omega) (by omega)]; omega
    simp only [e1, e2]
    simp only [F.trees, RowOk] at hrow
    have := shape_l1 l hl hnd rest (all + ((kids.size + 1 : Nat) : Int)) (r : Int) (i + 1) (fun t ht => hg t (by simp [F.trees, ht])) (fun t ht => by have := hrow.2.1 t ht; omega) (fun _ => hrow.1) (fun h => fun t ht => by
      have := (List.pairwise_cons.1 (hpw (by omega))).1 t ht
      simp only at this; omega) (RowOk.of hrow.1) (by omega) (by omega) (by omega) hrN (fun d hd => hin d (by rw [F.cells]; exact List.mem_cons_of_mem _ (List.mem_append_right _ hd))) m (by omega) (WA w a2) _ hh H2
    refine this.mono ?_
    rintro _ ⟨a3, n3, rfl, H3⟩
    refine ⟨a3, n3, ?_, H3⟩
    simp only [F.size]
    congr 3
    omega
theorem shape_ok1 {k : Nat} {w : thicketlaw11_world} {f : F} (l : List It) (hl : l.length < 1000) (hnd : (l.map It.i).Nodup) (hb : HB true it f) (hfs : f.size = l.length) (hN : ∀ ν ∈ nd f (-1), ν ∈ N) (hin : ∀ c ∈ f.cells, it c ∈ l) (hk : 4000 < k) {n : Nat} (hh : w.has1 = l.map ofI) (hr : w.root1 = f.hd) (H : Hp κ n w.a_ it N L) :
    Do (thicketlaw11_world_shape k w 1) fun r => ∃ a' n', r = (true, WA w a') ∧ Hp κ n' a' it N L := by
  have e0 : thicketlaw11_world_shape k w 1 = thicketlaw11_world_shape_at1 k w := rfl
  rw [e0]
  unfold thicketlaw11_world_shape_at1
  have hR : f.size < 2 ^ 10 := by simp; omega
  have hlen := hb.len hR
  have := shape_l1 l hl hnd f 0 (-1) 0 (fun t ht => ⟨hb.good t ht, by have := hb.lt hR t ht; omega⟩) (fun t ht => by omega) (fun h => by omega) (fun h => by omega) hb.row (by omega) (by omega) (by omega) hN hin k (by omega) w n hh H
  rw [hr]
  refine this.bind ?_
  rintro _ ⟨a1, n1, rfl, H1⟩
  refine Do.tb rfl ?_
  have hlen2 : (w.has1.length : Int) = (l.length : Int) := by rw [hh, List.length_map]
  refine Do.seq rfl ?_
  refine ⟨_, rfl, a1, n1, ?_, H1⟩
  simp only [hlen2, hfs]
  simp
end
end Go.Proofs.YtmidmkinclmbdaaGreat
