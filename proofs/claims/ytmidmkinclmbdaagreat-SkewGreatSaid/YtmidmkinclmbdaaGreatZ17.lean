/-
  The plain law of (skew) binomial heaps: Great.
-/
import Derived.Test.YtmidmkinclmbdaaGreatZ16
set_option linter.unusedVariables false
set_option linter.unusedSimpArgs false
set_option maxRecDepth 10000
namespace Go.Proofs.YtmidmkinclmbdaaGreat
open Go.Th

/-- a world of one heap whose items are not written down -/
def GW (w : thicketlaw11_world) (i : Int) (l : List It) : Prop := ∃ f it, Wd 1400 w.a_ w.root0 (-1) (l.map ofI) [] i f .nil it l []
theorem great_l0 (how : Int) (n : Nat) (hn : n ≤ 600) (ks : List Int) : ∀ (d i : Nat) (w : thicketlaw11_world) (l : List It) (k : Nat), i + d = n → GW w (i : Int) l → l.length = i → (∀ x ∈ l, -2000 ≤ x.k) → 300000 + d < k →
    Do (thicketlaw11_SkewGreat_l0 how (n : Int) ks k (i : Int) w) fun r => ∃ w' l', r = .inr w' ∧ GW w' (n : Int) l' ∧ l'.length = n ∧ (∀ x ∈ l', -2000 ≤ x.k) := by
  intro d
  induction d with
  | zero =>
    intro i w l k hi G hl hb hk
    obtain ⟨k, rfl⟩ : ∃ q, k = q + 1 := ⟨k - 1, by omega⟩
    rw [thicketlaw11_SkewGreat_l0]
    refine Do.f (decide_eq_false (by omega)) ?_
    have : i = n := by omega
    subst this
    exact ⟨_, rfl, w, l, rfl, G, hl, hb⟩
  | succ d ih =>
    intro i w l k hi G hl hb hk
    obtain ⟨k, rfl⟩ : ∃ q, k = q + 1 := ⟨k - 1, by omega⟩
    rw [thicketlaw11_SkewGreat_l0]
    refine Do.t (decide_eq_true (by omega)) ?_
    obtain ⟨f, it, W⟩ := G
    have hfs := W.fs
    obtain ⟨hp, hf, hg, e0, e1, i0, i1, p0, p1, ser, sb, nx0⟩ := W
    refine Do.bind (P := fun s2 => ∃ w' l', s2 = .inr w' ∧ GW w' ((i : Int) + 1) l' ∧ l'.length = i + 1 ∧ ∀ x ∈ l', -2000 ≤ x.k) ?_ (by
      rintro _ ⟨w', l', rfl, G', h1, h2⟩
      show Do (thicketlaw11_SkewGreat_l0 how (n : Int) ks k (w64 ((i : Int) + 1)) w') _
      rw [w64_id (by omega) (by omega)]
      exact ih (i + 1) w' l' k (by omega) G' h1 h2 (by omega))
    refine (within (n := how) (lo := 0) (hi := 3) (by omega) (by omega) (by omega)).bind ?_
    rintro j ⟨hj0, hj1⟩
    have ej : ∃ x, mIdx ([(i : Int), w64 (0 - (i : Int)), Int.tmod (w64 ((i : Int) * 389)) 601, 5] : List Int) j = some x ∧ -2000 ≤ x := by
      have hj : j = 0 ∨ j = 1 ∨ j = 2 ∨ j = 3 := by omega
      rcases hj with rfl | rfl | rfl | rfl
      · exact ⟨_, rfl, by omega⟩
      · exact ⟨_, rfl, by rw [w64_id (by omega) (by omega)]; omega⟩
      · have := tmod_bd (w64 ((i : Int) * 389)) 601 (by omega)
        exact ⟨_, rfl, by omega⟩
      · exact ⟨_, rfl, by omega⟩
    obtain ⟨x, ex, hx⟩ := ej
    refine Do.seq ex ?_
    refine Do.bind (P := fun key => -2000 ≤ key) (Do.if (fun hc => ?_) (fun _ => ⟨_, rfl, hx⟩)) ?_
    · have hlt : i < ks.length := by have := of_decide_eq_true hc; omega
      have ek : mIdx ks (i : Int) = some ks[i] := by rw [mIdx_nat, List.getElem?_eq_getElem hlt]
      have := tmod_bd ks[i] 1000 (by omega)
      exact Do.seq ek ⟨_, rfl, by omega⟩
    intro key hkey
    have hlen : (lay it (nd f (-1) ++ nd .nil (-1)) ++ []).length < (bs 1400 w.a_).C := by
      rw [List.append_nil, lay_length, List.length_append, nd_size, nd_size]; simp only [bs, F.size]; omega
    refine (item_New_spec hp hlen key (i : Int)).bind ?_
    rintro _ ⟨ii, a1, rfl, hii, H1⟩
    refine Do.seq rfl (Do.seq rfl ?_)
    have H2 : Hp (bs 1400 w.a_) 3 a1 it (nd f (-1) ++ nd .nil (-1)) ((ii, (It.mk ii key i).cell (-1)) :: []) := Ar.p H1 List.perm_middle.symm
    have H2' := H2.rebase
    rw [e0]
    refine (push_spec (k := k) (x := It.mk ii key i) H2' hf (by omega) (by rw [nd_size]; simp only [bs, List.length_nil, F.size]; omega) (by omega)).bind ?_
    rintro _ ⟨f', it', a2, rfl, H3, hb', hcp, hcg⟩
    have hs := H3.span
    refine Do.fb rfl (Do.fb rfl ?_)
    have hw : w64 ((i : Int) + 1) = ((i + 1 : Nat) : Int) := by rw [w64_id (by omega) (by omega)]; omega
    rw [hw]
    refine Do.assoc ((cost_spec (k := k) (thicketlaw11_world.mk a2 _ _ _ _ _ _ _) a1.m_.steps _ (i + 1) (by omega) (by omega) hs.1 hs.2.1 (Or.inl hs.2.2.1) hs.2.2.2).bind ?_)
    rintro _ ⟨sp', mo', rfl⟩
    refine Do.seq rfl (Do.f rfl ?_)
    refine ⟨_, rfl, _, l ++ [⟨ii, key, i⟩], rfl, ⟨f', it', ?_⟩, by simp [hl], ?_⟩
    · refine ⟨H3.rebase, hb', HB.nil, rfl, rfl, rfl, rfl, ?_, .refl _, ?_, ?_, by omega⟩
      · exact (List.perm_append_singleton _ l).trans ((p0.cons _).trans hcp.symm)
      · have h3 : ((l ++ [(⟨ii, key, i⟩ : It)] ++ []).map It.s).Perm ((i : Int) :: (l ++ []).map It.s) := by
          refine spm fun p => ?_
          simp only [List.map_append, List.map_cons, List.map_nil, List.count_append, List.count_cons, List.count_nil]; omega
        refine h3.nodup_iff.2 (List.nodup_cons.2 ⟨fun h => ?_, ser⟩)
        obtain ⟨y, hy, e⟩ := List.mem_map.1 h
        have := (sb y hy).2
        omega
      · intro x hx
        simp only [List.mem_append, List.mem_singleton, List.not_mem_nil, or_false] at hx
        rcases hx with hx | rfl
        · have := sb x (by simp [hx]); omega
        · simp only; omega
    · intro y hy
      rcases List.mem_append.1 hy with hy | hy
      · exact hb y hy
      · simp at hy; subst hy; exact hkey
theorem great_l1 (ks : List Int) (nx : Int) : ∀ (d : Nat) (w : thicketlaw11_world) (l : List It) (v v1 : Int) (k : Nat), d ≤ 600 → GW w nx l → l.length = d → (∀ x ∈ l, Ahead v v1 x) → 300000 + d < k →
    Do (thicketlaw11_SkewGreat_l1 ks k (d : Int) v v1 w) fun r => ∃ w', r = .inr w' ∧ GW w' nx [] := by
  intro d
  induction d with
  | zero =>
    intro w l v v1 k hd G hl ha hk
    obtain ⟨k, rfl⟩ : ∃ q, k = q + 1 := ⟨k - 1, by omega⟩
    rw [thicketlaw11_SkewGreat_l1]
    refine Do.f (decide_eq_false (by omega)) ?_
    have := List.eq_nil_of_length_eq_zero hl
    subst this
    exact ⟨_, rfl, w, rfl, G⟩
  | succ d ih =>
    intro w l v v1 k hd G hl ha hk
    obtain ⟨k, rfl⟩ : ∃ q, k = q + 1 := ⟨k - 1, by omega⟩
    rw [thicketlaw11_SkewGreat_l1]
    refine Do.t (decide_eq_true (by omega)) ?_
    obtain ⟨f, it, W⟩ := G
    have hfs := W.fs
    have W0 := W
    obtain ⟨hp, hf, hg, e0, e1, i0, i1, p0, p1, ser, sb, nx0⟩ := W
    have hfn : f ≠ .nil := fun e => by
      subst e
      simp only [F.size] at hfs
      omega
    have hs0 := hp.span
    refine Do.seq rfl (Do.seq rfl ?_)
    rw [e0]
    refine (pop_spec (k := k) hp hf hfn (by omega) (by omega)).bind ?_
    rintro _ ⟨c, f', it', a1, rfl, H1, hb', hcp, hout, hcin, hmin⟩
    have hs := H1.span
    refine Do.assoc ((cost_spec (k := k) (thicketlaw11_world.mk a1 _ _ _ _ _ _ _) w.a_.m_.steps 1 (d + 1) (by omega) (by omega) hs0.1 hs.2.1 (Or.inr ⟨(by have := hs.2.2.1; simp only [bs] at this ⊢; omega), by omega, rfl⟩) hs.2.2.2).bind ?_)
    rintro _ ⟨sp', mo', rfl⟩
    refine Do.fb rfl ?_
    refine Do.seq rfl (Do.f (by simp) ?_)
    have hcl : it c ∈ l := p0.mem_iff.2 (List.mem_map_of_mem hcin)
    have H1' : Ar _ _ a1 (((it c).i, (it c).cell (-1)) :: (lay it' (nd f' (-1) ++ nd .nil (-1)) ++ [])) := Ar.p H1 List.perm_middle
    refine (entry_spec H1' (List.mem_cons_self ..)).bind ?_
    rintro _ ⟨a2, rfl, H2⟩
    refine Do.assoc (Do.seq (refbefore (ha _ hcl)) ?_)
    refine Do.fb rfl ?_
    refine Do.assoc ((Ar.give H2).bind ?_)
    rintro _ ⟨a3, rfl, H3⟩
    refine Do.seq rfl (Do.f rfl ?_)
    obtain ⟨p, q, e⟩ := List.append_of_mem hcl
    have hmin' : ∀ y ∈ l, ¬ y.lt (it c) := fun y hy => by
      obtain ⟨d, hd, ed⟩ := W0.cell hy
      rw [← ed]; exact hmin d hd
    have hl1 : (it c :: (p ++ q)).Perm (it c :: f'.cells.map it') := by
      refine List.Perm.trans ?_ (p0.trans ?_)
      · rw [e]; exact List.perm_middle.symm
      · exact hcp
    have hsub := W0.sub (l' := p ++ q) (m' := []) ⟨[(it c).s], by
      refine spm fun P => ?_
      rw [e]
      simp only [List.map_append, List.map_cons, List.map_nil, List.count_append, List.count_cons, List.count_nil]; omega⟩
    have hser : (l.map It.s).Nodup := by simpa using ser
    have hlen : p.length + q.length + 1 = d + 1 := by
      have := congrArg List.length e
      simp at this; omega
    have ew : w64 ((((d + 1 : Nat)) : Int) - 1) = (d : Int) := by rw [w64_id (by omega) (by omega)]; omega
    rw [ew]
    exact ih _ (p ++ q) (it c).k (it c).s k (by omega) ⟨f', it', ⟨Hp.rebase H3, hb', HB.nil, rfl, rfl, rfl, rfl, List.Perm.cons_inv hl1, .refl _, hsub.1, hsub.2, nx0⟩⟩ (by simp; omega) (ahead_rest hser e hmin') (by omega)
theorem great_plain (n how : Int) (keys : List Int) : ∃ k, thicketlaw11_SkewGreat k n how keys = some true := by
  refine ⟨400000, ?_⟩
  have : Do (thicketlaw11_SkewGreat 400000 n how keys) fun r => r = true := by
    unfold thicketlaw11_SkewGreat
    refine (fresh_ok (C := 1400) (by omega)).bind ?_
    rintro w ⟨⟨f, g, it, W⟩, h0⟩
    refine (within (n := n) (lo := 1) (hi := 600) (by omega) (by omega) (by omega)).bind ?_
    rintro c ⟨hc0, hc1⟩
    obtain ⟨c, rfl⟩ : ∃ d : Nat, c = (d : Int) := ⟨c.toNat, by omega⟩
    have hf : f = .nil := by
      have := W.fs
      cases f with
      | nil => rfl
      | cons => simp [F.size] at this
    have hg : g = .nil := by
      have := W.gs
      cases g with
      | nil => rfl
      | cons => simp [F.size] at this
    subst hf hg
    have G : GW w ((0 : Nat) : Int) [] := ⟨.nil, it, ⟨W.hp, W.hf, W.hg, W.e0, rfl, rfl, rfl, W.p0, W.p1, by simp, by simp, by omega⟩⟩
    refine (great_l0 how c (by omega) keys c 0 w [] 400000 (by omega) G rfl (by simp) (by omega)).bind ?_
    rintro _ ⟨w1, l1, rfl, G1, h1, h2⟩
    refine (great_l1 keys (c : Int) c w1 l1 (-9223372036854775808) (-1) 400000 (by omega) G1 h1 (fun x hx => Or.inl (by have := h2 x hx; omega)) (by omega)).bind ?_
    rintro _ ⟨w2, rfl, f2, it2, W2⟩
    have hroot : w2.root0 = -1 := by
      have hfs := W2.fs
      rw [W2.e0]
      cases f2 with
      | nil => rfl
      | cons => simp [F.size] at hfs
    refine Do.tb (by rw [hroot]; rfl) ?_
    refine Do.assoc (Do.seq (empty_len W2) (Do.tb rfl ?_))
    rw [known_true]
    exact ⟨_, rfl, rfl⟩
  obtain ⟨r, e, rfl⟩ := this
  exact e
end Go.Proofs.YtmidmkinclmbdaaGreat
