/-
  The plain law of (skew) binomial heaps: an item rises.
-/
import Derived.Test.YtmidmkinclmbdaaGreatZ6
set_option linter.unusedVariables false
set_option linter.unusedSimpArgs false
set_option maxRecDepth 10000
namespace Go.Proofs.YtmidmkinclmbdaaGreat
open Go.Th

def UpOK (M : List Nd) : Prop := ∀ ν ∈ M, 0 ≤ ν.rank ∧ (ν.up = -1 ∨ ∃ μ ∈ M, ν.up = (μ.c : Int) ∧ ν.rank < μ.rank)
structure RI (it : Nat → It) (M : List Nd) (c : Nat) (any : Bool) : Prop where
  rest : ∀ ν ∈ M, ν.c ≠ c → ∀ q : Nat, ν.up = (q : Int) → q ≠ c → ¬ (it ν.c).lt (it q)
  over : ∀ ν ∈ M, ν.up = (c : Int) → ∀ μ ∈ M, μ.c = c → ∀ q : Nat, μ.up = (q : Int) → ¬ (it ν.c).lt (it q)
  down : any = false → ∀ ν ∈ M, ν.up = (c : Int) → ¬ (it ν.c).lt (it c)
theorem swp_l (it : Nat → It) {c d : Nat} (h : c ≠ d) : swp it c d c = it d := by simp [swp, upd, h]
theorem swp_r (it : Nat → It) (c d : Nat) : swp it c d d = it c := by simp [swp, upd]
theorem swp_o (it : Nat → It) {c d e : Nat} (h : e ≠ c) (h' : e ≠ d) : swp it c d e = it e := by simp [swp, upd, h, h']
theorem swp_perm {it : Nat → It} {c d : Nat} {l : List Nat} (hn : l.Nodup) (hc : c ∈ l) (hd : d ∈ l) (h : c ≠ d) : (l.map (swp it c d)).Perm (l.map it) := by
  have h1 : l.Perm (c :: d :: (l.erase c).erase d) := (List.perm_cons_erase hc).trans ((List.perm_cons_erase ((List.mem_erase_of_ne (Ne.symm h)).2 hd)).cons c)
  have h2 : (c :: d :: (l.erase c).erase d).Nodup := h1.nodup_iff.1 hn
  simp only [List.nodup_cons, List.mem_cons, not_or] at h2
  refine (h1.map _).trans (List.Perm.trans ?_ (h1.map _).symm)
  simp only [List.map_cons]
  rw [swp_l it h, swp_r]
  have : ((l.erase c).erase d).map (swp it c d) = ((l.erase c).erase d).map it := List.map_congr_left fun e he => swp_o it (fun e' => h2.1.2 (e' ▸ he)) (fun e' => h2.2.1 (e' ▸ he))
  rw [this]
  exact List.Perm.swap ..
theorem mem_two {M : List Nd} {ν μ : Nd} (hν : ν ∈ M) (hμ : μ ∈ M) (h : ν.c ≠ μ.c) : ∃ M', M.Perm (ν :: μ :: M') := by
  obtain ⟨p, q, rfl⟩ := List.append_of_mem hν
  have hp : (p ++ ν :: q).Perm (ν :: (p ++ q)) := List.perm_middle
  rcases List.mem_cons.1 (hp.mem_iff.1 hμ) with e | hm
  · exact absurd (e ▸ rfl) h
  · obtain ⟨p', q', e⟩ := List.append_of_mem hm
    exact ⟨p' ++ q', hp.trans (by rw [e]; exact List.perm_middle.cons ν)⟩
section
variable {κ : Cfg} {N : List Nd} {L : Heap} {b : Bool}
theorem rise_l0 (any : Bool) (M : List Nd) (hU : UpOK M) (R : Int) (hR : ∀ ν ∈ M, ν.rank ≤ R) : ∀ (d : Nat) {it : Nat → It} {n : Nat} {a : arena_Arena} (H : Hp κ n a it (M ++ N) L) (ν : Nd), ν ∈ M → R - ν.rank ≤ d → ∀ (m : Nat) (kk : Int), d + 10 < m → 0 ≤ kk → kk + d ≤ κ.C → RI it M ν.c any →
    Do (trees_Rise_l0 any m (ν.c : Int) kk a) fun r => ∃ μ it' a', r = ((μ.c : Int), a') ∧ μ ∈ M ∧ Hp κ (n + 13 * d + 7) a' it' (M ++ N) L ∧ it' μ.c = it ν.c ∧ (∀ c, c ∉ M.map Nd.c → it' c = it c) ∧ ((M.map Nd.c).map it').Perm ((M.map Nd.c).map it) ∧ (any = false → Ord it' M) ∧ (any = true → μ.up = -1 ∧ RI it' M μ.c true) := by
  intro d
  induction d with
  | zero =>
    intro it n a H ν hν hd m kk hm hk0 hk hI
    obtain ⟨m, rfl⟩ : ∃ q, m = q + 1 := ⟨m - 1, by omega⟩
    have hup : ν.up = -1 := by
      rcases (hU ν hν).2 with h | ⟨μ, hμ, h1, h2⟩
      · exact h
      · have := hR μ hμ; omega
    have mν : ν ∈ M ++ N := List.mem_append_left _ hν
    rw [trees_Rise_l0]
    refine Do.tb (bne_iff_ne.2 (by omega)) ?_
    refine Do.assoc (Do.seq (Ar.cells H) ?_)
    refine Do.seq rfl (Do.t (decide_eq_true (by omega)) ?_)
    refine (H.getc mν (f := 0) (v := ν.up) (by omega) (by omega)).bind ?_
    rintro _ ⟨a1, rfl, H1⟩
    refine Do.tb (by simp [hup]) ?_
    refine Do.seq rfl (Do.t rfl ?_)
    refine ⟨_, rfl, ν, it, a1, rfl, hν, H1.mono (by omega), rfl, fun _ _ => rfl, .refl _, fun ha => ?_, fun ha => ⟨hup, ha ▸ hI⟩⟩
    intro ν' hν' q hq
    by_cases h1 : ν'.c = ν.c
    · have := H.same (List.mem_append_left _ hν') mν h1
      subst this; omega
    · by_cases h2 : q = ν.c
      · rw [h2] at hq ⊢; exact hI.down ha ν' hν' hq
      · exact hI.rest ν' hν' h1 q hq h2
  | succ d ih =>
    intro it n a H ν hν hd m kk hm hk0 hk hI
    obtain ⟨m, rfl⟩ : ∃ q, m = q + 1 := ⟨m - 1, by omega⟩
    have mν : ν ∈ M ++ N := List.mem_append_left _ hν
    have hcap := H.cap
    rw [trees_Rise_l0]
    refine Do.tb (bne_iff_ne.2 (by omega)) ?_
    refine Do.assoc (Do.seq (Ar.cells H) ?_)
    refine Do.seq rfl (Do.t (decide_eq_true (by omega)) ?_)
    rcases (hU ν hν).2 with hup | ⟨μ, hμ, hup, hrk⟩
    · refine (H.getc mν (f := 0) (v := ν.up) (by omega) (by omega)).bind ?_
      rintro _ ⟨a1, rfl, H1⟩
      refine Do.tb (by simp [hup]) ?_
      refine Do.seq rfl (Do.t rfl ?_)
      refine ⟨_, rfl, ν, it, a1, rfl, hν, H1.mono (by omega), rfl, fun _ _ => rfl, .refl _, fun ha => ?_, fun ha => ⟨hup, ha ▸ hI⟩⟩
      intro ν' hν' q hq
      by_cases h1 : ν'.c = ν.c
      · have := H.same (List.mem_append_left _ hν') mν h1
        subst this; omega
      · by_cases h2 : q = ν.c
        · rw [h2] at hq ⊢; exact hI.down ha ν' hν' hq
        · exact hI.rest ν' hν' h1 q hq h2
    · have mμ : μ ∈ M ++ N := List.mem_append_left _ hμ
      have hlt := H.lt mμ
      have hne : ν.c ≠ μ.c := fun e => by
        have := H.same mν mμ e
        rw [this] at hrk; omega
      refine (H.getc mν (f := 0) (v := ν.up) (by omega) (by omega)).bind ?_
      rintro _ ⟨a1, rfl, H1⟩
      refine Do.fb (by simp [hup]) ?_
      -- the swap, and what comes behind it
      have go : ∀ {n' : Nat} {a2 : arena_Arena} (H2 : Hp κ n' a2 it (M ++ N) L), n' ≤ n + 7 → (any = false → (it ν.c).lt (it μ.c)) →
          Do ((item_Swap a2 (ν.c : Int) (μ.c : Int)).bind fun t_4 => trees_Rise_l0 any m (μ.c : Int) (w64 (kk + 1)) t_4) fun r => ∃ μ it' a', r = ((μ.c : Int), a') ∧ μ ∈ M ∧ Hp κ (n + 13 * (d + 1) + 7) a' it' (M ++ N) L ∧ it' μ.c = it ν.c ∧ (∀ c, c ∉ M.map Nd.c → it' c = it c) ∧ ((M.map Nd.c).map it').Perm ((M.map Nd.c).map it) ∧ (any = false → Ord it' M) ∧ (any = true → μ.up = -1 ∧ RI it' M μ.c true) := by
        intro n' a2 H2 hn' hlt'
        obtain ⟨M', hM'⟩ := mem_two hν hμ hne
        have H3 : Hp κ n' a2 it (ν :: μ :: (M' ++ N)) L := H2.p (hM'.append_right N)
        refine (item_Swap_spec H3).bind ?_
        intro a3 H4
        have H5 : Hp κ (n' + 6) a3 (swp it ν.c μ.c) (M ++ N) L := H4.p (hM'.append_right N).symm
        have same : ∀ ξ ∈ M, ∀ ζ ∈ M, ξ.c = ζ.c → ξ = ζ := fun ξ hξ ζ hζ e => H.same (List.mem_append_left _ hξ) (List.mem_append_left _ hζ) e
        have par : ∀ ξ ∈ M, ∀ q : Nat, ξ.up = (q : Int) → ∃ ζ ∈ M, ζ.c = q ∧ ξ.rank < ζ.rank := by
          intro ξ hξ q hq
          rcases (hU ξ hξ).2 with h | ⟨ζ, hζ, h1, h2⟩
          · omega
          · exact ⟨ζ, hζ, by omega, h2⟩
        have hI' : RI (swp it ν.c μ.c) M μ.c any := by
          refine ⟨?_, ?_, ?_⟩
          · intro ξ hξ h1 q hq h2
            have h3 : ξ.c ≠ ν.c := fun e => by
              have := same ξ hξ ν hν e
              subst this; omega
            rw [swp_o it h3 h1]
            by_cases h4 : q = ν.c
            · rw [h4, swp_l it hne]
              rw [h4] at hq
              exact hI.over ξ hξ hq ν hν rfl μ.c hup
            · rw [swp_o it h4 h2]
              exact hI.rest ξ hξ h3 q hq h4
          · intro ξ hξ h1 μ' hμ' e q hq
            have := same μ' hμ' μ hμ e
            subst this
            obtain ⟨ζ, hζ, e1, h2⟩ := par μ' hμ q hq
            have q1 : q ≠ μ'.c := fun e2 => by
              have := same ζ hζ μ' hμ (by omega)
              subst this; omega
            have q2 : q ≠ ν.c := fun e2 => by
              have := same ζ hζ ν hν (by omega)
              subst this; omega
            rw [swp_o it q2 q1]
            have h3 := hI.rest μ' hμ (Ne.symm hne) q hq q2
            by_cases h4 : ξ.c = ν.c
            · rw [h4, swp_l it hne]; exact h3
            · have h5 : ξ.c ≠ μ'.c := fun e2 => by
                have := same ξ hξ μ' hμ e2
                subst this
                obtain ⟨ζ, hζ, e1, h2⟩ := par ξ hξ ξ.c h1
                have := same ζ hζ ξ hξ e1
                subst this; omega
              rw [swp_o it h4 h5]
              exact It.le_trans h3 (hI.rest ξ hξ h4 μ'.c h1 (Ne.symm hne))
          · intro ha ξ hξ h1
            rw [swp_r]
            by_cases h4 : ξ.c = ν.c
            · rw [h4, swp_l it hne]; exact It.lt_asymm (hlt' ha)
            · have h5 : ξ.c ≠ μ.c := fun e2 => by
                have := same ξ hξ μ hμ e2
                subst this
                obtain ⟨ζ, hζ, e1, h2⟩ := par ξ hξ ξ.c h1
                have := same ζ hζ ξ hξ e1
                subst this; omega
              rw [swp_o it h4 h5]
              exact It.le_trans (It.lt_asymm (hlt' ha)) (hI.rest ξ hξ h4 μ.c h1 (Ne.symm hne))
        have := ih H5 μ hμ (by omega) m (w64 (kk + 1)) (by omega) (by rw [w64_id (by omega) (by omega)]; omega) (by rw [w64_id (by omega) (by omega)]; omega) hI'
        refine this.mono ?_
        rintro _ ⟨μ2, it2, a4, rfl, h1, h2, h3, h4, h5, h6, h7⟩
        refine ⟨μ2, it2, a4, rfl, h1, h2.mono (by omega), by rw [h3, swp_r], ?_, ?_, h6, h7⟩
        · intro c hc
          rw [h4 c hc]
          exact swp_o it (fun e => hc (e ▸ List.mem_map_of_mem hν)) (fun e => hc (e ▸ List.mem_map_of_mem hμ))
        · refine h5.trans (swp_perm ?_ (List.mem_map_of_mem hν) (List.mem_map_of_mem hμ) hne)
          have := H.nd
          rw [List.map_append] at this
          exact (List.nodup_append.1 this).1
      rw [hup]
      cases any with
      | true =>
        refine Do.fb rfl ?_
        refine Do.seq rfl (Do.f rfl ?_)
        exact go H1 (by omega) (fun h => by cases h)
      | false =>
        refine Do.tb rfl ?_
        refine Do.assoc ((H1.before (k := m) (by omega) mν mμ).bind ?_)
        rintro _ ⟨a2, rfl, H2⟩
        refine Do.seq rfl ?_
        by_cases hc : (it ν.c).lt (it μ.c)
        · refine Do.f (by simp [hc]) ?_
          exact go H2 (by omega) (fun _ => hc)
        · refine Do.t (by simp [hc]) ?_
          refine ⟨_, rfl, ν, it, a2, rfl, hν, H2.mono (by omega), rfl, fun _ _ => rfl, .refl _, fun ha => ?_, fun ha => by cases ha⟩
          intro ν' hν' q hq
          by_cases h1 : ν'.c = ν.c
          · have := H.same (List.mem_append_left _ hν') mν h1
            subst this
            have : q = μ.c := by omega
            subst this; exact hc
          · by_cases h2 : q = ν.c
            · rw [h2] at hq ⊢; exact hI.down ha ν' hν' hq
            · exact hI.rest ν' hν' h1 q hq h2
theorem rise_spec {k : Nat} (any : Bool) (M : List Nd) (hU : UpOK M) (R : Nat) (hR : ∀ ν ∈ M, ν.rank ≤ R) {it : Nat → It} {n : Nat} {a : arena_Arena} (H : Hp κ n a it (M ++ N) L) (ν : Nd) (hν : ν ∈ M) (hk : R + 10 < k) (hC : R ≤ κ.C) (hI : RI it M ν.c any) :
    Do (trees_Rise k a ((it ν.c).i : Int) any) fun r => ∃ μ it' a', r = ((μ.c : Int), a') ∧ μ ∈ M ∧ Hp κ (n + 13 * R + 8) a' it' (M ++ N) L ∧ it' μ.c = it ν.c ∧ (∀ c, c ∉ M.map Nd.c → it' c = it c) ∧ ((M.map Nd.c).map it').Perm ((M.map Nd.c).map it) ∧ (any = false → Ord it' M) ∧ (any = true → μ.up = -1 ∧ RI it' M μ.c true) := by
  unfold trees_Rise item_Node
  have mν : ν ∈ M ++ N := List.mem_append_left _ hν
  refine Do.assoc ((Ar.cell H (H.item mν) (f := 9) (v := (ν.c : Int)) rfl (by omega) (by have := H.lt mν; omega)).bind ?_)
  rintro _ ⟨a1, rfl, H1⟩
  have h0 := (hU ν hν).1
  refine Do.seq rfl ?_
  refine (rise_l0 any M hU R hR R (N := N) H1 ν hν (by omega) k 0 hk (by omega) (by omega) hI).bind ?_
  rintro _ ⟨μ, it', a2, rfl, h1, h2, h3⟩
  exact ⟨_, rfl, μ, it', a2, rfl, h1, h2.mono (by omega), h3⟩
end
end Go.Proofs.YtmidmkinclmbdaaGreat
