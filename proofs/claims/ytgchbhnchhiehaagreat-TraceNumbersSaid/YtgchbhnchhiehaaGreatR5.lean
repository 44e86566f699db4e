/-
  The engine by certificates, part 5: what a certificate of code shows.
-/
import Derived.Test.YtgchbhnchhiehaaGreatR4
set_option linter.unusedVariables false
set_option linter.unusedSimpArgs false
namespace Go.Th
section
variable {E : Ev} {P : Program} {f : FuncId} {n : Nat} {R0 : Type} {retF : Kn E → VC R0}

theorem look_bool {t : Nat} {b : Bool} {L : Env} {n : Nat} {a : Act} (hE : EnvOk n a L) (h : look t L = some (.bool b)) : EnvOk n a ((t, .bool b) :: L) := by
  refine ⟨hE.size, hE.defers, fun u v hv => ?_⟩
  rw [look_cons] at hv
  split at hv
  · subst_vars; cases hv; exact hE.has _ _ h
  · exact hE.has _ _ hv
theorem Facts.kn {w0 w : World} {F : List HP} {st : Kn E} {a : Act} {L : Env} {As : List (Nat × Atom E)} (h : Facts F st) (hE : EnvOk n a L) (hH : St w0 (dens As ++ F) w) : KnOk n w0 F ⟨L, As, st.rd, st.ef, st.pr, st.vw⟩ a w := ⟨hE, hH, h.1, h.2, h.3, h.4⟩
theorem Md.cut_sound {md md1 : Md} {rest base : List Item} {a : Act} {w : World} {Q : Value → World → Prop} (h : md.cut = some (md1, rest)) (hr : md1.Runs P f (rest ++ base) a w Q) : md.Runs P f base a w Q := by
  cases md with
  | run t =>
    cases t with
    | nil => cases h
    | cons x t =>
      simp only [Md.cut, Option.some.injEq, Prod.mk.injEq] at h
      obtain ⟨rfl, rfl⟩ := h
      exact hr
  | reg ops i k =>
    simp only [Md.cut, Option.some.injEq, Prod.mk.injEq] at h
    obtain ⟨rfl, rfl⟩ := h
    exact hr
  | drw ops dn pend k =>
    simp only [Md.cut, Option.some.injEq, Prod.mk.injEq] at h
    obtain ⟨rfl, rfl⟩ := h
    exact hr
theorem onD_sound {R : Type} {ops : Array Oper} {dn : List Nat} {pend : List (Nat × List Ob)} {k base : List Item} {K : Md → VC R} {Φ : R → Prop} {a : Act} {w : World} {Q : Value → World → Prop} (h : (onD ops dn pend k K).ok Φ)
    (hk : ∀ md, (K md).ok Φ → md.Runs P f base a w Q) : WQ P f ops dn pend (k ++ base) a w Q := by
  unfold onD at h
  split at h
  · split at h
    · rename_i h1
      obtain ⟨md, hm, h2⟩ := nx_ok h
      exact WQ.done h1 (norm_sound 1000 hm (hk md h2))
    · exact (VC.fail_ok h).elim
  · exact hk _ h

theorem exec_sound (hmx : P.follows .mixedOrders = true) {w0 : World} {F : List HP} {Q : Value → World → Prop} {Tg : R0 → Prop} (hret : ∀ st a w k, KnOk n w0 F st a w → (retF st).ok Tg → Runs P f (.code .ret :: k) a w Q) :
    ∀ (ct : Ct E P f n R0 retF) {R : Type} (md : Md) (base : List Item) (st : Kn E) (retV : R0 → VC R) (leafK : Kn E → VC R) (backK : Code → Nat → Kn E → VC R) (Φ : R → Prop) (a : Act) (w : World), KnOk n w0 F st a w →
      (exec ct md st retV leafK backK).ok Φ → (∀ r, (retV r).ok Φ → Tg r) → (∀ st' a' w', KnOk n w0 F st' a' w' → (leafK st').ok Φ → Runs P f base a' w' Q) →
      (∀ c id st' a' w', KnOk n w0 F st' a' w' → (backK c id st').ok Φ → Runs P f (.inLoop c :: .inBlock id :: base) a' w' Q) → md.Runs P f base a w Q := by
  intro ct
  induction ct with
  | leaf =>
    intro R md base st retV leafK backK Φ a w hI h hV hL hB
    simp only [exec] at h
    split at h
    · exact hL _ _ _ hI h
    · exact (VC.fail_ok h).elim
  | s x c ih =>
    intro R md base st retV leafK backK Φ a w hI h hV hL hB
    simp only [exec] at h
    split at h
    · rename_i ops i k
      refine stepW_sound hI h fun i' st' a' w' hI' h' => ?_
      split at h'
      · rename_i hi
        obtain ⟨md', hm, h2⟩ := nx_ok h'
        exact WR.done hi (norm_sound 1000 hm (ih _ _ _ _ _ _ _ _ _ hI' h2 hV hL hB))
      · exact ih (.reg ops i' k) base st' retV leafK backK Φ a' w' hI' h' hV hL hB
    · rename_i ops dn pend k
      obtain ⟨st', hI', h'⟩ := ghost_sound hI h
      exact ih (.drw ops dn pend k) base st' retV leafK backK Φ a w hI' h' hV hL hB
    · rename_i t
      obtain ⟨st', hI', h'⟩ := ghost_sound hI h
      exact ih (.run t) base st' retV leafK backK Φ a w hI' h' hV hL hB
  | dead =>
    intro R md base st retV leafK backK Φ a w hI h hV hL hB
    simp only [exec] at h
    exact (VC.fail_ok h).elim
  | rk l c ih =>
    intro R md base st retV leafK backK Φ a w hI h hV hL hB
    simp only [exec] at h
    exact ih md base ⟨st.L, renK l st.As, st.rd, st.ef, st.pr, st.vw⟩ retV leafK backK Φ a w ⟨hI.env, by rw [renK_dens]; exact hI.hp, hI.fs.1, hI.fs.2, hI.fs.3, hI.fs.4⟩ h hV hL hB
  | drw c ih =>
    intro R md base st retV leafK backK Φ a w hI h hV hL hB
    simp only [exec] at h
    split at h
    · rename_i id ops k
      split at h
      · rename_i hr
        exact Runs.drawn hmx hr (ih (.drw ops [] [] k) base st retV leafK backK Φ a _ ⟨hI.env, hI.hp.drew, hI.fs.1, hI.fs.2, hI.fs.3, hI.fs.4⟩ h hV hL hB)
      · exact (VC.fail_ok h).elim
    · exact (VC.fail_ok h).elim
  | q is l c ih =>
    intro R md base st retV leafK backK Φ a w hI h hV hL hB
    simp only [exec] at h
    split at h
    · refine stepD_sound hI h fun dn' pend' st' a' hI' h' => ?_
      exact onD_sound h' fun md' h2 => ih md' base st' retV leafK backK Φ a' w hI' h2 hV hL hB
    · exact (VC.fail_ok h).elim
  | a j x l c ih =>
    intro R md base st retV leafK backK Φ a w hI h hV hL hB
    simp only [exec] at h
    split at h
    · refine stepA_sound hI h fun dn' pend' st' a' w' hI' h' => ?_
      exact onD_sound h' fun md' h2 => ih md' base st' retV leafK backK Φ a' w' hI' h2 hV hL hB
    · exact (VC.fail_ok h).elim
  | cond x y ihx ihy =>
    intro R md base st retV leafK backK Φ a w hI h hV hL hB
    simp only [exec] at h
    split at h
    · rename_i c u v k
      split at h
      · rename_i b hc
        refine Runs.cond hI.env hc (fun hb => ?_) (fun hb => ?_)
        · obtain ⟨md', hm, h2⟩ := nx_ok (h.1 hb)
          exact norm_sound 1000 hm (ihx _ _ _ _ _ _ _ _ _ hI h2 hV hL hB)
        · obtain ⟨md', hm, h2⟩ := nx_ok (h.2 hb)
          exact norm_sound 1000 hm (ihy _ _ _ _ _ _ _ _ _ hI h2 hV hL hB)
      · exact (VC.fail_ok h).elim
    · exact (VC.fail_ok h).elim
  | condT x ihx =>
    intro R md base st retV leafK backK Φ a w hI h hV hL hB
    simp only [exec] at h
    split at h
    · rename_i c u v k
      split at h
      · rename_i hc
        obtain ⟨md', hm, h2⟩ := nx_ok h
        exact Runs.condT hI.env hc (norm_sound 1000 hm (ihx _ _ _ _ _ _ _ _ _ hI h2 hV hL hB))
      · exact (VC.fail_ok h).elim
    · exact (VC.fail_ok h).elim
  | condF x ihx =>
    intro R md base st retV leafK backK Φ a w hI h hV hL hB
    simp only [exec] at h
    split at h
    · rename_i c u v k
      split at h
      · rename_i hc
        obtain ⟨md', hm, h2⟩ := nx_ok h
        exact Runs.condF hI.env hc (norm_sound 1000 hm (ihx _ _ _ _ _ _ _ _ _ hI h2 hV hL hB))
      · exact (VC.fail_ok h).elim
    · exact (VC.fail_ok h).elim
  | split t x y ihx ihy =>
    intro R md base st retV leafK backK Φ a w hI h hV hL hB
    simp only [exec] at h
    split at h
    · rename_i b hb
      cases b with
      | true => exact ihx _ _ _ _ _ _ _ _ _ (hI.fs.kn (look_bool hI.env hb) hI.hp) (h.1 rfl) hV hL hB
      | false => exact ihy _ _ _ _ _ _ _ _ _ (hI.fs.kn (look_bool hI.env hb) hI.hp) (h.2 rfl) hV hL hB
    · exact (VC.fail_ok h).elim
  | join T nN nA get J x k ihx ihk =>
    intro R md base st retV leafK backK Φ a w hI h hV hL hB
    simp only [exec] at h
    split at h
    · rename_i md1 rest hc
      refine Md.cut_sound hc (ihx _ _ _ _ _ _ _ _ _ hI h (fun r hr => (VC.fail_ok hr).elim) (fun st' a' w' hI' hl => ?_) (fun c id st' a' w' _ hb => (VC.fail_ok hb).elim))
      split at hl
      · rename_i s ns as hg
        split at hl
        · rename_i h1 h2
          obtain ⟨h3, h4, y, hy, h5⟩ := reqS_sound hI' hl
          cases hy
          rw [← Nat.eq_of_beq_eq_true h1] at h5
          have h6 := frNs_ok _ _ h5
          rw [← Nat.eq_of_beq_eq_true h2] at h6
          obtain ⟨md', hm, h8⟩ := nx_ok (frAs_ok _ _ h6)
          exact norm_sound 1000 hm (ihk _ _ _ _ _ _ _ _ _ (hI.fs.kn h3 h4) h8 hV hL hB)
        · exact (VC.fail_ok hl).elim
      · exact (VC.fail_ok hl).elim
    · exact (VC.fail_ok h).elim
  | joinR T nN nA get J x k ihx ihk =>
    intro R md base st retV leafK backK Φ a w hI h hV hL hB
    simp only [exec] at h
    split at h
    · rename_i md1 rest hc
      refine Md.cut_sound hc (ihx _ _ _ _ _ _ _ _ _ hI h (fun r hr => ?_) (fun st' a' w' hI' hl => ?_) (fun c id st' a' w' _ hb => (VC.fail_ok hb).elim))
      · obtain ⟨y, hy, h2⟩ := hr
        cases hy
        exact hV r (h2.1 r rfl)
      · split at hl
        · rename_i s ns as hg
          split at hl
          · rename_i h1 h2
            obtain ⟨h3, h4, y, hy, h5⟩ := reqS_sound hI' hl
            cases hy
            have h5 := h5.2 s rfl
            rw [← Nat.eq_of_beq_eq_true h1] at h5
            have h6 := frNs_ok _ _ h5
            rw [← Nat.eq_of_beq_eq_true h2] at h6
            obtain ⟨md', hm, h8⟩ := nx_ok (frAs_ok _ _ h6)
            exact norm_sound 1000 hm (ihk _ _ _ _ _ _ _ _ _ (hI.fs.kn h3 h4) h8 hV hL hB)
          · exact (VC.fail_ok hl).elim
        · exact (VC.fail_ok hl).elim
    · exact (VC.fail_ok h).elim
  | loop B get k ihk =>
    intro R md base st retV leafK backK Φ a w hI h hV hL hB
    simp only [exec] at h
    split at h
    · rename_i c rest
      split at h
      · rename_i x v ns as hg
        split at h
        · rename_i rs hrs
          obtain ⟨rfl, h2, h3⟩ := h
          obtain ⟨h4, h5, t, ht, h6⟩ := reqS_sound hI h3
          refine B.snd Q w0 F x v t ns as a w (rest ++ base) ht ⟨h4, h5, ?_, by simp, by simp, by simp⟩ ?_ ?_
          · intro p hp
            have h7 : p.2 ∈ rs := by rw [h2]; exact List.mem_map_of_mem hp
            obtain ⟨j, hj⟩ := getKs_mem hrs _ h7
            have := hI.fs.1 (j, p.2) hj
            exact this
          · intro u hu ns' as' a' w' hn ha hE hH
            have h6' := h6.2 u hu
            rw [← hn] at h6'
            have h7 := frNs_ok _ _ h6'
            rw [← ha] at h7
            obtain ⟨md', hm, h8⟩ := nx_ok (frAs_ok _ _ h7)
            exact norm_sound 1000 hm (ihk _ _ _ _ _ _ _ _ _ (hI.fs.kn hE hH) h8 hV hL hB)
          · intro r hr st' a' w' k' hI' hr'
            have e := hV r (h6.1 r hr)
            exact hret _ _ _ _ hI' (VC.mono _ (fun r' h => by subst h; exact e) hr')
        · exact (VC.fail_ok h).elim
      · exact (VC.fail_ok h).elim
    · exact (VC.fail_ok h).elim
  | blk c ih =>
    intro R md base st retV leafK backK Φ a w hI h hV hL hB
    simp only [exec] at h
    split at h
    · obtain ⟨md', hm, h2⟩ := nx_ok h
      exact Runs.block (norm_sound 1000 hm (ih _ _ _ _ _ _ _ _ _ hI h2 hV hL hB))
    · exact (VC.fail_ok h).elim
  | unr c ih =>
    intro R md base st retV leafK backK Φ a w hI h hV hL hB
    simp only [exec] at h
    split at h
    · obtain ⟨md', hm, h2⟩ := nx_ok h
      exact Runs.block (Runs.unroll (norm_sound 1000 hm (ih _ _ _ _ _ _ _ _ _ hI h2 hV hL hB)))
    · obtain ⟨md', hm, h2⟩ := nx_ok h
      exact Runs.inLoop (norm_sound 1000 hm (ih _ _ _ _ _ _ _ _ _ hI h2 hV hL hB))
    · exact (VC.fail_ok h).elim
  | alt2 i x l c j y l' c' ih1 ih2 =>
    intro R md base st retV leafK backK Φ a w hI h hV hL hB
    simp only [exec] at h
    split at h
    · split at h
      · rename_i hr
        refine WQ.act2 i j hr ?_ ?_
        · refine stepQ_sound hI h.1 fun dn' pend' st' a' w' hI' h' => ?_
          exact onD_sound h' fun md' h2 => ih1 md' base st' retV leafK backK Φ a' w' hI' h2 hV hL hB
        · refine stepQ_sound hI (h.2 rfl) fun dn' pend' st' a' w' hI' h' => ?_
          exact onD_sound h' fun md' h2 => ih2 md' base st' retV leafK backK Φ a' w' hI' h2 hV hL hB
      · exact (VC.fail_ok h).elim
    · exact (VC.fail_ok h).elim
  | alt3 i x l c j y l' c' m z l'' c'' ih1 ih2 ih3 =>
    intro R md base st retV leafK backK Φ a w hI h hV hL hB
    simp only [exec] at h
    split at h
    · split at h
      · rename_i hr
        refine WQ.act3 i j m hr ?_ ?_ ?_
        · refine stepQ_sound hI h.1 fun dn' pend' st' a' w' hI' h' => ?_
          exact onD_sound h' fun md' h2 => ih1 md' base st' retV leafK backK Φ a' w' hI' h2 hV hL hB
        · refine stepQ_sound hI ((h.2 rfl).1) fun dn' pend' st' a' w' hI' h' => ?_
          exact onD_sound h' fun md' h2 => ih2 md' base st' retV leafK backK Φ a' w' hI' h2 hV hL hB
        · refine stepQ_sound hI ((h.2 rfl).2 rfl) fun dn' pend' st' a' w' hI' h' => ?_
          exact onD_sound h' fun md' h2 => ih3 md' base st' retV leafK backK Φ a' w' hI' h2 hV hL hB
      · exact (VC.fail_ok h).elim
    · exact (VC.fail_ok h).elim
  | jg T nN nA get J x k ihx ihk =>
    intro R md base st retV leafK backK Φ a w hI h hV hL hB
    simp only [exec] at h
    split at h
    · rename_i md1 rest hc
      refine Md.cut_sound hc (ihx _ _ _ _ _ _ _ _ _ hI h (fun r hr => (VC.fail_ok hr).elim) (fun st' a' w' hI' hl => ?_) (fun c id st' a' w' _ hb => (VC.fail_ok hb).elim))
      split at hl
      · rename_i s ns as hg
        split at hl
        · rename_i h1 h2
          obtain ⟨h3, h4, y, hy, h5⟩ := reqS_sound hI' hl
          cases hy
          rw [← Nat.eq_of_beq_eq_true h1] at h5
          have h6 := frNs_ok _ _ h5
          rw [← Nat.eq_of_beq_eq_true h2] at h6
          obtain ⟨md', hm, h8⟩ := nx_ok (frAs_ok _ _ h6)
          exact norm_sound 1000 hm (ihk _ _ _ _ _ _ _ _ _ (hI.fs.kn h3 h4) h8 hV hL hB)
        · exact (VC.fail_ok hl).elim
      · exact (VC.fail_ok hl).elim
    · exact (VC.fail_ok h).elim
  | pj t T M get J x y k ihx ihy ihk =>
    intro R md base st retV leafK backK Φ a w hI h hV hL hB
    simp only [exec] at h
    split at h
    · rename_i md1 rest b hc hb
      have fin : ∀ (st' : Kn E) (a' : Act) (w' : World), KnOk n w0 F st' a' w' → ((match get st' with
          | some s => reqS (J st s).1 (J st s).2 st' (.ret (some s))
          | none => .fail : VC T)).ok (fun s => (nx (norm 1000 rest) fun md' => exec k md' ⟨(J st s).1, (J st s).2, st.rd, st.ef, st.pr, st.vw⟩ retV leafK backK).ok Φ) → Runs P f (rest ++ base) a' w' Q := by
        intro st' a' w' hI' hl
        split at hl
        · rename_i s hg
          obtain ⟨h3, h4, y, hy, h5⟩ := reqS_sound hI' hl
          cases hy
          obtain ⟨md', hm, h8⟩ := nx_ok h5
          exact norm_sound 1000 hm (ihk _ _ _ _ _ _ _ _ _ (hI.fs.kn h3 h4) h8 hV hL hB)
        · exact (VC.fail_ok hl).elim
      cases b with
      | true => exact Md.cut_sound hc (ihx _ _ _ _ _ _ _ _ _ (hI.fs.kn (look_bool hI.env hb) hI.hp) (h.1 rfl) (fun r hr => (VC.fail_ok hr).elim) fin (fun c id st' a' w' _ hb => (VC.fail_ok hb).elim))
      | false => exact Md.cut_sound hc (ihy _ _ _ _ _ _ _ _ _ (hI.fs.kn (look_bool hI.env hb) hI.hp) (h.2 rfl) (fun r hr => (VC.fail_ok hr).elim) fin (fun c id st' a' w' _ hb => (VC.fail_ok hb).elim))
    · exact (VC.fail_ok h).elim
  | eo t j q e x y ihx ihy =>
    intro R md base st retV leafK backK Φ a w hI h hV hL hB
    simp only [exec] at h
    obtain ⟨st', hI', h' | h'⟩ := eoC_sound hI h
    · exact ihx _ _ _ _ _ _ _ _ _ hI' h' hV hL hB
    · exact ihy _ _ _ _ _ _ _ _ _ hI' h' hV hL hB
  | np t j x y ihx ihy =>
    intro R md base st retV leafK backK Φ a w hI h hV hL hB
    simp only [exec] at h
    split at h
    · split at h
      · exact ihx _ _ _ _ _ _ _ _ _ hI h hV hL hB
      · exact ihy _ _ _ _ _ _ _ _ _ hI h hV hL hB
      · exact (VC.fail_ok h).elim
    · exact (VC.fail_ok h).elim
  | ret =>
    intro R md base st retV leafK backK Φ a w hI h hV hL hB
    simp only [exec] at h
    split at h
    · exact hret _ _ _ _ hI (VC.mono _ hV h)
    · exact (VC.fail_ok h).elim
  | back =>
    intro R md base st retV leafK backK Φ a w hI h hV hL hB
    simp only [exec] at h
    split at h
    · exact hB _ _ _ _ _ hI h
    · exact (VC.fail_ok h).elim

/-! A function. -/
def zipN {α : Type} : Nat → List α → List (Nat × α)
  | _, [] => []
  | i, x :: r => (i, x) :: zipN (i + 1) r
theorem zipN_snd {α : Type} : ∀ (i : Nat) (l : List α), (zipN i l).map (·.2) = l
  | _, [] => rfl
  | i, x :: r => by simp [zipN, zipN_snd (i + 1) r]
def fx79 : List (Nat × Prop) → List Prop
  | [] => []
  | (k, p) :: r => match Nat.beq k 79 with
    | true => p :: fx79 r
    | false => fx79 r
theorem fx79_ok : ∀ {l : List (Nat × Prop)}, (∀ p ∈ l, p.2) → ∀ p ∈ fx79 l, p
  | [], _, p, hp => by cases hp
  | (k, q) :: r, h, p, hp => by
    have ih := fx79_ok (l := r) fun x hx => h x (List.mem_cons_of_mem _ hx)
    unfold fx79 at hp
    split at hp
    · cases hp with
      | head => exact h (k, q) (List.mem_cons_self ..)
      | tail _ hm => exact ih p hm
    · exact ih p hp
def retC (P : Program) (C : Con E) (rs : List ResultVar) (src : List Src) (keys : List Nat) (out : Kn E → Option (C.T × List Nat × List (Option Addr))) (i : C.I) (st : Kn E) : VC C.T :=
  match out st with
  | some (t, ns, as) => match Nat.beq ns.length C.nN, Nat.beq as.length C.nA, srcs st src, picks (C.keysA i t keys) st.As with
    | true, true, some (orc, obs, eqs), some (ats, _) => match evAllO P st.L rs orc with
      | some (vs, obs') => .req obs' obs (.req (eqs.map (·.1)) (eqs.map (·.2)) (.req (retVal vs) (C.valA i t ns as) (.req ats (C.postA i t ns as) (.req (C.fx i t) (fx79 st.pr) (.ret (some t))))))
      | none => .fail
    | _, _, _, _ => .fail
  | none => .fail
def st0 (C : Con E) (i : C.I) : Kn E := ⟨envFrom 0 (C.args i), zipN 0 (C.ats i), zipN 0 (C.rds i), [], [], []⟩
def vcF {P : Program} {n : Nat} (C : Con E) (c : Code) (rs : List ResultVar) (src : List Src) (keys : List Nat) (out : Kn E → Option (C.T × List Nat × List (Option Addr))) (i : C.I) (ct : Ct E P C.fid n C.T (retC P C rs src keys out i)) : VC C.T :=
  nx (norm 1000 [.code c]) fun md => exec ct md (st0 C i) (fun t => .ret (some t)) (fun st => match rs with
    | [] => .join (retC P C rs src keys out i st) fun t => .ret (some t)
    | _ => .fail) fun _ _ _ => .fail
theorem retC_sound {C : Con E} {rs : List ResultVar} {src : List Src} {keys : List Nat} {out : Kn E → Option (C.T × List Nat × List (Option Addr))} {i : C.I} {st : Kn E} {n : Nat} {w0 w : World} {F : List HP} {a : Act} {t : C.T}
    (hI : KnOk n w0 F st a w) (h : (retC P C rs src keys out i st).ok (· = t)) : ∃ orc obs vs ns as, AllOb w obs ∧ evAllO P st.L rs orc = some (vs, obs) ∧ ns.length = C.nN ∧ as.length = C.nA ∧ retVal vs = C.valA i t ns as ∧ St w0 ((C.postA i t ns as).map Atom.den ++ F) w ∧ ∀ p ∈ C.fx i t, p := by
  unfold retC at h
  split at h
  · rename_i t' ns as ho
    split at h
    · rename_i orc obs eqs ats rest h1 h2 h3 h4
      split at h
      · rename_i vs obs' h5
        obtain ⟨rfl, h6, h7, h8, h8x, y, hy, h9⟩ := h
        cases hy
        subst h9
        refine ⟨orc, _, vs, ns, as, srcs_sound hI h3 (eqs_of h6), h5, Nat.eq_of_beq_eq_true h1, Nat.eq_of_beq_eq_true h2, h7, ?_, by rw [h8x]; exact fx79_ok hI.fs.3⟩
        have H := hI.hp.perm ((dens_picks h4).append_right F)
        rw [List.append_assoc, h8] at H
        have H2 := H.perm (show ((C.postA i t' ns as).map Atom.den ++ (dens rest ++ F)).Perm (dens rest ++ ((C.postA i t' ns as).map Atom.den ++ F)) by
          rw [← List.append_assoc, ← List.append_assoc]
          exact List.Perm.append_right F List.perm_append_comm)
        exact H2.dropL
      · exact (VC.fail_ok h).elim
    · exact (VC.fail_ok h).elim
  · exact (VC.fail_ok h).elim

theorem fn_sound (hmx : P.follows .mixedOrders = true) (C : Con E) {fn : Func} {c : Code} {n : Nat} {rs : List ResultVar} (src : List Src) (keys : List Nat) (out : Kn E → Option (C.T × List Nat × List (Option Addr))) (ct : ∀ i, Ct E P C.fid n C.T (retC P C rs src keys out i))
    (hf : P.funcs[C.fid]? = some fn) (hb : fn.body = some c) (hn : fn.ntmps = n) (hr : fn.results = rs.toArray) (hl : ∀ i, Nat.ble (C.args i).length n = true)
    (h1 : ∀ i, vcF C c rs src keys out i (ct i) = (vcF C c rs src keys out i (ct i)).rfx) (h2 : ∀ i s, (vcF C c rs src keys out i (ct i)).mod s = C.model i) : C.Sound P := by
  intro i t hm w0 w F hrd H
  refine enter hf hb hn (hl i) fun a hE => ?_
  have hok := VC.good _ (· = t) (h1 i) fun s => ⟨t, (h2 i s).trans hm, rfl⟩
  obtain ⟨md, hmd, h3⟩ := nx_ok hok
  have hI : KnOk n w0 F (st0 C i) a w := by
    refine ⟨hE, ?_, ?_, by simp [st0], by simp [st0], by simp [st0]⟩
    · simpa [st0, dens, zipN_snd] using H
    · intro p hp
      refine hrd p.2 ?_
      have : p.2 ∈ (zipN 0 (C.rds i)).map (·.2) := List.mem_map_of_mem hp
      rwa [zipN_snd] at this
  have := norm_sound (P := P) (f := C.fid) (a := a) (w := w) (base := []) (Q := fun v w' => ∃ ns as, ns.length = C.nN ∧ as.length = C.nA ∧ v = C.valA i t ns as ∧ St w0 ((C.postA i t ns as).map Atom.den ++ F) w' ∧ ∀ p ∈ C.fx i t, p) 1000 hmd
    (exec_sound hmx (Tg := (· = t)) (fun st a w k hI h => by
        obtain ⟨orc, obs, vs, ns, as, ho, hv, hn1, ha1, h5, h6, hfx⟩ := retC_sound hI h
        exact Runs.retO hI.env hf hr orc hv ho ⟨ns, as, hn1, ha1, h5, h6, hfx⟩) (ct i) md [] (st0 C i) _ _ _ _ a w hI h3 (fun r hr => by obtain ⟨y, hy, h⟩ := hr; cases hy; exact h) (fun st' a' w' hI' hl => by
        split at hl
        · obtain ⟨orc, obs, vs, ns, as, ho, hv, hn1, ha1, h5, h6, hfx⟩ := retC_sound hI' (VC.mono _ (fun r hr => by obtain ⟨y, hy, h⟩ := hr; cases hy; exact h) hl)
          have e : vs = [] := by
            simp only [evAllO, Option.some.injEq, Prod.mk.injEq] at hv
            exact hv.1.symm
          subst e
          exact Runs.fin hI'.env hf hr (vs := []) rfl ⟨ns, as, hn1, ha1, h5, h6, hfx⟩
        · exact (VC.fail_ok hl).elim) (fun c id st' a' w' _ hb => (VC.fail_ok hb).elim))
  simpa using this

/-! A loop. -/
def vcL {P : Program} {f : FuncId} {n : Nat} {R0 : Type} {retF : Kn E → VC R0} (B : BCon E R0) (body : Code) (id : Nat) (G : Nat → B.X → B.V → Option B.W) (inl : R0 → Option B.W) (inr : B.T → B.W) (get : Kn E → Option (B.V × List Nat × List (Option Addr))) (getO : Kn E → Option (B.T × List Nat × List (Option Addr)))
    (ct : Ct E P f n R0 retF) (m : Nat) (x : B.X) (v : B.V) (ns : List Nat) (as : List (Option Addr)) : VC B.W :=
  nx (norm 1000 [.code body, .inLoop body, .inBlock id]) fun md => exec ct md ⟨B.pL x v ns as, B.pA x v ns as, B.rds x, [], [], []⟩ (fun r => .ret (inl r)) (fun st => match getO st with
    | some (u, ns', as') => match Nat.beq ns'.length B.mN, Nat.beq as'.length B.mA with
      | true, true => reqS (B.qL x u ns' as') (B.qA x u ns' as') st (.ret (some (inr u)))
      | _, _ => .fail
    | none => .fail) fun c id' st => .req (c, id') (body, id) (match get st with
      | some (v', ns', as') => reqS (B.pL x v' ns' as') (B.pA x v' ns' as') st (.ret (G m x v'))
      | none => .fail)
theorem VC.ok_false : ∀ {R : Type} (v : VC R), v.ok (fun _ => False) → False
  | _, .ret o, h => by obtain ⟨_, _, h⟩ := h; exact h
  | _, .bind m k, h => by obtain ⟨x, _, h⟩ := h; exact VC.ok_false (k x) h
  | _, .ite c x y, h => by
    cases hc : c with
    | true => exact VC.ok_false x (h.1 hc)
    | false => exact VC.ok_false y (h.2 hc)
  | _, .frN k, h => VC.ok_false (k 0) (h 0)
  | _, .frA k, h => VC.ok_false (k none) (h none)
  | _, .req a b k, h => VC.ok_false k h.2
  | _, .join x k, h => VC.ok_false x (VC.mono x (fun y hy => VC.ok_false (k y) hy) h)
  | _, .cs z x y, h => by
    cases z with
    | inl a => exact VC.ok_false (x a) (h.1 a rfl)
    | inr b => exact VC.ok_false (y b) (h.2 b rfl)
  | _, .both u v vm, h => VC.ok_false u h.1
  | _, .grj x k, h => VC.ok_false x (VC.mono x (fun y hy => VC.ok_false (k y) hy) h)
  | _, .sel M b x y k, h => by
    cases b with
    | true => exact VC.ok_false x (VC.mono x (fun y hy => VC.ok_false (k y) hy) (h.1 rfl))
    | false => exact VC.ok_false y (VC.mono y (fun y hy => VC.ok_false (k y) hy) (h.2 rfl))
def BCon.at {R0 : Type} (B : BCon E R0) (G : Nat → B.X → B.V → Option B.W) (k : Nat) : BCon E R0 := { B with g := G k }
theorem loop_sound (hmx : P.follows .mixedOrders = true) (B : BCon E R0) {body : Code} {id : Nat} (G : Nat → B.X → B.V → Option B.W) (inl : R0 → Option B.W) (inr : B.T → B.W) (get : Kn E → Option (B.V × List Nat × List (Option Addr))) (getO : Kn E → Option (B.T × List Nat × List (Option Addr)))
    (ct : Nat → Ct E P f n R0 retF) (hc : B.code = .block id (.loop body)) (h0 : ∀ x v, G 0 x v = none) (hl : ∀ r y, inl r = some y → B.cls y = .inl r) (hi : ∀ u, B.cls (inr u) = .inr u)
    (h1 : ∀ m x v ns as, vcL B body id G inl inr get getO (ct m) m x v ns as = (vcL B body id G inl inr get getO (ct m) m x v ns as).rfx) (h2 : ∀ m x v ns as s, (vcL B body id G inl inr get getO (ct m) m x v ns as).mod s = G (m + 1) x v) :
    ∀ k, (B.at G k).Sound P f n retF := by
  intro k Q w0 F x v t ns as a w base hg hI hcont hret
  have key : ∀ (m : Nat) (v : B.V) (ns : List Nat) (as : List (Option Addr)) (a : Act) (w : World), G m x v = some t → KnOk n w0 F ⟨B.pL x v ns as, B.pA x v ns as, B.rds x, [], [], []⟩ a w → Runs P f (.code body :: .inLoop body :: .inBlock id :: base) a w Q := by
    intro m
    induction m with
    | zero => intro v ns as a w hg _; exact absurd ((h0 x v).symm.trans hg) (by simp)
    | succ m ih =>
      intro v ns as a w hg hI
      have hok := VC.good _ (· = t) (h1 m x v ns as) fun s => ⟨t, (h2 m x v ns as s).trans hg, rfl⟩
      obtain ⟨md, hmd, h3⟩ := nx_ok hok
      refine norm_sound (t := [.code body, .inLoop body, .inBlock id]) (base := base) 1000 hmd (exec_sound hmx (Tg := fun r => B.cls t = .inl r) ?_ (ct m) md base _ _ _ _ _ a w hI h3 ?_ ?_ ?_)
      · intro st a w k hI h
        cases ht : B.cls t with
        | inl r => exact hret r ht _ _ _ _ hI (VC.mono _ (fun r' h => by rw [ht] at h; cases h; rfl) h)
        | inr u => exact (VC.ok_false _ (VC.mono _ (fun r' h => by rw [ht] at h; cases h) h)).elim
      · rintro r ⟨y, hy, rfl⟩
        exact hl r y hy
      · intro st' a' w' hI' hl'
        split at hl'
        · rename_i u ns' as' ho
          split at hl'
          · rename_i e1 e2
            obtain ⟨h4, h5, y, hy, h6⟩ := reqS_sound hI' hl'
            cases hy
            subst h6
            exact hcont u (hi u) ns' as' a' w' (Nat.eq_of_beq_eq_true e1) (Nat.eq_of_beq_eq_true e2) h4 h5
          · exact (VC.fail_ok hl').elim
        · exact (VC.fail_ok hl').elim
      · intro c id' st' a' w' hI' hb
        obtain ⟨e, h4⟩ := hb
        simp only [Prod.mk.injEq] at e
        obtain ⟨rfl, rfl⟩ := e
        split at h4
        · rename_i v' ns' as' hg'
          obtain ⟨h5, h6, y, hy, h7⟩ := reqS_sound hI' h4
          subst h7
          exact Runs.inLoop (ih v' ns' as' a' w' hy ⟨h5, h6, hI.fs.1, hI.fs.2, hI.fs.3, hI.fs.4⟩)
        · exact (VC.fail_ok h4).elim
  show Runs P f (.code B.code :: base) a w Q
  rw [hc]
  exact Runs.block (Runs.unroll (key k v ns as a w hg hI))
theorem none_sound (C : Con E) (h : ∀ i, C.model i = none) : C.Sound P := fun i t hm => by rw [h i] at hm; cases hm
end
end Go.Th
