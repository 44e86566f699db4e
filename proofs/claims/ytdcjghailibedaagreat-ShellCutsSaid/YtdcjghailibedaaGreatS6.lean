/-
  The plain laws of ShellBack and ShellCuts: a script that is written is read as itself; of less of it its first acts, of more its own acts first.
-/
import Derived.Test.YtdcjghailibedaaGreatS5
import Derived.Test.YtdcjghailibedaaGreatE16
set_option linter.unusedVariables false
set_option linter.unusedSimpArgs false
set_option maxRecDepth 10000
namespace Go.Proofs.YtdcjghailibedaaGreat
open Go.Th

theorem known1500 : thicketlaw28_known 1500 = some true := by kernel_rfl
theorem idx_mid {α : Type} (P R : List α) (a : α) (i : Nat) (h : P.length = i) : mIdx (P ++ a :: R) (i : Int) = some a := by
  subst h
  rw [idx_ok _ _ (by simp)]
  simp
theorem set_mid {α : Type} (P R : List α) (a x : α) (i : Nat) (h : P.length = i) : mSet (P ++ a :: R) (i : Int) x = P ++ x :: R := by
  subst h
  simp [mSet]
theorem step_ok (P R : List api_Act) (a : api_Act) (K J B Rm : Int) (i : Nat) (hP : P.length = i) :
    ((mIdx (shell_Script.mk K J B Rm (P ++ a :: R)).Acts (i : Int)).bind fun x1 =>
      ((bif x1.Kind != 1 then
        (mIdx (shell_Script.mk K J B Rm (P ++ a :: R)).Acts (i : Int)).bind fun x2 =>
        some (shell_Script.mk (shell_Script.mk K J B Rm (P ++ a :: R)).Kind (shell_Script.mk K J B Rm (P ++ a :: R)).Jobs (shell_Script.mk K J B Rm (P ++ a :: R)).Boxes (shell_Script.mk K J B Rm (P ++ a :: R)).Room (mSet (shell_Script.mk K J B Rm (P ++ a :: R)).Acts (i : Int) (api_Act.mk x2.Kind 0 x2.Command)))
      else
        some (shell_Script.mk K J B Rm (P ++ a :: R)))).bind fun s2 =>
      ((mIdx s2.Acts (i : Int)).bind fun x5 =>
      (bif x5.Kind != 1 then
        (mIdx s2.Acts (i : Int)).bind fun x6 =>
        some (x6.Kind != 3)
      else
        some false)).bind fun s3 =>
      (bif s3 then
        (mIdx s2.Acts (i : Int)).bind fun x7 =>
        some (shell_Script.mk s2.Kind s2.Jobs s2.Boxes s2.Room (mSet s2.Acts (i : Int) (api_Act.mk x7.Kind x7.Box (api_Command.mk 0 0 (api_Ref.mk 0 0) 0 0))))
      else
        some s2)) = some ⟨K, J, B, Rm, P ++ nrm a :: R⟩ := by
  simp only [idx_mid _ _ _ i hP, Option.bind_some]
  unfold nrm
  cases h1 : (a.Kind == 1)
  · have e1 : (a.Kind != 1) = true := by simp [bne, h1]
    simp only [e1, cond_true, Option.bind_some, set_mid _ _ _ _ i hP, idx_mid _ _ _ i hP]
    cases h3 : (a.Kind == 3)
    · have e3 : (a.Kind != 3) = true := by simp [bne, h3]
      simp only [e3, cond_true, Option.bind_some, set_mid _ _ _ _ i hP, idx_mid _ _ _ i hP, Bool.or_self, cond_false]
    · have e3 : (a.Kind != 3) = false := by simp [bne, h3]
      simp only [e3, cond_true, Option.bind_some, Bool.false_or, cond_false]
  · have e1 : (a.Kind != 1) = false := by simp [bne, h1]
    simp only [e1, cond_true, cond_false, Option.bind_some, idx_mid _ _ _ i hP, Bool.true_or]
theorem back_l0 (at1 e : Int) (l : List Int) (A : List api_Act) (hl : A.length ≤ 1000) : ∀ (n i k : Nat) (m : shell_Script), i + n = A.length → n < k → m.Acts = (A.take i).map nrm ++ A.drop i →
    thicketlaw28_ShellBack_l0 at1 e l k (i : Int) m = some ⟨m.Kind, m.Jobs, m.Boxes, m.Room, A.map nrm⟩
  | n, i, 0, m, _, hk, _ => by omega
  | 0, i, k + 1, m, hi, _, hm => by
    have e1 : i = A.length := by omega
    subst e1
    have hm' : m.Acts = A.map nrm := by rw [hm]; simp
    have hd : decide (((A.length : Nat) : Int) < (m.Acts.length : Int)) = false := by rw [hm']; simp
    rw [thicketlaw28_ShellBack_l0, hd, ← hm']; rfl
  | n + 1, i, k + 1, m, hi, hk, hm => by
    have hlt : i < A.length := by omega
    have hml : m.Acts.length = A.length := by rw [hm]; simp; omega
    have hd : decide ((i : Int) < (m.Acts.length : Int)) = true := by rw [hml]; simp; omega
    have hw : w64 ((i : Int) + 1) = ((i + 1 : Nat) : Int) := by rw [w64_id (by omega) (by omega)]; rfl
    rw [List.drop_eq_getElem_cons hlt] at hm
    have hP : ((A.take i).map nrm).length = i := by simp; omega
    rw [thicketlaw28_ShellBack_l0, hd, hw]
    simp only [cond_true]
    have fin : ∀ z : Option shell_Script, z = some ⟨m.Kind, m.Jobs, m.Boxes, m.Room, (A.take i).map nrm ++ nrm A[i] :: A.drop (i + 1)⟩ → (z.bind fun s1 => thicketlaw28_ShellBack_l0 at1 e l k ((i + 1 : Nat) : Int) s1) = some ⟨m.Kind, m.Jobs, m.Boxes, m.Room, A.map nrm⟩ := by
      rintro z rfl
      refine back_l0 at1 e l A hl n (i + 1) k _ (by omega) (by omega) ?_
      show (A.take i).map nrm ++ nrm A[i] :: A.drop (i + 1) = (A.take (i + 1)).map nrm ++ A.drop (i + 1)
      rw [List.take_succ_eq_append_getElem hlt, List.map_append, List.append_assoc]
      rfl
    refine fin _ ?_
    obtain ⟨K, J, B, Rm, Ac⟩ := m
    simp only at hm
    subst hm
    exact step_ok _ _ _ K J B Rm i hP
def TI (t : Int) : Prop := -9223372036854775808 ≤ t ∧ t < 9223372036854775808
theorem TI_tmod (t : Int) (h : TI t) : TI (t.tmod 30) := by
  have h1 := Int.tmod_lt_of_pos t (b := 30) (by omega)
  have h2 := Int.lt_tmod_of_pos t (b := 30) (by omega)
  exact ⟨by omega, by omega⟩
theorem made_ti (x : thicketlaw28_Raw) (hL : ∀ z ∈ x.L, EncI64 thicketkeep_D.enc z) (hA : ∀ z ∈ x.Acts, EncI64 api_Act.enc z) : Do (thicketlaw28_made 1500 x) fun s => s.Acts.length ≤ 52 ∧ TQ TI s :=
  made_ok TI TI_tmod 1500 (by omega) x (fun d hd => ⟨hL d hd _ (by simp [thicketkeep_D.enc]), hL d hd _ (by simp [thicketkeep_D.enc])⟩) fun a ha => hA a ha _ (by simp [api_Act.enc])
theorem decode_all (s : shell_Script) (hh : hdrOk s = true) (hG : Good s.Acts) (hl : s.Acts.length ≤ 52) : shell_Decode 1500 (hdrB s ++ acB s.Acts) = some (⟨s.Kind, s.Jobs, s.Boxes, s.Room, s.Acts.map nrm⟩, 0) := by
  have hb := acB_length s.Acts
  have h5 := hdr_length s
  rw [decode_hdr 1500 (by omega) s _ hh (by simp; omega)]
  obtain ⟨k', hk, he⟩ := dec_all ⟨0, 0, 0, 0, []⟩ (hdrB s ++ acB s.Acts) s.Acts 1500 ⟨s.Kind, s.Jobs, s.Boxes, s.Room, []⟩ [] hG (by omega) (by simp; omega) (by simp; omega)
  rw [List.append_nil] at he
  rw [he]
  obtain ⟨k2, rfl⟩ : ∃ k2, k' = k2 + 1 := ⟨k' - 1, by omega⟩
  rw [dec_step _ _ k2 (by omega) _ _ (by simp) (by simp; omega)]
  rfl
theorem good_of {s : shell_Script} (h : s.Acts.all mayB = true) (ht : TQ TI s) : Good s.Acts := fun a ha => ⟨List.all_eq_true.1 h a ha, ht a ha⟩
theorem shellBack_plain (x : thicketlaw28_Raw) (at_ : Int) (hL : ∀ z ∈ x.L, EncI64 thicketkeep_D.enc z) (hA : ∀ z ∈ x.Acts, EncI64 api_Act.enc z) : ∃ k, thicketlaw28_ShellBack k x at_ = some true := by
  refine ⟨1500, ?_⟩
  obtain ⟨s, hs, hl, ht⟩ := made_ti x hL hA
  have d : decide ((s.Acts.length : Int) > 256) = false := by simp; omega
  unfold thicketlaw28_ShellBack
  rw [hs]
  simp only [Option.bind_some]
  rw [encode_eq 1500 s (by omega), right_eq 1500 s (by omega), d]
  simp only [Option.bind_some, cond_false, known1500]
  cases hc : (hdrOk s && s.Acts.all mayB)
  · rfl
  rw [Bool.and_eq_true] at hc
  have hG := good_of hc.2 ht
  have hb := acB_length s.Acts
  have h5 := hdr_length s
  simp only [Bool.not_true, cond_false]
  rw [show ((0 : Int) != 0) = false from rfl]
  simp only [cond_false]
  have hbk := back_l0 at_ 0 (hdrB s ++ s.Acts.flatMap actB) s.Acts (by omega) s.Acts.length 0 1500 s (by omega) (by omega) (by simp)
  rw [show ((0 : Nat) : Int) = 0 from rfl] at hbk
  rw [hbk]
  simp only [Option.bind_some]
  have hda := decode_all s hc.1 hG hl
  unfold acB at hda
  rw [hda]
  simp only [Option.bind_some]
  rw [same_eq 1500 _ (by simp; omega) (by simp; omega)]
  have d5 : decide (((hdrB s ++ s.Acts.flatMap actB).length : Int) < 5) = false := by simp [h5]; omega
  simp only [Option.bind_some, Bool.not_true, cond_false, d5]
  rw [show ((0 : Int) != 0) = false from rfl]
  simp only [cond_false]
  have hlB : (hdrB s ++ s.Acts.flatMap actB).length ≤ 1000 := by simp only [List.length_append]; unfold acB at hb; omega
  obtain ⟨t6, ht6, h6a, h6b⟩ := within (n := at_) (lo := 5) (hi := ((hdrB s ++ s.Acts.flatMap actB).length : Int)) (by simp [h5]; omega) (by omega) (by omega)
  rw [ht6]
  obtain ⟨j, rfl⟩ : ∃ j : Nat, t6 = ((j + 5 : Nat) : Int) := ⟨(t6 - 5).toNat, by omega⟩
  have hcut := cut_ok (hdrB s ++ s.Acts.flatMap actB) 0 (j + 5) (by omega) (by omega)
  rw [show ((0 : Nat) : Int) = 0 from rfl] at hcut
  simp only [Option.bind_some]
  rw [hcut]
  simp only [Option.bind_some, List.drop_zero]
  have htk : (hdrB s ++ s.Acts.flatMap actB).take (j + 5) = hdrB s ++ (acB s.Acts).take j := by
    rw [List.take_append, List.take_of_length_le (by omega), h5]
    rfl
  rw [htk, decode_hdr 1500 (by omega) s _ hc.1 (by simp; omega)]
  obtain ⟨t, het, jj, hjj, ht1⟩ := dec_pre ⟨0, 0, 0, 0, []⟩ (hdrB s ++ (acB s.Acts).take j) s.Acts 1500 ⟨s.Kind, s.Jobs, s.Boxes, s.Room, []⟩ ((acB s.Acts).take j) ((acB s.Acts).drop j) hG (by omega) (by simp; omega) (by simp; omega) (List.take_append_drop _ _)
  rw [het]
  simp only [Option.bind_some, ht1, List.nil_append]
  have hlen : ((s.Acts.map nrm).take jj).length = jj := by simp; omega
  rw [hlen]
  have dj : decide ((jj : Int) > ((s.Acts.map nrm).length : Int)) = false := by simp; omega
  rw [dj]
  have hcut2 := cut_ok (s.Acts.map nrm) 0 jj (by omega) (by simp; omega)
  rw [show ((0 : Nat) : Int) = 0 from rfl] at hcut2
  simp only [cond_false]
  rw [hcut2]
  simp only [Option.bind_some, List.drop_zero]
  rw [show ((0 : Int) == 0) = true from rfl]
  simp only [cond_true]
  rw [same_eq 1500 _ (by simp; omega) (by simp; omega)]
  rfl
theorem shellCuts_plain (x : thicketlaw28_Raw) (more : List Int) (cut : Int) (hL : ∀ z ∈ x.L, EncI64 thicketkeep_D.enc z) (hA : ∀ z ∈ x.Acts, EncI64 api_Act.enc z) (hM : ∀ z ∈ more, 0 ≤ z ∧ z ≤ 255) : ∃ k, thicketlaw28_ShellCuts k x more cut = some true := by
  refine ⟨1500, ?_⟩
  obtain ⟨s, hs, hl, ht⟩ := made_ti x hL hA
  have d : decide ((s.Acts.length : Int) > 256) = false := by simp; omega
  unfold thicketlaw28_ShellCuts
  rw [hs]
  simp only [Option.bind_some]
  rw [encode_eq 1500 s (by omega), right_eq 1500 s (by omega), d]
  simp only [Option.bind_some, cond_false, known1500]
  cases hc : (hdrOk s && s.Acts.all mayB)
  · rfl
  rw [Bool.and_eq_true] at hc
  have hG := good_of hc.2 ht
  have hb := acB_length s.Acts
  have h5 := hdr_length s
  simp only [Bool.not_true, cond_false]
  rw [show ((0 : Int) != 0) = false from rfl]
  simp only [cond_false]
  obtain ⟨mo, hmo, hml⟩ : ∃ mo, ((bif decide ((more.length : Int) > 30) then (mCut more 0 30).bind fun l => some l else some more) : Option (List Int)) = some mo ∧ mo.length ≤ 30 := by
    cases hd : decide ((more.length : Int) > 30)
    · simp only [decide_eq_false_iff_not] at hd
      exact ⟨more, rfl, by omega⟩
    · simp only [decide_eq_true_eq] at hd
      have := cut_ok more 0 30 (by omega) (by omega)
      rw [show ((0 : Nat) : Int) = 0 from rfl, show ((30 : Nat) : Int) = 30 from rfl] at this
      exact ⟨more.take 30, by simp [this], by simp; omega⟩
  rw [hmo]
  have hlB : (hdrB s ++ s.Acts.flatMap actB).length ≤ 1000 := by simp only [List.length_append]; unfold acB at hb; omega
  have d5 : decide (((hdrB s ++ s.Acts.flatMap actB).length : Int) < 5) = false := by simp [h5]; omega
  simp only [Option.bind_some, d5, Bool.or_self, cond_false]
  obtain ⟨t4, ht4, h4a, h4b⟩ := within (n := cut) (lo := 0) (hi := 4) (by omega) (by omega) (by omega)
  rw [ht4]
  obtain ⟨j, rfl⟩ : ∃ j : Nat, t4 = (j : Int) := ⟨t4.toNat, by omega⟩
  have hcut := cut_ok (hdrB s ++ s.Acts.flatMap actB) 0 j (by omega) (by simp [h5]; omega)
  rw [show ((0 : Nat) : Int) = 0 from rfl] at hcut
  simp only [Option.bind_some]
  rw [hcut, app_ok (by simp only [List.length_nil]; omega)]
  simp only [Option.bind_some, List.drop_zero]
  rw [decode_few 1500 _ (by simp; omega), app_ok (by simp only [List.nil_append]; omega)]
  simp only [Option.bind_some, List.nil_append]
  have hda := decode_all s hc.1 hG hl
  unfold acB at hda
  rw [hda]
  have e1 : hdrB s ++ s.Acts.flatMap actB ++ mo = hdrB s ++ (acB s.Acts ++ mo) := by simp [acB]
  rw [e1, decode_hdr 1500 (by omega) s _ hc.1 (by simp; omega)]
  obtain ⟨k', hk, he⟩ := dec_all ⟨0, 0, 0, 0, []⟩ (hdrB s ++ (acB s.Acts ++ mo)) s.Acts 1500 ⟨s.Kind, s.Jobs, s.Boxes, s.Room, []⟩ mo hG (by omega) (by simp; omega) (by simp; omega)
  rw [he]
  obtain ⟨t, het, ext, ht1⟩ := dec_tot ⟨0, 0, 0, 0, []⟩ (hdrB s ++ (acB s.Acts ++ mo)) 30 k' ⟨s.Kind, s.Jobs, s.Boxes, s.Room, [] ++ s.Acts.map nrm⟩ ⟨mo, false⟩ hml (by omega) (by simp; omega) (by simp; omega)
  rw [het]
  simp only [Option.bind_some, ht1, List.nil_append]
  rw [show ((12 : Int) != 12) = false from rfl, show ((0 : Int) != 0) = false from rfl]
  have d1 : decide (((s.Acts.map nrm ++ ext).length : Int) < ((s.Acts.map nrm).length : Int)) = false := by simp; omega
  have d2 : (((s.Acts.map nrm).length : Int) != (s.Acts.length : Int)) = false := by simp
  simp only [cond_false, d1, d2, Option.bind_some]
  have hcut2 := cut_ok (s.Acts.map nrm ++ ext) 0 (s.Acts.map nrm).length (by omega) (by simp)
  rw [show ((0 : Nat) : Int) = 0 from rfl] at hcut2
  rw [hcut2]
  simp only [Option.bind_some, List.drop_zero, List.take_left']
  rw [same_eq 1500 _ (by simp; omega) (by simp; omega)]
  rfl
end Go.Proofs.YtdcjghailibedaaGreat
