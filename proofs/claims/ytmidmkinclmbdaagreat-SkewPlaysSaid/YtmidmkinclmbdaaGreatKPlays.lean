/-
  PROOF OF 'Rows.SkewPlaysSaid': WHATEVER THE INPUT the Go function thicket/thicketlaw11.SkewPlays returns true, and its arguments read as they did. (No other condition.)
-/
import Derived.Test.YtmidmkinclmbdaaGreatRows
import Derived.Test.YtmidmkinclmbdaaGreatE7
import Derived.Test.YtmidmkinclmbdaaGreatVY
import Derived.WalkKit
import Derived.ProofKit
import Derived.OpenShut
import Derived.ShutString
import Derived.ChangeOld
import Derived.Below
import Derived.SliceStrings
import Derived.JoinedCond
namespace Go.Proofs.YtmidmkinclmbdaaGreat.skewPlays
open Go.ChangeShapes Go.WideShapes Go.ChangeAt Go.RowKit
open Go.ChangeMaps (open_string shut_string)
set_option linter.unusedVariables false
set_option maxRecDepth 10000

theorem own : ownKnob Tryz.prog.godebug = none := by kernel_rfl
theorem laidOut : laidOutB Tryz.prog = true := by kernel_rfl

set_option maxRecDepth 100000 in
theorem lifted (os : Os) (started : os.Started) (H : Type) (enc : TypeId × Value → H) :
    ReturnsInHanded {} Tryz.checked os 14 .any (Rows.skewPlaysSpec.pre6 enc Tryz.prog Tryz.f14 Rows.skewPlaysRow.domain false) (Rows.skewPlaysSpec.post enc Tryz.prog Tryz.f14 false true false false) := by
  refine returnsInHanded_of_change (C := Tryz.checked) own started (by kernel_rfl) Tryz.func14
    (ChangeSpec.witness6 (enc := enc) (C := Tryz.checked) false ⟨#[], #[.slice none 0 0], []⟩ 8 (by kernel_rfl) (by kernel_rfl) (by kernel_rfl) (by kernel_rfl)) ?_
  intro W base args ds gs before hval0 hW hcnd _
  have hval : ∀ (j : Nat) t v, Tryz.f14.params[j]? = some t → args[j]? = some v → Value.okWide Tryz.prog W .any base t v := hval0
  have hW' := hW
  obtain ⟨p, q, hA0, hV, rfl, hfz, hnd⟩ := hW
  have hA : DataW.TrodAll enc Tryz.prog W 0 (fun _ => true) true Tryz.f14.params.toList args.toList ds p := hA0
  rw [Tryz.params14] at hA hval
  obtain ⟨v0, vs0, d0, ds0, p0, q0, hargs, rfl, rfl, h0, r0⟩ := trodAll_cons hA
  obtain ⟨rfl, rfl, rfl⟩ := trodAll_nil r0
  obtain rfl : args = #[v0] := by cases args; simp_all
  obtain ⟨rfl, rfl⟩ := trodVars_none hV
  obtain ⟨a0, len0, cap0, rfl⟩ := okWide_slice Tryz.underlying77 (hval 0 77 v0 rfl rfl)
  have k0 := h0
  have lt0 : ∀ x ∈ p0, x.block < W.heap.size := by obtain ⟨m, hm⟩ := k0; exact DataW.trod_lt m _ _ _ hm
  obtain ⟨l0, hl0, hC0, hX0⟩ : ∃ l : List thicketlaw11_Ask, l.length = len0 ∧ len0 ≤ cap0 ∧ Th.SlRd (Th.Old W) thicketlaw11_Ask.enc 4 a0 l := by
    obtain ⟨fuel, hf⟩ := h0
    obtain ⟨sb, len, cap, l, hcs, hl, hC, hX⟩ := Th.open_rd (α := thicketlaw11_Ask) Tryz.underlying77 (by kernel_rfl) thicketlaw11_Ask.enc_ok (by decide) (fun n cs y h => by
      obtain ⟨z, hz, rfl⟩ := Th.dec_ints (P := Tryz.prog) (e := 82) 4 rfl (by kernel_rfl) (by kernel_rfl) (by kernel_rfl) n cs y h
      match z, hz with
      | [x0, x1, x2, x3], _ => exact ⟨thicketlaw11_Ask.mk x0 x1 x2 x3, rfl⟩) hf
    simp [Value.cells] at hcs
    obtain ⟨rfl, rfl, rfl⟩ := hcs
    exact ⟨l, hl, hC, hX⟩
  subst hl0
  clear hA0 hval0
  obtain ⟨k, hm⟩ := skewPlays_plain l0
  have hw := thicketlaw11_SkewPlays_ok (X_l := Th.Old W) hX0 hC0 hm (Th.St.begin W)
  refine Calls.mono hw fun e W' ⟨v, he, hv, HS⟩ => ?_
  subst hv; subst he
  have bel := HS.below 0 rfl
  exact ⟨_, rfl, _, _, _, [], _, [], hW', trodAll_mk1 (shut_bool Tryz.underlying4 _), (trodAll_cons_mk (Below.trod laidOut (by kernel_rfl) (of_decide_eq_true (by kernel_rfl)) k0 bel lt0) trodAll_mk0), rfl, bel.frame _, fun h => by cases h⟩

theorem over : Rows.skewPlaysRow.holds Tryz.pinned (OpenSpec.ofChange Rows.skewPlaysSpec) :=
  OpenClaim.holds_of_wide 14 Tryz.f14 rfl rfl rfl rfl rfl rfl rfl ⟨rfl, rfl, rfl, rfl, rfl⟩ rfl rfl rfl rfl rfl (by kernel_rfl) Tryz.func14 (by kernel_rfl)
    (of_decide_eq_true (by kernel_rfl)) (by unfold Func.isWrapper; first | (rw [if_pos (by decide +kernel)]; kernel_rfl) | (rw [if_neg (by decide +kernel)]; exact ⟨rfl, rfl⟩))
    (fun os started H enc _ => lifted os started H enc)

theorem skewPlays_holds : Rows.SkewPlaysSaid := over
end Go.Proofs.YtmidmkinclmbdaaGreat.skewPlays
