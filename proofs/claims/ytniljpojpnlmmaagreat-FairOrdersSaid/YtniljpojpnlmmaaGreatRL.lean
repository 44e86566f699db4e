/-
  PROOF OF 'Rows.FairOrdersSaid': WHATEVER THE INPUT the Go function thicket/thicketlaw27.FairOrders returns true, and its arguments read as they did. (No other condition.)
-/
import Derived.Test.YtniljpojpnlmmaaGreatRows
import Derived.Test.YtniljpojpnlmmaaGreatE7
import Derived.Test.YtniljpojpnlmmaaGreatE14
import Derived.Test.YtniljpojpnlmmaaGreatXF
import Derived.WalkKit
import Derived.ProofKit
import Derived.OpenShut
import Derived.ShutString
import Derived.ChangeOld
import Derived.Below
import Derived.SliceStrings
import Derived.JoinedCond
namespace Go.Proofs.YtniljpojpnlmmaaGreat.fairOrders
open Go.ChangeShapes Go.WideShapes Go.ChangeAt Go.RowKit
open Go.ChangeMaps (open_string shut_string)
set_option linter.unusedVariables false
set_option maxRecDepth 10000

theorem own : ownKnob Tryz.prog.godebug = none := by kernel_rfl
theorem laidOut : laidOutB Tryz.prog = true := by kernel_rfl

set_option maxRecDepth 100000 in
theorem lifted (os : Os) (started : os.Started) (H : Type) (enc : TypeId × Value → H) :
    ReturnsInHanded {} Tryz.checked os 6 .any (Rows.fairOrdersSpec.pre6 enc Tryz.prog Tryz.f6 Rows.fairOrdersRow.domain false) (Rows.fairOrdersSpec.post enc Tryz.prog Tryz.f6 false true false false) := by
  refine returnsInHanded_of_change (C := Tryz.checked) own started (by kernel_rfl) Tryz.func6
    (ChangeSpec.witness6 (enc := enc) (C := Tryz.checked) false ⟨#[], #[.slice none 0 0, .slice none 0 0], []⟩ 8 (by kernel_rfl) (by kernel_rfl) (by kernel_rfl) (by kernel_rfl)) ?_
  intro W base args ds gs before hval0 hW hcnd _
  have hval : ∀ (j : Nat) t v, Tryz.f6.params[j]? = some t → args[j]? = some v → Value.okWide Tryz.prog W .any base t v := hval0
  have hW' := hW
  obtain ⟨p, q, hA0, hV, rfl, hfz, hnd⟩ := hW
  have hA : DataW.TrodAll enc Tryz.prog W 0 (fun _ => true) true Tryz.f6.params.toList args.toList ds p := hA0
  rw [Tryz.params6] at hA hval
  obtain ⟨v0, vs0, d0, ds0, p0, q0, hargs, rfl, rfl, h0, r0⟩ := trodAll_cons hA
  obtain ⟨v1, vs1, d1, ds1, p1, q1, rfl, rfl, rfl, h1, r1⟩ := trodAll_cons r0
  obtain ⟨rfl, rfl, rfl⟩ := trodAll_nil r1
  obtain rfl : args = #[v0, v1] := by cases args; simp_all
  obtain ⟨rfl, rfl⟩ := trodVars_none hV
  obtain ⟨a0, len0, cap0, rfl⟩ := okWide_slice Tryz.underlying57 (hval 0 57 v0 rfl rfl)
  have k0 := h0
  have lt0 : ∀ x ∈ p0, x.block < W.heap.size := by obtain ⟨m, hm⟩ := k0; exact DataW.trod_lt m _ _ _ hm
  obtain ⟨l0, hl0, hC0, hX0⟩ : ∃ l : List trace_Event, l.length = len0 ∧ len0 ≤ cap0 ∧ Th.SlRd (Th.Old W) trace_Event.enc 14 a0 l := by
    obtain ⟨fuel, hf⟩ := h0
    obtain ⟨sb, len, cap, l, hcs, hl, hC, hX⟩ := Th.open_rd (α := trace_Event) Tryz.underlying57 (by kernel_rfl) trace_Event.enc_ok (by decide) (fun n cs y h => by
      obtain ⟨z, hz, rfl⟩ := Th.dec_nest (P := Tryz.prog) (e := 64) 14 (by kernel_rfl) (by kernel_rfl) n cs y h
      match z, hz with
      | [x0, x1, x2, x3, x4, x5, x6, x7, x8, x9, x10, x11, x12, x13], _ => exact ⟨trace_Event.mk (api_Command.mk x0 x1 (api_Ref.mk x2 x3) x4 x5) (api_Reply.mk x6 (api_Ref.mk x7 x8) x9 x10 x11) x12 x13, rfl⟩) hf
    simp [Value.cells] at hcs
    obtain ⟨rfl, rfl, rfl⟩ := hcs
    exact ⟨l, hl, hC, hX⟩
  subst hl0
  obtain ⟨a1, len1, cap1, rfl⟩ := okWide_slice Tryz.underlying22 (hval 1 22 v1 rfl rfl)
  have k1 := h1
  have lt1 : ∀ x ∈ p1, x.block < W.heap.size := by obtain ⟨m, hm⟩ := k1; exact DataW.trod_lt m _ _ _ hm
  obtain ⟨l1, hl1, hC1, hX1⟩ : ∃ l : List Int, l.length = len1 ∧ len1 ≤ cap1 ∧ Th.SlRd (Th.Old W) Th.ecI 1 a1 l := by
    obtain ⟨fuel, hf⟩ := h1
    obtain ⟨sb, len, cap, l, hcs, hl, hC, hX⟩ := Th.open_rd (α := Int) Tryz.underlying22 (by kernel_rfl) Th.ecI_ok (by decide) (Th.dec_int (by kernel_rfl)) hf
    simp [Value.cells] at hcs
    obtain ⟨rfl, rfl, rfl⟩ := hcs
    exact ⟨l, hl, hC, hX⟩
  subst hl1
  clear hA0 hval0
  obtain ⟨k, hm⟩ := fairOrders_plain l0 l1
  have hw := thicketlaw27_FairOrders_ok (X_l := Th.Old W) hX0 hC0 hX1 hC1 hm (Th.St.begin W)
  refine Calls.mono hw fun e W' ⟨v, he, hv, HS⟩ => ?_
  subst hv; subst he
  have bel := HS.below 0 rfl
  exact ⟨_, rfl, _, _, _, [], _, [], hW', trodAll_mk1 (shut_bool Tryz.underlying4 _), (trodAll_cons_mk (Below.trod laidOut (by kernel_rfl) (of_decide_eq_true (by kernel_rfl)) k0 bel lt0) (trodAll_cons_mk (Below.trod laidOut (by kernel_rfl) (of_decide_eq_true (by kernel_rfl)) k1 bel lt1) trodAll_mk0)), rfl, bel.frame _, fun h => by cases h⟩

end Go.Proofs.YtniljpojpnlmmaaGreat.fairOrders
