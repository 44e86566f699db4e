import Derived.Below
import Derived.ChangeOld
import Derived.JoinedCond
import Derived.OpenShut
import Derived.ProofKit
import Derived.ShutString
import Derived.SliceStrings
import Derived.Test.YteflmnbkdhneiaaGreatRows
import Derived.WalkKit
import Derived.Test.YteflmnbkdhneiaaGreatYa6
set_option linter.unusedVariables false
set_option linter.unusedSimpArgs false
namespace Go.Proofs.YteflmnbkdhneiaaGreat.fairFires
open Go.ChangeShapes Go.WideShapes Go.ChangeAt Go.RowKit
noncomputable section
open Go.ChangeMaps (open_string shut_string)
set_option maxRecDepth 10000
theorem own : ownKnob Tryz.prog.godebug = none := by kernel_rfl
theorem laidOut : laidOutB Tryz.prog = true := by kernel_rfl
set_option maxRecDepth 100000 in
theorem lifted (os : Os) (started : os.Started) (H : Type) (enc : TypeId × Value -> H) :
  ReturnsInHanded {} Tryz.checked os 11 .any (Rows.fairFiresSpec.pre6 enc Tryz.prog Tryz.f11 Rows.fairFiresRow.domain false) (Rows.fairFiresSpec.post enc Tryz.prog Tryz.f11 false true false false) := by
 refine returnsInHanded_of_change (C := Tryz.checked) own started (by kernel_rfl) Tryz.func11
  (ChangeSpec.witness6 (enc := enc) (C := Tryz.checked) false ⟨#[], #[.int .i64 0, .int .i64 0, .slice none 0 0, .int .i64 0], []⟩ 8 (by kernel_rfl) (by kernel_rfl) (by kernel_rfl) (by kernel_rfl)) ?_
 intro W base args ds gs before hval0 hW hcnd _;have hval : ∀ (j : Nat) t v, Tryz.f11.params[j]? = some t -> args[j]? = some v -> Value.okWide Tryz.prog W .any base t v := hval0;have hW' := hW;obtain ⟨p, q, hA0, hV, rfl, hfz, hnd⟩ := hW;have hA : DataW.TrodAll enc Tryz.prog W 0 (fun _ => true) true Tryz.f11.params.toList args.toList ds p := hA0;rw [Tryz.params11] at hA hval;obtain ⟨v0, vs0, d0, ds0, p0, q0, hargs, rfl, rfl, h0, r0⟩ := trodAll_cons hA;obtain ⟨v1, vs1, d1, ds1, p1, q1, rfl, rfl, rfl, h1, r1⟩ := trodAll_cons r0;obtain ⟨v2, vs2, d2, ds2, p2, q2, rfl, rfl, rfl, h2, r2⟩ := trodAll_cons r1;obtain ⟨v3, vs3, d3, ds3, p3, q3, rfl, rfl, rfl, h3, r3⟩ := trodAll_cons r2;obtain ⟨rfl, rfl, rfl⟩ := trodAll_nil r3;obtain rfl : args = #[v0, v1, v2, v3] := by cases args; simp_all
 obtain ⟨rfl, rfl⟩ := trodVars_none hV;obtain ⟨a0, rfl, rfl, rfl, w0⟩ := open_int Tryz.underlying3 (hval 0 3 v0 rfl rfl) h0;obtain ⟨a1, rfl, rfl, rfl, w1⟩ := open_int Tryz.underlying3 (hval 1 3 v1 rfl rfl) h1;obtain ⟨a2, len2, cap2, rfl⟩ := okWide_slice Tryz.underlying59 (hval 2 59 v2 rfl rfl);have k2 := h2;have lt2 : ∀ x ∈ p2, x.block < W.heap.size := by obtain ⟨m, hm⟩ := k2; exact DataW.trod_lt m _ _ _ hm
 obtain ⟨l2, hl2, hC2, hX2⟩ : ∃ l : List Int, l.length = len2 /\ len2 <= cap2 /\ Th.SlRd (Th.Old W) Th.ecI 1 a2 l := by
  obtain ⟨fuel, hf⟩ := h2;obtain ⟨sb, len, cap, l, hcs, hl, hC, hX⟩ := Th.dg (α := Int) Tryz.underlying59 (by kernel_rfl) Th.xN (by decide) (Th.dK (by kernel_rfl)) hf;simp [Value.cells] at hcs;obtain ⟨rfl, rfl, rfl⟩ := hcs;exact ⟨l, hl, hC, hX⟩
 subst hl2;obtain ⟨a3, rfl, rfl, rfl, w3⟩ := open_int Tryz.underlying2 (hval 3 2 v3 rfl rfl) h3;clear hA0 hval0;obtain ⟨k, hm⟩ := fairFires_plain a0 a1 l2 a3;have hw := tI (X_times := Th.Old W)  hX2 hC2 hm (Th.St.begin W);refine Calls.mono hw fun e W' ⟨v, he, hv, HS⟩ => ?_
 subst hv; subst he;have bel := HS.below 0 rfl;exact ⟨_, rfl, _, _, _, [], _, [], hW', trodAll_mk1 (shut_bool Tryz.underlying4 _), (trodAll_cons_mk (shut_int Tryz.underlying3 w0) (trodAll_cons_mk (shut_int Tryz.underlying3 w1) (trodAll_cons_mk (Below.trod laidOut (by kernel_rfl) (of_decide_eq_true (by kernel_rfl)) k2 bel lt2) (trodAll_cons_mk (shut_int Tryz.underlying2 w3) trodAll_mk0)))), rfl, bel.frame _, fun h => by cases h⟩
end
end Go.Proofs.YteflmnbkdhneiaaGreat.fairFires
namespace Go.Proofs.YteflmnbkdhneiaaGreat.fairFires
noncomputable section
set_option maxRecDepth 10000
theorem fj : (Rows.fairFiresRow.inPlace == Tryz.pinned.checked.prog.inPlace 11) = true := by kernel_rfl
end
noncomputable section
set_option maxRecDepth 10000
theorem lJ : (Rows.fairFiresRow.unfollowed == Tryz.pinned.checked.prog.unfollowed 11) = true := by kernel_rfl
end
noncomputable section
set_option maxRecDepth 10000
theorem j6 : (Rows.fairFiresRow.recurses == Tryz.pinned.checked.prog.recurses 11) = true := by kernel_rfl
end
noncomputable section
set_option maxRecDepth 10000
theorem eS : (Rows.fairFiresRow.named == Tryz.pinned.checked.prog.varsNamed 11) = true := by kernel_rfl
end
noncomputable section
set_option maxRecDepth 10000
theorem closed : joinedFacts Tryz.pinned.checked.prog 11 Tryz.f11 Rows.fairFiresSpec Rows.fairFiresRow = true := by
 unfold joinedFacts;rw [fj, lJ, j6, eS]
 kernel_rfl
end
end Go.Proofs.YteflmnbkdhneiaaGreat.fairFires
namespace Go.Proofs.YteflmnbkdhneiaaGreat.fairFires
open Go.ChangeShapes Go.WideShapes Go.ChangeAt Go.RowKit
noncomputable section
open Go.ChangeMaps (open_string shut_string)
set_option maxRecDepth 10000
theorem over : Rows.fairFiresRow.holds Tryz.pinned (OpenSpec.ofChange Rows.fairFiresSpec) :=
 OpenClaim.holds_of_wide 11 Tryz.f11 rfl rfl rfl rfl rfl rfl rfl ⟨rfl, rfl, rfl, rfl, rfl⟩ rfl rfl rfl rfl rfl (by kernel_rfl) Tryz.func11 closed
  (of_decide_eq_true (by kernel_rfl)) (by unfold Func.isWrapper; first | (rw [if_pos (by decide +kernel)]; kernel_rfl) | (rw [if_neg (by decide +kernel)]; exact ⟨rfl, rfl⟩))
  (fun os started H enc _ => lifted os started H enc)
theorem fairFires_holds : Rows.FairFiresSaid := over
end
end Go.Proofs.YteflmnbkdhneiaaGreat.fairFires
