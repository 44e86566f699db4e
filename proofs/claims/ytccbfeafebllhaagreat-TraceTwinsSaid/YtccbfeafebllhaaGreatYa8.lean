/-
  The statements TraceTwins of the program.
  Text 7 of 7: of what the proof needs (a row of the program: no condition is left); put together and made narrow by a program.
-/
import Derived.Below
import Derived.ChangeOld
import Derived.JoinedCond
import Derived.OpenShut
import Derived.ProofKit
import Derived.ShutString
import Derived.SliceStrings
import Derived.Test.YtccbfeafebllhaaGreatRows
import Derived.WalkKit
import Derived.Test.YtccbfeafebllhaaGreatYa7
set_option linter.unusedVariables false
set_option linter.unusedSimpArgs false
namespace Go.Proofs.YtccbfeafebllhaaGreat.traceTwins
open Go.ChangeShapes Go.WideShapes Go.ChangeAt Go.RowKit
noncomputable section
open Go.ChangeMaps (open_string shut_string)
set_option maxRecDepth 10000
theorem own : ownKnob Tryz.prog.godebug = none := by kernel_rfl
theorem laidOut : laidOutB Tryz.prog = true := by kernel_rfl
set_option maxRecDepth 100000 in
theorem lifted (os : Os) (started : os.Started) (H : Type) (enc : TypeId × Value -> H) :
  ReturnsInHanded {} Tryz.checked os 3 .any (Rows.traceTwinsSpec.pre6 enc Tryz.prog Tryz.f3 Rows.traceTwinsRow.domain false) (Rows.traceTwinsSpec.post enc Tryz.prog Tryz.f3 false true false false) := by
 refine returnsInHanded_of_change (C := Tryz.checked) own started (by kernel_rfl) Tryz.func3
  (ChangeSpec.witness6 (enc := enc) (C := Tryz.checked) false ⟨#[], #[.int .i64 0, .slice none 0 0], []⟩ 8 (by kernel_rfl) (by kernel_rfl) (by kernel_rfl) (by kernel_rfl)) ?_
 intro W base args ds gs before hval0 hW hcnd _;have hval : ∀ (j : Nat) t v, Tryz.f3.params[j]? = some t -> args[j]? = some v -> Value.okWide Tryz.prog W .any base t v := hval0;have hW' := hW;obtain ⟨p, q, hA0, hV, rfl, hfz, hnd⟩ := hW;have hA : DataW.TrodAll enc Tryz.prog W 0 (fun _ => true) true Tryz.f3.params.toList args.toList ds p := hA0;rw [Tryz.params3] at hA hval;obtain ⟨v0, vs0, d0, ds0, p0, q0, hargs, rfl, rfl, h0, r0⟩ := trodAll_cons hA;obtain ⟨v1, vs1, d1, ds1, p1, q1, rfl, rfl, rfl, h1, r1⟩ := trodAll_cons r0;obtain ⟨rfl, rfl, rfl⟩ := trodAll_nil r1;obtain rfl : args = #[v0, v1] := by cases args; simp_all
 obtain ⟨rfl, rfl⟩ := trodVars_none hV;obtain ⟨a0, rfl, rfl, rfl, w0⟩ := open_int Tryz.underlying3 (hval 0 3 v0 rfl rfl) h0;obtain ⟨a1, len1, cap1, rfl⟩ := okWide_slice Tryz.underlying22 (hval 1 22 v1 rfl rfl);have k1 := h1;have lt1 : ∀ x ∈ p1, x.block < W.heap.size := by obtain ⟨m, hm⟩ := k1; exact DataW.trod_lt m _ _ _ hm
 obtain ⟨l1, hl1, hC1, hX1⟩ : ∃ l : List zY, l.length = len1 /\ len1 <= cap1 /\ Th.SlRd (Th.Old W) zY.enc 8 a1 l := by
  obtain ⟨fuel, hf⟩ := h1;obtain ⟨sb, len, cap, l, hcs, hl, hC, hX⟩ := Th.dH (α := zY) Tryz.underlying22 (by kernel_rfl) zY.yk (by decide) (fun n cs y h => by
   obtain ⟨z, hz, rfl⟩ := Th.eW (P := Tryz.prog) (e := 37) 8 (by kernel_rfl) (by kernel_rfl) n cs y h
   match z, hz with
   | [x0, x1, x2, x3, x4, x5, x6, x7], _ => exact ⟨zY.mk x0 x1 (zt.mk x2 x3 (zc.mk x4 x5) x6 x7), rfl⟩) hf
  simp [Value.cells] at hcs;obtain ⟨rfl, rfl, rfl⟩ := hcs;exact ⟨l, hl, hC, hX⟩
 subst hl1;clear hA0 hval0;obtain ⟨k, hm⟩ := traceTwins_plain a0 l1;have hw := tV (X_l := Th.Old W)  hX1 hC1 hm (Th.St.begin W);refine Calls.mono hw fun e W' ⟨v, he, hv, HS⟩ => ?_
 subst hv; subst he;have bel := HS.below 0 rfl;exact ⟨_, rfl, _, _, _, [], _, [], hW', trodAll_mk1 (shut_bool Tryz.underlying4 _), (trodAll_cons_mk (shut_int Tryz.underlying3 w0) (trodAll_cons_mk (Below.trod laidOut (by kernel_rfl) (of_decide_eq_true (by kernel_rfl)) k1 bel lt1) trodAll_mk0)), rfl, bel.frame _, fun h => by cases h⟩
end
end Go.Proofs.YtccbfeafebllhaaGreat.traceTwins
namespace Go.Proofs.YtccbfeafebllhaaGreat.traceTwins
noncomputable section
set_option maxRecDepth 10000
theorem fI : (Rows.traceTwinsRow.inPlace == Tryz.pinned.checked.prog.inPlace 3) = true := by kernel_rfl
end
noncomputable section
set_option maxRecDepth 10000
theorem kA : (Rows.traceTwinsRow.unfollowed == Tryz.pinned.checked.prog.unfollowed 3) = true := by kernel_rfl
end
noncomputable section
set_option maxRecDepth 10000
theorem iZ : (Rows.traceTwinsRow.recurses == Tryz.pinned.checked.prog.recurses 3) = true := by kernel_rfl
end
noncomputable section
set_option maxRecDepth 10000
theorem dZ : (Rows.traceTwinsRow.named == Tryz.pinned.checked.prog.varsNamed 3) = true := by kernel_rfl
end
noncomputable section
set_option maxRecDepth 10000
theorem closed : joinedFacts Tryz.pinned.checked.prog 3 Tryz.f3 Rows.traceTwinsSpec Rows.traceTwinsRow = true := by
 unfold joinedFacts;rw [fI, kA, iZ, dZ]
 kernel_rfl
end
end Go.Proofs.YtccbfeafebllhaaGreat.traceTwins
namespace Go.Proofs.YtccbfeafebllhaaGreat.traceTwins
open Go.ChangeShapes Go.WideShapes Go.ChangeAt Go.RowKit
noncomputable section
open Go.ChangeMaps (open_string shut_string)
set_option maxRecDepth 10000
theorem over : Rows.traceTwinsRow.holds Tryz.pinned (OpenSpec.ofChange Rows.traceTwinsSpec) :=
 OpenClaim.holds_of_wide 3 Tryz.f3 rfl rfl rfl rfl rfl rfl rfl ⟨rfl, rfl, rfl, rfl, rfl⟩ rfl rfl rfl rfl rfl (by kernel_rfl) Tryz.func3 closed
  (of_decide_eq_true (by kernel_rfl)) (by unfold Func.isWrapper; first | (rw [if_pos (by decide +kernel)]; kernel_rfl) | (rw [if_neg (by decide +kernel)]; exact ⟨rfl, rfl⟩))
  (fun os started H enc _ => lifted os started H enc)
theorem traceTwins_holds : Rows.TraceTwinsSaid := over
end
end Go.Proofs.YtccbfeafebllhaaGreat.traceTwins
