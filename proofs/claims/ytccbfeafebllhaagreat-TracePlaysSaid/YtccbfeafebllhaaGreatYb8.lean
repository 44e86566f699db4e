/-
  The statements TracePlays of the program.
  Text 8 of 8: of what the proof needs (a row of the program: no condition is left); put together and made narrow by a program.
-/
import Derived.Below
import Derived.ChangeOld
import Derived.JoinedCond
import Derived.OpenShut
import Derived.ProofKit
import Derived.ShutString
import Derived.SliceStrings
import Derived.Test.YtccbfeafebllhaaGreatRows
import Derived.WalkKit
import Derived.Test.YtccbfeafebllhaaGreatYb7
set_option linter.unusedVariables false
set_option linter.unusedSimpArgs false
namespace Go.Proofs.YtccbfeafebllhaaGreat.tracePlays
open Go.ChangeShapes Go.WideShapes Go.ChangeAt Go.RowKit
noncomputable section
open Go.ChangeMaps (open_string shut_string)
set_option maxRecDepth 10000
theorem own : ownKnob Tryz.prog.godebug = none := by kernel_rfl
theorem laidOut : laidOutB Tryz.prog = true := by kernel_rfl
set_option maxRecDepth 100000 in
theorem lifted (os : Os) (started : os.Started) (H : Type) (enc : TypeId × Value -> H) :
  ReturnsInHanded {} Tryz.checked os 4 .any (Rows.tracePlaysSpec.pre6 enc Tryz.prog Tryz.f4 Rows.tracePlaysRow.domain false) (Rows.tracePlaysSpec.post enc Tryz.prog Tryz.f4 false true false false) := by
 refine returnsInHanded_of_change (C := Tryz.checked) own started (by kernel_rfl) Tryz.func4
  (ChangeSpec.witness6 (enc := enc) (C := Tryz.checked) false ⟨#[], #[.int .i64 0, .int .i64 0, .slice none 0 0], []⟩ 8 (by kernel_rfl) (by kernel_rfl) (by kernel_rfl) (by kernel_rfl)) ?_
 intro W base args ds gs before hval0 hW hcnd _;have hval : ∀ (j : Nat) t v, Tryz.f4.params[j]? = some t -> args[j]? = some v -> Value.okWide Tryz.prog W .any base t v := hval0;have hW' := hW;obtain ⟨p, q, hA0, hV, rfl, hfz, hnd⟩ := hW;have hA : DataW.TrodAll enc Tryz.prog W 0 (fun _ => true) true Tryz.f4.params.toList args.toList ds p := hA0;rw [Tryz.params4] at hA hval;obtain ⟨v0, vs0, d0, ds0, p0, q0, hargs, rfl, rfl, h0, r0⟩ := trodAll_cons hA;obtain ⟨v1, vs1, d1, ds1, p1, q1, rfl, rfl, rfl, h1, r1⟩ := trodAll_cons r0;obtain ⟨v2, vs2, d2, ds2, p2, q2, rfl, rfl, rfl, h2, r2⟩ := trodAll_cons r1;obtain ⟨rfl, rfl, rfl⟩ := trodAll_nil r2;obtain rfl : args = #[v0, v1, v2] := by cases args; simp_all
 obtain ⟨rfl, rfl⟩ := trodVars_none hV;obtain ⟨a0, rfl, rfl, rfl, w0⟩ := open_int Tryz.underlying3 (hval 0 3 v0 rfl rfl) h0;obtain ⟨a1, rfl, rfl, rfl, w1⟩ := open_int Tryz.underlying3 (hval 1 3 v1 rfl rfl) h1;obtain ⟨a2, len2, cap2, rfl⟩ := okWide_slice Tryz.underlying47 (hval 2 47 v2 rfl rfl);have k2 := h2;have lt2 : ∀ x ∈ p2, x.block < W.heap.size := by obtain ⟨m, hm⟩ := k2; exact DataW.trod_lt m _ _ _ hm
 obtain ⟨l2, hl2, hC2, hX2, hR2⟩ : ∃ l : List zx, l.length = len2 /\ len2 <= cap2 /\ Th.SlRd (Th.Old W) zx.enc 21 a2 l /\ ∀ z ∈ l, Th.js zx.enc z := by
  obtain ⟨fuel, hf⟩ := h2;obtain ⟨sb, len, cap, m, hcs, hl, hC, hX⟩ := Th.aF (α := {z : zx // Th.js zx.enc z}) (enc := fun z => zx.enc z.1) Tryz.underlying47 (by kernel_rfl) zx.zU.sub (by decide) (fun n cs y h => by
   obtain ⟨z, hz, rfl, hr⟩ := Th.dz (P := Tryz.prog) (e := 57) 21 (by kernel_rfl) (by kernel_rfl) n cs y h
   match z, hz, hr with
   | [x0, x1, x2, x3, x4, x5, x6, x7, x8, x9, x10, x11, x12, x13, x14, x15, x16, x17, x18, x19, x20], _, hr => exact ⟨⟨zx.mk x0 x1 (yp.mk x2 x3 x4 x5 x6 (zt.mk x7 x8 (zd.mk x9 x10) x11 x12)) (y2.mk x13 x14 (zt.mk x15 x16 (zd.mk x17 x18) x19 x20)), fun n hn => hr n (Th.cX (l := [x0, x1, x2, x3, x4, x5, x6, x7, x8, x9, x10, x11, x12, x13, x14, x15, x16, x17, x18, x19, x20]) hn)⟩, rfl⟩) hf
  simp [Value.cells] at hcs;obtain ⟨rfl, rfl, rfl⟩ := hcs;exact ⟨m.map (·.1), by rw [List.length_map]; exact hl, hC, hX.sub, Th.ao _⟩
 subst hl2;clear hA0 hval0;obtain ⟨k, hm⟩ := tracePlays_plain a0 a1 l2 hR2;have hw := sv (X_l := Th.Old W)  hX2 hC2 hm (Th.St.begin W);refine Calls.mono hw fun e W' ⟨v, he, hv, HS⟩ => ?_
 subst hv; subst he;have bel := HS.below 0 rfl;exact ⟨_, rfl, _, _, _, [], _, [], hW', trodAll_mk1 (shut_bool Tryz.underlying4 _), (trodAll_cons_mk (shut_int Tryz.underlying3 w0) (trodAll_cons_mk (shut_int Tryz.underlying3 w1) (trodAll_cons_mk (Below.trod laidOut (by kernel_rfl) (of_decide_eq_true (by kernel_rfl)) k2 bel lt2) trodAll_mk0))), rfl, bel.frame _, fun h => by cases h⟩
end
end Go.Proofs.YtccbfeafebllhaaGreat.tracePlays
namespace Go.Proofs.YtccbfeafebllhaaGreat.tracePlays
noncomputable section
set_option maxRecDepth 10000
theorem dx : (Rows.tracePlaysRow.inPlace == Tryz.pinned.checked.prog.inPlace 4) = true := by kernel_rfl
end
noncomputable section
set_option maxRecDepth 10000
theorem jh : (Rows.tracePlaysRow.unfollowed == Tryz.pinned.checked.prog.unfollowed 4) = true := by kernel_rfl
end
noncomputable section
set_option maxRecDepth 10000
theorem fF : (Rows.tracePlaysRow.recurses == Tryz.pinned.checked.prog.recurses 4) = true := by kernel_rfl
end
noncomputable section
set_option maxRecDepth 10000
theorem aj : (Rows.tracePlaysRow.named == Tryz.pinned.checked.prog.varsNamed 4) = true := by kernel_rfl
end
noncomputable section
set_option maxRecDepth 10000
theorem closed : joinedFacts Tryz.pinned.checked.prog 4 Tryz.f4 Rows.tracePlaysSpec Rows.tracePlaysRow = true := by
 unfold joinedFacts;rw [dx, jh, fF, aj]
 kernel_rfl
end
end Go.Proofs.YtccbfeafebllhaaGreat.tracePlays
namespace Go.Proofs.YtccbfeafebllhaaGreat.tracePlays
open Go.ChangeShapes Go.WideShapes Go.ChangeAt Go.RowKit
noncomputable section
open Go.ChangeMaps (open_string shut_string)
set_option maxRecDepth 10000
theorem over : Rows.tracePlaysRow.holds Tryz.pinned (OpenSpec.ofChange Rows.tracePlaysSpec) :=
 OpenClaim.holds_of_wide 4 Tryz.f4 rfl rfl rfl rfl rfl rfl rfl ⟨rfl, rfl, rfl, rfl, rfl⟩ rfl rfl rfl rfl rfl (by kernel_rfl) Tryz.func4 closed
  (of_decide_eq_true (by kernel_rfl)) (by unfold Func.isWrapper; first | (rw [if_pos (by decide +kernel)]; kernel_rfl) | (rw [if_neg (by decide +kernel)]; exact ⟨rfl, rfl⟩))
  (fun os started H enc _ => lifted os started H enc)
theorem tracePlays_holds : Rows.TracePlaysSaid := over
end
end Go.Proofs.YtccbfeafebllhaaGreat.tracePlays
