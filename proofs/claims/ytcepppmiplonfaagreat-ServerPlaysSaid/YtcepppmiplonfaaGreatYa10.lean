/-
  The statements ServerPlays of the program.
  Text 10 of 10: of what the proof needs (a row of the program: no condition is left); put together and made narrow by a program.
-/
import Derived.Below
import Derived.ChangeOld
import Derived.JoinedCond
import Derived.OpenShut
import Derived.ProofKit
import Derived.ShutString
import Derived.SliceStrings
import Derived.Test.YtcepppmiplonfaaGreatRows
import Derived.WalkKit
import Derived.Test.YtcepppmiplonfaaGreatYa9
set_option linter.unusedVariables false
set_option linter.unusedSimpArgs false
namespace Go.Proofs.YtcepppmiplonfaaGreat.serverPlays
open Go.ChangeShapes Go.WideShapes Go.ChangeAt Go.RowKit
noncomputable section
open Go.ChangeMaps (open_string shut_string)
set_option maxRecDepth 10000
theorem own : ownKnob Tryz.prog.godebug = none := by kernel_rfl
theorem laidOut : laidOutB Tryz.prog = true := by kernel_rfl
set_option maxRecDepth 100000 in
theorem lifted (os : Os) (started : os.Started) (H : Type) (enc : TypeId × Value -> H) :
  ReturnsInHanded {} Tryz.checked os 3 .any (Rows.serverPlaysSpec.pre6 enc Tryz.prog Tryz.f3 Rows.serverPlaysRow.domain false) (Rows.serverPlaysSpec.post enc Tryz.prog Tryz.f3 false true false false) := by
 refine returnsInHanded_of_change (C := Tryz.checked) own started (by kernel_rfl) Tryz.func3
  (ChangeSpec.witness6 (enc := enc) (C := Tryz.checked) false ⟨#[],#[.int .i64 0,.int .i64 0,.int .i64 0,.int .i64 0,.slice none 0 0],[]⟩ 8 (by kernel_rfl) (by kernel_rfl) (by kernel_rfl) (by kernel_rfl)) ?_
 intro W base args ds gs before hval0 hW hcnd _;have hval : ∀ (j : Nat) t v,Tryz.f3.params[j]? = some t -> args[j]? = some v -> Value.okWide Tryz.prog W .any base t v := hval0;have hW' := hW;obtain ⟨p,q,hA0,hV,rfl,hfz,hnd⟩ := hW;have hA : DataW.TrodAll enc Tryz.prog W 0 (fun _ => true) true Tryz.f3.params.toList args.toList ds p := hA0;rw [Tryz.params3] at hA hval;obtain ⟨v0,vs0,d0,ds0,p0,q0,hargs,rfl,rfl,h0,r0⟩ := trodAll_cons hA;obtain ⟨v1,vs1,d1,ds1,p1,q1,rfl,rfl,rfl,h1,r1⟩ := trodAll_cons r0;obtain ⟨v2,vs2,d2,ds2,p2,q2,rfl,rfl,rfl,h2,r2⟩ := trodAll_cons r1;obtain ⟨v3,vs3,d3,ds3,p3,q3,rfl,rfl,rfl,h3,r3⟩ := trodAll_cons r2;obtain ⟨v4,vs4,d4,ds4,p4,q4,rfl,rfl,rfl,h4,r4⟩ := trodAll_cons r3;obtain ⟨rfl,rfl,rfl⟩ := trodAll_nil r4;obtain rfl : args = #[v0,v1,v2,v3,v4] := by cases args; simp_all
 obtain ⟨rfl,rfl⟩ := trodVars_none hV;obtain ⟨a0,rfl,rfl,rfl,w0⟩ := open_int Tryz.underlying3 (hval 0 3 v0 rfl rfl) h0;obtain ⟨a1,rfl,rfl,rfl,w1⟩ := open_int Tryz.underlying3 (hval 1 3 v1 rfl rfl) h1;obtain ⟨a2,rfl,rfl,rfl,w2⟩ := open_int Tryz.underlying3 (hval 2 3 v2 rfl rfl) h2;obtain ⟨a3,rfl,rfl,rfl,w3⟩ := open_int Tryz.underlying3 (hval 3 3 v3 rfl rfl) h3;obtain ⟨a4,len4,cap4,rfl⟩ := okWide_slice Tryz.underlying22 (hval 4 22 v4 rfl rfl);have k4 := h4;have lt4 : ∀ x ∈ p4,x.block < W.heap.size := by obtain ⟨m,hm⟩ := k4; exact DataW.trod_lt m _ _ _ hm
 obtain ⟨l4,hl4,hC4,hX4,hR4⟩ : ∃ l : List zw,l.length = len4 /\ len4 <= cap4 /\ Th.SlRd (Th.Old W) zw.enc 13 a4 l /\ ∀ z ∈ l,Th.fm zw.enc z := by
  obtain ⟨fuel,hf⟩ := h4;obtain ⟨sb,len,cap,m,hcs,hl,hC,hX⟩ := Th.AY (α := {z : zw // Th.fm zw.enc z}) (enc := fun z => zw.enc z.1) Tryz.underlying22 (by kernel_rfl) zw.yb.sub (by decide) (fun n cs y h => by
   obtain ⟨z,hz,rfl,hr⟩ := Th.dQ (P := Tryz.prog) (e := 75) 13 (by kernel_rfl) (by kernel_rfl) n cs y h
   match z,hz,hr with
   | [x0,x1,x2,x3,x4,x5,x6,x7,x8,x9,x10,x11,x12],_,hr => exact ⟨⟨zw.mk x0 x1 (yo.mk x2 x3 x4 x5 x6 (zk.mk x7 x8 (zd.mk x9 x10) x11 x12)),fun n hn => hr n (Th.bW (l := [x0,x1,x2,x3,x4,x5,x6,x7,x8,x9,x10,x11,x12]) hn)⟩,rfl⟩) hf
  simp [Value.cells] at hcs;obtain ⟨rfl,rfl,rfl⟩ := hcs;exact ⟨m.map (·.1),by rw [List.length_map]; exact hl,hC,hX.sub,Th.Be _⟩
 subst hl4;clear hA0 hval0;obtain ⟨k,hm⟩ := serverPlays_plain a0 a1 a2 a3 l4 hR4;have hw := ri (X_l := Th.Old W)  hX4 hC4 hm (Th.St.begin W);refine Calls.mono hw fun e W' ⟨v,he,hv,HS⟩ => ?_
 subst hv; subst he;have bel := HS.below 0 rfl;exact ⟨_,rfl,_,_,_,[],_,[],hW',trodAll_mk1 (shut_bool Tryz.underlying4 _),(trodAll_cons_mk (shut_int Tryz.underlying3 w0) (trodAll_cons_mk (shut_int Tryz.underlying3 w1) (trodAll_cons_mk (shut_int Tryz.underlying3 w2) (trodAll_cons_mk (shut_int Tryz.underlying3 w3) (trodAll_cons_mk (Below.trod laidOut (by kernel_rfl) (of_decide_eq_true (by kernel_rfl)) k4 bel lt4) trodAll_mk0))))),rfl,bel.frame _,fun h => by cases h⟩
end
end Go.Proofs.YtcepppmiplonfaaGreat.serverPlays
namespace Go.Proofs.YtcepppmiplonfaaGreat.serverPlays
noncomputable section
set_option maxRecDepth 10000
theorem dY : (Rows.serverPlaysRow.inPlace == Tryz.pinned.checked.prog.inPlace 3) = true := by kernel_rfl
end
noncomputable section
set_option maxRecDepth 10000
theorem ig : (Rows.serverPlaysRow.unfollowed == Tryz.pinned.checked.prog.unfollowed 3) = true := by kernel_rfl
end
noncomputable section
set_option maxRecDepth 10000
theorem eI : (Rows.serverPlaysRow.recurses == Tryz.pinned.checked.prog.recurses 3) = true := by kernel_rfl
end
noncomputable section
set_option maxRecDepth 10000
theorem AH : (Rows.serverPlaysRow.named == Tryz.pinned.checked.prog.varsNamed 3) = true := by kernel_rfl
end
noncomputable section
set_option maxRecDepth 10000
theorem closed : joinedFacts Tryz.pinned.checked.prog 3 Tryz.f3 Rows.serverPlaysSpec Rows.serverPlaysRow = true := by
 unfold joinedFacts;rw [dY,ig,eI,AH]
 kernel_rfl
end
end Go.Proofs.YtcepppmiplonfaaGreat.serverPlays
namespace Go.Proofs.YtcepppmiplonfaaGreat.serverPlays
open Go.ChangeShapes Go.WideShapes Go.ChangeAt Go.RowKit
noncomputable section
open Go.ChangeMaps (open_string shut_string)
set_option maxRecDepth 10000
theorem over : Rows.serverPlaysRow.holds Tryz.pinned (OpenSpec.ofChange Rows.serverPlaysSpec) :=
 OpenClaim.holds_of_wide 3 Tryz.f3 rfl rfl rfl rfl rfl rfl rfl ⟨rfl,rfl,rfl,rfl,rfl⟩ rfl rfl rfl rfl rfl (by kernel_rfl) Tryz.func3 closed
  (of_decide_eq_true (by kernel_rfl)) (by unfold Func.isWrapper; first | (rw [if_pos (by decide +kernel)]; kernel_rfl) | (rw [if_neg (by decide +kernel)]; exact ⟨rfl,rfl⟩))
  (fun os started H enc _ => lifted os started H enc)
theorem serverPlays_holds : Rows.ServerPlaysSaid := over
end
end Go.Proofs.YtcepppmiplonfaaGreat.serverPlays
