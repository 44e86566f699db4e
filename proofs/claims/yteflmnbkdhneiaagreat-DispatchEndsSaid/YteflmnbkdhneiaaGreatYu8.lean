/-
  The statements DispatchMerges, DispatchEnds of the program.
  Text 8 of 8: of what the proof needs (a row of the program: no condition is left); put together and made narrow by a program.
-/
import Derived.Below
import Derived.ChangeOld
import Derived.JoinedCond
import Derived.OpenShut
import Derived.ProofKit
import Derived.ShutString
import Derived.SliceStrings
import Derived.Test.YteflmnbkdhneiaaGreatRows
import Derived.WalkKit
import Derived.Test.YteflmnbkdhneiaaGreatYu7
set_option linter.unusedVariables false
set_option linter.unusedSimpArgs false
namespace Go.Proofs.YteflmnbkdhneiaaGreat.dispatchMerges
open Go.ChangeShapes Go.WideShapes Go.ChangeAt Go.RowKit
noncomputable section
open Go.ChangeMaps (open_string shut_string)
set_option maxRecDepth 10000
theorem own : ownKnob Tryz.prog.godebug = none := by kernel_rfl
theorem laidOut : laidOutB Tryz.prog = true := by kernel_rfl
set_option maxRecDepth 100000 in
theorem lifted (os : Os) (started : os.Started) (H : Type) (enc : TypeId × Value -> H) :
  ReturnsInHanded {} Tryz.checked os 7 .any (Rows.dispatchMergesSpec.pre6 enc Tryz.prog Tryz.f7 Rows.dispatchMergesRow.domain false) (Rows.dispatchMergesSpec.post enc Tryz.prog Tryz.f7 false true false false) := by
 refine returnsInHanded_of_change (C := Tryz.checked) own started (by kernel_rfl) Tryz.func7
  (ChangeSpec.witness6 (enc := enc) (C := Tryz.checked) false ⟨#[], #[.int .i64 0, .slice none 0 0], []⟩ 8 (by kernel_rfl) (by kernel_rfl) (by kernel_rfl) (by kernel_rfl)) ?_
 intro W base args ds gs before hval0 hW hcnd _;have hval : ∀ (j : Nat) t v, Tryz.f7.params[j]? = some t -> args[j]? = some v -> Value.okWide Tryz.prog W .any base t v := hval0;have hW' := hW;obtain ⟨p, q, hA0, hV, rfl, hfz, hnd⟩ := hW;have hA : DataW.TrodAll enc Tryz.prog W 0 (fun _ => true) true Tryz.f7.params.toList args.toList ds p := hA0;rw [Tryz.params7] at hA hval;obtain ⟨v0, vs0, d0, ds0, p0, q0, hargs, rfl, rfl, h0, r0⟩ := trodAll_cons hA;obtain ⟨v1, vs1, d1, ds1, p1, q1, rfl, rfl, rfl, h1, r1⟩ := trodAll_cons r0;obtain ⟨rfl, rfl, rfl⟩ := trodAll_nil r1;obtain rfl : args = #[v0, v1] := by cases args; simp_all
 obtain ⟨rfl, rfl⟩ := trodVars_none hV;obtain ⟨a0, rfl, rfl, rfl, w0⟩ := open_int Tryz.underlying3 (hval 0 3 v0 rfl rfl) h0;obtain ⟨a1, len1, cap1, rfl⟩ := okWide_slice Tryz.underlying59 (hval 1 59 v1 rfl rfl);have k1 := h1;have lt1 : ∀ x ∈ p1, x.block < W.heap.size := by obtain ⟨m, hm⟩ := k1; exact DataW.trod_lt m _ _ _ hm
 obtain ⟨l1, hl1, hC1, hX1⟩ : ∃ l : List Int, l.length = len1 /\ len1 <= cap1 /\ Th.SlRd (Th.Old W) Th.ecI 1 a1 l := by
  obtain ⟨fuel, hf⟩ := h1;obtain ⟨sb, len, cap, l, hcs, hl, hC, hX⟩ := Th.er (α := Int) Tryz.underlying59 (by kernel_rfl) Th.wM (by decide) (Th.aI (by kernel_rfl)) hf;simp [Value.cells] at hcs;obtain ⟨rfl, rfl, rfl⟩ := hcs;exact ⟨l, hl, hC, hX⟩
 subst hl1;clear hA0 hval0;obtain ⟨k, hm⟩ := dispatchMerges_plain a0 l1;have hw := tu (X_times := Th.Old W)  hX1 hC1 hm (Th.St.begin W);refine Calls.mono hw fun e W' ⟨v, he, hv, HS⟩ => ?_
 subst hv; subst he;have bel := HS.below 0 rfl;exact ⟨_, rfl, _, _, _, [], _, [], hW', trodAll_mk1 (shut_bool Tryz.underlying4 _), (trodAll_cons_mk (shut_int Tryz.underlying3 w0) (trodAll_cons_mk (Below.trod laidOut (by kernel_rfl) (of_decide_eq_true (by kernel_rfl)) k1 bel lt1) trodAll_mk0)), rfl, bel.frame _, fun h => by cases h⟩
end
end Go.Proofs.YteflmnbkdhneiaaGreat.dispatchMerges
namespace Go.Proofs.YteflmnbkdhneiaaGreat.dispatchMerges
noncomputable section
set_option maxRecDepth 10000
theorem o8 : (Rows.dispatchMergesRow.inPlace == Tryz.pinned.checked.prog.inPlace 7) = true := by kernel_rfl
end
noncomputable section
set_option maxRecDepth 10000
theorem r5 : (Rows.dispatchMergesRow.unfollowed == Tryz.pinned.checked.prog.unfollowed 7) = true := by kernel_rfl
end
noncomputable section
set_option maxRecDepth 10000
theorem ot : (Rows.dispatchMergesRow.recurses == Tryz.pinned.checked.prog.recurses 7) = true := by kernel_rfl
end
noncomputable section
set_option maxRecDepth 10000
theorem jt : (Rows.dispatchMergesRow.named == Tryz.pinned.checked.prog.varsNamed 7) = true := by kernel_rfl
end
noncomputable section
set_option maxRecDepth 10000
theorem closed : joinedFacts Tryz.pinned.checked.prog 7 Tryz.f7 Rows.dispatchMergesSpec Rows.dispatchMergesRow = true := by
 unfold joinedFacts;rw [o8, r5, ot, jt]
 kernel_rfl
end
end Go.Proofs.YteflmnbkdhneiaaGreat.dispatchMerges
namespace Go.Proofs.YteflmnbkdhneiaaGreat.dispatchMerges
open Go.ChangeShapes Go.WideShapes Go.ChangeAt Go.RowKit
noncomputable section
open Go.ChangeMaps (open_string shut_string)
set_option maxRecDepth 10000
theorem over : Rows.dispatchMergesRow.holds Tryz.pinned (OpenSpec.ofChange Rows.dispatchMergesSpec) :=
 OpenClaim.holds_of_wide 7 Tryz.f7 rfl rfl rfl rfl rfl rfl rfl ⟨rfl, rfl, rfl, rfl, rfl⟩ rfl rfl rfl rfl rfl (by kernel_rfl) Tryz.func7 closed
  (of_decide_eq_true (by kernel_rfl)) (by unfold Func.isWrapper; first | (rw [if_pos (by decide +kernel)]; kernel_rfl) | (rw [if_neg (by decide +kernel)]; exact ⟨rfl, rfl⟩))
  (fun os started H enc _ => lifted os started H enc)
theorem dispatchMerges_holds : Rows.DispatchMergesSaid := over
end
end Go.Proofs.YteflmnbkdhneiaaGreat.dispatchMerges
namespace Go.Proofs.YteflmnbkdhneiaaGreat
open Go.Th
noncomputable section
set_option maxRecDepth 10000
section
variable {N : Nat} {k : Int}
theorem A9 {queue : Int} {l : List zF} (hl : ∀ z ∈ l, kZ zF.enc z) : ∀ (r i j : Nat) (w : zc) (L : List JR) (T : Nat), 80 <= i + r -> 95001 + r < j -> i <= 80 -> DI N k w.d L T -> kOk L -> T <= 2 + i -> w.told.length <= i ->
  Do (yB queue l j (i : Int) w) fun w' => ∃ L' T', DI N k w'.d L' T' /\ kOk L' /\ T' <= 82
 | 0, i, j, w, L, T, h1, h2, h3, D, hk, I, ht => by
  obtain ⟨f, rfl⟩ : ∃ f, j = f + 1 := ⟨j - 1, by omega⟩
  unfold yB;refine Do.f (by rw [dF (p := (i : Int) < 80) (by omega), Bool.and_false]) ?_;exact ⟨_, rfl, L, T, D, hk, by omega⟩
 | r + 1, i, j, w, L, T, h1, h2, h3, D, hk, I, ht => by
  obtain ⟨f, rfl⟩ : ∃ f, j = f + 1 := ⟨j - 1, by omega⟩
  unfold yB;refine Do.if (fun e => ?_) (fun e => ⟨_, rfl, L, T, D, hk, by omega⟩)
  rw [Bool.and_eq_true] at e;have S := of_decide_eq_true e.1;have U := of_decide_eq_true e.2;obtain ⟨x, F⟩ : ∃ x, l[i]? = some x := ⟨_, List.getElem?_eq_getElem (by omega)⟩
  have u := List.mem_of_getElem? F;rw [yC, F];simp only [bS];obtain ⟨c, J, y⟩ := cr (eM (hl x u)) (told := w.told) (by omega);rw [J];simp only [bS];obtain ⟨⟨rep, d'⟩, O, L', G⟩ := D.do (f := f) (by omega) (by omega) c
  rw [O];simp only [bS];have A := How.kOk G.how hk y;rw [zG (by omega) (by omega)];have go : ∀ t : List zf, t.length <= i + 1 -> Do (yB queue l f ((i : Int) + 1) (zc.mk d' w.m_ w.k_ t)) fun w' => ∃ L' T', DI N k w'.d L' T' /\ kOk L' /\ T' <= 82 := by
   intro t B;have := A9 (queue := queue) hl r (i + 1) f (zc.mk d' w.m_ w.k_ t) L' (T + 1) (by omega) (by omega) (by omega) G.di A (by omega) B;rw [show ((i + 1 : Nat) : Int) = (i : Int) + 1 by simp] at this;exact this
  cases W : (rep.Why == 0) && (decide (rep.Job.Gen > 0)) with
  | true =>
   rw [cT, xd (by simp; omega)];simp only [bS];exact go _ (by simp; omega)
  | false =>
   rw [cF];simp only [bS];exact go _ (by omega)
theorem dz {x now : Int} {A B : List JR} {j : JR} (hq : j.q = x) (hk : j.it.k <= now) : dueN x now (A ++ j :: B) = dueN x now (A ++ B) + 1 := by
 unfold dueN;rw [List.filter_append, List.filter_append, List.filter_cons];rw [show (j.q == x && decide (j.it.k <= now)) = true by rw [hq, dT hk]; simp];simp; omega
theorem cI {x now : Int} {L : List JR} (h : ∀ j ∈ L, j.q = x -> now < j.it.k) : dueN x now L = 0 := by
 unfold dueN;rw [List.filter_eq_nil_iff.2 (fun j hj => ?_)]; rfl;intro e;rw [Bool.and_eq_true, beq_iff_eq] at e;have := h j hj e.1;have := of_decide_eq_true e.2;omega
theorem AD {q n : Int} {l : List zF} (hq : q = 0 \/ q = 1) {p now : Int} {t0 : Nat} (z : p <= 40) : ∀ (r i u : Nat) (w : zc) (L : List JR) (T : Nat) (last : Int), (i : Int) + r = p -> dueN q now L = r -> 95001 + r < u -> DI N k w.d L T -> w.d.clock.now = now -> T <= 100 + i -> (∀ j ∈ L, j.q = q -> last <= j.it.k) -> L.length + i = t0 ->
  Do (yS q p n l u last (i : Int) w) fun r => ∃ w', r = .inr w' /\ ∃ L' T', DI N k w'.d L' T' /\ T' <= 200 /\ w'.d.clock.now = now /\ dueN q now L' = 0 /\ (L'.length : Int) + p = t0
 | 0, i, u, w, L, T, last, h1, hd, h2, D, hn, W, x, S => by
  obtain ⟨f, rfl⟩ : ∃ f, u = f + 1 := ⟨u - 1, by omega⟩
  unfold yS;refine Do.f (dF (by omega)) ?_;exact ⟨_, rfl, w, rfl, L, T, D, by omega, hn, hd, by omega⟩
 | r + 1, i, u, w, L, T, last, h1, hd, h2, D, hn, W, x, S => by
  obtain ⟨f, rfl⟩ : ∃ f, u = f + 1 := ⟨u - 1, by omega⟩
  unfold yS;refine Do.t (dT (by omega)) ?_;obtain ⟨⟨rep, d'⟩, X, L', G⟩ := D.do (f := f) (by omega) (by omega) (zw.mk 5 q (zf.mk 0 0) 0 0)
  rw [X];simp only [bS];obtain ⟨e, hh⟩ := how5 G.how rfl hq;simp only at e hh;rw [hn] at e hh;rcases hh with ⟨_, _, F⟩ | ⟨A, j, B, rfl, rfl, rfl, y, I, hm⟩
  ·rw [cI F] at hd; omega
  ·have J : j ∈ A ++ j :: B := by simp
   have hl1 := x j J y;have U : DI N k d' (A ++ B) (T + 1) := G.di;unfold xm vY yW yM;simp only [bS];rw [show ((0 : Int) != 0) = false from rfl, cF, dF (p := j.it.k < last) (by omega), cF, dF (p := j.it.k > d'.clock.now) (by rw [e]; omega), cF, dF (p := d'.last > d'.budget) (by have := U.la; omega)];simp only [bS, cF];rw [zG (by omega) (by omega)];rw [dz y I] at hd;have ih := AD (n := n) (l := l) hq (p := p) (now := now) (t0 := t0) z r (i + 1) f (zc.mk d' w.m_ w.k_ w.told) (A ++ B) (T + 1) j.it.k (by omega) (by omega) (by omega) U e (by omega) (by
    intro i hi O;have := hm i (by
     rcases List.mem_append.1 hi with h | h
     ·exact mL _ h
     ·exact List.mem_append_right _ (mC _ h)) O
    unfold It.lt at this; omega) (by simp only [lA, lC] at S ⊢; omega)
   rw [show ((i + 1 : Nat) : Int) = (i : Int) + 1 by simp] at ih;exact ih
end
theorem cN : wZ 100000 = some true := by kernel_rfl
theorem dispatchEnds_plain (k_ jobs : Int) (l : List zF) (queue : Int) (hl : ∀ z ∈ l, kZ zF.enc z) : ∃ k, xv k k_ jobs l queue = some true := by
 refine ⟨100000, ?_⟩
 suffices h : Do (xv 100000 k_ jobs l queue) fun r => r = true by
  obtain ⟨r, e, rfl⟩ := h;exact e
 obtain ⟨w, N, k, X, W, hN, S, ht⟩ := lx (f := 100000) (by omega) k_ jobs;unfold xv;rw [X];simp only [bS, uW, oS];refine (A9 (N := N) (k := k) (queue := queue) hl 80 0 100000 w [] 2 (by omega) (by omega) (by omega) W.di (by intro j hj; cases hj) (by omega) (by rw [ht.1]; simp)).bind ?_;rintro w1 ⟨t, Y, y, D, Z⟩;obtain ⟨q, eq, q1, q2⟩ := within queue 0 1 (by omega) (by omega) (by omega);rw [eq];simp only [bS];have hq : q = 0 \/ q = 1 := by omega
 rw [y.due (f := 100000) (by omega) q];simp only [bS];have hlen : zM w1.d = some (t.length : Int) := by
  unfold zM we;rw [qt y]
  rfl
 rw [hlen];simp only [bS];have a0 := y.items.2.1;have a1 : dueN q w1.d.clock.now t <= t.length := List.length_filter_le _ _;refine (AD (N := N) (k := k) (q := q) (n := (t.length : Int)) (l := l) hq (p := (dueN q w1.d.clock.now t : Int)) (now := w1.d.clock.now) (t0 := t.length) (by omega) (dueN q w1.d.clock.now t) 0 100000 w1 t Y (-9223372036854775808) (by simp) rfl (by omega) y rfl (by omega) (fun j hj _ => (D j hj).1) rfl).bind ?_;rintro _ ⟨w2, rfl, L2, T2, D2, a3, F, x, a4⟩;simp only;obtain ⟨⟨rep, d3⟩, eD, U, G⟩ := D2.do (f := 100000) (by omega) (by omega) (zw.mk 5 q (zf.mk 0 0) 0 0)
 rw [eD];simp only [bS];obtain ⟨i, hh⟩ := how5 G.how rfl hq;simp only at i hh;rw [F] at i hh;rcases hh with ⟨rfl, rfl, a6⟩ | ⟨A, j, B, rfl, rfl, rfl, I, J, hm⟩
 ·have O := G.di;rw [show ((no 28).Why == 28) = true from rfl, cT, O.due (f := 100000) (by omega) q];simp only [bS];simp only at O;rw [i, x, show (((0 : Nat) : Int) == 0) = true from rfl, cT];have u : zM d3 = some (U.length : Int) := by
   unfold zM we;rw [qt O]
   rfl
  rw [u];simp only [bS];rw [zG (by omega) (by omega), show ((U.length : Int) == (t.length : Int) - (dueN q w1.d.clock.now t : Int)) = true by simp; omega, cT, cN];exact ⟨_, rfl, rfl⟩
 ·rw [dz I J] at x; omega
end
end Go.Proofs.YteflmnbkdhneiaaGreat
noncomputable section

end
namespace Go.Proofs.YteflmnbkdhneiaaGreat.dispatchEnds
open Go.ChangeShapes Go.WideShapes Go.ChangeAt Go.RowKit
noncomputable section
open Go.ChangeMaps (open_string shut_string)
set_option maxRecDepth 10000
theorem own : ownKnob Tryz.prog.godebug = none := by kernel_rfl
theorem laidOut : laidOutB Tryz.prog = true := by kernel_rfl
set_option maxRecDepth 100000 in
theorem lifted (os : Os) (started : os.Started) (H : Type) (enc : TypeId × Value -> H) :
  ReturnsInHanded {} Tryz.checked os 4 .any (Rows.dispatchEndsSpec.pre6 enc Tryz.prog Tryz.f4 Rows.dispatchEndsRow.domain false) (Rows.dispatchEndsSpec.post enc Tryz.prog Tryz.f4 false true false false) := by
 refine returnsInHanded_of_change (C := Tryz.checked) own started (by kernel_rfl) Tryz.func4
  (ChangeSpec.witness6 (enc := enc) (C := Tryz.checked) false ⟨#[], #[.int .i64 0, .int .i64 0, .slice none 0 0, .int .i64 0], []⟩ 8 (by kernel_rfl) (by kernel_rfl) (by kernel_rfl) (by kernel_rfl)) ?_
 intro W base args ds gs before hval0 hW hcnd _;have hval : ∀ (j : Nat) t v, Tryz.f4.params[j]? = some t -> args[j]? = some v -> Value.okWide Tryz.prog W .any base t v := hval0;have hW' := hW;obtain ⟨p, q, hA0, hV, rfl, hfz, hnd⟩ := hW;have hA : DataW.TrodAll enc Tryz.prog W 0 (fun _ => true) true Tryz.f4.params.toList args.toList ds p := hA0;rw [Tryz.params4] at hA hval;obtain ⟨v0, vs0, d0, ds0, p0, q0, hargs, rfl, rfl, h0, r0⟩ := trodAll_cons hA;obtain ⟨v1, vs1, d1, ds1, p1, q1, rfl, rfl, rfl, h1, r1⟩ := trodAll_cons r0;obtain ⟨v2, vs2, d2, ds2, p2, q2, rfl, rfl, rfl, h2, r2⟩ := trodAll_cons r1;obtain ⟨v3, vs3, d3, ds3, p3, q3, rfl, rfl, rfl, h3, r3⟩ := trodAll_cons r2;obtain ⟨rfl, rfl, rfl⟩ := trodAll_nil r3;obtain rfl : args = #[v0, v1, v2, v3] := by cases args; simp_all
 obtain ⟨rfl, rfl⟩ := trodVars_none hV;obtain ⟨a0, rfl, rfl, rfl, w0⟩ := open_int Tryz.underlying3 (hval 0 3 v0 rfl rfl) h0;obtain ⟨a1, rfl, rfl, rfl, w1⟩ := open_int Tryz.underlying3 (hval 1 3 v1 rfl rfl) h1;obtain ⟨a2, len2, cap2, rfl⟩ := okWide_slice Tryz.underlying45 (hval 2 45 v2 rfl rfl);have k2 := h2;have lt2 : ∀ x ∈ p2, x.block < W.heap.size := by obtain ⟨m, hm⟩ := k2; exact DataW.trod_lt m _ _ _ hm
 obtain ⟨l2, hl2, hC2, hX2, hR2⟩ : ∃ l : List zF, l.length = len2 /\ len2 <= cap2 /\ Th.SlRd (Th.Old W) zF.enc 11 a2 l /\ ∀ z ∈ l, Th.kZ zF.enc z := by
  obtain ⟨fuel, hf⟩ := h2;obtain ⟨sb, len, cap, m, hcs, hl, hC, hX⟩ := Th.er (α := {z : zF // Th.kZ zF.enc z}) (enc := fun z => zF.enc z.1) Tryz.underlying45 (by kernel_rfl) zF.xJ.sub (by decide) (fun n cs y h => by
   obtain ⟨z, hz, rfl, hr⟩ := Th.fP (P := Tryz.prog) (e := 48) 11 (by kernel_rfl) (by kernel_rfl) n cs y h
   match z, hz, hr with
   | [x0, x1, x2, x3, x4, x5, x6, x7, x8, x9, x10], _, hr => exact ⟨⟨zF.mk x0 x1 x2 x3 x4 (zw.mk x5 x6 (zf.mk x7 x8) x9 x10), fun n hn => hr n (Th.cW (l := [x0, x1, x2, x3, x4, x5, x6, x7, x8, x9, x10]) hn)⟩, rfl⟩) hf
  simp [Value.cells] at hcs;obtain ⟨rfl, rfl, rfl⟩ := hcs;exact ⟨m.map (·.1), by rw [List.length_map]; exact hl, hC, hX.sub, Th.aX _⟩
 subst hl2;obtain ⟨a3, rfl, rfl, rfl, w3⟩ := open_int Tryz.underlying3 (hval 3 3 v3 rfl rfl) h3;clear hA0 hval0;obtain ⟨k, hm⟩ := dispatchEnds_plain a0 a1 l2 a3 hR2;have hw := tH (X_l := Th.Old W)  hX2 hC2 hm (Th.St.begin W);refine Calls.mono hw fun e W' ⟨v, he, hv, HS⟩ => ?_
 subst hv; subst he;have bel := HS.below 0 rfl;exact ⟨_, rfl, _, _, _, [], _, [], hW', trodAll_mk1 (shut_bool Tryz.underlying4 _), (trodAll_cons_mk (shut_int Tryz.underlying3 w0) (trodAll_cons_mk (shut_int Tryz.underlying3 w1) (trodAll_cons_mk (Below.trod laidOut (by kernel_rfl) (of_decide_eq_true (by kernel_rfl)) k2 bel lt2) (trodAll_cons_mk (shut_int Tryz.underlying3 w3) trodAll_mk0)))), rfl, bel.frame _, fun h => by cases h⟩
end
end Go.Proofs.YteflmnbkdhneiaaGreat.dispatchEnds
namespace Go.Proofs.YteflmnbkdhneiaaGreat.dispatchEnds
noncomputable section
set_option maxRecDepth 10000
theorem o8 : (Rows.dispatchEndsRow.inPlace == Tryz.pinned.checked.prog.inPlace 4) = true := by kernel_rfl
end
noncomputable section
set_option maxRecDepth 10000
theorem r5 : (Rows.dispatchEndsRow.unfollowed == Tryz.pinned.checked.prog.unfollowed 4) = true := by kernel_rfl
end
noncomputable section
set_option maxRecDepth 10000
theorem ot : (Rows.dispatchEndsRow.recurses == Tryz.pinned.checked.prog.recurses 4) = true := by kernel_rfl
end
noncomputable section
set_option maxRecDepth 10000
theorem jt : (Rows.dispatchEndsRow.named == Tryz.pinned.checked.prog.varsNamed 4) = true := by kernel_rfl
end
noncomputable section
set_option maxRecDepth 10000
theorem closed : joinedFacts Tryz.pinned.checked.prog 4 Tryz.f4 Rows.dispatchEndsSpec Rows.dispatchEndsRow = true := by
 unfold joinedFacts;rw [o8, r5, ot, jt]
 kernel_rfl
end
end Go.Proofs.YteflmnbkdhneiaaGreat.dispatchEnds
namespace Go.Proofs.YteflmnbkdhneiaaGreat.dispatchEnds
open Go.ChangeShapes Go.WideShapes Go.ChangeAt Go.RowKit
noncomputable section
open Go.ChangeMaps (open_string shut_string)
set_option maxRecDepth 10000
theorem over : Rows.dispatchEndsRow.holds Tryz.pinned (OpenSpec.ofChange Rows.dispatchEndsSpec) :=
 OpenClaim.holds_of_wide 4 Tryz.f4 rfl rfl rfl rfl rfl rfl rfl ⟨rfl, rfl, rfl, rfl, rfl⟩ rfl rfl rfl rfl rfl (by kernel_rfl) Tryz.func4 closed
  (of_decide_eq_true (by kernel_rfl)) (by unfold Func.isWrapper; first | (rw [if_pos (by decide +kernel)]; kernel_rfl) | (rw [if_neg (by decide +kernel)]; exact ⟨rfl, rfl⟩))
  (fun os started H enc _ => lifted os started H enc)
theorem dispatchEnds_holds : Rows.DispatchEndsSaid := over
end
end Go.Proofs.YteflmnbkdhneiaaGreat.dispatchEnds
