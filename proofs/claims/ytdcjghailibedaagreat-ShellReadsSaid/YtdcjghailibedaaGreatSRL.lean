/-
  PROOF OF 'Rows.ShellReadsSaid': WHATEVER THE INPUT the Go function thicket/thicketlaw28.ShellReads returns true, and its arguments read as they did. (No other condition.)
-/
import Derived.Test.YtdcjghailibedaaGreatRows
import Derived.Test.YtdcjghailibedaaGreatE7
import Derived.Test.YtdcjghailibedaaGreatE16
import Derived.Test.YtdcjghailibedaaGreatXR
import Derived.WalkKit
import Derived.ProofKit
import Derived.OpenShut
import Derived.ShutString
import Derived.ChangeOld
import Derived.Below
import Derived.SliceStrings
import Derived.JoinedCond
namespace Go.Proofs.YtdcjghailibedaaGreat.shellReads
open Go.ChangeShapes Go.WideShapes Go.ChangeAt Go.RowKit
open Go.ChangeMaps (open_string shut_string)
set_option linter.unusedVariables false
set_option maxRecDepth 10000

theorem own : ownKnob Tryz.prog.godebug = none := by kernel_rfl
theorem laidOut : laidOutB Tryz.prog = true := by kernel_rfl

theorem parts8 (l : List Value) (h : l.length = 8) : ∃ c0 c1 c2 c3 c4 c5 c6 c7 : Value, l = [c0, c1, c2, c3, c4, c5, c6, c7] := by
  match l, h with
  | [a0, a1, a2, a3, a4, a5, a6, a7], _ => exact ⟨a0, a1, a2, a3, a4, a5, a6, a7, rfl⟩

set_option maxRecDepth 100000 in
theorem lifted (os : Os) (started : os.Started) (H : Type) (enc : TypeId × Value → H) :
    ReturnsInHanded {} Tryz.checked os 6 .any (Rows.shellReadsSpec.pre6 enc Tryz.prog Tryz.f6 Rows.shellReadsRow.domain false) (Rows.shellReadsSpec.post enc Tryz.prog Tryz.f6 false true false false) := by
  refine returnsInHanded_of_change (C := Tryz.checked) own started (by kernel_rfl) Tryz.func6
    (ChangeSpec.witness6 (enc := enc) (C := Tryz.checked) false ⟨#[], #[.agg #[.int .i64 0, .int .i64 0, .int .i64 0, .int .i64 0, .slice none 0 0, .slice none 0 0, .slice none 0 0, .bool false], .slice none 0 0, .int .i64 0, .int .u8 0], []⟩ 8 (by kernel_rfl) (by kernel_rfl) (by kernel_rfl) (by kernel_rfl)) ?_
  intro W base args ds gs before hval0 hW hcnd _
  have hval : ∀ (j : Nat) t v, Tryz.f6.params[j]? = some t → args[j]? = some v → Value.okWide Tryz.prog W .any base t v := hval0
  have hW' := hW
  obtain ⟨p, q, hA0, hV, rfl, hfz, hnd⟩ := hW
  have hA : DataW.TrodAll enc Tryz.prog W 0 (fun _ => true) true Tryz.f6.params.toList args.toList ds p := hA0
  rw [Tryz.params6] at hA hval
  obtain ⟨v0, vs0, d0, ds0, p0, q0, hargs, rfl, rfl, h0, r0⟩ := trodAll_cons hA
  obtain ⟨v1, vs1, d1, ds1, p1, q1, rfl, rfl, rfl, h1, r1⟩ := trodAll_cons r0
  obtain ⟨v2, vs2, d2, ds2, p2, q2, rfl, rfl, rfl, h2, r2⟩ := trodAll_cons r1
  obtain ⟨v3, vs3, d3, ds3, p3, q3, rfl, rfl, rfl, h3, r3⟩ := trodAll_cons r2
  obtain ⟨rfl, rfl, rfl⟩ := trodAll_nil r3
  obtain rfl : args = #[v0, v1, v2, v3] := by cases args; simp_all
  obtain ⟨rfl, rfl⟩ := trodVars_none hV
  have k0 := h0
  have lt0 : ∀ x ∈ p0, x.block < W.heap.size := by obtain ⟨m, hm⟩ := k0; exact DataW.trod_lt m _ _ _ hm
  obtain ⟨cs0, n0, rfl, hcl0, hf0⟩ := Th.open_one Tryz.underlying60 (by kernel_rfl) (hval 0 60 v0 rfl rfl) h0
  obtain ⟨c0_0, c0_1, c0_2, c0_3, c0_4, c0_5, c0_6, c0_7, rfl⟩ : ∃ c0 c1 c2 c3 c4 c5 c6 c7 : Value, cs0 = [c0, c1, c2, c3, c4, c5, c6, c7] := parts8 _ (hcl0.trans (by kernel_rfl))
  obtain ⟨y0_0, g0_0⟩ := hf0 0 _ _ rfl rfl
  obtain ⟨a0_0, e0_0, _, w0_0⟩ := DataW.trod_int (k := .i64) (by kernel_rfl) g0_0; cases e0_0
  obtain ⟨y0_1, g0_1⟩ := hf0 1 _ _ rfl rfl
  obtain ⟨a0_1, e0_1, _, w0_1⟩ := DataW.trod_int (k := .i64) (by kernel_rfl) g0_1; cases e0_1
  obtain ⟨y0_2, g0_2⟩ := hf0 2 _ _ rfl rfl
  obtain ⟨a0_2, e0_2, _, w0_2⟩ := DataW.trod_int (k := .i64) (by kernel_rfl) g0_2; cases e0_2
  obtain ⟨y0_3, g0_3⟩ := hf0 3 _ _ rfl rfl
  obtain ⟨a0_3, e0_3, _, w0_3⟩ := DataW.trod_int (k := .i64) (by kernel_rfl) g0_3; cases e0_3
  obtain ⟨y0_4, g0_4⟩ := hf0 4 _ _ rfl rfl
  obtain ⟨sb0_4, len0_4, cap0_4, m0_4, hcs0_4, hl0_4, hC0_4, hY0_4⟩ := Th.open_rd (α := {z : thicketkeep_D // Th.EncI64 thicketkeep_D.enc z}) (enc := fun z => thicketkeep_D.enc z.1) (sz := 11) (e := 100) (by kernel_rfl) (by kernel_rfl) thicketkeep_D.enc_ok.sub (by decide) (fun n cs y h => by
      obtain ⟨z, hz, rfl, hr⟩ := Th.dec_nestR (P := Tryz.prog) (e := 100) 11 (by kernel_rfl) (by kernel_rfl) n cs y h
      match z, hz, hr with
      | [x0, x1, x2, x3, x4, x5, x6, x7, x8, x9, x10], _, hr => exact ⟨⟨thicketkeep_D.mk x0 x1 x2 x3 x4 (api_Command.mk x5 x6 (api_Ref.mk x7 x8) x9 x10), fun n hn => hr n (Th.mem_ints (l := [x0, x1, x2, x3, x4, x5, x6, x7, x8, x9, x10]) hn)⟩, rfl⟩) g0_4
  cases hcs0_4
  obtain ⟨l0_4, hll0_4, hX0_4, hR0_4⟩ : ∃ l : List thicketkeep_D, l.length = len0_4 ∧ Th.SlRd (Th.Old W) thicketkeep_D.enc 11 sb0_4 l ∧ ∀ z ∈ l, Th.EncI64 thicketkeep_D.enc z := ⟨_, by rw [List.length_map]; exact hl0_4, hY0_4.sub, Th.sub_all _⟩
  clear hY0_4
  subst hll0_4
  obtain ⟨y0_5, g0_5⟩ := hf0 5 _ _ rfl rfl
  obtain ⟨sb0_5, len0_5, cap0_5, l0_5, hcs0_5, hl0_5, hC0_5, hX0_5⟩ := Th.open_rd (α := Int) (enc := Th.ecI) (sz := 1) (e := 3) (by kernel_rfl) (by kernel_rfl) Th.ecI_ok (by decide) (Th.dec_int (by kernel_rfl)) g0_5
  cases hcs0_5
  subst hl0_5
  obtain ⟨y0_6, g0_6⟩ := hf0 6 _ _ rfl rfl
  obtain ⟨sb0_6, len0_6, cap0_6, m0_6, hcs0_6, hl0_6, hC0_6, hY0_6⟩ := Th.open_rd (α := {z : api_Act // Th.EncI64 api_Act.enc z}) (enc := fun z => api_Act.enc z.1) (sz := 8) (e := 42) (by kernel_rfl) (by kernel_rfl) api_Act.enc_ok.sub (by decide) (fun n cs y h => by
      obtain ⟨z, hz, rfl, hr⟩ := Th.dec_nestR (P := Tryz.prog) (e := 42) 8 (by kernel_rfl) (by kernel_rfl) n cs y h
      match z, hz, hr with
      | [x0, x1, x2, x3, x4, x5, x6, x7], _, hr => exact ⟨⟨api_Act.mk x0 x1 (api_Command.mk x2 x3 (api_Ref.mk x4 x5) x6 x7), fun n hn => hr n (Th.mem_ints (l := [x0, x1, x2, x3, x4, x5, x6, x7]) hn)⟩, rfl⟩) g0_6
  cases hcs0_6
  obtain ⟨l0_6, hll0_6, hX0_6, hR0_6⟩ : ∃ l : List api_Act, l.length = len0_6 ∧ Th.SlRd (Th.Old W) api_Act.enc 8 sb0_6 l ∧ ∀ z ∈ l, Th.EncI64 api_Act.enc z := ⟨_, by rw [List.length_map]; exact hl0_6, hY0_6.sub, Th.sub_all _⟩
  clear hY0_6
  subst hll0_6
  obtain ⟨y0_7, g0_7⟩ := hf0 7 _ _ rfl rfl
  obtain ⟨a0_7, e0_7, _⟩ := DataW.trod_bool (by kernel_rfl) g0_7; cases e0_7
  obtain ⟨a1, len1, cap1, rfl⟩ := okWide_slice Tryz.underlying46 (hval 1 46 v1 rfl rfl)
  have k1 := h1
  have lt1 : ∀ x ∈ p1, x.block < W.heap.size := by obtain ⟨m, hm⟩ := k1; exact DataW.trod_lt m _ _ _ hm
  obtain ⟨l1, hl1, hC1, hX1, hR1⟩ : ∃ l : List Int, l.length = len1 ∧ len1 ≤ cap1 ∧ Th.SlRd (Th.Old W) Th.ecU 1 a1 l ∧ ∀ z ∈ l, 0 ≤ z ∧ z ≤ 255 := by
    obtain ⟨fuel, hf⟩ := h1
    obtain ⟨sb, len, cap, m, hcs, hl, hC, hX⟩ := Th.open_rd (α := {z : Int // 0 ≤ z ∧ z ≤ 255}) (enc := fun z => Th.ecU z.1) Tryz.underlying46 (by kernel_rfl) Th.ecU_ok.sub (by decide) (Th.dec_byteR (by kernel_rfl)) hf
    simp [Value.cells] at hcs
    obtain ⟨rfl, rfl, rfl⟩ := hcs
    exact ⟨m.map (·.1), by rw [List.length_map]; exact hl, hC, hX.sub, Th.sub_all _⟩
  subst hl1
  obtain ⟨a2, rfl, rfl, rfl, w2⟩ := open_int Tryz.underlying3 (hval 2 3 v2 rfl rfl) h2
  obtain ⟨a3, rfl, rfl, rfl, w3⟩ := open_int Tryz.underlying5 (hval 3 5 v3 rfl rfl) h3
  clear hA0 hval0
  obtain ⟨k, hm⟩ := shellReads_plain (thicketlaw28_Raw.mk a0_0 a0_1 a0_2 a0_3 l0_4 l0_5 l0_6 a0_7) l1 a2 a3 hR0_4 hR0_6 hR1
  have hw := thicketlaw28_ShellReads_ok (X_x := Th.Old W) (x := thicketlaw28_Raw.mk a0_0 a0_1 a0_2 a0_3 l0_4 l0_5 l0_6 a0_7) (al_x := thicketlaw28_Raw.A.mk sb0_4 cap0_4 sb0_5 cap0_5 sb0_6 cap0_6) hX0_4 hC0_4 hX0_5 hC0_5 hX0_6 hC0_6 hX1 hC1 hm (Th.St.begin W)
  refine Calls.mono hw fun e W' ⟨v, he, hv, HS⟩ => ?_
  subst hv; subst he
  have bel := HS.below 0 rfl
  exact ⟨_, rfl, _, _, _, [], _, [], hW', trodAll_mk1 (shut_bool Tryz.underlying4 _), (trodAll_cons_mk (Below.trod laidOut (by kernel_rfl) (of_decide_eq_true (by kernel_rfl)) k0 bel lt0) (trodAll_cons_mk (Below.trod laidOut (by kernel_rfl) (of_decide_eq_true (by kernel_rfl)) k1 bel lt1) (trodAll_cons_mk (shut_int Tryz.underlying3 w2) (trodAll_cons_mk (shut_int Tryz.underlying5 w3) trodAll_mk0)))), rfl, bel.frame _, fun h => by cases h⟩

end Go.Proofs.YtdcjghailibedaaGreat.shellReads
