import Derived.Test.YtbpkejhpmakmbaaGreatLp3
set_option linter.unusedVariables false
set_option linter.unusedSimpArgs false
set_option maxRecDepth 10000
set_option maxHeartbeats 4000000
namespace Go.Proofs.YtbpkejhpmakmbaaGreat
open Go.Th

theorem thicketref2_Pool_Take_ok {w0 w : World} {As : List HP} {p_p : Nat} {al_p : thicketref2_Pool.A} {p : thicketref2_Pool} {v_ : Int} {t : api_Ref × Bool × thicketref2_Pool}  (hm : thicketref2_Pool_Take p v_ = some t) (H : St w0 (thicketref2_Pool.R p_p al_p p :: As) w) :
    CallsR Tryz.prog 133 #[.pointer (some ⟨p_p, 0, none⟩), .int .i64 v_] w fun v w' => ∃ (z_p_Gens_b : Option Addr), ∃ (z_p_Gens_c : Nat), ∃ (z_p_In_b : Option Addr), ∃ (z_p_In_c : Nat), ∃ (z_p_V_b : Option Addr), ∃ (z_p_V_c : Nat), ∃ (z_p_Back_b : Option Addr), ∃ (z_p_Back_c : Nat), v = .tuple #[.agg #[.int .i64 t.1.At, .int .i64 t.1.Gen], .bool t.2.1] ∧ St w0 (thicketref2_Pool.R p_p (thicketref2_Pool.A.mk z_p_Gens_b z_p_Gens_c z_p_In_b z_p_In_c z_p_V_b z_p_V_c z_p_Back_b z_p_Back_c) t.2.2 :: As) w' := by
 rw [thicketref2_Pool_Take] at hm
 refine enter (args := [.pointer (some ⟨p_p, 0, none⟩), .int .i64 v_]) Tryz.func133 rfl rfl rfl fun a hE => ?_
 refine Runs.sr ?_
 refine WR.eff hE rfl rfl rfl rfl (OpTo.new hE H [] (.cells #[.int .i64 0, .int .i64 0] 26 (0, 0)) (fun r => .pointer (some ⟨r, 0, none⟩)) (obs := []) rfl (fun _ => by kernel_rfl) trivial) ?_
 rintro _ w ⟨r, rfl, H⟩ a hE
 refine WR.seg hE 2 [] [0, 1, 4] (Lo := [(0, .pointer (some ⟨p_p, 0, none⟩)), (1, .int .i64 v_), (4, .pointer (some ⟨r, 0, none⟩))]) (obs := []) rfl (by kernel_rfl) trivial fun a hE => ?_
 refine WR.done rfl ?_
 refine Runs.sr ?_
 replace H := thicketref2_Pool.open H.t1
 refine WR.e hE [.slice al_p.Gens_b p.Gens.length al_p.Gens_c] [(6, .int .i64 (p.Gens.length : Int))] (obs := [.cell ⟨p_p, 1, none⟩ (.slice al_p.Gens_b p.Gens.length al_p.Gens_c)]) ⟨H.cell 0 rfl rfl, trivial⟩ fun a hE => ?_
 refine Runs.seq ?_
 refine Runs.sr ?_
 refine WR.e hE [.slice al_p.Back_b p.Back.length al_p.Back_c] [(7, .int .i64 (p.Back.length : Int))] (obs := [.cell ⟨p_p, 4, none⟩ (.slice al_p.Back_b p.Back.length al_p.Back_c)]) ⟨H.cell 0 rfl rfl, trivial⟩ fun a hE => ?_
 refine Runs.sr ?_
 refine WR.e0 hE [(19, .bool (decide ((p.Back.length : Int) > 0)))] fun a hE => ?_
 replace H := thicketref2_Pool.shut al_p (p) H.t4.t4.t4.t4.t4
 obtain ⟨s, es, hR⟩ := bind_some hm
 refine Runs.join (fun a w => ∃ s1, s = Sum.inr s1 ∧ ∃ (z : Option Addr), ∃ (z1 : Nat), ∃ (z2 : Option Addr), ∃ (z3 : Nat), ∃ (z4 : Option Addr), ∃ (z5 : Nat), ∃ (z6 : Option Addr), ∃ (z7 : Nat), EnvOk 103 a [(0, .pointer (some ⟨p_p, 0, none⟩)), (1, .int .i64 v_), (4, .pointer (some ⟨r, 0, none⟩)), (6, .int .i64 s1.1)] ∧ St w0 (thicketref2_Pool.R p_p (thicketref2_Pool.A.mk z z1 z2 z3 z4 z5 z6 z7) s1.2 :: Blk r 26 [.int .i64 0, .int .i64 0] :: As) w) (fun hk => ?_) ?_
 ·replace hm := es; clear es
  refine Runs.cond hE rfl (fun c => ?_) (fun c => ?_)
  ·replace hm := cond_t c hm
   refine Runs.sr ?_
   replace H := thicketref2_Pool.open H
   obtain ⟨x, ex, hm⟩ := bind_some hm
   obtain ⟨b, o, hs, hb⟩ := SlRd.base (sl_rd 3 ecI 1 _ _ _) ecI_ok H 4 rfl ex
   refine WR.e hE [.slice al_p.Back_b p.Back.length al_p.Back_c, .pointer (some ⟨b, o, none⟩), .int .i64 x] [(6, .int .i64 x)] (obs := [.cell ⟨p_p, 4, none⟩ (.slice al_p.Back_b p.Back.length al_p.Back_c), .p ((al_p.Back_b : Option Addr) = some ⟨b, o, none⟩), .p (0 ≤ ((w64 ((p.Back.length : Int) - 1)) : Int) ∧ ((w64 ((p.Back.length : Int) - 1)) : Int) < ((p.Back.length : Nat) : Int)), .cell ⟨b, o + (Int.toNat (w64 ((p.Back.length : Int) - 1))) * 1, none⟩ (.int .i64 x)]) ⟨H.cell 0 rfl rfl, hs, hb, SlRd.cells (sl_rd 3 ecI 1 _ _ _) ecI_ok H 4 rfl hs ex 0 _ rfl, trivial⟩ fun a hE => ?_
   refine Runs.region ?_
   obtain ⟨l, el, hm⟩ := bind_some hm
   obtain ⟨sb, q⟩ : ∃ z, rebase al_p.Back_b al_p.Back_c (Int.toNat 0) 1 = z := ⟨_, rfl⟩
   obtain ⟨sc, q1⟩ : ∃ z, al_p.Back_c - (Int.toNat 0) = z := ⟨_, rfl⟩
   refine WR.d hE 10 [.slice al_p.Back_b p.Back.length al_p.Back_c, .slice sb l.length sc] [(35, .slice sb l.length sc), (37, .pointer (some ⟨p_p, 4, none⟩))] (obs := [.cell ⟨p_p, 4, none⟩ (.slice al_p.Back_b p.Back.length al_p.Back_c), .p (rebase al_p.Back_b al_p.Back_c 0 1 = sb), .p ((Int.toNat (w64 ((p.Back.length : Int) - 1))) - 0 = l.length), .p (al_p.Back_c - 0 = sc), .p (0 ≤ ((w64 ((p.Back.length : Int) - 1)) : Int) ∧ ((w64 ((p.Back.length : Int) - 1)) : Int) ≤ ((al_p.Back_c : Nat) : Int))]) ⟨H.cell 0 rfl rfl, q, cut_len el, q1, cut_cap el (H.slCap 4 rfl).1, trivial⟩ fun a hE => ?_
   refine WR.eff0 hE rfl rfl rfl (OpTo.store hE H rfl rfl rfl rfl rfl rfl (Nat.le_of_ble_eq_true rfl)) ?_
   rintro _ w H a hE
   refine WR.done rfl ?_
   replace H := H.t4.slCut' ecI_ok el q q1
   replace H := thicketref2_Pool.shut (thicketref2_Pool.A.mk al_p.Gens_b al_p.Gens_c al_p.In_b al_p.In_c al_p.V_b al_p.V_c sb sc) (thicketref2_Pool.mk p.Most p.Gens p.In p.V l) H.t4.t4.t4.t4
   cases hm
   exact hk _ _ ⟨_, rfl, al_p.Gens_b, al_p.Gens_c, al_p.In_b, al_p.In_c, al_p.V_b, al_p.V_c, sb, sc, hE.sel [0, 1, 4, 6] (by kernel_rfl), H.t1.t1⟩
  ·replace hm := cond_f c hm
   refine Runs.sr ?_
   replace H := thicketref2_Pool.open H
   refine WR.e hE [.int .i64 p.Most] [(43, .bool (decide ((p.Gens.length : Int) ≥ p.Most)))] (obs := [.cell ⟨p_p, 0, none⟩ (.int .i64 p.Most)]) ⟨H.cell 0 rfl rfl, trivial⟩ fun a hE => ?_
   refine Runs.cond hE rfl (fun c => ?_) (fun c => ?_)
   ·replace hm := cond_t c hm
    refine Runs.sr ?_
    refine WR.d0 hE 1 [(44, .agg #[.int .i64 0, .int .i64 0])] fun a hE => ?_
    refine WR.eff0 hE rfl rfl rfl (OpTo.store hE H.t5 rfl rfl rfl rfl rfl rfl (Nat.le_of_ble_eq_true rfl)) ?_
    rintro _ w H a hE
    refine WR.e0 hE [(5, .bool false)] fun a hE => ?_
    refine Runs.retO (vs := [.agg #[.int .i64 0, .int .i64 0], .bool false]) (obs := [.cell ⟨r, 0, none⟩ (.int .i64 0), .cell ⟨r, 1, none⟩ (.int .i64 0)]) hE Tryz.func133 rfl [.int .i64 0, .int .i64 0] (by kernel_rfl) ⟨H.cell 0 rfl rfl, H.cell 0 rfl rfl, trivial⟩ ?_
    replace H := thicketref2_Pool.shut al_p (p) H.t5.t5.t5.t5.t5
    cases hm
    dsimp only at hR; cases hR
    exact ⟨al_p.Gens_b, al_p.Gens_c, al_p.In_b, al_p.In_c, al_p.V_b, al_p.V_c, al_p.Back_b, al_p.Back_c, rfl, H.x1⟩
   ·replace hm := cond_f c hm
    replace H := thicketref2_Pool.shut al_p (p) H.t4.t4.t4.t4.t4
    obtain ⟨l1, el1, hm⟩ := bind_some hm
    obtain ⟨l2, el2, hm⟩ := bind_some hm
    obtain ⟨l3, el3, hm⟩ := bind_some hm
    refine Runs.join (fun a w => ∃ (z8 : Option Addr), ∃ (z9 : Nat), ∃ (z10 : Option Addr), ∃ (z11 : Nat), ∃ (z12 : Option Addr), ∃ (z13 : Nat), EnvOk 103 a [(0, .pointer (some ⟨p_p, 0, none⟩)), (1, .int .i64 v_), (4, .pointer (some ⟨r, 0, none⟩)), (6, .int .i64 (p.Gens.length : Int))] ∧ St w0 (thicketref2_Pool.R p_p (thicketref2_Pool.A.mk z8 z9 z10 z11 z12 z13 al_p.Back_b al_p.Back_c) (thicketref2_Pool.mk p.Most l1 l2 l3 p.Back) :: Blk r 26 [.int .i64 0, .int .i64 0] :: As) w) (fun hk => ?_) ?_
    ·refine Runs.drawn mixed (by kernel_rfl) ?_
     replace H := H.drew
     replace H := thicketref2_Pool.open H
     refine WQ.d hE [0, 1, 2, 3, 4, 5, 6, 9, 10, 11, 12, 15, 16, 17, 18] [.slice al_p.Gens_b p.Gens.length al_p.Gens_c, .slice al_p.In_b p.In.length al_p.In_c, .slice al_p.V_b p.V.length al_p.V_c] [(45, .pointer (some ⟨p_p, 0, none⟩)), (46, .pointer (some ⟨p_p, 0, none⟩)), (47, .pointer (some ⟨p_p, 0, none⟩)), (51, .slice al_p.Gens_b p.Gens.length al_p.Gens_c), (57, .slice al_p.In_b p.In.length al_p.In_c), (63, .slice al_p.V_b p.V.length al_p.V_c)] (obs := [.cell ⟨p_p, 1, none⟩ (.slice al_p.Gens_b p.Gens.length al_p.Gens_c), .cell ⟨p_p, 2, none⟩ (.slice al_p.In_b p.In.length al_p.In_c), .cell ⟨p_p, 3, none⟩ (.slice al_p.V_b p.V.length al_p.V_c)]) ⟨H.cell 0 rfl rfl, H.cell 0 rfl rfl, H.cell 0 rfl rfl, trivial⟩ fun a hE => ?_
     refine WQ.act3 7 13 19 (by kernel_rfl) ?_ ?_ ?_
     ·refine AQ.eff (j := 7) (obs := [.cell ⟨p_p, 3, none⟩ (.slice al_p.V_b p.V.length al_p.V_c), .cell ⟨p_p, 2, none⟩ (.slice al_p.In_b p.In.length al_p.In_c), .cell ⟨p_p, 1, none⟩ (.slice al_p.Gens_b p.Gens.length al_p.Gens_c)]) hE rfl rfl rfl rfl (by kernel_rfl) (OpTo.buildSl (T := 3) hE H ecI_ok ([0] : List Int) rfl (fun _ => by kernel_rfl) rfl rfl rfl) ?_
      rintro _ w ⟨r4, rfl, H⟩
      refine ⟨⟨H.cell 1 rfl rfl, H.cell 1 rfl rfl, H.cell 1 rfl rfl, trivial⟩, fun a hE => ?_⟩
      refine WQ.act3 8 13 19 (by kernel_rfl) ?_ ?_ ?_
      ·replace H := H.t2
       refine AQ.eff (j := 8) (obs := [.cell ⟨p_p, 3, none⟩ (.slice al_p.V_b p.V.length al_p.V_c), .cell ⟨p_p, 2, none⟩ (.slice al_p.In_b p.In.length al_p.In_c)]) hE rfl rfl rfl rfl (by kernel_rfl) (OpTo.appendM el1 hE H ecI_ok rfl rfl rfl rfl rfl rfl rfl rfl rfl rfl (SlRd.all (sl_rd 3 ecI 1 _ _ _) ecI_ok H 1 rfl) rfl) ?_
       rintro _ w ⟨sb4, sc4, rfl, H⟩
       refine ⟨⟨H.cell 2 rfl rfl, H.cell 2 rfl rfl, trivial⟩, fun a hE => ?_⟩
       refine WQ.act2 13 19 (by kernel_rfl) ?_ ?_
       ·refine AQ.eff (j := 13) (obs := [.cell ⟨p_p, 3, none⟩ (.slice al_p.V_b p.V.length al_p.V_c), .cell ⟨p_p, 2, none⟩ (.slice al_p.In_b p.In.length al_p.In_c)]) hE rfl rfl rfl rfl (by kernel_rfl) (OpTo.buildSl (T := 4) hE H ecB_ok ([false] : List Bool) rfl (fun _ => by kernel_rfl) rfl rfl rfl) ?_
        rintro _ w ⟨r5, rfl, H⟩
        refine ⟨⟨H.cell 3 rfl rfl, H.cell 3 rfl rfl, trivial⟩, fun a hE => ?_⟩
        refine WQ.act2 14 19 (by kernel_rfl) ?_ ?_
        ·replace H := H.t4
         refine AQ.eff (j := 14) (obs := [.cell ⟨p_p, 3, none⟩ (.slice al_p.V_b p.V.length al_p.V_c)]) hE rfl rfl rfl rfl (by kernel_rfl) (OpTo.appendM el2 hE H ecB_ok rfl rfl rfl rfl rfl rfl rfl rfl rfl rfl (SlRd.all (sl_rd 4 ecB 1 _ _ _) ecB_ok H 1 rfl) rfl) ?_
         rintro _ w ⟨sb5, sc5, rfl, H⟩
         refine ⟨⟨H.cell 4 rfl rfl, trivial⟩, fun a hE => ?_⟩
         refine WQ.eff (j := 19) (obs := [.cell ⟨p_p, 3, none⟩ (.slice al_p.V_b p.V.length al_p.V_c)]) hE (by kernel_rfl) rfl rfl rfl rfl (by kernel_rfl) (OpTo.buildSl (T := 2) hE H ecI_ok ([0] : List Int) rfl (fun _ => by kernel_rfl) rfl rfl rfl) ?_
         rintro _ w ⟨r6, rfl, H⟩
         refine ⟨⟨H.cell 5 rfl rfl, trivial⟩, fun a hE => ?_⟩
         replace H := H.t6
         refine WQ.eff (j := 20) (obs := []) hE (by kernel_rfl) rfl rfl rfl rfl (by kernel_rfl) (OpTo.appendM el3 hE H ecI_ok rfl rfl rfl rfl rfl rfl rfl rfl rfl rfl (SlRd.all (sl_rd 2 ecI 1 _ _ _) ecI_ok H 1 rfl) rfl) ?_
         rintro _ w ⟨sb6, sc6, rfl, H⟩
         refine ⟨trivial, fun a hE => ?_⟩
         refine WQ.d0 hE [21, 22] [(67, .pointer (some ⟨p_p, 1, none⟩))] fun a hE => ?_
         refine WQ.eff0 (j := 23) (obs := []) hE (by kernel_rfl) rfl rfl rfl (by kernel_rfl) (OpTo.store hE H.t6 rfl rfl rfl rfl rfl rfl (Nat.le_of_ble_eq_true rfl)) ?_
         rintro _ w H
         refine ⟨trivial, fun a hE => ?_⟩
         refine WQ.d0 hE [24, 25] [(69, .pointer (some ⟨p_p, 2, none⟩))] fun a hE => ?_
         refine WQ.eff0 (j := 26) (obs := []) hE (by kernel_rfl) rfl rfl rfl (by kernel_rfl) (OpTo.store hE H rfl rfl rfl rfl rfl rfl (Nat.le_of_ble_eq_true rfl)) ?_
         rintro _ w H
         refine ⟨trivial, fun a hE => ?_⟩
         refine WQ.d0 hE [27, 28] [(71, .pointer (some ⟨p_p, 3, none⟩))] fun a hE => ?_
         refine WQ.eff0 (j := 29) (obs := []) hE (by kernel_rfl) rfl rfl rfl (by kernel_rfl) (OpTo.store hE H rfl rfl rfl rfl rfl rfl (Nat.le_of_ble_eq_true rfl)) ?_
         rintro _ w H
         refine ⟨trivial, fun a hE => ?_⟩
         refine WQ.done (by kernel_rfl) ?_
         replace H := thicketref2_Pool.shut (thicketref2_Pool.A.mk sb4 sc4 sb5 sc5 sb6 sc6 al_p.Back_b al_p.Back_c) (thicketref2_Pool.mk p.Most l1 l2 l3 p.Back) H.t7.t2.t4.t6.t4
         exact hk _ _ ⟨sb4, sc4, sb5, sc5, sb6, sc6, hE.sel [0, 1, 4, 6] (by kernel_rfl), H.x3.x2.x1.t1.t1⟩
        ·refine AQ.eff (j := 19) (obs := [.cell ⟨p_p, 3, none⟩ (.slice al_p.V_b p.V.length al_p.V_c), .cell ⟨p_p, 2, none⟩ (.slice al_p.In_b p.In.length al_p.In_c)]) hE rfl rfl rfl rfl (by kernel_rfl) (OpTo.buildSl (T := 2) hE H ecI_ok ([0] : List Int) rfl (fun _ => by kernel_rfl) rfl rfl rfl) ?_
         rintro _ w ⟨r7, rfl, H⟩
         refine ⟨⟨H.cell 4 rfl rfl, H.cell 4 rfl rfl, trivial⟩, fun a hE => ?_⟩
         replace H := H.t5
         refine WQ.eff (j := 14) (obs := [.cell ⟨p_p, 3, none⟩ (.slice al_p.V_b p.V.length al_p.V_c)]) hE (by kernel_rfl) rfl rfl rfl rfl (by kernel_rfl) (OpTo.appendM el2 hE H ecB_ok rfl rfl rfl rfl rfl rfl rfl rfl rfl rfl (SlRd.all (sl_rd 4 ecB 1 _ _ _) ecB_ok H 2 rfl) rfl) ?_
         rintro _ w ⟨sb7, sc7, rfl, H⟩
         refine ⟨⟨H.cell 5 rfl rfl, trivial⟩, fun a hE => ?_⟩
         replace H := H.t6
         refine WQ.eff (j := 20) (obs := []) hE (by kernel_rfl) rfl rfl rfl rfl (by kernel_rfl) (OpTo.appendM el3 hE H ecI_ok rfl rfl rfl rfl rfl rfl rfl rfl rfl rfl (SlRd.all (sl_rd 2 ecI 1 _ _ _) ecI_ok H 2 rfl) rfl) ?_
         rintro _ w ⟨sb8, sc8, rfl, H⟩
         refine ⟨trivial, fun a hE => ?_⟩
         refine WQ.d0 hE [21, 22] [(67, .pointer (some ⟨p_p, 1, none⟩))] fun a hE => ?_
         refine WQ.eff0 (j := 23) (obs := []) hE (by kernel_rfl) rfl rfl rfl (by kernel_rfl) (OpTo.store hE H.t6 rfl rfl rfl rfl rfl rfl (Nat.le_of_ble_eq_true rfl)) ?_
         rintro _ w H
         refine ⟨trivial, fun a hE => ?_⟩
         refine WQ.d0 hE [24, 25] [(69, .pointer (some ⟨p_p, 2, none⟩))] fun a hE => ?_
         refine WQ.eff0 (j := 26) (obs := []) hE (by kernel_rfl) rfl rfl rfl (by kernel_rfl) (OpTo.store hE H rfl rfl rfl rfl rfl rfl (Nat.le_of_ble_eq_true rfl)) ?_
         rintro _ w H
         refine ⟨trivial, fun a hE => ?_⟩
         refine WQ.d0 hE [27, 28] [(71, .pointer (some ⟨p_p, 3, none⟩))] fun a hE => ?_
         refine WQ.eff0 (j := 29) (obs := []) hE (by kernel_rfl) rfl rfl rfl (by kernel_rfl) (OpTo.store hE H rfl rfl rfl rfl rfl rfl (Nat.le_of_ble_eq_true rfl)) ?_
         rintro _ w H
         refine ⟨trivial, fun a hE => ?_⟩
         refine WQ.done (by kernel_rfl) ?_
         replace H := thicketref2_Pool.shut (thicketref2_Pool.A.mk sb4 sc4 sb7 sc7 sb8 sc8 al_p.Back_b al_p.Back_c) (thicketref2_Pool.mk p.Most l1 l2 l3 p.Back) H.t7.t2.t3.t6.t4
         exact hk _ _ ⟨sb4, sc4, sb7, sc7, sb8, sc8, hE.sel [0, 1, 4, 6] (by kernel_rfl), H.x3.x2.x1.t1.t1⟩
       ·refine AQ.eff (j := 19) (obs := [.cell ⟨p_p, 3, none⟩ (.slice al_p.V_b p.V.length al_p.V_c), .cell ⟨p_p, 2, none⟩ (.slice al_p.In_b p.In.length al_p.In_c)]) hE rfl rfl rfl rfl (by kernel_rfl) (OpTo.buildSl (T := 2) hE H ecI_ok ([0] : List Int) rfl (fun _ => by kernel_rfl) rfl rfl rfl) ?_
        rintro _ w ⟨r8, rfl, H⟩
        refine ⟨⟨H.cell 3 rfl rfl, H.cell 3 rfl rfl, trivial⟩, fun a hE => ?_⟩
        refine WQ.eff (j := 13) (obs := [.cell ⟨p_p, 3, none⟩ (.slice al_p.V_b p.V.length al_p.V_c), .cell ⟨p_p, 2, none⟩ (.slice al_p.In_b p.In.length al_p.In_c)]) hE (by kernel_rfl) rfl rfl rfl rfl (by kernel_rfl) (OpTo.buildSl (T := 4) hE H ecB_ok ([false] : List Bool) rfl (fun _ => by kernel_rfl) rfl rfl rfl) ?_
        rintro _ w ⟨r9, rfl, H⟩
        refine ⟨⟨H.cell 4 rfl rfl, H.cell 4 rfl rfl, trivial⟩, fun a hE => ?_⟩
        replace H := H.t5
        refine WQ.eff (j := 14) (obs := [.cell ⟨p_p, 3, none⟩ (.slice al_p.V_b p.V.length al_p.V_c)]) hE (by kernel_rfl) rfl rfl rfl rfl (by kernel_rfl) (OpTo.appendM el2 hE H ecB_ok rfl rfl rfl rfl rfl rfl rfl rfl rfl rfl (SlRd.all (sl_rd 4 ecB 1 _ _ _) ecB_ok H 1 rfl) rfl) ?_
        rintro _ w ⟨sb9, sc9, rfl, H⟩
        refine ⟨⟨H.cell 5 rfl rfl, trivial⟩, fun a hE => ?_⟩
        replace H := H.t6
        refine WQ.eff (j := 20) (obs := []) hE (by kernel_rfl) rfl rfl rfl rfl (by kernel_rfl) (OpTo.appendM el3 hE H ecI_ok rfl rfl rfl rfl rfl rfl rfl rfl rfl rfl (SlRd.all (sl_rd 2 ecI 1 _ _ _) ecI_ok H 3 rfl) rfl) ?_
        rintro _ w ⟨sb10, sc10, rfl, H⟩
        refine ⟨trivial, fun a hE => ?_⟩
        refine WQ.d0 hE [21, 22] [(67, .pointer (some ⟨p_p, 1, none⟩))] fun a hE => ?_
        refine WQ.eff0 (j := 23) (obs := []) hE (by kernel_rfl) rfl rfl rfl (by kernel_rfl) (OpTo.store hE H.t6 rfl rfl rfl rfl rfl rfl (Nat.le_of_ble_eq_true rfl)) ?_
        rintro _ w H
        refine ⟨trivial, fun a hE => ?_⟩
        refine WQ.d0 hE [24, 25] [(69, .pointer (some ⟨p_p, 2, none⟩))] fun a hE => ?_
        refine WQ.eff0 (j := 26) (obs := []) hE (by kernel_rfl) rfl rfl rfl (by kernel_rfl) (OpTo.store hE H rfl rfl rfl rfl rfl rfl (Nat.le_of_ble_eq_true rfl)) ?_
        rintro _ w H
        refine ⟨trivial, fun a hE => ?_⟩
        refine WQ.d0 hE [27, 28] [(71, .pointer (some ⟨p_p, 3, none⟩))] fun a hE => ?_
        refine WQ.eff0 (j := 29) (obs := []) hE (by kernel_rfl) rfl rfl rfl (by kernel_rfl) (OpTo.store hE H rfl rfl rfl rfl rfl rfl (Nat.le_of_ble_eq_true rfl)) ?_
        rintro _ w H
        refine ⟨trivial, fun a hE => ?_⟩
        refine WQ.done (by kernel_rfl) ?_
        replace H := thicketref2_Pool.shut (thicketref2_Pool.A.mk sb4 sc4 sb9 sc9 sb10 sc10 al_p.Back_b al_p.Back_c) (thicketref2_Pool.mk p.Most l1 l2 l3 p.Back) H.t7.t2.t3.t6.t4
        exact hk _ _ ⟨sb4, sc4, sb9, sc9, sb10, sc10, hE.sel [0, 1, 4, 6] (by kernel_rfl), H.x3.x2.x1.t1.t1⟩
      ·refine AQ.eff (j := 13) (obs := [.cell ⟨p_p, 3, none⟩ (.slice al_p.V_b p.V.length al_p.V_c), .cell ⟨p_p, 2, none⟩ (.slice al_p.In_b p.In.length al_p.In_c), .cell ⟨p_p, 1, none⟩ (.slice al_p.Gens_b p.Gens.length al_p.Gens_c)]) hE rfl rfl rfl rfl (by kernel_rfl) (OpTo.buildSl (T := 4) hE H ecB_ok ([false] : List Bool) rfl (fun _ => by kernel_rfl) rfl rfl rfl) ?_
       rintro _ w ⟨r10, rfl, H⟩
       refine ⟨⟨H.cell 2 rfl rfl, H.cell 2 rfl rfl, H.cell 2 rfl rfl, trivial⟩, fun a hE => ?_⟩
       refine WQ.act2 8 19 (by kernel_rfl) ?_ ?_
       ·replace H := H.t3
        refine AQ.eff (j := 8) (obs := [.cell ⟨p_p, 3, none⟩ (.slice al_p.V_b p.V.length al_p.V_c), .cell ⟨p_p, 2, none⟩ (.slice al_p.In_b p.In.length al_p.In_c)]) hE rfl rfl rfl rfl (by kernel_rfl) (OpTo.appendM el1 hE H ecI_ok rfl rfl rfl rfl rfl rfl rfl rfl rfl rfl (SlRd.all (sl_rd 3 ecI 1 _ _ _) ecI_ok H 2 rfl) rfl) ?_
        rintro _ w ⟨sb11, sc11, rfl, H⟩
        refine ⟨⟨H.cell 3 rfl rfl, H.cell 3 rfl rfl, trivial⟩, fun a hE => ?_⟩
        refine WQ.act2 14 19 (by kernel_rfl) ?_ ?_
        ·replace H := H.t4
         refine AQ.eff (j := 14) (obs := [.cell ⟨p_p, 3, none⟩ (.slice al_p.V_b p.V.length al_p.V_c)]) hE rfl rfl rfl rfl (by kernel_rfl) (OpTo.appendM el2 hE H ecB_ok rfl rfl rfl rfl rfl rfl rfl rfl rfl rfl (SlRd.all (sl_rd 4 ecB 1 _ _ _) ecB_ok H 2 rfl) rfl) ?_
         rintro _ w ⟨sb12, sc12, rfl, H⟩
         refine ⟨⟨H.cell 4 rfl rfl, trivial⟩, fun a hE => ?_⟩
         refine WQ.eff (j := 19) (obs := [.cell ⟨p_p, 3, none⟩ (.slice al_p.V_b p.V.length al_p.V_c)]) hE (by kernel_rfl) rfl rfl rfl rfl (by kernel_rfl) (OpTo.buildSl (T := 2) hE H ecI_ok ([0] : List Int) rfl (fun _ => by kernel_rfl) rfl rfl rfl) ?_
         rintro _ w ⟨r11, rfl, H⟩
         refine ⟨⟨H.cell 5 rfl rfl, trivial⟩, fun a hE => ?_⟩
         replace H := H.t6
         refine WQ.eff (j := 20) (obs := []) hE (by kernel_rfl) rfl rfl rfl rfl (by kernel_rfl) (OpTo.appendM el3 hE H ecI_ok rfl rfl rfl rfl rfl rfl rfl rfl rfl rfl (SlRd.all (sl_rd 2 ecI 1 _ _ _) ecI_ok H 1 rfl) rfl) ?_
         rintro _ w ⟨sb13, sc13, rfl, H⟩
         refine ⟨trivial, fun a hE => ?_⟩
         refine WQ.d0 hE [21, 22] [(67, .pointer (some ⟨p_p, 1, none⟩))] fun a hE => ?_
         refine WQ.eff0 (j := 23) (obs := []) hE (by kernel_rfl) rfl rfl rfl (by kernel_rfl) (OpTo.store hE H.t6 rfl rfl rfl rfl rfl rfl (Nat.le_of_ble_eq_true rfl)) ?_
         rintro _ w H
         refine ⟨trivial, fun a hE => ?_⟩
         refine WQ.d0 hE [24, 25] [(69, .pointer (some ⟨p_p, 2, none⟩))] fun a hE => ?_
         refine WQ.eff0 (j := 26) (obs := []) hE (by kernel_rfl) rfl rfl rfl (by kernel_rfl) (OpTo.store hE H rfl rfl rfl rfl rfl rfl (Nat.le_of_ble_eq_true rfl)) ?_
         rintro _ w H
         refine ⟨trivial, fun a hE => ?_⟩
         refine WQ.d0 hE [27, 28] [(71, .pointer (some ⟨p_p, 3, none⟩))] fun a hE => ?_
         refine WQ.eff0 (j := 29) (obs := []) hE (by kernel_rfl) rfl rfl rfl (by kernel_rfl) (OpTo.store hE H rfl rfl rfl rfl rfl rfl (Nat.le_of_ble_eq_true rfl)) ?_
         rintro _ w H
         refine ⟨trivial, fun a hE => ?_⟩
         refine WQ.done (by kernel_rfl) ?_
         replace H := thicketref2_Pool.shut (thicketref2_Pool.A.mk sb11 sc11 sb12 sc12 sb13 sc13 al_p.Back_b al_p.Back_c) (thicketref2_Pool.mk p.Most l1 l2 l3 p.Back) H.t7.t2.t4.t5.t4
         exact hk _ _ ⟨sb11, sc11, sb12, sc12, sb13, sc13, hE.sel [0, 1, 4, 6] (by kernel_rfl), H.x3.x2.x1.t1.t1⟩
        ·refine AQ.eff (j := 19) (obs := [.cell ⟨p_p, 3, none⟩ (.slice al_p.V_b p.V.length al_p.V_c), .cell ⟨p_p, 2, none⟩ (.slice al_p.In_b p.In.length al_p.In_c)]) hE rfl rfl rfl rfl (by kernel_rfl) (OpTo.buildSl (T := 2) hE H ecI_ok ([0] : List Int) rfl (fun _ => by kernel_rfl) rfl rfl rfl) ?_
         rintro _ w ⟨r12, rfl, H⟩
         refine ⟨⟨H.cell 4 rfl rfl, H.cell 4 rfl rfl, trivial⟩, fun a hE => ?_⟩
         replace H := H.t5
         refine WQ.eff (j := 14) (obs := [.cell ⟨p_p, 3, none⟩ (.slice al_p.V_b p.V.length al_p.V_c)]) hE (by kernel_rfl) rfl rfl rfl rfl (by kernel_rfl) (OpTo.appendM el2 hE H ecB_ok rfl rfl rfl rfl rfl rfl rfl rfl rfl rfl (SlRd.all (sl_rd 4 ecB 1 _ _ _) ecB_ok H 3 rfl) rfl) ?_
         rintro _ w ⟨sb14, sc14, rfl, H⟩
         refine ⟨⟨H.cell 5 rfl rfl, trivial⟩, fun a hE => ?_⟩
         replace H := H.t6
         refine WQ.eff (j := 20) (obs := []) hE (by kernel_rfl) rfl rfl rfl rfl (by kernel_rfl) (OpTo.appendM el3 hE H ecI_ok rfl rfl rfl rfl rfl rfl rfl rfl rfl rfl (SlRd.all (sl_rd 2 ecI 1 _ _ _) ecI_ok H 2 rfl) rfl) ?_
         rintro _ w ⟨sb15, sc15, rfl, H⟩
         refine ⟨trivial, fun a hE => ?_⟩
         refine WQ.d0 hE [21, 22] [(67, .pointer (some ⟨p_p, 1, none⟩))] fun a hE => ?_
         refine WQ.eff0 (j := 23) (obs := []) hE (by kernel_rfl) rfl rfl rfl (by kernel_rfl) (OpTo.store hE H.t6 rfl rfl rfl rfl rfl rfl (Nat.le_of_ble_eq_true rfl)) ?_
         rintro _ w H
         refine ⟨trivial, fun a hE => ?_⟩
         refine WQ.d0 hE [24, 25] [(69, .pointer (some ⟨p_p, 2, none⟩))] fun a hE => ?_
         refine WQ.eff0 (j := 26) (obs := []) hE (by kernel_rfl) rfl rfl rfl (by kernel_rfl) (OpTo.store hE H rfl rfl rfl rfl rfl rfl (Nat.le_of_ble_eq_true rfl)) ?_
         rintro _ w H
         refine ⟨trivial, fun a hE => ?_⟩
         refine WQ.d0 hE [27, 28] [(71, .pointer (some ⟨p_p, 3, none⟩))] fun a hE => ?_
         refine WQ.eff0 (j := 29) (obs := []) hE (by kernel_rfl) rfl rfl rfl (by kernel_rfl) (OpTo.store hE H rfl rfl rfl rfl rfl rfl (Nat.le_of_ble_eq_true rfl)) ?_
         rintro _ w H
         refine ⟨trivial, fun a hE => ?_⟩
         refine WQ.done (by kernel_rfl) ?_
         replace H := thicketref2_Pool.shut (thicketref2_Pool.A.mk sb11 sc11 sb14 sc14 sb15 sc15 al_p.Back_b al_p.Back_c) (thicketref2_Pool.mk p.Most l1 l2 l3 p.Back) H.t7.t2.t3.t5.t4
         exact hk _ _ ⟨sb11, sc11, sb14, sc14, sb15, sc15, hE.sel [0, 1, 4, 6] (by kernel_rfl), H.x3.x2.x1.t1.t1⟩
       ·refine AQ.eff (j := 19) (obs := [.cell ⟨p_p, 3, none⟩ (.slice al_p.V_b p.V.length al_p.V_c), .cell ⟨p_p, 2, none⟩ (.slice al_p.In_b p.In.length al_p.In_c), .cell ⟨p_p, 1, none⟩ (.slice al_p.Gens_b p.Gens.length al_p.Gens_c)]) hE rfl rfl rfl rfl (by kernel_rfl) (OpTo.buildSl (T := 2) hE H ecI_ok ([0] : List Int) rfl (fun _ => by kernel_rfl) rfl rfl rfl) ?_
        rintro _ w ⟨r13, rfl, H⟩
        refine ⟨⟨H.cell 3 rfl rfl, H.cell 3 rfl rfl, H.cell 3 rfl rfl, trivial⟩, fun a hE => ?_⟩
        replace H := H.t4
        refine WQ.eff (j := 8) (obs := [.cell ⟨p_p, 3, none⟩ (.slice al_p.V_b p.V.length al_p.V_c), .cell ⟨p_p, 2, none⟩ (.slice al_p.In_b p.In.length al_p.In_c)]) hE (by kernel_rfl) rfl rfl rfl rfl (by kernel_rfl) (OpTo.appendM el1 hE H ecI_ok rfl rfl rfl rfl rfl rfl rfl rfl rfl rfl (SlRd.all (sl_rd 3 ecI 1 _ _ _) ecI_ok H 3 rfl) rfl) ?_
        rintro _ w ⟨sb16, sc16, rfl, H⟩
        refine ⟨⟨H.cell 4 rfl rfl, H.cell 4 rfl rfl, trivial⟩, fun a hE => ?_⟩
        replace H := H.t5
        refine WQ.eff (j := 14) (obs := [.cell ⟨p_p, 3, none⟩ (.slice al_p.V_b p.V.length al_p.V_c)]) hE (by kernel_rfl) rfl rfl rfl rfl (by kernel_rfl) (OpTo.appendM el2 hE H ecB_ok rfl rfl rfl rfl rfl rfl rfl rfl rfl rfl (SlRd.all (sl_rd 4 ecB 1 _ _ _) ecB_ok H 3 rfl) rfl) ?_
        rintro _ w ⟨sb17, sc17, rfl, H⟩
        refine ⟨⟨H.cell 5 rfl rfl, trivial⟩, fun a hE => ?_⟩
        replace H := H.t6
        refine WQ.eff (j := 20) (obs := []) hE (by kernel_rfl) rfl rfl rfl rfl (by kernel_rfl) (OpTo.appendM el3 hE H ecI_ok rfl rfl rfl rfl rfl rfl rfl rfl rfl rfl (SlRd.all (sl_rd 2 ecI 1 _ _ _) ecI_ok H 3 rfl) rfl) ?_
        rintro _ w ⟨sb18, sc18, rfl, H⟩
        refine ⟨trivial, fun a hE => ?_⟩
        refine WQ.d0 hE [21, 22] [(67, .pointer (some ⟨p_p, 1, none⟩))] fun a hE => ?_
        refine WQ.eff0 (j := 23) (obs := []) hE (by kernel_rfl) rfl rfl rfl (by kernel_rfl) (OpTo.store hE H.t6 rfl rfl rfl rfl rfl rfl (Nat.le_of_ble_eq_true rfl)) ?_
        rintro _ w H
        refine ⟨trivial, fun a hE => ?_⟩
        refine WQ.d0 hE [24, 25] [(69, .pointer (some ⟨p_p, 2, none⟩))] fun a hE => ?_
        refine WQ.eff0 (j := 26) (obs := []) hE (by kernel_rfl) rfl rfl rfl (by kernel_rfl) (OpTo.store hE H rfl rfl rfl rfl rfl rfl (Nat.le_of_ble_eq_true rfl)) ?_
        rintro _ w H
        refine ⟨trivial, fun a hE => ?_⟩
        refine WQ.d0 hE [27, 28] [(71, .pointer (some ⟨p_p, 3, none⟩))] fun a hE => ?_
        refine WQ.eff0 (j := 29) (obs := []) hE (by kernel_rfl) rfl rfl rfl (by kernel_rfl) (OpTo.store hE H rfl rfl rfl rfl rfl rfl (Nat.le_of_ble_eq_true rfl)) ?_
        rintro _ w H
        refine ⟨trivial, fun a hE => ?_⟩
        refine WQ.done (by kernel_rfl) ?_
        replace H := thicketref2_Pool.shut (thicketref2_Pool.A.mk sb16 sc16 sb17 sc17 sb18 sc18 al_p.Back_b al_p.Back_c) (thicketref2_Pool.mk p.Most l1 l2 l3 p.Back) H.t7.t2.t3.t4.t4
        exact hk _ _ ⟨sb16, sc16, sb17, sc17, sb18, sc18, hE.sel [0, 1, 4, 6] (by kernel_rfl), H.x3.x2.x1.t1.t1⟩
      ·refine AQ.eff (j := 19) (obs := [.cell ⟨p_p, 3, none⟩ (.slice al_p.V_b p.V.length al_p.V_c), .cell ⟨p_p, 2, none⟩ (.slice al_p.In_b p.In.length al_p.In_c), .cell ⟨p_p, 1, none⟩ (.slice al_p.Gens_b p.Gens.length al_p.Gens_c)]) hE rfl rfl rfl rfl (by kernel_rfl) (OpTo.buildSl (T := 2) hE H ecI_ok ([0] : List Int) rfl (fun _ => by kernel_rfl) rfl rfl rfl) ?_
       rintro _ w ⟨r14, rfl, H⟩
       refine ⟨⟨H.cell 2 rfl rfl, H.cell 2 rfl rfl, H.cell 2 rfl rfl, trivial⟩, fun a hE => ?_⟩
       refine WQ.act2 8 13 (by kernel_rfl) ?_ ?_
       ·replace H := H.t3
        refine AQ.eff (j := 8) (obs := [.cell ⟨p_p, 3, none⟩ (.slice al_p.V_b p.V.length al_p.V_c), .cell ⟨p_p, 2, none⟩ (.slice al_p.In_b p.In.length al_p.In_c)]) hE rfl rfl rfl rfl (by kernel_rfl) (OpTo.appendM el1 hE H ecI_ok rfl rfl rfl rfl rfl rfl rfl rfl rfl rfl (SlRd.all (sl_rd 3 ecI 1 _ _ _) ecI_ok H 2 rfl) rfl) ?_
        rintro _ w ⟨sb19, sc19, rfl, H⟩
        refine ⟨⟨H.cell 3 rfl rfl, H.cell 3 rfl rfl, trivial⟩, fun a hE => ?_⟩
        refine WQ.eff (j := 13) (obs := [.cell ⟨p_p, 3, none⟩ (.slice al_p.V_b p.V.length al_p.V_c), .cell ⟨p_p, 2, none⟩ (.slice al_p.In_b p.In.length al_p.In_c)]) hE (by kernel_rfl) rfl rfl rfl rfl (by kernel_rfl) (OpTo.buildSl (T := 4) hE H ecB_ok ([false] : List Bool) rfl (fun _ => by kernel_rfl) rfl rfl rfl) ?_
        rintro _ w ⟨r15, rfl, H⟩
        refine ⟨⟨H.cell 4 rfl rfl, H.cell 4 rfl rfl, trivial⟩, fun a hE => ?_⟩
        replace H := H.t5
        refine WQ.eff (j := 14) (obs := [.cell ⟨p_p, 3, none⟩ (.slice al_p.V_b p.V.length al_p.V_c)]) hE (by kernel_rfl) rfl rfl rfl rfl (by kernel_rfl) (OpTo.appendM el2 hE H ecB_ok rfl rfl rfl rfl rfl rfl rfl rfl rfl rfl (SlRd.all (sl_rd 4 ecB 1 _ _ _) ecB_ok H 1 rfl) rfl) ?_
        rintro _ w ⟨sb20, sc20, rfl, H⟩
        refine ⟨⟨H.cell 5 rfl rfl, trivial⟩, fun a hE => ?_⟩
        replace H := H.t6
        refine WQ.eff (j := 20) (obs := []) hE (by kernel_rfl) rfl rfl rfl rfl (by kernel_rfl) (OpTo.appendM el3 hE H ecI_ok rfl rfl rfl rfl rfl rfl rfl rfl rfl rfl (SlRd.all (sl_rd 2 ecI 1 _ _ _) ecI_ok H 4 rfl) rfl) ?_
        rintro _ w ⟨sb21, sc21, rfl, H⟩
        refine ⟨trivial, fun a hE => ?_⟩
        refine WQ.d0 hE [21, 22] [(67, .pointer (some ⟨p_p, 1, none⟩))] fun a hE => ?_
        refine WQ.eff0 (j := 23) (obs := []) hE (by kernel_rfl) rfl rfl rfl (by kernel_rfl) (OpTo.store hE H.t6 rfl rfl rfl rfl rfl rfl (Nat.le_of_ble_eq_true rfl)) ?_
        rintro _ w H
        refine ⟨trivial, fun a hE => ?_⟩
        refine WQ.d0 hE [24, 25] [(69, .pointer (some ⟨p_p, 2, none⟩))] fun a hE => ?_
        refine WQ.eff0 (j := 26) (obs := []) hE (by kernel_rfl) rfl rfl rfl (by kernel_rfl) (OpTo.store hE H rfl rfl rfl rfl rfl rfl (Nat.le_of_ble_eq_true rfl)) ?_
        rintro _ w H
        refine ⟨trivial, fun a hE => ?_⟩
        refine WQ.d0 hE [27, 28] [(71, .pointer (some ⟨p_p, 3, none⟩))] fun a hE => ?_
        refine WQ.eff0 (j := 29) (obs := []) hE (by kernel_rfl) rfl rfl rfl (by kernel_rfl) (OpTo.store hE H rfl rfl rfl rfl rfl rfl (Nat.le_of_ble_eq_true rfl)) ?_
        rintro _ w H
        refine ⟨trivial, fun a hE => ?_⟩
        refine WQ.done (by kernel_rfl) ?_
        replace H := thicketref2_Pool.shut (thicketref2_Pool.A.mk sb19 sc19 sb20 sc20 sb21 sc21 al_p.Back_b al_p.Back_c) (thicketref2_Pool.mk p.Most l1 l2 l3 p.Back) H.t7.t2.t3.t5.t4
        exact hk _ _ ⟨sb19, sc19, sb20, sc20, sb21, sc21, hE.sel [0, 1, 4, 6] (by kernel_rfl), H.x3.x2.x1.t1.t1⟩
       ·refine AQ.eff (j := 13) (obs := [.cell ⟨p_p, 3, none⟩ (.slice al_p.V_b p.V.length al_p.V_c), .cell ⟨p_p, 2, none⟩ (.slice al_p.In_b p.In.length al_p.In_c), .cell ⟨p_p, 1, none⟩ (.slice al_p.Gens_b p.Gens.length al_p.Gens_c)]) hE rfl rfl rfl rfl (by kernel_rfl) (OpTo.buildSl (T := 4) hE H ecB_ok ([false] : List Bool) rfl (fun _ => by kernel_rfl) rfl rfl rfl) ?_
        rintro _ w ⟨r16, rfl, H⟩
        refine ⟨⟨H.cell 3 rfl rfl, H.cell 3 rfl rfl, H.cell 3 rfl rfl, trivial⟩, fun a hE => ?_⟩
        replace H := H.t4
        refine WQ.eff (j := 8) (obs := [.cell ⟨p_p, 3, none⟩ (.slice al_p.V_b p.V.length al_p.V_c), .cell ⟨p_p, 2, none⟩ (.slice al_p.In_b p.In.length al_p.In_c)]) hE (by kernel_rfl) rfl rfl rfl rfl (by kernel_rfl) (OpTo.appendM el1 hE H ecI_ok rfl rfl rfl rfl rfl rfl rfl rfl rfl rfl (SlRd.all (sl_rd 3 ecI 1 _ _ _) ecI_ok H 3 rfl) rfl) ?_
        rintro _ w ⟨sb22, sc22, rfl, H⟩
        refine ⟨⟨H.cell 4 rfl rfl, H.cell 4 rfl rfl, trivial⟩, fun a hE => ?_⟩
        replace H := H.t5
        refine WQ.eff (j := 14) (obs := [.cell ⟨p_p, 3, none⟩ (.slice al_p.V_b p.V.length al_p.V_c)]) hE (by kernel_rfl) rfl rfl rfl rfl (by kernel_rfl) (OpTo.appendM el2 hE H ecB_ok rfl rfl rfl rfl rfl rfl rfl rfl rfl rfl (SlRd.all (sl_rd 4 ecB 1 _ _ _) ecB_ok H 2 rfl) rfl) ?_
        rintro _ w ⟨sb23, sc23, rfl, H⟩
        refine ⟨⟨H.cell 5 rfl rfl, trivial⟩, fun a hE => ?_⟩
        replace H := H.t6
        refine WQ.eff (j := 20) (obs := []) hE (by kernel_rfl) rfl rfl rfl rfl (by kernel_rfl) (OpTo.appendM el3 hE H ecI_ok rfl rfl rfl rfl rfl rfl rfl rfl rfl rfl (SlRd.all (sl_rd 2 ecI 1 _ _ _) ecI_ok H 4 rfl) rfl) ?_
        rintro _ w ⟨sb24, sc24, rfl, H⟩
        refine ⟨trivial, fun a hE => ?_⟩
        refine WQ.d0 hE [21, 22] [(67, .pointer (some ⟨p_p, 1, none⟩))] fun a hE => ?_
        refine WQ.eff0 (j := 23) (obs := []) hE (by kernel_rfl) rfl rfl rfl (by kernel_rfl) (OpTo.store hE H.t6 rfl rfl rfl rfl rfl rfl (Nat.le_of_ble_eq_true rfl)) ?_
        rintro _ w H
        refine ⟨trivial, fun a hE => ?_⟩
        refine WQ.d0 hE [24, 25] [(69, .pointer (some ⟨p_p, 2, none⟩))] fun a hE => ?_
        refine WQ.eff0 (j := 26) (obs := []) hE (by kernel_rfl) rfl rfl rfl (by kernel_rfl) (OpTo.store hE H rfl rfl rfl rfl rfl rfl (Nat.le_of_ble_eq_true rfl)) ?_
        rintro _ w H
        refine ⟨trivial, fun a hE => ?_⟩
        refine WQ.d0 hE [27, 28] [(71, .pointer (some ⟨p_p, 3, none⟩))] fun a hE => ?_
        refine WQ.eff0 (j := 29) (obs := []) hE (by kernel_rfl) rfl rfl rfl (by kernel_rfl) (OpTo.store hE H rfl rfl rfl rfl rfl rfl (Nat.le_of_ble_eq_true rfl)) ?_
        rintro _ w H
        refine ⟨trivial, fun a hE => ?_⟩
        refine WQ.done (by kernel_rfl) ?_
        replace H := thicketref2_Pool.shut (thicketref2_Pool.A.mk sb22 sc22 sb23 sc23 sb24 sc24 al_p.Back_b al_p.Back_c) (thicketref2_Pool.mk p.Most l1 l2 l3 p.Back) H.t7.t2.t3.t4.t4
        exact hk _ _ ⟨sb22, sc22, sb23, sc23, sb24, sc24, hE.sel [0, 1, 4, 6] (by kernel_rfl), H.x3.x2.x1.t1.t1⟩
     ·refine AQ.eff (j := 13) (obs := [.cell ⟨p_p, 3, none⟩ (.slice al_p.V_b p.V.length al_p.V_c), .cell ⟨p_p, 2, none⟩ (.slice al_p.In_b p.In.length al_p.In_c), .cell ⟨p_p, 1, none⟩ (.slice al_p.Gens_b p.Gens.length al_p.Gens_c)]) hE rfl rfl rfl rfl (by kernel_rfl) (OpTo.buildSl (T := 4) hE H ecB_ok ([false] : List Bool) rfl (fun _ => by kernel_rfl) rfl rfl rfl) ?_
      rintro _ w ⟨r17, rfl, H⟩
      refine ⟨⟨H.cell 1 rfl rfl, H.cell 1 rfl rfl, H.cell 1 rfl rfl, trivial⟩, fun a hE => ?_⟩
      refine WQ.act2 7 19 (by kernel_rfl) ?_ ?_
      ·refine AQ.eff (j := 7) (obs := [.cell ⟨p_p, 3, none⟩ (.slice al_p.V_b p.V.length al_p.V_c), .cell ⟨p_p, 2, none⟩ (.slice al_p.In_b p.In.length al_p.In_c), .cell ⟨p_p, 1, none⟩ (.slice al_p.Gens_b p.Gens.length al_p.Gens_c)]) hE rfl rfl rfl rfl (by kernel_rfl) (OpTo.buildSl (T := 3) hE H ecI_ok ([0] : List Int) rfl (fun _ => by kernel_rfl) rfl rfl rfl) ?_
       rintro _ w ⟨r18, rfl, H⟩
       refine ⟨⟨H.cell 2 rfl rfl, H.cell 2 rfl rfl, H.cell 2 rfl rfl, trivial⟩, fun a hE => ?_⟩
       refine WQ.act2 8 19 (by kernel_rfl) ?_ ?_
       ·replace H := H.t3
        refine AQ.eff (j := 8) (obs := [.cell ⟨p_p, 3, none⟩ (.slice al_p.V_b p.V.length al_p.V_c), .cell ⟨p_p, 2, none⟩ (.slice al_p.In_b p.In.length al_p.In_c)]) hE rfl rfl rfl rfl (by kernel_rfl) (OpTo.appendM el1 hE H ecI_ok rfl rfl rfl rfl rfl rfl rfl rfl rfl rfl (SlRd.all (sl_rd 3 ecI 1 _ _ _) ecI_ok H 1 rfl) rfl) ?_
        rintro _ w ⟨sb25, sc25, rfl, H⟩
        refine ⟨⟨H.cell 3 rfl rfl, H.cell 3 rfl rfl, trivial⟩, fun a hE => ?_⟩
        refine WQ.act2 14 19 (by kernel_rfl) ?_ ?_
        ·replace H := H.t4
         refine AQ.eff (j := 14) (obs := [.cell ⟨p_p, 3, none⟩ (.slice al_p.V_b p.V.length al_p.V_c)]) hE rfl rfl rfl rfl (by kernel_rfl) (OpTo.appendM el2 hE H ecB_ok rfl rfl rfl rfl rfl rfl rfl rfl rfl rfl (SlRd.all (sl_rd 4 ecB 1 _ _ _) ecB_ok H 3 rfl) rfl) ?_
         rintro _ w ⟨sb26, sc26, rfl, H⟩
         refine ⟨⟨H.cell 4 rfl rfl, trivial⟩, fun a hE => ?_⟩
         refine WQ.eff (j := 19) (obs := [.cell ⟨p_p, 3, none⟩ (.slice al_p.V_b p.V.length al_p.V_c)]) hE (by kernel_rfl) rfl rfl rfl rfl (by kernel_rfl) (OpTo.buildSl (T := 2) hE H ecI_ok ([0] : List Int) rfl (fun _ => by kernel_rfl) rfl rfl rfl) ?_
         rintro _ w ⟨r19, rfl, H⟩
         refine ⟨⟨H.cell 5 rfl rfl, trivial⟩, fun a hE => ?_⟩
         replace H := H.t6
         refine WQ.eff (j := 20) (obs := []) hE (by kernel_rfl) rfl rfl rfl rfl (by kernel_rfl) (OpTo.appendM el3 hE H ecI_ok rfl rfl rfl rfl rfl rfl rfl rfl rfl rfl (SlRd.all (sl_rd 2 ecI 1 _ _ _) ecI_ok H 1 rfl) rfl) ?_
         rintro _ w ⟨sb27, sc27, rfl, H⟩
         refine ⟨trivial, fun a hE => ?_⟩
         refine WQ.d0 hE [21, 22] [(67, .pointer (some ⟨p_p, 1, none⟩))] fun a hE => ?_
         refine WQ.eff0 (j := 23) (obs := []) hE (by kernel_rfl) rfl rfl rfl (by kernel_rfl) (OpTo.store hE H.t6 rfl rfl rfl rfl rfl rfl (Nat.le_of_ble_eq_true rfl)) ?_
         rintro _ w H
         refine ⟨trivial, fun a hE => ?_⟩
         refine WQ.d0 hE [24, 25] [(69, .pointer (some ⟨p_p, 2, none⟩))] fun a hE => ?_
         refine WQ.eff0 (j := 26) (obs := []) hE (by kernel_rfl) rfl rfl rfl (by kernel_rfl) (OpTo.store hE H rfl rfl rfl rfl rfl rfl (Nat.le_of_ble_eq_true rfl)) ?_
         rintro _ w H
         refine ⟨trivial, fun a hE => ?_⟩
         refine WQ.d0 hE [27, 28] [(71, .pointer (some ⟨p_p, 3, none⟩))] fun a hE => ?_
         refine WQ.eff0 (j := 29) (obs := []) hE (by kernel_rfl) rfl rfl rfl (by kernel_rfl) (OpTo.store hE H rfl rfl rfl rfl rfl rfl (Nat.le_of_ble_eq_true rfl)) ?_
         rintro _ w H
         refine ⟨trivial, fun a hE => ?_⟩
         refine WQ.done (by kernel_rfl) ?_
         replace H := thicketref2_Pool.shut (thicketref2_Pool.A.mk sb25 sc25 sb26 sc26 sb27 sc27 al_p.Back_b al_p.Back_c) (thicketref2_Pool.mk p.Most l1 l2 l3 p.Back) H.t7.t2.t4.t5.t4
         exact hk _ _ ⟨sb25, sc25, sb26, sc26, sb27, sc27, hE.sel [0, 1, 4, 6] (by kernel_rfl), H.x3.x2.x1.t1.t1⟩
        ·refine AQ.eff (j := 19) (obs := [.cell ⟨p_p, 3, none⟩ (.slice al_p.V_b p.V.length al_p.V_c), .cell ⟨p_p, 2, none⟩ (.slice al_p.In_b p.In.length al_p.In_c)]) hE rfl rfl rfl rfl (by kernel_rfl) (OpTo.buildSl (T := 2) hE H ecI_ok ([0] : List Int) rfl (fun _ => by kernel_rfl) rfl rfl rfl) ?_
         rintro _ w ⟨r20, rfl, H⟩
         refine ⟨⟨H.cell 4 rfl rfl, H.cell 4 rfl rfl, trivial⟩, fun a hE => ?_⟩
         replace H := H.t5
         refine WQ.eff (j := 14) (obs := [.cell ⟨p_p, 3, none⟩ (.slice al_p.V_b p.V.length al_p.V_c)]) hE (by kernel_rfl) rfl rfl rfl rfl (by kernel_rfl) (OpTo.appendM el2 hE H ecB_ok rfl rfl rfl rfl rfl rfl rfl rfl rfl rfl (SlRd.all (sl_rd 4 ecB 1 _ _ _) ecB_ok H 4 rfl) rfl) ?_
         rintro _ w ⟨sb28, sc28, rfl, H⟩
         refine ⟨⟨H.cell 5 rfl rfl, trivial⟩, fun a hE => ?_⟩
         replace H := H.t6
         refine WQ.eff (j := 20) (obs := []) hE (by kernel_rfl) rfl rfl rfl rfl (by kernel_rfl) (OpTo.appendM el3 hE H ecI_ok rfl rfl rfl rfl rfl rfl rfl rfl rfl rfl (SlRd.all (sl_rd 2 ecI 1 _ _ _) ecI_ok H 2 rfl) rfl) ?_
         rintro _ w ⟨sb29, sc29, rfl, H⟩
         refine ⟨trivial, fun a hE => ?_⟩
         refine WQ.d0 hE [21, 22] [(67, .pointer (some ⟨p_p, 1, none⟩))] fun a hE => ?_
         refine WQ.eff0 (j := 23) (obs := []) hE (by kernel_rfl) rfl rfl rfl (by kernel_rfl) (OpTo.store hE H.t6 rfl rfl rfl rfl rfl rfl (Nat.le_of_ble_eq_true rfl)) ?_
         rintro _ w H
         refine ⟨trivial, fun a hE => ?_⟩
         refine WQ.d0 hE [24, 25] [(69, .pointer (some ⟨p_p, 2, none⟩))] fun a hE => ?_
         refine WQ.eff0 (j := 26) (obs := []) hE (by kernel_rfl) rfl rfl rfl (by kernel_rfl) (OpTo.store hE H rfl rfl rfl rfl rfl rfl (Nat.le_of_ble_eq_true rfl)) ?_
         rintro _ w H
         refine ⟨trivial, fun a hE => ?_⟩
         refine WQ.d0 hE [27, 28] [(71, .pointer (some ⟨p_p, 3, none⟩))] fun a hE => ?_
         refine WQ.eff0 (j := 29) (obs := []) hE (by kernel_rfl) rfl rfl rfl (by kernel_rfl) (OpTo.store hE H rfl rfl rfl rfl rfl rfl (Nat.le_of_ble_eq_true rfl)) ?_
         rintro _ w H
         refine ⟨trivial, fun a hE => ?_⟩
         refine WQ.done (by kernel_rfl) ?_
         replace H := thicketref2_Pool.shut (thicketref2_Pool.A.mk sb25 sc25 sb28 sc28 sb29 sc29 al_p.Back_b al_p.Back_c) (thicketref2_Pool.mk p.Most l1 l2 l3 p.Back) H.t7.t2.t3.t5.t4
         exact hk _ _ ⟨sb25, sc25, sb28, sc28, sb29, sc29, hE.sel [0, 1, 4, 6] (by kernel_rfl), H.x3.x2.x1.t1.t1⟩
       ·refine AQ.eff (j := 19) (obs := [.cell ⟨p_p, 3, none⟩ (.slice al_p.V_b p.V.length al_p.V_c), .cell ⟨p_p, 2, none⟩ (.slice al_p.In_b p.In.length al_p.In_c), .cell ⟨p_p, 1, none⟩ (.slice al_p.Gens_b p.Gens.length al_p.Gens_c)]) hE rfl rfl rfl rfl (by kernel_rfl) (OpTo.buildSl (T := 2) hE H ecI_ok ([0] : List Int) rfl (fun _ => by kernel_rfl) rfl rfl rfl) ?_
        rintro _ w ⟨r21, rfl, H⟩
        refine ⟨⟨H.cell 3 rfl rfl, H.cell 3 rfl rfl, H.cell 3 rfl rfl, trivial⟩, fun a hE => ?_⟩
        replace H := H.t4
        refine WQ.eff (j := 8) (obs := [.cell ⟨p_p, 3, none⟩ (.slice al_p.V_b p.V.length al_p.V_c), .cell ⟨p_p, 2, none⟩ (.slice al_p.In_b p.In.length al_p.In_c)]) hE (by kernel_rfl) rfl rfl rfl rfl (by kernel_rfl) (OpTo.appendM el1 hE H ecI_ok rfl rfl rfl rfl rfl rfl rfl rfl rfl rfl (SlRd.all (sl_rd 3 ecI 1 _ _ _) ecI_ok H 2 rfl) rfl) ?_
        rintro _ w ⟨sb30, sc30, rfl, H⟩
        refine ⟨⟨H.cell 4 rfl rfl, H.cell 4 rfl rfl, trivial⟩, fun a hE => ?_⟩
        replace H := H.t5
        refine WQ.eff (j := 14) (obs := [.cell ⟨p_p, 3, none⟩ (.slice al_p.V_b p.V.length al_p.V_c)]) hE (by kernel_rfl) rfl rfl rfl rfl (by kernel_rfl) (OpTo.appendM el2 hE H ecB_ok rfl rfl rfl rfl rfl rfl rfl rfl rfl rfl (SlRd.all (sl_rd 4 ecB 1 _ _ _) ecB_ok H 4 rfl) rfl) ?_
        rintro _ w ⟨sb31, sc31, rfl, H⟩
        refine ⟨⟨H.cell 5 rfl rfl, trivial⟩, fun a hE => ?_⟩
        replace H := H.t6
        refine WQ.eff (j := 20) (obs := []) hE (by kernel_rfl) rfl rfl rfl rfl (by kernel_rfl) (OpTo.appendM el3 hE H ecI_ok rfl rfl rfl rfl rfl rfl rfl rfl rfl rfl (SlRd.all (sl_rd 2 ecI 1 _ _ _) ecI_ok H 3 rfl) rfl) ?_
        rintro _ w ⟨sb32, sc32, rfl, H⟩
        refine ⟨trivial, fun a hE => ?_⟩
        refine WQ.d0 hE [21, 22] [(67, .pointer (some ⟨p_p, 1, none⟩))] fun a hE => ?_
        refine WQ.eff0 (j := 23) (obs := []) hE (by kernel_rfl) rfl rfl rfl (by kernel_rfl) (OpTo.store hE H.t6 rfl rfl rfl rfl rfl rfl (Nat.le_of_ble_eq_true rfl)) ?_
        rintro _ w H
        refine ⟨trivial, fun a hE => ?_⟩
        refine WQ.d0 hE [24, 25] [(69, .pointer (some ⟨p_p, 2, none⟩))] fun a hE => ?_
        refine WQ.eff0 (j := 26) (obs := []) hE (by kernel_rfl) rfl rfl rfl (by kernel_rfl) (OpTo.store hE H rfl rfl rfl rfl rfl rfl (Nat.le_of_ble_eq_true rfl)) ?_
        rintro _ w H
        refine ⟨trivial, fun a hE => ?_⟩
        refine WQ.d0 hE [27, 28] [(71, .pointer (some ⟨p_p, 3, none⟩))] fun a hE => ?_
        refine WQ.eff0 (j := 29) (obs := []) hE (by kernel_rfl) rfl rfl rfl (by kernel_rfl) (OpTo.store hE H rfl rfl rfl rfl rfl rfl (Nat.le_of_ble_eq_true rfl)) ?_
        rintro _ w H
        refine ⟨trivial, fun a hE => ?_⟩
        refine WQ.done (by kernel_rfl) ?_
        replace H := thicketref2_Pool.shut (thicketref2_Pool.A.mk sb30 sc30 sb31 sc31 sb32 sc32 al_p.Back_b al_p.Back_c) (thicketref2_Pool.mk p.Most l1 l2 l3 p.Back) H.t7.t2.t3.t4.t4
        exact hk _ _ ⟨sb30, sc30, sb31, sc31, sb32, sc32, hE.sel [0, 1, 4, 6] (by kernel_rfl), H.x3.x2.x1.t1.t1⟩
      ·refine AQ.eff (j := 19) (obs := [.cell ⟨p_p, 3, none⟩ (.slice al_p.V_b p.V.length al_p.V_c), .cell ⟨p_p, 2, none⟩ (.slice al_p.In_b p.In.length al_p.In_c), .cell ⟨p_p, 1, none⟩ (.slice al_p.Gens_b p.Gens.length al_p.Gens_c)]) hE rfl rfl rfl rfl (by kernel_rfl) (OpTo.buildSl (T := 2) hE H ecI_ok ([0] : List Int) rfl (fun _ => by kernel_rfl) rfl rfl rfl) ?_
       rintro _ w ⟨r22, rfl, H⟩
       refine ⟨⟨H.cell 2 rfl rfl, H.cell 2 rfl rfl, H.cell 2 rfl rfl, trivial⟩, fun a hE => ?_⟩
       refine WQ.eff (j := 7) (obs := [.cell ⟨p_p, 3, none⟩ (.slice al_p.V_b p.V.length al_p.V_c), .cell ⟨p_p, 2, none⟩ (.slice al_p.In_b p.In.length al_p.In_c), .cell ⟨p_p, 1, none⟩ (.slice al_p.Gens_b p.Gens.length al_p.Gens_c)]) hE (by kernel_rfl) rfl rfl rfl rfl (by kernel_rfl) (OpTo.buildSl (T := 3) hE H ecI_ok ([0] : List Int) rfl (fun _ => by kernel_rfl) rfl rfl rfl) ?_
       rintro _ w ⟨r23, rfl, H⟩
       refine ⟨⟨H.cell 3 rfl rfl, H.cell 3 rfl rfl, H.cell 3 rfl rfl, trivial⟩, fun a hE => ?_⟩
       replace H := H.t4
       refine WQ.eff (j := 8) (obs := [.cell ⟨p_p, 3, none⟩ (.slice al_p.V_b p.V.length al_p.V_c), .cell ⟨p_p, 2, none⟩ (.slice al_p.In_b p.In.length al_p.In_c)]) hE (by kernel_rfl) rfl rfl rfl rfl (by kernel_rfl) (OpTo.appendM el1 hE H ecI_ok rfl rfl rfl rfl rfl rfl rfl rfl rfl rfl (SlRd.all (sl_rd 3 ecI 1 _ _ _) ecI_ok H 1 rfl) rfl) ?_
       rintro _ w ⟨sb33, sc33, rfl, H⟩
       refine ⟨⟨H.cell 4 rfl rfl, H.cell 4 rfl rfl, trivial⟩, fun a hE => ?_⟩
       replace H := H.t5
       refine WQ.eff (j := 14) (obs := [.cell ⟨p_p, 3, none⟩ (.slice al_p.V_b p.V.length al_p.V_c)]) hE (by kernel_rfl) rfl rfl rfl rfl (by kernel_rfl) (OpTo.appendM el2 hE H ecB_ok rfl rfl rfl rfl rfl rfl rfl rfl rfl rfl (SlRd.all (sl_rd 4 ecB 1 _ _ _) ecB_ok H 4 rfl) rfl) ?_
       rintro _ w ⟨sb34, sc34, rfl, H⟩
       refine ⟨⟨H.cell 5 rfl rfl, trivial⟩, fun a hE => ?_⟩
       replace H := H.t6
       refine WQ.eff (j := 20) (obs := []) hE (by kernel_rfl) rfl rfl rfl rfl (by kernel_rfl) (OpTo.appendM el3 hE H ecI_ok rfl rfl rfl rfl rfl rfl rfl rfl rfl rfl (SlRd.all (sl_rd 2 ecI 1 _ _ _) ecI_ok H 4 rfl) rfl) ?_
       rintro _ w ⟨sb35, sc35, rfl, H⟩
       refine ⟨trivial, fun a hE => ?_⟩
       refine WQ.d0 hE [21, 22] [(67, .pointer (some ⟨p_p, 1, none⟩))] fun a hE => ?_
       refine WQ.eff0 (j := 23) (obs := []) hE (by kernel_rfl) rfl rfl rfl (by kernel_rfl) (OpTo.store hE H.t6 rfl rfl rfl rfl rfl rfl (Nat.le_of_ble_eq_true rfl)) ?_
       rintro _ w H
       refine ⟨trivial, fun a hE => ?_⟩
       refine WQ.d0 hE [24, 25] [(69, .pointer (some ⟨p_p, 2, none⟩))] fun a hE => ?_
       refine WQ.eff0 (j := 26) (obs := []) hE (by kernel_rfl) rfl rfl rfl (by kernel_rfl) (OpTo.store hE H rfl rfl rfl rfl rfl rfl (Nat.le_of_ble_eq_true rfl)) ?_
       rintro _ w H
       refine ⟨trivial, fun a hE => ?_⟩
       refine WQ.d0 hE [27, 28] [(71, .pointer (some ⟨p_p, 3, none⟩))] fun a hE => ?_
       refine WQ.eff0 (j := 29) (obs := []) hE (by kernel_rfl) rfl rfl rfl (by kernel_rfl) (OpTo.store hE H rfl rfl rfl rfl rfl rfl (Nat.le_of_ble_eq_true rfl)) ?_
       rintro _ w H
       refine ⟨trivial, fun a hE => ?_⟩
       refine WQ.done (by kernel_rfl) ?_
       replace H := thicketref2_Pool.shut (thicketref2_Pool.A.mk sb33 sc33 sb34 sc34 sb35 sc35 al_p.Back_b al_p.Back_c) (thicketref2_Pool.mk p.Most l1 l2 l3 p.Back) H.t7.t2.t3.t4.t4
       exact hk _ _ ⟨sb33, sc33, sb34, sc34, sb35, sc35, hE.sel [0, 1, 4, 6] (by kernel_rfl), H.x3.x2.x1.t1.t1⟩
     ·refine AQ.eff (j := 19) (obs := [.cell ⟨p_p, 3, none⟩ (.slice al_p.V_b p.V.length al_p.V_c), .cell ⟨p_p, 2, none⟩ (.slice al_p.In_b p.In.length al_p.In_c), .cell ⟨p_p, 1, none⟩ (.slice al_p.Gens_b p.Gens.length al_p.Gens_c)]) hE rfl rfl rfl rfl (by kernel_rfl) (OpTo.buildSl (T := 2) hE H ecI_ok ([0] : List Int) rfl (fun _ => by kernel_rfl) rfl rfl rfl) ?_
      rintro _ w ⟨r24, rfl, H⟩
      refine ⟨⟨H.cell 1 rfl rfl, H.cell 1 rfl rfl, H.cell 1 rfl rfl, trivial⟩, fun a hE => ?_⟩
      refine WQ.act2 7 13 (by kernel_rfl) ?_ ?_
      ·refine AQ.eff (j := 7) (obs := [.cell ⟨p_p, 3, none⟩ (.slice al_p.V_b p.V.length al_p.V_c), .cell ⟨p_p, 2, none⟩ (.slice al_p.In_b p.In.length al_p.In_c), .cell ⟨p_p, 1, none⟩ (.slice al_p.Gens_b p.Gens.length al_p.Gens_c)]) hE rfl rfl rfl rfl (by kernel_rfl) (OpTo.buildSl (T := 3) hE H ecI_ok ([0] : List Int) rfl (fun _ => by kernel_rfl) rfl rfl rfl) ?_
       rintro _ w ⟨r25, rfl, H⟩
       refine ⟨⟨H.cell 2 rfl rfl, H.cell 2 rfl rfl, H.cell 2 rfl rfl, trivial⟩, fun a hE => ?_⟩
       refine WQ.act2 8 13 (by kernel_rfl) ?_ ?_
       ·replace H := H.t3
        refine AQ.eff (j := 8) (obs := [.cell ⟨p_p, 3, none⟩ (.slice al_p.V_b p.V.length al_p.V_c), .cell ⟨p_p, 2, none⟩ (.slice al_p.In_b p.In.length al_p.In_c)]) hE rfl rfl rfl rfl (by kernel_rfl) (OpTo.appendM el1 hE H ecI_ok rfl rfl rfl rfl rfl rfl rfl rfl rfl rfl (SlRd.all (sl_rd 3 ecI 1 _ _ _) ecI_ok H 1 rfl) rfl) ?_
        rintro _ w ⟨sb36, sc36, rfl, H⟩
        refine ⟨⟨H.cell 3 rfl rfl, H.cell 3 rfl rfl, trivial⟩, fun a hE => ?_⟩
        refine WQ.eff (j := 13) (obs := [.cell ⟨p_p, 3, none⟩ (.slice al_p.V_b p.V.length al_p.V_c), .cell ⟨p_p, 2, none⟩ (.slice al_p.In_b p.In.length al_p.In_c)]) hE (by kernel_rfl) rfl rfl rfl rfl (by kernel_rfl) (OpTo.buildSl (T := 4) hE H ecB_ok ([false] : List Bool) rfl (fun _ => by kernel_rfl) rfl rfl rfl) ?_
        rintro _ w ⟨r26, rfl, H⟩
        refine ⟨⟨H.cell 4 rfl rfl, H.cell 4 rfl rfl, trivial⟩, fun a hE => ?_⟩
        replace H := H.t5
        refine WQ.eff (j := 14) (obs := [.cell ⟨p_p, 3, none⟩ (.slice al_p.V_b p.V.length al_p.V_c)]) hE (by kernel_rfl) rfl rfl rfl rfl (by kernel_rfl) (OpTo.appendM el2 hE H ecB_ok rfl rfl rfl rfl rfl rfl rfl rfl rfl rfl (SlRd.all (sl_rd 4 ecB 1 _ _ _) ecB_ok H 1 rfl) rfl) ?_
        rintro _ w ⟨sb37, sc37, rfl, H⟩
        refine ⟨⟨H.cell 5 rfl rfl, trivial⟩, fun a hE => ?_⟩
        replace H := H.t6
        refine WQ.eff (j := 20) (obs := []) hE (by kernel_rfl) rfl rfl rfl rfl (by kernel_rfl) (OpTo.appendM el3 hE H ecI_ok rfl rfl rfl rfl rfl rfl rfl rfl rfl rfl (SlRd.all (sl_rd 2 ecI 1 _ _ _) ecI_ok H 5 rfl) rfl) ?_
        rintro _ w ⟨sb38, sc38, rfl, H⟩
        refine ⟨trivial, fun a hE => ?_⟩
        refine WQ.d0 hE [21, 22] [(67, .pointer (some ⟨p_p, 1, none⟩))] fun a hE => ?_
        refine WQ.eff0 (j := 23) (obs := []) hE (by kernel_rfl) rfl rfl rfl (by kernel_rfl) (OpTo.store hE H.t6 rfl rfl rfl rfl rfl rfl (Nat.le_of_ble_eq_true rfl)) ?_
        rintro _ w H
        refine ⟨trivial, fun a hE => ?_⟩
        refine WQ.d0 hE [24, 25] [(69, .pointer (some ⟨p_p, 2, none⟩))] fun a hE => ?_
        refine WQ.eff0 (j := 26) (obs := []) hE (by kernel_rfl) rfl rfl rfl (by kernel_rfl) (OpTo.store hE H rfl rfl rfl rfl rfl rfl (Nat.le_of_ble_eq_true rfl)) ?_
        rintro _ w H
        refine ⟨trivial, fun a hE => ?_⟩
        refine WQ.d0 hE [27, 28] [(71, .pointer (some ⟨p_p, 3, none⟩))] fun a hE => ?_
        refine WQ.eff0 (j := 29) (obs := []) hE (by kernel_rfl) rfl rfl rfl (by kernel_rfl) (OpTo.store hE H rfl rfl rfl rfl rfl rfl (Nat.le_of_ble_eq_true rfl)) ?_
        rintro _ w H
        refine ⟨trivial, fun a hE => ?_⟩
        refine WQ.done (by kernel_rfl) ?_
        replace H := thicketref2_Pool.shut (thicketref2_Pool.A.mk sb36 sc36 sb37 sc37 sb38 sc38 al_p.Back_b al_p.Back_c) (thicketref2_Pool.mk p.Most l1 l2 l3 p.Back) H.t7.t2.t3.t5.t4
        exact hk _ _ ⟨sb36, sc36, sb37, sc37, sb38, sc38, hE.sel [0, 1, 4, 6] (by kernel_rfl), H.x3.x2.x1.t1.t1⟩
       ·refine AQ.eff (j := 13) (obs := [.cell ⟨p_p, 3, none⟩ (.slice al_p.V_b p.V.length al_p.V_c), .cell ⟨p_p, 2, none⟩ (.slice al_p.In_b p.In.length al_p.In_c), .cell ⟨p_p, 1, none⟩ (.slice al_p.Gens_b p.Gens.length al_p.Gens_c)]) hE rfl rfl rfl rfl (by kernel_rfl) (OpTo.buildSl (T := 4) hE H ecB_ok ([false] : List Bool) rfl (fun _ => by kernel_rfl) rfl rfl rfl) ?_
        rintro _ w ⟨r27, rfl, H⟩
        refine ⟨⟨H.cell 3 rfl rfl, H.cell 3 rfl rfl, H.cell 3 rfl rfl, trivial⟩, fun a hE => ?_⟩
        replace H := H.t4
        refine WQ.eff (j := 8) (obs := [.cell ⟨p_p, 3, none⟩ (.slice al_p.V_b p.V.length al_p.V_c), .cell ⟨p_p, 2, none⟩ (.slice al_p.In_b p.In.length al_p.In_c)]) hE (by kernel_rfl) rfl rfl rfl rfl (by kernel_rfl) (OpTo.appendM el1 hE H ecI_ok rfl rfl rfl rfl rfl rfl rfl rfl rfl rfl (SlRd.all (sl_rd 3 ecI 1 _ _ _) ecI_ok H 2 rfl) rfl) ?_
        rintro _ w ⟨sb39, sc39, rfl, H⟩
        refine ⟨⟨H.cell 4 rfl rfl, H.cell 4 rfl rfl, trivial⟩, fun a hE => ?_⟩
        replace H := H.t5
        refine WQ.eff (j := 14) (obs := [.cell ⟨p_p, 3, none⟩ (.slice al_p.V_b p.V.length al_p.V_c)]) hE (by kernel_rfl) rfl rfl rfl rfl (by kernel_rfl) (OpTo.appendM el2 hE H ecB_ok rfl rfl rfl rfl rfl rfl rfl rfl rfl rfl (SlRd.all (sl_rd 4 ecB 1 _ _ _) ecB_ok H 2 rfl) rfl) ?_
        rintro _ w ⟨sb40, sc40, rfl, H⟩
        refine ⟨⟨H.cell 5 rfl rfl, trivial⟩, fun a hE => ?_⟩
        replace H := H.t6
        refine WQ.eff (j := 20) (obs := []) hE (by kernel_rfl) rfl rfl rfl rfl (by kernel_rfl) (OpTo.appendM el3 hE H ecI_ok rfl rfl rfl rfl rfl rfl rfl rfl rfl rfl (SlRd.all (sl_rd 2 ecI 1 _ _ _) ecI_ok H 5 rfl) rfl) ?_
        rintro _ w ⟨sb41, sc41, rfl, H⟩
        refine ⟨trivial, fun a hE => ?_⟩
        refine WQ.d0 hE [21, 22] [(67, .pointer (some ⟨p_p, 1, none⟩))] fun a hE => ?_
        refine WQ.eff0 (j := 23) (obs := []) hE (by kernel_rfl) rfl rfl rfl (by kernel_rfl) (OpTo.store hE H.t6 rfl rfl rfl rfl rfl rfl (Nat.le_of_ble_eq_true rfl)) ?_
        rintro _ w H
        refine ⟨trivial, fun a hE => ?_⟩
        refine WQ.d0 hE [24, 25] [(69, .pointer (some ⟨p_p, 2, none⟩))] fun a hE => ?_
        refine WQ.eff0 (j := 26) (obs := []) hE (by kernel_rfl) rfl rfl rfl (by kernel_rfl) (OpTo.store hE H rfl rfl rfl rfl rfl rfl (Nat.le_of_ble_eq_true rfl)) ?_
        rintro _ w H
        refine ⟨trivial, fun a hE => ?_⟩
        refine WQ.d0 hE [27, 28] [(71, .pointer (some ⟨p_p, 3, none⟩))] fun a hE => ?_
        refine WQ.eff0 (j := 29) (obs := []) hE (by kernel_rfl) rfl rfl rfl (by kernel_rfl) (OpTo.store hE H rfl rfl rfl rfl rfl rfl (Nat.le_of_ble_eq_true rfl)) ?_
        rintro _ w H
        refine ⟨trivial, fun a hE => ?_⟩
        refine WQ.done (by kernel_rfl) ?_
        replace H := thicketref2_Pool.shut (thicketref2_Pool.A.mk sb39 sc39 sb40 sc40 sb41 sc41 al_p.Back_b al_p.Back_c) (thicketref2_Pool.mk p.Most l1 l2 l3 p.Back) H.t7.t2.t3.t4.t4
        exact hk _ _ ⟨sb39, sc39, sb40, sc40, sb41, sc41, hE.sel [0, 1, 4, 6] (by kernel_rfl), H.x3.x2.x1.t1.t1⟩
      ·refine AQ.eff (j := 13) (obs := [.cell ⟨p_p, 3, none⟩ (.slice al_p.V_b p.V.length al_p.V_c), .cell ⟨p_p, 2, none⟩ (.slice al_p.In_b p.In.length al_p.In_c), .cell ⟨p_p, 1, none⟩ (.slice al_p.Gens_b p.Gens.length al_p.Gens_c)]) hE rfl rfl rfl rfl (by kernel_rfl) (OpTo.buildSl (T := 4) hE H ecB_ok ([false] : List Bool) rfl (fun _ => by kernel_rfl) rfl rfl rfl) ?_
       rintro _ w ⟨r28, rfl, H⟩
       refine ⟨⟨H.cell 2 rfl rfl, H.cell 2 rfl rfl, H.cell 2 rfl rfl, trivial⟩, fun a hE => ?_⟩
       refine WQ.eff (j := 7) (obs := [.cell ⟨p_p, 3, none⟩ (.slice al_p.V_b p.V.length al_p.V_c), .cell ⟨p_p, 2, none⟩ (.slice al_p.In_b p.In.length al_p.In_c), .cell ⟨p_p, 1, none⟩ (.slice al_p.Gens_b p.Gens.length al_p.Gens_c)]) hE (by kernel_rfl) rfl rfl rfl rfl (by kernel_rfl) (OpTo.buildSl (T := 3) hE H ecI_ok ([0] : List Int) rfl (fun _ => by kernel_rfl) rfl rfl rfl) ?_
       rintro _ w ⟨r29, rfl, H⟩
       refine ⟨⟨H.cell 3 rfl rfl, H.cell 3 rfl rfl, H.cell 3 rfl rfl, trivial⟩, fun a hE => ?_⟩
       replace H := H.t4
       refine WQ.eff (j := 8) (obs := [.cell ⟨p_p, 3, none⟩ (.slice al_p.V_b p.V.length al_p.V_c), .cell ⟨p_p, 2, none⟩ (.slice al_p.In_b p.In.length al_p.In_c)]) hE (by kernel_rfl) rfl rfl rfl rfl (by kernel_rfl) (OpTo.appendM el1 hE H ecI_ok rfl rfl rfl rfl rfl rfl rfl rfl rfl rfl (SlRd.all (sl_rd 3 ecI 1 _ _ _) ecI_ok H 1 rfl) rfl) ?_
       rintro _ w ⟨sb42, sc42, rfl, H⟩
       refine ⟨⟨H.cell 4 rfl rfl, H.cell 4 rfl rfl, trivial⟩, fun a hE => ?_⟩
       replace H := H.t5
       refine WQ.eff (j := 14) (obs := [.cell ⟨p_p, 3, none⟩ (.slice al_p.V_b p.V.length al_p.V_c)]) hE (by kernel_rfl) rfl rfl rfl rfl (by kernel_rfl) (OpTo.appendM el2 hE H ecB_ok rfl rfl rfl rfl rfl rfl rfl rfl rfl rfl (SlRd.all (sl_rd 4 ecB 1 _ _ _) ecB_ok H 3 rfl) rfl) ?_
       rintro _ w ⟨sb43, sc43, rfl, H⟩
       refine ⟨⟨H.cell 5 rfl rfl, trivial⟩, fun a hE => ?_⟩
       replace H := H.t6
       refine WQ.eff (j := 20) (obs := []) hE (by kernel_rfl) rfl rfl rfl rfl (by kernel_rfl) (OpTo.appendM el3 hE H ecI_ok rfl rfl rfl rfl rfl rfl rfl rfl rfl rfl (SlRd.all (sl_rd 2 ecI 1 _ _ _) ecI_ok H 5 rfl) rfl) ?_
       rintro _ w ⟨sb44, sc44, rfl, H⟩
       refine ⟨trivial, fun a hE => ?_⟩
       refine WQ.d0 hE [21, 22] [(67, .pointer (some ⟨p_p, 1, none⟩))] fun a hE => ?_
       refine WQ.eff0 (j := 23) (obs := []) hE (by kernel_rfl) rfl rfl rfl (by kernel_rfl) (OpTo.store hE H.t6 rfl rfl rfl rfl rfl rfl (Nat.le_of_ble_eq_true rfl)) ?_
       rintro _ w H
       refine ⟨trivial, fun a hE => ?_⟩
       refine WQ.d0 hE [24, 25] [(69, .pointer (some ⟨p_p, 2, none⟩))] fun a hE => ?_
       refine WQ.eff0 (j := 26) (obs := []) hE (by kernel_rfl) rfl rfl rfl (by kernel_rfl) (OpTo.store hE H rfl rfl rfl rfl rfl rfl (Nat.le_of_ble_eq_true rfl)) ?_
       rintro _ w H
       refine ⟨trivial, fun a hE => ?_⟩
       refine WQ.d0 hE [27, 28] [(71, .pointer (some ⟨p_p, 3, none⟩))] fun a hE => ?_
       refine WQ.eff0 (j := 29) (obs := []) hE (by kernel_rfl) rfl rfl rfl (by kernel_rfl) (OpTo.store hE H rfl rfl rfl rfl rfl rfl (Nat.le_of_ble_eq_true rfl)) ?_
       rintro _ w H
       refine ⟨trivial, fun a hE => ?_⟩
       refine WQ.done (by kernel_rfl) ?_
       replace H := thicketref2_Pool.shut (thicketref2_Pool.A.mk sb42 sc42 sb43 sc43 sb44 sc44 al_p.Back_b al_p.Back_c) (thicketref2_Pool.mk p.Most l1 l2 l3 p.Back) H.t7.t2.t3.t4.t4
       exact hk _ _ ⟨sb42, sc42, sb43, sc43, sb44, sc44, hE.sel [0, 1, 4, 6] (by kernel_rfl), H.x3.x2.x1.t1.t1⟩
    rintro a w ⟨z8, z9, z10, z11, z12, z13, hE, H⟩
    cases hm
    exact hk _ _ ⟨_, rfl, z8, z9, z10, z11, z12, z13, al_p.Back_b, al_p.Back_c, hE.sel [0, 1, 4, 6] (by kernel_rfl), H.t1.t1⟩
 rintro a w ⟨s1, rfl, z, z1, z2, z3, z4, z5, z6, z7, hE, H⟩
 replace hm := hR; dsimp only at hm
 refine Runs.sr ?_
 replace H := thicketref2_Pool.open H
 try dsimp only at H
 obtain ⟨x1, ex1, hm⟩ := bind_some hm
 obtain ⟨b1, o1, hs1, hb1⟩ := SlRd.base (sl_rd 3 ecI 1 _ _ _) ecI_ok H 1 rfl ex1
 obtain ⟨x2, ex2, hm⟩ := bind_some hm
 obtain ⟨b2, o2, hs2, hb2⟩ := SlRd.base (sl_rd 3 ecI 1 _ _ _) ecI_ok H 1 rfl ex2
 refine WR.seg hE 9 [.slice z s1.2.Gens.length z1, .pointer (some ⟨b1, o1, none⟩), .int .i64 x1, .pointer (some ⟨b2, o2, none⟩)] [0, 1, 4, 6, 79, 80] (Lo := [(0, .pointer (some ⟨p_p, 0, none⟩)), (1, .int .i64 v_), (4, .pointer (some ⟨r, 0, none⟩)), (6, .int .i64 s1.1), (79, .int .i64 (w64 (x1 + 1))), (80, .pointer (some ⟨b2, o2 + (Int.toNat s1.1) * 1, none⟩))]) (obs := [.cell ⟨p_p, 1, none⟩ (.slice z s1.2.Gens.length z1), .p ((z : Option Addr) = some ⟨b1, o1, none⟩), .p (0 ≤ (s1.1 : Int) ∧ (s1.1 : Int) < ((s1.2.Gens.length : Nat) : Int)), .cell ⟨b1, o1 + (Int.toNat s1.1) * 1, none⟩ (.int .i64 x1), .p ((z : Option Addr) = some ⟨b2, o2, none⟩), .p (0 ≤ (s1.1 : Int) ∧ (s1.1 : Int) < ((s1.2.Gens.length : Nat) : Int))]) rfl (by kernel_rfl) ⟨H.cell 0 rfl rfl, hs1, hb1, SlRd.cells (sl_rd 3 ecI 1 _ _ _) ecI_ok H 1 rfl hs1 ex1 0 _ rfl, hs2, hb2, trivial⟩ fun a hE => ?_
 refine WR.eff0 hE rfl rfl rfl (OpTo.storeSl (q := 0) (x' := (w64 (x1 + 1))) hE H.t1 ecI_ok rfl hs2 ex2 rfl rfl rfl rfl rfl (Nat.le_of_ble_eq_true rfl) rfl) ?_
 rintro _ w H a hE
 rw [← mSet_len s1.2.Gens s1.1 (w64 (x1 + 1))] at H
 refine WR.done rfl ?_
 refine Runs.seq ?_
 refine Runs.drawn mixed (by kernel_rfl) ?_
 replace H := H.drew
 obtain ⟨x3, ex3, hm⟩ := bind_some hm
 obtain ⟨b3, o3, hs3, hb3⟩ := SlRd.base (sl_rd 4 ecB 1 _ _ _) ecB_ok H 2 rfl ex3
 refine WQ.d hE [0, 1, 2, 3, 4, 5, 6, 7, 8, 9, 10, 11] [.slice z2 s1.2.In.length z3, .slice z4 s1.2.V.length z5, .pointer (some ⟨b3, o3, none⟩)] [(89, .slice z4 s1.2.V.length z5), (90, .int .i64 s1.1), (91, .int .i64 v_), (92, .pointer (some ⟨b3, o3 + (Int.toNat s1.1) * 1, none⟩))] (obs := [.cell ⟨p_p, 2, none⟩ (.slice z2 s1.2.In.length z3), .cell ⟨p_p, 3, none⟩ (.slice z4 s1.2.V.length z5), .p ((z2 : Option Addr) = some ⟨b3, o3, none⟩), .p (0 ≤ (s1.1 : Int) ∧ (s1.1 : Int) < ((s1.2.In.length : Nat) : Int))]) ⟨H.cell 1 rfl rfl, H.cell 1 rfl rfl, hs3, hb3, trivial⟩ fun a hE => ?_
 refine WQ.eff0 (j := 12) (obs := []) hE (by kernel_rfl) rfl rfl rfl (by kernel_rfl) (OpTo.storeSl (q := 0) (x' := true) hE H.t2 ecB_ok rfl hs3 ex3 rfl rfl rfl rfl rfl (Nat.le_of_ble_eq_true rfl) rfl) ?_
 rintro _ w H
 rw [← mSet_len s1.2.In s1.1 true] at H
 refine ⟨trivial, fun a hE => ?_⟩
 obtain ⟨x4, ex4, hm⟩ := bind_some hm
 obtain ⟨b4, o4, hs4, hb4⟩ := SlRd.base (sl_rd 2 ecI 1 _ _ _) ecI_ok H 3 rfl ex4
 refine WQ.d hE [13] [.pointer (some ⟨b4, o4, none⟩)] [(93, .pointer (some ⟨b4, o4 + (Int.toNat s1.1) * 1, none⟩))] (obs := [.p ((z4 : Option Addr) = some ⟨b4, o4, none⟩), .p (0 ≤ (s1.1 : Int) ∧ (s1.1 : Int) < ((s1.2.V.length : Nat) : Int))]) ⟨hs4, hb4, trivial⟩ fun a hE => ?_
 refine WQ.eff0 (j := 14) (obs := []) hE (by kernel_rfl) rfl rfl rfl (by kernel_rfl) (OpTo.storeSl (q := 0) (x' := v_) hE H.t3 ecI_ok rfl hs4 ex4 rfl rfl rfl rfl rfl (Nat.le_of_ble_eq_true rfl) rfl) ?_
 rintro _ w H
 rw [← mSet_len s1.2.V s1.1 v_] at H
 refine ⟨trivial, fun a hE => ?_⟩
 refine WQ.done (by kernel_rfl) ?_
 refine Runs.sr ?_
 obtain ⟨x5, ex5, hm⟩ := bind_some hm
 obtain ⟨b5, o5, hs5, hb5⟩ := SlRd.base (sl_rd 3 ecI 1 _ _ _) ecI_ok H 2 rfl ex5
 refine WR.d hE 9 [.slice z ((mSet s1.2.Gens s1.1 (w64 (x1 + 1))).length) z1, .pointer (some ⟨b5, o5, none⟩), .int .i64 x5] [(102, .agg #[.int .i64 s1.1, .int .i64 x5])] (obs := [.cell ⟨p_p, 1, none⟩ (.slice z ((mSet s1.2.Gens s1.1 (w64 (x1 + 1))).length) z1), .p ((z : Option Addr) = some ⟨b5, o5, none⟩), .p (0 ≤ (s1.1 : Int) ∧ (s1.1 : Int) < (((mSet s1.2.Gens s1.1 (w64 (x1 + 1))).length : Nat) : Int)), .cell ⟨b5, o5 + (Int.toNat s1.1) * 1, none⟩ (.int .i64 x5)]) ⟨H.cell 3 rfl rfl, hs5, hb5, SlRd.cells (sl_rd 3 ecI 1 _ _ _) ecI_ok H 2 rfl hs5 ex5 0 _ rfl, trivial⟩ fun a hE => ?_
 refine WR.eff0 hE rfl rfl rfl (OpTo.store hE H.t5 rfl rfl rfl rfl rfl rfl (Nat.le_of_ble_eq_true rfl)) ?_
 rintro _ w H a hE
 refine WR.e0 hE [(5, .bool true)] fun a hE => ?_
 refine Runs.retO (vs := [.agg #[.int .i64 s1.1, .int .i64 x5], .bool true]) (obs := [.cell ⟨r, 0, none⟩ (.int .i64 s1.1), .cell ⟨r, 1, none⟩ (.int .i64 x5)]) hE Tryz.func133 rfl [.int .i64 s1.1, .int .i64 x5] (by kernel_rfl) ⟨H.cell 0 rfl rfl, H.cell 0 rfl rfl, trivial⟩ ?_
 replace H := thicketref2_Pool.shut (thicketref2_Pool.A.mk z z1 z2 z3 z4 z5 z6 z7) (thicketref2_Pool.mk s1.2.Most (mSet s1.2.Gens s1.1 (w64 (x1 + 1))) (mSet s1.2.In s1.1 true) (mSet s1.2.V s1.1 v_) s1.2.Back) H.t5.t2.t3.t4.t5
 cases hm
 exact ⟨z, z1, z2, z3, z4, z5, z6, z7, rfl, H.x1⟩

theorem thicketref1_Before_ok {w0 w : World} {As : List HP} {a_ : api_Entry} {b : api_Entry} {t : Bool}  (hm : thicketref1_Before a_ b = some t) (H : St w0 (As) w) :
    CallsR Tryz.prog 143 #[.agg #[.int .i64 a_.Key, .int .i64 a_.Serial], .agg #[.int .i64 b.Key, .int .i64 b.Serial]] w fun v w' => v = .bool t ∧ St w0 (As) w' := by
 rw [thicketref1_Before] at hm
 refine enter (args := [.agg #[.int .i64 a_.Key, .int .i64 a_.Serial], .agg #[.int .i64 b.Key, .int .i64 b.Serial]]) Tryz.func143 rfl rfl rfl fun a hE => ?_
 refine Runs.sr ?_
 refine WR.eff hE rfl rfl rfl rfl (OpTo.new hE H [] (.cells #[.int .i64 a_.Key, .int .i64 a_.Serial] 84 (0, 0)) (fun r => .pointer (some ⟨r, 0, none⟩)) (obs := []) rfl (fun _ => by kernel_rfl) trivial) ?_
 rintro _ w ⟨r, rfl, H⟩ a hE
 refine WR.eff hE rfl rfl rfl rfl (OpTo.new hE H [] (.cells #[.int .i64 b.Key, .int .i64 b.Serial] 84 (0, 0)) (fun r => .pointer (some ⟨r, 0, none⟩)) (obs := []) rfl (fun _ => by kernel_rfl) trivial) ?_
 rintro _ w ⟨r1, rfl, H⟩ a hE
 refine WR.seg hE 3 [] [2, 3] (Lo := [(2, .pointer (some ⟨r, 0, none⟩)), (3, .pointer (some ⟨r1, 0, none⟩))]) (obs := []) rfl (by kernel_rfl) trivial fun a hE => ?_
 refine WR.done rfl ?_
 refine Runs.seq ?_
 refine Runs.join (fun a w => EnvOk 24 a [(4, .bool ((decide (a_.Key < b.Key)) || ((a_.Key == b.Key) && (decide (a_.Serial < b.Serial)))))] ∧ St w0 (Blk r1 84 [.int .i64 b.Key, .int .i64 b.Serial] :: Blk r 84 [.int .i64 a_.Key, .int .i64 a_.Serial] :: As) w) (fun hk => ?_) ?_
 ·clear hm
  refine Runs.region ?_
  refine WR.d hE 6 [.int .i64 a_.Key, .int .i64 b.Key] [(10, .bool (decide (a_.Key < b.Key)))] (obs := [.cell ⟨r, 0, none⟩ (.int .i64 a_.Key), .cell ⟨r1, 0, none⟩ (.int .i64 b.Key)]) ⟨H.cell 1 rfl rfl, H.cell 0 rfl rfl, trivial⟩ fun a hE => ?_
  rcases Bool.eq_false_or_eq_true (decide (a_.Key < b.Key)) with c | c
  ·replace hE := hE.dec 10 c (by kernel_rfl)
   have c_ := c
   refine WR.e0 hE [(4, .bool true)] fun a hE => ?_
   refine hk _ _ ⟨?_, H.t1.t1⟩
   try rw [c_] at hE
   try rw [c_]
   exact hE.sel [4] (by kernel_rfl)
  ·replace hE := hE.dec 10 c (by kernel_rfl)
   have c_1 := c
   refine WR.d hE 12 [.int .i64 a_.Key, .int .i64 b.Key] [(10, .bool false), (16, .bool (a_.Key == b.Key))] (obs := [.cell ⟨r, 0, none⟩ (.int .i64 a_.Key), .cell ⟨r1, 0, none⟩ (.int .i64 b.Key)]) ⟨H.cell 1 rfl rfl, H.cell 0 rfl rfl, trivial⟩ fun a hE => ?_
   rcases Bool.eq_false_or_eq_true (a_.Key == b.Key) with c | c
   ·replace hE := hE.dec 16 c (by kernel_rfl)
    have c_2 := c
    refine WR.e hE [.int .i64 a_.Serial, .int .i64 b.Serial] [(4, .bool (decide (a_.Serial < b.Serial)))] (obs := [.cell ⟨r, 1, none⟩ (.int .i64 a_.Serial), .cell ⟨r1, 1, none⟩ (.int .i64 b.Serial)]) ⟨H.cell 1 rfl rfl, H.cell 0 rfl rfl, trivial⟩ fun a hE => ?_
    refine hk _ _ ⟨?_, H.t1.t1⟩
    try rw [c_1] at hE
    try rw [c_1]
    try rw [c_2] at hE
    try rw [c_2]
    exact hE.sel [4] (by kernel_rfl)
   ·replace hE := hE.dec 16 c (by kernel_rfl)
    have c_3 := c
    refine WR.e0 hE [(4, .bool false)] fun a hE => ?_
    refine hk _ _ ⟨?_, H.t1.t1⟩
    try rw [c_1] at hE
    try rw [c_1]
    try rw [c_3] at hE
    try rw [c_3]
    exact hE.sel [4] (by kernel_rfl)
 rintro a w ⟨hE, H⟩
 refine Runs.ret hE Tryz.func143 rfl rfl ?_
 cases hm
 exact ⟨rfl, H.x1.x0⟩

theorem thicketref22_Dispatcher_first_ok {w0 w : World} {As : List HP} {k : Nat} {p_d : Nat} {al_d : thicketref22_Dispatcher.A} {d : thicketref22_Dispatcher} {queue : Int} {t : Int}  (hm : thicketref22_Dispatcher_first k d queue = some t) (H : St w0 (thicketref22_Dispatcher.R p_d al_d d :: As) w) :
    CallsR Tryz.prog 134 #[.pointer (some ⟨p_d, 0, none⟩), .int .i64 queue] w fun v w' => v = .int .i64 t ∧ St w0 (thicketref22_Dispatcher.R p_d al_d d :: As) w' := by
 rw [thicketref22_Dispatcher_first] at hm
 refine enter (args := [.pointer (some ⟨p_d, 0, none⟩), .int .i64 queue]) Tryz.func134 rfl rfl rfl fun a hE => ?_
 refine Runs.sr ?_
 refine WR.seg hE 1 [] [0, 1] (Lo := [(0, .pointer (some ⟨p_d, 0, none⟩)), (1, .int .i64 queue)]) (obs := []) rfl (by kernel_rfl) trivial fun a hE => ?_
 refine WR.done rfl ?_
 refine Runs.sr ?_
 refine WR.e0 hE [(5, .int .i64 (-1))] fun a hE => ?_
 refine Runs.seq ?_
 refine Runs.sr ?_
 refine WR.e0 hE [(6, .int .i64 0)] fun a hE => ?_
 obtain ⟨s, es, hm⟩ := bind_some hm
 refine Runs.join (fun a w => EnvOk 51 a [(5, .int .i64 s)] ∧ St w0 (thicketref22_Dispatcher.R p_d al_d d :: As) w) (fun hk => ?_) ?_
 ·replace hm := es; clear es
  refine Runs.block ?_
  refine Runs.loop (fun m a w => ∃ (k_ : Int), ∃ (i : Int), EnvOk 51 a [(0, .pointer (some ⟨p_d, 0, none⟩)), (1, .int .i64 queue), (5, .int .i64 k_), (6, .int .i64 i)] ∧ St w0 (thicketref22_Dispatcher.R p_d al_d d :: As) w ∧ thicketref22_Dispatcher_first_l0 queue d m k_ i = some s) k ⟨(-1), 0, hE.sel [0, 1, 5, 6] (by kernel_rfl), H, hm⟩ ?_
  rintro m ih a w ⟨k_, i, hE, H, hm⟩
  cases m with
  | zero => simp [thicketref22_Dispatcher_first_l0] at hm
  | succ m =>
   rw [thicketref22_Dispatcher_first_l0] at hm
   refine Runs.seq ?_
   refine Runs.sr ?_
   replace H := thicketref22_Dispatcher.open H
   refine WR.seg hE 7 [.slice al_d.L_b d.L.length al_d.L_c] [0, 1, 5, 6, 13] (Lo := [(0, .pointer (some ⟨p_d, 0, none⟩)), (1, .int .i64 queue), (5, .int .i64 k_), (6, .int .i64 i), (13, .bool (decide (i < (d.L.length : Int))))]) (obs := [.cell ⟨p_d, 4, none⟩ (.slice al_d.L_b d.L.length al_d.L_c)]) rfl (by kernel_rfl) ⟨H.cell 0 rfl rfl, trivial⟩ fun a hE => ?_
   refine WR.done rfl ?_
   refine Runs.cond hE rfl (fun c => ?_) (fun c => ?_)
   ·replace hm := cond_t c hm
    refine Runs.skip ?_
    refine Runs.seq ?_
    replace H := thicketref22_Dispatcher.shut al_d (d) H.t2.t2.t2
    obtain ⟨s1, es1, hm⟩ := bind_some hm
    refine Runs.join (fun a w => EnvOk 51 a [(0, .pointer (some ⟨p_d, 0, none⟩)), (1, .int .i64 queue), (5, .int .i64 s1), (6, .int .i64 i)] ∧ St w0 (thicketref22_Dispatcher.R p_d al_d d :: As) w) (fun hk => ?_) ?_
    ·replace hm := es1; clear es1
     refine Runs.block ?_
     refine Runs.seq ?_
     obtain ⟨s2, es2, hm⟩ := bind_some hm
     refine Runs.join (fun a w => EnvOk 51 a [(0, .pointer (some ⟨p_d, 0, none⟩)), (1, .int .i64 queue), (5, .int .i64 k_), (6, .int .i64 i), (48, .bool s2)] ∧ St w0 (thicketref22_Dispatcher.R p_d al_d d :: As) w) (fun hk => ?_) ?_
     ·replace hm := es2; clear es2
      refine Runs.drawn mixed (by kernel_rfl) ?_
      replace H := H.drew
      replace H := thicketref22_Dispatcher.open H
      obtain ⟨x2, ex2, hm⟩ := bind_some hm
      obtain ⟨b2, o2, hs2, hb2⟩ := SlRd.base (sl_rd 148 thicketref22_Job.enc 6 _ _ _) thicketref22_Job.enc_ok H 2 rfl ex2
      refine WQ.d hE [0, 1, 2, 3, 4, 5, 6, 7, 8, 9, 10] [.slice al_d.L_b d.L.length al_d.L_c, .pointer (some ⟨b2, o2, none⟩), .int .i64 x2.Queue] [(26, .bool (x2.Queue == queue))] (obs := [.cell ⟨p_d, 4, none⟩ (.slice al_d.L_b d.L.length al_d.L_c), .p ((al_d.L_b : Option Addr) = some ⟨b2, o2, none⟩), .p (0 ≤ (i : Int) ∧ (i : Int) < ((d.L.length : Nat) : Int)), .cell ⟨b2, o2 + (Int.toNat i) * 6, none⟩ (.int .i64 x2.Queue)]) ⟨H.cell 0 rfl rfl, hs2, hb2, SlRd.cells (sl_rd 148 thicketref22_Job.enc 6 _ _ _) thicketref22_Job.enc_ok H 2 rfl hs2 ex2 0 _ rfl, trivial⟩ fun a hE => ?_
      rcases Bool.eq_false_or_eq_true (x2.Queue == queue) with c | c
      ·replace hE := hE.dec 26 c (by kernel_rfl)
       replace hm := cond_t c hm
       have c_ := c
       refine WQ.d0 hE [11, 12, 13] [(26, .bool true), (29, .bool (decide (k_ < 0)))] fun a hE => ?_
       rcases Bool.eq_false_or_eq_true (decide (k_ < 0)) with c | c
       ·replace hE := hE.dec 29 c (by kernel_rfl)
        replace hm := cond_t c hm
        have c_1 := c
        refine WQ.d0 hE [14, 15, 16, 17, 18, 19, 20, 21, 22, 23, 24, 25, 26, 27, 28, 29, 30, 31, 32] [(48, .bool true)] fun a hE => ?_
        refine WQ.done (by kernel_rfl) ?_
        replace H := thicketref22_Dispatcher.shut al_d (d) H.t2.t2.t2
        cases hm
        exact hk _ _ ⟨hE.sel [0, 1, 5, 6, 48] (by kernel_rfl), H⟩
       ·replace hE := hE.dec 29 c (by kernel_rfl)
        replace hm := cond_f c hm
        have c_2 := c
        obtain ⟨x3, ex3, hm⟩ := bind_some hm
        obtain ⟨b3, o3, hs3, hb3⟩ := SlRd.base (sl_rd 148 thicketref22_Job.enc 6 _ _ _) thicketref22_Job.enc_ok H 2 rfl ex3
        obtain ⟨x4, ex4, hm⟩ := bind_some hm
        obtain ⟨b4, o4, hs4, hb4⟩ := SlRd.base (sl_rd 148 thicketref22_Job.enc 6 _ _ _) thicketref22_Job.enc_ok H 2 rfl ex4
        refine WQ.d hE [14, 15, 16, 17, 18, 19, 20, 21, 22, 23, 24, 25, 26, 27, 28, 29] [.slice al_d.L_b d.L.length al_d.L_c, .pointer (some ⟨b3, o3, none⟩), .int .i64 x3.E.Key, .int .i64 x3.E.Serial, .slice al_d.L_b d.L.length al_d.L_c, .pointer (some ⟨b4, o4, none⟩), .int .i64 x4.E.Key, .int .i64 x4.E.Serial] [(29, .bool false), (37, .agg #[.int .i64 x3.E.Key, .int .i64 x3.E.Serial]), (45, .agg #[.int .i64 x4.E.Key, .int .i64 x4.E.Serial])] (obs := [.cell ⟨p_d, 4, none⟩ (.slice al_d.L_b d.L.length al_d.L_c), .p ((al_d.L_b : Option Addr) = some ⟨b3, o3, none⟩), .p (0 ≤ (i : Int) ∧ (i : Int) < ((d.L.length : Nat) : Int)), .cell ⟨b3, o3 + (Int.toNat i) * 6 + 2, none⟩ (.int .i64 x3.E.Key), .cell ⟨b3, o3 + (Int.toNat i) * 6 + 3, none⟩ (.int .i64 x3.E.Serial), .cell ⟨p_d, 4, none⟩ (.slice al_d.L_b d.L.length al_d.L_c), .p ((al_d.L_b : Option Addr) = some ⟨b4, o4, none⟩), .p (0 ≤ (k_ : Int) ∧ (k_ : Int) < ((d.L.length : Nat) : Int)), .cell ⟨b4, o4 + (Int.toNat k_) * 6 + 2, none⟩ (.int .i64 x4.E.Key), .cell ⟨b4, o4 + (Int.toNat k_) * 6 + 3, none⟩ (.int .i64 x4.E.Serial)]) ⟨H.cell 0 rfl rfl, hs3, hb3, SlRd.cells (sl_rd 148 thicketref22_Job.enc 6 _ _ _) thicketref22_Job.enc_ok H 2 rfl hs3 ex3 2 _ rfl, SlRd.cells (sl_rd 148 thicketref22_Job.enc 6 _ _ _) thicketref22_Job.enc_ok H 2 rfl hs3 ex3 3 _ rfl, H.cell 0 rfl rfl, hs4, hb4, SlRd.cells (sl_rd 148 thicketref22_Job.enc 6 _ _ _) thicketref22_Job.enc_ok H 2 rfl hs4 ex4 2 _ rfl, SlRd.cells (sl_rd 148 thicketref22_Job.enc 6 _ _ _) thicketref22_Job.enc_ok H 2 rfl hs4 ex4 3 _ rfl, trivial⟩ fun a hE => ?_
        obtain ⟨t_, et_, hm⟩ := bind_some hm
        refine WQ.eff (j := 30) (obs := []) hE (by kernel_rfl) rfl rfl rfl rfl (by kernel_rfl) (OpTo.fn hE rfl rfl Tryz.call143 (thicketref1_Before_ok et_ H)) ?_
        rintro _ w ⟨rfl, H⟩
        refine ⟨trivial, fun a hE => ?_⟩
        refine WQ.d0 hE [31, 32] [(48, .bool t_)] fun a hE => ?_
        refine WQ.done (by kernel_rfl) ?_
        replace H := thicketref22_Dispatcher.shut al_d (d) H.t2.t2.t2
        cases hm
        exact hk _ _ ⟨hE.sel [0, 1, 5, 6, 48] (by kernel_rfl), H⟩
      ·replace hE := hE.dec 26 c (by kernel_rfl)
       replace hm := cond_f c hm
       have c_3 := c
       refine WQ.d0 hE [11, 12, 13, 14, 15, 16, 17, 18, 19, 20, 21, 22, 23, 24, 25, 26, 27, 28, 29, 30, 31, 32] [(48, .bool false)] fun a hE => ?_
       refine WQ.done (by kernel_rfl) ?_
       replace H := thicketref22_Dispatcher.shut al_d (d) H.t2.t2.t2
       cases hm
       exact hk _ _ ⟨hE.sel [0, 1, 5, 6, 48] (by kernel_rfl), H⟩
     rintro a w ⟨hE, H⟩
     refine Runs.cond hE rfl (fun c => ?_) (fun c => ?_)
     ·replace hm := cond_t c hm
      refine Runs.region ?_
      refine WR.seg hE 2 [] [0, 1, 5, 6] (Lo := [(0, .pointer (some ⟨p_d, 0, none⟩)), (1, .int .i64 queue), (5, .int .i64 i), (6, .int .i64 i)]) (obs := []) rfl (by kernel_rfl) trivial fun a hE => ?_
      refine WR.done rfl ?_
      refine Runs.inBlock ?_
      cases hm
      exact hk _ _ ⟨hE.sel [0, 1, 5, 6] (by kernel_rfl), H⟩
     ·replace hm := cond_f c hm
      refine Runs.skip ?_
      refine Runs.inBlock ?_
      cases hm
      exact hk _ _ ⟨hE.sel [0, 1, 5, 6] (by kernel_rfl), H⟩
    rintro a w ⟨hE, H⟩
    refine Runs.region ?_
    refine WR.seg hE 3 [] [0, 1, 5, 6] (Lo := [(0, .pointer (some ⟨p_d, 0, none⟩)), (1, .int .i64 queue), (5, .int .i64 s1), (6, .int .i64 (w64 (i + 1)))]) (obs := []) rfl (by kernel_rfl) trivial fun a hE => ?_
    refine WR.done rfl ?_
    exact ih m (Nat.lt_succ_self m) _ _ ⟨s1, w64 (i + 1), hE.sel [0, 1, 5, 6] (by kernel_rfl), H, hm⟩
   ·replace hm := cond_f c hm
    refine Runs.exit rfl ?_
    replace H := thicketref22_Dispatcher.shut al_d (d) H.t2.t2.t2
    cases hm
    exact hk _ _ ⟨hE.sel [5] (by kernel_rfl), H⟩
 rintro a w ⟨hE, H⟩
 refine Runs.sr ?_
 refine WR.seg hE 2 [] [4] (Lo := [(4, .int .i64 s)]) (obs := []) rfl (by kernel_rfl) trivial fun a hE => ?_
 refine WR.done rfl ?_
 refine Runs.ret hE Tryz.func134 rfl rfl ?_
 cases hm
 exact ⟨rfl, H⟩

theorem thicketref2_Pool_Look_ok {w0 w : World} {As : List HP} {p_p : Nat} {al_p : thicketref2_Pool.A} {p : thicketref2_Pool} {r : api_Ref} {t : Int}  (hm : thicketref2_Pool_Look p r = some t) (H : St w0 (thicketref2_Pool.R p_p al_p p :: As) w) :
    CallsR Tryz.prog 76 #[.pointer (some ⟨p_p, 0, none⟩), .agg #[.int .i64 r.At, .int .i64 r.Gen]] w fun v w' => v = .int .i64 t ∧ St w0 (thicketref2_Pool.R p_p al_p p :: As) w' := by
 rw [thicketref2_Pool_Look] at hm
 refine enter (args := [.pointer (some ⟨p_p, 0, none⟩), .agg #[.int .i64 r.At, .int .i64 r.Gen]]) Tryz.func76 rfl rfl rfl fun a hE => ?_
 refine Runs.sr ?_
 refine WR.eff hE rfl rfl rfl rfl (OpTo.new hE H [] (.cells #[.int .i64 r.At, .int .i64 r.Gen] 26 (0, 0)) (fun r => .pointer (some ⟨r, 0, none⟩)) (obs := []) rfl (fun _ => by kernel_rfl) trivial) ?_
 rintro _ w ⟨r1, rfl, H⟩ a hE
 refine WR.seg hE 2 [] [0, 3] (Lo := [(0, .pointer (some ⟨p_p, 0, none⟩)), (3, .pointer (some ⟨r1, 0, none⟩))]) (obs := []) rfl (by kernel_rfl) trivial fun a hE => ?_
 refine WR.done rfl ?_
 refine Runs.seq ?_
 refine Runs.seq ?_
 obtain ⟨s, es, hm⟩ := bind_some hm
 refine Runs.join (fun a w => EnvOk 58 a [(0, .pointer (some ⟨p_p, 0, none⟩)), (3, .pointer (some ⟨r1, 0, none⟩)), (35, .bool s)] ∧ St w0 (Blk r1 26 [.int .i64 r.At, .int .i64 r.Gen] :: thicketref2_Pool.R p_p al_p p :: As) w) (fun hk => ?_) ?_
 ·replace hm := es; clear es
  refine Runs.drawn mixed (by kernel_rfl) ?_
  replace H := H.drew
  refine WQ.d hE [0, 1, 2, 3] [.int .i64 r.At] [(8, .bool (decide (r.At < 0)))] (obs := [.cell ⟨r1, 0, none⟩ (.int .i64 r.At)]) ⟨H.cell 0 rfl rfl, trivial⟩ fun a hE => ?_
  rcases Bool.eq_false_or_eq_true (decide (r.At < 0)) with c | c
  ·replace hE := hE.dec 8 c (by kernel_rfl)
   replace hm := cond_t c hm
   have c_ := c
   refine WQ.d0 hE [4, 5, 6, 7, 8, 9, 10, 11, 12, 13, 14, 15, 16, 17, 18, 19, 20, 21, 22, 23, 24, 25, 26, 27, 28, 29, 30] [(35, .bool true)] fun a hE => ?_
   refine WQ.done (by kernel_rfl) ?_
   cases hm
   exact hk _ _ ⟨hE.sel [0, 3, 35] (by kernel_rfl), H.t1.t1⟩
  ·replace hE := hE.dec 8 c (by kernel_rfl)
   replace hm := cond_f c hm
   have c_1 := c
   replace H := thicketref2_Pool.open H.t1
   refine WQ.d hE [4, 5, 6, 7, 8, 9, 10, 11, 12, 13] [.int .i64 r.At, .slice al_p.Gens_b p.Gens.length al_p.Gens_c] [(18, .bool (decide (r.At ≥ (p.Gens.length : Int))))] (obs := [.cell ⟨r1, 0, none⟩ (.int .i64 r.At), .cell ⟨p_p, 1, none⟩ (.slice al_p.Gens_b p.Gens.length al_p.Gens_c)]) ⟨H.cell 5 rfl rfl, H.cell 0 rfl rfl, trivial⟩ fun a hE => ?_
   rcases Bool.eq_false_or_eq_true (decide (r.At ≥ (p.Gens.length : Int))) with c | c
   ·replace hE := hE.dec 18 c (by kernel_rfl)
    replace hm := cond_t c hm
    have c_2 := c
    refine WQ.d0 hE [14, 15, 16, 17, 18, 19, 20, 21, 22, 23, 24, 25, 26, 27, 28, 29, 30] [(35, .bool true)] fun a hE => ?_
    refine WQ.done (by kernel_rfl) ?_
    replace H := thicketref2_Pool.shut al_p (p) H.t4.t4.t4.t4.t4
    cases hm
    exact hk _ _ ⟨hE.sel [0, 3, 35] (by kernel_rfl), H.t1⟩
   ·replace hE := hE.dec 18 c (by kernel_rfl)
    replace hm := cond_f c hm
    have c_3 := c
    refine WQ.d hE [14, 15, 16, 17, 18] [.int .i64 r.Gen] [(23, .bool (decide (r.Gen < 1)))] (obs := [.cell ⟨r1, 1, none⟩ (.int .i64 r.Gen)]) ⟨H.cell 5 rfl rfl, trivial⟩ fun a hE => ?_
    rcases Bool.eq_false_or_eq_true (decide (r.Gen < 1)) with c | c
    ·replace hE := hE.dec 23 c (by kernel_rfl)
     replace hm := cond_t c hm
     have c_4 := c
     refine WQ.d0 hE [19, 20, 21, 22, 23, 24, 25, 26, 27, 28, 29, 30] [(35, .bool true)] fun a hE => ?_
     refine WQ.done (by kernel_rfl) ?_
     replace H := thicketref2_Pool.shut al_p (p) H.t4.t4.t4.t4.t4
     cases hm
     exact hk _ _ ⟨hE.sel [0, 3, 35] (by kernel_rfl), H.t1⟩
    ·replace hE := hE.dec 23 c (by kernel_rfl)
     replace hm := cond_f c hm
     have c_5 := c
     obtain ⟨x1, ex1, hm⟩ := bind_some hm
     obtain ⟨b1, o1, hs1, hb1⟩ := SlRd.base (sl_rd 3 ecI 1 _ _ _) ecI_ok H 1 rfl ex1
     refine WQ.d hE [19, 20, 21, 22, 23, 24, 25, 26, 27, 28, 29, 30] [.int .i64 r.Gen, .slice al_p.Gens_b p.Gens.length al_p.Gens_c, .int .i64 r.At, .pointer (some ⟨b1, o1, none⟩), .int .i64 x1] [(35, .bool (decide (r.Gen > x1)))] (obs := [.cell ⟨r1, 1, none⟩ (.int .i64 r.Gen), .cell ⟨p_p, 1, none⟩ (.slice al_p.Gens_b p.Gens.length al_p.Gens_c), .cell ⟨r1, 0, none⟩ (.int .i64 r.At), .p ((al_p.Gens_b : Option Addr) = some ⟨b1, o1, none⟩), .p (0 ≤ (r.At : Int) ∧ (r.At : Int) < ((p.Gens.length : Nat) : Int)), .cell ⟨b1, o1 + (Int.toNat r.At) * 1, none⟩ (.int .i64 x1)]) ⟨H.cell 5 rfl rfl, H.cell 0 rfl rfl, H.cell 5 rfl rfl, hs1, hb1, SlRd.cells (sl_rd 3 ecI 1 _ _ _) ecI_ok H 1 rfl hs1 ex1 0 _ rfl, trivial⟩ fun a hE => ?_
     refine WQ.done (by kernel_rfl) ?_
     replace H := thicketref2_Pool.shut al_p (p) H.t4.t4.t4.t4.t4
     cases hm
     exact hk _ _ ⟨hE.sel [0, 3, 35] (by kernel_rfl), H.t1⟩
 rintro a w ⟨hE, H⟩
 refine Runs.cond hE rfl (fun c => ?_) (fun c => ?_)
 ·replace hm := cond_t c hm
  refine Runs.sr ?_
  refine WR.seg hE 1 [] [4] (Lo := [(4, .int .i64 22)]) (obs := []) rfl (by kernel_rfl) trivial fun a hE => ?_
  refine WR.done rfl ?_
  refine Runs.ret hE Tryz.func76 rfl rfl ?_
  cases hm
  exact ⟨rfl, H.x0⟩
 ·replace hm := cond_f c hm
  refine Runs.skip ?_
  refine Runs.seq ?_
  refine Runs.seq ?_
  obtain ⟨s1, es1, hm⟩ := bind_some hm
  refine Runs.join (fun a w => EnvOk 58 a [(57, .bool s1)] ∧ St w0 (thicketref2_Pool.R p_p al_p p :: As) w) (fun hk => ?_) ?_
  ·replace hm := es1; clear es1
   refine Runs.drawn mixed (by kernel_rfl) ?_
   replace H := H.drew
   replace H := thicketref2_Pool.open H.t1
   obtain ⟨x4, ex4, hm⟩ := bind_some hm
   obtain ⟨b4, o4, hs4, hb4⟩ := SlRd.base (sl_rd 3 ecI 1 _ _ _) ecI_ok H 1 rfl ex4
   refine WQ.seg hE [0, 1, 2, 3, 4, 5, 6, 7, 8, 9, 10, 11] [.int .i64 r.Gen, .slice al_p.Gens_b p.Gens.length al_p.Gens_c, .int .i64 r.At, .pointer (some ⟨b4, o4, none⟩), .int .i64 x4] [0, 3, 47] (Lo := [(0, .pointer (some ⟨p_p, 0, none⟩)), (3, .pointer (some ⟨r1, 0, none⟩)), (47, .bool (decide (r.Gen < x4)))]) (obs := [.cell ⟨r1, 1, none⟩ (.int .i64 r.Gen), .cell ⟨p_p, 1, none⟩ (.slice al_p.Gens_b p.Gens.length al_p.Gens_c), .cell ⟨r1, 0, none⟩ (.int .i64 r.At), .p ((al_p.Gens_b : Option Addr) = some ⟨b4, o4, none⟩), .p (0 ≤ (r.At : Int) ∧ (r.At : Int) < ((p.Gens.length : Nat) : Int)), .cell ⟨b4, o4 + (Int.toNat r.At) * 1, none⟩ (.int .i64 x4)]) (by kernel_rfl) (by kernel_rfl) ⟨H.cell 5 rfl rfl, H.cell 0 rfl rfl, H.cell 5 rfl rfl, hs4, hb4, SlRd.cells (sl_rd 3 ecI 1 _ _ _) ecI_ok H 1 rfl hs4 ex4 0 _ rfl, trivial⟩ fun a hE => ?_
   rcases Bool.eq_false_or_eq_true (decide (r.Gen < x4)) with c | c
   ·replace hE := hE.dec 47 c (by kernel_rfl)
    replace hm := cond_t c hm
    have c_6 := c
    refine WQ.d0 hE [12, 13, 14, 15, 16, 17, 18, 19, 20, 21] [(57, .bool true)] fun a hE => ?_
    refine WQ.done (by kernel_rfl) ?_
    replace H := thicketref2_Pool.shut al_p (p) H.t4.t4.t4.t4.t4
    cases hm
    exact hk _ _ ⟨hE.sel [57] (by kernel_rfl), H.x1⟩
   ·replace hE := hE.dec 47 c (by kernel_rfl)
    replace hm := cond_f c hm
    have c_7 := c
    obtain ⟨x5, ex5, hm⟩ := bind_some hm
    obtain ⟨b5, o5, hs5, hb5⟩ := SlRd.base (sl_rd 4 ecB 1 _ _ _) ecB_ok H 2 rfl ex5
    refine WQ.d hE [12, 13, 14, 15, 16, 17, 18, 19, 20, 21] [.slice al_p.In_b p.In.length al_p.In_c, .int .i64 r.At, .pointer (some ⟨b5, o5, none⟩), .bool x5] [(57, .bool (!x5))] (obs := [.cell ⟨p_p, 2, none⟩ (.slice al_p.In_b p.In.length al_p.In_c), .cell ⟨r1, 0, none⟩ (.int .i64 r.At), .p ((al_p.In_b : Option Addr) = some ⟨b5, o5, none⟩), .p (0 ≤ (r.At : Int) ∧ (r.At : Int) < ((p.In.length : Nat) : Int)), .cell ⟨b5, o5 + (Int.toNat r.At) * 1, none⟩ (.bool x5)]) ⟨H.cell 0 rfl rfl, H.cell 5 rfl rfl, hs5, hb5, SlRd.cells (sl_rd 4 ecB 1 _ _ _) ecB_ok H 2 rfl hs5 ex5 0 _ rfl, trivial⟩ fun a hE => ?_
    refine WQ.done (by kernel_rfl) ?_
    replace H := thicketref2_Pool.shut al_p (p) H.t4.t4.t4.t4.t4
    cases hm
    exact hk _ _ ⟨hE.sel [57] (by kernel_rfl), H.x1⟩
  rintro a w ⟨hE, H⟩
  refine Runs.cond hE rfl (fun c => ?_) (fun c => ?_)
  ·replace hm := cond_t c hm
   refine Runs.sr ?_
   refine WR.seg hE 1 [] [4] (Lo := [(4, .int .i64 23)]) (obs := []) rfl (by kernel_rfl) trivial fun a hE => ?_
   refine WR.done rfl ?_
   refine Runs.ret hE Tryz.func76 rfl rfl ?_
   cases hm
   exact ⟨rfl, H⟩
  ·replace hm := cond_f c hm
   refine Runs.skip ?_
   refine Runs.sr ?_
   refine WR.seg hE 1 [] [4] (Lo := [(4, .int .i64 0)]) (obs := []) rfl (by kernel_rfl) trivial fun a hE => ?_
   refine WR.done rfl ?_
   refine Runs.ret hE Tryz.func76 rfl rfl ?_
   cases hm
   exact ⟨rfl, H⟩

theorem thicketref2_Pool_Give_ok {w0 w : World} {As : List HP} {p_p : Nat} {al_p : thicketref2_Pool.A} {p : thicketref2_Pool} {r : api_Ref} {t : Int × Int × thicketref2_Pool}  (hm : thicketref2_Pool_Give p r = some t) (H : St w0 (thicketref2_Pool.R p_p al_p p :: As) w) :
    CallsR Tryz.prog 136 #[.pointer (some ⟨p_p, 0, none⟩), .agg #[.int .i64 r.At, .int .i64 r.Gen]] w fun v w' => ∃ (z_p_Back_b : Option Addr), ∃ (z_p_Back_c : Nat), v = .tuple #[.int .i64 t.1, .int .i64 t.2.1] ∧ St w0 (thicketref2_Pool.R p_p (thicketref2_Pool.A.mk al_p.Gens_b al_p.Gens_c al_p.In_b al_p.In_c al_p.V_b al_p.V_c z_p_Back_b z_p_Back_c) t.2.2 :: As) w' := by
 rw [thicketref2_Pool_Give] at hm
 refine enter (args := [.pointer (some ⟨p_p, 0, none⟩), .agg #[.int .i64 r.At, .int .i64 r.Gen]]) Tryz.func136 rfl rfl rfl fun a hE => ?_
 refine Runs.sr ?_
 refine WR.eff hE rfl rfl rfl rfl (OpTo.new hE H [] (.cells #[.int .i64 r.At, .int .i64 r.Gen] 26 (0, 0)) (fun r => .pointer (some ⟨r, 0, none⟩)) (obs := []) rfl (fun _ => by kernel_rfl) trivial) ?_
 rintro _ w ⟨r1, rfl, H⟩ a hE
 refine WR.seg hE 3 [] [0, 3] (Lo := [(0, .pointer (some ⟨p_p, 0, none⟩)), (3, .pointer (some ⟨r1, 0, none⟩))]) (obs := []) rfl (by kernel_rfl) trivial fun a hE => ?_
 refine WR.done rfl ?_
 refine Runs.seq ?_
 refine Runs.sr ?_
 refine WR.d hE 2 [.int .i64 r.At, .int .i64 r.Gen] [(7, .pointer (some ⟨p_p, 0, none⟩)), (8, .agg #[.int .i64 r.At, .int .i64 r.Gen])] (obs := [.cell ⟨r1, 0, none⟩ (.int .i64 r.At), .cell ⟨r1, 1, none⟩ (.int .i64 r.Gen)]) ⟨H.cell 0 rfl rfl, H.cell 0 rfl rfl, trivial⟩ fun a hE => ?_
 obtain ⟨t_, et_, hm⟩ := bind_some hm
 refine WR.eff hE rfl rfl rfl rfl (OpTo.fn hE rfl rfl Tryz.call76 (thicketref2_Pool_Look_ok et_ H.t1)) ?_
 rintro _ w ⟨rfl, H⟩ a hE
 refine WR.e0 hE [(6, .int .i64 t_)] fun a hE => ?_
 refine Runs.sr ?_
 refine WR.e0 hE [(11, .bool (t_ != 0))] fun a hE => ?_
 refine Runs.cond hE rfl (fun c => ?_) (fun c => ?_)
 ·replace hm := cond_t c hm
  refine Runs.sr ?_
  refine WR.e0 hE [(4, .int .i64 0), (5, .int .i64 t_)] fun a hE => ?_
  refine Runs.ret hE Tryz.func136 rfl rfl ?_
  cases hm
  exact ⟨al_p.Back_b, al_p.Back_c, rfl, H.x1⟩
 ·replace hm := cond_f c hm
  refine Runs.skip ?_
  refine Runs.seq ?_
  refine Runs.drawn mixed (by kernel_rfl) ?_
  replace H := H.drew
  replace H := thicketref2_Pool.open H
  obtain ⟨x, ex, hm⟩ := bind_some hm
  obtain ⟨b, o, hs, hb⟩ := SlRd.base (sl_rd 4 ecB 1 _ _ _) ecB_ok H 2 rfl ex
  refine WQ.d hE [0, 1, 2, 3, 4, 5, 6] [.slice al_p.In_b p.In.length al_p.In_c, .int .i64 r.At, .pointer (some ⟨b, o, none⟩)] [(19, .pointer (some ⟨b, o + (Int.toNat r.At) * 1, none⟩))] (obs := [.cell ⟨p_p, 2, none⟩ (.slice al_p.In_b p.In.length al_p.In_c), .cell ⟨r1, 0, none⟩ (.int .i64 r.At), .p ((al_p.In_b : Option Addr) = some ⟨b, o, none⟩), .p (0 ≤ (r.At : Int) ∧ (r.At : Int) < ((p.In.length : Nat) : Int))]) ⟨H.cell 0 rfl rfl, H.cell 5 rfl rfl, hs, hb, trivial⟩ fun a hE => ?_
  refine WQ.eff0 (j := 7) (obs := []) hE (by kernel_rfl) rfl rfl rfl (by kernel_rfl) (OpTo.storeSl (q := 0) (x' := false) hE H.t2 ecB_ok rfl hs ex rfl rfl rfl rfl rfl (Nat.le_of_ble_eq_true rfl) rfl) ?_
  rintro _ w H
  rw [← mSet_len p.In r.At false] at H
  refine ⟨trivial, fun a hE => ?_⟩
  refine WQ.done (by kernel_rfl) ?_
  refine Runs.seq ?_
  replace H := thicketref2_Pool.shut al_p (thicketref2_Pool.mk p.Most p.Gens (mSet p.In r.At false) p.V p.Back) H.t4.t4.t2.t4.t4
  obtain ⟨l, el, hm⟩ := bind_some hm
  obtain ⟨l1, el1, hm⟩ := bind_some hm
  refine Runs.join (fun a w => ∃ (z : Option Addr), ∃ (z1 : Nat), EnvOk 41 a [(0, .pointer (some ⟨p_p, 0, none⟩)), (3, .pointer (some ⟨r1, 0, none⟩))] ∧ St w0 (thicketref2_Pool.R p_p (thicketref2_Pool.A.mk al_p.Gens_b al_p.Gens_c al_p.In_b al_p.In_c al_p.V_b al_p.V_c z z1) (thicketref2_Pool.mk p.Most p.Gens (mSet p.In r.At false) p.V l1) :: Blk r1 26 [.int .i64 r.At, .int .i64 r.Gen] :: As) w) (fun hk => ?_) ?_
  ·refine Runs.drawn mixed (by kernel_rfl) ?_
   replace H := H.drew
   replace H := thicketref2_Pool.open H
   try dsimp only at H
   refine WQ.d hE [0, 2, 3, 4, 5, 7, 8] [.slice al_p.Back_b p.Back.length al_p.Back_c, .int .i64 r.At] [(20, .pointer (some ⟨p_p, 0, none⟩)), (25, .slice al_p.Back_b p.Back.length al_p.Back_c), (28, .int .i64 r.At)] (obs := [.cell ⟨p_p, 4, none⟩ (.slice al_p.Back_b p.Back.length al_p.Back_c), .cell ⟨r1, 0, none⟩ (.int .i64 r.At)]) ⟨H.cell 0 rfl rfl, H.cell 5 rfl rfl, trivial⟩ fun a hE => ?_
   refine WQ.act2 1 9 (by kernel_rfl) ?_ ?_
   ·refine AQ.eff (j := 1) (obs := [.cell ⟨r1, 0, none⟩ (.int .i64 r.At), .cell ⟨p_p, 4, none⟩ (.slice al_p.Back_b p.Back.length al_p.Back_c)]) hE rfl rfl rfl rfl (by kernel_rfl) (OpTo.buildSl (T := 3) hE H ecI_ok ([] : List Int) rfl (fun _ => by kernel_rfl) rfl rfl rfl) ?_
    rintro _ w ⟨r4, rfl, H⟩
    refine ⟨⟨H.cell 6 rfl rfl, H.cell 1 rfl rfl, trivial⟩, fun a hE => ?_⟩
    refine WQ.act2 6 9 (by kernel_rfl) ?_ ?_
    ·refine AQ.eff (j := 6) (obs := [.cell ⟨r1, 0, none⟩ (.int .i64 r.At)]) hE rfl rfl rfl rfl (by kernel_rfl) (OpTo.appendM el hE H ecI_ok rfl rfl rfl rfl rfl rfl rfl rfl rfl rfl (SlRd.all (sl_rd 3 ecI 1 _ _ _) ecI_ok H 5 rfl) rfl) ?_
     rintro _ w ⟨sb2, sc2, rfl, H⟩
     refine ⟨⟨H.cell 6 rfl rfl, trivial⟩, fun a hE => ?_⟩
     refine WQ.eff (j := 9) (obs := []) hE (by kernel_rfl) rfl rfl rfl rfl (by kernel_rfl) (OpTo.buildSl (T := 3) hE H ecI_ok ([r.At] : List Int) rfl (fun _ => by kernel_rfl) rfl rfl rfl) ?_
     rintro _ w ⟨r5, rfl, H⟩
     refine ⟨trivial, fun a hE => ?_⟩
     replace H := H.t1
     refine WQ.eff (j := 10) (obs := []) hE (by kernel_rfl) rfl rfl rfl rfl (by kernel_rfl) (OpTo.appendM el1 hE H ecI_ok rfl rfl rfl rfl rfl rfl rfl rfl rfl rfl (SlRd.all (sl_rd 3 ecI 1 _ _ _) ecI_ok H 1 rfl) rfl) ?_
     rintro _ w ⟨sb3, sc3, rfl, H⟩
     refine ⟨trivial, fun a hE => ?_⟩
     refine WQ.d0 hE [11, 12] [(32, .pointer (some ⟨p_p, 4, none⟩))] fun a hE => ?_
     refine WQ.eff0 (j := 13) (obs := []) hE (by kernel_rfl) rfl rfl rfl (by kernel_rfl) (OpTo.store hE H.t2 rfl rfl rfl rfl rfl rfl (Nat.le_of_ble_eq_true rfl)) ?_
     rintro _ w H
     refine ⟨trivial, fun a hE => ?_⟩
     refine WQ.done (by kernel_rfl) ?_
     replace H := thicketref2_Pool.shut (thicketref2_Pool.A.mk al_p.Gens_b al_p.Gens_c al_p.In_b al_p.In_c al_p.V_b al_p.V_c sb3 sc3) (thicketref2_Pool.mk p.Most p.Gens (mSet p.In r.At false) p.V l1) H.t1.t5.t5.t5.t4
     exact hk _ _ ⟨sb3, sc3, hE.sel [0, 3] (by kernel_rfl), H.x2.x1.t1.t1⟩
    ·refine AQ.eff (j := 9) (obs := [.cell ⟨p_p, 4, none⟩ (.slice al_p.Back_b p.Back.length al_p.Back_c)]) hE rfl rfl rfl rfl (by kernel_rfl) (OpTo.buildSl (T := 3) hE H ecI_ok ([r.At] : List Int) rfl (fun _ => by kernel_rfl) rfl rfl rfl) ?_
     rintro _ w ⟨r6, rfl, H⟩
     refine ⟨⟨H.cell 2 rfl rfl, trivial⟩, fun a hE => ?_⟩
     replace H := H.t1
     refine WQ.eff (j := 6) (obs := []) hE (by kernel_rfl) rfl rfl rfl rfl (by kernel_rfl) (OpTo.appendM el hE H ecI_ok rfl rfl rfl rfl rfl rfl rfl rfl rfl rfl (SlRd.all (sl_rd 3 ecI 1 _ _ _) ecI_ok H 6 rfl) rfl) ?_
     rintro _ w ⟨sb4, sc4, rfl, H⟩
     refine ⟨trivial, fun a hE => ?_⟩
     refine WQ.eff (j := 10) (obs := []) hE (by kernel_rfl) rfl rfl rfl rfl (by kernel_rfl) (OpTo.appendM el1 hE H ecI_ok rfl rfl rfl rfl rfl rfl rfl rfl rfl rfl (SlRd.all (sl_rd 3 ecI 1 _ _ _) ecI_ok H 1 rfl) rfl) ?_
     rintro _ w ⟨sb5, sc5, rfl, H⟩
     refine ⟨trivial, fun a hE => ?_⟩
     refine WQ.d0 hE [11, 12] [(32, .pointer (some ⟨p_p, 4, none⟩))] fun a hE => ?_
     refine WQ.eff0 (j := 13) (obs := []) hE (by kernel_rfl) rfl rfl rfl (by kernel_rfl) (OpTo.store hE H.t2 rfl rfl rfl rfl rfl rfl (Nat.le_of_ble_eq_true rfl)) ?_
     rintro _ w H
     refine ⟨trivial, fun a hE => ?_⟩
     refine WQ.done (by kernel_rfl) ?_
     replace H := thicketref2_Pool.shut (thicketref2_Pool.A.mk al_p.Gens_b al_p.Gens_c al_p.In_b al_p.In_c al_p.V_b al_p.V_c sb5 sc5) (thicketref2_Pool.mk p.Most p.Gens (mSet p.In r.At false) p.V l1) H.t1.t5.t5.t5.t4
     exact hk _ _ ⟨sb5, sc5, hE.sel [0, 3] (by kernel_rfl), H.x2.x1.t1.t1⟩
   ·refine AQ.eff (j := 9) (obs := [.cell ⟨p_p, 4, none⟩ (.slice al_p.Back_b p.Back.length al_p.Back_c)]) hE rfl rfl rfl rfl (by kernel_rfl) (OpTo.buildSl (T := 3) hE H ecI_ok ([r.At] : List Int) rfl (fun _ => by kernel_rfl) rfl rfl rfl) ?_
    rintro _ w ⟨r7, rfl, H⟩
    refine ⟨⟨H.cell 1 rfl rfl, trivial⟩, fun a hE => ?_⟩
    refine WQ.eff (j := 1) (obs := [.cell ⟨p_p, 4, none⟩ (.slice al_p.Back_b p.Back.length al_p.Back_c)]) hE (by kernel_rfl) rfl rfl rfl rfl (by kernel_rfl) (OpTo.buildSl (T := 3) hE H ecI_ok ([] : List Int) rfl (fun _ => by kernel_rfl) rfl rfl rfl) ?_
    rintro _ w ⟨r8, rfl, H⟩
    refine ⟨⟨H.cell 2 rfl rfl, trivial⟩, fun a hE => ?_⟩
    refine WQ.eff (j := 6) (obs := []) hE (by kernel_rfl) rfl rfl rfl rfl (by kernel_rfl) (OpTo.appendM el hE H ecI_ok rfl rfl rfl rfl rfl rfl rfl rfl rfl rfl (SlRd.all (sl_rd 3 ecI 1 _ _ _) ecI_ok H 6 rfl) rfl) ?_
    rintro _ w ⟨sb6, sc6, rfl, H⟩
    refine ⟨trivial, fun a hE => ?_⟩
    refine WQ.eff (j := 10) (obs := []) hE (by kernel_rfl) rfl rfl rfl rfl (by kernel_rfl) (OpTo.appendM el1 hE H ecI_ok rfl rfl rfl rfl rfl rfl rfl rfl rfl rfl (SlRd.all (sl_rd 3 ecI 1 _ _ _) ecI_ok H 1 rfl) rfl) ?_
    rintro _ w ⟨sb7, sc7, rfl, H⟩
    refine ⟨trivial, fun a hE => ?_⟩
    refine WQ.d0 hE [11, 12] [(32, .pointer (some ⟨p_p, 4, none⟩))] fun a hE => ?_
    refine WQ.eff0 (j := 13) (obs := []) hE (by kernel_rfl) rfl rfl rfl (by kernel_rfl) (OpTo.store hE H.t2 rfl rfl rfl rfl rfl rfl (Nat.le_of_ble_eq_true rfl)) ?_
    rintro _ w H
    refine ⟨trivial, fun a hE => ?_⟩
    refine WQ.done (by kernel_rfl) ?_
    replace H := thicketref2_Pool.shut (thicketref2_Pool.A.mk al_p.Gens_b al_p.Gens_c al_p.In_b al_p.In_c al_p.V_b al_p.V_c sb7 sc7) (thicketref2_Pool.mk p.Most p.Gens (mSet p.In r.At false) p.V l1) H.t1.t5.t5.t5.t4
    exact hk _ _ ⟨sb7, sc7, hE.sel [0, 3] (by kernel_rfl), H.x2.x1.t1.t1⟩
  rintro a w ⟨z, z1, hE, H⟩
  refine Runs.seq ?_
  refine Runs.drawn mixed (by kernel_rfl) ?_
  replace H := H.drew
  replace H := thicketref2_Pool.open H
  try dsimp only at H
  obtain ⟨x1, ex1, hm⟩ := bind_some hm
  obtain ⟨b1, o1, hs1, hb1⟩ := SlRd.base (sl_rd 2 ecI 1 _ _ _) ecI_ok H 3 rfl ex1
  refine WQ.seg hE [0, 1, 2, 3, 4, 5, 6, 7, 8, 9] [.slice al_p.V_b (((thicketref2_Pool.mk p.Most p.Gens (mSet p.In r.At false) p.V l1).V).length) al_p.V_c, .int .i64 r.At, .pointer (some ⟨b1, o1, none⟩), .int .i64 x1] [4, 5] (Lo := [(4, .int .i64 x1), (5, .int .i64 0)]) (obs := [.cell ⟨p_p, 3, none⟩ (.slice al_p.V_b (((thicketref2_Pool.mk p.Most p.Gens (mSet p.In r.At false) p.V l1).V).length) al_p.V_c), .cell ⟨r1, 0, none⟩ (.int .i64 r.At), .p ((al_p.V_b : Option Addr) = some ⟨b1, o1, none⟩), .p (0 ≤ (r.At : Int) ∧ (r.At : Int) < ((((thicketref2_Pool.mk p.Most p.Gens (mSet p.In r.At false) p.V l1).V).length : Nat) : Int)), .cell ⟨b1, o1 + (Int.toNat r.At) * 1, none⟩ (.int .i64 x1)]) (by kernel_rfl) (by kernel_rfl) ⟨H.cell 0 rfl rfl, H.cell 5 rfl rfl, hs1, hb1, SlRd.cells (sl_rd 2 ecI 1 _ _ _) ecI_ok H 3 rfl hs1 ex1 0 _ rfl, trivial⟩ fun a hE => ?_
  refine WQ.done (by kernel_rfl) ?_
  replace H := thicketref2_Pool.shut (thicketref2_Pool.A.mk al_p.Gens_b al_p.Gens_c al_p.In_b al_p.In_c al_p.V_b al_p.V_c z z1) ((thicketref2_Pool.mk p.Most p.Gens (mSet p.In r.At false) p.V l1)) H.t4.t4.t4.t4.t4
  refine Runs.ret hE Tryz.func136 rfl rfl ?_
  cases hm
  exact ⟨z, z1, rfl, H.x1⟩

theorem thicketref22_Dispatcher_out_ok {w0 w : World} {As : List HP} {p_d : Nat} {al_d : thicketref22_Dispatcher.A} {d : thicketref22_Dispatcher} {k_ : Int} {t : thicketref22_Job × thicketref22_Dispatcher}  (hm : thicketref22_Dispatcher_out d k_ = some t) (H : St w0 (thicketref22_Dispatcher.R p_d al_d d :: As) w) :
    CallsR Tryz.prog 78 #[.pointer (some ⟨p_d, 0, none⟩), .int .i64 k_] w fun v w' => ∃ (z_d_Pool_a : thicketref2_Pool.A), ∃ (z_d_L_b : Option Addr), ∃ (z_d_L_c : Nat), v = .agg #[.int .i64 t.1.Queue, .int .i64 t.1.Data, .int .i64 t.1.E.Key, .int .i64 t.1.E.Serial, .int .i64 t.1.R.At, .int .i64 t.1.R.Gen] ∧ St w0 (thicketref22_Dispatcher.R p_d (thicketref22_Dispatcher.A.mk al_d.Pool_p z_d_Pool_a z_d_L_b z_d_L_c) t.2 :: As) w' := by
 rw [thicketref22_Dispatcher_out] at hm
 refine enter (args := [.pointer (some ⟨p_d, 0, none⟩), .int .i64 k_]) Tryz.func78 rfl rfl rfl fun a hE => ?_
 refine Runs.sr ?_
 refine WR.eff hE rfl rfl rfl rfl (OpTo.new hE H [] (.cells #[.int .i64 0, .int .i64 0, .int .i64 0, .int .i64 0, .int .i64 0, .int .i64 0] 148 (0, 0)) (fun r => .pointer (some ⟨r, 0, none⟩)) (obs := []) rfl (fun _ => by kernel_rfl) trivial) ?_
 rintro _ w ⟨r, rfl, H⟩ a hE
 refine WR.done rfl ?_
 refine Runs.sr ?_
 replace H := thicketref22_Dispatcher.open H.t1
 obtain ⟨x, ex, hm⟩ := bind_some hm
 obtain ⟨b, o, hs, hb⟩ := SlRd.base (sl_rd 148 thicketref22_Job.enc 6 _ _ _) thicketref22_Job.enc_ok H 2 rfl ex
 refine WR.seg hE 7 [.slice al_d.L_b d.L.length al_d.L_c, .pointer (some ⟨b, o, none⟩), .int .i64 x.Queue, .int .i64 x.Data, .int .i64 x.E.Key, .int .i64 x.E.Serial, .int .i64 x.R.At, .int .i64 x.R.Gen] [0, 1, 4, 12] (Lo := [(0, .pointer (some ⟨p_d, 0, none⟩)), (1, .int .i64 k_), (4, .pointer (some ⟨r, 0, none⟩)), (12, .agg #[.int .i64 x.Queue, .int .i64 x.Data, .int .i64 x.E.Key, .int .i64 x.E.Serial, .int .i64 x.R.At, .int .i64 x.R.Gen])]) (obs := [.cell ⟨p_d, 4, none⟩ (.slice al_d.L_b d.L.length al_d.L_c), .p ((al_d.L_b : Option Addr) = some ⟨b, o, none⟩), .p (0 ≤ (k_ : Int) ∧ (k_ : Int) < ((d.L.length : Nat) : Int)), .cell ⟨b, o + (Int.toNat k_) * 6, none⟩ (.int .i64 x.Queue), .cell ⟨b, o + (Int.toNat k_) * 6 + 1, none⟩ (.int .i64 x.Data), .cell ⟨b, o + (Int.toNat k_) * 6 + 2, none⟩ (.int .i64 x.E.Key), .cell ⟨b, o + (Int.toNat k_) * 6 + 3, none⟩ (.int .i64 x.E.Serial), .cell ⟨b, o + (Int.toNat k_) * 6 + 4, none⟩ (.int .i64 x.R.At), .cell ⟨b, o + (Int.toNat k_) * 6 + 5, none⟩ (.int .i64 x.R.Gen)]) rfl (by kernel_rfl) ⟨H.cell 0 rfl rfl, hs, hb, SlRd.cells (sl_rd 148 thicketref22_Job.enc 6 _ _ _) thicketref22_Job.enc_ok H 2 rfl hs ex 0 _ rfl, SlRd.cells (sl_rd 148 thicketref22_Job.enc 6 _ _ _) thicketref22_Job.enc_ok H 2 rfl hs ex 1 _ rfl, SlRd.cells (sl_rd 148 thicketref22_Job.enc 6 _ _ _) thicketref22_Job.enc_ok H 2 rfl hs ex 2 _ rfl, SlRd.cells (sl_rd 148 thicketref22_Job.enc 6 _ _ _) thicketref22_Job.enc_ok H 2 rfl hs ex 3 _ rfl, SlRd.cells (sl_rd 148 thicketref22_Job.enc 6 _ _ _) thicketref22_Job.enc_ok H 2 rfl hs ex 4 _ rfl, SlRd.cells (sl_rd 148 thicketref22_Job.enc 6 _ _ _) thicketref22_Job.enc_ok H 2 rfl hs ex 5 _ rfl, trivial⟩ fun a hE => ?_
 refine WR.eff hE rfl rfl rfl rfl (OpTo.new hE H [] (.cells #[.int .i64 0, .int .i64 0, .int .i64 0, .int .i64 0, .int .i64 0, .int .i64 0] 148 (0, 0)) (fun r => .pointer (some ⟨r, 0, none⟩)) (obs := []) rfl (fun _ => by kernel_rfl) trivial) ?_
 rintro _ w ⟨r1, rfl, H⟩ a hE
 refine WR.eff0 hE rfl rfl rfl (OpTo.store hE H rfl rfl rfl rfl rfl rfl (Nat.le_of_ble_eq_true rfl)) ?_
 rintro _ w H a hE
 refine WR.done rfl ?_
 refine Runs.seq ?_
 refine Runs.drawn mixed (by kernel_rfl) ?_
 replace H := H.drew
 obtain ⟨l, el, hm⟩ := bind_some hm
 obtain ⟨sb, q⟩ : ∃ z, rebase al_d.L_b al_d.L_c (Int.toNat 0) 6 = z := ⟨_, rfl⟩
 obtain ⟨sc, q1⟩ : ∃ z, al_d.L_c - (Int.toNat 0) = z := ⟨_, rfl⟩
 obtain ⟨l1, el1, hm⟩ := bind_some hm
 obtain ⟨sb1, q2⟩ : ∃ z, rebase al_d.L_b al_d.L_c (Int.toNat (w64 (k_ + 1))) 6 = z := ⟨_, rfl⟩
 obtain ⟨sc1, q3⟩ : ∃ z, al_d.L_c - (Int.toNat (w64 (k_ + 1))) = z := ⟨_, rfl⟩
 refine WQ.d hE [0, 2, 3, 4, 5, 6, 7, 9, 10, 11, 12, 13, 14, 15] [.slice al_d.L_b d.L.length al_d.L_c, .slice sb l.length sc, .slice al_d.L_b d.L.length al_d.L_c, .slice sb1 l1.length sc1] [(13, .pointer (some ⟨p_d, 0, none⟩)), (20, .slice sb l.length sc), (28, .slice sb1 l1.length sc1)] (obs := [.cell ⟨p_d, 4, none⟩ (.slice al_d.L_b d.L.length al_d.L_c), .p (rebase al_d.L_b al_d.L_c 0 6 = sb), .p ((Int.toNat k_) - 0 = l.length), .p (al_d.L_c - 0 = sc), .p (0 ≤ (k_ : Int) ∧ (k_ : Int) ≤ ((al_d.L_c : Nat) : Int)), .cell ⟨p_d, 4, none⟩ (.slice al_d.L_b d.L.length al_d.L_c), .p (rebase al_d.L_b al_d.L_c (Int.toNat (w64 (k_ + 1))) 6 = sb1), .p (d.L.length - (Int.toNat (w64 (k_ + 1))) = l1.length), .p (al_d.L_c - (Int.toNat (w64 (k_ + 1))) = sc1), .p (0 ≤ ((w64 (k_ + 1)) : Int) ∧ ((w64 (k_ + 1)) : Int) ≤ ((d.L.length : Nat) : Int))]) ⟨H.cell 1 rfl rfl, q, cut_len el, q1, cut_cap el (H.slCap 3 rfl).1, H.cell 1 rfl rfl, q2, cut_len el1, q3, cut_bd0 el1, trivial⟩ fun a hE => ?_
 refine WQ.eff (j := 1) (obs := [.p (rebase al_d.L_b al_d.L_c (Int.toNat (w64 (k_ + 1))) 6 = sb1), .p (d.L.length - (Int.toNat (w64 (k_ + 1))) = l1.length), .p (al_d.L_c - (Int.toNat (w64 (k_ + 1))) = sc1), .p (0 ≤ ((w64 (k_ + 1)) : Int) ∧ ((w64 (k_ + 1)) : Int) ≤ ((d.L.length : Nat) : Int)), .cell ⟨p_d, 4, none⟩ (.slice al_d.L_b d.L.length al_d.L_c), .p (rebase al_d.L_b al_d.L_c 0 6 = sb), .p ((Int.toNat k_) - 0 = l.length), .p (al_d.L_c - 0 = sc), .p (0 ≤ (k_ : Int) ∧ (k_ : Int) ≤ ((al_d.L_c : Nat) : Int)), .cell ⟨p_d, 4, none⟩ (.slice al_d.L_b d.L.length al_d.L_c)]) hE (by kernel_rfl) rfl rfl rfl rfl (by kernel_rfl) (OpTo.buildSl (T := 148) hE H thicketref22_Job.enc_ok ([] : List thicketref22_Job) rfl (fun _ => by kernel_rfl) rfl rfl rfl) ?_
 rintro _ w ⟨r2, rfl, H⟩
 refine ⟨⟨q2, cut_len el1, q3, cut_bd0 el1, H.cell 2 rfl rfl, q, cut_len el, q1, cut_cap el (H.slCap 4 rfl).1, H.cell 2 rfl rfl, trivial⟩, fun a hE => ?_⟩
 obtain ⟨l2, el2, hm⟩ := bind_some hm
 refine WQ.eff (j := 8) (obs := [.p (rebase al_d.L_b al_d.L_c (Int.toNat (w64 (k_ + 1))) 6 = sb1), .p (d.L.length - (Int.toNat (w64 (k_ + 1))) = l1.length), .p (al_d.L_c - (Int.toNat (w64 (k_ + 1))) = sc1), .p (0 ≤ ((w64 (k_ + 1)) : Int) ∧ ((w64 (k_ + 1)) : Int) ≤ ((d.L.length : Nat) : Int)), .cell ⟨p_d, 4, none⟩ (.slice al_d.L_b d.L.length al_d.L_c)]) hE (by kernel_rfl) rfl rfl rfl rfl (by kernel_rfl) (OpTo.appendM el2 hE H thicketref22_Job.enc_ok rfl rfl rfl rfl rfl rfl rfl rfl rfl rfl (SlRd.all ((sl_rd 148 thicketref22_Job.enc 6 _ _ _).cut' thicketref22_Job.enc_ok el ((H.slCap 4 rfl).1) q) thicketref22_Job.enc_ok H 4 rfl) rfl) ?_
 rintro _ w ⟨sb2, sc2, rfl, H⟩
 refine ⟨⟨q2, cut_len el1, q3, cut_bd0 el1, H.cell 2 rfl rfl, trivial⟩, fun a hE => ?_⟩
 obtain ⟨l3, el3, hm⟩ := bind_some hm
 refine WQ.eff (j := 16) (obs := []) hE (by kernel_rfl) rfl rfl rfl rfl (by kernel_rfl) (OpTo.appendM el3 hE H thicketref22_Job.enc_ok rfl rfl rfl rfl rfl rfl rfl rfl rfl rfl (SlRd.all ((sl_rd 148 thicketref22_Job.enc 6 _ _ _).cut' thicketref22_Job.enc_ok el1 ((H.slCap 4 rfl).1) q2) thicketref22_Job.enc_ok H 4 rfl) rfl) ?_
 rintro _ w ⟨sb3, sc3, rfl, H⟩
 refine ⟨trivial, fun a hE => ?_⟩
 refine WQ.d0 hE [17, 18] [(31, .pointer (some ⟨p_d, 4, none⟩))] fun a hE => ?_
 refine WQ.eff0 (j := 19) (obs := []) hE (by kernel_rfl) rfl rfl rfl (by kernel_rfl) (OpTo.store hE H.t2 rfl rfl rfl rfl rfl rfl (Nat.le_of_ble_eq_true rfl)) ?_
 rintro _ w H
 refine ⟨trivial, fun a hE => ?_⟩
 refine WQ.done (by kernel_rfl) ?_
 refine Runs.seq ?_
 refine Runs.drawn mixed (by kernel_rfl) ?_
 replace H := H.drew
 refine WQ.d hE [0, 1, 2, 3, 4, 5] [.pointer (some ⟨al_d.Pool_p, 0, none⟩), .int .i64 x.R.At, .int .i64 x.R.Gen] [(35, .pointer (some ⟨al_d.Pool_p, 0, none⟩)), (37, .agg #[.int .i64 x.R.At, .int .i64 x.R.Gen])] (obs := [.cell ⟨p_d, 3, none⟩ (.pointer (some ⟨al_d.Pool_p, 0, none⟩)), .cell ⟨r1, 4, none⟩ (.int .i64 x.R.At), .cell ⟨r1, 5, none⟩ (.int .i64 x.R.Gen)]) ⟨H.cell 0 rfl rfl, H.cell 2 rfl rfl, H.cell 2 rfl rfl, trivial⟩ fun a hE => ?_
 obtain ⟨t_, et_, hm⟩ := bind_some hm
 refine WQ.eff (j := 6) (obs := []) hE (by kernel_rfl) rfl rfl rfl rfl (by kernel_rfl) (OpTo.fn hE rfl rfl Tryz.call136 (thicketref2_Pool_Give_ok et_ H.t3)) ?_
 rintro _ w ⟨z, z1, rfl, H⟩
 refine ⟨trivial, fun a hE => ?_⟩
 refine WQ.done (by kernel_rfl) ?_
 refine Runs.sr ?_
 refine WR.d hE 1 [.int .i64 x.Queue, .int .i64 x.Data, .int .i64 x.E.Key, .int .i64 x.E.Serial, .int .i64 x.R.At, .int .i64 x.R.Gen] [(39, .agg #[.int .i64 x.Queue, .int .i64 x.Data, .int .i64 x.E.Key, .int .i64 x.E.Serial, .int .i64 x.R.At, .int .i64 x.R.Gen])] (obs := [.cell ⟨r1, 0, none⟩ (.int .i64 x.Queue), .cell ⟨r1, 1, none⟩ (.int .i64 x.Data), .cell ⟨r1, 2, none⟩ (.int .i64 x.E.Key), .cell ⟨r1, 3, none⟩ (.int .i64 x.E.Serial), .cell ⟨r1, 4, none⟩ (.int .i64 x.R.At), .cell ⟨r1, 5, none⟩ (.int .i64 x.R.Gen)]) ⟨H.cell 3 rfl rfl, H.cell 3 rfl rfl, H.cell 3 rfl rfl, H.cell 3 rfl rfl, H.cell 3 rfl rfl, H.cell 3 rfl rfl, trivial⟩ fun a hE => ?_
 refine WR.eff0 hE rfl rfl rfl (OpTo.store hE H.t5 rfl rfl rfl rfl rfl rfl (Nat.le_of_ble_eq_true rfl)) ?_
 rintro _ w H a hE
 refine WR.done rfl ?_
 refine Runs.retO (vs := [.agg #[.int .i64 x.Queue, .int .i64 x.Data, .int .i64 x.E.Key, .int .i64 x.E.Serial, .int .i64 x.R.At, .int .i64 x.R.Gen]]) (obs := [.cell ⟨r, 0, none⟩ (.int .i64 x.Queue), .cell ⟨r, 1, none⟩ (.int .i64 x.Data), .cell ⟨r, 2, none⟩ (.int .i64 x.E.Key), .cell ⟨r, 3, none⟩ (.int .i64 x.E.Serial), .cell ⟨r, 4, none⟩ (.int .i64 x.R.At), .cell ⟨r, 5, none⟩ (.int .i64 x.R.Gen)]) hE Tryz.func78 rfl [.int .i64 x.Queue, .int .i64 x.Data, .int .i64 x.E.Key, .int .i64 x.E.Serial, .int .i64 x.R.At, .int .i64 x.R.Gen] (by kernel_rfl) ⟨H.cell 0 rfl rfl, H.cell 0 rfl rfl, H.cell 0 rfl rfl, H.cell 0 rfl rfl, H.cell 0 rfl rfl, H.cell 0 rfl rfl, trivial⟩ ?_
 replace H := thicketref22_Dispatcher.shut (thicketref22_Dispatcher.A.mk al_d.Pool_p (thicketref2_Pool.A.mk al_d.Pool_a.Gens_b al_d.Pool_a.Gens_c al_d.Pool_a.In_b al_d.Pool_a.In_c al_d.Pool_a.V_b al_d.Pool_a.V_c z z1) sb3 sc3) (thicketref22_Dispatcher.mk d.Most d.Now d.Next t_.2.2 l3) H.t3.t2.t3
 cases hm
 exact ⟨thicketref2_Pool.A.mk al_d.Pool_a.Gens_b al_d.Pool_a.Gens_c al_d.Pool_a.In_b al_d.Pool_a.In_c al_d.Pool_a.V_b al_d.Pool_a.V_c z z1, sb3, sc3, rfl, H.x3.x2.x1⟩

theorem thicketref22_Dispatcher_Count_ok {w0 w : World} {As : List HP} {p_d : Nat} {al_d : thicketref22_Dispatcher.A} {d : thicketref22_Dispatcher} {queue : Int} {t : Int}  (hm : thicketref22_Dispatcher_Count d queue = some t) (H : St w0 (thicketref22_Dispatcher.R p_d al_d d :: As) w) :
    CallsR Tryz.prog 135 #[.pointer (some ⟨p_d, 0, none⟩), .int .i64 queue] w fun v w' => v = .int .i64 t ∧ St w0 (thicketref22_Dispatcher.R p_d al_d d :: As) w' := by
  rw [thicketref22_Dispatcher_Count] at hm
  cases hm

theorem thicketref22_Dispatcher_queue_ok {w0 w : World} {As : List HP} {k : Nat} {p_d : Nat} {al_d : thicketref22_Dispatcher.A} {d : thicketref22_Dispatcher} {c_ : api_Command} {t : api_Reply × thicketref22_Dispatcher}  (hm : thicketref22_Dispatcher_queue k d c_ = some t) (H : St w0 (thicketref22_Dispatcher.R p_d al_d d :: As) w) :
    CallsR Tryz.prog 75 #[.pointer (some ⟨p_d, 0, none⟩), .agg #[.int .i64 c_.Kind, .int .i64 c_.Queue, .int .i64 c_.Job.At, .int .i64 c_.Job.Gen, .int .i64 c_.Time, .int .i64 c_.Data]] w fun v w' => ∃ (z_d_Pool_a : thicketref2_Pool.A), ∃ (z_d_L_b : Option Addr), ∃ (z_d_L_c : Nat), v = .agg #[.int .i64 t.1.Why, .int .i64 t.1.Job.At, .int .i64 t.1.Job.Gen, .int .i64 t.1.Time, .int .i64 t.1.Data, .int .i64 t.1.N] ∧ St w0 (thicketref22_Dispatcher.R p_d (thicketref22_Dispatcher.A.mk al_d.Pool_p z_d_Pool_a z_d_L_b z_d_L_c) t.2 :: As) w' := by
 rw [thicketref22_Dispatcher_queue] at hm
 refine enter (args := [.pointer (some ⟨p_d, 0, none⟩), .agg #[.int .i64 c_.Kind, .int .i64 c_.Queue, .int .i64 c_.Job.At, .int .i64 c_.Job.Gen, .int .i64 c_.Time, .int .i64 c_.Data]]) Tryz.func75 rfl rfl rfl fun a hE => ?_
 refine Runs.sr ?_
 refine WR.eff hE rfl rfl rfl rfl (OpTo.new hE H [] (.cells #[.int .i64 c_.Kind, .int .i64 c_.Queue, .int .i64 c_.Job.At, .int .i64 c_.Job.Gen, .int .i64 c_.Time, .int .i64 c_.Data] 28 (0, 0)) (fun r => .pointer (some ⟨r, 0, none⟩)) (obs := []) rfl (fun _ => by kernel_rfl) trivial) ?_
 rintro _ w ⟨r, rfl, H⟩ a hE
 refine WR.eff hE rfl rfl rfl rfl (OpTo.new hE H [] (.cells #[.int .i64 0, .int .i64 0, .int .i64 0, .int .i64 0, .int .i64 0, .int .i64 0] 60 (0, 0)) (fun r => .pointer (some ⟨r, 0, none⟩)) (obs := []) rfl (fun _ => by kernel_rfl) trivial) ?_
 rintro _ w ⟨r1, rfl, H⟩ a hE
 refine WR.done rfl ?_
 refine Runs.seq ?_
 refine Runs.sr ?_
 refine WR.seg hE 2 [.int .i64 c_.Kind] [0, 3, 4, 12] (Lo := [(0, .pointer (some ⟨p_d, 0, none⟩)), (3, .pointer (some ⟨r, 0, none⟩)), (4, .pointer (some ⟨r1, 0, none⟩)), (12, .int .i64 c_.Kind)]) (obs := [.cell ⟨r, 0, none⟩ (.int .i64 c_.Kind)]) rfl (by kernel_rfl) ⟨H.cell 1 rfl rfl, trivial⟩ fun a hE => ?_
 refine WR.done rfl ?_
 refine Runs.block ?_
 refine Runs.sr ?_
 refine WR.e0 hE [(13, .bool (c_.Kind == 1))] fun a hE => ?_
 refine Runs.cond hE rfl (fun c => ?_) (fun c => ?_)
 ·replace hm := cond_t c hm
  refine Runs.sr ?_
  replace H := thicketref22_Dispatcher.open H.t2
  refine WR.d hE 4 [.pointer (some ⟨al_d.Pool_p, 0, none⟩)] [(19, .pointer (some ⟨al_d.Pool_p, 0, none⟩))] (obs := [.cell ⟨p_d, 3, none⟩ (.pointer (some ⟨al_d.Pool_p, 0, none⟩))]) ⟨H.cell 0 rfl rfl, trivial⟩ fun a hE => ?_
  obtain ⟨t_, et_, hm⟩ := bind_some hm
  refine WR.eff hE rfl rfl rfl rfl (OpTo.fn hE rfl rfl Tryz.call133 (thicketref2_Pool_Take_ok et_ H.t1)) ?_
  rintro _ w ⟨z, z1, z2, z3, z4, z5, z6, z7, rfl, H⟩ a hE
  refine WR.d0 hE 8 [(21, .agg #[.int .i64 t_.1.At, .int .i64 t_.1.Gen]), (22, .bool t_.2.1)] fun a hE => ?_
  refine WR.eff hE rfl rfl rfl rfl (OpTo.new hE H [] (.cells #[.int .i64 0, .int .i64 0] 26 (0, 0)) (fun r => .pointer (some ⟨r, 0, none⟩)) (obs := []) rfl (fun _ => by kernel_rfl) trivial) ?_
  rintro _ w ⟨r2, rfl, H⟩ a hE
  refine WR.eff0 hE rfl rfl rfl (OpTo.store hE H rfl rfl rfl rfl rfl rfl (Nat.le_of_ble_eq_true rfl)) ?_
  rintro _ w H a hE
  refine WR.e0 hE [(6, .bool t_.2.1)] fun a hE => ?_
  refine Runs.seq ?_
  refine Runs.sr ?_
  refine WR.e0 hE [(24, .bool (!t_.2.1))] fun a hE => ?_
  refine Runs.cond hE rfl (fun c => ?_) (fun c => ?_)
  ·replace hm := cond_t c hm
   refine Runs.sr ?_
   refine WR.d0 hE 1 [(25, .agg #[.int .i64 13, .int .i64 0, .int .i64 0, .int .i64 0, .int .i64 0, .int .i64 0])] fun a hE => ?_
   refine WR.eff0 hE rfl rfl rfl (OpTo.store hE H.t4 rfl rfl rfl rfl rfl rfl (Nat.le_of_ble_eq_true rfl)) ?_
   rintro _ w H a hE
   refine WR.done rfl ?_
   refine Runs.retO (vs := [.agg #[.int .i64 13, .int .i64 0, .int .i64 0, .int .i64 0, .int .i64 0, .int .i64 0]]) (obs := [.cell ⟨r1, 0, none⟩ (.int .i64 13), .cell ⟨r1, 1, none⟩ (.int .i64 0), .cell ⟨r1, 2, none⟩ (.int .i64 0), .cell ⟨r1, 3, none⟩ (.int .i64 0), .cell ⟨r1, 4, none⟩ (.int .i64 0), .cell ⟨r1, 5, none⟩ (.int .i64 0)]) hE Tryz.func75 rfl [.int .i64 13, .int .i64 0, .int .i64 0, .int .i64 0, .int .i64 0, .int .i64 0] (by kernel_rfl) ⟨H.cell 0 rfl rfl, H.cell 0 rfl rfl, H.cell 0 rfl rfl, H.cell 0 rfl rfl, H.cell 0 rfl rfl, H.cell 0 rfl rfl, trivial⟩ ?_
   replace H := thicketref22_Dispatcher.shut (thicketref22_Dispatcher.A.mk al_d.Pool_p (thicketref2_Pool.A.mk z z1 z2 z3 z4 z5 z6 z7) al_d.L_b al_d.L_c) (thicketref22_Dispatcher.mk d.Most d.Now d.Next t_.2.2 d.L) H.t4.t3.t4
   cases hm
   exact ⟨thicketref2_Pool.A.mk z z1 z2 z3 z4 z5 z6 z7, al_d.L_b, al_d.L_c, rfl, H.x3.x2.x1⟩
  ·replace hm := cond_f c hm
   refine Runs.skip ?_
   refine Runs.seq ?_
   replace H := thicketref22_Dispatcher.shut (thicketref22_Dispatcher.A.mk al_d.Pool_p (thicketref2_Pool.A.mk z z1 z2 z3 z4 z5 z6 z7) al_d.L_b al_d.L_c) (thicketref22_Dispatcher.mk d.Most d.Now d.Next t_.2.2 d.L) H.t3.t2.t3
   obtain ⟨l, el, hm⟩ := bind_some hm
   obtain ⟨l1, el1, hm⟩ := bind_some hm
   refine Runs.join (fun a w => ∃ (z8 : Option Addr), ∃ (z9 : Nat), EnvOk 139 a [(0, .pointer (some ⟨p_d, 0, none⟩)), (3, .pointer (some ⟨r, 0, none⟩)), (4, .pointer (some ⟨r1, 0, none⟩)), (5, .pointer (some ⟨r2, 0, none⟩))] ∧ St w0 (thicketref22_Dispatcher.R p_d (thicketref22_Dispatcher.A.mk al_d.Pool_p (thicketref2_Pool.A.mk z z1 z2 z3 z4 z5 z6 z7) z8 z9) (thicketref22_Dispatcher.mk d.Most d.Now d.Next t_.2.2 l1) :: Blk r2 26 [.int .i64 t_.1.At, .int .i64 t_.1.Gen] :: Blk r1 60 [.int .i64 0, .int .i64 0, .int .i64 0, .int .i64 0, .int .i64 0, .int .i64 0] :: Blk r 28 [.int .i64 c_.Kind, .int .i64 c_.Queue, .int .i64 c_.Job.At, .int .i64 c_.Job.Gen, .int .i64 c_.Time, .int .i64 c_.Data] :: As) w) (fun hk => ?_) ?_
   ·refine Runs.drawn mixed (by kernel_rfl) ?_
    replace H := H.drew
    replace H := thicketref22_Dispatcher.open H
    try dsimp only at H
    refine WQ.d hE [0, 2, 3, 4, 5, 7, 8, 9, 10, 11, 12, 13, 14, 15, 16, 17, 18, 19] [.slice al_d.L_b d.L.length al_d.L_c, .int .i64 c_.Queue, .int .i64 c_.Data, .int .i64 c_.Time, .int .i64 d.Next, .int .i64 t_.1.At, .int .i64 t_.1.Gen] [(26, .pointer (some ⟨p_d, 0, none⟩)), (31, .slice al_d.L_b d.L.length al_d.L_c), (45, .agg #[.int .i64 c_.Queue, .int .i64 c_.Data, .int .i64 c_.Time, .int .i64 d.Next, .int .i64 t_.1.At, .int .i64 t_.1.Gen])] (obs := [.cell ⟨p_d, 4, none⟩ (.slice al_d.L_b d.L.length al_d.L_c), .cell ⟨r, 1, none⟩ (.int .i64 c_.Queue), .cell ⟨r, 5, none⟩ (.int .i64 c_.Data), .cell ⟨r, 4, none⟩ (.int .i64 c_.Time), .cell ⟨p_d, 2, none⟩ (.int .i64 d.Next), .cell ⟨r2, 0, none⟩ (.int .i64 t_.1.At), .cell ⟨r2, 1, none⟩ (.int .i64 t_.1.Gen)]) ⟨H.cell 0 rfl rfl, H.cell 5 rfl rfl, H.cell 5 rfl rfl, H.cell 5 rfl rfl, H.cell 0 rfl rfl, H.cell 3 rfl rfl, H.cell 3 rfl rfl, trivial⟩ fun a hE => ?_
    refine WQ.act2 1 20 (by kernel_rfl) ?_ ?_
    ·refine AQ.eff (j := 1) (obs := [.cell ⟨r2, 0, none⟩ (.int .i64 t_.1.At), .cell ⟨r2, 1, none⟩ (.int .i64 t_.1.Gen), .cell ⟨p_d, 2, none⟩ (.int .i64 d.Next), .cell ⟨r, 4, none⟩ (.int .i64 c_.Time), .cell ⟨r, 5, none⟩ (.int .i64 c_.Data), .cell ⟨r, 1, none⟩ (.int .i64 c_.Queue), .cell ⟨p_d, 4, none⟩ (.slice al_d.L_b d.L.length al_d.L_c)]) hE rfl rfl rfl rfl (by kernel_rfl) (OpTo.buildSl (T := 148) hE H thicketref22_Job.enc_ok ([] : List thicketref22_Job) rfl (fun _ => by kernel_rfl) rfl rfl rfl) ?_
     rintro _ w ⟨r5, rfl, H⟩
     refine ⟨⟨H.cell 4 rfl rfl, H.cell 4 rfl rfl, H.cell 1 rfl rfl, H.cell 6 rfl rfl, H.cell 6 rfl rfl, H.cell 6 rfl rfl, H.cell 1 rfl rfl, trivial⟩, fun a hE => ?_⟩
     refine WQ.act2 6 20 (by kernel_rfl) ?_ ?_
     ·refine AQ.eff (j := 6) (obs := [.cell ⟨r2, 0, none⟩ (.int .i64 t_.1.At), .cell ⟨r2, 1, none⟩ (.int .i64 t_.1.Gen), .cell ⟨p_d, 2, none⟩ (.int .i64 d.Next), .cell ⟨r, 4, none⟩ (.int .i64 c_.Time), .cell ⟨r, 5, none⟩ (.int .i64 c_.Data), .cell ⟨r, 1, none⟩ (.int .i64 c_.Queue)]) hE rfl rfl rfl rfl (by kernel_rfl) (OpTo.appendM el hE H thicketref22_Job.enc_ok rfl rfl rfl rfl rfl rfl rfl rfl rfl rfl (SlRd.all (sl_rd 148 thicketref22_Job.enc 6 _ _ _) thicketref22_Job.enc_ok H 3 rfl) rfl) ?_
      rintro _ w ⟨sb2, sc2, rfl, H⟩
      refine ⟨⟨H.cell 4 rfl rfl, H.cell 4 rfl rfl, H.cell 1 rfl rfl, H.cell 6 rfl rfl, H.cell 6 rfl rfl, H.cell 6 rfl rfl, trivial⟩, fun a hE => ?_⟩
      refine WQ.eff (j := 20) (obs := []) hE (by kernel_rfl) rfl rfl rfl rfl (by kernel_rfl) (OpTo.buildSl (T := 148) hE H thicketref22_Job.enc_ok ([thicketref22_Job.mk c_.Queue c_.Data (api_Entry.mk c_.Time d.Next) t_.1] : List thicketref22_Job) rfl (fun _ => by kernel_rfl) rfl rfl rfl) ?_
      rintro _ w ⟨r6, rfl, H⟩
      refine ⟨trivial, fun a hE => ?_⟩
      replace H := H.t1
      refine WQ.eff (j := 21) (obs := []) hE (by kernel_rfl) rfl rfl rfl rfl (by kernel_rfl) (OpTo.appendM el1 hE H thicketref22_Job.enc_ok rfl rfl rfl rfl rfl rfl rfl rfl rfl rfl (SlRd.all (sl_rd 148 thicketref22_Job.enc 6 _ _ _) thicketref22_Job.enc_ok H 1 rfl) rfl) ?_
      rintro _ w ⟨sb3, sc3, rfl, H⟩
      refine ⟨trivial, fun a hE => ?_⟩
      refine WQ.d0 hE [22, 23] [(49, .pointer (some ⟨p_d, 4, none⟩))] fun a hE => ?_
      refine WQ.eff0 (j := 24) (obs := []) hE (by kernel_rfl) rfl rfl rfl (by kernel_rfl) (OpTo.store hE H.t2 rfl rfl rfl rfl rfl rfl (Nat.le_of_ble_eq_true rfl)) ?_
      rintro _ w H
      refine ⟨trivial, fun a hE => ?_⟩
      refine WQ.done (by kernel_rfl) ?_
      replace H := thicketref22_Dispatcher.shut (thicketref22_Dispatcher.A.mk al_d.Pool_p (thicketref2_Pool.A.mk z z1 z2 z3 z4 z5 z6 z7) sb3 sc3) (thicketref22_Dispatcher.mk d.Most d.Now d.Next t_.2.2 l1) H.t1.t3.t2
      exact hk _ _ ⟨sb3, sc3, hE.sel [0, 3, 4, 5] (by kernel_rfl), H.x2.x1.t3.t3.t3.t3⟩
     ·refine AQ.eff (j := 20) (obs := [.cell ⟨p_d, 4, none⟩ (.slice al_d.L_b d.L.length al_d.L_c)]) hE rfl rfl rfl rfl (by kernel_rfl) (OpTo.buildSl (T := 148) hE H thicketref22_Job.enc_ok ([thicketref22_Job.mk c_.Queue c_.Data (api_Entry.mk c_.Time d.Next) t_.1] : List thicketref22_Job) rfl (fun _ => by kernel_rfl) rfl rfl rfl) ?_
      rintro _ w ⟨r7, rfl, H⟩
      refine ⟨⟨H.cell 2 rfl rfl, trivial⟩, fun a hE => ?_⟩
      replace H := H.t1
      refine WQ.eff (j := 6) (obs := []) hE (by kernel_rfl) rfl rfl rfl rfl (by kernel_rfl) (OpTo.appendM el hE H thicketref22_Job.enc_ok rfl rfl rfl rfl rfl rfl rfl rfl rfl rfl (SlRd.all (sl_rd 148 thicketref22_Job.enc 6 _ _ _) thicketref22_Job.enc_ok H 4 rfl) rfl) ?_
      rintro _ w ⟨sb4, sc4, rfl, H⟩
      refine ⟨trivial, fun a hE => ?_⟩
      refine WQ.eff (j := 21) (obs := []) hE (by kernel_rfl) rfl rfl rfl rfl (by kernel_rfl) (OpTo.appendM el1 hE H thicketref22_Job.enc_ok rfl rfl rfl rfl rfl rfl rfl rfl rfl rfl (SlRd.all (sl_rd 148 thicketref22_Job.enc 6 _ _ _) thicketref22_Job.enc_ok H 1 rfl) rfl) ?_
      rintro _ w ⟨sb5, sc5, rfl, H⟩
      refine ⟨trivial, fun a hE => ?_⟩
      refine WQ.d0 hE [22, 23] [(49, .pointer (some ⟨p_d, 4, none⟩))] fun a hE => ?_
      refine WQ.eff0 (j := 24) (obs := []) hE (by kernel_rfl) rfl rfl rfl (by kernel_rfl) (OpTo.store hE H.t2 rfl rfl rfl rfl rfl rfl (Nat.le_of_ble_eq_true rfl)) ?_
      rintro _ w H
      refine ⟨trivial, fun a hE => ?_⟩
      refine WQ.done (by kernel_rfl) ?_
      replace H := thicketref22_Dispatcher.shut (thicketref22_Dispatcher.A.mk al_d.Pool_p (thicketref2_Pool.A.mk z z1 z2 z3 z4 z5 z6 z7) sb5 sc5) (thicketref22_Dispatcher.mk d.Most d.Now d.Next t_.2.2 l1) H.t1.t3.t2
      exact hk _ _ ⟨sb5, sc5, hE.sel [0, 3, 4, 5] (by kernel_rfl), H.x2.x1.t3.t3.t3.t3⟩
    ·refine AQ.eff (j := 20) (obs := [.cell ⟨p_d, 4, none⟩ (.slice al_d.L_b d.L.length al_d.L_c)]) hE rfl rfl rfl rfl (by kernel_rfl) (OpTo.buildSl (T := 148) hE H thicketref22_Job.enc_ok ([thicketref22_Job.mk c_.Queue c_.Data (api_Entry.mk c_.Time d.Next) t_.1] : List thicketref22_Job) rfl (fun _ => by kernel_rfl) rfl rfl rfl) ?_
     rintro _ w ⟨r8, rfl, H⟩
     refine ⟨⟨H.cell 1 rfl rfl, trivial⟩, fun a hE => ?_⟩
     refine WQ.eff (j := 1) (obs := [.cell ⟨p_d, 4, none⟩ (.slice al_d.L_b d.L.length al_d.L_c)]) hE (by kernel_rfl) rfl rfl rfl rfl (by kernel_rfl) (OpTo.buildSl (T := 148) hE H thicketref22_Job.enc_ok ([] : List thicketref22_Job) rfl (fun _ => by kernel_rfl) rfl rfl rfl) ?_
     rintro _ w ⟨r9, rfl, H⟩
     refine ⟨⟨H.cell 2 rfl rfl, trivial⟩, fun a hE => ?_⟩
     refine WQ.eff (j := 6) (obs := []) hE (by kernel_rfl) rfl rfl rfl rfl (by kernel_rfl) (OpTo.appendM el hE H thicketref22_Job.enc_ok rfl rfl rfl rfl rfl rfl rfl rfl rfl rfl (SlRd.all (sl_rd 148 thicketref22_Job.enc 6 _ _ _) thicketref22_Job.enc_ok H 4 rfl) rfl) ?_
     rintro _ w ⟨sb6, sc6, rfl, H⟩
     refine ⟨trivial, fun a hE => ?_⟩
     refine WQ.eff (j := 21) (obs := []) hE (by kernel_rfl) rfl rfl rfl rfl (by kernel_rfl) (OpTo.appendM el1 hE H thicketref22_Job.enc_ok rfl rfl rfl rfl rfl rfl rfl rfl rfl rfl (SlRd.all (sl_rd 148 thicketref22_Job.enc 6 _ _ _) thicketref22_Job.enc_ok H 1 rfl) rfl) ?_
     rintro _ w ⟨sb7, sc7, rfl, H⟩
     refine ⟨trivial, fun a hE => ?_⟩
     refine WQ.d0 hE [22, 23] [(49, .pointer (some ⟨p_d, 4, none⟩))] fun a hE => ?_
     refine WQ.eff0 (j := 24) (obs := []) hE (by kernel_rfl) rfl rfl rfl (by kernel_rfl) (OpTo.store hE H.t2 rfl rfl rfl rfl rfl rfl (Nat.le_of_ble_eq_true rfl)) ?_
     rintro _ w H
     refine ⟨trivial, fun a hE => ?_⟩
     refine WQ.done (by kernel_rfl) ?_
     replace H := thicketref22_Dispatcher.shut (thicketref22_Dispatcher.A.mk al_d.Pool_p (thicketref2_Pool.A.mk z z1 z2 z3 z4 z5 z6 z7) sb7 sc7) (thicketref22_Dispatcher.mk d.Most d.Now d.Next t_.2.2 l1) H.t1.t3.t2
     exact hk _ _ ⟨sb7, sc7, hE.sel [0, 3, 4, 5] (by kernel_rfl), H.x2.x1.t3.t3.t3.t3⟩
   rintro a w ⟨z8, z9, hE, H⟩
   refine Runs.sr ?_
   replace H := thicketref22_Dispatcher.open H
   try dsimp only at H
   refine WR.seg hE 7 [.int .i64 ((thicketref22_Dispatcher.mk d.Most d.Now d.Next t_.2.2 l1).Next)] [3, 4, 5, 54, 56] (Lo := [(3, .pointer (some ⟨r, 0, none⟩)), (4, .pointer (some ⟨r1, 0, none⟩)), (5, .pointer (some ⟨r2, 0, none⟩)), (54, .int .i64 (w64 (((thicketref22_Dispatcher.mk d.Most d.Now d.Next t_.2.2 l1).Next) + 1))), (56, .pointer (some ⟨p_d, 2, none⟩))]) (obs := [.cell ⟨p_d, 2, none⟩ (.int .i64 ((thicketref22_Dispatcher.mk d.Most d.Now d.Next t_.2.2 l1).Next))]) rfl (by kernel_rfl) ⟨H.cell 0 rfl rfl, trivial⟩ fun a hE => ?_
   refine WR.eff0 hE rfl rfl rfl (OpTo.store hE H rfl rfl rfl rfl rfl rfl (Nat.le_of_ble_eq_true rfl)) ?_
   rintro _ w H a hE
   refine WR.done rfl ?_
   refine Runs.sr ?_
   refine WR.d hE 6 [.int .i64 t_.1.At, .int .i64 t_.1.Gen, .int .i64 c_.Time, .int .i64 c_.Data] [(62, .agg #[.int .i64 0, .int .i64 t_.1.At, .int .i64 t_.1.Gen, .int .i64 c_.Time, .int .i64 c_.Data, .int .i64 0])] (obs := [.cell ⟨r2, 0, none⟩ (.int .i64 t_.1.At), .cell ⟨r2, 1, none⟩ (.int .i64 t_.1.Gen), .cell ⟨r, 4, none⟩ (.int .i64 c_.Time), .cell ⟨r, 5, none⟩ (.int .i64 c_.Data)]) ⟨H.cell 3 rfl rfl, H.cell 3 rfl rfl, H.cell 5 rfl rfl, H.cell 5 rfl rfl, trivial⟩ fun a hE => ?_
   refine WR.eff0 hE rfl rfl rfl (OpTo.store hE H.t4 rfl rfl rfl rfl rfl rfl (Nat.le_of_ble_eq_true rfl)) ?_
   rintro _ w H a hE
   refine WR.done rfl ?_
   refine Runs.retO (vs := [.agg #[.int .i64 0, .int .i64 t_.1.At, .int .i64 t_.1.Gen, .int .i64 c_.Time, .int .i64 c_.Data, .int .i64 0]]) (obs := [.cell ⟨r1, 0, none⟩ (.int .i64 0), .cell ⟨r1, 1, none⟩ (.int .i64 t_.1.At), .cell ⟨r1, 2, none⟩ (.int .i64 t_.1.Gen), .cell ⟨r1, 3, none⟩ (.int .i64 c_.Time), .cell ⟨r1, 4, none⟩ (.int .i64 c_.Data), .cell ⟨r1, 5, none⟩ (.int .i64 0)]) hE Tryz.func75 rfl [.int .i64 0, .int .i64 t_.1.At, .int .i64 t_.1.Gen, .int .i64 c_.Time, .int .i64 c_.Data, .int .i64 0] (by kernel_rfl) ⟨H.cell 0 rfl rfl, H.cell 0 rfl rfl, H.cell 0 rfl rfl, H.cell 0 rfl rfl, H.cell 0 rfl rfl, H.cell 0 rfl rfl, trivial⟩ ?_
   replace H := thicketref22_Dispatcher.shut (thicketref22_Dispatcher.A.mk al_d.Pool_p (thicketref2_Pool.A.mk z z1 z2 z3 z4 z5 z6 z7) z8 z9) (thicketref22_Dispatcher.mk ((thicketref22_Dispatcher.mk d.Most d.Now d.Next t_.2.2 l1).Most) ((thicketref22_Dispatcher.mk d.Most d.Now d.Next t_.2.2 l1).Now) (w64 (((thicketref22_Dispatcher.mk d.Most d.Now d.Next t_.2.2 l1).Next) + 1)) ((thicketref22_Dispatcher.mk d.Most d.Now d.Next t_.2.2 l1).Pool) ((thicketref22_Dispatcher.mk d.Most d.Now d.Next t_.2.2 l1).L)) H.t3.t3.t3
   cases hm
   exact ⟨thicketref2_Pool.A.mk z z1 z2 z3 z4 z5 z6 z7, z8, z9, rfl, H.x3.x2.x1⟩
 ·replace hm := cond_f c hm
  refine Runs.sr ?_
  refine WR.e0 hE [(63, .bool (c_.Kind == 5))] fun a hE => ?_
  refine Runs.cond hE rfl (fun c => ?_) (fun c => ?_)
  ·replace hm := cond_t c hm
   refine Runs.sr ?_
   refine WR.d hE 3 [.int .i64 c_.Queue] [(65, .pointer (some ⟨p_d, 0, none⟩)), (67, .int .i64 c_.Queue)] (obs := [.cell ⟨r, 1, none⟩ (.int .i64 c_.Queue)]) ⟨H.cell 1 rfl rfl, trivial⟩ fun a hE => ?_
   obtain ⟨t_1, et_1, hm⟩ := bind_some hm
   refine WR.eff hE rfl rfl rfl rfl (OpTo.fn hE rfl rfl Tryz.call134 (thicketref22_Dispatcher_first_ok et_1 H.t2)) ?_
   rintro _ w ⟨rfl, H⟩ a hE
   refine WR.e0 hE [(7, .int .i64 t_1)] fun a hE => ?_
   refine Runs.seq ?_
   refine Runs.seq ?_
   obtain ⟨s, es, hm⟩ := bind_some hm
   refine Runs.join (fun a w => EnvOk 139 a [(0, .pointer (some ⟨p_d, 0, none⟩)), (4, .pointer (some ⟨r1, 0, none⟩)), (7, .int .i64 t_1), (86, .bool s)] ∧ St w0 (thicketref22_Dispatcher.R p_d al_d d :: Blk r1 60 [.int .i64 0, .int .i64 0, .int .i64 0, .int .i64 0, .int .i64 0, .int .i64 0] :: As) w) (fun hk => ?_) ?_
   ·replace hm := es; clear es
    refine Runs.drawn mixed (by kernel_rfl) ?_
    replace H := H.drew
    refine WQ.d0 hE [0, 1, 2] [(71, .bool (decide (t_1 < 0)))] fun a hE => ?_
    rcases Bool.eq_false_or_eq_true (decide (t_1 < 0)) with c | c
    ·replace hE := hE.dec 71 c (by kernel_rfl)
     replace hm := cond_t c hm
     have c_1 := c
     refine WQ.d0 hE [3, 4, 5, 6, 7, 8, 9, 10, 11, 12, 13, 14, 15, 16, 17] [(86, .bool true)] fun a hE => ?_
     refine WQ.done (by kernel_rfl) ?_
     cases hm
     exact hk _ _ ⟨hE.sel [0, 4, 7, 86] (by kernel_rfl), H.x2.t1.t1⟩
    ·replace hE := hE.dec 71 c (by kernel_rfl)
     replace hm := cond_f c hm
     have c_2 := c
     replace H := thicketref22_Dispatcher.open H
     obtain ⟨x1, ex1, hm⟩ := bind_some hm
     obtain ⟨b1, o1, hs1, hb1⟩ := SlRd.base (sl_rd 148 thicketref22_Job.enc 6 _ _ _) thicketref22_Job.enc_ok H 2 rfl ex1
     refine WQ.d hE [3, 4, 5, 6, 7, 8, 9, 10, 11, 12, 13, 14, 15, 16, 17] [.slice al_d.L_b d.L.length al_d.L_c, .pointer (some ⟨b1, o1, none⟩), .int .i64 x1.E.Key, .int .i64 d.Now] [(86, .bool (decide (x1.E.Key > d.Now)))] (obs := [.cell ⟨p_d, 4, none⟩ (.slice al_d.L_b d.L.length al_d.L_c), .p ((al_d.L_b : Option Addr) = some ⟨b1, o1, none⟩), .p (0 ≤ (t_1 : Int) ∧ (t_1 : Int) < ((d.L.length : Nat) : Int)), .cell ⟨b1, o1 + (Int.toNat t_1) * 6 + 2, none⟩ (.int .i64 x1.E.Key), .cell ⟨p_d, 1, none⟩ (.int .i64 d.Now)]) ⟨H.cell 0 rfl rfl, hs1, hb1, SlRd.cells (sl_rd 148 thicketref22_Job.enc 6 _ _ _) thicketref22_Job.enc_ok H 2 rfl hs1 ex1 2 _ rfl, H.cell 0 rfl rfl, trivial⟩ fun a hE => ?_
     refine WQ.done (by kernel_rfl) ?_
     replace H := thicketref22_Dispatcher.shut al_d (d) H.t2.t2.t2
     cases hm
     exact hk _ _ ⟨hE.sel [0, 4, 7, 86] (by kernel_rfl), H.x2.t1.t1⟩
   rintro a w ⟨hE, H⟩
   refine Runs.cond hE rfl (fun c => ?_) (fun c => ?_)
   ·replace hm := cond_t c hm
    refine Runs.sr ?_
    refine WR.seg hE 1 [] [4, 87] (Lo := [(4, .pointer (some ⟨r1, 0, none⟩)), (87, .agg #[.int .i64 28, .int .i64 0, .int .i64 0, .int .i64 0, .int .i64 0, .int .i64 0])]) (obs := []) rfl (by kernel_rfl) trivial fun a hE => ?_
    refine WR.eff0 hE rfl rfl rfl (OpTo.store hE H.t1 rfl rfl rfl rfl rfl rfl (Nat.le_of_ble_eq_true rfl)) ?_
    rintro _ w H a hE
    refine WR.done rfl ?_
    refine Runs.retO (vs := [.agg #[.int .i64 28, .int .i64 0, .int .i64 0, .int .i64 0, .int .i64 0, .int .i64 0]]) (obs := [.cell ⟨r1, 0, none⟩ (.int .i64 28), .cell ⟨r1, 1, none⟩ (.int .i64 0), .cell ⟨r1, 2, none⟩ (.int .i64 0), .cell ⟨r1, 3, none⟩ (.int .i64 0), .cell ⟨r1, 4, none⟩ (.int .i64 0), .cell ⟨r1, 5, none⟩ (.int .i64 0)]) hE Tryz.func75 rfl [.int .i64 28, .int .i64 0, .int .i64 0, .int .i64 0, .int .i64 0, .int .i64 0] (by kernel_rfl) ⟨H.cell 0 rfl rfl, H.cell 0 rfl rfl, H.cell 0 rfl rfl, H.cell 0 rfl rfl, H.cell 0 rfl rfl, H.cell 0 rfl rfl, trivial⟩ ?_
    cases hm
    exact ⟨al_d.Pool_a, al_d.L_b, al_d.L_c, rfl, H.x0⟩
   ·replace hm := cond_f c hm
    refine Runs.skip ?_
    refine Runs.sr ?_
    refine WR.seg hE 2 [] [4, 88, 89] (Lo := [(4, .pointer (some ⟨r1, 0, none⟩)), (88, .pointer (some ⟨p_d, 0, none⟩)), (89, .int .i64 t_1)]) (obs := []) rfl (by kernel_rfl) trivial fun a hE => ?_
    obtain ⟨t_2, et_2, hm⟩ := bind_some hm
    refine WR.eff hE rfl rfl rfl rfl (OpTo.fn hE rfl rfl Tryz.call78 (thicketref22_Dispatcher_out_ok et_2 H)) ?_
    rintro _ w ⟨z10, z11, z12, rfl, H⟩ a hE
    refine WR.eff hE rfl rfl rfl rfl (OpTo.new hE H [] (.cells #[.int .i64 0, .int .i64 0, .int .i64 0, .int .i64 0, .int .i64 0, .int .i64 0] 148 (0, 0)) (fun r => .pointer (some ⟨r, 0, none⟩)) (obs := []) rfl (fun _ => by kernel_rfl) trivial) ?_
    rintro _ w ⟨r10, rfl, H⟩ a hE
    refine WR.eff0 hE rfl rfl rfl (OpTo.store hE H rfl rfl rfl rfl rfl rfl (Nat.le_of_ble_eq_true rfl)) ?_
    rintro _ w H a hE
    refine WR.done rfl ?_
    refine Runs.sr ?_
    refine WR.d hE 8 [.int .i64 t_2.1.R.At, .int .i64 t_2.1.R.Gen, .int .i64 t_2.1.E.Key, .int .i64 t_2.1.Data] [(98, .agg #[.int .i64 0, .int .i64 t_2.1.R.At, .int .i64 t_2.1.R.Gen, .int .i64 t_2.1.E.Key, .int .i64 t_2.1.Data, .int .i64 0])] (obs := [.cell ⟨r10, 4, none⟩ (.int .i64 t_2.1.R.At), .cell ⟨r10, 5, none⟩ (.int .i64 t_2.1.R.Gen), .cell ⟨r10, 2, none⟩ (.int .i64 t_2.1.E.Key), .cell ⟨r10, 1, none⟩ (.int .i64 t_2.1.Data)]) ⟨H.cell 0 rfl rfl, H.cell 0 rfl rfl, H.cell 0 rfl rfl, H.cell 0 rfl rfl, trivial⟩ fun a hE => ?_
    refine WR.eff0 hE rfl rfl rfl (OpTo.store hE H.t2 rfl rfl rfl rfl rfl rfl (Nat.le_of_ble_eq_true rfl)) ?_
    rintro _ w H a hE
    refine WR.done rfl ?_
    refine Runs.retO (vs := [.agg #[.int .i64 0, .int .i64 t_2.1.R.At, .int .i64 t_2.1.R.Gen, .int .i64 t_2.1.E.Key, .int .i64 t_2.1.Data, .int .i64 0]]) (obs := [.cell ⟨r1, 0, none⟩ (.int .i64 0), .cell ⟨r1, 1, none⟩ (.int .i64 t_2.1.R.At), .cell ⟨r1, 2, none⟩ (.int .i64 t_2.1.R.Gen), .cell ⟨r1, 3, none⟩ (.int .i64 t_2.1.E.Key), .cell ⟨r1, 4, none⟩ (.int .i64 t_2.1.Data), .cell ⟨r1, 5, none⟩ (.int .i64 0)]) hE Tryz.func75 rfl [.int .i64 0, .int .i64 t_2.1.R.At, .int .i64 t_2.1.R.Gen, .int .i64 t_2.1.E.Key, .int .i64 t_2.1.Data, .int .i64 0] (by kernel_rfl) ⟨H.cell 0 rfl rfl, H.cell 0 rfl rfl, H.cell 0 rfl rfl, H.cell 0 rfl rfl, H.cell 0 rfl rfl, H.cell 0 rfl rfl, trivial⟩ ?_
    cases hm
    exact ⟨z10, z11, z12, rfl, H.x1.x0⟩
  ·replace hm := cond_f c hm
   refine Runs.sr ?_
   refine WR.e0 hE [(99, .bool (c_.Kind == 6))] fun a hE => ?_
   refine Runs.cond hE rfl (fun c => ?_) (fun c => ?_)
   ·replace hm := cond_t c hm
    refine Runs.seq ?_
    refine Runs.sr ?_
    refine WR.e hE [.int .i64 c_.Queue] [(103, .bool (c_.Queue == 0))] (obs := [.cell ⟨r, 1, none⟩ (.int .i64 c_.Queue)]) ⟨H.cell 1 rfl rfl, trivial⟩ fun a hE => ?_
    refine Runs.cond hE rfl (fun c => ?_) (fun c => ?_)
    ·replace hm := cond_t c hm
     refine Runs.sr ?_
     refine WR.d0 hE 1 [(104, .agg #[.int .i64 25, .int .i64 0, .int .i64 0, .int .i64 0, .int .i64 0, .int .i64 0])] fun a hE => ?_
     refine WR.eff0 hE rfl rfl rfl (OpTo.store hE H rfl rfl rfl rfl rfl rfl (Nat.le_of_ble_eq_true rfl)) ?_
     rintro _ w H a hE
     refine WR.done rfl ?_
     refine Runs.retO (vs := [.agg #[.int .i64 25, .int .i64 0, .int .i64 0, .int .i64 0, .int .i64 0, .int .i64 0]]) (obs := [.cell ⟨r1, 0, none⟩ (.int .i64 25), .cell ⟨r1, 1, none⟩ (.int .i64 0), .cell ⟨r1, 2, none⟩ (.int .i64 0), .cell ⟨r1, 3, none⟩ (.int .i64 0), .cell ⟨r1, 4, none⟩ (.int .i64 0), .cell ⟨r1, 5, none⟩ (.int .i64 0)]) hE Tryz.func75 rfl [.int .i64 25, .int .i64 0, .int .i64 0, .int .i64 0, .int .i64 0, .int .i64 0] (by kernel_rfl) ⟨H.cell 0 rfl rfl, H.cell 0 rfl rfl, H.cell 0 rfl rfl, H.cell 0 rfl rfl, H.cell 0 rfl rfl, H.cell 0 rfl rfl, trivial⟩ ?_
     cases hm
     exact ⟨al_d.Pool_a, al_d.L_b, al_d.L_c, rfl, H.x1.x0⟩
    ·replace hm := cond_f c hm
     refine Runs.skip ?_
     refine Runs.sr ?_
     refine WR.e0 hE [(9, .int .i64 0)] fun a hE => ?_
     refine Runs.seq ?_
     refine Runs.sr ?_
     refine WR.e0 hE [(10, .int .i64 0)] fun a hE => ?_
     obtain ⟨s1, es1, hm⟩ := bind_some hm
     refine Runs.join (fun a w => EnvOk 139 a [(4, .pointer (some ⟨r1, 0, none⟩)), (9, .int .i64 s1.1)] ∧ St w0 (Blk r1 60 [.int .i64 0, .int .i64 0, .int .i64 0, .int .i64 0, .int .i64 0, .int .i64 0] :: thicketref22_Dispatcher.R p_d al_d s1.2 :: As) w) (fun hk => ?_) ?_
     ·replace hm := es1; clear es1
      refine Runs.block ?_
      refine Runs.loop (fun m a w => ∃ (n : Int), ∃ (i : Int), ∃ (m_ : thicketref22_Dispatcher), EnvOk 139 a [(0, .pointer (some ⟨p_d, 0, none⟩)), (4, .pointer (some ⟨r1, 0, none⟩)), (9, .int .i64 n), (10, .int .i64 i)] ∧ St w0 (Blk r1 60 [.int .i64 0, .int .i64 0, .int .i64 0, .int .i64 0, .int .i64 0, .int .i64 0] :: thicketref22_Dispatcher.R p_d al_d m_ :: As) w ∧ thicketref22_Dispatcher_queue_l0 m n i m_ = some s1) k ⟨0, 0, d, hE.sel [0, 4, 9, 10] (by kernel_rfl), H.x1.t1.t1, hm⟩ ?_
      rintro m ih a w ⟨n, i, m_, hE, H, hm⟩
      cases m with
      | zero => simp [thicketref22_Dispatcher_queue_l0] at hm
      | succ m =>
       rw [thicketref22_Dispatcher_queue_l0] at hm
       refine Runs.seq ?_
       refine Runs.sr ?_
       replace H := thicketref22_Dispatcher.open H.t1
       refine WR.seg hE 7 [.slice al_d.L_b m_.L.length al_d.L_c] [0, 4, 9, 10, 111] (Lo := [(0, .pointer (some ⟨p_d, 0, none⟩)), (4, .pointer (some ⟨r1, 0, none⟩)), (9, .int .i64 n), (10, .int .i64 i), (111, .bool (decide (i < (m_.L.length : Int))))]) (obs := [.cell ⟨p_d, 4, none⟩ (.slice al_d.L_b m_.L.length al_d.L_c)]) rfl (by kernel_rfl) ⟨H.cell 0 rfl rfl, trivial⟩ fun a hE => ?_
       refine WR.done rfl ?_
       refine Runs.cond hE rfl (fun c => ?_) (fun c => ?_)
       ·replace hm := cond_t c hm
        refine Runs.skip ?_
        refine Runs.seq ?_
        replace H := thicketref22_Dispatcher.shut al_d (m_) H.t2.t2.t2
        obtain ⟨s2, es2, hm⟩ := bind_some hm
        refine Runs.join (fun a w => EnvOk 139 a [(0, .pointer (some ⟨p_d, 0, none⟩)), (4, .pointer (some ⟨r1, 0, none⟩)), (9, .int .i64 s2.1), (10, .int .i64 i)] ∧ St w0 (thicketref22_Dispatcher.R p_d al_d s2.2 :: Blk r1 60 [.int .i64 0, .int .i64 0, .int .i64 0, .int .i64 0, .int .i64 0, .int .i64 0] :: As) w) (fun hk => ?_) ?_
        ·replace hm := es2; clear es2
         refine Runs.block ?_
         refine Runs.sr ?_
         replace H := thicketref22_Dispatcher.open H
         obtain ⟨x2, ex2, hm⟩ := bind_some hm
         obtain ⟨b2, o2, hs2, hb2⟩ := SlRd.base (sl_rd 148 thicketref22_Job.enc 6 _ _ _) thicketref22_Job.enc_ok H 2 rfl ex2
         refine WR.e hE [.slice al_d.L_b m_.L.length al_d.L_c, .pointer (some ⟨b2, o2, none⟩), .int .i64 x2.Queue] [(122, .bool (x2.Queue == 1))] (obs := [.cell ⟨p_d, 4, none⟩ (.slice al_d.L_b m_.L.length al_d.L_c), .p ((al_d.L_b : Option Addr) = some ⟨b2, o2, none⟩), .p (0 ≤ (i : Int) ∧ (i : Int) < ((m_.L.length : Nat) : Int)), .cell ⟨b2, o2 + (Int.toNat i) * 6, none⟩ (.int .i64 x2.Queue)]) ⟨H.cell 0 rfl rfl, hs2, hb2, SlRd.cells (sl_rd 148 thicketref22_Job.enc 6 _ _ _) thicketref22_Job.enc_ok H 2 rfl hs2 ex2 0 _ rfl, trivial⟩ fun a hE => ?_
         refine Runs.cond hE rfl (fun c => ?_) (fun c => ?_)
         ·replace hm := cond_t c hm
          refine Runs.sr ?_
          obtain ⟨x3, ex3, hm⟩ := bind_some hm
          obtain ⟨b3, o3, hs3, hb3⟩ := SlRd.base (sl_rd 148 thicketref22_Job.enc 6 _ _ _) thicketref22_Job.enc_ok H 2 rfl ex3
          refine WR.d hE 7 [.slice al_d.L_b m_.L.length al_d.L_c, .pointer (some ⟨b3, o3, none⟩)] [(129, .pointer (some ⟨b3, o3 + (Int.toNat i) * 6, none⟩))] (obs := [.cell ⟨p_d, 4, none⟩ (.slice al_d.L_b m_.L.length al_d.L_c), .p ((al_d.L_b : Option Addr) = some ⟨b3, o3, none⟩), .p (0 ≤ (i : Int) ∧ (i : Int) < ((m_.L.length : Nat) : Int))]) ⟨H.cell 0 rfl rfl, hs3, hb3, trivial⟩ fun a hE => ?_
          refine WR.eff0 hE rfl rfl rfl (OpTo.storeSl (q := 0) (x' := (thicketref22_Job.mk 0 x3.Data x3.E x3.R)) hE H.t2 thicketref22_Job.enc_ok rfl hs3 ex3 rfl rfl rfl rfl rfl (Nat.le_of_ble_eq_true rfl) rfl) ?_
          rintro _ w H a hE
          rw [← mSet_len m_.L i (thicketref22_Job.mk 0 x3.Data x3.E x3.R)] at H
          refine WR.done rfl ?_
          refine Runs.region ?_
          refine WR.e0 hE [(9, .int .i64 (w64 (n + 1)))] fun a hE => ?_
          refine Runs.inBlock ?_
          replace H := thicketref22_Dispatcher.shut al_d (thicketref22_Dispatcher.mk m_.Most m_.Now m_.Next m_.Pool (mSet m_.L i (thicketref22_Job.mk 0 x3.Data x3.E x3.R))) H.t2.t2
          cases hm
          exact hk _ _ ⟨hE.sel [0, 4, 9, 10] (by kernel_rfl), H.t1.t1⟩
         ·replace hm := cond_f c hm
          refine Runs.skip ?_
          refine Runs.inBlock ?_
          replace H := thicketref22_Dispatcher.shut al_d (m_) H.t2.t2.t2
          cases hm
          exact hk _ _ ⟨hE.sel [0, 4, 9, 10] (by kernel_rfl), H.t1.t1⟩
        rintro a w ⟨hE, H⟩
        refine Runs.region ?_
        refine WR.seg hE 3 [] [0, 4, 9, 10] (Lo := [(0, .pointer (some ⟨p_d, 0, none⟩)), (4, .pointer (some ⟨r1, 0, none⟩)), (9, .int .i64 s2.1), (10, .int .i64 (w64 (i + 1)))]) (obs := []) rfl (by kernel_rfl) trivial fun a hE => ?_
        refine WR.done rfl ?_
        exact ih m (Nat.lt_succ_self m) _ _ ⟨s2.1, w64 (i + 1), s2.2, hE.sel [0, 4, 9, 10] (by kernel_rfl), H.t1, hm⟩
       ·replace hm := cond_f c hm
        refine Runs.exit rfl ?_
        replace H := thicketref22_Dispatcher.shut al_d (m_) H.t2.t2.t2
        cases hm
        exact hk _ _ ⟨hE.sel [4, 9] (by kernel_rfl), H.t1⟩
     rintro a w ⟨hE, H⟩
     refine Runs.sr ?_
     refine WR.seg hE 2 [] [4, 133] (Lo := [(4, .pointer (some ⟨r1, 0, none⟩)), (133, .agg #[.int .i64 0, .int .i64 0, .int .i64 0, .int .i64 0, .int .i64 0, .int .i64 s1.1])]) (obs := []) rfl (by kernel_rfl) trivial fun a hE => ?_
     refine WR.eff0 hE rfl rfl rfl (OpTo.store hE H rfl rfl rfl rfl rfl rfl (Nat.le_of_ble_eq_true rfl)) ?_
     rintro _ w H a hE
     refine WR.done rfl ?_
     refine Runs.retO (vs := [.agg #[.int .i64 0, .int .i64 0, .int .i64 0, .int .i64 0, .int .i64 0, .int .i64 s1.1]]) (obs := [.cell ⟨r1, 0, none⟩ (.int .i64 0), .cell ⟨r1, 1, none⟩ (.int .i64 0), .cell ⟨r1, 2, none⟩ (.int .i64 0), .cell ⟨r1, 3, none⟩ (.int .i64 0), .cell ⟨r1, 4, none⟩ (.int .i64 0), .cell ⟨r1, 5, none⟩ (.int .i64 s1.1)]) hE Tryz.func75 rfl [.int .i64 0, .int .i64 0, .int .i64 0, .int .i64 0, .int .i64 0, .int .i64 s1.1] (by kernel_rfl) ⟨H.cell 0 rfl rfl, H.cell 0 rfl rfl, H.cell 0 rfl rfl, H.cell 0 rfl rfl, H.cell 0 rfl rfl, H.cell 0 rfl rfl, trivial⟩ ?_
     cases hm
     exact ⟨al_d.Pool_a, al_d.L_b, al_d.L_c, rfl, H.x0⟩
   ·replace hm := cond_f c hm
    refine Runs.skip ?_
    refine Runs.inBlock ?_
    refine Runs.sr ?_
    refine WR.d hE 3 [.int .i64 c_.Queue] [(134, .pointer (some ⟨p_d, 0, none⟩)), (136, .int .i64 c_.Queue)] (obs := [.cell ⟨r, 1, none⟩ (.int .i64 c_.Queue)]) ⟨H.cell 1 rfl rfl, trivial⟩ fun a hE => ?_
    obtain ⟨t_3, et_3, hm⟩ := bind_some hm
    refine WR.eff hE rfl rfl rfl rfl (OpTo.fn hE rfl rfl Tryz.call135 (thicketref22_Dispatcher_Count_ok et_3 H.t2)) ?_
    rintro _ w ⟨rfl, H⟩ a hE
    refine WR.d0 hE 5 [(138, .agg #[.int .i64 0, .int .i64 0, .int .i64 0, .int .i64 0, .int .i64 0, .int .i64 t_3])] fun a hE => ?_
    refine WR.eff0 hE rfl rfl rfl (OpTo.store hE H.t1 rfl rfl rfl rfl rfl rfl (Nat.le_of_ble_eq_true rfl)) ?_
    rintro _ w H a hE
    refine WR.done rfl ?_
    refine Runs.retO (vs := [.agg #[.int .i64 0, .int .i64 0, .int .i64 0, .int .i64 0, .int .i64 0, .int .i64 t_3]]) (obs := [.cell ⟨r1, 0, none⟩ (.int .i64 0), .cell ⟨r1, 1, none⟩ (.int .i64 0), .cell ⟨r1, 2, none⟩ (.int .i64 0), .cell ⟨r1, 3, none⟩ (.int .i64 0), .cell ⟨r1, 4, none⟩ (.int .i64 0), .cell ⟨r1, 5, none⟩ (.int .i64 t_3)]) hE Tryz.func75 rfl [.int .i64 0, .int .i64 0, .int .i64 0, .int .i64 0, .int .i64 0, .int .i64 t_3] (by kernel_rfl) ⟨H.cell 0 rfl rfl, H.cell 0 rfl rfl, H.cell 0 rfl rfl, H.cell 0 rfl rfl, H.cell 0 rfl rfl, H.cell 0 rfl rfl, trivial⟩ ?_
    cases hm
    exact ⟨al_d.Pool_a, al_d.L_b, al_d.L_c, rfl, H.x2.x0⟩

theorem thicketref22_Dispatcher_at_ok {w0 w : World} {As : List HP} {k : Nat} {p_d : Nat} {al_d : thicketref22_Dispatcher.A} {d : thicketref22_Dispatcher} {r : api_Ref} {t : Int × thicketref22_Dispatcher}  (hm : thicketref22_Dispatcher_at k d r = some t) (H : St w0 (thicketref22_Dispatcher.R p_d al_d d :: As) w) :
    CallsR Tryz.prog 77 #[.pointer (some ⟨p_d, 0, none⟩), .agg #[.int .i64 r.At, .int .i64 r.Gen]] w fun v w' => v = .int .i64 t.1 ∧ St w0 (thicketref22_Dispatcher.R p_d al_d t.2 :: As) w' := by
 rw [thicketref22_Dispatcher_at] at hm
 refine enter (args := [.pointer (some ⟨p_d, 0, none⟩), .agg #[.int .i64 r.At, .int .i64 r.Gen]]) Tryz.func77 rfl rfl rfl fun a hE => ?_
 refine Runs.sr ?_
 refine WR.eff hE rfl rfl rfl rfl (OpTo.new hE H [] (.cells #[.int .i64 r.At, .int .i64 r.Gen] 26 (0, 0)) (fun r => .pointer (some ⟨r, 0, none⟩)) (obs := []) rfl (fun _ => by kernel_rfl) trivial) ?_
 rintro _ w ⟨r1, rfl, H⟩ a hE
 refine WR.seg hE 2 [] [0, 3] (Lo := [(0, .pointer (some ⟨p_d, 0, none⟩)), (3, .pointer (some ⟨r1, 0, none⟩))]) (obs := []) rfl (by kernel_rfl) trivial fun a hE => ?_
 refine WR.done rfl ?_
 refine Runs.seq ?_
 refine Runs.sr ?_
 refine WR.e0 hE [(5, .int .i64 0)] fun a hE => ?_
 obtain ⟨s, es, hR⟩ := bind_some hm
 refine Runs.join (fun a w => ∃ s1, s = Sum.inr s1 ∧ EnvOk 26 a [] ∧ St w0 (thicketref22_Dispatcher.R p_d al_d d :: As) w) (fun hk => ?_) ?_
 ·replace hm := es; clear es
  refine Runs.block ?_
  refine Runs.loop (fun m a w => ∃ (i : Int), EnvOk 26 a [(0, .pointer (some ⟨p_d, 0, none⟩)), (3, .pointer (some ⟨r1, 0, none⟩)), (5, .int .i64 i)] ∧ St w0 (Blk r1 26 [.int .i64 r.At, .int .i64 r.Gen] :: thicketref22_Dispatcher.R p_d al_d d :: As) w ∧ thicketref22_Dispatcher_at_l0 r.At r.Gen d m i = some s) k ⟨0, hE.sel [0, 3, 5] (by kernel_rfl), H.t1.t1, hm⟩ ?_
  rintro m ih a w ⟨i, hE, H, hm⟩
  cases m with
  | zero => simp [thicketref22_Dispatcher_at_l0] at hm
  | succ m =>
   rw [thicketref22_Dispatcher_at_l0] at hm
   refine Runs.seq ?_
   refine Runs.sr ?_
   replace H := thicketref22_Dispatcher.open H.t1
   refine WR.seg hE 7 [.slice al_d.L_b d.L.length al_d.L_c] [0, 3, 5, 12] (Lo := [(0, .pointer (some ⟨p_d, 0, none⟩)), (3, .pointer (some ⟨r1, 0, none⟩)), (5, .int .i64 i), (12, .bool (decide (i < (d.L.length : Int))))]) (obs := [.cell ⟨p_d, 4, none⟩ (.slice al_d.L_b d.L.length al_d.L_c)]) rfl (by kernel_rfl) ⟨H.cell 0 rfl rfl, trivial⟩ fun a hE => ?_
   refine WR.done rfl ?_
   refine Runs.cond hE rfl (fun c => ?_) (fun c => ?_)
   ·replace hm := cond_t c hm
    refine Runs.skip ?_
    refine Runs.seq ?_
    refine Runs.block ?_
    refine Runs.seq ?_
    refine Runs.drawn mixed (by kernel_rfl) ?_
    replace H := H.drew
    obtain ⟨x, ex, hm⟩ := bind_some hm
    obtain ⟨b, o, hs, hb⟩ := SlRd.base (sl_rd 148 thicketref22_Job.enc 6 _ _ _) thicketref22_Job.enc_ok H 2 rfl ex
    refine WQ.d hE [0, 1, 2, 3, 4, 5, 6, 7, 8] [.slice al_d.L_b d.L.length al_d.L_c, .pointer (some ⟨b, o, none⟩), .int .i64 x.R.At, .int .i64 x.R.Gen, .int .i64 r.At, .int .i64 r.Gen] [(22, .agg #[.int .i64 x.R.At, .int .i64 x.R.Gen]), (23, .agg #[.int .i64 r.At, .int .i64 r.Gen])] (obs := [.cell ⟨p_d, 4, none⟩ (.slice al_d.L_b d.L.length al_d.L_c), .p ((al_d.L_b : Option Addr) = some ⟨b, o, none⟩), .p (0 ≤ (i : Int) ∧ (i : Int) < ((d.L.length : Nat) : Int)), .cell ⟨b, o + (Int.toNat i) * 6 + 4, none⟩ (.int .i64 x.R.At), .cell ⟨b, o + (Int.toNat i) * 6 + 5, none⟩ (.int .i64 x.R.Gen), .cell ⟨r1, 0, none⟩ (.int .i64 r.At), .cell ⟨r1, 1, none⟩ (.int .i64 r.Gen)]) ⟨H.cell 0 rfl rfl, hs, hb, SlRd.cells (sl_rd 148 thicketref22_Job.enc 6 _ _ _) thicketref22_Job.enc_ok H 2 rfl hs ex 4 _ rfl, SlRd.cells (sl_rd 148 thicketref22_Job.enc 6 _ _ _) thicketref22_Job.enc_ok H 2 rfl hs ex 5 _ rfl, H.cell 3 rfl rfl, H.cell 3 rfl rfl, trivial⟩ fun a hE => ?_
    refine WQ.eff (j := 9) (obs := []) hE (by kernel_rfl) rfl rfl rfl rfl (by kernel_rfl) (OpTo.eqS hE rfl rfl rfl (by kernel_rfl) (api_Ref.eq_run x.R r)) ?_
    rintro _ _ ⟨rfl, rfl⟩
    refine ⟨trivial, fun a hE => ?_⟩
    refine WQ.done (by kernel_rfl) ?_
    refine Runs.cond hE rfl (fun c => ?_) (fun c => ?_)
    ·replace hm := cond_t c hm
     refine Runs.sr ?_
     refine WR.e0 hE [(4, .int .i64 i)] fun a hE => ?_
     replace H := thicketref22_Dispatcher.shut al_d (d) H.t2.t2.t2
     refine Runs.ret hE Tryz.func77 rfl rfl ?_
     cases hm
     dsimp only at hR; cases hR
     exact ⟨rfl, H.x1⟩
    ·replace hm := cond_f c hm
     refine Runs.skip ?_
     refine Runs.inBlock ?_
     refine Runs.region ?_
     refine WR.e0 hE [(5, .int .i64 (w64 (i + 1)))] fun a hE => ?_
     replace H := thicketref22_Dispatcher.shut al_d (d) H.t2.t2.t2
     exact ih m (Nat.lt_succ_self m) _ _ ⟨w64 (i + 1), hE.sel [0, 3, 5] (by kernel_rfl), H.t1, hm⟩
   ·replace hm := cond_f c hm
    refine Runs.exit rfl ?_
    replace H := thicketref22_Dispatcher.shut al_d (d) H.t2.t2.t2
    cases hm
    exact hk _ _ ⟨_, rfl, hE.sel [] (by kernel_rfl), H.x1⟩
 rintro a w ⟨s1, rfl, hE, H⟩
 replace hm := hR; dsimp only at hm
 refine Runs.sr ?_
 refine WR.seg hE 1 [] [4] (Lo := [(4, .int .i64 (-1))]) (obs := []) rfl (by kernel_rfl) trivial fun a hE => ?_
 refine WR.done rfl ?_
 refine Runs.ret hE Tryz.func77 rfl rfl ?_
 cases hm
 exact ⟨rfl, H⟩

theorem thicketref1_Add_ok {w0 w : World} {As : List HP} {a_ : Int} {b : Int} {t : Int}  (hm : thicketref1_Add a_ b = some t) (H : St w0 (As) w) :
    CallsR Tryz.prog 79 #[.int .i64 a_, .int .i64 b] w fun v w' => v = .int .i64 t ∧ St w0 (As) w' := by
 rw [thicketref1_Add] at hm
 refine enter (args := [.int .i64 a_, .int .i64 b]) Tryz.func79 rfl rfl rfl fun a hE => ?_
 refine Runs.sr ?_
 refine WR.seg hE 1 [] [0, 1] (Lo := [(0, .int .i64 a_), (1, .int .i64 b)]) (obs := []) rfl (by kernel_rfl) trivial fun a hE => ?_
 refine WR.done rfl ?_
 refine Runs.seq ?_
 refine Runs.seq ?_
 refine Runs.join (fun a w => EnvOk 24 a [(0, .int .i64 a_), (1, .int .i64 b), (12, .bool ((decide (a_ > 0)) && (decide (b > w64 (9223372036854775807 - a_)))))] ∧ St w0 (As) w) (fun hk => ?_) ?_
 ·clear hm
  refine Runs.region ?_
  refine WR.d0 hE 3 [(7, .bool (decide (a_ > 0)))] fun a hE => ?_
  rcases Bool.eq_false_or_eq_true (decide (a_ > 0)) with c | c
  ·replace hE := hE.dec 7 c (by kernel_rfl)
   have c_ := c
   refine WR.e0 hE [(12, .bool (decide (b > w64 (9223372036854775807 - a_))))] fun a hE => ?_
   refine hk _ _ ⟨?_, H⟩
   try rw [c_] at hE
   try rw [c_]
   exact hE.sel [0, 1, 12] (by kernel_rfl)
  ·replace hE := hE.dec 7 c (by kernel_rfl)
   have c_1 := c
   refine WR.e0 hE [(12, .bool false)] fun a hE => ?_
   refine hk _ _ ⟨?_, H⟩
   try rw [c_1] at hE
   try rw [c_1]
   exact hE.sel [0, 1, 12] (by kernel_rfl)
 rintro a w ⟨hE, H⟩
 refine Runs.cond hE rfl (fun c => ?_) (fun c => ?_)
 ·replace hm := cond_t c hm
  refine Runs.sr ?_
  refine WR.seg hE 1 [] [4] (Lo := [(4, .int .i64 9223372036854775807)]) (obs := []) rfl (by kernel_rfl) trivial fun a hE => ?_
  refine WR.done rfl ?_
  refine Runs.ret hE Tryz.func79 rfl rfl ?_
  cases hm
  exact ⟨rfl, H⟩
 ·replace hm := cond_f c hm
  refine Runs.skip ?_
  refine Runs.seq ?_
  refine Runs.seq ?_
  refine Runs.join (fun a w => EnvOk 24 a [(0, .int .i64 a_), (1, .int .i64 b), (20, .bool ((decide (a_ < 0)) && (decide (b < w64 ((-9223372036854775808) - a_)))))] ∧ St w0 (As) w) (fun hk => ?_) ?_
  ·clear hm
   refine Runs.region ?_
   refine WR.seg hE 3 [] [0, 1, 15] (Lo := [(0, .int .i64 a_), (1, .int .i64 b), (15, .bool (decide (a_ < 0)))]) (obs := []) rfl (by kernel_rfl) trivial fun a hE => ?_
   rcases Bool.eq_false_or_eq_true (decide (a_ < 0)) with c | c
   ·replace hE := hE.dec 15 c (by kernel_rfl)
    have c_2 := c
    refine WR.e0 hE [(20, .bool (decide (b < w64 ((-9223372036854775808) - a_))))] fun a hE => ?_
    refine hk _ _ ⟨?_, H⟩
    try rw [c_2] at hE
    try rw [c_2]
    exact hE.sel [0, 1, 20] (by kernel_rfl)
   ·replace hE := hE.dec 15 c (by kernel_rfl)
    have c_3 := c
    refine WR.e0 hE [(20, .bool false)] fun a hE => ?_
    refine hk _ _ ⟨?_, H⟩
    try rw [c_3] at hE
    try rw [c_3]
    exact hE.sel [0, 1, 20] (by kernel_rfl)
  rintro a w ⟨hE, H⟩
  refine Runs.cond hE rfl (fun c => ?_) (fun c => ?_)
  ·replace hm := cond_t c hm
   refine Runs.sr ?_
   refine WR.seg hE 1 [] [4] (Lo := [(4, .int .i64 (-9223372036854775808))]) (obs := []) rfl (by kernel_rfl) trivial fun a hE => ?_
   refine WR.done rfl ?_
   refine Runs.ret hE Tryz.func79 rfl rfl ?_
   cases hm
   exact ⟨rfl, H⟩
  ·replace hm := cond_f c hm
   refine Runs.skip ?_
   refine Runs.sr ?_
   refine WR.seg hE 4 [] [4] (Lo := [(4, .int .i64 (w64 (a_ + b)))]) (obs := []) rfl (by kernel_rfl) trivial fun a hE => ?_
   refine WR.done rfl ?_
   refine Runs.ret hE Tryz.func79 rfl rfl ?_
   cases hm
   exact ⟨rfl, H⟩

theorem thicketref22_Dispatcher_Do_ok {w0 w : World} {As : List HP} {k : Nat} {p_d : Nat} {al_d : thicketref22_Dispatcher.A} {d : thicketref22_Dispatcher} {c_ : api_Command} {t : api_Reply × thicketref22_Dispatcher}  (hm : thicketref22_Dispatcher_Do k d c_ = some t) (H : St w0 (thicketref22_Dispatcher.R p_d al_d d :: As) w) :
    CallsR Tryz.prog 36 #[.pointer (some ⟨p_d, 0, none⟩), .agg #[.int .i64 c_.Kind, .int .i64 c_.Queue, .int .i64 c_.Job.At, .int .i64 c_.Job.Gen, .int .i64 c_.Time, .int .i64 c_.Data]] w fun v w' => ∃ (z_d_Pool_a : thicketref2_Pool.A), ∃ (z_d_L_b : Option Addr), ∃ (z_d_L_c : Nat), v = .agg #[.int .i64 t.1.Why, .int .i64 t.1.Job.At, .int .i64 t.1.Job.Gen, .int .i64 t.1.Time, .int .i64 t.1.Data, .int .i64 t.1.N] ∧ St w0 (thicketref22_Dispatcher.R p_d (thicketref22_Dispatcher.A.mk al_d.Pool_p z_d_Pool_a z_d_L_b z_d_L_c) t.2 :: As) w' := by
 rw [thicketref22_Dispatcher_Do] at hm
 refine enter (args := [.pointer (some ⟨p_d, 0, none⟩), .agg #[.int .i64 c_.Kind, .int .i64 c_.Queue, .int .i64 c_.Job.At, .int .i64 c_.Job.Gen, .int .i64 c_.Time, .int .i64 c_.Data]]) Tryz.func36 rfl rfl rfl fun a hE => ?_
 refine Runs.sr ?_
 refine WR.eff hE rfl rfl rfl rfl (OpTo.new hE H [] (.cells #[.int .i64 c_.Kind, .int .i64 c_.Queue, .int .i64 c_.Job.At, .int .i64 c_.Job.Gen, .int .i64 c_.Time, .int .i64 c_.Data] 28 (0, 0)) (fun r => .pointer (some ⟨r, 0, none⟩)) (obs := []) rfl (fun _ => by kernel_rfl) trivial) ?_
 rintro _ w ⟨r, rfl, H⟩ a hE
 refine WR.eff hE rfl rfl rfl rfl (OpTo.new hE H [] (.cells #[.int .i64 0, .int .i64 0, .int .i64 0, .int .i64 0, .int .i64 0, .int .i64 0] 60 (0, 0)) (fun r => .pointer (some ⟨r, 0, none⟩)) (obs := []) rfl (fun _ => by kernel_rfl) trivial) ?_
 rintro _ w ⟨r1, rfl, H⟩ a hE
 refine WR.done rfl ?_
 refine Runs.seq ?_
 refine Runs.sr ?_
 refine WR.seg hE 2 [.int .i64 c_.Kind] [0, 3, 4, 9] (Lo := [(0, .pointer (some ⟨p_d, 0, none⟩)), (3, .pointer (some ⟨r, 0, none⟩)), (4, .pointer (some ⟨r1, 0, none⟩)), (9, .int .i64 c_.Kind)]) (obs := [.cell ⟨r, 0, none⟩ (.int .i64 c_.Kind)]) rfl (by kernel_rfl) ⟨H.cell 1 rfl rfl, trivial⟩ fun a hE => ?_
 refine WR.done rfl ?_
 obtain ⟨s, es, hR⟩ := bind_some hm
 refine Runs.join (fun a w => ∃ s1, s = Sum.inr s1 ∧ EnvOk 113 a [(4, .pointer (some ⟨r1, 0, none⟩))] ∧ St w0 (Blk r1 60 [.int .i64 0, .int .i64 0, .int .i64 0, .int .i64 0, .int .i64 0, .int .i64 0] :: thicketref22_Dispatcher.R p_d al_d d :: As) w) (fun hk => ?_) ?_
 ·replace hm := es; clear es
  refine Runs.block ?_
  refine Runs.seq ?_
  refine Runs.sr ?_
  refine WR.e0 hE [(10, .bool (c_.Kind == 1))] fun a hE => ?_
  obtain ⟨s2, es2, hm⟩ := bind_some hm
  refine Runs.join (fun a w => EnvOk 113 a [(0, .pointer (some ⟨p_d, 0, none⟩)), (3, .pointer (some ⟨r, 0, none⟩)), (4, .pointer (some ⟨r1, 0, none⟩)), (9, .int .i64 c_.Kind), (10, .bool s2)] ∧ St w0 (Blk r1 60 [.int .i64 0, .int .i64 0, .int .i64 0, .int .i64 0, .int .i64 0, .int .i64 0] :: Blk r 28 [.int .i64 c_.Kind, .int .i64 c_.Queue, .int .i64 c_.Job.At, .int .i64 c_.Job.Gen, .int .i64 c_.Time, .int .i64 c_.Data] :: thicketref22_Dispatcher.R p_d al_d d :: As) w) (fun hk => ?_) ?_
  ·replace hm := es2; clear es2
   refine Runs.cond hE rfl (fun c => ?_) (fun c => ?_)
   ·replace hm := cond_t c hm
    refine Runs.skip ?_
    cases hm
    exact hk _ _ ⟨hE.sel [0, 3, 4, 9, 10] (by kernel_rfl), H.t2.t2.t2⟩
   ·replace hm := cond_f c hm
    refine Runs.sr ?_
    refine WR.e0 hE [(10, .bool (c_.Kind == 5))] fun a hE => ?_
    refine Runs.cond hE rfl (fun c => ?_) (fun c => ?_)
    ·replace hm := cond_t c hm
     refine Runs.skip ?_
     cases hm
     exact hk _ _ ⟨hE.sel [0, 3, 4, 9, 10] (by kernel_rfl), H.t2.t2.t2⟩
    ·replace hm := cond_f c hm
     refine Runs.sr ?_
     refine WR.e0 hE [(10, .bool (c_.Kind == 6))] fun a hE => ?_
     refine Runs.cond hE rfl (fun c => ?_) (fun c => ?_)
     ·replace hm := cond_t c hm
      refine Runs.skip ?_
      cases hm
      exact hk _ _ ⟨hE.sel [0, 3, 4, 9, 10] (by kernel_rfl), H.t2.t2.t2⟩
     ·replace hm := cond_f c hm
      refine Runs.region ?_
      refine WR.e0 hE [(10, .bool (c_.Kind == 7))] fun a hE => ?_
      cases hm
      exact hk _ _ ⟨hE.sel [0, 3, 4, 9, 10] (by kernel_rfl), H.t2.t2.t2⟩
  rintro a w ⟨hE, H⟩
  refine Runs.cond hE rfl (fun c => ?_) (fun c => ?_)
  ·replace hm := cond_t c hm
   refine Runs.seq ?_
   refine Runs.seq ?_
   refine Runs.join (fun a w => EnvOk 113 a [(0, .pointer (some ⟨p_d, 0, none⟩)), (3, .pointer (some ⟨r, 0, none⟩)), (4, .pointer (some ⟨r1, 0, none⟩)), (22, .bool ((c_.Queue != 0) && (c_.Queue != 1)))] ∧ St w0 (Blk r1 60 [.int .i64 0, .int .i64 0, .int .i64 0, .int .i64 0, .int .i64 0, .int .i64 0] :: Blk r 28 [.int .i64 c_.Kind, .int .i64 c_.Queue, .int .i64 c_.Job.At, .int .i64 c_.Job.Gen, .int .i64 c_.Time, .int .i64 c_.Data] :: thicketref22_Dispatcher.R p_d al_d d :: As) w) (fun hk => ?_) ?_
   ·clear hm
    refine Runs.region ?_
    refine WR.seg hE 4 [.int .i64 c_.Queue] [0, 3, 4, 18] (Lo := [(0, .pointer (some ⟨p_d, 0, none⟩)), (3, .pointer (some ⟨r, 0, none⟩)), (4, .pointer (some ⟨r1, 0, none⟩)), (18, .bool (c_.Queue != 0))]) (obs := [.cell ⟨r, 1, none⟩ (.int .i64 c_.Queue)]) rfl (by kernel_rfl) ⟨H.cell 1 rfl rfl, trivial⟩ fun a hE => ?_
    rcases Bool.eq_false_or_eq_true (c_.Queue != 0) with c | c
    ·replace hE := hE.dec 18 c (by kernel_rfl)
     have c_1 := c
     refine WR.e hE [.int .i64 c_.Queue] [(22, .bool (c_.Queue != 1))] (obs := [.cell ⟨r, 1, none⟩ (.int .i64 c_.Queue)]) ⟨H.cell 1 rfl rfl, trivial⟩ fun a hE => ?_
     refine hk _ _ ⟨?_, H.t2.t2.t2⟩
     try rw [c_1] at hE
     try rw [c_1]
     exact hE.sel [0, 3, 4, 22] (by kernel_rfl)
    ·replace hE := hE.dec 18 c (by kernel_rfl)
     have c_2 := c
     refine WR.e0 hE [(22, .bool false)] fun a hE => ?_
     refine hk _ _ ⟨?_, H.t2.t2.t2⟩
     try rw [c_2] at hE
     try rw [c_2]
     exact hE.sel [0, 3, 4, 22] (by kernel_rfl)
   rintro a w ⟨hE, H⟩
   refine Runs.cond hE rfl (fun c => ?_) (fun c => ?_)
   ·replace hm := cond_t c hm
    refine Runs.sr ?_
    refine WR.seg hE 1 [] [4, 23] (Lo := [(4, .pointer (some ⟨r1, 0, none⟩)), (23, .agg #[.int .i64 1, .int .i64 0, .int .i64 0, .int .i64 0, .int .i64 0, .int .i64 0])]) (obs := []) rfl (by kernel_rfl) trivial fun a hE => ?_
    refine WR.eff0 hE rfl rfl rfl (OpTo.store hE H rfl rfl rfl rfl rfl rfl (Nat.le_of_ble_eq_true rfl)) ?_
    rintro _ w H a hE
    refine WR.done rfl ?_
    refine Runs.retO (vs := [.agg #[.int .i64 1, .int .i64 0, .int .i64 0, .int .i64 0, .int .i64 0, .int .i64 0]]) (obs := [.cell ⟨r1, 0, none⟩ (.int .i64 1), .cell ⟨r1, 1, none⟩ (.int .i64 0), .cell ⟨r1, 2, none⟩ (.int .i64 0), .cell ⟨r1, 3, none⟩ (.int .i64 0), .cell ⟨r1, 4, none⟩ (.int .i64 0), .cell ⟨r1, 5, none⟩ (.int .i64 0)]) hE Tryz.func36 rfl [.int .i64 1, .int .i64 0, .int .i64 0, .int .i64 0, .int .i64 0, .int .i64 0] (by kernel_rfl) ⟨H.cell 0 rfl rfl, H.cell 0 rfl rfl, H.cell 0 rfl rfl, H.cell 0 rfl rfl, H.cell 0 rfl rfl, H.cell 0 rfl rfl, trivial⟩ ?_
    cases hm
    dsimp only at hR; cases hR
    exact ⟨al_d.Pool_a, al_d.L_b, al_d.L_c, rfl, H.x1.x0⟩
   ·replace hm := cond_f c hm
    refine Runs.skip ?_
    refine Runs.sr ?_
    refine WR.seg hE 2 [.int .i64 c_.Kind, .int .i64 c_.Queue, .int .i64 c_.Job.At, .int .i64 c_.Job.Gen, .int .i64 c_.Time, .int .i64 c_.Data] [4, 24, 25] (Lo := [(4, .pointer (some ⟨r1, 0, none⟩)), (24, .pointer (some ⟨p_d, 0, none⟩)), (25, .agg #[.int .i64 c_.Kind, .int .i64 c_.Queue, .int .i64 c_.Job.At, .int .i64 c_.Job.Gen, .int .i64 c_.Time, .int .i64 c_.Data])]) (obs := [.cell ⟨r, 0, none⟩ (.int .i64 c_.Kind), .cell ⟨r, 1, none⟩ (.int .i64 c_.Queue), .cell ⟨r, 2, none⟩ (.int .i64 c_.Job.At), .cell ⟨r, 3, none⟩ (.int .i64 c_.Job.Gen), .cell ⟨r, 4, none⟩ (.int .i64 c_.Time), .cell ⟨r, 5, none⟩ (.int .i64 c_.Data)]) rfl (by kernel_rfl) ⟨H.cell 1 rfl rfl, H.cell 1 rfl rfl, H.cell 1 rfl rfl, H.cell 1 rfl rfl, H.cell 1 rfl rfl, H.cell 1 rfl rfl, trivial⟩ fun a hE => ?_
    obtain ⟨t_, et_, hm⟩ := bind_some hm
    refine WR.eff hE rfl rfl rfl rfl (OpTo.fn hE rfl rfl Tryz.call75 (thicketref22_Dispatcher_queue_ok et_ H.t2)) ?_
    rintro _ w ⟨z, z1, z2, rfl, H⟩ a hE
    refine WR.eff0 hE rfl rfl rfl (OpTo.store hE H.t1 rfl rfl rfl rfl rfl rfl (Nat.le_of_ble_eq_true rfl)) ?_
    rintro _ w H a hE
    refine WR.done rfl ?_
    refine Runs.retO (vs := [.agg #[.int .i64 t_.1.Why, .int .i64 t_.1.Job.At, .int .i64 t_.1.Job.Gen, .int .i64 t_.1.Time, .int .i64 t_.1.Data, .int .i64 t_.1.N]]) (obs := [.cell ⟨r1, 0, none⟩ (.int .i64 t_.1.Why), .cell ⟨r1, 1, none⟩ (.int .i64 t_.1.Job.At), .cell ⟨r1, 2, none⟩ (.int .i64 t_.1.Job.Gen), .cell ⟨r1, 3, none⟩ (.int .i64 t_.1.Time), .cell ⟨r1, 4, none⟩ (.int .i64 t_.1.Data), .cell ⟨r1, 5, none⟩ (.int .i64 t_.1.N)]) hE Tryz.func36 rfl [.int .i64 t_.1.Why, .int .i64 t_.1.Job.At, .int .i64 t_.1.Job.Gen, .int .i64 t_.1.Time, .int .i64 t_.1.Data, .int .i64 t_.1.N] (by kernel_rfl) ⟨H.cell 0 rfl rfl, H.cell 0 rfl rfl, H.cell 0 rfl rfl, H.cell 0 rfl rfl, H.cell 0 rfl rfl, H.cell 0 rfl rfl, trivial⟩ ?_
    cases hm
    dsimp only at hR; cases hR
    exact ⟨z, z1, z2, rfl, H.x2.x0⟩
  ·replace hm := cond_f c hm
   refine Runs.seq ?_
   refine Runs.sr ?_
   refine WR.seg hE 2 [] [0, 3, 4, 9, 27] (Lo := [(0, .pointer (some ⟨p_d, 0, none⟩)), (3, .pointer (some ⟨r, 0, none⟩)), (4, .pointer (some ⟨r1, 0, none⟩)), (9, .int .i64 c_.Kind), (27, .bool (c_.Kind == 2))]) (obs := []) rfl (by kernel_rfl) trivial fun a hE => ?_
   refine WR.done rfl ?_
   obtain ⟨s3, es3, hm⟩ := bind_some hm
   refine Runs.join (fun a w => EnvOk 113 a [(0, .pointer (some ⟨p_d, 0, none⟩)), (3, .pointer (some ⟨r, 0, none⟩)), (4, .pointer (some ⟨r1, 0, none⟩)), (9, .int .i64 c_.Kind), (27, .bool s3)] ∧ St w0 (Blk r1 60 [.int .i64 0, .int .i64 0, .int .i64 0, .int .i64 0, .int .i64 0, .int .i64 0] :: Blk r 28 [.int .i64 c_.Kind, .int .i64 c_.Queue, .int .i64 c_.Job.At, .int .i64 c_.Job.Gen, .int .i64 c_.Time, .int .i64 c_.Data] :: thicketref22_Dispatcher.R p_d al_d d :: As) w) (fun hk => ?_) ?_
   ·replace hm := es3; clear es3
    refine Runs.cond hE rfl (fun c => ?_) (fun c => ?_)
    ·replace hm := cond_t c hm
     refine Runs.skip ?_
     cases hm
     exact hk _ _ ⟨hE.sel [0, 3, 4, 9, 27] (by kernel_rfl), H.t2.t2.t2⟩
    ·replace hm := cond_f c hm
     refine Runs.region ?_
     refine WR.e0 hE [(27, .bool (c_.Kind == 3))] fun a hE => ?_
     cases hm
     exact hk _ _ ⟨hE.sel [0, 3, 4, 9, 27] (by kernel_rfl), H.t2.t2.t2⟩
   rintro a w ⟨hE, H⟩
   refine Runs.cond hE rfl (fun c => ?_) (fun c => ?_)
   ·replace hm := cond_t c hm
    refine Runs.seq ?_
    refine Runs.seq ?_
    refine Runs.drawn mixed (by kernel_rfl) ?_
    replace H := H.drew
    replace H := thicketref22_Dispatcher.open H.t2
    refine WQ.seg hE [0, 1, 2, 3, 4, 5] [.pointer (some ⟨al_d.Pool_p, 0, none⟩), .int .i64 c_.Job.At, .int .i64 c_.Job.Gen] [0, 3, 4, 33, 35] (Lo := [(0, .pointer (some ⟨p_d, 0, none⟩)), (3, .pointer (some ⟨r, 0, none⟩)), (4, .pointer (some ⟨r1, 0, none⟩)), (33, .pointer (some ⟨al_d.Pool_p, 0, none⟩)), (35, .agg #[.int .i64 c_.Job.At, .int .i64 c_.Job.Gen])]) (obs := [.cell ⟨p_d, 3, none⟩ (.pointer (some ⟨al_d.Pool_p, 0, none⟩)), .cell ⟨r, 2, none⟩ (.int .i64 c_.Job.At), .cell ⟨r, 3, none⟩ (.int .i64 c_.Job.Gen)]) (by kernel_rfl) (by kernel_rfl) ⟨H.cell 0 rfl rfl, H.cell 4 rfl rfl, H.cell 4 rfl rfl, trivial⟩ fun a hE => ?_
    obtain ⟨t_1, et_1, hm⟩ := bind_some hm
    refine WQ.eff (j := 6) (obs := []) hE (by kernel_rfl) rfl rfl rfl rfl (by kernel_rfl) (OpTo.fn hE rfl rfl Tryz.call76 (thicketref2_Pool_Look_ok et_1 H.t1)) ?_
    rintro _ w ⟨rfl, H⟩
    refine ⟨trivial, fun a hE => ?_⟩
    refine WQ.d0 hE [7] [(5, .int .i64 t_1)] fun a hE => ?_
    refine WQ.done (by kernel_rfl) ?_
    refine Runs.sr ?_
    refine WR.e0 hE [(38, .bool (t_1 != 0))] fun a hE => ?_
    refine Runs.cond hE rfl (fun c => ?_) (fun c => ?_)
    ·replace hm := cond_t c hm
     refine Runs.sr ?_
     refine WR.d0 hE 2 [(40, .agg #[.int .i64 t_1, .int .i64 0, .int .i64 0, .int .i64 0, .int .i64 0, .int .i64 0])] fun a hE => ?_
     refine WR.eff0 hE rfl rfl rfl (OpTo.store hE H.t3 rfl rfl rfl rfl rfl rfl (Nat.le_of_ble_eq_true rfl)) ?_
     rintro _ w H a hE
     refine WR.done rfl ?_
     refine Runs.retO (vs := [.agg #[.int .i64 t_1, .int .i64 0, .int .i64 0, .int .i64 0, .int .i64 0, .int .i64 0]]) (obs := [.cell ⟨r1, 0, none⟩ (.int .i64 t_1), .cell ⟨r1, 1, none⟩ (.int .i64 0), .cell ⟨r1, 2, none⟩ (.int .i64 0), .cell ⟨r1, 3, none⟩ (.int .i64 0), .cell ⟨r1, 4, none⟩ (.int .i64 0), .cell ⟨r1, 5, none⟩ (.int .i64 0)]) hE Tryz.func36 rfl [.int .i64 t_1, .int .i64 0, .int .i64 0, .int .i64 0, .int .i64 0, .int .i64 0] (by kernel_rfl) ⟨H.cell 0 rfl rfl, H.cell 0 rfl rfl, H.cell 0 rfl rfl, H.cell 0 rfl rfl, H.cell 0 rfl rfl, H.cell 0 rfl rfl, trivial⟩ ?_
     replace H := thicketref22_Dispatcher.shut al_d (d) H.t3.t2.t3
     cases hm
     dsimp only at hR; cases hR
     exact ⟨al_d.Pool_a, al_d.L_b, al_d.L_c, rfl, H.x2.x1⟩
    ·replace hm := cond_f c hm
     refine Runs.skip ?_
     refine Runs.sr ?_
     refine WR.d hE 3 [.int .i64 c_.Job.At, .int .i64 c_.Job.Gen] [(41, .pointer (some ⟨p_d, 0, none⟩)), (43, .agg #[.int .i64 c_.Job.At, .int .i64 c_.Job.Gen])] (obs := [.cell ⟨r, 2, none⟩ (.int .i64 c_.Job.At), .cell ⟨r, 3, none⟩ (.int .i64 c_.Job.Gen)]) ⟨H.cell 4 rfl rfl, H.cell 4 rfl rfl, trivial⟩ fun a hE => ?_
     replace H := thicketref22_Dispatcher.shut al_d (d) H.t2.t1.t2
     obtain ⟨t_2, et_2, hm⟩ := bind_some hm
     refine WR.eff hE rfl rfl rfl rfl (OpTo.fn hE rfl rfl Tryz.call77 (thicketref22_Dispatcher_at_ok et_2 H)) ?_
     rintro _ w ⟨rfl, H⟩ a hE
     refine WR.e0 hE [(6, .int .i64 t_2.1)] fun a hE => ?_
     refine Runs.seq ?_
     refine Runs.sr ?_
     refine WR.e hE [.int .i64 c_.Kind] [(47, .bool (c_.Kind == 3))] (obs := [.cell ⟨r, 0, none⟩ (.int .i64 c_.Kind)]) ⟨H.cell 2 rfl rfl, trivial⟩ fun a hE => ?_
     refine Runs.cond hE rfl (fun c => ?_) (fun c => ?_)
     ·replace hm := cond_t c hm
      refine Runs.sr ?_
      refine WR.d0 hE 2 [(48, .pointer (some ⟨p_d, 0, none⟩)), (49, .int .i64 t_2.1)] fun a hE => ?_
      obtain ⟨t_3, et_3, hm⟩ := bind_some hm
      refine WR.eff hE rfl rfl rfl rfl (OpTo.fn hE rfl rfl Tryz.call78 (thicketref22_Dispatcher_out_ok et_3 H)) ?_
      rintro _ w ⟨z3, z4, z5, rfl, H⟩ a hE
      refine WR.eff hE rfl rfl rfl rfl (OpTo.new hE H [] (.cells #[.int .i64 0, .int .i64 0, .int .i64 0, .int .i64 0, .int .i64 0, .int .i64 0] 148 (0, 0)) (fun r => .pointer (some ⟨r, 0, none⟩)) (obs := []) rfl (fun _ => by kernel_rfl) trivial) ?_
      rintro _ w ⟨r2, rfl, H⟩ a hE
      refine WR.eff0 hE rfl rfl rfl (OpTo.store hE H rfl rfl rfl rfl rfl rfl (Nat.le_of_ble_eq_true rfl)) ?_
      rintro _ w H a hE
      refine WR.done rfl ?_
      refine Runs.sr ?_
      refine WR.d hE 6 [.int .i64 t_3.1.E.Key, .int .i64 t_3.1.Data] [(56, .agg #[.int .i64 0, .int .i64 0, .int .i64 0, .int .i64 t_3.1.E.Key, .int .i64 t_3.1.Data, .int .i64 0])] (obs := [.cell ⟨r2, 2, none⟩ (.int .i64 t_3.1.E.Key), .cell ⟨r2, 1, none⟩ (.int .i64 t_3.1.Data)]) ⟨H.cell 0 rfl rfl, H.cell 0 rfl rfl, trivial⟩ fun a hE => ?_
      refine WR.eff0 hE rfl rfl rfl (OpTo.store hE H.t2 rfl rfl rfl rfl rfl rfl (Nat.le_of_ble_eq_true rfl)) ?_
      rintro _ w H a hE
      refine WR.done rfl ?_
      refine Runs.retO (vs := [.agg #[.int .i64 0, .int .i64 0, .int .i64 0, .int .i64 t_3.1.E.Key, .int .i64 t_3.1.Data, .int .i64 0]]) (obs := [.cell ⟨r1, 0, none⟩ (.int .i64 0), .cell ⟨r1, 1, none⟩ (.int .i64 0), .cell ⟨r1, 2, none⟩ (.int .i64 0), .cell ⟨r1, 3, none⟩ (.int .i64 t_3.1.E.Key), .cell ⟨r1, 4, none⟩ (.int .i64 t_3.1.Data), .cell ⟨r1, 5, none⟩ (.int .i64 0)]) hE Tryz.func36 rfl [.int .i64 0, .int .i64 0, .int .i64 0, .int .i64 t_3.1.E.Key, .int .i64 t_3.1.Data, .int .i64 0] (by kernel_rfl) ⟨H.cell 0 rfl rfl, H.cell 0 rfl rfl, H.cell 0 rfl rfl, H.cell 0 rfl rfl, H.cell 0 rfl rfl, H.cell 0 rfl rfl, trivial⟩ ?_
      cases hm
      dsimp only at hR; cases hR
      exact ⟨z3, z4, z5, rfl, H.x3.x1.x0⟩
     ·replace hm := cond_f c hm
      refine Runs.skip ?_
      refine Runs.seq ?_
      refine Runs.seq ?_
      refine Runs.drawn mixed (by kernel_rfl) ?_
      replace H := H.drew
      replace H := thicketref22_Dispatcher.open H
      obtain ⟨x, ex, hm⟩ := bind_some hm
      obtain ⟨b, o, hs, hb⟩ := SlRd.base (sl_rd 148 thicketref22_Job.enc 6 _ _ _) thicketref22_Job.enc_ok H 2 rfl ex
      refine WQ.d hE [0, 1, 2, 3, 4, 5, 6, 7, 8, 9, 10, 11] [.int .i64 c_.Time, .slice al_d.L_b t_2.2.L.length al_d.L_c, .pointer (some ⟨b, o, none⟩), .int .i64 x.E.Key] [(68, .bool (decide (c_.Time > x.E.Key)))] (obs := [.cell ⟨r, 4, none⟩ (.int .i64 c_.Time), .cell ⟨p_d, 4, none⟩ (.slice al_d.L_b t_2.2.L.length al_d.L_c), .p ((al_d.L_b : Option Addr) = some ⟨b, o, none⟩), .p (0 ≤ (t_2.1 : Int) ∧ (t_2.1 : Int) < ((t_2.2.L.length : Nat) : Int)), .cell ⟨b, o + (Int.toNat t_2.1) * 6 + 2, none⟩ (.int .i64 x.E.Key)]) ⟨H.cell 4 rfl rfl, H.cell 0 rfl rfl, hs, hb, SlRd.cells (sl_rd 148 thicketref22_Job.enc 6 _ _ _) thicketref22_Job.enc_ok H 2 rfl hs ex 2 _ rfl, trivial⟩ fun a hE => ?_
      refine WQ.done (by kernel_rfl) ?_
      refine Runs.cond hE rfl (fun c => ?_) (fun c => ?_)
      ·replace hm := cond_t c hm
       refine Runs.sr ?_
       refine WR.d0 hE 1 [(69, .agg #[.int .i64 26, .int .i64 0, .int .i64 0, .int .i64 0, .int .i64 0, .int .i64 0])] fun a hE => ?_
       refine WR.eff0 hE rfl rfl rfl (OpTo.store hE H.t3 rfl rfl rfl rfl rfl rfl (Nat.le_of_ble_eq_true rfl)) ?_
       rintro _ w H a hE
       refine WR.done rfl ?_
       refine Runs.retO (vs := [.agg #[.int .i64 26, .int .i64 0, .int .i64 0, .int .i64 0, .int .i64 0, .int .i64 0]]) (obs := [.cell ⟨r1, 0, none⟩ (.int .i64 26), .cell ⟨r1, 1, none⟩ (.int .i64 0), .cell ⟨r1, 2, none⟩ (.int .i64 0), .cell ⟨r1, 3, none⟩ (.int .i64 0), .cell ⟨r1, 4, none⟩ (.int .i64 0), .cell ⟨r1, 5, none⟩ (.int .i64 0)]) hE Tryz.func36 rfl [.int .i64 26, .int .i64 0, .int .i64 0, .int .i64 0, .int .i64 0, .int .i64 0] (by kernel_rfl) ⟨H.cell 0 rfl rfl, H.cell 0 rfl rfl, H.cell 0 rfl rfl, H.cell 0 rfl rfl, H.cell 0 rfl rfl, H.cell 0 rfl rfl, trivial⟩ ?_
       replace H := thicketref22_Dispatcher.shut al_d (t_2.2) H.t3.t3.t3
       cases hm
       dsimp only at hR; cases hR
       exact ⟨al_d.Pool_a, al_d.L_b, al_d.L_c, rfl, H.x2.x1⟩
      ·replace hm := cond_f c hm
       refine Runs.skip ?_
       refine Runs.seq ?_
       refine Runs.drawn mixed (by kernel_rfl) ?_
       replace H := H.drew
       obtain ⟨x1, ex1, hm⟩ := bind_some hm
       obtain ⟨b1, o1, hs1, hb1⟩ := SlRd.base (sl_rd 148 thicketref22_Job.enc 6 _ _ _) thicketref22_Job.enc_ok H 2 rfl ex1
       refine WQ.d hE [0, 1, 2, 3, 4, 5, 6, 7, 8, 9] [.slice al_d.L_b t_2.2.L.length al_d.L_c, .int .i64 c_.Time, .pointer (some ⟨b1, o1, none⟩)] [(76, .int .i64 c_.Time), (79, .pointer (some ⟨b1, o1 + (Int.toNat t_2.1) * 6 + 2, none⟩))] (obs := [.cell ⟨p_d, 4, none⟩ (.slice al_d.L_b t_2.2.L.length al_d.L_c), .cell ⟨r, 4, none⟩ (.int .i64 c_.Time), .p ((al_d.L_b : Option Addr) = some ⟨b1, o1, none⟩), .p (0 ≤ (t_2.1 : Int) ∧ (t_2.1 : Int) < ((t_2.2.L.length : Nat) : Int))]) ⟨H.cell 0 rfl rfl, H.cell 4 rfl rfl, hs1, hb1, trivial⟩ fun a hE => ?_
       refine WQ.eff0 (j := 10) (obs := []) hE (by kernel_rfl) rfl rfl rfl (by kernel_rfl) (OpTo.storeSl (q := 2) (x' := (thicketref22_Job.mk x1.Queue x1.Data (api_Entry.mk c_.Time x1.E.Serial) x1.R)) hE H.t2 thicketref22_Job.enc_ok rfl hs1 ex1 rfl rfl rfl rfl rfl (Nat.le_of_ble_eq_true rfl) rfl) ?_
       rintro _ w H
       rw [← mSet_len t_2.2.L t_2.1 (thicketref22_Job.mk x1.Queue x1.Data (api_Entry.mk c_.Time x1.E.Serial) x1.R)] at H
       refine ⟨trivial, fun a hE => ?_⟩
       refine WQ.done (by kernel_rfl) ?_
       refine Runs.seq ?_
       refine Runs.drawn mixed (by kernel_rfl) ?_
       replace H := H.drew
       obtain ⟨x2, ex2, hm⟩ := bind_some hm
       obtain ⟨b2, o2, hs2, hb2⟩ := SlRd.base (sl_rd 148 thicketref22_Job.enc 6 _ _ _) thicketref22_Job.enc_ok H 0 rfl ex2
       refine WQ.d hE [0, 1, 2, 3, 4, 5, 6, 7, 8, 9, 10] [.int .i64 c_.Time, .slice al_d.L_b ((mSet t_2.2.L t_2.1 (thicketref22_Job.mk x1.Queue x1.Data (api_Entry.mk c_.Time x1.E.Serial) x1.R)).length) al_d.L_c, .pointer (some ⟨b2, o2, none⟩), .int .i64 x2.Data] [(90, .agg #[.int .i64 0, .int .i64 0, .int .i64 0, .int .i64 c_.Time, .int .i64 x2.Data, .int .i64 0])] (obs := [.cell ⟨r, 4, none⟩ (.int .i64 c_.Time), .cell ⟨p_d, 4, none⟩ (.slice al_d.L_b ((mSet t_2.2.L t_2.1 (thicketref22_Job.mk x1.Queue x1.Data (api_Entry.mk c_.Time x1.E.Serial) x1.R)).length) al_d.L_c), .p ((al_d.L_b : Option Addr) = some ⟨b2, o2, none⟩), .p (0 ≤ (t_2.1 : Int) ∧ (t_2.1 : Int) < (((mSet t_2.2.L t_2.1 (thicketref22_Job.mk x1.Queue x1.Data (api_Entry.mk c_.Time x1.E.Serial) x1.R)).length : Nat) : Int)), .cell ⟨b2, o2 + (Int.toNat t_2.1) * 6 + 1, none⟩ (.int .i64 x2.Data)]) ⟨H.cell 4 rfl rfl, H.cell 1 rfl rfl, hs2, hb2, SlRd.cells (sl_rd 148 thicketref22_Job.enc 6 _ _ _) thicketref22_Job.enc_ok H 0 rfl hs2 ex2 1 _ rfl, trivial⟩ fun a hE => ?_
       refine WQ.eff0 (j := 11) (obs := []) hE (by kernel_rfl) rfl rfl rfl (by kernel_rfl) (OpTo.store hE H.t3 rfl rfl rfl rfl rfl rfl (Nat.le_of_ble_eq_true rfl)) ?_
       rintro _ w H
       refine ⟨trivial, fun a hE => ?_⟩
       refine WQ.done (by kernel_rfl) ?_
       refine Runs.retO (vs := [.agg #[.int .i64 0, .int .i64 0, .int .i64 0, .int .i64 c_.Time, .int .i64 x2.Data, .int .i64 0]]) (obs := [.cell ⟨r1, 0, none⟩ (.int .i64 0), .cell ⟨r1, 1, none⟩ (.int .i64 0), .cell ⟨r1, 2, none⟩ (.int .i64 0), .cell ⟨r1, 3, none⟩ (.int .i64 c_.Time), .cell ⟨r1, 4, none⟩ (.int .i64 x2.Data), .cell ⟨r1, 5, none⟩ (.int .i64 0)]) hE Tryz.func36 rfl [.int .i64 0, .int .i64 0, .int .i64 0, .int .i64 c_.Time, .int .i64 x2.Data, .int .i64 0] (by kernel_rfl) ⟨H.cell 0 rfl rfl, H.cell 0 rfl rfl, H.cell 0 rfl rfl, H.cell 0 rfl rfl, H.cell 0 rfl rfl, H.cell 0 rfl rfl, trivial⟩ ?_
       replace H := thicketref22_Dispatcher.shut al_d (thicketref22_Dispatcher.mk t_2.2.Most t_2.2.Now t_2.2.Next t_2.2.Pool (mSet t_2.2.L t_2.1 (thicketref22_Job.mk x1.Queue x1.Data (api_Entry.mk c_.Time x1.E.Serial) x1.R))) H.t1.t3.t3
       cases hm
       dsimp only at hR; cases hR
       exact ⟨al_d.Pool_a, al_d.L_b, al_d.L_c, rfl, H.x2.x1⟩
   ·replace hm := cond_f c hm
    refine Runs.sr ?_
    refine WR.seg hE 2 [] [0, 3, 4, 91] (Lo := [(0, .pointer (some ⟨p_d, 0, none⟩)), (3, .pointer (some ⟨r, 0, none⟩)), (4, .pointer (some ⟨r1, 0, none⟩)), (91, .bool (c_.Kind == 4))]) (obs := []) rfl (by kernel_rfl) trivial fun a hE => ?_
    refine WR.done rfl ?_
    refine Runs.cond hE rfl (fun c => ?_) (fun c => ?_)
    ·replace hm := cond_t c hm
     refine Runs.seq ?_
     refine Runs.sr ?_
     refine WR.e hE [.int .i64 c_.Time] [(95, .bool (decide (c_.Time < 0)))] (obs := [.cell ⟨r, 4, none⟩ (.int .i64 c_.Time)]) ⟨H.cell 1 rfl rfl, trivial⟩ fun a hE => ?_
     refine Runs.cond hE rfl (fun c => ?_) (fun c => ?_)
     ·replace hm := cond_t c hm
      refine Runs.sr ?_
      refine WR.d0 hE 1 [(96, .agg #[.int .i64 1, .int .i64 0, .int .i64 0, .int .i64 0, .int .i64 0, .int .i64 0])] fun a hE => ?_
      refine WR.eff0 hE rfl rfl rfl (OpTo.store hE H rfl rfl rfl rfl rfl rfl (Nat.le_of_ble_eq_true rfl)) ?_
      rintro _ w H a hE
      refine WR.done rfl ?_
      refine Runs.retO (vs := [.agg #[.int .i64 1, .int .i64 0, .int .i64 0, .int .i64 0, .int .i64 0, .int .i64 0]]) (obs := [.cell ⟨r1, 0, none⟩ (.int .i64 1), .cell ⟨r1, 1, none⟩ (.int .i64 0), .cell ⟨r1, 2, none⟩ (.int .i64 0), .cell ⟨r1, 3, none⟩ (.int .i64 0), .cell ⟨r1, 4, none⟩ (.int .i64 0), .cell ⟨r1, 5, none⟩ (.int .i64 0)]) hE Tryz.func36 rfl [.int .i64 1, .int .i64 0, .int .i64 0, .int .i64 0, .int .i64 0, .int .i64 0] (by kernel_rfl) ⟨H.cell 0 rfl rfl, H.cell 0 rfl rfl, H.cell 0 rfl rfl, H.cell 0 rfl rfl, H.cell 0 rfl rfl, H.cell 0 rfl rfl, trivial⟩ ?_
      cases hm
      dsimp only at hR; cases hR
      exact ⟨al_d.Pool_a, al_d.L_b, al_d.L_c, rfl, H.x1.x0⟩
     ·replace hm := cond_f c hm
      refine Runs.skip ?_
      refine Runs.seq ?_
      refine Runs.drawn mixed (by kernel_rfl) ?_
      replace H := H.drew
      replace H := thicketref22_Dispatcher.open H.t2
      refine WQ.d hE [0, 1, 2, 3, 4, 5, 6] [.int .i64 d.Now, .int .i64 c_.Time] [(97, .pointer (some ⟨p_d, 0, none⟩)), (101, .int .i64 d.Now), (103, .int .i64 c_.Time)] (obs := [.cell ⟨p_d, 1, none⟩ (.int .i64 d.Now), .cell ⟨r, 4, none⟩ (.int .i64 c_.Time)]) ⟨H.cell 0 rfl rfl, H.cell 4 rfl rfl, trivial⟩ fun a hE => ?_
      obtain ⟨t_4, et_4, hm⟩ := bind_some hm
      refine WQ.eff (j := 7) (obs := []) hE (by kernel_rfl) rfl rfl rfl rfl (by kernel_rfl) (OpTo.fn hE rfl rfl Tryz.call79 (thicketref1_Add_ok et_4 H)) ?_
      rintro _ w ⟨rfl, H⟩
      refine ⟨trivial, fun a hE => ?_⟩
      refine WQ.d0 hE [8, 9] [(106, .pointer (some ⟨p_d, 1, none⟩))] fun a hE => ?_
      refine WQ.eff0 (j := 10) (obs := []) hE (by kernel_rfl) rfl rfl rfl (by kernel_rfl) (OpTo.store hE H rfl rfl rfl rfl rfl rfl (Nat.le_of_ble_eq_true rfl)) ?_
      rintro _ w H
      refine ⟨trivial, fun a hE => ?_⟩
      refine WQ.done (by kernel_rfl) ?_
      refine Runs.sr ?_
      refine WR.d hE 5 [.int .i64 t_4] [(111, .agg #[.int .i64 0, .int .i64 0, .int .i64 0, .int .i64 t_4, .int .i64 0, .int .i64 0])] (obs := [.cell ⟨p_d, 1, none⟩ (.int .i64 t_4)]) ⟨H.cell 0 rfl rfl, trivial⟩ fun a hE => ?_
      refine WR.eff0 hE rfl rfl rfl (OpTo.store hE H.t3 rfl rfl rfl rfl rfl rfl (Nat.le_of_ble_eq_true rfl)) ?_
      rintro _ w H a hE
      refine WR.done rfl ?_
      refine Runs.retO (vs := [.agg #[.int .i64 0, .int .i64 0, .int .i64 0, .int .i64 t_4, .int .i64 0, .int .i64 0]]) (obs := [.cell ⟨r1, 0, none⟩ (.int .i64 0), .cell ⟨r1, 1, none⟩ (.int .i64 0), .cell ⟨r1, 2, none⟩ (.int .i64 0), .cell ⟨r1, 3, none⟩ (.int .i64 t_4), .cell ⟨r1, 4, none⟩ (.int .i64 0), .cell ⟨r1, 5, none⟩ (.int .i64 0)]) hE Tryz.func36 rfl [.int .i64 0, .int .i64 0, .int .i64 0, .int .i64 t_4, .int .i64 0, .int .i64 0] (by kernel_rfl) ⟨H.cell 0 rfl rfl, H.cell 0 rfl rfl, H.cell 0 rfl rfl, H.cell 0 rfl rfl, H.cell 0 rfl rfl, H.cell 0 rfl rfl, trivial⟩ ?_
      replace H := thicketref22_Dispatcher.shut al_d (thicketref22_Dispatcher.mk d.Most t_4 d.Next d.Pool d.L) H.t3.t3.t3
      cases hm
      dsimp only at hR; cases hR
      exact ⟨al_d.Pool_a, al_d.L_b, al_d.L_c, rfl, H.x2.x1⟩
    ·replace hm := cond_f c hm
     refine Runs.skip ?_
     refine Runs.inBlock ?_
     cases hm
     exact hk _ _ ⟨_, rfl, hE.sel [4] (by kernel_rfl), H.x1.t1.t1⟩
 rintro a w ⟨s1, rfl, hE, H⟩
 replace hm := hR; dsimp only at hm
 refine Runs.sr ?_
 refine WR.seg hE 1 [] [4, 112] (Lo := [(4, .pointer (some ⟨r1, 0, none⟩)), (112, .agg #[.int .i64 12, .int .i64 0, .int .i64 0, .int .i64 0, .int .i64 0, .int .i64 0])]) (obs := []) rfl (by kernel_rfl) trivial fun a hE => ?_
 refine WR.eff0 hE rfl rfl rfl (OpTo.store hE H rfl rfl rfl rfl rfl rfl (Nat.le_of_ble_eq_true rfl)) ?_
 rintro _ w H a hE
 refine WR.done rfl ?_
 refine Runs.retO (vs := [.agg #[.int .i64 12, .int .i64 0, .int .i64 0, .int .i64 0, .int .i64 0, .int .i64 0]]) (obs := [.cell ⟨r1, 0, none⟩ (.int .i64 12), .cell ⟨r1, 1, none⟩ (.int .i64 0), .cell ⟨r1, 2, none⟩ (.int .i64 0), .cell ⟨r1, 3, none⟩ (.int .i64 0), .cell ⟨r1, 4, none⟩ (.int .i64 0), .cell ⟨r1, 5, none⟩ (.int .i64 0)]) hE Tryz.func36 rfl [.int .i64 12, .int .i64 0, .int .i64 0, .int .i64 0, .int .i64 0, .int .i64 0] (by kernel_rfl) ⟨H.cell 0 rfl rfl, H.cell 0 rfl rfl, H.cell 0 rfl rfl, H.cell 0 rfl rfl, H.cell 0 rfl rfl, H.cell 0 rfl rfl, trivial⟩ ?_
 cases hm
 exact ⟨al_d.Pool_a, al_d.L_b, al_d.L_c, rfl, H.x0⟩

theorem dispatch_Dispatcher_Last_ok {w0 w : World} {As : List HP} {p_d : Nat} {al_d : dispatch_Dispatcher.A} {d : dispatch_Dispatcher} {t : Int}  (hm : dispatch_Dispatcher_Last d = some t) (H : St w0 (dispatch_Dispatcher.R p_d al_d d :: As) w) :
    CallsR Tryz.prog 37 #[.pointer (some ⟨p_d, 0, none⟩)] w fun v w' => v = .int .i64 t ∧ St w0 (dispatch_Dispatcher.R p_d al_d d :: As) w' := by
 rw [dispatch_Dispatcher_Last] at hm
 refine enter (args := [.pointer (some ⟨p_d, 0, none⟩)]) Tryz.func37 rfl rfl rfl fun a hE => ?_
 refine Runs.sr ?_
 refine WR.seg hE 1 [] [0] (Lo := [(0, .pointer (some ⟨p_d, 0, none⟩))]) (obs := []) rfl (by kernel_rfl) trivial fun a hE => ?_
 refine WR.done rfl ?_
 refine Runs.sr ?_
 replace H := dispatch_Dispatcher.open H
 refine WR.e hE [.int .i64 d.last] [(2, .int .i64 d.last)] (obs := [.cell ⟨p_d, 11, none⟩ (.int .i64 d.last)]) ⟨H.cell 0 rfl rfl, trivial⟩ fun a hE => ?_
 replace H := dispatch_Dispatcher.shut al_d (d) H.t4.t4.t4.t4.t4
 refine Runs.ret hE Tryz.func37 rfl rfl ?_
 cases hm
 exact ⟨rfl, H⟩

theorem dispatch_Dispatcher_Budget_ok {w0 w : World} {As : List HP} {p_d : Nat} {al_d : dispatch_Dispatcher.A} {d : dispatch_Dispatcher} {t : Int}  (hm : dispatch_Dispatcher_Budget d = some t) (H : St w0 (dispatch_Dispatcher.R p_d al_d d :: As) w) :
    CallsR Tryz.prog 13 #[.pointer (some ⟨p_d, 0, none⟩)] w fun v w' => v = .int .i64 t ∧ St w0 (dispatch_Dispatcher.R p_d al_d d :: As) w' := by
 rw [dispatch_Dispatcher_Budget] at hm
 refine enter (args := [.pointer (some ⟨p_d, 0, none⟩)]) Tryz.func13 rfl rfl rfl fun a hE => ?_
 refine Runs.sr ?_
 refine WR.seg hE 1 [] [0] (Lo := [(0, .pointer (some ⟨p_d, 0, none⟩))]) (obs := []) rfl (by kernel_rfl) trivial fun a hE => ?_
 refine WR.done rfl ?_
 refine Runs.sr ?_
 replace H := dispatch_Dispatcher.open H
 refine WR.e hE [.int .i64 d.budget] [(2, .int .i64 d.budget)] (obs := [.cell ⟨p_d, 10, none⟩ (.int .i64 d.budget)]) ⟨H.cell 0 rfl rfl, trivial⟩ fun a hE => ?_
 replace H := dispatch_Dispatcher.shut al_d (d) H.t4.t4.t4.t4.t4
 refine Runs.ret hE Tryz.func13 rfl rfl ?_
 cases hm
 exact ⟨rfl, H⟩

theorem dispatch_Dispatcher_Most_ok {w0 w : World} {As : List HP} {p_d : Nat} {al_d : dispatch_Dispatcher.A} {d : dispatch_Dispatcher} {t : Int}  (hm : dispatch_Dispatcher_Most d = some t) (H : St w0 (dispatch_Dispatcher.R p_d al_d d :: As) w) :
    CallsR Tryz.prog 38 #[.pointer (some ⟨p_d, 0, none⟩)] w fun v w' => v = .int .i64 t ∧ St w0 (dispatch_Dispatcher.R p_d al_d d :: As) w' := by
 rw [dispatch_Dispatcher_Most] at hm
 refine enter (args := [.pointer (some ⟨p_d, 0, none⟩)]) Tryz.func38 rfl rfl rfl fun a hE => ?_
 refine Runs.sr ?_
 refine WR.seg hE 1 [] [0] (Lo := [(0, .pointer (some ⟨p_d, 0, none⟩))]) (obs := []) rfl (by kernel_rfl) trivial fun a hE => ?_
 refine WR.done rfl ?_
 refine Runs.sr ?_
 replace H := dispatch_Dispatcher.open H
 refine WR.e hE [.int .i64 d.top] [(2, .int .i64 d.top)] (obs := [.cell ⟨p_d, 12, none⟩ (.int .i64 d.top)]) ⟨H.cell 0 rfl rfl, trivial⟩ fun a hE => ?_
 replace H := dispatch_Dispatcher.shut al_d (d) H.t4.t4.t4.t4.t4
 refine Runs.ret hE Tryz.func38 rfl rfl ?_
 cases hm
 exact ⟨rfl, H⟩

theorem dispatch_Dispatcher_Now_ok {w0 w : World} {As : List HP} {p_d : Nat} {al_d : dispatch_Dispatcher.A} {d : dispatch_Dispatcher} {t : Int}  (hm : dispatch_Dispatcher_Now d = some t) (H : St w0 (dispatch_Dispatcher.R p_d al_d d :: As) w) :
    CallsR Tryz.prog 39 #[.pointer (some ⟨p_d, 0, none⟩)] w fun v w' => v = .int .i64 t ∧ St w0 (dispatch_Dispatcher.R p_d al_d d :: As) w' := by
 rw [dispatch_Dispatcher_Now] at hm
 refine enter (args := [.pointer (some ⟨p_d, 0, none⟩)]) Tryz.func39 rfl rfl rfl fun a hE => ?_
 refine Runs.sr ?_
 refine WR.seg hE 1 [] [0] (Lo := [(0, .pointer (some ⟨p_d, 0, none⟩))]) (obs := []) rfl (by kernel_rfl) trivial fun a hE => ?_
 refine WR.done rfl ?_
 refine Runs.sr ?_
 replace H := dispatch_Dispatcher.open H
 refine WR.d hE 4 [.pointer (some ⟨al_d.clock_p, 0, none⟩)] [(6, .pointer (some ⟨al_d.clock_p, 0, none⟩))] (obs := [.cell ⟨p_d, 9, none⟩ (.pointer (some ⟨al_d.clock_p, 0, none⟩))]) ⟨H.cell 0 rfl rfl, trivial⟩ fun a hE => ?_
 obtain ⟨t_, et_, hm⟩ := bind_some hm
 refine WR.eff hE rfl rfl rfl rfl (OpTo.fn hE rfl rfl Tryz.call80 (clock_Clock_Now_ok et_ H.t4)) ?_
 rintro _ w ⟨rfl, H⟩ a hE
 refine WR.e0 hE [(2, .int .i64 t_)] fun a hE => ?_
 replace H := dispatch_Dispatcher.shut al_d (d) H.t4.t4.t4.t4
 refine Runs.ret hE Tryz.func39 rfl rfl ?_
 cases hm
 exact ⟨rfl, H⟩

theorem dispatch_Dispatcher_Len_ok {w0 w : World} {As : List HP} {p_d : Nat} {al_d : dispatch_Dispatcher.A} {d : dispatch_Dispatcher} {t : Int}  (hm : dispatch_Dispatcher_Len d = some t) (H : St w0 (dispatch_Dispatcher.R p_d al_d d :: As) w) :
    CallsR Tryz.prog 40 #[.pointer (some ⟨p_d, 0, none⟩)] w fun v w' => v = .int .i64 t ∧ St w0 (dispatch_Dispatcher.R p_d al_d d :: As) w' := by
 rw [dispatch_Dispatcher_Len] at hm
 refine enter (args := [.pointer (some ⟨p_d, 0, none⟩)]) Tryz.func40 rfl rfl rfl fun a hE => ?_
 refine Runs.sr ?_
 refine WR.seg hE 1 [] [0] (Lo := [(0, .pointer (some ⟨p_d, 0, none⟩))]) (obs := []) rfl (by kernel_rfl) trivial fun a hE => ?_
 refine WR.done rfl ?_
 refine Runs.sr ?_
 replace H := dispatch_Dispatcher.open H
 refine WR.d hE 4 [.pointer (some ⟨al_d.t__p, 0, none⟩)] [(6, .pointer (some ⟨al_d.t__p, 0, none⟩))] (obs := [.cell ⟨p_d, 7, none⟩ (.pointer (some ⟨al_d.t__p, 0, none⟩))]) ⟨H.cell 0 rfl rfl, trivial⟩ fun a hE => ?_
 obtain ⟨t_, et_, hm⟩ := bind_some hm
 refine WR.eff hE rfl rfl rfl rfl (OpTo.fn hE rfl rfl Tryz.call81 (jobs_Table_Len_ok et_ H.t2)) ?_
 rintro _ w ⟨rfl, H⟩ a hE
 refine WR.e0 hE [(2, .int .i64 t_)] fun a hE => ?_
 replace H := dispatch_Dispatcher.shut al_d (d) H.t4.t4.t2.t4.t4
 refine Runs.ret hE Tryz.func40 rfl rfl ?_
 cases hm
 exact ⟨rfl, H⟩

theorem thicketlaw27_world_do_ok {w0 w : World} {As : List HP} {k : Nat} {p_w_ : Nat} {al_w_ : thicketlaw27_world.A} {w_ : thicketlaw27_world} {c_ : api_Command} {t : Bool × thicketlaw27_world}  (hm : thicketlaw27_world_do k w_ c_ = some t) (H : St w0 (thicketlaw27_world.R p_w_ al_w_ w_ :: As) w) :
    CallsR Tryz.prog 22 #[.pointer (some ⟨p_w_, 0, none⟩), .agg #[.int .i64 c_.Kind, .int .i64 c_.Queue, .int .i64 c_.Job.At, .int .i64 c_.Job.Gen, .int .i64 c_.Time, .int .i64 c_.Data]] w fun v w' => ∃ (z_w__d_a : dispatch_Dispatcher.A), ∃ (z_w__m__a : thicketref22_Dispatcher.A), ∃ (z_w__told_b : Option Addr), ∃ (z_w__told_c : Nat), v = .bool t.1 ∧ St w0 (thicketlaw27_world.R p_w_ (thicketlaw27_world.A.mk al_w_.d_p z_w__d_a al_w_.m__p z_w__m__a z_w__told_b z_w__told_c) t.2 :: As) w' := by
 rw [thicketlaw27_world_do] at hm
 refine enter (args := [.pointer (some ⟨p_w_, 0, none⟩), .agg #[.int .i64 c_.Kind, .int .i64 c_.Queue, .int .i64 c_.Job.At, .int .i64 c_.Job.Gen, .int .i64 c_.Time, .int .i64 c_.Data]]) Tryz.func22 rfl rfl rfl fun a hE => ?_
 refine Runs.sr ?_
 refine WR.eff hE rfl rfl rfl rfl (OpTo.new hE H [] (.cells #[.int .i64 c_.Kind, .int .i64 c_.Queue, .int .i64 c_.Job.At, .int .i64 c_.Job.Gen, .int .i64 c_.Time, .int .i64 c_.Data] 28 (0, 0)) (fun r => .pointer (some ⟨r, 0, none⟩)) (obs := []) rfl (fun _ => by kernel_rfl) trivial) ?_
 rintro _ w ⟨r, rfl, H⟩ a hE
 refine WR.seg hE 2 [] [0, 3] (Lo := [(0, .pointer (some ⟨p_w_, 0, none⟩)), (3, .pointer (some ⟨r, 0, none⟩))]) (obs := []) rfl (by kernel_rfl) trivial fun a hE => ?_
 refine WR.done rfl ?_
 refine Runs.seq ?_
 obtain ⟨t_, et_, hm⟩ := bind_some hm
 obtain ⟨t_1, et_1, hm⟩ := bind_some hm
 refine Runs.join (fun a w => ∃ (r3 : Nat), ∃ (r4 : Nat), ∃ (z5 : dispatch_Dispatcher.A), ∃ (z6 : thicketref22_Dispatcher.A), EnvOk 106 a [(0, .pointer (some ⟨p_w_, 0, none⟩)), (3, .pointer (some ⟨r, 0, none⟩)), (5, .pointer (some ⟨r3, 0, none⟩)), (6, .pointer (some ⟨r4, 0, none⟩))] ∧ St w0 (Blk r3 60 [.int .i64 t_.1.Why, .int .i64 t_.1.Job.At, .int .i64 t_.1.Job.Gen, .int .i64 t_.1.Time, .int .i64 t_.1.Data, .int .i64 t_.1.N] :: Blk r4 60 [.int .i64 t_1.1.Why, .int .i64 t_1.1.Job.At, .int .i64 t_1.1.Job.Gen, .int .i64 t_1.1.Time, .int .i64 t_1.1.Data, .int .i64 t_1.1.N] :: Blk r 28 [.int .i64 c_.Kind, .int .i64 c_.Queue, .int .i64 c_.Job.At, .int .i64 c_.Job.Gen, .int .i64 c_.Time, .int .i64 c_.Data] :: thicketlaw27_world.R p_w_ (thicketlaw27_world.A.mk al_w_.d_p z5 al_w_.m__p z6 al_w_.told_b al_w_.told_c) (thicketlaw27_world.mk t_.2 t_1.2 w_.k_ w_.told) :: As) w) (fun hk => ?_) ?_
 ·refine Runs.drawn mixed (by kernel_rfl) ?_
  replace H := H.drew
  replace H := thicketlaw27_world.open H.t1
  refine WQ.d hE [0, 1, 2, 3, 4, 6, 7, 8, 9, 10] [.pointer (some ⟨al_w_.d_p, 0, none⟩), .int .i64 c_.Kind, .int .i64 c_.Queue, .int .i64 c_.Job.At, .int .i64 c_.Job.Gen, .int .i64 c_.Time, .int .i64 c_.Data, .pointer (some ⟨al_w_.m__p, 0, none⟩), .int .i64 c_.Kind, .int .i64 c_.Queue, .int .i64 c_.Job.At, .int .i64 c_.Job.Gen, .int .i64 c_.Time, .int .i64 c_.Data] [(10, .pointer (some ⟨al_w_.d_p, 0, none⟩)), (11, .agg #[.int .i64 c_.Kind, .int .i64 c_.Queue, .int .i64 c_.Job.At, .int .i64 c_.Job.Gen, .int .i64 c_.Time, .int .i64 c_.Data]), (16, .pointer (some ⟨al_w_.m__p, 0, none⟩)), (17, .agg #[.int .i64 c_.Kind, .int .i64 c_.Queue, .int .i64 c_.Job.At, .int .i64 c_.Job.Gen, .int .i64 c_.Time, .int .i64 c_.Data])] (obs := [.cell ⟨p_w_, 0, none⟩ (.pointer (some ⟨al_w_.d_p, 0, none⟩)), .cell ⟨r, 0, none⟩ (.int .i64 c_.Kind), .cell ⟨r, 1, none⟩ (.int .i64 c_.Queue), .cell ⟨r, 2, none⟩ (.int .i64 c_.Job.At), .cell ⟨r, 3, none⟩ (.int .i64 c_.Job.Gen), .cell ⟨r, 4, none⟩ (.int .i64 c_.Time), .cell ⟨r, 5, none⟩ (.int .i64 c_.Data), .cell ⟨p_w_, 1, none⟩ (.pointer (some ⟨al_w_.m__p, 0, none⟩)), .cell ⟨r, 0, none⟩ (.int .i64 c_.Kind), .cell ⟨r, 1, none⟩ (.int .i64 c_.Queue), .cell ⟨r, 2, none⟩ (.int .i64 c_.Job.At), .cell ⟨r, 3, none⟩ (.int .i64 c_.Job.Gen), .cell ⟨r, 4, none⟩ (.int .i64 c_.Time), .cell ⟨r, 5, none⟩ (.int .i64 c_.Data)]) ⟨H.cell 0 rfl rfl, H.cell 4 rfl rfl, H.cell 4 rfl rfl, H.cell 4 rfl rfl, H.cell 4 rfl rfl, H.cell 4 rfl rfl, H.cell 4 rfl rfl, H.cell 0 rfl rfl, H.cell 4 rfl rfl, H.cell 4 rfl rfl, H.cell 4 rfl rfl, H.cell 4 rfl rfl, H.cell 4 rfl rfl, H.cell 4 rfl rfl, trivial⟩ fun a hE => ?_
  refine WQ.act3 5 12 13 (by kernel_rfl) ?_ ?_ ?_
  ·refine AQ.eff (j := 5) (obs := [.cell ⟨r, 0, none⟩ (.int .i64 c_.Kind), .cell ⟨r, 1, none⟩ (.int .i64 c_.Queue), .cell ⟨r, 2, none⟩ (.int .i64 c_.Job.At), .cell ⟨r, 3, none⟩ (.int .i64 c_.Job.Gen), .cell ⟨r, 4, none⟩ (.int .i64 c_.Time), .cell ⟨r, 5, none⟩ (.int .i64 c_.Data), .cell ⟨p_w_, 1, none⟩ (.pointer (some ⟨al_w_.m__p, 0, none⟩))]) hE rfl rfl rfl rfl (by kernel_rfl) (OpTo.fn hE rfl rfl Tryz.call35 (dispatch_Dispatcher_Do_ok et_ H.t1)) ?_
   rintro _ w ⟨z7, z8, rfl, H⟩
   refine ⟨⟨H.cell 4 rfl rfl, H.cell 4 rfl rfl, H.cell 4 rfl rfl, H.cell 4 rfl rfl, H.cell 4 rfl rfl, H.cell 4 rfl rfl, H.cell 1 rfl rfl, trivial⟩, fun a hE => ?_⟩
   refine WQ.act3 11 12 13 (by kernel_rfl) ?_ ?_ ?_
   ·refine AQ.eff (j := 11) (obs := []) hE rfl rfl rfl rfl (by kernel_rfl) (OpTo.fn hE rfl rfl Tryz.call36 (thicketref22_Dispatcher_Do_ok et_1 H.t2)) ?_
    rintro _ w ⟨z9, z10, z11, rfl, H⟩
    refine ⟨trivial, fun a hE => ?_⟩
    refine WQ.act2 12 13 (by kernel_rfl) ?_ ?_
    ·refine AQ.eff (j := 12) (obs := []) hE rfl rfl rfl rfl (by kernel_rfl) (OpTo.new hE H [] (.cells #[.int .i64 0, .int .i64 0, .int .i64 0, .int .i64 0, .int .i64 0, .int .i64 0] 60 (0, 0)) (fun r => .pointer (some ⟨r, 0, none⟩)) (obs := []) rfl (fun _ => by kernel_rfl) trivial) ?_
     rintro _ w ⟨r5, rfl, H⟩
     refine ⟨trivial, fun a hE => ?_⟩
     refine WQ.eff (j := 13) (obs := []) hE (by kernel_rfl) rfl rfl rfl rfl (by kernel_rfl) (OpTo.new hE H [] (.cells #[.int .i64 0, .int .i64 0, .int .i64 0, .int .i64 0, .int .i64 0, .int .i64 0] 60 (0, 0)) (fun r => .pointer (some ⟨r, 0, none⟩)) (obs := []) rfl (fun _ => by kernel_rfl) trivial) ?_
     rintro _ w ⟨r6, rfl, H⟩
     refine ⟨trivial, fun a hE => ?_⟩
     refine WQ.eff0 (j := 14) (obs := []) hE (by kernel_rfl) rfl rfl rfl (by kernel_rfl) (OpTo.store hE H.t1 rfl rfl rfl rfl rfl rfl (Nat.le_of_ble_eq_true rfl)) ?_
     rintro _ w H
     refine ⟨trivial, fun a hE => ?_⟩
     refine WQ.eff0 (j := 15) (obs := []) hE (by kernel_rfl) rfl rfl rfl (by kernel_rfl) (OpTo.store hE H.t1 rfl rfl rfl rfl rfl rfl (Nat.le_of_ble_eq_true rfl)) ?_
     rintro _ w H
     refine ⟨trivial, fun a hE => ?_⟩
     refine WQ.done (by kernel_rfl) ?_
     replace H := thicketlaw27_world.shut (thicketlaw27_world.A.mk al_w_.d_p (dispatch_Dispatcher.A.mk al_w_.d_a.q_p z7 al_w_.d_a.t__p z8 al_w_.d_a.when_p al_w_.d_a.clock_p) al_w_.m__p (thicketref22_Dispatcher.A.mk al_w_.m__a.Pool_p z9 z10 z11) al_w_.told_b al_w_.told_c) (thicketlaw27_world.mk t_.2 t_1.2 w_.k_ w_.told) H.t5.t3.t4.t5
     exact hk _ _ ⟨r5, r6, dispatch_Dispatcher.A.mk al_w_.d_a.q_p z7 al_w_.d_a.t__p z8 al_w_.d_a.when_p al_w_.d_a.clock_p, thicketref22_Dispatcher.A.mk al_w_.m__a.Pool_p z9 z10 z11, hE.sel [0, 3, 5, 6] (by kernel_rfl), H.t3.t2.t3⟩
    ·refine AQ.eff (j := 13) (obs := []) hE rfl rfl rfl rfl (by kernel_rfl) (OpTo.new hE H [] (.cells #[.int .i64 0, .int .i64 0, .int .i64 0, .int .i64 0, .int .i64 0, .int .i64 0] 60 (0, 0)) (fun r => .pointer (some ⟨r, 0, none⟩)) (obs := []) rfl (fun _ => by kernel_rfl) trivial) ?_
     rintro _ w ⟨r7, rfl, H⟩
     refine ⟨trivial, fun a hE => ?_⟩
     refine WQ.eff (j := 12) (obs := []) hE (by kernel_rfl) rfl rfl rfl rfl (by kernel_rfl) (OpTo.new hE H [] (.cells #[.int .i64 0, .int .i64 0, .int .i64 0, .int .i64 0, .int .i64 0, .int .i64 0] 60 (0, 0)) (fun r => .pointer (some ⟨r, 0, none⟩)) (obs := []) rfl (fun _ => by kernel_rfl) trivial) ?_
     rintro _ w ⟨r8, rfl, H⟩
     refine ⟨trivial, fun a hE => ?_⟩
     refine WQ.eff0 (j := 14) (obs := []) hE (by kernel_rfl) rfl rfl rfl (by kernel_rfl) (OpTo.store hE H rfl rfl rfl rfl rfl rfl (Nat.le_of_ble_eq_true rfl)) ?_
     rintro _ w H
     refine ⟨trivial, fun a hE => ?_⟩
     refine WQ.eff0 (j := 15) (obs := []) hE (by kernel_rfl) rfl rfl rfl (by kernel_rfl) (OpTo.store hE H.t1 rfl rfl rfl rfl rfl rfl (Nat.le_of_ble_eq_true rfl)) ?_
     rintro _ w H
     refine ⟨trivial, fun a hE => ?_⟩
     refine WQ.done (by kernel_rfl) ?_
     replace H := thicketlaw27_world.shut (thicketlaw27_world.A.mk al_w_.d_p (dispatch_Dispatcher.A.mk al_w_.d_a.q_p z7 al_w_.d_a.t__p z8 al_w_.d_a.when_p al_w_.d_a.clock_p) al_w_.m__p (thicketref22_Dispatcher.A.mk al_w_.m__a.Pool_p z9 z10 z11) al_w_.told_b al_w_.told_c) (thicketlaw27_world.mk t_.2 t_1.2 w_.k_ w_.told) H.t5.t3.t4.t5
     exact hk _ _ ⟨r8, r7, dispatch_Dispatcher.A.mk al_w_.d_a.q_p z7 al_w_.d_a.t__p z8 al_w_.d_a.when_p al_w_.d_a.clock_p, thicketref22_Dispatcher.A.mk al_w_.m__a.Pool_p z9 z10 z11, hE.sel [0, 3, 5, 6] (by kernel_rfl), H.t3.t2.t3⟩
   ·refine AQ.eff (j := 12) (obs := [.cell ⟨r, 0, none⟩ (.int .i64 c_.Kind), .cell ⟨r, 1, none⟩ (.int .i64 c_.Queue), .cell ⟨r, 2, none⟩ (.int .i64 c_.Job.At), .cell ⟨r, 3, none⟩ (.int .i64 c_.Job.Gen), .cell ⟨r, 4, none⟩ (.int .i64 c_.Time), .cell ⟨r, 5, none⟩ (.int .i64 c_.Data), .cell ⟨p_w_, 1, none⟩ (.pointer (some ⟨al_w_.m__p, 0, none⟩))]) hE rfl rfl rfl rfl (by kernel_rfl) (OpTo.new hE H [] (.cells #[.int .i64 0, .int .i64 0, .int .i64 0, .int .i64 0, .int .i64 0, .int .i64 0] 60 (0, 0)) (fun r => .pointer (some ⟨r, 0, none⟩)) (obs := []) rfl (fun _ => by kernel_rfl) trivial) ?_
    rintro _ w ⟨r9, rfl, H⟩
    refine ⟨⟨H.cell 5 rfl rfl, H.cell 5 rfl rfl, H.cell 5 rfl rfl, H.cell 5 rfl rfl, H.cell 5 rfl rfl, H.cell 5 rfl rfl, H.cell 2 rfl rfl, trivial⟩, fun a hE => ?_⟩
    refine WQ.act2 11 13 (by kernel_rfl) ?_ ?_
    ·refine AQ.eff (j := 11) (obs := []) hE rfl rfl rfl rfl (by kernel_rfl) (OpTo.fn hE rfl rfl Tryz.call36 (thicketref22_Dispatcher_Do_ok et_1 H.t3)) ?_
     rintro _ w ⟨z12, z13, z14, rfl, H⟩
     refine ⟨trivial, fun a hE => ?_⟩
     refine WQ.eff (j := 13) (obs := []) hE (by kernel_rfl) rfl rfl rfl rfl (by kernel_rfl) (OpTo.new hE H [] (.cells #[.int .i64 0, .int .i64 0, .int .i64 0, .int .i64 0, .int .i64 0, .int .i64 0] 60 (0, 0)) (fun r => .pointer (some ⟨r, 0, none⟩)) (obs := []) rfl (fun _ => by kernel_rfl) trivial) ?_
     rintro _ w ⟨r10, rfl, H⟩
     refine ⟨trivial, fun a hE => ?_⟩
     refine WQ.eff0 (j := 14) (obs := []) hE (by kernel_rfl) rfl rfl rfl (by kernel_rfl) (OpTo.store hE H.t2 rfl rfl rfl rfl rfl rfl (Nat.le_of_ble_eq_true rfl)) ?_
     rintro _ w H
     refine ⟨trivial, fun a hE => ?_⟩
     refine WQ.eff0 (j := 15) (obs := []) hE (by kernel_rfl) rfl rfl rfl (by kernel_rfl) (OpTo.store hE H.t1 rfl rfl rfl rfl rfl rfl (Nat.le_of_ble_eq_true rfl)) ?_
     rintro _ w H
     refine ⟨trivial, fun a hE => ?_⟩
     refine WQ.done (by kernel_rfl) ?_
     replace H := thicketlaw27_world.shut (thicketlaw27_world.A.mk al_w_.d_p (dispatch_Dispatcher.A.mk al_w_.d_a.q_p z7 al_w_.d_a.t__p z8 al_w_.d_a.when_p al_w_.d_a.clock_p) al_w_.m__p (thicketref22_Dispatcher.A.mk al_w_.m__a.Pool_p z12 z13 z14) al_w_.told_b al_w_.told_c) (thicketlaw27_world.mk t_.2 t_1.2 w_.k_ w_.told) H.t5.t3.t4.t5
     exact hk _ _ ⟨r9, r10, dispatch_Dispatcher.A.mk al_w_.d_a.q_p z7 al_w_.d_a.t__p z8 al_w_.d_a.when_p al_w_.d_a.clock_p, thicketref22_Dispatcher.A.mk al_w_.m__a.Pool_p z12 z13 z14, hE.sel [0, 3, 5, 6] (by kernel_rfl), H.t3.t2.t3⟩
    ·refine AQ.eff (j := 13) (obs := [.cell ⟨r, 0, none⟩ (.int .i64 c_.Kind), .cell ⟨r, 1, none⟩ (.int .i64 c_.Queue), .cell ⟨r, 2, none⟩ (.int .i64 c_.Job.At), .cell ⟨r, 3, none⟩ (.int .i64 c_.Job.Gen), .cell ⟨r, 4, none⟩ (.int .i64 c_.Time), .cell ⟨r, 5, none⟩ (.int .i64 c_.Data), .cell ⟨p_w_, 1, none⟩ (.pointer (some ⟨al_w_.m__p, 0, none⟩))]) hE rfl rfl rfl rfl (by kernel_rfl) (OpTo.new hE H [] (.cells #[.int .i64 0, .int .i64 0, .int .i64 0, .int .i64 0, .int .i64 0, .int .i64 0] 60 (0, 0)) (fun r => .pointer (some ⟨r, 0, none⟩)) (obs := []) rfl (fun _ => by kernel_rfl) trivial) ?_
     rintro _ w ⟨r11, rfl, H⟩
     refine ⟨⟨H.cell 6 rfl rfl, H.cell 6 rfl rfl, H.cell 6 rfl rfl, H.cell 6 rfl rfl, H.cell 6 rfl rfl, H.cell 6 rfl rfl, H.cell 3 rfl rfl, trivial⟩, fun a hE => ?_⟩
     refine WQ.eff (j := 11) (obs := []) hE (by kernel_rfl) rfl rfl rfl rfl (by kernel_rfl) (OpTo.fn hE rfl rfl Tryz.call36 (thicketref22_Dispatcher_Do_ok et_1 H.t4)) ?_
     rintro _ w ⟨z15, z16, z17, rfl, H⟩
     refine ⟨trivial, fun a hE => ?_⟩
     refine WQ.eff0 (j := 14) (obs := []) hE (by kernel_rfl) rfl rfl rfl (by kernel_rfl) (OpTo.store hE H.t2 rfl rfl rfl rfl rfl rfl (Nat.le_of_ble_eq_true rfl)) ?_
     rintro _ w H
     refine ⟨trivial, fun a hE => ?_⟩
     refine WQ.eff0 (j := 15) (obs := []) hE (by kernel_rfl) rfl rfl rfl (by kernel_rfl) (OpTo.store hE H.t2 rfl rfl rfl rfl rfl rfl (Nat.le_of_ble_eq_true rfl)) ?_
     rintro _ w H
     refine ⟨trivial, fun a hE => ?_⟩
     refine WQ.done (by kernel_rfl) ?_
     replace H := thicketlaw27_world.shut (thicketlaw27_world.A.mk al_w_.d_p (dispatch_Dispatcher.A.mk al_w_.d_a.q_p z7 al_w_.d_a.t__p z8 al_w_.d_a.when_p al_w_.d_a.clock_p) al_w_.m__p (thicketref22_Dispatcher.A.mk al_w_.m__a.Pool_p z15 z16 z17) al_w_.told_b al_w_.told_c) (thicketlaw27_world.mk t_.2 t_1.2 w_.k_ w_.told) H.t5.t3.t4.t5
     exact hk _ _ ⟨r9, r11, dispatch_Dispatcher.A.mk al_w_.d_a.q_p z7 al_w_.d_a.t__p z8 al_w_.d_a.when_p al_w_.d_a.clock_p, thicketref22_Dispatcher.A.mk al_w_.m__a.Pool_p z15 z16 z17, hE.sel [0, 3, 5, 6] (by kernel_rfl), H.t3.t2.t3⟩
   ·refine AQ.eff (j := 13) (obs := [.cell ⟨r, 0, none⟩ (.int .i64 c_.Kind), .cell ⟨r, 1, none⟩ (.int .i64 c_.Queue), .cell ⟨r, 2, none⟩ (.int .i64 c_.Job.At), .cell ⟨r, 3, none⟩ (.int .i64 c_.Job.Gen), .cell ⟨r, 4, none⟩ (.int .i64 c_.Time), .cell ⟨r, 5, none⟩ (.int .i64 c_.Data), .cell ⟨p_w_, 1, none⟩ (.pointer (some ⟨al_w_.m__p, 0, none⟩))]) hE rfl rfl rfl rfl (by kernel_rfl) (OpTo.new hE H [] (.cells #[.int .i64 0, .int .i64 0, .int .i64 0, .int .i64 0, .int .i64 0, .int .i64 0] 60 (0, 0)) (fun r => .pointer (some ⟨r, 0, none⟩)) (obs := []) rfl (fun _ => by kernel_rfl) trivial) ?_
    rintro _ w ⟨r12, rfl, H⟩
    refine ⟨⟨H.cell 5 rfl rfl, H.cell 5 rfl rfl, H.cell 5 rfl rfl, H.cell 5 rfl rfl, H.cell 5 rfl rfl, H.cell 5 rfl rfl, H.cell 2 rfl rfl, trivial⟩, fun a hE => ?_⟩
    refine WQ.act2 11 12 (by kernel_rfl) ?_ ?_
    ·refine AQ.eff (j := 11) (obs := []) hE rfl rfl rfl rfl (by kernel_rfl) (OpTo.fn hE rfl rfl Tryz.call36 (thicketref22_Dispatcher_Do_ok et_1 H.t3)) ?_
     rintro _ w ⟨z18, z19, z20, rfl, H⟩
     refine ⟨trivial, fun a hE => ?_⟩
     refine WQ.eff (j := 12) (obs := []) hE (by kernel_rfl) rfl rfl rfl rfl (by kernel_rfl) (OpTo.new hE H [] (.cells #[.int .i64 0, .int .i64 0, .int .i64 0, .int .i64 0, .int .i64 0, .int .i64 0] 60 (0, 0)) (fun r => .pointer (some ⟨r, 0, none⟩)) (obs := []) rfl (fun _ => by kernel_rfl) trivial) ?_
     rintro _ w ⟨r13, rfl, H⟩
     refine ⟨trivial, fun a hE => ?_⟩
     refine WQ.eff0 (j := 14) (obs := []) hE (by kernel_rfl) rfl rfl rfl (by kernel_rfl) (OpTo.store hE H rfl rfl rfl rfl rfl rfl (Nat.le_of_ble_eq_true rfl)) ?_
     rintro _ w H
     refine ⟨trivial, fun a hE => ?_⟩
     refine WQ.eff0 (j := 15) (obs := []) hE (by kernel_rfl) rfl rfl rfl (by kernel_rfl) (OpTo.store hE H.t2 rfl rfl rfl rfl rfl rfl (Nat.le_of_ble_eq_true rfl)) ?_
     rintro _ w H
     refine ⟨trivial, fun a hE => ?_⟩
     refine WQ.done (by kernel_rfl) ?_
     replace H := thicketlaw27_world.shut (thicketlaw27_world.A.mk al_w_.d_p (dispatch_Dispatcher.A.mk al_w_.d_a.q_p z7 al_w_.d_a.t__p z8 al_w_.d_a.when_p al_w_.d_a.clock_p) al_w_.m__p (thicketref22_Dispatcher.A.mk al_w_.m__a.Pool_p z18 z19 z20) al_w_.told_b al_w_.told_c) (thicketlaw27_world.mk t_.2 t_1.2 w_.k_ w_.told) H.t5.t3.t4.t5
     exact hk _ _ ⟨r13, r12, dispatch_Dispatcher.A.mk al_w_.d_a.q_p z7 al_w_.d_a.t__p z8 al_w_.d_a.when_p al_w_.d_a.clock_p, thicketref22_Dispatcher.A.mk al_w_.m__a.Pool_p z18 z19 z20, hE.sel [0, 3, 5, 6] (by kernel_rfl), H.t3.t2.t3⟩
    ·refine AQ.eff (j := 12) (obs := [.cell ⟨r, 0, none⟩ (.int .i64 c_.Kind), .cell ⟨r, 1, none⟩ (.int .i64 c_.Queue), .cell ⟨r, 2, none⟩ (.int .i64 c_.Job.At), .cell ⟨r, 3, none⟩ (.int .i64 c_.Job.Gen), .cell ⟨r, 4, none⟩ (.int .i64 c_.Time), .cell ⟨r, 5, none⟩ (.int .i64 c_.Data), .cell ⟨p_w_, 1, none⟩ (.pointer (some ⟨al_w_.m__p, 0, none⟩))]) hE rfl rfl rfl rfl (by kernel_rfl) (OpTo.new hE H [] (.cells #[.int .i64 0, .int .i64 0, .int .i64 0, .int .i64 0, .int .i64 0, .int .i64 0] 60 (0, 0)) (fun r => .pointer (some ⟨r, 0, none⟩)) (obs := []) rfl (fun _ => by kernel_rfl) trivial) ?_
     rintro _ w ⟨r14, rfl, H⟩
     refine ⟨⟨H.cell 6 rfl rfl, H.cell 6 rfl rfl, H.cell 6 rfl rfl, H.cell 6 rfl rfl, H.cell 6 rfl rfl, H.cell 6 rfl rfl, H.cell 3 rfl rfl, trivial⟩, fun a hE => ?_⟩
     refine WQ.eff (j := 11) (obs := []) hE (by kernel_rfl) rfl rfl rfl rfl (by kernel_rfl) (OpTo.fn hE rfl rfl Tryz.call36 (thicketref22_Dispatcher_Do_ok et_1 H.t4)) ?_
     rintro _ w ⟨z21, z22, z23, rfl, H⟩
     refine ⟨trivial, fun a hE => ?_⟩
     refine WQ.eff0 (j := 14) (obs := []) hE (by kernel_rfl) rfl rfl rfl (by kernel_rfl) (OpTo.store hE H.t1 rfl rfl rfl rfl rfl rfl (Nat.le_of_ble_eq_true rfl)) ?_
     rintro _ w H
     refine ⟨trivial, fun a hE => ?_⟩
     refine WQ.eff0 (j := 15) (obs := []) hE (by kernel_rfl) rfl rfl rfl (by kernel_rfl) (OpTo.store hE H.t2 rfl rfl rfl rfl rfl rfl (Nat.le_of_ble_eq_true rfl)) ?_
     rintro _ w H
     refine ⟨trivial, fun a hE => ?_⟩
     refine WQ.done (by kernel_rfl) ?_
     replace H := thicketlaw27_world.shut (thicketlaw27_world.A.mk al_w_.d_p (dispatch_Dispatcher.A.mk al_w_.d_a.q_p z7 al_w_.d_a.t__p z8 al_w_.d_a.when_p al_w_.d_a.clock_p) al_w_.m__p (thicketref22_Dispatcher.A.mk al_w_.m__a.Pool_p z21 z22 z23) al_w_.told_b al_w_.told_c) (thicketlaw27_world.mk t_.2 t_1.2 w_.k_ w_.told) H.t5.t3.t4.t5
     exact hk _ _ ⟨r14, r12, dispatch_Dispatcher.A.mk al_w_.d_a.q_p z7 al_w_.d_a.t__p z8 al_w_.d_a.when_p al_w_.d_a.clock_p, thicketref22_Dispatcher.A.mk al_w_.m__a.Pool_p z21 z22 z23, hE.sel [0, 3, 5, 6] (by kernel_rfl), H.t3.t2.t3⟩
  ·refine AQ.eff (j := 12) (obs := [.cell ⟨r, 0, none⟩ (.int .i64 c_.Kind), .cell ⟨r, 1, none⟩ (.int .i64 c_.Queue), .cell ⟨r, 2, none⟩ (.int .i64 c_.Job.At), .cell ⟨r, 3, none⟩ (.int .i64 c_.Job.Gen), .cell ⟨r, 4, none⟩ (.int .i64 c_.Time), .cell ⟨r, 5, none⟩ (.int .i64 c_.Data), .cell ⟨p_w_, 1, none⟩ (.pointer (some ⟨al_w_.m__p, 0, none⟩)), .cell ⟨r, 0, none⟩ (.int .i64 c_.Kind), .cell ⟨r, 1, none⟩ (.int .i64 c_.Queue), .cell ⟨r, 2, none⟩ (.int .i64 c_.Job.At), .cell ⟨r, 3, none⟩ (.int .i64 c_.Job.Gen), .cell ⟨r, 4, none⟩ (.int .i64 c_.Time), .cell ⟨r, 5, none⟩ (.int .i64 c_.Data), .cell ⟨p_w_, 0, none⟩ (.pointer (some ⟨al_w_.d_p, 0, none⟩))]) hE rfl rfl rfl rfl (by kernel_rfl) (OpTo.new hE H [] (.cells #[.int .i64 0, .int .i64 0, .int .i64 0, .int .i64 0, .int .i64 0, .int .i64 0] 60 (0, 0)) (fun r => .pointer (some ⟨r, 0, none⟩)) (obs := []) rfl (fun _ => by kernel_rfl) trivial) ?_
   rintro _ w ⟨r15, rfl, H⟩
   refine ⟨⟨H.cell 5 rfl rfl, H.cell 5 rfl rfl, H.cell 5 rfl rfl, H.cell 5 rfl rfl, H.cell 5 rfl rfl, H.cell 5 rfl rfl, H.cell 1 rfl rfl, H.cell 5 rfl rfl, H.cell 5 rfl rfl, H.cell 5 rfl rfl, H.cell 5 rfl rfl, H.cell 5 rfl rfl, H.cell 5 rfl rfl, H.cell 1 rfl rfl, trivial⟩, fun a hE => ?_⟩
   refine WQ.act2 5 13 (by kernel_rfl) ?_ ?_
   ·refine AQ.eff (j := 5) (obs := [.cell ⟨r, 0, none⟩ (.int .i64 c_.Kind), .cell ⟨r, 1, none⟩ (.int .i64 c_.Queue), .cell ⟨r, 2, none⟩ (.int .i64 c_.Job.At), .cell ⟨r, 3, none⟩ (.int .i64 c_.Job.Gen), .cell ⟨r, 4, none⟩ (.int .i64 c_.Time), .cell ⟨r, 5, none⟩ (.int .i64 c_.Data), .cell ⟨p_w_, 1, none⟩ (.pointer (some ⟨al_w_.m__p, 0, none⟩))]) hE rfl rfl rfl rfl (by kernel_rfl) (OpTo.fn hE rfl rfl Tryz.call35 (dispatch_Dispatcher_Do_ok et_ H.t2)) ?_
    rintro _ w ⟨z24, z25, rfl, H⟩
    refine ⟨⟨H.cell 5 rfl rfl, H.cell 5 rfl rfl, H.cell 5 rfl rfl, H.cell 5 rfl rfl, H.cell 5 rfl rfl, H.cell 5 rfl rfl, H.cell 2 rfl rfl, trivial⟩, fun a hE => ?_⟩
    refine WQ.act2 11 13 (by kernel_rfl) ?_ ?_
    ·refine AQ.eff (j := 11) (obs := []) hE rfl rfl rfl rfl (by kernel_rfl) (OpTo.fn hE rfl rfl Tryz.call36 (thicketref22_Dispatcher_Do_ok et_1 H.t3)) ?_
     rintro _ w ⟨z26, z27, z28, rfl, H⟩
     refine ⟨trivial, fun a hE => ?_⟩
     refine WQ.eff (j := 13) (obs := []) hE (by kernel_rfl) rfl rfl rfl rfl (by kernel_rfl) (OpTo.new hE H [] (.cells #[.int .i64 0, .int .i64 0, .int .i64 0, .int .i64 0, .int .i64 0, .int .i64 0] 60 (0, 0)) (fun r => .pointer (some ⟨r, 0, none⟩)) (obs := []) rfl (fun _ => by kernel_rfl) trivial) ?_
     rintro _ w ⟨r16, rfl, H⟩
     refine ⟨trivial, fun a hE => ?_⟩
     refine WQ.eff0 (j := 14) (obs := []) hE (by kernel_rfl) rfl rfl rfl (by kernel_rfl) (OpTo.store hE H.t3 rfl rfl rfl rfl rfl rfl (Nat.le_of_ble_eq_true rfl)) ?_
     rintro _ w H
     refine ⟨trivial, fun a hE => ?_⟩
     refine WQ.eff0 (j := 15) (obs := []) hE (by kernel_rfl) rfl rfl rfl (by kernel_rfl) (OpTo.store hE H.t1 rfl rfl rfl rfl rfl rfl (Nat.le_of_ble_eq_true rfl)) ?_
     rintro _ w H
     refine ⟨trivial, fun a hE => ?_⟩
     refine WQ.done (by kernel_rfl) ?_
     replace H := thicketlaw27_world.shut (thicketlaw27_world.A.mk al_w_.d_p (dispatch_Dispatcher.A.mk al_w_.d_a.q_p z24 al_w_.d_a.t__p z25 al_w_.d_a.when_p al_w_.d_a.clock_p) al_w_.m__p (thicketref22_Dispatcher.A.mk al_w_.m__a.Pool_p z26 z27 z28) al_w_.told_b al_w_.told_c) (thicketlaw27_world.mk t_.2 t_1.2 w_.k_ w_.told) H.t5.t3.t4.t5
     exact hk _ _ ⟨r15, r16, dispatch_Dispatcher.A.mk al_w_.d_a.q_p z24 al_w_.d_a.t__p z25 al_w_.d_a.when_p al_w_.d_a.clock_p, thicketref22_Dispatcher.A.mk al_w_.m__a.Pool_p z26 z27 z28, hE.sel [0, 3, 5, 6] (by kernel_rfl), H.t3.t2.t3⟩
    ·refine AQ.eff (j := 13) (obs := [.cell ⟨r, 0, none⟩ (.int .i64 c_.Kind), .cell ⟨r, 1, none⟩ (.int .i64 c_.Queue), .cell ⟨r, 2, none⟩ (.int .i64 c_.Job.At), .cell ⟨r, 3, none⟩ (.int .i64 c_.Job.Gen), .cell ⟨r, 4, none⟩ (.int .i64 c_.Time), .cell ⟨r, 5, none⟩ (.int .i64 c_.Data), .cell ⟨p_w_, 1, none⟩ (.pointer (some ⟨al_w_.m__p, 0, none⟩))]) hE rfl rfl rfl rfl (by kernel_rfl) (OpTo.new hE H [] (.cells #[.int .i64 0, .int .i64 0, .int .i64 0, .int .i64 0, .int .i64 0, .int .i64 0] 60 (0, 0)) (fun r => .pointer (some ⟨r, 0, none⟩)) (obs := []) rfl (fun _ => by kernel_rfl) trivial) ?_
     rintro _ w ⟨r17, rfl, H⟩
     refine ⟨⟨H.cell 6 rfl rfl, H.cell 6 rfl rfl, H.cell 6 rfl rfl, H.cell 6 rfl rfl, H.cell 6 rfl rfl, H.cell 6 rfl rfl, H.cell 3 rfl rfl, trivial⟩, fun a hE => ?_⟩
     refine WQ.eff (j := 11) (obs := []) hE (by kernel_rfl) rfl rfl rfl rfl (by kernel_rfl) (OpTo.fn hE rfl rfl Tryz.call36 (thicketref22_Dispatcher_Do_ok et_1 H.t4)) ?_
     rintro _ w ⟨z29, z30, z31, rfl, H⟩
     refine ⟨trivial, fun a hE => ?_⟩
     refine WQ.eff0 (j := 14) (obs := []) hE (by kernel_rfl) rfl rfl rfl (by kernel_rfl) (OpTo.store hE H.t3 rfl rfl rfl rfl rfl rfl (Nat.le_of_ble_eq_true rfl)) ?_
     rintro _ w H
     refine ⟨trivial, fun a hE => ?_⟩
     refine WQ.eff0 (j := 15) (obs := []) hE (by kernel_rfl) rfl rfl rfl (by kernel_rfl) (OpTo.store hE H.t2 rfl rfl rfl rfl rfl rfl (Nat.le_of_ble_eq_true rfl)) ?_
     rintro _ w H
     refine ⟨trivial, fun a hE => ?_⟩
     refine WQ.done (by kernel_rfl) ?_
     replace H := thicketlaw27_world.shut (thicketlaw27_world.A.mk al_w_.d_p (dispatch_Dispatcher.A.mk al_w_.d_a.q_p z24 al_w_.d_a.t__p z25 al_w_.d_a.when_p al_w_.d_a.clock_p) al_w_.m__p (thicketref22_Dispatcher.A.mk al_w_.m__a.Pool_p z29 z30 z31) al_w_.told_b al_w_.told_c) (thicketlaw27_world.mk t_.2 t_1.2 w_.k_ w_.told) H.t5.t3.t4.t5
     exact hk _ _ ⟨r15, r17, dispatch_Dispatcher.A.mk al_w_.d_a.q_p z24 al_w_.d_a.t__p z25 al_w_.d_a.when_p al_w_.d_a.clock_p, thicketref22_Dispatcher.A.mk al_w_.m__a.Pool_p z29 z30 z31, hE.sel [0, 3, 5, 6] (by kernel_rfl), H.t3.t2.t3⟩
   ·refine AQ.eff (j := 13) (obs := [.cell ⟨r, 0, none⟩ (.int .i64 c_.Kind), .cell ⟨r, 1, none⟩ (.int .i64 c_.Queue), .cell ⟨r, 2, none⟩ (.int .i64 c_.Job.At), .cell ⟨r, 3, none⟩ (.int .i64 c_.Job.Gen), .cell ⟨r, 4, none⟩ (.int .i64 c_.Time), .cell ⟨r, 5, none⟩ (.int .i64 c_.Data), .cell ⟨p_w_, 1, none⟩ (.pointer (some ⟨al_w_.m__p, 0, none⟩)), .cell ⟨r, 0, none⟩ (.int .i64 c_.Kind), .cell ⟨r, 1, none⟩ (.int .i64 c_.Queue), .cell ⟨r, 2, none⟩ (.int .i64 c_.Job.At), .cell ⟨r, 3, none⟩ (.int .i64 c_.Job.Gen), .cell ⟨r, 4, none⟩ (.int .i64 c_.Time), .cell ⟨r, 5, none⟩ (.int .i64 c_.Data), .cell ⟨p_w_, 0, none⟩ (.pointer (some ⟨al_w_.d_p, 0, none⟩))]) hE rfl rfl rfl rfl (by kernel_rfl) (OpTo.new hE H [] (.cells #[.int .i64 0, .int .i64 0, .int .i64 0, .int .i64 0, .int .i64 0, .int .i64 0] 60 (0, 0)) (fun r => .pointer (some ⟨r, 0, none⟩)) (obs := []) rfl (fun _ => by kernel_rfl) trivial) ?_
    rintro _ w ⟨r18, rfl, H⟩
    refine ⟨⟨H.cell 6 rfl rfl, H.cell 6 rfl rfl, H.cell 6 rfl rfl, H.cell 6 rfl rfl, H.cell 6 rfl rfl, H.cell 6 rfl rfl, H.cell 2 rfl rfl, H.cell 6 rfl rfl, H.cell 6 rfl rfl, H.cell 6 rfl rfl, H.cell 6 rfl rfl, H.cell 6 rfl rfl, H.cell 6 rfl rfl, H.cell 2 rfl rfl, trivial⟩, fun a hE => ?_⟩
    refine WQ.eff (j := 5) (obs := [.cell ⟨r, 0, none⟩ (.int .i64 c_.Kind), .cell ⟨r, 1, none⟩ (.int .i64 c_.Queue), .cell ⟨r, 2, none⟩ (.int .i64 c_.Job.At), .cell ⟨r, 3, none⟩ (.int .i64 c_.Job.Gen), .cell ⟨r, 4, none⟩ (.int .i64 c_.Time), .cell ⟨r, 5, none⟩ (.int .i64 c_.Data), .cell ⟨p_w_, 1, none⟩ (.pointer (some ⟨al_w_.m__p, 0, none⟩))]) hE (by kernel_rfl) rfl rfl rfl rfl (by kernel_rfl) (OpTo.fn hE rfl rfl Tryz.call35 (dispatch_Dispatcher_Do_ok et_ H.t3)) ?_
    rintro _ w ⟨z32, z33, rfl, H⟩
    refine ⟨⟨H.cell 6 rfl rfl, H.cell 6 rfl rfl, H.cell 6 rfl rfl, H.cell 6 rfl rfl, H.cell 6 rfl rfl, H.cell 6 rfl rfl, H.cell 3 rfl rfl, trivial⟩, fun a hE => ?_⟩
    refine WQ.eff (j := 11) (obs := []) hE (by kernel_rfl) rfl rfl rfl rfl (by kernel_rfl) (OpTo.fn hE rfl rfl Tryz.call36 (thicketref22_Dispatcher_Do_ok et_1 H.t4)) ?_
    rintro _ w ⟨z34, z35, z36, rfl, H⟩
    refine ⟨trivial, fun a hE => ?_⟩
    refine WQ.eff0 (j := 14) (obs := []) hE (by kernel_rfl) rfl rfl rfl (by kernel_rfl) (OpTo.store hE H.t3 rfl rfl rfl rfl rfl rfl (Nat.le_of_ble_eq_true rfl)) ?_
    rintro _ w H
    refine ⟨trivial, fun a hE => ?_⟩
    refine WQ.eff0 (j := 15) (obs := []) hE (by kernel_rfl) rfl rfl rfl (by kernel_rfl) (OpTo.store hE H.t3 rfl rfl rfl rfl rfl rfl (Nat.le_of_ble_eq_true rfl)) ?_
    rintro _ w H
    refine ⟨trivial, fun a hE => ?_⟩
    refine WQ.done (by kernel_rfl) ?_
    replace H := thicketlaw27_world.shut (thicketlaw27_world.A.mk al_w_.d_p (dispatch_Dispatcher.A.mk al_w_.d_a.q_p z32 al_w_.d_a.t__p z33 al_w_.d_a.when_p al_w_.d_a.clock_p) al_w_.m__p (thicketref22_Dispatcher.A.mk al_w_.m__a.Pool_p z34 z35 z36) al_w_.told_b al_w_.told_c) (thicketlaw27_world.mk t_.2 t_1.2 w_.k_ w_.told) H.t5.t3.t4.t5
    exact hk _ _ ⟨r15, r18, dispatch_Dispatcher.A.mk al_w_.d_a.q_p z32 al_w_.d_a.t__p z33 al_w_.d_a.when_p al_w_.d_a.clock_p, thicketref22_Dispatcher.A.mk al_w_.m__a.Pool_p z34 z35 z36, hE.sel [0, 3, 5, 6] (by kernel_rfl), H.t3.t2.t3⟩
  ·refine AQ.eff (j := 13) (obs := [.cell ⟨r, 0, none⟩ (.int .i64 c_.Kind), .cell ⟨r, 1, none⟩ (.int .i64 c_.Queue), .cell ⟨r, 2, none⟩ (.int .i64 c_.Job.At), .cell ⟨r, 3, none⟩ (.int .i64 c_.Job.Gen), .cell ⟨r, 4, none⟩ (.int .i64 c_.Time), .cell ⟨r, 5, none⟩ (.int .i64 c_.Data), .cell ⟨p_w_, 1, none⟩ (.pointer (some ⟨al_w_.m__p, 0, none⟩)), .cell ⟨r, 0, none⟩ (.int .i64 c_.Kind), .cell ⟨r, 1, none⟩ (.int .i64 c_.Queue), .cell ⟨r, 2, none⟩ (.int .i64 c_.Job.At), .cell ⟨r, 3, none⟩ (.int .i64 c_.Job.Gen), .cell ⟨r, 4, none⟩ (.int .i64 c_.Time), .cell ⟨r, 5, none⟩ (.int .i64 c_.Data), .cell ⟨p_w_, 0, none⟩ (.pointer (some ⟨al_w_.d_p, 0, none⟩))]) hE rfl rfl rfl rfl (by kernel_rfl) (OpTo.new hE H [] (.cells #[.int .i64 0, .int .i64 0, .int .i64 0, .int .i64 0, .int .i64 0, .int .i64 0] 60 (0, 0)) (fun r => .pointer (some ⟨r, 0, none⟩)) (obs := []) rfl (fun _ => by kernel_rfl) trivial) ?_
   rintro _ w ⟨r19, rfl, H⟩
   refine ⟨⟨H.cell 5 rfl rfl, H.cell 5 rfl rfl, H.cell 5 rfl rfl, H.cell 5 rfl rfl, H.cell 5 rfl rfl, H.cell 5 rfl rfl, H.cell 1 rfl rfl, H.cell 5 rfl rfl, H.cell 5 rfl rfl, H.cell 5 rfl rfl, H.cell 5 rfl rfl, H.cell 5 rfl rfl, H.cell 5 rfl rfl, H.cell 1 rfl rfl, trivial⟩, fun a hE => ?_⟩
   refine WQ.act2 5 12 (by kernel_rfl) ?_ ?_
   ·refine AQ.eff (j := 5) (obs := [.cell ⟨r, 0, none⟩ (.int .i64 c_.Kind), .cell ⟨r, 1, none⟩ (.int .i64 c_.Queue), .cell ⟨r, 2, none⟩ (.int .i64 c_.Job.At), .cell ⟨r, 3, none⟩ (.int .i64 c_.Job.Gen), .cell ⟨r, 4, none⟩ (.int .i64 c_.Time), .cell ⟨r, 5, none⟩ (.int .i64 c_.Data), .cell ⟨p_w_, 1, none⟩ (.pointer (some ⟨al_w_.m__p, 0, none⟩))]) hE rfl rfl rfl rfl (by kernel_rfl) (OpTo.fn hE rfl rfl Tryz.call35 (dispatch_Dispatcher_Do_ok et_ H.t2)) ?_
    rintro _ w ⟨z37, z38, rfl, H⟩
    refine ⟨⟨H.cell 5 rfl rfl, H.cell 5 rfl rfl, H.cell 5 rfl rfl, H.cell 5 rfl rfl, H.cell 5 rfl rfl, H.cell 5 rfl rfl, H.cell 2 rfl rfl, trivial⟩, fun a hE => ?_⟩
    refine WQ.act2 11 12 (by kernel_rfl) ?_ ?_
    ·refine AQ.eff (j := 11) (obs := []) hE rfl rfl rfl rfl (by kernel_rfl) (OpTo.fn hE rfl rfl Tryz.call36 (thicketref22_Dispatcher_Do_ok et_1 H.t3)) ?_
     rintro _ w ⟨z39, z40, z41, rfl, H⟩
     refine ⟨trivial, fun a hE => ?_⟩
     refine WQ.eff (j := 12) (obs := []) hE (by kernel_rfl) rfl rfl rfl rfl (by kernel_rfl) (OpTo.new hE H [] (.cells #[.int .i64 0, .int .i64 0, .int .i64 0, .int .i64 0, .int .i64 0, .int .i64 0] 60 (0, 0)) (fun r => .pointer (some ⟨r, 0, none⟩)) (obs := []) rfl (fun _ => by kernel_rfl) trivial) ?_
     rintro _ w ⟨r20, rfl, H⟩
     refine ⟨trivial, fun a hE => ?_⟩
     refine WQ.eff0 (j := 14) (obs := []) hE (by kernel_rfl) rfl rfl rfl (by kernel_rfl) (OpTo.store hE H rfl rfl rfl rfl rfl rfl (Nat.le_of_ble_eq_true rfl)) ?_
     rintro _ w H
     refine ⟨trivial, fun a hE => ?_⟩
     refine WQ.eff0 (j := 15) (obs := []) hE (by kernel_rfl) rfl rfl rfl (by kernel_rfl) (OpTo.store hE H.t3 rfl rfl rfl rfl rfl rfl (Nat.le_of_ble_eq_true rfl)) ?_
     rintro _ w H
     refine ⟨trivial, fun a hE => ?_⟩
     refine WQ.done (by kernel_rfl) ?_
     replace H := thicketlaw27_world.shut (thicketlaw27_world.A.mk al_w_.d_p (dispatch_Dispatcher.A.mk al_w_.d_a.q_p z37 al_w_.d_a.t__p z38 al_w_.d_a.when_p al_w_.d_a.clock_p) al_w_.m__p (thicketref22_Dispatcher.A.mk al_w_.m__a.Pool_p z39 z40 z41) al_w_.told_b al_w_.told_c) (thicketlaw27_world.mk t_.2 t_1.2 w_.k_ w_.told) H.t5.t3.t4.t5
     exact hk _ _ ⟨r20, r19, dispatch_Dispatcher.A.mk al_w_.d_a.q_p z37 al_w_.d_a.t__p z38 al_w_.d_a.when_p al_w_.d_a.clock_p, thicketref22_Dispatcher.A.mk al_w_.m__a.Pool_p z39 z40 z41, hE.sel [0, 3, 5, 6] (by kernel_rfl), H.t3.t2.t3⟩
    ·refine AQ.eff (j := 12) (obs := [.cell ⟨r, 0, none⟩ (.int .i64 c_.Kind), .cell ⟨r, 1, none⟩ (.int .i64 c_.Queue), .cell ⟨r, 2, none⟩ (.int .i64 c_.Job.At), .cell ⟨r, 3, none⟩ (.int .i64 c_.Job.Gen), .cell ⟨r, 4, none⟩ (.int .i64 c_.Time), .cell ⟨r, 5, none⟩ (.int .i64 c_.Data), .cell ⟨p_w_, 1, none⟩ (.pointer (some ⟨al_w_.m__p, 0, none⟩))]) hE rfl rfl rfl rfl (by kernel_rfl) (OpTo.new hE H [] (.cells #[.int .i64 0, .int .i64 0, .int .i64 0, .int .i64 0, .int .i64 0, .int .i64 0] 60 (0, 0)) (fun r => .pointer (some ⟨r, 0, none⟩)) (obs := []) rfl (fun _ => by kernel_rfl) trivial) ?_
     rintro _ w ⟨r21, rfl, H⟩
     refine ⟨⟨H.cell 6 rfl rfl, H.cell 6 rfl rfl, H.cell 6 rfl rfl, H.cell 6 rfl rfl, H.cell 6 rfl rfl, H.cell 6 rfl rfl, H.cell 3 rfl rfl, trivial⟩, fun a hE => ?_⟩
     refine WQ.eff (j := 11) (obs := []) hE (by kernel_rfl) rfl rfl rfl rfl (by kernel_rfl) (OpTo.fn hE rfl rfl Tryz.call36 (thicketref22_Dispatcher_Do_ok et_1 H.t4)) ?_
     rintro _ w ⟨z42, z43, z44, rfl, H⟩
     refine ⟨trivial, fun a hE => ?_⟩
     refine WQ.eff0 (j := 14) (obs := []) hE (by kernel_rfl) rfl rfl rfl (by kernel_rfl) (OpTo.store hE H.t1 rfl rfl rfl rfl rfl rfl (Nat.le_of_ble_eq_true rfl)) ?_
     rintro _ w H
     refine ⟨trivial, fun a hE => ?_⟩
     refine WQ.eff0 (j := 15) (obs := []) hE (by kernel_rfl) rfl rfl rfl (by kernel_rfl) (OpTo.store hE H.t3 rfl rfl rfl rfl rfl rfl (Nat.le_of_ble_eq_true rfl)) ?_
     rintro _ w H
     refine ⟨trivial, fun a hE => ?_⟩
     refine WQ.done (by kernel_rfl) ?_
     replace H := thicketlaw27_world.shut (thicketlaw27_world.A.mk al_w_.d_p (dispatch_Dispatcher.A.mk al_w_.d_a.q_p z37 al_w_.d_a.t__p z38 al_w_.d_a.when_p al_w_.d_a.clock_p) al_w_.m__p (thicketref22_Dispatcher.A.mk al_w_.m__a.Pool_p z42 z43 z44) al_w_.told_b al_w_.told_c) (thicketlaw27_world.mk t_.2 t_1.2 w_.k_ w_.told) H.t5.t3.t4.t5
     exact hk _ _ ⟨r21, r19, dispatch_Dispatcher.A.mk al_w_.d_a.q_p z37 al_w_.d_a.t__p z38 al_w_.d_a.when_p al_w_.d_a.clock_p, thicketref22_Dispatcher.A.mk al_w_.m__a.Pool_p z42 z43 z44, hE.sel [0, 3, 5, 6] (by kernel_rfl), H.t3.t2.t3⟩
   ·refine AQ.eff (j := 12) (obs := [.cell ⟨r, 0, none⟩ (.int .i64 c_.Kind), .cell ⟨r, 1, none⟩ (.int .i64 c_.Queue), .cell ⟨r, 2, none⟩ (.int .i64 c_.Job.At), .cell ⟨r, 3, none⟩ (.int .i64 c_.Job.Gen), .cell ⟨r, 4, none⟩ (.int .i64 c_.Time), .cell ⟨r, 5, none⟩ (.int .i64 c_.Data), .cell ⟨p_w_, 1, none⟩ (.pointer (some ⟨al_w_.m__p, 0, none⟩)), .cell ⟨r, 0, none⟩ (.int .i64 c_.Kind), .cell ⟨r, 1, none⟩ (.int .i64 c_.Queue), .cell ⟨r, 2, none⟩ (.int .i64 c_.Job.At), .cell ⟨r, 3, none⟩ (.int .i64 c_.Job.Gen), .cell ⟨r, 4, none⟩ (.int .i64 c_.Time), .cell ⟨r, 5, none⟩ (.int .i64 c_.Data), .cell ⟨p_w_, 0, none⟩ (.pointer (some ⟨al_w_.d_p, 0, none⟩))]) hE rfl rfl rfl rfl (by kernel_rfl) (OpTo.new hE H [] (.cells #[.int .i64 0, .int .i64 0, .int .i64 0, .int .i64 0, .int .i64 0, .int .i64 0] 60 (0, 0)) (fun r => .pointer (some ⟨r, 0, none⟩)) (obs := []) rfl (fun _ => by kernel_rfl) trivial) ?_
    rintro _ w ⟨r22, rfl, H⟩
    refine ⟨⟨H.cell 6 rfl rfl, H.cell 6 rfl rfl, H.cell 6 rfl rfl, H.cell 6 rfl rfl, H.cell 6 rfl rfl, H.cell 6 rfl rfl, H.cell 2 rfl rfl, H.cell 6 rfl rfl, H.cell 6 rfl rfl, H.cell 6 rfl rfl, H.cell 6 rfl rfl, H.cell 6 rfl rfl, H.cell 6 rfl rfl, H.cell 2 rfl rfl, trivial⟩, fun a hE => ?_⟩
    refine WQ.eff (j := 5) (obs := [.cell ⟨r, 0, none⟩ (.int .i64 c_.Kind), .cell ⟨r, 1, none⟩ (.int .i64 c_.Queue), .cell ⟨r, 2, none⟩ (.int .i64 c_.Job.At), .cell ⟨r, 3, none⟩ (.int .i64 c_.Job.Gen), .cell ⟨r, 4, none⟩ (.int .i64 c_.Time), .cell ⟨r, 5, none⟩ (.int .i64 c_.Data), .cell ⟨p_w_, 1, none⟩ (.pointer (some ⟨al_w_.m__p, 0, none⟩))]) hE (by kernel_rfl) rfl rfl rfl rfl (by kernel_rfl) (OpTo.fn hE rfl rfl Tryz.call35 (dispatch_Dispatcher_Do_ok et_ H.t3)) ?_
    rintro _ w ⟨z45, z46, rfl, H⟩
    refine ⟨⟨H.cell 6 rfl rfl, H.cell 6 rfl rfl, H.cell 6 rfl rfl, H.cell 6 rfl rfl, H.cell 6 rfl rfl, H.cell 6 rfl rfl, H.cell 3 rfl rfl, trivial⟩, fun a hE => ?_⟩
    refine WQ.eff (j := 11) (obs := []) hE (by kernel_rfl) rfl rfl rfl rfl (by kernel_rfl) (OpTo.fn hE rfl rfl Tryz.call36 (thicketref22_Dispatcher_Do_ok et_1 H.t4)) ?_
    rintro _ w ⟨z47, z48, z49, rfl, H⟩
    refine ⟨trivial, fun a hE => ?_⟩
    refine WQ.eff0 (j := 14) (obs := []) hE (by kernel_rfl) rfl rfl rfl (by kernel_rfl) (OpTo.store hE H.t2 rfl rfl rfl rfl rfl rfl (Nat.le_of_ble_eq_true rfl)) ?_
    rintro _ w H
    refine ⟨trivial, fun a hE => ?_⟩
    refine WQ.eff0 (j := 15) (obs := []) hE (by kernel_rfl) rfl rfl rfl (by kernel_rfl) (OpTo.store hE H.t3 rfl rfl rfl rfl rfl rfl (Nat.le_of_ble_eq_true rfl)) ?_
    rintro _ w H
    refine ⟨trivial, fun a hE => ?_⟩
    refine WQ.done (by kernel_rfl) ?_
    replace H := thicketlaw27_world.shut (thicketlaw27_world.A.mk al_w_.d_p (dispatch_Dispatcher.A.mk al_w_.d_a.q_p z45 al_w_.d_a.t__p z46 al_w_.d_a.when_p al_w_.d_a.clock_p) al_w_.m__p (thicketref22_Dispatcher.A.mk al_w_.m__a.Pool_p z47 z48 z49) al_w_.told_b al_w_.told_c) (thicketlaw27_world.mk t_.2 t_1.2 w_.k_ w_.told) H.t5.t3.t4.t5
    exact hk _ _ ⟨r22, r19, dispatch_Dispatcher.A.mk al_w_.d_a.q_p z45 al_w_.d_a.t__p z46 al_w_.d_a.when_p al_w_.d_a.clock_p, thicketref22_Dispatcher.A.mk al_w_.m__a.Pool_p z47 z48 z49, hE.sel [0, 3, 5, 6] (by kernel_rfl), H.t3.t2.t3⟩
 rintro a w ⟨r3, r4, z5, z6, hE, H⟩
 refine Runs.seq ?_
 refine Runs.seq ?_
 obtain ⟨s, es, hm⟩ := bind_some hm
 refine Runs.join (fun a w => EnvOk 106 a [(0, .pointer (some ⟨p_w_, 0, none⟩)), (3, .pointer (some ⟨r, 0, none⟩)), (5, .pointer (some ⟨r3, 0, none⟩)), (86, .bool s.1)] ∧ St w0 (Blk r3 60 [.int .i64 t_.1.Why, .int .i64 t_.1.Job.At, .int .i64 t_.1.Job.Gen, .int .i64 t_.1.Time, .int .i64 t_.1.Data, .int .i64 t_.1.N] :: Blk r 28 [.int .i64 c_.Kind, .int .i64 c_.Queue, .int .i64 c_.Job.At, .int .i64 c_.Job.Gen, .int .i64 c_.Time, .int .i64 c_.Data] :: thicketlaw27_world.R p_w_ (thicketlaw27_world.A.mk al_w_.d_p z5 al_w_.m__p z6 al_w_.told_b al_w_.told_c) s.2 :: As) w) (fun hk => ?_) ?_
 ·replace hm := es; clear es
  refine Runs.drawn mixed (by kernel_rfl) ?_
  replace H := H.drew
  refine WQ.seg hE [0, 1] [.int .i64 t_.1.Why, .int .i64 t_.1.Job.At, .int .i64 t_.1.Job.Gen, .int .i64 t_.1.Time, .int .i64 t_.1.Data, .int .i64 t_.1.N, .int .i64 t_1.1.Why, .int .i64 t_1.1.Job.At, .int .i64 t_1.1.Job.Gen, .int .i64 t_1.1.Time, .int .i64 t_1.1.Data, .int .i64 t_1.1.N] [0, 3, 5, 19, 20] (Lo := [(0, .pointer (some ⟨p_w_, 0, none⟩)), (3, .pointer (some ⟨r, 0, none⟩)), (5, .pointer (some ⟨r3, 0, none⟩)), (19, .agg #[.int .i64 t_.1.Why, .int .i64 t_.1.Job.At, .int .i64 t_.1.Job.Gen, .int .i64 t_.1.Time, .int .i64 t_.1.Data, .int .i64 t_.1.N]), (20, .agg #[.int .i64 t_1.1.Why, .int .i64 t_1.1.Job.At, .int .i64 t_1.1.Job.Gen, .int .i64 t_1.1.Time, .int .i64 t_1.1.Data, .int .i64 t_1.1.N])]) (obs := [.cell ⟨r3, 0, none⟩ (.int .i64 t_.1.Why), .cell ⟨r3, 1, none⟩ (.int .i64 t_.1.Job.At), .cell ⟨r3, 2, none⟩ (.int .i64 t_.1.Job.Gen), .cell ⟨r3, 3, none⟩ (.int .i64 t_.1.Time), .cell ⟨r3, 4, none⟩ (.int .i64 t_.1.Data), .cell ⟨r3, 5, none⟩ (.int .i64 t_.1.N), .cell ⟨r4, 0, none⟩ (.int .i64 t_1.1.Why), .cell ⟨r4, 1, none⟩ (.int .i64 t_1.1.Job.At), .cell ⟨r4, 2, none⟩ (.int .i64 t_1.1.Job.Gen), .cell ⟨r4, 3, none⟩ (.int .i64 t_1.1.Time), .cell ⟨r4, 4, none⟩ (.int .i64 t_1.1.Data), .cell ⟨r4, 5, none⟩ (.int .i64 t_1.1.N)]) (by kernel_rfl) (by kernel_rfl) ⟨H.cell 0 rfl rfl, H.cell 0 rfl rfl, H.cell 0 rfl rfl, H.cell 0 rfl rfl, H.cell 0 rfl rfl, H.cell 0 rfl rfl, H.cell 1 rfl rfl, H.cell 1 rfl rfl, H.cell 1 rfl rfl, H.cell 1 rfl rfl, H.cell 1 rfl rfl, H.cell 1 rfl rfl, trivial⟩ fun a hE => ?_
  refine WQ.eff (j := 2) (obs := []) hE (by kernel_rfl) rfl rfl rfl rfl (by kernel_rfl) (OpTo.neS hE rfl rfl rfl (by kernel_rfl) (api_Reply.eq_run t_.1 t_1.1)) ?_
  rintro _ _ ⟨rfl, rfl⟩
  refine ⟨trivial, fun a hE => ?_⟩
  refine WQ.d0 hE [3] [(22, .bool (!(api_Reply.eq t_.1 t_1.1)))] fun a hE => ?_
  rcases Bool.eq_false_or_eq_true (!(api_Reply.eq t_.1 t_1.1)) with c | c
  ·replace hE := hE.dec 22 c (by kernel_rfl)
   replace hm := cond_t c hm
   have c_1 := c
   refine WQ.d0 hE [4, 5, 6, 7, 8, 9, 10, 11, 12, 13, 14, 15, 16, 17, 18, 19, 20, 21, 22, 23, 24, 25, 26, 27, 28, 29, 30, 31, 32, 33, 34, 35, 36, 37, 38, 39, 40, 41, 42, 43, 44, 45, 46, 47, 48, 49, 50, 51, 52, 53, 54, 55, 56, 57, 58, 59, 60, 61, 62, 63, 64, 65, 66, 67] [(86, .bool true)] fun a hE => ?_
   refine WQ.done (by kernel_rfl) ?_
   cases hm
   exact hk _ _ ⟨hE.sel [0, 3, 5, 86] (by kernel_rfl), H.x1.t2.t2.t2⟩
  ·replace hE := hE.dec 22 c (by kernel_rfl)
   replace hm := cond_f c hm
   have c_2 := c
   replace H := thicketlaw27_world.open H.t3
   try dsimp only at H
   refine WQ.d hE [4, 5, 6, 7] [.pointer (some ⟨al_w_.d_p, 0, none⟩)] [(22, .bool false), (26, .pointer (some ⟨al_w_.d_p, 0, none⟩))] (obs := [.cell ⟨p_w_, 0, none⟩ (.pointer (some ⟨al_w_.d_p, 0, none⟩))]) ⟨H.cell 0 rfl rfl, trivial⟩ fun a hE => ?_
   obtain ⟨t_2, et_2, hm⟩ := bind_some hm
   refine WQ.eff (j := 8) (obs := []) hE (by kernel_rfl) rfl rfl rfl rfl (by kernel_rfl) (OpTo.fn hE rfl rfl Tryz.call37 (dispatch_Dispatcher_Last_ok et_2 H.t1)) ?_
   rintro _ w ⟨rfl, H⟩
   refine ⟨trivial, fun a hE => ?_⟩
   refine WQ.d0 hE [9, 10, 11] [(30, .bool (decide (t_2 < 0)))] fun a hE => ?_
   rcases Bool.eq_false_or_eq_true (decide (t_2 < 0)) with c | c
   ·replace hE := hE.dec 30 c (by kernel_rfl)
    replace hm := cond_t c hm
    have c_3 := c
    refine WQ.d0 hE [12, 13, 14, 15, 16, 17, 18, 19, 20, 21, 22, 23, 24, 25, 26, 27, 28, 29, 30, 31, 32, 33, 34, 35, 36, 37, 38, 39, 40, 41, 42, 43, 44, 45, 46, 47, 48, 49, 50, 51, 52, 53, 54, 55, 56, 57, 58, 59, 60, 61, 62, 63, 64, 65, 66, 67] [(86, .bool true)] fun a hE => ?_
    refine WQ.done (by kernel_rfl) ?_
    replace H := thicketlaw27_world.shut (thicketlaw27_world.A.mk al_w_.d_p z5 al_w_.m__p z6 al_w_.told_b al_w_.told_c) ((thicketlaw27_world.mk t_.2 t_1.2 w_.k_ w_.told)) H.t3.t3.t2.t3
    cases hm
    exact hk _ _ ⟨hE.sel [0, 3, 5, 86] (by kernel_rfl), H.x2.t2.t2⟩
   ·replace hE := hE.dec 30 c (by kernel_rfl)
    replace hm := cond_f c hm
    have c_4 := c
    refine WQ.d hE [12, 13, 14, 15, 17, 18, 19, 20] [.pointer (some ⟨al_w_.d_p, 0, none⟩), .pointer (some ⟨al_w_.d_p, 0, none⟩)] [(30, .bool false), (34, .pointer (some ⟨al_w_.d_p, 0, none⟩)), (39, .pointer (some ⟨al_w_.d_p, 0, none⟩))] (obs := [.cell ⟨p_w_, 0, none⟩ (.pointer (some ⟨al_w_.d_p, 0, none⟩)), .cell ⟨p_w_, 0, none⟩ (.pointer (some ⟨al_w_.d_p, 0, none⟩))]) ⟨H.cell 1 rfl rfl, H.cell 1 rfl rfl, trivial⟩ fun a hE => ?_
    obtain ⟨t_3, et_3, hm⟩ := bind_some hm
    refine WQ.eff (j := 16) (obs := [.cell ⟨p_w_, 0, none⟩ (.pointer (some ⟨al_w_.d_p, 0, none⟩))]) hE (by kernel_rfl) rfl rfl rfl rfl (by kernel_rfl) (OpTo.fn hE rfl rfl Tryz.call37 (dispatch_Dispatcher_Last_ok et_3 H)) ?_
    rintro _ w ⟨rfl, H⟩
    refine ⟨⟨H.cell 1 rfl rfl, trivial⟩, fun a hE => ?_⟩
    obtain ⟨t_4, et_4, hm⟩ := bind_some hm
    refine WQ.eff (j := 21) (obs := []) hE (by kernel_rfl) rfl rfl rfl rfl (by kernel_rfl) (OpTo.fn hE rfl rfl Tryz.call13 (dispatch_Dispatcher_Budget_ok et_4 H)) ?_
    rintro _ w ⟨rfl, H⟩
    refine ⟨trivial, fun a hE => ?_⟩
    refine WQ.d0 hE [22, 23, 24] [(43, .bool (decide (t_3 > t_4)))] fun a hE => ?_
    rcases Bool.eq_false_or_eq_true (decide (t_3 > t_4)) with c | c
    ·replace hE := hE.dec 43 c (by kernel_rfl)
     replace hm := cond_t c hm
     have c_5 := c
     refine WQ.d0 hE [25, 26, 27, 28, 29, 30, 31, 32, 33, 34, 35, 36, 37, 38, 39, 40, 41, 42, 43, 44, 45, 46, 47, 48, 49, 50, 51, 52, 53, 54, 55, 56, 57, 58, 59, 60, 61, 62, 63, 64, 65, 66, 67] [(86, .bool true)] fun a hE => ?_
     refine WQ.done (by kernel_rfl) ?_
     replace H := thicketlaw27_world.shut (thicketlaw27_world.A.mk al_w_.d_p z5 al_w_.m__p z6 al_w_.told_b al_w_.told_c) ((thicketlaw27_world.mk t_.2 t_1.2 w_.k_ w_.told)) H.t3.t3.t2.t3
     cases hm
     exact hk _ _ ⟨hE.sel [0, 3, 5, 86] (by kernel_rfl), H.x2.t2.t2⟩
    ·replace hE := hE.dec 43 c (by kernel_rfl)
     replace hm := cond_f c hm
     have c_6 := c
     refine WQ.d hE [25, 26, 27, 28, 30, 31, 32, 33] [.pointer (some ⟨al_w_.d_p, 0, none⟩), .pointer (some ⟨al_w_.d_p, 0, none⟩)] [(43, .bool false), (47, .pointer (some ⟨al_w_.d_p, 0, none⟩)), (52, .pointer (some ⟨al_w_.d_p, 0, none⟩))] (obs := [.cell ⟨p_w_, 0, none⟩ (.pointer (some ⟨al_w_.d_p, 0, none⟩)), .cell ⟨p_w_, 0, none⟩ (.pointer (some ⟨al_w_.d_p, 0, none⟩))]) ⟨H.cell 1 rfl rfl, H.cell 1 rfl rfl, trivial⟩ fun a hE => ?_
     obtain ⟨t_5, et_5, hm⟩ := bind_some hm
     refine WQ.eff (j := 29) (obs := [.cell ⟨p_w_, 0, none⟩ (.pointer (some ⟨al_w_.d_p, 0, none⟩))]) hE (by kernel_rfl) rfl rfl rfl rfl (by kernel_rfl) (OpTo.fn hE rfl rfl Tryz.call38 (dispatch_Dispatcher_Most_ok et_5 H)) ?_
     rintro _ w ⟨rfl, H⟩
     refine ⟨⟨H.cell 1 rfl rfl, trivial⟩, fun a hE => ?_⟩
     obtain ⟨t_6, et_6, hm⟩ := bind_some hm
     refine WQ.eff (j := 34) (obs := []) hE (by kernel_rfl) rfl rfl rfl rfl (by kernel_rfl) (OpTo.fn hE rfl rfl Tryz.call13 (dispatch_Dispatcher_Budget_ok et_6 H)) ?_
     rintro _ w ⟨rfl, H⟩
     refine ⟨trivial, fun a hE => ?_⟩
     refine WQ.d0 hE [35, 36, 37] [(56, .bool (decide (t_5 > t_6)))] fun a hE => ?_
     rcases Bool.eq_false_or_eq_true (decide (t_5 > t_6)) with c | c
     ·replace hE := hE.dec 56 c (by kernel_rfl)
      replace hm := cond_t c hm
      have c_7 := c
      refine WQ.d0 hE [38, 39, 40, 41, 42, 43, 44, 45, 46, 47, 48, 49, 50, 51, 52, 53, 54, 55, 56, 57, 58, 59, 60, 61, 62, 63, 64, 65, 66, 67] [(86, .bool true)] fun a hE => ?_
      refine WQ.done (by kernel_rfl) ?_
      replace H := thicketlaw27_world.shut (thicketlaw27_world.A.mk al_w_.d_p z5 al_w_.m__p z6 al_w_.told_b al_w_.told_c) ((thicketlaw27_world.mk t_.2 t_1.2 w_.k_ w_.told)) H.t3.t3.t2.t3
      cases hm
      exact hk _ _ ⟨hE.sel [0, 3, 5, 86] (by kernel_rfl), H.x2.t2.t2⟩
     ·replace hE := hE.dec 56 c (by kernel_rfl)
      replace hm := cond_f c hm
      have c_8 := c
      replace H := thicketref22_Dispatcher.open H.t2
      refine WQ.d hE [38, 39, 40, 41, 43, 44, 45, 46, 47, 48, 49] [.pointer (some ⟨al_w_.d_p, 0, none⟩), .pointer (some ⟨al_w_.m__p, 0, none⟩), .int .i64 (((thicketlaw27_world.mk t_.2 t_1.2 w_.k_ w_.told).m_).Now)] [(56, .bool false), (60, .pointer (some ⟨al_w_.d_p, 0, none⟩)), (68, .int .i64 (((thicketlaw27_world.mk t_.2 t_1.2 w_.k_ w_.told).m_).Now))] (obs := [.cell ⟨p_w_, 0, none⟩ (.pointer (some ⟨al_w_.d_p, 0, none⟩)), .cell ⟨p_w_, 1, none⟩ (.pointer (some ⟨al_w_.m__p, 0, none⟩)), .cell ⟨al_w_.m__p, 1, none⟩ (.int .i64 (((thicketlaw27_world.mk t_.2 t_1.2 w_.k_ w_.told).m_).Now))]) ⟨H.cell 4 rfl rfl, H.cell 4 rfl rfl, H.cell 0 rfl rfl, trivial⟩ fun a hE => ?_
      obtain ⟨t_7, et_7, hm⟩ := bind_some hm
      refine WQ.eff (j := 42) (obs := [.cell ⟨al_w_.m__p, 1, none⟩ (.int .i64 (((thicketlaw27_world.mk t_.2 t_1.2 w_.k_ w_.told).m_).Now)), .cell ⟨p_w_, 1, none⟩ (.pointer (some ⟨al_w_.m__p, 0, none⟩))]) hE (by kernel_rfl) rfl rfl rfl rfl (by kernel_rfl) (OpTo.fn hE rfl rfl Tryz.call39 (dispatch_Dispatcher_Now_ok et_7 H.t3)) ?_
      rintro _ w ⟨rfl, H⟩
      refine ⟨⟨H.cell 1 rfl rfl, H.cell 4 rfl rfl, trivial⟩, fun a hE => ?_⟩
      refine WQ.d0 hE [50, 51, 52] [(71, .bool (t_7 != (((thicketlaw27_world.mk t_.2 t_1.2 w_.k_ w_.told).m_).Now)))] fun a hE => ?_
      rcases Bool.eq_false_or_eq_true (t_7 != (((thicketlaw27_world.mk t_.2 t_1.2 w_.k_ w_.told).m_).Now)) with c | c
      ·replace hE := hE.dec 71 c (by kernel_rfl)
       replace hm := cond_t c hm
       have c_9 := c
       refine WQ.d0 hE [53, 54, 55, 56, 57, 58, 59, 60, 61, 62, 63, 64, 65, 66, 67] [(86, .bool true)] fun a hE => ?_
       refine WQ.done (by kernel_rfl) ?_
       replace H := thicketref22_Dispatcher.shut z6 (((thicketlaw27_world.mk t_.2 t_1.2 w_.k_ w_.told).m_)) H.t3.t3.t3
       replace H := thicketlaw27_world.shut (thicketlaw27_world.A.mk al_w_.d_p z5 al_w_.m__p z6 al_w_.told_b al_w_.told_c) (thicketlaw27_world.mk ((thicketlaw27_world.mk t_.2 t_1.2 w_.k_ w_.told).d) ((thicketlaw27_world.mk t_.2 t_1.2 w_.k_ w_.told).m_) ((thicketlaw27_world.mk t_.2 t_1.2 w_.k_ w_.told).k_) ((thicketlaw27_world.mk t_.2 t_1.2 w_.k_ w_.told).told)) H.t3.t1.t2.t3
       cases hm
       exact hk _ _ ⟨hE.sel [0, 3, 5, 86] (by kernel_rfl), H.x2.t2.t2⟩
      ·replace hE := hE.dec 71 c (by kernel_rfl)
       replace hm := cond_f c hm
       have c_10 := c
       refine WQ.d hE [53, 54, 55, 56, 58, 59, 60, 61, 62, 63, 64, 65] [.pointer (some ⟨al_w_.d_p, 0, none⟩), .pointer (some ⟨al_w_.m__p, 0, none⟩), .slice z6.L_b ((((thicketlaw27_world.mk t_.2 t_1.2 w_.k_ w_.told).m_).L).length) z6.L_c] [(71, .bool false), (75, .pointer (some ⟨al_w_.d_p, 0, none⟩)), (84, .int .i64 ((((thicketlaw27_world.mk t_.2 t_1.2 w_.k_ w_.told).m_).L).length : Int))] (obs := [.cell ⟨p_w_, 0, none⟩ (.pointer (some ⟨al_w_.d_p, 0, none⟩)), .cell ⟨p_w_, 1, none⟩ (.pointer (some ⟨al_w_.m__p, 0, none⟩)), .cell ⟨al_w_.m__p, 4, none⟩ (.slice z6.L_b ((((thicketlaw27_world.mk t_.2 t_1.2 w_.k_ w_.told).m_).L).length) z6.L_c)]) ⟨H.cell 4 rfl rfl, H.cell 4 rfl rfl, H.cell 1 rfl rfl, trivial⟩ fun a hE => ?_
       obtain ⟨t_8, et_8, hm⟩ := bind_some hm
       refine WQ.eff (j := 57) (obs := [.cell ⟨al_w_.m__p, 4, none⟩ (.slice z6.L_b ((((thicketlaw27_world.mk t_.2 t_1.2 w_.k_ w_.told).m_).L).length) z6.L_c), .cell ⟨p_w_, 1, none⟩ (.pointer (some ⟨al_w_.m__p, 0, none⟩))]) hE (by kernel_rfl) rfl rfl rfl rfl (by kernel_rfl) (OpTo.fn hE rfl rfl Tryz.call40 (dispatch_Dispatcher_Len_ok et_8 H)) ?_
       rintro _ w ⟨rfl, H⟩
       refine ⟨⟨H.cell 1 rfl rfl, H.cell 4 rfl rfl, trivial⟩, fun a hE => ?_⟩
       refine WQ.d0 hE [66, 67] [(86, .bool (t_8 != ((((thicketlaw27_world.mk t_.2 t_1.2 w_.k_ w_.told).m_).L).length : Int)))] fun a hE => ?_
       refine WQ.done (by kernel_rfl) ?_
       replace H := thicketref22_Dispatcher.shut z6 (((thicketlaw27_world.mk t_.2 t_1.2 w_.k_ w_.told).m_)) H.t3.t3.t3
       replace H := thicketlaw27_world.shut (thicketlaw27_world.A.mk al_w_.d_p z5 al_w_.m__p z6 al_w_.told_b al_w_.told_c) (thicketlaw27_world.mk ((thicketlaw27_world.mk t_.2 t_1.2 w_.k_ w_.told).d) ((thicketlaw27_world.mk t_.2 t_1.2 w_.k_ w_.told).m_) ((thicketlaw27_world.mk t_.2 t_1.2 w_.k_ w_.told).k_) ((thicketlaw27_world.mk t_.2 t_1.2 w_.k_ w_.told).told)) H.t3.t1.t2.t3
       cases hm
       exact hk _ _ ⟨hE.sel [0, 3, 5, 86] (by kernel_rfl), H.x2.t2.t2⟩
 rintro a w ⟨hE, H⟩
 refine Runs.cond hE rfl (fun c => ?_) (fun c => ?_)
 ·replace hm := cond_t c hm
  refine Runs.sr ?_
  refine WR.seg hE 1 [] [4] (Lo := [(4, .bool false)]) (obs := []) rfl (by kernel_rfl) trivial fun a hE => ?_
  refine WR.done rfl ?_
  refine Runs.ret hE Tryz.func22 rfl rfl ?_
  cases hm
  exact ⟨z5, z6, al_w_.told_b, al_w_.told_c, rfl, H.x1.x0⟩
 ·replace hm := cond_f c hm
  refine Runs.skip ?_
  refine Runs.seq ?_
  refine Runs.seq ?_
  refine Runs.join (fun a w => EnvOk 106 a [(0, .pointer (some ⟨p_w_, 0, none⟩)), (5, .pointer (some ⟨r3, 0, none⟩)), (94, .bool ((c_.Kind == 1) && (t_.1.Why == 0)))] ∧ St w0 (Blk r3 60 [.int .i64 t_.1.Why, .int .i64 t_.1.Job.At, .int .i64 t_.1.Job.Gen, .int .i64 t_.1.Time, .int .i64 t_.1.Data, .int .i64 t_.1.N] :: Blk r 28 [.int .i64 c_.Kind, .int .i64 c_.Queue, .int .i64 c_.Job.At, .int .i64 c_.Job.Gen, .int .i64 c_.Time, .int .i64 c_.Data] :: thicketlaw27_world.R p_w_ (thicketlaw27_world.A.mk al_w_.d_p z5 al_w_.m__p z6 al_w_.told_b al_w_.told_c) s.2 :: As) w) (fun hk => ?_) ?_
  ·clear hm
   refine Runs.region ?_
   refine WR.seg hE 4 [.int .i64 c_.Kind] [0, 5, 90] (Lo := [(0, .pointer (some ⟨p_w_, 0, none⟩)), (5, .pointer (some ⟨r3, 0, none⟩)), (90, .bool (c_.Kind == 1))]) (obs := [.cell ⟨r, 0, none⟩ (.int .i64 c_.Kind)]) rfl (by kernel_rfl) ⟨H.cell 1 rfl rfl, trivial⟩ fun a hE => ?_
   rcases Bool.eq_false_or_eq_true (c_.Kind == 1) with c | c
   ·replace hE := hE.dec 90 c (by kernel_rfl)
    have c_11 := c
    refine WR.e hE [.int .i64 t_.1.Why] [(94, .bool (t_.1.Why == 0))] (obs := [.cell ⟨r3, 0, none⟩ (.int .i64 t_.1.Why)]) ⟨H.cell 0 rfl rfl, trivial⟩ fun a hE => ?_
    refine hk _ _ ⟨?_, H.t2.t2.t2⟩
    try rw [c_11] at hE
    try rw [c_11]
    exact hE.sel [0, 5, 94] (by kernel_rfl)
   ·replace hE := hE.dec 90 c (by kernel_rfl)
    have c_12 := c
    refine WR.e0 hE [(94, .bool false)] fun a hE => ?_
    refine hk _ _ ⟨?_, H.t2.t2.t2⟩
    try rw [c_12] at hE
    try rw [c_12]
    exact hE.sel [0, 5, 94] (by kernel_rfl)
  rintro a w ⟨hE, H⟩
  obtain ⟨s1, es1, hm⟩ := bind_some hm
  refine Runs.join (fun a w => ∃ (z50 : Option Addr), ∃ (z51 : Nat), EnvOk 106 a [] ∧ St w0 (thicketlaw27_world.R p_w_ (thicketlaw27_world.A.mk al_w_.d_p z5 al_w_.m__p z6 z50 z51) s1 :: As) w) (fun hk => ?_) ?_
  ·replace hm := es1; clear es1
   refine Runs.cond hE rfl (fun c => ?_) (fun c => ?_)
   ·replace hm := cond_t c hm
    refine Runs.drawn mixed (by kernel_rfl) ?_
    replace H := H.drew
    replace H := thicketlaw27_world.open H.t2
    try dsimp only at H
    refine WQ.seg hE [0, 1, 2, 3, 4, 5, 6] [.slice al_w_.told_b s.2.told.length al_w_.told_c, .int .i64 t_.1.Job.At, .int .i64 t_.1.Job.Gen] [95, 99, 101] (Lo := [(95, .pointer (some ⟨p_w_, 0, none⟩)), (99, .slice al_w_.told_b s.2.told.length al_w_.told_c), (101, .agg #[.int .i64 t_.1.Job.At, .int .i64 t_.1.Job.Gen])]) (obs := [.cell ⟨p_w_, 3, none⟩ (.slice al_w_.told_b s.2.told.length al_w_.told_c), .cell ⟨r3, 1, none⟩ (.int .i64 t_.1.Job.At), .cell ⟨r3, 2, none⟩ (.int .i64 t_.1.Job.Gen)]) (by kernel_rfl) (by kernel_rfl) ⟨H.cell 0 rfl rfl, H.cell 4 rfl rfl, H.cell 4 rfl rfl, trivial⟩ fun a hE => ?_
    refine WQ.eff (j := 7) (obs := [.cell ⟨p_w_, 3, none⟩ (.slice al_w_.told_b s.2.told.length al_w_.told_c)]) hE (by kernel_rfl) rfl rfl rfl rfl (by kernel_rfl) (OpTo.buildSl (T := 26) hE H api_Ref.enc_ok ([t_.1.Job] : List api_Ref) rfl (fun _ => by kernel_rfl) rfl rfl rfl) ?_
    rintro _ w ⟨r23, rfl, H⟩
    refine ⟨⟨H.cell 1 rfl rfl, trivial⟩, fun a hE => ?_⟩
    obtain ⟨l, el, hm⟩ := bind_some hm
    replace H := H.t4
    refine WQ.eff (j := 8) (obs := []) hE (by kernel_rfl) rfl rfl rfl rfl (by kernel_rfl) (OpTo.appendM el hE H api_Ref.enc_ok rfl rfl rfl rfl rfl rfl rfl rfl rfl rfl (SlRd.all (sl_rd 26 api_Ref.enc 2 _ _ _) api_Ref.enc_ok H 1 rfl) rfl) ?_
    rintro _ w ⟨sb, sc, rfl, H⟩
    refine ⟨trivial, fun a hE => ?_⟩
    refine WQ.d0 hE [9, 10] [(105, .pointer (some ⟨p_w_, 3, none⟩))] fun a hE => ?_
    refine WQ.eff0 (j := 11) (obs := []) hE (by kernel_rfl) rfl rfl rfl (by kernel_rfl) (OpTo.store hE H.t2 rfl rfl rfl rfl rfl rfl (Nat.le_of_ble_eq_true rfl)) ?_
    rintro _ w H
    refine ⟨trivial, fun a hE => ?_⟩
    refine WQ.done (by kernel_rfl) ?_
    replace H := thicketlaw27_world.shut (thicketlaw27_world.A.mk al_w_.d_p z5 al_w_.m__p z6 sb sc) (thicketlaw27_world.mk s.2.d s.2.m_ s.2.k_ l) H.t1.t4.t4.t3
    cases hm
    exact hk _ _ ⟨sb, sc, hE.sel [] (by kernel_rfl), H.x3.x2.x1⟩
   ·replace hm := cond_f c hm
    refine Runs.skip ?_
    cases hm
    exact hk _ _ ⟨al_w_.told_b, al_w_.told_c, hE.sel [] (by kernel_rfl), H.x1.x0⟩
  rintro a w ⟨z50, z51, hE, H⟩
  refine Runs.sr ?_
  refine WR.seg hE 1 [] [4] (Lo := [(4, .bool true)]) (obs := []) rfl (by kernel_rfl) trivial fun a hE => ?_
  refine WR.done rfl ?_
  refine Runs.ret hE Tryz.func22 rfl rfl ?_
  cases hm
  exact ⟨z5, z6, z50, z51, rfl, H⟩

theorem pool_Pool_jobs_Job_All_ok {w0 w : World} {As : List HP} {k : Nat} {p_p : Nat} {al_p : pool_Pool_jobs_Job.A} {p : pool_Pool_jobs_Job} {t : (List api_Ref)}  (hm : pool_Pool_jobs_Job_All k p = some t) (H : St w0 (pool_Pool_jobs_Job.R p_p al_p p :: As) w) :
    CallsR Tryz.prog 138 #[.pointer (some ⟨p_p, 0, none⟩)] w fun v w' => ∃ (sb0 : Option Addr), ∃ (sc0 : Nat), v = .slice sb0 t.length sc0 ∧ St w0 (Sl 26 api_Ref.enc 2 sb0 sc0 t :: pool_Pool_jobs_Job.R p_p al_p p :: As) w' := by
 rw [pool_Pool_jobs_Job_All] at hm
 refine enter (args := [.pointer (some ⟨p_p, 0, none⟩)]) Tryz.func138 rfl rfl rfl fun a hE => ?_
 refine Runs.sr ?_
 refine WR.seg hE 1 [] [0] (Lo := [(0, .pointer (some ⟨p_p, 0, none⟩))]) (obs := []) rfl (by kernel_rfl) trivial fun a hE => ?_
 refine WR.done rfl ?_
 refine Runs.sr ?_
 refine WR.e0 hE [(3, .slice none 0 0)] fun a hE => ?_
 refine Runs.seq ?_
 refine Runs.sr ?_
 replace H := pool_Pool_jobs_Job.open H
 refine WR.e hE [.slice al_p.l_b p.l.length al_p.l_c] [(9, .slice al_p.l_b p.l.length al_p.l_c), (10, .int .i64 (p.l.length : Int)), (11, .int .i64 0)] (obs := [.cell ⟨p_p, 1, none⟩ (.slice al_p.l_b p.l.length al_p.l_c)]) ⟨H.cell 0 rfl rfl, trivial⟩ fun a hE => ?_
 replace H := pool_Pool_jobs_Job.shut al_p (p) H.t2.t2.t2
 obtain ⟨s, es, hm⟩ := bind_some hm
 refine Runs.join (fun a w => ∃ (sb1 : Option Addr), ∃ (sc1 : Nat), EnvOk 27 a [(3, .slice sb1 s.length sc1)] ∧ St w0 (Sl 26 api_Ref.enc 2 sb1 sc1 s :: pool_Pool_jobs_Job.R p_p al_p p :: As) w) (fun hk => ?_) ?_
 ·replace hm := es; clear es
  replace H := H.slNil 26 api_Ref.enc 2
  refine Runs.block ?_
  refine Runs.loop (fun m a w => ∃ (out : List api_Ref), ∃ (x : Int), ∃ (sb2 : Option Addr), ∃ (sc2 : Nat), EnvOk 27 a [(3, .slice sb2 out.length sc2), (9, .slice al_p.l_b p.l.length al_p.l_c), (10, .int .i64 (p.l.length : Int)), (11, .int .i64 x)] ∧ St w0 (Sl 26 api_Ref.enc 2 sb2 sc2 out :: pool_Pool_jobs_Job.R p_p al_p p :: As) w ∧ pool_Pool_jobs_Job_All_l0 (p.l.length : Int) p m out x = some s) k ⟨([] : List api_Ref), 0, none, 0, hE.sel [3, 9, 10, 11] (by kernel_rfl), H.t1.t1, hm⟩ ?_
  rintro m ih a w ⟨out, x, sb2, sc2, hE, H, hm⟩
  cases m with
  | zero => simp [pool_Pool_jobs_Job_All_l0] at hm
  | succ m =>
   rw [pool_Pool_jobs_Job_All_l0] at hm
   refine Runs.sr ?_
   refine WR.seg hE 1 [] [3, 9, 10, 11, 12] (Lo := [(3, .slice sb2 out.length sc2), (9, .slice al_p.l_b p.l.length al_p.l_c), (10, .int .i64 (p.l.length : Int)), (11, .int .i64 x), (12, .bool (decide (x < (p.l.length : Int))))]) (obs := []) rfl (by kernel_rfl) trivial fun a hE => ?_
   refine WR.done rfl ?_
   refine Runs.seq ?_
   refine Runs.cond hE rfl (fun c => ?_) (fun c => ?_)
   ·replace hm := cond_t c hm
    refine Runs.skip ?_
    refine Runs.seq ?_
    obtain ⟨s1, es1, hm⟩ := bind_some hm
    refine Runs.join (fun a w => ∃ (sb3 : Option Addr), ∃ (sc3 : Nat), EnvOk 27 a [(3, .slice sb3 s1.length sc3), (9, .slice al_p.l_b p.l.length al_p.l_c), (10, .int .i64 (p.l.length : Int)), (11, .int .i64 x)] ∧ St w0 (Sl 26 api_Ref.enc 2 sb3 sc3 s1 :: pool_Pool_jobs_Job.R p_p al_p p :: As) w) (fun hk => ?_) ?_
    ·replace hm := es1; clear es1
     refine Runs.block ?_
     refine Runs.sr ?_
     replace H := pool_Pool_jobs_Job.open H.t1
     obtain ⟨x2, ex2, hm⟩ := bind_some hm
     obtain ⟨b, o, hs, hb⟩ := SlRd.base (sl_rd 260 pool_place_jobs_Job.enc 7 _ _ _) pool_place_jobs_Job.enc_ok H 1 rfl ex2
     refine WR.d hE 3 [.pointer (some ⟨b, o, none⟩), .int .i64 x2.gen, .bool x2.taken, .int .i64 x2.v_.Queue, .int .i64 x2.v_.Time, .int .i64 x2.v_.Data, .int .i64 x2.v_.Item.At, .int .i64 x2.v_.Item.Gen] [(13, .int .i64 x), (15, .agg #[.int .i64 x2.gen, .bool x2.taken, .int .i64 x2.v_.Queue, .int .i64 x2.v_.Time, .int .i64 x2.v_.Data, .int .i64 x2.v_.Item.At, .int .i64 x2.v_.Item.Gen])] (obs := [.p ((al_p.l_b : Option Addr) = some ⟨b, o, none⟩), .p (0 ≤ (x : Int) ∧ (x : Int) < ((p.l.length : Nat) : Int)), .cell ⟨b, o + (Int.toNat x) * 7, none⟩ (.int .i64 x2.gen), .cell ⟨b, o + (Int.toNat x) * 7 + 1, none⟩ (.bool x2.taken), .cell ⟨b, o + (Int.toNat x) * 7 + 2, none⟩ (.int .i64 x2.v_.Queue), .cell ⟨b, o + (Int.toNat x) * 7 + 3, none⟩ (.int .i64 x2.v_.Time), .cell ⟨b, o + (Int.toNat x) * 7 + 4, none⟩ (.int .i64 x2.v_.Data), .cell ⟨b, o + (Int.toNat x) * 7 + 5, none⟩ (.int .i64 x2.v_.Item.At), .cell ⟨b, o + (Int.toNat x) * 7 + 6, none⟩ (.int .i64 x2.v_.Item.Gen)]) ⟨hs, hb, SlRd.cells (sl_rd 260 pool_place_jobs_Job.enc 7 _ _ _) pool_place_jobs_Job.enc_ok H 1 rfl hs ex2 0 _ rfl, SlRd.cells (sl_rd 260 pool_place_jobs_Job.enc 7 _ _ _) pool_place_jobs_Job.enc_ok H 1 rfl hs ex2 1 _ rfl, SlRd.cells (sl_rd 260 pool_place_jobs_Job.enc 7 _ _ _) pool_place_jobs_Job.enc_ok H 1 rfl hs ex2 2 _ rfl, SlRd.cells (sl_rd 260 pool_place_jobs_Job.enc 7 _ _ _) pool_place_jobs_Job.enc_ok H 1 rfl hs ex2 3 _ rfl, SlRd.cells (sl_rd 260 pool_place_jobs_Job.enc 7 _ _ _) pool_place_jobs_Job.enc_ok H 1 rfl hs ex2 4 _ rfl, SlRd.cells (sl_rd 260 pool_place_jobs_Job.enc 7 _ _ _) pool_place_jobs_Job.enc_ok H 1 rfl hs ex2 5 _ rfl, SlRd.cells (sl_rd 260 pool_place_jobs_Job.enc 7 _ _ _) pool_place_jobs_Job.enc_ok H 1 rfl hs ex2 6 _ rfl, trivial⟩ fun a hE => ?_
     refine WR.eff hE rfl rfl rfl rfl (OpTo.new hE H [] (.cells #[.int .i64 0, .bool false, .int .i64 0, .int .i64 0, .int .i64 0, .int .i64 0, .int .i64 0] 260 (0, 0)) (fun r => .pointer (some ⟨r, 0, none⟩)) (obs := []) rfl (fun _ => by kernel_rfl) trivial) ?_
     rintro _ w ⟨r, rfl, H⟩ a hE
     refine WR.d0 hE 5 [(4, .int .i64 x)] fun a hE => ?_
     refine WR.eff0 hE rfl rfl rfl (OpTo.store hE H rfl rfl rfl rfl rfl rfl (Nat.le_of_ble_eq_true rfl)) ?_
     rintro _ w H a hE
     refine WR.done rfl ?_
     refine Runs.sr ?_
     refine WR.e hE [.bool x2.taken] [(17, .bool x2.taken)] (obs := [.cell ⟨r, 1, none⟩ (.bool x2.taken)]) ⟨H.cell 0 rfl rfl, trivial⟩ fun a hE => ?_
     refine Runs.cond hE rfl (fun c => ?_) (fun c => ?_)
     ·replace hm := cond_t c hm
      refine Runs.region ?_
      refine WR.d hE 5 [.int .i64 x2.gen] [(18, .slice sb2 out.length sc2), (22, .agg #[.int .i64 x, .int .i64 x2.gen])] (obs := [.cell ⟨r, 0, none⟩ (.int .i64 x2.gen)]) ⟨H.cell 0 rfl rfl, trivial⟩ fun a hE => ?_
      refine WR.eff hE rfl rfl rfl rfl (OpTo.buildSl (T := 26) hE H api_Ref.enc_ok ([api_Ref.mk x x2.gen] : List api_Ref) rfl (fun _ => by kernel_rfl) rfl rfl rfl) ?_
      rintro _ w ⟨r1, rfl, H⟩ a hE
      obtain ⟨l, el, hm⟩ := bind_some hm
      replace H := H.t5
      refine WR.eff hE rfl rfl rfl rfl (OpTo.appendM el hE H api_Ref.enc_ok rfl rfl rfl rfl rfl rfl rfl rfl rfl rfl (SlRd.all (sl_rd 26 api_Ref.enc 2 _ _ _) api_Ref.enc_ok H 1 rfl) rfl) ?_
      rintro _ w ⟨sb4, sc4, rfl, H⟩ a hE
      refine WR.e0 hE [(3, .slice sb4 l.length sc4)] fun a hE => ?_
      refine Runs.inBlock ?_
      replace H := pool_Pool_jobs_Job.shut al_p (p) H.t5.t5.t5
      cases hm
      exact hk _ _ ⟨sb4, sc4, hE.sel [3, 9, 10, 11] (by kernel_rfl), H.x3.x2.t1⟩
     ·replace hm := cond_f c hm
      refine Runs.skip ?_
      refine Runs.inBlock ?_
      replace H := pool_Pool_jobs_Job.shut al_p (p) H.t3.t3.t3
      cases hm
      exact hk _ _ ⟨sb2, sc2, hE.sel [3, 9, 10, 11] (by kernel_rfl), H.x1.t1⟩
    rintro a w ⟨sb3, sc3, hE, H⟩
    refine Runs.region ?_
    refine WR.seg hE 2 [] [3, 9, 10, 11] (Lo := [(3, .slice sb3 s1.length sc3), (9, .slice al_p.l_b p.l.length al_p.l_c), (10, .int .i64 (p.l.length : Int)), (11, .int .i64 (w64 (x + 1)))]) (obs := []) rfl (by kernel_rfl) trivial fun a hE => ?_
    refine WR.done rfl ?_
    exact ih m (Nat.lt_succ_self m) _ _ ⟨s1, w64 (x + 1), sb3, sc3, hE.sel [3, 9, 10, 11] (by kernel_rfl), H.t1.t1, hm⟩
   ·replace hm := cond_f c hm
    refine Runs.exit rfl ?_
    cases hm
    exact hk _ _ ⟨sb2, sc2, hE.sel [3] (by kernel_rfl), H.t1.t1⟩
 rintro a w ⟨sb1, sc1, hE, H⟩
 refine Runs.sr ?_
 refine WR.seg hE 2 [] [2] (Lo := [(2, .slice sb1 s.length sc1)]) (obs := []) rfl (by kernel_rfl) trivial fun a hE => ?_
 refine WR.done rfl ?_
 refine Runs.ret hE Tryz.func138 rfl rfl ?_
 cases hm
 exact ⟨sb1, sc1, rfl, H.t1.t1⟩

theorem jobs_Table_All_ok {w0 w : World} {As : List HP} {k : Nat} {p_t_ : Nat} {al_t_ : jobs_Table.A} {t_ : jobs_Table} {t : (List api_Ref)}  (hm : jobs_Table_All k t_ = some t) (H : St w0 (jobs_Table.R p_t_ al_t_ t_ :: As) w) :
    CallsR Tryz.prog 82 #[.pointer (some ⟨p_t_, 0, none⟩)] w fun v w' => ∃ (sb0 : Option Addr), ∃ (sc0 : Nat), v = .slice sb0 t.length sc0 ∧ St w0 (Sl 26 api_Ref.enc 2 sb0 sc0 t :: jobs_Table.R p_t_ al_t_ t_ :: As) w' := by
 rw [jobs_Table_All] at hm
 refine enter (args := [.pointer (some ⟨p_t_, 0, none⟩)]) Tryz.func82 rfl rfl rfl fun a hE => ?_
 refine Runs.sr ?_
 refine WR.seg hE 1 [] [0] (Lo := [(0, .pointer (some ⟨p_t_, 0, none⟩))]) (obs := []) rfl (by kernel_rfl) trivial fun a hE => ?_
 refine WR.done rfl ?_
 refine Runs.sr ?_
 replace H := jobs_Table.open H
 refine WR.d hE 4 [.pointer (some ⟨al_t_.p_p, 0, none⟩)] [(6, .pointer (some ⟨al_t_.p_p, 0, none⟩))] (obs := [.cell ⟨p_t_, 0, none⟩ (.pointer (some ⟨al_t_.p_p, 0, none⟩))]) ⟨H.cell 0 rfl rfl, trivial⟩ fun a hE => ?_
 obtain ⟨t_1, et_1, hm⟩ := bind_some hm
 refine WR.eff hE rfl rfl rfl rfl (OpTo.fn hE rfl rfl Tryz.call138 (pool_Pool_jobs_Job_All_ok et_1 H.t1)) ?_
 rintro _ w ⟨sb, sc, rfl, H⟩ a hE
 refine WR.e0 hE [(2, .slice sb t_1.length sc)] fun a hE => ?_
 replace H := jobs_Table.shut al_t_ (t_) H.t3.t2.t3
 refine Runs.ret hE Tryz.func82 rfl rfl ?_
 cases hm
 exact ⟨sb, sc, rfl, H.t1⟩

theorem pool_Pool_jobs_Job_Get_ok {w0 w : World} {As : List HP} {p_p : Nat} {al_p : pool_Pool_jobs_Job.A} {p : pool_Pool_jobs_Job} {r : api_Ref} {t : jobs_Job × Int}  (hm : pool_Pool_jobs_Job_Get p r = some t) (H : St w0 (pool_Pool_jobs_Job.R p_p al_p p :: As) w) :
    CallsR Tryz.prog 139 #[.pointer (some ⟨p_p, 0, none⟩), .agg #[.int .i64 r.At, .int .i64 r.Gen]] w fun v w' => v = .tuple #[.agg #[.int .i64 t.1.Queue, .int .i64 t.1.Time, .int .i64 t.1.Data, .int .i64 t.1.Item.At, .int .i64 t.1.Item.Gen], .int .i64 t.2] ∧ St w0 (pool_Pool_jobs_Job.R p_p al_p p :: As) w' := by
 rw [pool_Pool_jobs_Job_Get] at hm
 refine enter (args := [.pointer (some ⟨p_p, 0, none⟩), .agg #[.int .i64 r.At, .int .i64 r.Gen]]) Tryz.func139 rfl rfl rfl fun a hE => ?_
 refine Runs.sr ?_
 refine WR.eff hE rfl rfl rfl rfl (OpTo.new hE H [] (.cells #[.int .i64 r.At, .int .i64 r.Gen] 26 (0, 0)) (fun r => .pointer (some ⟨r, 0, none⟩)) (obs := []) rfl (fun _ => by kernel_rfl) trivial) ?_
 rintro _ w ⟨r1, rfl, H⟩ a hE
 refine WR.eff hE rfl rfl rfl rfl (OpTo.new hE H [] (.cells #[.int .i64 0, .int .i64 0, .int .i64 0, .int .i64 0, .int .i64 0] 127 (0, 0)) (fun r => .pointer (some ⟨r, 0, none⟩)) (obs := []) rfl (fun _ => by kernel_rfl) trivial) ?_
 rintro _ w ⟨r2, rfl, H⟩ a hE
 refine WR.seg hE 3 [] [0, 3, 4] (Lo := [(0, .pointer (some ⟨p_p, 0, none⟩)), (3, .pointer (some ⟨r1, 0, none⟩)), (4, .pointer (some ⟨r2, 0, none⟩))]) (obs := []) rfl (by kernel_rfl) trivial fun a hE => ?_
 refine WR.done rfl ?_
 refine Runs.sr ?_
 refine WR.d hE 2 [.int .i64 r.At, .int .i64 r.Gen] [(10, .pointer (some ⟨p_p, 0, none⟩)), (11, .agg #[.int .i64 r.At, .int .i64 r.Gen])] (obs := [.cell ⟨r1, 0, none⟩ (.int .i64 r.At), .cell ⟨r1, 1, none⟩ (.int .i64 r.Gen)]) ⟨H.cell 1 rfl rfl, H.cell 1 rfl rfl, trivial⟩ fun a hE => ?_
 obtain ⟨t_, et_, hm⟩ := bind_some hm
 refine WR.eff hE rfl rfl rfl rfl (OpTo.fn hE rfl rfl Tryz.call205 (pool_Pool_jobs_Job_find_ok et_ H.t2)) ?_
 rintro _ w ⟨rfl, H⟩ a hE
 rcases ho : t_.1 with _ | i
 ·replace hm := case_n ho hm
  rw [ho] at hE
  refine WR.seg hE 8 [] [4, 6, 7] (Lo := [(4, .pointer (some ⟨r2, 0, none⟩)), (6, .pointer none), (7, .int .i64 t_.2)]) (obs := []) rfl (by kernel_rfl) trivial fun a hE => ?_
  refine WR.done rfl ?_
  refine Runs.seq ?_
  refine Runs.sr ?_
  refine WR.e0 hE [(16, .bool (t_.2 != 0))] fun a hE => ?_
  refine Runs.cond hE rfl (fun c => ?_) (fun c => ?_)
  ·replace hm := cond_t c hm
   refine Runs.sr ?_
   refine WR.eff hE rfl rfl rfl rfl (OpTo.new hE H [] (.cells #[.int .i64 0, .int .i64 0, .int .i64 0, .int .i64 0, .int .i64 0] 127 (0, 0)) (fun r => .pointer (some ⟨r, 0, none⟩)) (obs := []) rfl (fun _ => by kernel_rfl) trivial) ?_
   rintro _ w ⟨r3, rfl, H⟩ a hE
   refine WR.done rfl ?_
   refine Runs.sr ?_
   refine WR.d hE 2 [.int .i64 0, .int .i64 0, .int .i64 0, .int .i64 0, .int .i64 0] [(17, .agg #[.int .i64 0, .int .i64 0, .int .i64 0, .int .i64 0, .int .i64 0]), (18, .int .i64 t_.2)] (obs := [.cell ⟨r3, 0, none⟩ (.int .i64 0), .cell ⟨r3, 1, none⟩ (.int .i64 0), .cell ⟨r3, 2, none⟩ (.int .i64 0), .cell ⟨r3, 3, none⟩ (.int .i64 0), .cell ⟨r3, 4, none⟩ (.int .i64 0)]) ⟨H.cell 0 rfl rfl, H.cell 0 rfl rfl, H.cell 0 rfl rfl, H.cell 0 rfl rfl, H.cell 0 rfl rfl, trivial⟩ fun a hE => ?_
   refine WR.eff0 hE rfl rfl rfl (OpTo.store hE H.t2 rfl rfl rfl rfl rfl rfl (Nat.le_of_ble_eq_true rfl)) ?_
   rintro _ w H a hE
   refine WR.e0 hE [(5, .int .i64 t_.2)] fun a hE => ?_
   refine Runs.retO (vs := [.agg #[.int .i64 0, .int .i64 0, .int .i64 0, .int .i64 0, .int .i64 0], .int .i64 t_.2]) (obs := [.cell ⟨r2, 0, none⟩ (.int .i64 0), .cell ⟨r2, 1, none⟩ (.int .i64 0), .cell ⟨r2, 2, none⟩ (.int .i64 0), .cell ⟨r2, 3, none⟩ (.int .i64 0), .cell ⟨r2, 4, none⟩ (.int .i64 0)]) hE Tryz.func139 rfl [.int .i64 0, .int .i64 0, .int .i64 0, .int .i64 0, .int .i64 0] (by kernel_rfl) ⟨H.cell 0 rfl rfl, H.cell 0 rfl rfl, H.cell 0 rfl rfl, H.cell 0 rfl rfl, H.cell 0 rfl rfl, trivial⟩ ?_
   cases hm
   exact ⟨rfl, H.x3.x1.x0⟩
  ·replace hm := cond_f c hm
   refine Runs.skip ?_
   refine Runs.sr ?_
   cases hm
 ·replace hm := case_s ho hm
  replace H := pool_Pool_jobs_Job.open H
  obtain ⟨x, ex, hm⟩ := bind_some hm
  obtain ⟨b, o, hs, hb⟩ := SlRd.base (sl_rd 260 pool_place_jobs_Job.enc 7 _ _ _) pool_place_jobs_Job.enc_ok H 1 rfl ex
  rw [ho, elemV_some hs] at hE
  refine WR.seg hE 8 [] [4, 6, 7] (Lo := [(4, .pointer (some ⟨r2, 0, none⟩)), (6, .pointer (some ⟨b, o + (Int.toNat i) * 7, none⟩)), (7, .int .i64 t_.2)]) (obs := []) rfl (by kernel_rfl) trivial fun a hE => ?_
  refine WR.done rfl ?_
  refine Runs.seq ?_
  refine Runs.sr ?_
  refine WR.e0 hE [(16, .bool (t_.2 != 0))] fun a hE => ?_
  refine Runs.cond hE rfl (fun c => ?_) (fun c => ?_)
  ·replace hm := cond_t c hm
   refine Runs.sr ?_
   refine WR.eff hE rfl rfl rfl rfl (OpTo.new hE H [] (.cells #[.int .i64 0, .int .i64 0, .int .i64 0, .int .i64 0, .int .i64 0] 127 (0, 0)) (fun r => .pointer (some ⟨r, 0, none⟩)) (obs := []) rfl (fun _ => by kernel_rfl) trivial) ?_
   rintro _ w ⟨r4, rfl, H⟩ a hE
   refine WR.done rfl ?_
   refine Runs.sr ?_
   refine WR.d hE 2 [.int .i64 0, .int .i64 0, .int .i64 0, .int .i64 0, .int .i64 0] [(17, .agg #[.int .i64 0, .int .i64 0, .int .i64 0, .int .i64 0, .int .i64 0]), (18, .int .i64 t_.2)] (obs := [.cell ⟨r4, 0, none⟩ (.int .i64 0), .cell ⟨r4, 1, none⟩ (.int .i64 0), .cell ⟨r4, 2, none⟩ (.int .i64 0), .cell ⟨r4, 3, none⟩ (.int .i64 0), .cell ⟨r4, 4, none⟩ (.int .i64 0)]) ⟨H.cell 0 rfl rfl, H.cell 0 rfl rfl, H.cell 0 rfl rfl, H.cell 0 rfl rfl, H.cell 0 rfl rfl, trivial⟩ fun a hE => ?_
   refine WR.eff0 hE rfl rfl rfl (OpTo.store hE H.t4 rfl rfl rfl rfl rfl rfl (Nat.le_of_ble_eq_true rfl)) ?_
   rintro _ w H a hE
   refine WR.e0 hE [(5, .int .i64 t_.2)] fun a hE => ?_
   refine Runs.retO (vs := [.agg #[.int .i64 0, .int .i64 0, .int .i64 0, .int .i64 0, .int .i64 0], .int .i64 t_.2]) (obs := [.cell ⟨r2, 0, none⟩ (.int .i64 0), .cell ⟨r2, 1, none⟩ (.int .i64 0), .cell ⟨r2, 2, none⟩ (.int .i64 0), .cell ⟨r2, 3, none⟩ (.int .i64 0), .cell ⟨r2, 4, none⟩ (.int .i64 0)]) hE Tryz.func139 rfl [.int .i64 0, .int .i64 0, .int .i64 0, .int .i64 0, .int .i64 0] (by kernel_rfl) ⟨H.cell 0 rfl rfl, H.cell 0 rfl rfl, H.cell 0 rfl rfl, H.cell 0 rfl rfl, H.cell 0 rfl rfl, trivial⟩ ?_
   replace H := pool_Pool_jobs_Job.shut al_p (p) H.t4.t4.t4
   cases hm
   exact ⟨rfl, H.x3.x2.x1⟩
  ·replace hm := cond_f c hm
   refine Runs.skip ?_
   refine Runs.sr ?_
   refine WR.d hE 4 [.int .i64 x.v_.Queue, .int .i64 x.v_.Time, .int .i64 x.v_.Data, .int .i64 x.v_.Item.At, .int .i64 x.v_.Item.Gen] [(22, .agg #[.int .i64 x.v_.Queue, .int .i64 x.v_.Time, .int .i64 x.v_.Data, .int .i64 x.v_.Item.At, .int .i64 x.v_.Item.Gen])] (obs := [.cell ⟨b, o + (Int.toNat i) * 7 + 2, none⟩ (.int .i64 x.v_.Queue), .cell ⟨b, o + (Int.toNat i) * 7 + 3, none⟩ (.int .i64 x.v_.Time), .cell ⟨b, o + (Int.toNat i) * 7 + 4, none⟩ (.int .i64 x.v_.Data), .cell ⟨b, o + (Int.toNat i) * 7 + 5, none⟩ (.int .i64 x.v_.Item.At), .cell ⟨b, o + (Int.toNat i) * 7 + 6, none⟩ (.int .i64 x.v_.Item.Gen)]) ⟨SlRd.cells (sl_rd 260 pool_place_jobs_Job.enc 7 _ _ _) pool_place_jobs_Job.enc_ok H 1 rfl hs ex 2 _ rfl, SlRd.cells (sl_rd 260 pool_place_jobs_Job.enc 7 _ _ _) pool_place_jobs_Job.enc_ok H 1 rfl hs ex 3 _ rfl, SlRd.cells (sl_rd 260 pool_place_jobs_Job.enc 7 _ _ _) pool_place_jobs_Job.enc_ok H 1 rfl hs ex 4 _ rfl, SlRd.cells (sl_rd 260 pool_place_jobs_Job.enc 7 _ _ _) pool_place_jobs_Job.enc_ok H 1 rfl hs ex 5 _ rfl, SlRd.cells (sl_rd 260 pool_place_jobs_Job.enc 7 _ _ _) pool_place_jobs_Job.enc_ok H 1 rfl hs ex 6 _ rfl, trivial⟩ fun a hE => ?_
   refine WR.eff0 hE rfl rfl rfl (OpTo.store hE H.t3 rfl rfl rfl rfl rfl rfl (Nat.le_of_ble_eq_true rfl)) ?_
   rintro _ w H a hE
   refine WR.e0 hE [(5, .int .i64 0)] fun a hE => ?_
   refine Runs.retO (vs := [.agg #[.int .i64 x.v_.Queue, .int .i64 x.v_.Time, .int .i64 x.v_.Data, .int .i64 x.v_.Item.At, .int .i64 x.v_.Item.Gen], .int .i64 0]) (obs := [.cell ⟨r2, 0, none⟩ (.int .i64 x.v_.Queue), .cell ⟨r2, 1, none⟩ (.int .i64 x.v_.Time), .cell ⟨r2, 2, none⟩ (.int .i64 x.v_.Data), .cell ⟨r2, 3, none⟩ (.int .i64 x.v_.Item.At), .cell ⟨r2, 4, none⟩ (.int .i64 x.v_.Item.Gen)]) hE Tryz.func139 rfl [.int .i64 x.v_.Queue, .int .i64 x.v_.Time, .int .i64 x.v_.Data, .int .i64 x.v_.Item.At, .int .i64 x.v_.Item.Gen] (by kernel_rfl) ⟨H.cell 0 rfl rfl, H.cell 0 rfl rfl, H.cell 0 rfl rfl, H.cell 0 rfl rfl, H.cell 0 rfl rfl, trivial⟩ ?_
   replace H := pool_Pool_jobs_Job.shut al_p (p) H.t3.t3.t3
   cases hm
   exact ⟨rfl, H.x2.x1⟩

theorem jobs_Table_Get_ok {w0 w : World} {As : List HP} {p_t_ : Nat} {al_t_ : jobs_Table.A} {t_ : jobs_Table} {r : api_Ref} {t : jobs_Job × Int}  (hm : jobs_Table_Get t_ r = some t) (H : St w0 (jobs_Table.R p_t_ al_t_ t_ :: As) w) :
    CallsR Tryz.prog 83 #[.pointer (some ⟨p_t_, 0, none⟩), .agg #[.int .i64 r.At, .int .i64 r.Gen]] w fun v w' => v = .tuple #[.agg #[.int .i64 t.1.Queue, .int .i64 t.1.Time, .int .i64 t.1.Data, .int .i64 t.1.Item.At, .int .i64 t.1.Item.Gen], .int .i64 t.2] ∧ St w0 (jobs_Table.R p_t_ al_t_ t_ :: As) w' := by
 rw [jobs_Table_Get] at hm
 refine enter (args := [.pointer (some ⟨p_t_, 0, none⟩), .agg #[.int .i64 r.At, .int .i64 r.Gen]]) Tryz.func83 rfl rfl rfl fun a hE => ?_
 refine Runs.sr ?_
 refine WR.eff hE rfl rfl rfl rfl (OpTo.new hE H [] (.cells #[.int .i64 r.At, .int .i64 r.Gen] 26 (0, 0)) (fun r => .pointer (some ⟨r, 0, none⟩)) (obs := []) rfl (fun _ => by kernel_rfl) trivial) ?_
 rintro _ w ⟨r1, rfl, H⟩ a hE
 refine WR.eff hE rfl rfl rfl rfl (OpTo.new hE H [] (.cells #[.int .i64 0, .int .i64 0, .int .i64 0, .int .i64 0, .int .i64 0] 127 (0, 0)) (fun r => .pointer (some ⟨r, 0, none⟩)) (obs := []) rfl (fun _ => by kernel_rfl) trivial) ?_
 rintro _ w ⟨r2, rfl, H⟩ a hE
 refine WR.seg hE 3 [] [0, 3, 4] (Lo := [(0, .pointer (some ⟨p_t_, 0, none⟩)), (3, .pointer (some ⟨r1, 0, none⟩)), (4, .pointer (some ⟨r2, 0, none⟩))]) (obs := []) rfl (by kernel_rfl) trivial fun a hE => ?_
 refine WR.done rfl ?_
 refine Runs.seq ?_
 refine Runs.drawn mixed (by kernel_rfl) ?_
 replace H := H.drew
 replace H := jobs_Table.open H.t2
 refine WQ.d hE [0, 1, 2, 3, 4] [.pointer (some ⟨al_t_.p_p, 0, none⟩), .int .i64 r.At, .int .i64 r.Gen] [(9, .pointer (some ⟨al_t_.p_p, 0, none⟩)), (10, .agg #[.int .i64 r.At, .int .i64 r.Gen])] (obs := [.cell ⟨p_t_, 0, none⟩ (.pointer (some ⟨al_t_.p_p, 0, none⟩)), .cell ⟨r1, 0, none⟩ (.int .i64 r.At), .cell ⟨r1, 1, none⟩ (.int .i64 r.Gen)]) ⟨H.cell 0 rfl rfl, H.cell 4 rfl rfl, H.cell 4 rfl rfl, trivial⟩ fun a hE => ?_
 obtain ⟨t_1, et_1, hm⟩ := bind_some hm
 refine WQ.eff (j := 5) (obs := []) hE (by kernel_rfl) rfl rfl rfl rfl (by kernel_rfl) (OpTo.fn hE rfl rfl Tryz.call139 (pool_Pool_jobs_Job_Get_ok et_1 H.t1)) ?_
 rintro _ w ⟨rfl, H⟩
 refine ⟨trivial, fun a hE => ?_⟩
 refine WQ.d0 hE [6, 7] [(12, .agg #[.int .i64 t_1.1.Queue, .int .i64 t_1.1.Time, .int .i64 t_1.1.Data, .int .i64 t_1.1.Item.At, .int .i64 t_1.1.Item.Gen]), (13, .int .i64 t_1.2)] fun a hE => ?_
 refine WQ.eff0 (j := 8) (obs := []) hE (by kernel_rfl) rfl rfl rfl (by kernel_rfl) (OpTo.store hE H.t3 rfl rfl rfl rfl rfl rfl (Nat.le_of_ble_eq_true rfl)) ?_
 rintro _ w H
 refine ⟨trivial, fun a hE => ?_⟩
 refine WQ.d0 hE [9] [(5, .int .i64 t_1.2)] fun a hE => ?_
 refine WQ.done (by kernel_rfl) ?_
 refine Runs.retO (vs := [.agg #[.int .i64 t_1.1.Queue, .int .i64 t_1.1.Time, .int .i64 t_1.1.Data, .int .i64 t_1.1.Item.At, .int .i64 t_1.1.Item.Gen], .int .i64 t_1.2]) (obs := [.cell ⟨r2, 0, none⟩ (.int .i64 t_1.1.Queue), .cell ⟨r2, 1, none⟩ (.int .i64 t_1.1.Time), .cell ⟨r2, 2, none⟩ (.int .i64 t_1.1.Data), .cell ⟨r2, 3, none⟩ (.int .i64 t_1.1.Item.At), .cell ⟨r2, 4, none⟩ (.int .i64 t_1.1.Item.Gen)]) hE Tryz.func83 rfl [.int .i64 t_1.1.Queue, .int .i64 t_1.1.Time, .int .i64 t_1.1.Data, .int .i64 t_1.1.Item.At, .int .i64 t_1.1.Item.Gen] (by kernel_rfl) ⟨H.cell 0 rfl rfl, H.cell 0 rfl rfl, H.cell 0 rfl rfl, H.cell 0 rfl rfl, H.cell 0 rfl rfl, trivial⟩ ?_
 replace H := jobs_Table.shut al_t_ (t_) H.t3.t2.t3
 cases hm
 exact ⟨rfl, H.x2.x1⟩

end Go.Proofs.YtbpkejhpmakmbaaGreat
