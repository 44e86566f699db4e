import Derived.Test.YtmidmkinclmbdaaGreatSMp2
set_option linter.unusedVariables false
set_option linter.unusedSimpArgs false
set_option maxRecDepth 10000
set_option maxHeartbeats 4000000
namespace Go.Proofs.YtmidmkinclmbdaaGreat
open Go.Th

theorem thicketlaw11_world_right_ok {w0 w : World} {As : List HP} {k : Nat} {p_w_ : Nat} {al_w_ : thicketlaw11_world.A} {w_ : thicketlaw11_world} {t : Bool × thicketlaw11_world}  (hm : thicketlaw11_world_right k w_ = some t) (H : St w0 (thicketlaw11_world.R p_w_ al_w_ w_ :: As) w) :
    CallsR Tryz.prog 43 #[.pointer (some ⟨p_w_, 0, none⟩)] w fun v w' => v = .bool t.1 ∧ St w0 (thicketlaw11_world.R p_w_ al_w_ t.2 :: As) w' := by
 rw [thicketlaw11_world_right] at hm
 refine enter (args := [.pointer (some ⟨p_w_, 0, none⟩)]) Tryz.func43 rfl rfl rfl fun a hE => ?_
 refine Runs.sr ?_
 refine WR.seg hE 1 [] [0] (Lo := [(0, .pointer (some ⟨p_w_, 0, none⟩))]) (obs := []) rfl (by kernel_rfl) trivial fun a hE => ?_
 refine WR.done rfl ?_
 refine Runs.seq ?_
 refine Runs.seq ?_
 refine Runs.drawn mixed (by kernel_rfl) ?_
 replace H := H.drew
 replace H := thicketlaw11_world.open H
 refine WQ.d hE [0, 1, 2, 3, 5, 6, 7, 8, 9, 10, 11, 12, 13, 14, 15, 16, 17, 18] [.pointer (some ⟨al_w_.a__p, 0, none⟩), .slice al_w_.has0_b w_.has0.length al_w_.has0_c, .slice al_w_.has1_b w_.has1.length al_w_.has1_c] [(10, .pointer (some ⟨al_w_.a__p, 0, none⟩)), (25, .int .i64 (w64 (2 * (w64 ((w_.has0.length : Int) + (w_.has1.length : Int))))))] (obs := [.cell ⟨p_w_, 0, none⟩ (.pointer (some ⟨al_w_.a__p, 0, none⟩)), .p (0 ≤ (0 : Int) ∧ (0 : Int) < ((2 : Nat) : Int)), .cell ⟨p_w_, 3, none⟩ (.slice al_w_.has0_b w_.has0.length al_w_.has0_c), .p (0 ≤ (1 : Int) ∧ (1 : Int) < ((2 : Nat) : Int)), .cell ⟨p_w_, 4, none⟩ (.slice al_w_.has1_b w_.has1.length al_w_.has1_c)]) ⟨H.cell 0 rfl rfl, ⟨by decide, by decide⟩, H.cell 0 rfl rfl, ⟨by decide, by decide⟩, H.cell 0 rfl rfl, trivial⟩ fun a hE => ?_
 obtain ⟨t_, et_, hm⟩ := bind_some hm
 refine WQ.eff (j := 4) (obs := [.cell ⟨p_w_, 4, none⟩ (.slice al_w_.has1_b w_.has1.length al_w_.has1_c), .p (0 ≤ (1 : Int) ∧ (1 : Int) < ((2 : Nat) : Int)), .cell ⟨p_w_, 3, none⟩ (.slice al_w_.has0_b w_.has0.length al_w_.has0_c), .p (0 ≤ (0 : Int) ∧ (0 : Int) < ((2 : Nat) : Int))]) hE (by kernel_rfl) rfl rfl rfl rfl (by kernel_rfl) (OpTo.fn hE rfl rfl Tryz.call28 (arena_Arena_Len_ok et_ H.t1)) ?_
 rintro _ w ⟨rfl, H⟩
 refine ⟨⟨H.cell 1 rfl rfl, ⟨by decide, by decide⟩, H.cell 1 rfl rfl, ⟨by decide, by decide⟩, trivial⟩, fun a hE => ?_⟩
 refine WQ.d0 hE [19] [(26, .bool (t_ != (w64 (2 * (w64 ((w_.has0.length : Int) + (w_.has1.length : Int)))))))] fun a hE => ?_
 refine WQ.done (by kernel_rfl) ?_
 refine Runs.cond hE rfl (fun c => ?_) (fun c => ?_)
 ·replace hm := cond_t c hm
  refine Runs.sr ?_
  refine WR.e0 hE [(2, .bool false)] fun a hE => ?_
  replace H := thicketlaw11_world.shut al_w_ (w_) H.t3.t3.t2.t3
  refine Runs.ret hE Tryz.func43 rfl rfl ?_
  cases hm
  exact ⟨rfl, H⟩
 ·replace hm := cond_f c hm
  refine Runs.skip ?_
  refine Runs.seq ?_
  refine Runs.sr ?_
  refine WR.e0 hE [(3, .int .i64 0)] fun a hE => ?_
  refine Runs.block ?_
  refine Runs.unroll ?_
  refine Runs.seq ?_
  refine Runs.sr ?_
  refine WR.e0 hE [(28, .bool true)] fun a hE => ?_
  refine Runs.condT hE rfl ?_
  refine Runs.skip ?_
  refine Runs.seq ?_
  refine Runs.block ?_
  refine Runs.sr ?_
  refine WR.e hE [.slice al_w_.has0_b w_.has0.length al_w_.has0_c] [(4, .slice al_w_.has0_b w_.has0.length al_w_.has0_c)] (obs := [.p (0 ≤ (0 : Int) ∧ (0 : Int) < ((2 : Nat) : Int)), .cell ⟨p_w_, 3, none⟩ (.slice al_w_.has0_b w_.has0.length al_w_.has0_c)]) ⟨⟨by decide, by decide⟩, H.cell 1 rfl rfl, trivial⟩ fun a hE => ?_
  refine Runs.sr ?_
  refine WR.d hE 4 [.pointer (some ⟨al_w_.a__p, 0, none⟩)] [(40, .pointer (some ⟨al_w_.a__p, 0, none⟩))] (obs := [.cell ⟨p_w_, 0, none⟩ (.pointer (some ⟨al_w_.a__p, 0, none⟩))]) ⟨H.cell 1 rfl rfl, trivial⟩ fun a hE => ?_
  obtain ⟨t_1, et_1, hm⟩ := bind_some hm
  refine WR.eff hE rfl rfl rfl rfl (OpTo.fn hE rfl rfl Tryz.call20 (arena_Arena_Meter_ok et_1 H)) ?_
  rintro _ w ⟨rfl, H⟩ a hE
  replace H := arena_Arena.open H
  obtain ⟨t_2, et_2, hm⟩ := bind_some hm
  refine WR.eff hE rfl rfl rfl rfl (OpTo.fn hE rfl rfl Tryz.call21 (meter_Meter_Steps_ok et_2 H.t3)) ?_
  rintro _ w ⟨rfl, H⟩ a hE
  refine WR.e0 hE [(5, .int .i64 t_2)] fun a hE => ?_
  refine Runs.seq ?_
  refine Runs.drawn mixed (by kernel_rfl) ?_
  replace H := H.drew
  refine WQ.d hE [0, 1, 2, 3, 4, 5, 6, 7, 8, 9] [.pointer (some ⟨al_w_.a__p, 0, none⟩), .int .i64 w_.root0] [(46, .pointer (some ⟨al_w_.a__p, 0, none⟩)), (52, .int .i64 w_.root0)] (obs := [.cell ⟨p_w_, 0, none⟩ (.pointer (some ⟨al_w_.a__p, 0, none⟩)), .p (0 ≤ (0 : Int) ∧ (0 : Int) < ((2 : Nat) : Int)), .cell ⟨p_w_, 1, none⟩ (.int .i64 w_.root0)]) ⟨H.cell 4 rfl rfl, ⟨by decide, by decide⟩, H.cell 4 rfl rfl, trivial⟩ fun a hE => ?_
  replace H := arena_Arena.shut al_w_.a__a (w_.a_) H.t3.t3.t3
  obtain ⟨t_3, et_3, hm⟩ := bind_some hm
  refine WQ.eff (j := 10) (obs := []) hE (by kernel_rfl) rfl rfl rfl rfl (by kernel_rfl) (OpTo.fn hE rfl rfl Tryz.call47 (skew_Min_ok et_3 H)) ?_
  rintro _ w ⟨rfl, H⟩
  refine ⟨trivial, fun a hE => ?_⟩
  refine WQ.d0 hE [11] [(6, .int .i64 t_3.1)] fun a hE => ?_
  refine WQ.done (by kernel_rfl) ?_
  refine Runs.seq ?_
  refine Runs.sr ?_
  refine WR.d0 hE 4 [(54, .pointer (some ⟨p_w_, 0, none⟩)), (55, .int .i64 t_2), (57, .int .i64 (w_.has0.length : Int))] fun a hE => ?_
  replace H := thicketlaw11_world.shut al_w_ (thicketlaw11_world.mk t_3.2 w_.root0 w_.root1 w_.has0 w_.has1 w_.next w_.spent w_.most) H.t3.t3.t2.t3
  obtain ⟨t_4, et_4, hm⟩ := bind_some hm
  refine WR.eff hE rfl rfl rfl rfl (OpTo.fn hE rfl rfl Tryz.call38 (thicketlaw11_world_cost_ok et_4 H)) ?_
  rintro _ w ⟨rfl, hf, hf1, H⟩ a hE
  refine WR.e0 hE [(59, .bool (!t_4.1))] fun a hE => ?_
  refine Runs.cond hE rfl (fun c => ?_) (fun c => ?_)
  ·replace hm := cond_t c hm
   refine Runs.sr ?_
   refine WR.e0 hE [(2, .bool false)] fun a hE => ?_
   refine Runs.ret hE Tryz.func43 rfl rfl ?_
   cases hm
   exact ⟨rfl, H⟩
  ·replace hm := cond_f c hm
   refine Runs.skip ?_
   refine Runs.seq ?_
   obtain ⟨s, es, hm⟩ := bind_some hm
   refine Runs.join (fun a w => EnvOk 114 a [(0, .pointer (some ⟨p_w_, 0, none⟩)), (3, .int .i64 0), (113, .bool s.1)] ∧ St w0 (thicketlaw11_world.R p_w_ al_w_ s.2 :: As) w) (fun hk => ?_) ?_
   ·replace hm := es; clear es
    refine Runs.drawn mixed (by kernel_rfl) ?_
    replace H := H.drew
    replace H := thicketlaw11_world.open H
    try rw [hf] at H
    try rw [hf1] at H
    try dsimp only at H
    refine WQ.d0 hE [0, 1, 2, 3] [(63, .bool ((w_.has0.length : Int) == 0))] fun a hE => ?_
    rcases Bool.eq_false_or_eq_true ((w_.has0.length : Int) == 0) with c | c
    ·replace hE := hE.dec 63 c (by kernel_rfl)
     replace hm := cond_t c hm
     have c_ := c
     refine WQ.d0 hE [4, 5, 6] [(63, .bool true), (66, .bool (t_3.1 != (-1)))] fun a hE => ?_
     rcases Bool.eq_false_or_eq_true (t_3.1 != (-1)) with c | c
     ·replace hE := hE.dec 66 c (by kernel_rfl)
      replace hm := cond_t c hm
      have c_1 := c
      refine WQ.d0 hE [7, 8, 9, 10, 11, 12, 13, 14, 15, 16, 17, 18, 19, 20, 21, 22, 23, 24, 25, 26, 27, 28, 29, 30, 31, 32, 33, 34, 35, 36, 37, 38, 39, 40, 41, 42, 43, 44, 45, 46, 47, 48, 49, 50, 51, 52, 53] [(113, .bool true)] fun a hE => ?_
      refine WQ.done (by kernel_rfl) ?_
      replace H := thicketlaw11_world.shut al_w_ (thicketlaw11_world.mk t_4.2.a_ t_4.2.root0 t_4.2.root1 w_.has0 w_.has1 t_4.2.next t_4.2.spent t_4.2.most) H.t3.t3.t3.t3
      cases hm
      exact hk _ _ ⟨hE.sel [0, 3, 113] (by kernel_rfl), H⟩
     ·replace hE := hE.dec 66 c (by kernel_rfl)
      replace hm := cond_f c hm
      have c_2 := c
      refine WQ.d hE [7, 8, 9, 10, 11, 12, 13, 14, 15, 16] [.int .i64 t_4.2.root0] [(76, .bool (t_4.2.root0 != (-1)))] (obs := [.p (0 ≤ (0 : Int) ∧ (0 : Int) < ((2 : Nat) : Int)), .cell ⟨p_w_, 1, none⟩ (.int .i64 t_4.2.root0)]) ⟨⟨by decide, by decide⟩, H.cell 0 rfl rfl, trivial⟩ fun a hE => ?_
      rcases Bool.eq_false_or_eq_true (t_4.2.root0 != (-1)) with c | c
      ·replace hE := hE.dec 76 c (by kernel_rfl)
       replace hm := cond_t c hm
       have c_3 := c
       refine WQ.d0 hE [17, 18, 19, 20, 21, 22, 23, 24, 25, 26, 27, 28, 29, 30, 31, 32, 33, 34, 35, 36, 37, 38, 39, 40, 41, 42, 43, 44, 45, 46, 47, 48, 49, 50, 51, 52, 53] [(113, .bool true)] fun a hE => ?_
       refine WQ.done (by kernel_rfl) ?_
       replace H := thicketlaw11_world.shut al_w_ (thicketlaw11_world.mk t_4.2.a_ t_4.2.root0 t_4.2.root1 w_.has0 w_.has1 t_4.2.next t_4.2.spent t_4.2.most) H.t3.t3.t3.t3
       cases hm
       exact hk _ _ ⟨hE.sel [0, 3, 113] (by kernel_rfl), H⟩
      ·replace hE := hE.dec 76 c (by kernel_rfl)
       replace hm := cond_f c hm
       have c_4 := c
       refine WQ.d0 hE [17, 18, 19, 20] [(76, .bool false), (80, .bool (decide ((w_.has0.length : Int) > 0)))] fun a hE => ?_
       rcases Bool.eq_false_or_eq_true (decide ((w_.has0.length : Int) > 0)) with c | c
       ·replace hE := hE.dec 80 c (by kernel_rfl)
        replace hm := cond_t c hm
        have c_5 := c
        refine WQ.d0 hE [21, 22, 23] [(80, .bool true), (81, .int .i64 t_3.1), (82, .slice al_w_.has0_b w_.has0.length al_w_.has0_c), (83, .slice al_w_.has0_b w_.has0.length al_w_.has0_c)] fun a hE => ?_
        obtain ⟨t_5, et_5, hm⟩ := bind_some hm
        replace H := H.t2
        refine WQ.eff (j := 24) (obs := []) hE (by kernel_rfl) rfl rfl rfl rfl (by kernel_rfl) (OpTo.fn hE rfl rfl Tryz.call81 (thicketlaw11_least_ok (hX_l := (sl_rd 76 thicketlaw11_held.enc 3 _ _ _)) (hC_l := (H.slCap 0 rfl).1) et_5 H)) ?_
        rintro _ w ⟨rfl, H⟩
        refine ⟨trivial, fun a hE => ?_⟩
        obtain ⟨x, ex, hm⟩ := bind_some hm
        obtain ⟨b, o, hs, hb⟩ := SlRd.base (sl_rd 76 thicketlaw11_held.enc 3 _ _ _) thicketlaw11_held.enc_ok H 0 rfl ex
        refine WQ.d hE [25, 26, 27, 28, 29, 30, 31] [.pointer (some ⟨b, o, none⟩), .int .i64 x.cell] [(91, .bool (t_3.1 != x.cell))] (obs := [.p ((al_w_.has0_b : Option Addr) = some ⟨b, o, none⟩), .p (0 ≤ (t_5 : Int) ∧ (t_5 : Int) < ((w_.has0.length : Nat) : Int)), .cell ⟨b, o + (Int.toNat t_5) * 3, none⟩ (.int .i64 x.cell)]) ⟨hs, hb, SlRd.cells (sl_rd 76 thicketlaw11_held.enc 3 _ _ _) thicketlaw11_held.enc_ok H 0 rfl hs ex 0 _ rfl, trivial⟩ fun a hE => ?_
        rcases Bool.eq_false_or_eq_true (t_3.1 != x.cell) with c | c
        ·replace hE := hE.dec 91 c (by kernel_rfl)
         replace hm := cond_t c hm
         have c_6 := c
         refine WQ.d0 hE [32, 33, 34, 35, 36, 37, 38, 39, 40, 41, 42, 43, 44, 45, 46, 47, 48, 49, 50, 51, 52, 53] [(113, .bool true)] fun a hE => ?_
         refine WQ.done (by kernel_rfl) ?_
         replace H := thicketlaw11_world.shut al_w_ (thicketlaw11_world.mk t_4.2.a_ t_4.2.root0 t_4.2.root1 w_.has0 w_.has1 t_4.2.next t_4.2.spent t_4.2.most) H.t3.t1.t3.t3
         cases hm
         exact hk _ _ ⟨hE.sel [0, 3, 113] (by kernel_rfl), H⟩
        ·replace hE := hE.dec 91 c (by kernel_rfl)
         replace hm := cond_f c hm
         have c_7 := c
         refine WQ.d hE [32, 33, 34, 35, 36, 37, 38, 39, 40, 41, 43] [.pointer (some ⟨al_w_.a__p, 0, none⟩), .int .i64 t_4.2.root0] [(91, .bool false), (95, .pointer (some ⟨al_w_.a__p, 0, none⟩)), (101, .int .i64 t_4.2.root0), (103, .slice al_w_.has0_b w_.has0.length al_w_.has0_c)] (obs := [.cell ⟨p_w_, 0, none⟩ (.pointer (some ⟨al_w_.a__p, 0, none⟩)), .p (0 ≤ (0 : Int) ∧ (0 : Int) < ((2 : Nat) : Int)), .cell ⟨p_w_, 1, none⟩ (.int .i64 t_4.2.root0)]) ⟨H.cell 1 rfl rfl, ⟨by decide, by decide⟩, H.cell 1 rfl rfl, trivial⟩ fun a hE => ?_
         obtain ⟨t_6, et_6, hm⟩ := bind_some hm
         refine WQ.eff (j := 42) (obs := []) hE (by kernel_rfl) rfl rfl rfl rfl (by kernel_rfl) (OpTo.fn hE rfl rfl Tryz.call83 (skew_All_ok et_6 H.t2)) ?_
         rintro _ w ⟨sb, sc, rfl, H⟩
         refine ⟨trivial, fun a hE => ?_⟩
         obtain ⟨t_7, et_7, hm⟩ := bind_some hm
         replace H := H.t2
         refine WQ.eff (j := 44) (obs := []) hE (by kernel_rfl) rfl rfl rfl rfl (by kernel_rfl) (OpTo.fn hE rfl rfl Tryz.call84 (thicketlaw11_cells_ok (hX_l := (sl_rd 76 thicketlaw11_held.enc 3 _ _ _)) (hC_l := (H.slCap 0 rfl).1) et_7 H)) ?_
         rintro _ w ⟨sb1, sc1, rfl, H⟩
         refine ⟨trivial, fun a hE => ?_⟩
         obtain ⟨t_8, et_8, hm⟩ := bind_some hm
         replace H := H.t2
         refine WQ.eff (j := 45) (obs := []) hE (by kernel_rfl) rfl rfl rfl rfl (by kernel_rfl) (OpTo.fn hE rfl rfl Tryz.call71 (thicketbook_Same_int_ok (hX_a_ := (sl_rd 3 ecI 1 _ _ _)) (hC_a_ := (H.slCap 0 rfl).1) (hX_b := (sl_rd 3 ecI 1 _ _ _)) (hC_b := (H.slCap 1 rfl).1) et_8 H)) ?_
         rintro _ w ⟨rfl, H⟩
         refine ⟨trivial, fun a hE => ?_⟩
         refine WQ.d0 hE [46, 47, 48] [(108, .bool (!t_8))] fun a hE => ?_
         rcases Bool.eq_false_or_eq_true (!t_8) with c | c
         ·replace hE := hE.dec 108 c (by kernel_rfl)
          replace hm := cond_t c hm
          have c_8 := c
          refine WQ.d0 hE [49, 50, 51, 52, 53] [(113, .bool true)] fun a hE => ?_
          refine WQ.done (by kernel_rfl) ?_
          replace H := thicketlaw11_world.shut al_w_ (thicketlaw11_world.mk t_6.2 t_4.2.root0 t_4.2.root1 w_.has0 w_.has1 t_4.2.next t_4.2.spent t_4.2.most) H.t5.t3.t4.t5
          cases hm
          exact hk _ _ ⟨hE.sel [0, 3, 113] (by kernel_rfl), H.x2.x1⟩
         ·replace hE := hE.dec 108 c (by kernel_rfl)
          replace hm := cond_f c hm
          have c_9 := c
          refine WQ.d0 hE [49, 50] [(108, .bool false), (109, .pointer (some ⟨p_w_, 0, none⟩)), (110, .int .i64 0)] fun a hE => ?_
          replace H := thicketlaw11_world.shut al_w_ (thicketlaw11_world.mk t_6.2 t_4.2.root0 t_4.2.root1 w_.has0 w_.has1 t_4.2.next t_4.2.spent t_4.2.most) H.t5.t3.t4.t5
          obtain ⟨t_9, et_9, hm⟩ := bind_some hm
          refine WQ.eff (j := 51) (obs := []) hE (by kernel_rfl) rfl rfl rfl rfl (by kernel_rfl) (OpTo.fn hE rfl rfl Tryz.call85 (thicketlaw11_world_shape_ok et_9 H)) ?_
          rintro _ w ⟨rfl, H⟩
          refine ⟨trivial, fun a hE => ?_⟩
          refine WQ.d0 hE [52, 53] [(113, .bool (!t_9.1))] fun a hE => ?_
          refine WQ.done (by kernel_rfl) ?_
          cases hm
          exact hk _ _ ⟨hE.sel [0, 3, 113] (by kernel_rfl), H.x2.x1⟩
       ·replace hE := hE.dec 80 c (by kernel_rfl)
        replace hm := cond_f c hm
        have c_10 := c
        refine WQ.d hE [21, 22, 23, 24, 25, 26, 27, 28, 29, 30, 31, 32, 33, 34, 35, 36, 37, 38, 39, 40, 41, 43] [.pointer (some ⟨al_w_.a__p, 0, none⟩), .int .i64 t_4.2.root0] [(91, .bool false), (95, .pointer (some ⟨al_w_.a__p, 0, none⟩)), (101, .int .i64 t_4.2.root0), (103, .slice al_w_.has0_b w_.has0.length al_w_.has0_c)] (obs := [.cell ⟨p_w_, 0, none⟩ (.pointer (some ⟨al_w_.a__p, 0, none⟩)), .p (0 ≤ (0 : Int) ∧ (0 : Int) < ((2 : Nat) : Int)), .cell ⟨p_w_, 1, none⟩ (.int .i64 t_4.2.root0)]) ⟨H.cell 0 rfl rfl, ⟨by decide, by decide⟩, H.cell 0 rfl rfl, trivial⟩ fun a hE => ?_
        obtain ⟨t_10, et_10, hm⟩ := bind_some hm
        refine WQ.eff (j := 42) (obs := []) hE (by kernel_rfl) rfl rfl rfl rfl (by kernel_rfl) (OpTo.fn hE rfl rfl Tryz.call83 (skew_All_ok et_10 H.t1)) ?_
        rintro _ w ⟨sb2, sc2, rfl, H⟩
        refine ⟨trivial, fun a hE => ?_⟩
        obtain ⟨t_11, et_11, hm⟩ := bind_some hm
        replace H := H.t3
        refine WQ.eff (j := 44) (obs := []) hE (by kernel_rfl) rfl rfl rfl rfl (by kernel_rfl) (OpTo.fn hE rfl rfl Tryz.call84 (thicketlaw11_cells_ok (hX_l := (sl_rd 76 thicketlaw11_held.enc 3 _ _ _)) (hC_l := (H.slCap 0 rfl).1) et_11 H)) ?_
        rintro _ w ⟨sb3, sc3, rfl, H⟩
        refine ⟨trivial, fun a hE => ?_⟩
        obtain ⟨t_12, et_12, hm⟩ := bind_some hm
        replace H := H.t2
        refine WQ.eff (j := 45) (obs := []) hE (by kernel_rfl) rfl rfl rfl rfl (by kernel_rfl) (OpTo.fn hE rfl rfl Tryz.call71 (thicketbook_Same_int_ok (hX_a_ := (sl_rd 3 ecI 1 _ _ _)) (hC_a_ := (H.slCap 0 rfl).1) (hX_b := (sl_rd 3 ecI 1 _ _ _)) (hC_b := (H.slCap 1 rfl).1) et_12 H)) ?_
        rintro _ w ⟨rfl, H⟩
        refine ⟨trivial, fun a hE => ?_⟩
        refine WQ.d0 hE [46, 47, 48] [(108, .bool (!t_12))] fun a hE => ?_
        rcases Bool.eq_false_or_eq_true (!t_12) with c | c
        ·replace hE := hE.dec 108 c (by kernel_rfl)
         replace hm := cond_t c hm
         have c_11 := c
         refine WQ.d0 hE [49, 50, 51, 52, 53] [(113, .bool true)] fun a hE => ?_
         refine WQ.done (by kernel_rfl) ?_
         replace H := thicketlaw11_world.shut al_w_ (thicketlaw11_world.mk t_10.2 t_4.2.root0 t_4.2.root1 w_.has0 w_.has1 t_4.2.next t_4.2.spent t_4.2.most) H.t5.t3.t4.t5
         cases hm
         exact hk _ _ ⟨hE.sel [0, 3, 113] (by kernel_rfl), H.x2.x1⟩
        ·replace hE := hE.dec 108 c (by kernel_rfl)
         replace hm := cond_f c hm
         have c_12 := c
         refine WQ.d0 hE [49, 50] [(108, .bool false), (109, .pointer (some ⟨p_w_, 0, none⟩)), (110, .int .i64 0)] fun a hE => ?_
         replace H := thicketlaw11_world.shut al_w_ (thicketlaw11_world.mk t_10.2 t_4.2.root0 t_4.2.root1 w_.has0 w_.has1 t_4.2.next t_4.2.spent t_4.2.most) H.t5.t3.t4.t5
         obtain ⟨t_13, et_13, hm⟩ := bind_some hm
         refine WQ.eff (j := 51) (obs := []) hE (by kernel_rfl) rfl rfl rfl rfl (by kernel_rfl) (OpTo.fn hE rfl rfl Tryz.call85 (thicketlaw11_world_shape_ok et_13 H)) ?_
         rintro _ w ⟨rfl, H⟩
         refine ⟨trivial, fun a hE => ?_⟩
         refine WQ.d0 hE [52, 53] [(113, .bool (!t_13.1))] fun a hE => ?_
         refine WQ.done (by kernel_rfl) ?_
         cases hm
         exact hk _ _ ⟨hE.sel [0, 3, 113] (by kernel_rfl), H.x2.x1⟩
    ·replace hE := hE.dec 63 c (by kernel_rfl)
     replace hm := cond_f c hm
     have c_13 := c
     refine WQ.d0 hE [4, 5, 6, 7, 8, 9, 10, 11, 12, 13, 14, 15, 16, 17, 18, 19, 20] [(76, .bool false), (80, .bool (decide ((w_.has0.length : Int) > 0)))] fun a hE => ?_
     rcases Bool.eq_false_or_eq_true (decide ((w_.has0.length : Int) > 0)) with c | c
     ·replace hE := hE.dec 80 c (by kernel_rfl)
      replace hm := cond_t c hm
      have c_14 := c
      refine WQ.d0 hE [21, 22, 23] [(80, .bool true), (81, .int .i64 t_3.1), (82, .slice al_w_.has0_b w_.has0.length al_w_.has0_c), (83, .slice al_w_.has0_b w_.has0.length al_w_.has0_c)] fun a hE => ?_
      obtain ⟨t_14, et_14, hm⟩ := bind_some hm
      replace H := H.t2
      refine WQ.eff (j := 24) (obs := []) hE (by kernel_rfl) rfl rfl rfl rfl (by kernel_rfl) (OpTo.fn hE rfl rfl Tryz.call81 (thicketlaw11_least_ok (hX_l := (sl_rd 76 thicketlaw11_held.enc 3 _ _ _)) (hC_l := (H.slCap 0 rfl).1) et_14 H)) ?_
      rintro _ w ⟨rfl, H⟩
      refine ⟨trivial, fun a hE => ?_⟩
      obtain ⟨x1, ex1, hm⟩ := bind_some hm
      obtain ⟨b1, o1, hs1, hb1⟩ := SlRd.base (sl_rd 76 thicketlaw11_held.enc 3 _ _ _) thicketlaw11_held.enc_ok H 0 rfl ex1
      refine WQ.d hE [25, 26, 27, 28, 29, 30, 31] [.pointer (some ⟨b1, o1, none⟩), .int .i64 x1.cell] [(91, .bool (t_3.1 != x1.cell))] (obs := [.p ((al_w_.has0_b : Option Addr) = some ⟨b1, o1, none⟩), .p (0 ≤ (t_14 : Int) ∧ (t_14 : Int) < ((w_.has0.length : Nat) : Int)), .cell ⟨b1, o1 + (Int.toNat t_14) * 3, none⟩ (.int .i64 x1.cell)]) ⟨hs1, hb1, SlRd.cells (sl_rd 76 thicketlaw11_held.enc 3 _ _ _) thicketlaw11_held.enc_ok H 0 rfl hs1 ex1 0 _ rfl, trivial⟩ fun a hE => ?_
      rcases Bool.eq_false_or_eq_true (t_3.1 != x1.cell) with c | c
      ·replace hE := hE.dec 91 c (by kernel_rfl)
       replace hm := cond_t c hm
       have c_15 := c
       refine WQ.d0 hE [32, 33, 34, 35, 36, 37, 38, 39, 40, 41, 42, 43, 44, 45, 46, 47, 48, 49, 50, 51, 52, 53] [(113, .bool true)] fun a hE => ?_
       refine WQ.done (by kernel_rfl) ?_
       replace H := thicketlaw11_world.shut al_w_ (thicketlaw11_world.mk t_4.2.a_ t_4.2.root0 t_4.2.root1 w_.has0 w_.has1 t_4.2.next t_4.2.spent t_4.2.most) H.t3.t1.t3.t3
       cases hm
       exact hk _ _ ⟨hE.sel [0, 3, 113] (by kernel_rfl), H⟩
      ·replace hE := hE.dec 91 c (by kernel_rfl)
       replace hm := cond_f c hm
       have c_16 := c
       refine WQ.d hE [32, 33, 34, 35, 36, 37, 38, 39, 40, 41, 43] [.pointer (some ⟨al_w_.a__p, 0, none⟩), .int .i64 t_4.2.root0] [(91, .bool false), (95, .pointer (some ⟨al_w_.a__p, 0, none⟩)), (101, .int .i64 t_4.2.root0), (103, .slice al_w_.has0_b w_.has0.length al_w_.has0_c)] (obs := [.cell ⟨p_w_, 0, none⟩ (.pointer (some ⟨al_w_.a__p, 0, none⟩)), .p (0 ≤ (0 : Int) ∧ (0 : Int) < ((2 : Nat) : Int)), .cell ⟨p_w_, 1, none⟩ (.int .i64 t_4.2.root0)]) ⟨H.cell 1 rfl rfl, ⟨by decide, by decide⟩, H.cell 1 rfl rfl, trivial⟩ fun a hE => ?_
       obtain ⟨t_15, et_15, hm⟩ := bind_some hm
       refine WQ.eff (j := 42) (obs := []) hE (by kernel_rfl) rfl rfl rfl rfl (by kernel_rfl) (OpTo.fn hE rfl rfl Tryz.call83 (skew_All_ok et_15 H.t2)) ?_
       rintro _ w ⟨sb4, sc4, rfl, H⟩
       refine ⟨trivial, fun a hE => ?_⟩
       obtain ⟨t_16, et_16, hm⟩ := bind_some hm
       replace H := H.t2
       refine WQ.eff (j := 44) (obs := []) hE (by kernel_rfl) rfl rfl rfl rfl (by kernel_rfl) (OpTo.fn hE rfl rfl Tryz.call84 (thicketlaw11_cells_ok (hX_l := (sl_rd 76 thicketlaw11_held.enc 3 _ _ _)) (hC_l := (H.slCap 0 rfl).1) et_16 H)) ?_
       rintro _ w ⟨sb5, sc5, rfl, H⟩
       refine ⟨trivial, fun a hE => ?_⟩
       obtain ⟨t_17, et_17, hm⟩ := bind_some hm
       replace H := H.t2
       refine WQ.eff (j := 45) (obs := []) hE (by kernel_rfl) rfl rfl rfl rfl (by kernel_rfl) (OpTo.fn hE rfl rfl Tryz.call71 (thicketbook_Same_int_ok (hX_a_ := (sl_rd 3 ecI 1 _ _ _)) (hC_a_ := (H.slCap 0 rfl).1) (hX_b := (sl_rd 3 ecI 1 _ _ _)) (hC_b := (H.slCap 1 rfl).1) et_17 H)) ?_
       rintro _ w ⟨rfl, H⟩
       refine ⟨trivial, fun a hE => ?_⟩
       refine WQ.d0 hE [46, 47, 48] [(108, .bool (!t_17))] fun a hE => ?_
       rcases Bool.eq_false_or_eq_true (!t_17) with c | c
       ·replace hE := hE.dec 108 c (by kernel_rfl)
        replace hm := cond_t c hm
        have c_17 := c
        refine WQ.d0 hE [49, 50, 51, 52, 53] [(113, .bool true)] fun a hE => ?_
        refine WQ.done (by kernel_rfl) ?_
        replace H := thicketlaw11_world.shut al_w_ (thicketlaw11_world.mk t_15.2 t_4.2.root0 t_4.2.root1 w_.has0 w_.has1 t_4.2.next t_4.2.spent t_4.2.most) H.t5.t3.t4.t5
        cases hm
        exact hk _ _ ⟨hE.sel [0, 3, 113] (by kernel_rfl), H.x2.x1⟩
       ·replace hE := hE.dec 108 c (by kernel_rfl)
        replace hm := cond_f c hm
        have c_18 := c
        refine WQ.d0 hE [49, 50] [(108, .bool false), (109, .pointer (some ⟨p_w_, 0, none⟩)), (110, .int .i64 0)] fun a hE => ?_
        replace H := thicketlaw11_world.shut al_w_ (thicketlaw11_world.mk t_15.2 t_4.2.root0 t_4.2.root1 w_.has0 w_.has1 t_4.2.next t_4.2.spent t_4.2.most) H.t5.t3.t4.t5
        obtain ⟨t_18, et_18, hm⟩ := bind_some hm
        refine WQ.eff (j := 51) (obs := []) hE (by kernel_rfl) rfl rfl rfl rfl (by kernel_rfl) (OpTo.fn hE rfl rfl Tryz.call85 (thicketlaw11_world_shape_ok et_18 H)) ?_
        rintro _ w ⟨rfl, H⟩
        refine ⟨trivial, fun a hE => ?_⟩
        refine WQ.d0 hE [52, 53] [(113, .bool (!t_18.1))] fun a hE => ?_
        refine WQ.done (by kernel_rfl) ?_
        cases hm
        exact hk _ _ ⟨hE.sel [0, 3, 113] (by kernel_rfl), H.x2.x1⟩
     ·replace hE := hE.dec 80 c (by kernel_rfl)
      replace hm := cond_f c hm
      have c_19 := c
      refine WQ.d hE [21, 22, 23, 24, 25, 26, 27, 28, 29, 30, 31, 32, 33, 34, 35, 36, 37, 38, 39, 40, 41, 43] [.pointer (some ⟨al_w_.a__p, 0, none⟩), .int .i64 t_4.2.root0] [(91, .bool false), (95, .pointer (some ⟨al_w_.a__p, 0, none⟩)), (101, .int .i64 t_4.2.root0), (103, .slice al_w_.has0_b w_.has0.length al_w_.has0_c)] (obs := [.cell ⟨p_w_, 0, none⟩ (.pointer (some ⟨al_w_.a__p, 0, none⟩)), .p (0 ≤ (0 : Int) ∧ (0 : Int) < ((2 : Nat) : Int)), .cell ⟨p_w_, 1, none⟩ (.int .i64 t_4.2.root0)]) ⟨H.cell 0 rfl rfl, ⟨by decide, by decide⟩, H.cell 0 rfl rfl, trivial⟩ fun a hE => ?_
      obtain ⟨t_19, et_19, hm⟩ := bind_some hm
      refine WQ.eff (j := 42) (obs := []) hE (by kernel_rfl) rfl rfl rfl rfl (by kernel_rfl) (OpTo.fn hE rfl rfl Tryz.call83 (skew_All_ok et_19 H.t1)) ?_
      rintro _ w ⟨sb6, sc6, rfl, H⟩
      refine ⟨trivial, fun a hE => ?_⟩
      obtain ⟨t_20, et_20, hm⟩ := bind_some hm
      replace H := H.t3
      refine WQ.eff (j := 44) (obs := []) hE (by kernel_rfl) rfl rfl rfl rfl (by kernel_rfl) (OpTo.fn hE rfl rfl Tryz.call84 (thicketlaw11_cells_ok (hX_l := (sl_rd 76 thicketlaw11_held.enc 3 _ _ _)) (hC_l := (H.slCap 0 rfl).1) et_20 H)) ?_
      rintro _ w ⟨sb7, sc7, rfl, H⟩
      refine ⟨trivial, fun a hE => ?_⟩
      obtain ⟨t_21, et_21, hm⟩ := bind_some hm
      replace H := H.t2
      refine WQ.eff (j := 45) (obs := []) hE (by kernel_rfl) rfl rfl rfl rfl (by kernel_rfl) (OpTo.fn hE rfl rfl Tryz.call71 (thicketbook_Same_int_ok (hX_a_ := (sl_rd 3 ecI 1 _ _ _)) (hC_a_ := (H.slCap 0 rfl).1) (hX_b := (sl_rd 3 ecI 1 _ _ _)) (hC_b := (H.slCap 1 rfl).1) et_21 H)) ?_
      rintro _ w ⟨rfl, H⟩
      refine ⟨trivial, fun a hE => ?_⟩
      refine WQ.d0 hE [46, 47, 48] [(108, .bool (!t_21))] fun a hE => ?_
      rcases Bool.eq_false_or_eq_true (!t_21) with c | c
      ·replace hE := hE.dec 108 c (by kernel_rfl)
       replace hm := cond_t c hm
       have c_20 := c
       refine WQ.d0 hE [49, 50, 51, 52, 53] [(113, .bool true)] fun a hE => ?_
       refine WQ.done (by kernel_rfl) ?_
       replace H := thicketlaw11_world.shut al_w_ (thicketlaw11_world.mk t_19.2 t_4.2.root0 t_4.2.root1 w_.has0 w_.has1 t_4.2.next t_4.2.spent t_4.2.most) H.t5.t3.t4.t5
       cases hm
       exact hk _ _ ⟨hE.sel [0, 3, 113] (by kernel_rfl), H.x2.x1⟩
      ·replace hE := hE.dec 108 c (by kernel_rfl)
       replace hm := cond_f c hm
       have c_21 := c
       refine WQ.d0 hE [49, 50] [(108, .bool false), (109, .pointer (some ⟨p_w_, 0, none⟩)), (110, .int .i64 0)] fun a hE => ?_
       replace H := thicketlaw11_world.shut al_w_ (thicketlaw11_world.mk t_19.2 t_4.2.root0 t_4.2.root1 w_.has0 w_.has1 t_4.2.next t_4.2.spent t_4.2.most) H.t5.t3.t4.t5
       obtain ⟨t_22, et_22, hm⟩ := bind_some hm
       refine WQ.eff (j := 51) (obs := []) hE (by kernel_rfl) rfl rfl rfl rfl (by kernel_rfl) (OpTo.fn hE rfl rfl Tryz.call85 (thicketlaw11_world_shape_ok et_22 H)) ?_
       rintro _ w ⟨rfl, H⟩
       refine ⟨trivial, fun a hE => ?_⟩
       refine WQ.d0 hE [52, 53] [(113, .bool (!t_22.1))] fun a hE => ?_
       refine WQ.done (by kernel_rfl) ?_
       cases hm
       exact hk _ _ ⟨hE.sel [0, 3, 113] (by kernel_rfl), H.x2.x1⟩
   rintro a w ⟨hE, H⟩
   refine Runs.cond hE rfl (fun c => ?_) (fun c => ?_)
   ·replace hm := cond_t c hm
    refine Runs.sr ?_
    refine WR.seg hE 1 [] [2] (Lo := [(2, .bool false)]) (obs := []) rfl (by kernel_rfl) trivial fun a hE => ?_
    refine WR.done rfl ?_
    refine Runs.ret hE Tryz.func43 rfl rfl ?_
    cases hm
    exact ⟨rfl, H⟩
   ·replace hm := cond_f c hm
    refine Runs.skip ?_
    refine Runs.inBlock ?_
    refine Runs.region ?_
    refine WR.seg hE 3 [] [0, 3] (Lo := [(0, .pointer (some ⟨p_w_, 0, none⟩)), (3, .int .i64 1)]) (obs := []) rfl (by kernel_rfl) trivial fun a hE => ?_
    refine WR.done rfl ?_
    refine Runs.inLoop ?_
    refine Runs.seq ?_
    refine Runs.sr ?_
    refine WR.e0 hE [(28, .bool true)] fun a hE => ?_
    refine Runs.condT hE rfl ?_
    refine Runs.skip ?_
    refine Runs.seq ?_
    refine Runs.block ?_
    refine Runs.sr ?_
    replace H := thicketlaw11_world.open H
    refine WR.e hE [.slice al_w_.has1_b s.2.has1.length al_w_.has1_c] [(4, .slice al_w_.has1_b s.2.has1.length al_w_.has1_c)] (obs := [.p (0 ≤ (1 : Int) ∧ (1 : Int) < ((2 : Nat) : Int)), .cell ⟨p_w_, 4, none⟩ (.slice al_w_.has1_b s.2.has1.length al_w_.has1_c)]) ⟨⟨by decide, by decide⟩, H.cell 0 rfl rfl, trivial⟩ fun a hE => ?_
    refine Runs.sr ?_
    refine WR.d hE 4 [.pointer (some ⟨al_w_.a__p, 0, none⟩)] [(40, .pointer (some ⟨al_w_.a__p, 0, none⟩))] (obs := [.cell ⟨p_w_, 0, none⟩ (.pointer (some ⟨al_w_.a__p, 0, none⟩))]) ⟨H.cell 0 rfl rfl, trivial⟩ fun a hE => ?_
    obtain ⟨t_23, et_23, hm⟩ := bind_some hm
    refine WR.eff hE rfl rfl rfl rfl (OpTo.fn hE rfl rfl Tryz.call20 (arena_Arena_Meter_ok et_23 H.t1)) ?_
    rintro _ w ⟨rfl, H⟩ a hE
    replace H := arena_Arena.open H
    obtain ⟨t_24, et_24, hm⟩ := bind_some hm
    refine WR.eff hE rfl rfl rfl rfl (OpTo.fn hE rfl rfl Tryz.call21 (meter_Meter_Steps_ok et_24 H.t3)) ?_
    rintro _ w ⟨rfl, H⟩ a hE
    refine WR.e0 hE [(5, .int .i64 t_24)] fun a hE => ?_
    refine Runs.seq ?_
    refine Runs.drawn mixed (by kernel_rfl) ?_
    replace H := H.drew
    refine WQ.d hE [0, 1, 2, 3, 4, 5, 6, 7, 8, 9] [.pointer (some ⟨al_w_.a__p, 0, none⟩), .int .i64 s.2.root1] [(46, .pointer (some ⟨al_w_.a__p, 0, none⟩)), (52, .int .i64 s.2.root1)] (obs := [.cell ⟨p_w_, 0, none⟩ (.pointer (some ⟨al_w_.a__p, 0, none⟩)), .p (0 ≤ (1 : Int) ∧ (1 : Int) < ((2 : Nat) : Int)), .cell ⟨p_w_, 2, none⟩ (.int .i64 s.2.root1)]) ⟨H.cell 4 rfl rfl, ⟨by decide, by decide⟩, H.cell 4 rfl rfl, trivial⟩ fun a hE => ?_
    replace H := arena_Arena.shut al_w_.a__a (s.2.a_) H.t3.t3.t3
    obtain ⟨t_25, et_25, hm⟩ := bind_some hm
    refine WQ.eff (j := 10) (obs := []) hE (by kernel_rfl) rfl rfl rfl rfl (by kernel_rfl) (OpTo.fn hE rfl rfl Tryz.call47 (skew_Min_ok et_25 H)) ?_
    rintro _ w ⟨rfl, H⟩
    refine ⟨trivial, fun a hE => ?_⟩
    refine WQ.d0 hE [11] [(6, .int .i64 t_25.1)] fun a hE => ?_
    refine WQ.done (by kernel_rfl) ?_
    refine Runs.seq ?_
    refine Runs.sr ?_
    refine WR.d0 hE 4 [(54, .pointer (some ⟨p_w_, 0, none⟩)), (55, .int .i64 t_24), (57, .int .i64 (s.2.has1.length : Int))] fun a hE => ?_
    replace H := thicketlaw11_world.shut al_w_ (thicketlaw11_world.mk t_25.2 s.2.root0 s.2.root1 s.2.has0 s.2.has1 s.2.next s.2.spent s.2.most) H.t3.t3.t2.t3
    obtain ⟨t_26, et_26, hm⟩ := bind_some hm
    refine WR.eff hE rfl rfl rfl rfl (OpTo.fn hE rfl rfl Tryz.call38 (thicketlaw11_world_cost_ok et_26 H)) ?_
    rintro _ w ⟨rfl, hf2, hf3, H⟩ a hE
    refine WR.e0 hE [(59, .bool (!t_26.1))] fun a hE => ?_
    refine Runs.cond hE rfl (fun c => ?_) (fun c => ?_)
    ·replace hm := cond_t c hm
     refine Runs.sr ?_
     refine WR.e0 hE [(2, .bool false)] fun a hE => ?_
     refine Runs.ret hE Tryz.func43 rfl rfl ?_
     cases hm
     exact ⟨rfl, H⟩
    ·replace hm := cond_f c hm
     refine Runs.skip ?_
     refine Runs.seq ?_
     obtain ⟨s1, es1, hm⟩ := bind_some hm
     refine Runs.join (fun a w => EnvOk 114 a [(0, .pointer (some ⟨p_w_, 0, none⟩)), (3, .int .i64 1), (113, .bool s1.1)] ∧ St w0 (thicketlaw11_world.R p_w_ al_w_ s1.2 :: As) w) (fun hk => ?_) ?_
     ·replace hm := es1; clear es1
      refine Runs.drawn mixed (by kernel_rfl) ?_
      replace H := H.drew
      replace H := thicketlaw11_world.open H
      try rw [hf2] at H
      try rw [hf3] at H
      try dsimp only at H
      refine WQ.d0 hE [0, 1, 2, 3] [(63, .bool ((s.2.has1.length : Int) == 0))] fun a hE => ?_
      rcases Bool.eq_false_or_eq_true ((s.2.has1.length : Int) == 0) with c | c
      ·replace hE := hE.dec 63 c (by kernel_rfl)
       replace hm := cond_t c hm
       have c_22 := c
       refine WQ.d0 hE [4, 5, 6] [(63, .bool true), (66, .bool (t_25.1 != (-1)))] fun a hE => ?_
       rcases Bool.eq_false_or_eq_true (t_25.1 != (-1)) with c | c
       ·replace hE := hE.dec 66 c (by kernel_rfl)
        replace hm := cond_t c hm
        have c_23 := c
        refine WQ.d0 hE [7, 8, 9, 10, 11, 12, 13, 14, 15, 16, 17, 18, 19, 20, 21, 22, 23, 24, 25, 26, 27, 28, 29, 30, 31, 32, 33, 34, 35, 36, 37, 38, 39, 40, 41, 42, 43, 44, 45, 46, 47, 48, 49, 50, 51, 52, 53] [(113, .bool true)] fun a hE => ?_
        refine WQ.done (by kernel_rfl) ?_
        replace H := thicketlaw11_world.shut al_w_ (thicketlaw11_world.mk t_26.2.a_ t_26.2.root0 t_26.2.root1 s.2.has0 s.2.has1 t_26.2.next t_26.2.spent t_26.2.most) H.t3.t3.t3.t3
        cases hm
        exact hk _ _ ⟨hE.sel [0, 3, 113] (by kernel_rfl), H⟩
       ·replace hE := hE.dec 66 c (by kernel_rfl)
        replace hm := cond_f c hm
        have c_24 := c
        refine WQ.d hE [7, 8, 9, 10, 11, 12, 13, 14, 15, 16] [.int .i64 t_26.2.root1] [(76, .bool (t_26.2.root1 != (-1)))] (obs := [.p (0 ≤ (1 : Int) ∧ (1 : Int) < ((2 : Nat) : Int)), .cell ⟨p_w_, 2, none⟩ (.int .i64 t_26.2.root1)]) ⟨⟨by decide, by decide⟩, H.cell 0 rfl rfl, trivial⟩ fun a hE => ?_
        rcases Bool.eq_false_or_eq_true (t_26.2.root1 != (-1)) with c | c
        ·replace hE := hE.dec 76 c (by kernel_rfl)
         replace hm := cond_t c hm
         have c_25 := c
         refine WQ.d0 hE [17, 18, 19, 20, 21, 22, 23, 24, 25, 26, 27, 28, 29, 30, 31, 32, 33, 34, 35, 36, 37, 38, 39, 40, 41, 42, 43, 44, 45, 46, 47, 48, 49, 50, 51, 52, 53] [(113, .bool true)] fun a hE => ?_
         refine WQ.done (by kernel_rfl) ?_
         replace H := thicketlaw11_world.shut al_w_ (thicketlaw11_world.mk t_26.2.a_ t_26.2.root0 t_26.2.root1 s.2.has0 s.2.has1 t_26.2.next t_26.2.spent t_26.2.most) H.t3.t3.t3.t3
         cases hm
         exact hk _ _ ⟨hE.sel [0, 3, 113] (by kernel_rfl), H⟩
        ·replace hE := hE.dec 76 c (by kernel_rfl)
         replace hm := cond_f c hm
         have c_26 := c
         refine WQ.d0 hE [17, 18, 19, 20] [(76, .bool false), (80, .bool (decide ((s.2.has1.length : Int) > 0)))] fun a hE => ?_
         rcases Bool.eq_false_or_eq_true (decide ((s.2.has1.length : Int) > 0)) with c | c
         ·replace hE := hE.dec 80 c (by kernel_rfl)
          replace hm := cond_t c hm
          have c_27 := c
          refine WQ.d0 hE [21, 22, 23] [(80, .bool true), (81, .int .i64 t_25.1), (82, .slice al_w_.has1_b s.2.has1.length al_w_.has1_c), (83, .slice al_w_.has1_b s.2.has1.length al_w_.has1_c)] fun a hE => ?_
          obtain ⟨t_27, et_27, hm⟩ := bind_some hm
          replace H := H.t3
          refine WQ.eff (j := 24) (obs := []) hE (by kernel_rfl) rfl rfl rfl rfl (by kernel_rfl) (OpTo.fn hE rfl rfl Tryz.call81 (thicketlaw11_least_ok (hX_l := (sl_rd 76 thicketlaw11_held.enc 3 _ _ _)) (hC_l := (H.slCap 0 rfl).1) et_27 H)) ?_
          rintro _ w ⟨rfl, H⟩
          refine ⟨trivial, fun a hE => ?_⟩
          obtain ⟨x2, ex2, hm⟩ := bind_some hm
          obtain ⟨b2, o2, hs2, hb2⟩ := SlRd.base (sl_rd 76 thicketlaw11_held.enc 3 _ _ _) thicketlaw11_held.enc_ok H 0 rfl ex2
          refine WQ.d hE [25, 26, 27, 28, 29, 30, 31] [.pointer (some ⟨b2, o2, none⟩), .int .i64 x2.cell] [(91, .bool (t_25.1 != x2.cell))] (obs := [.p ((al_w_.has1_b : Option Addr) = some ⟨b2, o2, none⟩), .p (0 ≤ (t_27 : Int) ∧ (t_27 : Int) < ((s.2.has1.length : Nat) : Int)), .cell ⟨b2, o2 + (Int.toNat t_27) * 3, none⟩ (.int .i64 x2.cell)]) ⟨hs2, hb2, SlRd.cells (sl_rd 76 thicketlaw11_held.enc 3 _ _ _) thicketlaw11_held.enc_ok H 0 rfl hs2 ex2 0 _ rfl, trivial⟩ fun a hE => ?_
          rcases Bool.eq_false_or_eq_true (t_25.1 != x2.cell) with c | c
          ·replace hE := hE.dec 91 c (by kernel_rfl)
           replace hm := cond_t c hm
           have c_28 := c
           refine WQ.d0 hE [32, 33, 34, 35, 36, 37, 38, 39, 40, 41, 42, 43, 44, 45, 46, 47, 48, 49, 50, 51, 52, 53] [(113, .bool true)] fun a hE => ?_
           refine WQ.done (by kernel_rfl) ?_
           replace H := thicketlaw11_world.shut al_w_ (thicketlaw11_world.mk t_26.2.a_ t_26.2.root0 t_26.2.root1 s.2.has0 s.2.has1 t_26.2.next t_26.2.spent t_26.2.most) H.t3.t3.t3
           cases hm
           exact hk _ _ ⟨hE.sel [0, 3, 113] (by kernel_rfl), H⟩
          ·replace hE := hE.dec 91 c (by kernel_rfl)
           replace hm := cond_f c hm
           have c_29 := c
           refine WQ.d hE [32, 33, 34, 35, 36, 37, 38, 39, 40, 41, 43] [.pointer (some ⟨al_w_.a__p, 0, none⟩), .int .i64 t_26.2.root1] [(91, .bool false), (95, .pointer (some ⟨al_w_.a__p, 0, none⟩)), (101, .int .i64 t_26.2.root1), (103, .slice al_w_.has1_b s.2.has1.length al_w_.has1_c)] (obs := [.cell ⟨p_w_, 0, none⟩ (.pointer (some ⟨al_w_.a__p, 0, none⟩)), .p (0 ≤ (1 : Int) ∧ (1 : Int) < ((2 : Nat) : Int)), .cell ⟨p_w_, 2, none⟩ (.int .i64 t_26.2.root1)]) ⟨H.cell 1 rfl rfl, ⟨by decide, by decide⟩, H.cell 1 rfl rfl, trivial⟩ fun a hE => ?_
           obtain ⟨t_28, et_28, hm⟩ := bind_some hm
           refine WQ.eff (j := 42) (obs := []) hE (by kernel_rfl) rfl rfl rfl rfl (by kernel_rfl) (OpTo.fn hE rfl rfl Tryz.call83 (skew_All_ok et_28 H.t2)) ?_
           rintro _ w ⟨sb8, sc8, rfl, H⟩
           refine ⟨trivial, fun a hE => ?_⟩
           obtain ⟨t_29, et_29, hm⟩ := bind_some hm
           replace H := H.t2
           refine WQ.eff (j := 44) (obs := []) hE (by kernel_rfl) rfl rfl rfl rfl (by kernel_rfl) (OpTo.fn hE rfl rfl Tryz.call84 (thicketlaw11_cells_ok (hX_l := (sl_rd 76 thicketlaw11_held.enc 3 _ _ _)) (hC_l := (H.slCap 0 rfl).1) et_29 H)) ?_
           rintro _ w ⟨sb9, sc9, rfl, H⟩
           refine ⟨trivial, fun a hE => ?_⟩
           obtain ⟨t_30, et_30, hm⟩ := bind_some hm
           replace H := H.t2
           refine WQ.eff (j := 45) (obs := []) hE (by kernel_rfl) rfl rfl rfl rfl (by kernel_rfl) (OpTo.fn hE rfl rfl Tryz.call71 (thicketbook_Same_int_ok (hX_a_ := (sl_rd 3 ecI 1 _ _ _)) (hC_a_ := (H.slCap 0 rfl).1) (hX_b := (sl_rd 3 ecI 1 _ _ _)) (hC_b := (H.slCap 1 rfl).1) et_30 H)) ?_
           rintro _ w ⟨rfl, H⟩
           refine ⟨trivial, fun a hE => ?_⟩
           refine WQ.d0 hE [46, 47, 48] [(108, .bool (!t_30))] fun a hE => ?_
           rcases Bool.eq_false_or_eq_true (!t_30) with c | c
           ·replace hE := hE.dec 108 c (by kernel_rfl)
            replace hm := cond_t c hm
            have c_30 := c
            refine WQ.d0 hE [49, 50, 51, 52, 53] [(113, .bool true)] fun a hE => ?_
            refine WQ.done (by kernel_rfl) ?_
            replace H := thicketlaw11_world.shut al_w_ (thicketlaw11_world.mk t_28.2 t_26.2.root0 t_26.2.root1 s.2.has0 s.2.has1 t_26.2.next t_26.2.spent t_26.2.most) H.t2.t5.t4.t5
            cases hm
            exact hk _ _ ⟨hE.sel [0, 3, 113] (by kernel_rfl), H.x2.x1⟩
           ·replace hE := hE.dec 108 c (by kernel_rfl)
            replace hm := cond_f c hm
            have c_31 := c
            refine WQ.d0 hE [49, 50] [(108, .bool false), (109, .pointer (some ⟨p_w_, 0, none⟩)), (110, .int .i64 1)] fun a hE => ?_
            replace H := thicketlaw11_world.shut al_w_ (thicketlaw11_world.mk t_28.2 t_26.2.root0 t_26.2.root1 s.2.has0 s.2.has1 t_26.2.next t_26.2.spent t_26.2.most) H.t2.t5.t4.t5
            obtain ⟨t_31, et_31, hm⟩ := bind_some hm
            refine WQ.eff (j := 51) (obs := []) hE (by kernel_rfl) rfl rfl rfl rfl (by kernel_rfl) (OpTo.fn hE rfl rfl Tryz.call85 (thicketlaw11_world_shape_ok et_31 H)) ?_
            rintro _ w ⟨rfl, H⟩
            refine ⟨trivial, fun a hE => ?_⟩
            refine WQ.d0 hE [52, 53] [(113, .bool (!t_31.1))] fun a hE => ?_
            refine WQ.done (by kernel_rfl) ?_
            cases hm
            exact hk _ _ ⟨hE.sel [0, 3, 113] (by kernel_rfl), H.x2.x1⟩
         ·replace hE := hE.dec 80 c (by kernel_rfl)
          replace hm := cond_f c hm
          have c_32 := c
          refine WQ.d hE [21, 22, 23, 24, 25, 26, 27, 28, 29, 30, 31, 32, 33, 34, 35, 36, 37, 38, 39, 40, 41, 43] [.pointer (some ⟨al_w_.a__p, 0, none⟩), .int .i64 t_26.2.root1] [(91, .bool false), (95, .pointer (some ⟨al_w_.a__p, 0, none⟩)), (101, .int .i64 t_26.2.root1), (103, .slice al_w_.has1_b s.2.has1.length al_w_.has1_c)] (obs := [.cell ⟨p_w_, 0, none⟩ (.pointer (some ⟨al_w_.a__p, 0, none⟩)), .p (0 ≤ (1 : Int) ∧ (1 : Int) < ((2 : Nat) : Int)), .cell ⟨p_w_, 2, none⟩ (.int .i64 t_26.2.root1)]) ⟨H.cell 0 rfl rfl, ⟨by decide, by decide⟩, H.cell 0 rfl rfl, trivial⟩ fun a hE => ?_
          obtain ⟨t_32, et_32, hm⟩ := bind_some hm
          refine WQ.eff (j := 42) (obs := []) hE (by kernel_rfl) rfl rfl rfl rfl (by kernel_rfl) (OpTo.fn hE rfl rfl Tryz.call83 (skew_All_ok et_32 H.t1)) ?_
          rintro _ w ⟨sb10, sc10, rfl, H⟩
          refine ⟨trivial, fun a hE => ?_⟩
          obtain ⟨t_33, et_33, hm⟩ := bind_some hm
          replace H := H.t4
          refine WQ.eff (j := 44) (obs := []) hE (by kernel_rfl) rfl rfl rfl rfl (by kernel_rfl) (OpTo.fn hE rfl rfl Tryz.call84 (thicketlaw11_cells_ok (hX_l := (sl_rd 76 thicketlaw11_held.enc 3 _ _ _)) (hC_l := (H.slCap 0 rfl).1) et_33 H)) ?_
          rintro _ w ⟨sb11, sc11, rfl, H⟩
          refine ⟨trivial, fun a hE => ?_⟩
          obtain ⟨t_34, et_34, hm⟩ := bind_some hm
          replace H := H.t2
          refine WQ.eff (j := 45) (obs := []) hE (by kernel_rfl) rfl rfl rfl rfl (by kernel_rfl) (OpTo.fn hE rfl rfl Tryz.call71 (thicketbook_Same_int_ok (hX_a_ := (sl_rd 3 ecI 1 _ _ _)) (hC_a_ := (H.slCap 0 rfl).1) (hX_b := (sl_rd 3 ecI 1 _ _ _)) (hC_b := (H.slCap 1 rfl).1) et_34 H)) ?_
          rintro _ w ⟨rfl, H⟩
          refine ⟨trivial, fun a hE => ?_⟩
          refine WQ.d0 hE [46, 47, 48] [(108, .bool (!t_34))] fun a hE => ?_
          rcases Bool.eq_false_or_eq_true (!t_34) with c | c
          ·replace hE := hE.dec 108 c (by kernel_rfl)
           replace hm := cond_t c hm
           have c_33 := c
           refine WQ.d0 hE [49, 50, 51, 52, 53] [(113, .bool true)] fun a hE => ?_
           refine WQ.done (by kernel_rfl) ?_
           replace H := thicketlaw11_world.shut al_w_ (thicketlaw11_world.mk t_32.2 t_26.2.root0 t_26.2.root1 s.2.has0 s.2.has1 t_26.2.next t_26.2.spent t_26.2.most) H.t2.t5.t4.t5
           cases hm
           exact hk _ _ ⟨hE.sel [0, 3, 113] (by kernel_rfl), H.x2.x1⟩
          ·replace hE := hE.dec 108 c (by kernel_rfl)
           replace hm := cond_f c hm
           have c_34 := c
           refine WQ.d0 hE [49, 50] [(108, .bool false), (109, .pointer (some ⟨p_w_, 0, none⟩)), (110, .int .i64 1)] fun a hE => ?_
           replace H := thicketlaw11_world.shut al_w_ (thicketlaw11_world.mk t_32.2 t_26.2.root0 t_26.2.root1 s.2.has0 s.2.has1 t_26.2.next t_26.2.spent t_26.2.most) H.t2.t5.t4.t5
           obtain ⟨t_35, et_35, hm⟩ := bind_some hm
           refine WQ.eff (j := 51) (obs := []) hE (by kernel_rfl) rfl rfl rfl rfl (by kernel_rfl) (OpTo.fn hE rfl rfl Tryz.call85 (thicketlaw11_world_shape_ok et_35 H)) ?_
           rintro _ w ⟨rfl, H⟩
           refine ⟨trivial, fun a hE => ?_⟩
           refine WQ.d0 hE [52, 53] [(113, .bool (!t_35.1))] fun a hE => ?_
           refine WQ.done (by kernel_rfl) ?_
           cases hm
           exact hk _ _ ⟨hE.sel [0, 3, 113] (by kernel_rfl), H.x2.x1⟩
      ·replace hE := hE.dec 63 c (by kernel_rfl)
       replace hm := cond_f c hm
       have c_35 := c
       refine WQ.d0 hE [4, 5, 6, 7, 8, 9, 10, 11, 12, 13, 14, 15, 16, 17, 18, 19, 20] [(76, .bool false), (80, .bool (decide ((s.2.has1.length : Int) > 0)))] fun a hE => ?_
       rcases Bool.eq_false_or_eq_true (decide ((s.2.has1.length : Int) > 0)) with c | c
       ·replace hE := hE.dec 80 c (by kernel_rfl)
        replace hm := cond_t c hm
        have c_36 := c
        refine WQ.d0 hE [21, 22, 23] [(80, .bool true), (81, .int .i64 t_25.1), (82, .slice al_w_.has1_b s.2.has1.length al_w_.has1_c), (83, .slice al_w_.has1_b s.2.has1.length al_w_.has1_c)] fun a hE => ?_
        obtain ⟨t_36, et_36, hm⟩ := bind_some hm
        replace H := H.t3
        refine WQ.eff (j := 24) (obs := []) hE (by kernel_rfl) rfl rfl rfl rfl (by kernel_rfl) (OpTo.fn hE rfl rfl Tryz.call81 (thicketlaw11_least_ok (hX_l := (sl_rd 76 thicketlaw11_held.enc 3 _ _ _)) (hC_l := (H.slCap 0 rfl).1) et_36 H)) ?_
        rintro _ w ⟨rfl, H⟩
        refine ⟨trivial, fun a hE => ?_⟩
        obtain ⟨x3, ex3, hm⟩ := bind_some hm
        obtain ⟨b3, o3, hs3, hb3⟩ := SlRd.base (sl_rd 76 thicketlaw11_held.enc 3 _ _ _) thicketlaw11_held.enc_ok H 0 rfl ex3
        refine WQ.d hE [25, 26, 27, 28, 29, 30, 31] [.pointer (some ⟨b3, o3, none⟩), .int .i64 x3.cell] [(91, .bool (t_25.1 != x3.cell))] (obs := [.p ((al_w_.has1_b : Option Addr) = some ⟨b3, o3, none⟩), .p (0 ≤ (t_36 : Int) ∧ (t_36 : Int) < ((s.2.has1.length : Nat) : Int)), .cell ⟨b3, o3 + (Int.toNat t_36) * 3, none⟩ (.int .i64 x3.cell)]) ⟨hs3, hb3, SlRd.cells (sl_rd 76 thicketlaw11_held.enc 3 _ _ _) thicketlaw11_held.enc_ok H 0 rfl hs3 ex3 0 _ rfl, trivial⟩ fun a hE => ?_
        rcases Bool.eq_false_or_eq_true (t_25.1 != x3.cell) with c | c
        ·replace hE := hE.dec 91 c (by kernel_rfl)
         replace hm := cond_t c hm
         have c_37 := c
         refine WQ.d0 hE [32, 33, 34, 35, 36, 37, 38, 39, 40, 41, 42, 43, 44, 45, 46, 47, 48, 49, 50, 51, 52, 53] [(113, .bool true)] fun a hE => ?_
         refine WQ.done (by kernel_rfl) ?_
         replace H := thicketlaw11_world.shut al_w_ (thicketlaw11_world.mk t_26.2.a_ t_26.2.root0 t_26.2.root1 s.2.has0 s.2.has1 t_26.2.next t_26.2.spent t_26.2.most) H.t3.t3.t3
         cases hm
         exact hk _ _ ⟨hE.sel [0, 3, 113] (by kernel_rfl), H⟩
        ·replace hE := hE.dec 91 c (by kernel_rfl)
         replace hm := cond_f c hm
         have c_38 := c
         refine WQ.d hE [32, 33, 34, 35, 36, 37, 38, 39, 40, 41, 43] [.pointer (some ⟨al_w_.a__p, 0, none⟩), .int .i64 t_26.2.root1] [(91, .bool false), (95, .pointer (some ⟨al_w_.a__p, 0, none⟩)), (101, .int .i64 t_26.2.root1), (103, .slice al_w_.has1_b s.2.has1.length al_w_.has1_c)] (obs := [.cell ⟨p_w_, 0, none⟩ (.pointer (some ⟨al_w_.a__p, 0, none⟩)), .p (0 ≤ (1 : Int) ∧ (1 : Int) < ((2 : Nat) : Int)), .cell ⟨p_w_, 2, none⟩ (.int .i64 t_26.2.root1)]) ⟨H.cell 1 rfl rfl, ⟨by decide, by decide⟩, H.cell 1 rfl rfl, trivial⟩ fun a hE => ?_
         obtain ⟨t_37, et_37, hm⟩ := bind_some hm
         refine WQ.eff (j := 42) (obs := []) hE (by kernel_rfl) rfl rfl rfl rfl (by kernel_rfl) (OpTo.fn hE rfl rfl Tryz.call83 (skew_All_ok et_37 H.t2)) ?_
         rintro _ w ⟨sb12, sc12, rfl, H⟩
         refine ⟨trivial, fun a hE => ?_⟩
         obtain ⟨t_38, et_38, hm⟩ := bind_some hm
         replace H := H.t2
         refine WQ.eff (j := 44) (obs := []) hE (by kernel_rfl) rfl rfl rfl rfl (by kernel_rfl) (OpTo.fn hE rfl rfl Tryz.call84 (thicketlaw11_cells_ok (hX_l := (sl_rd 76 thicketlaw11_held.enc 3 _ _ _)) (hC_l := (H.slCap 0 rfl).1) et_38 H)) ?_
         rintro _ w ⟨sb13, sc13, rfl, H⟩
         refine ⟨trivial, fun a hE => ?_⟩
         obtain ⟨t_39, et_39, hm⟩ := bind_some hm
         replace H := H.t2
         refine WQ.eff (j := 45) (obs := []) hE (by kernel_rfl) rfl rfl rfl rfl (by kernel_rfl) (OpTo.fn hE rfl rfl Tryz.call71 (thicketbook_Same_int_ok (hX_a_ := (sl_rd 3 ecI 1 _ _ _)) (hC_a_ := (H.slCap 0 rfl).1) (hX_b := (sl_rd 3 ecI 1 _ _ _)) (hC_b := (H.slCap 1 rfl).1) et_39 H)) ?_
         rintro _ w ⟨rfl, H⟩
         refine ⟨trivial, fun a hE => ?_⟩
         refine WQ.d0 hE [46, 47, 48] [(108, .bool (!t_39))] fun a hE => ?_
         rcases Bool.eq_false_or_eq_true (!t_39) with c | c
         ·replace hE := hE.dec 108 c (by kernel_rfl)
          replace hm := cond_t c hm
          have c_39 := c
          refine WQ.d0 hE [49, 50, 51, 52, 53] [(113, .bool true)] fun a hE => ?_
          refine WQ.done (by kernel_rfl) ?_
          replace H := thicketlaw11_world.shut al_w_ (thicketlaw11_world.mk t_37.2 t_26.2.root0 t_26.2.root1 s.2.has0 s.2.has1 t_26.2.next t_26.2.spent t_26.2.most) H.t2.t5.t4.t5
          cases hm
          exact hk _ _ ⟨hE.sel [0, 3, 113] (by kernel_rfl), H.x2.x1⟩
         ·replace hE := hE.dec 108 c (by kernel_rfl)
          replace hm := cond_f c hm
          have c_40 := c
          refine WQ.d0 hE [49, 50] [(108, .bool false), (109, .pointer (some ⟨p_w_, 0, none⟩)), (110, .int .i64 1)] fun a hE => ?_
          replace H := thicketlaw11_world.shut al_w_ (thicketlaw11_world.mk t_37.2 t_26.2.root0 t_26.2.root1 s.2.has0 s.2.has1 t_26.2.next t_26.2.spent t_26.2.most) H.t2.t5.t4.t5
          obtain ⟨t_40, et_40, hm⟩ := bind_some hm
          refine WQ.eff (j := 51) (obs := []) hE (by kernel_rfl) rfl rfl rfl rfl (by kernel_rfl) (OpTo.fn hE rfl rfl Tryz.call85 (thicketlaw11_world_shape_ok et_40 H)) ?_
          rintro _ w ⟨rfl, H⟩
          refine ⟨trivial, fun a hE => ?_⟩
          refine WQ.d0 hE [52, 53] [(113, .bool (!t_40.1))] fun a hE => ?_
          refine WQ.done (by kernel_rfl) ?_
          cases hm
          exact hk _ _ ⟨hE.sel [0, 3, 113] (by kernel_rfl), H.x2.x1⟩
       ·replace hE := hE.dec 80 c (by kernel_rfl)
        replace hm := cond_f c hm
        have c_41 := c
        refine WQ.d hE [21, 22, 23, 24, 25, 26, 27, 28, 29, 30, 31, 32, 33, 34, 35, 36, 37, 38, 39, 40, 41, 43] [.pointer (some ⟨al_w_.a__p, 0, none⟩), .int .i64 t_26.2.root1] [(91, .bool false), (95, .pointer (some ⟨al_w_.a__p, 0, none⟩)), (101, .int .i64 t_26.2.root1), (103, .slice al_w_.has1_b s.2.has1.length al_w_.has1_c)] (obs := [.cell ⟨p_w_, 0, none⟩ (.pointer (some ⟨al_w_.a__p, 0, none⟩)), .p (0 ≤ (1 : Int) ∧ (1 : Int) < ((2 : Nat) : Int)), .cell ⟨p_w_, 2, none⟩ (.int .i64 t_26.2.root1)]) ⟨H.cell 0 rfl rfl, ⟨by decide, by decide⟩, H.cell 0 rfl rfl, trivial⟩ fun a hE => ?_
        obtain ⟨t_41, et_41, hm⟩ := bind_some hm
        refine WQ.eff (j := 42) (obs := []) hE (by kernel_rfl) rfl rfl rfl rfl (by kernel_rfl) (OpTo.fn hE rfl rfl Tryz.call83 (skew_All_ok et_41 H.t1)) ?_
        rintro _ w ⟨sb14, sc14, rfl, H⟩
        refine ⟨trivial, fun a hE => ?_⟩
        obtain ⟨t_42, et_42, hm⟩ := bind_some hm
        replace H := H.t4
        refine WQ.eff (j := 44) (obs := []) hE (by kernel_rfl) rfl rfl rfl rfl (by kernel_rfl) (OpTo.fn hE rfl rfl Tryz.call84 (thicketlaw11_cells_ok (hX_l := (sl_rd 76 thicketlaw11_held.enc 3 _ _ _)) (hC_l := (H.slCap 0 rfl).1) et_42 H)) ?_
        rintro _ w ⟨sb15, sc15, rfl, H⟩
        refine ⟨trivial, fun a hE => ?_⟩
        obtain ⟨t_43, et_43, hm⟩ := bind_some hm
        replace H := H.t2
        refine WQ.eff (j := 45) (obs := []) hE (by kernel_rfl) rfl rfl rfl rfl (by kernel_rfl) (OpTo.fn hE rfl rfl Tryz.call71 (thicketbook_Same_int_ok (hX_a_ := (sl_rd 3 ecI 1 _ _ _)) (hC_a_ := (H.slCap 0 rfl).1) (hX_b := (sl_rd 3 ecI 1 _ _ _)) (hC_b := (H.slCap 1 rfl).1) et_43 H)) ?_
        rintro _ w ⟨rfl, H⟩
        refine ⟨trivial, fun a hE => ?_⟩
        refine WQ.d0 hE [46, 47, 48] [(108, .bool (!t_43))] fun a hE => ?_
        rcases Bool.eq_false_or_eq_true (!t_43) with c | c
        ·replace hE := hE.dec 108 c (by kernel_rfl)
         replace hm := cond_t c hm
         have c_42 := c
         refine WQ.d0 hE [49, 50, 51, 52, 53] [(113, .bool true)] fun a hE => ?_
         refine WQ.done (by kernel_rfl) ?_
         replace H := thicketlaw11_world.shut al_w_ (thicketlaw11_world.mk t_41.2 t_26.2.root0 t_26.2.root1 s.2.has0 s.2.has1 t_26.2.next t_26.2.spent t_26.2.most) H.t2.t5.t4.t5
         cases hm
         exact hk _ _ ⟨hE.sel [0, 3, 113] (by kernel_rfl), H.x2.x1⟩
        ·replace hE := hE.dec 108 c (by kernel_rfl)
         replace hm := cond_f c hm
         have c_43 := c
         refine WQ.d0 hE [49, 50] [(108, .bool false), (109, .pointer (some ⟨p_w_, 0, none⟩)), (110, .int .i64 1)] fun a hE => ?_
         replace H := thicketlaw11_world.shut al_w_ (thicketlaw11_world.mk t_41.2 t_26.2.root0 t_26.2.root1 s.2.has0 s.2.has1 t_26.2.next t_26.2.spent t_26.2.most) H.t2.t5.t4.t5
         obtain ⟨t_44, et_44, hm⟩ := bind_some hm
         refine WQ.eff (j := 51) (obs := []) hE (by kernel_rfl) rfl rfl rfl rfl (by kernel_rfl) (OpTo.fn hE rfl rfl Tryz.call85 (thicketlaw11_world_shape_ok et_44 H)) ?_
         rintro _ w ⟨rfl, H⟩
         refine ⟨trivial, fun a hE => ?_⟩
         refine WQ.d0 hE [52, 53] [(113, .bool (!t_44.1))] fun a hE => ?_
         refine WQ.done (by kernel_rfl) ?_
         cases hm
         exact hk _ _ ⟨hE.sel [0, 3, 113] (by kernel_rfl), H.x2.x1⟩
     rintro a w ⟨hE, H⟩
     refine Runs.cond hE rfl (fun c => ?_) (fun c => ?_)
     ·replace hm := cond_t c hm
      refine Runs.sr ?_
      refine WR.seg hE 1 [] [2] (Lo := [(2, .bool false)]) (obs := []) rfl (by kernel_rfl) trivial fun a hE => ?_
      refine WR.done rfl ?_
      refine Runs.ret hE Tryz.func43 rfl rfl ?_
      cases hm
      exact ⟨rfl, H⟩
     ·replace hm := cond_f c hm
      refine Runs.skip ?_
      refine Runs.inBlock ?_
      refine Runs.region ?_
      refine WR.seg hE 3 [] [0, 3] (Lo := [(0, .pointer (some ⟨p_w_, 0, none⟩)), (3, .int .i64 2)]) (obs := []) rfl (by kernel_rfl) trivial fun a hE => ?_
      refine WR.done rfl ?_
      refine Runs.inLoop ?_
      refine Runs.seq ?_
      refine Runs.sr ?_
      refine WR.e0 hE [(28, .bool false)] fun a hE => ?_
      refine Runs.condF hE rfl ?_
      refine Runs.exit rfl ?_
      refine Runs.sr ?_
      refine WR.e0 hE [(2, .bool true)] fun a hE => ?_
      refine Runs.ret hE Tryz.func43 rfl rfl ?_
      cases hm
      exact ⟨rfl, H⟩

theorem meter_New_ok {w0 w : World} {As : List HP}  {t : meter_Meter}  (hm : meter_New = some t) (H : St w0 (As) w) :
    CallsR Tryz.prog 92 #[] w fun v w' => ∃ (q0 : Nat), v = .pointer (some ⟨q0, 0, none⟩) ∧ St w0 (meter_Meter.R q0 t :: As) w' := by
 rw [meter_New] at hm
 refine enter (args := []) Tryz.func92 rfl rfl rfl fun a hE => ?_
 refine Runs.sr ?_
 refine WR.seg hE 1 [] [] (Lo := []) (obs := []) rfl (by kernel_rfl) trivial fun a hE => ?_
 refine WR.done rfl ?_
 refine Runs.sr ?_
 refine WR.d0 hE 1 [(1, .agg #[.int .i64 0, .int .i64 0, .int .i64 0])] fun a hE => ?_
 refine WR.eff hE rfl rfl rfl rfl (OpTo.new hE H [] (.cells #[.int .i64 0, .int .i64 0, .int .i64 0] 90 (0, 0)) (fun r => .pointer (some ⟨r, 0, none⟩)) (obs := []) rfl (fun _ => by kernel_rfl) trivial) ?_
 rintro _ w ⟨r, rfl, H⟩ a hE
 refine WR.e0 hE [(0, .pointer (some ⟨r, 0, none⟩))] fun a hE => ?_
 replace H := meter_Meter.shut (meter_Meter.mk 0 0 0) H
 refine Runs.ret hE Tryz.func92 rfl rfl ?_
 cases hm
 exact ⟨r, rfl, H⟩

theorem arena_New_ok {w0 w : World} {As : List HP} {cells : Int} {t : arena_Arena}  (hm : arena_New cells = some t) (H : St w0 (As) w) :
    CallsR Tryz.prog 55 #[.int .i64 cells] w fun v w' => ∃ (q0 : Nat), ∃ (al0 : arena_Arena.A), v = .pointer (some ⟨q0, 0, none⟩) ∧ St w0 (arena_Arena.R q0 al0 t :: As) w' := by
 rw [arena_New] at hm
 refine enter (args := [.int .i64 cells]) Tryz.func55 rfl rfl rfl fun a hE => ?_
 refine Runs.sr ?_
 refine WR.seg hE 1 [] [0] (Lo := [(0, .int .i64 cells)]) (obs := []) rfl (by kernel_rfl) trivial fun a hE => ?_
 refine WR.done rfl ?_
 refine Runs.seq ?_
 obtain ⟨l, el, hm⟩ := bind_some hm
 obtain ⟨t_, et_, hm⟩ := bind_some hm
 refine Runs.join (fun a w => ∃ (p1 : Nat), ∃ (al : arena_Arena.A), EnvOk 10 a [(2, .pointer (some ⟨p1, 0, none⟩))] ∧ St w0 (arena_Arena.R p1 al (arena_Arena.mk l 0 ([] : List Int) t_) :: As) w) (fun hk => ?_) ?_
 ·refine Runs.drawn mixed (by kernel_rfl) ?_
  replace H := H.drew
  refine WQ.d0 hE [0, 1, 2] [(5, .int .i64 (if (if 65536 < cells then 65536 else cells) > 0 then (if 65536 < cells then 65536 else cells) else 0))] fun a hE => ?_
  refine WQ.act2 3 4 (by kernel_rfl) ?_ ?_
  ·refine AQ.eff (j := 3) (obs := []) hE rfl rfl rfl rfl (by kernel_rfl) (OpTo.make el hE H arena_cell.enc_ok rfl rfl rfl rfl rfl rfl rfl rfl) ?_
   rintro _ w ⟨r2, rfl, H⟩
   refine ⟨trivial, fun a hE => ?_⟩
   refine WQ.eff (j := 4) (obs := []) hE (by kernel_rfl) rfl rfl rfl rfl (by kernel_rfl) (OpTo.fn hE rfl rfl Tryz.call92 (meter_New_ok et_ H)) ?_
   rintro _ w ⟨p2, rfl, H⟩
   refine ⟨trivial, fun a hE => ?_⟩
   refine WQ.d0 hE [5] [(8, .agg #[.slice (some ⟨r2, 0, none⟩) l.length l.length, .int .i64 0, .slice none 0 0, .pointer (some ⟨p2, 0, none⟩)])] fun a hE => ?_
   refine WQ.eff (j := 6) (obs := []) hE (by kernel_rfl) rfl rfl rfl rfl (by kernel_rfl) (OpTo.new hE H [] (.cells #[.slice (some ⟨r2, 0, none⟩) l.length l.length, .int .i64 0, .slice none 0 0, .pointer (some ⟨p2, 0, none⟩)] 88 (0, 0)) (fun r => .pointer (some ⟨r, 0, none⟩)) (obs := []) rfl (fun _ => by kernel_rfl) trivial) ?_
   rintro _ w ⟨r3, rfl, H⟩
   refine ⟨trivial, fun a hE => ?_⟩
   refine WQ.d0 hE [7] [(2, .pointer (some ⟨r3, 0, none⟩))] fun a hE => ?_
   refine WQ.done (by kernel_rfl) ?_
   replace H := H.slNil 3 ecI 1
   replace H := arena_Arena.shut (arena_Arena.A.mk (some ⟨r2, 0, none⟩) l.length none 0 p2) (arena_Arena.mk l 0 ([] : List Int) t_) H.t2.t1.t3.t3
   exact hk _ _ ⟨r3, arena_Arena.A.mk (some ⟨r2, 0, none⟩) l.length none 0 p2, hE.sel [2] (by kernel_rfl), H⟩
  ·refine AQ.eff (j := 4) (obs := []) hE rfl rfl rfl rfl (by kernel_rfl) (OpTo.fn hE rfl rfl Tryz.call92 (meter_New_ok et_ H)) ?_
   rintro _ w ⟨p3, rfl, H⟩
   refine ⟨trivial, fun a hE => ?_⟩
   refine WQ.eff (j := 3) (obs := []) hE (by kernel_rfl) rfl rfl rfl rfl (by kernel_rfl) (OpTo.make el hE H arena_cell.enc_ok rfl rfl rfl rfl rfl rfl rfl rfl) ?_
   rintro _ w ⟨r4, rfl, H⟩
   refine ⟨trivial, fun a hE => ?_⟩
   refine WQ.d0 hE [5] [(8, .agg #[.slice (some ⟨r4, 0, none⟩) l.length l.length, .int .i64 0, .slice none 0 0, .pointer (some ⟨p3, 0, none⟩)])] fun a hE => ?_
   refine WQ.eff (j := 6) (obs := []) hE (by kernel_rfl) rfl rfl rfl rfl (by kernel_rfl) (OpTo.new hE H [] (.cells #[.slice (some ⟨r4, 0, none⟩) l.length l.length, .int .i64 0, .slice none 0 0, .pointer (some ⟨p3, 0, none⟩)] 88 (0, 0)) (fun r => .pointer (some ⟨r, 0, none⟩)) (obs := []) rfl (fun _ => by kernel_rfl) trivial) ?_
   rintro _ w ⟨r5, rfl, H⟩
   refine ⟨trivial, fun a hE => ?_⟩
   refine WQ.d0 hE [7] [(2, .pointer (some ⟨r5, 0, none⟩))] fun a hE => ?_
   refine WQ.done (by kernel_rfl) ?_
   replace H := H.slNil 3 ecI 1
   replace H := arena_Arena.shut (arena_Arena.A.mk (some ⟨r4, 0, none⟩) l.length none 0 p3) (arena_Arena.mk l 0 ([] : List Int) t_) H.t3.t1.t3.t3
   exact hk _ _ ⟨r5, arena_Arena.A.mk (some ⟨r4, 0, none⟩) l.length none 0 p3, hE.sel [2] (by kernel_rfl), H⟩
 rintro a w ⟨p1, al, hE, H⟩
 refine Runs.ret hE Tryz.func55 rfl rfl ?_
 cases hm
 exact ⟨p1, al, rfl, H⟩

theorem thicketlaw11_fresh_ok {w0 w : World} {As : List HP} {cells : Int} {t : thicketlaw11_world}  (hm : thicketlaw11_fresh cells = some t) (H : St w0 (As) w) :
    CallsR Tryz.prog 36 #[.int .i64 cells] w fun v w' => ∃ (q0 : Nat), ∃ (al0 : thicketlaw11_world.A), v = .pointer (some ⟨q0, 0, none⟩) ∧ St w0 (thicketlaw11_world.R q0 al0 t :: As) w' := by
 rw [thicketlaw11_fresh] at hm
 refine enter (args := [.int .i64 cells]) Tryz.func36 rfl rfl rfl fun a hE => ?_
 refine Runs.sr ?_
 refine WR.seg hE 1 [] [0] (Lo := [(0, .int .i64 cells)]) (obs := []) rfl (by kernel_rfl) trivial fun a hE => ?_
 refine WR.done rfl ?_
 refine Runs.sr ?_
 refine WR.d0 hE 1 [(4, .int .i64 cells)] fun a hE => ?_
 obtain ⟨t_, et_, hm⟩ := bind_some hm
 refine WR.eff hE rfl rfl rfl rfl (OpTo.fn hE rfl rfl Tryz.call55 (arena_New_ok et_ H)) ?_
 rintro _ w ⟨p, al, rfl, H⟩ a hE
 refine WR.d0 hE 4 [(7, .agg #[.pointer (some ⟨p, 0, none⟩), .int .i64 (-1), .int .i64 (-1), .slice none 0 0, .slice none 0 0, .int .i64 0, .int .i64 0, .int .i64 0])] fun a hE => ?_
 refine WR.eff hE rfl rfl rfl rfl (OpTo.new hE H [] (.cells #[.pointer (some ⟨p, 0, none⟩), .int .i64 (-1), .int .i64 (-1), .slice none 0 0, .slice none 0 0, .int .i64 0, .int .i64 0, .int .i64 0] 62 (0, 0)) (fun r => .pointer (some ⟨r, 0, none⟩)) (obs := []) rfl (fun _ => by kernel_rfl) trivial) ?_
 rintro _ w ⟨r, rfl, H⟩ a hE
 refine WR.e0 hE [(3, .pointer (some ⟨r, 0, none⟩))] fun a hE => ?_
 refine Runs.seq ?_
 refine Runs.seq ?_
 replace H := H.slNil 76 thicketlaw11_held.enc 3
 replace H := H.slNil 76 thicketlaw11_held.enc 3
 replace H := thicketlaw11_world.shut (thicketlaw11_world.A.mk p al none 0 none 0) (thicketlaw11_world.mk t_ (-1) (-1) ([] : List thicketlaw11_held) ([] : List thicketlaw11_held) 0 0 0) H.t1.t3.t3
 obtain ⟨s, es, hm⟩ := bind_some hm
 refine Runs.join (fun a w => EnvOk 23 a [(3, .pointer (some ⟨r, 0, none⟩)), (21, .bool false)] ∧ St w0 (thicketlaw11_world.R r (thicketlaw11_world.A.mk p al none 0 none 0) (thicketlaw11_world.mk t_ (-1) (-1) ([] : List thicketlaw11_held) ([] : List thicketlaw11_held) 0 0 0) :: As) w) (fun hk => ?_) ?_
 ·replace hm := es; clear es
  refine Runs.region ?_
  replace H := thicketlaw11_world.open H
  try dsimp only at H
  refine WR.d hE 10 [.pointer (some ⟨p, 0, none⟩), .pointer (some ⟨p, 0, none⟩)] [(14, .bool false), (18, .pointer (some ⟨p, 0, none⟩))] (obs := [.cell ⟨r, 0, none⟩ (.pointer (some ⟨p, 0, none⟩)), .cell ⟨r, 0, none⟩ (.pointer (some ⟨p, 0, none⟩))]) ⟨H.cell 0 rfl rfl, H.cell 0 rfl rfl, trivial⟩ fun a hE => ?_
  obtain ⟨t_1, et_1, hm⟩ := bind_some hm
  refine WR.eff hE rfl rfl rfl rfl (OpTo.fn hE rfl rfl Tryz.call20 (arena_Arena_Meter_ok et_1 H.t1)) ?_
  rintro _ w ⟨rfl, H⟩ a hE
  refine WR.e0 hE [(21, .bool false)] fun a hE => ?_
  replace H := thicketlaw11_world.shut (thicketlaw11_world.A.mk p al none 0 none 0) (thicketlaw11_world.mk t_ (-1) (-1) ([] : List thicketlaw11_held) ([] : List thicketlaw11_held) 0 0 0) H.t3.t3.t2.t3
  cases hm
  exact hk _ _ ⟨hE.sel [3, 21] (by kernel_rfl), H⟩
 rintro a w ⟨hE, H⟩
 refine Runs.condF hE rfl ?_
 refine Runs.skip ?_
 refine Runs.sr ?_
 refine WR.seg hE 2 [] [2] (Lo := [(2, .pointer (some ⟨r, 0, none⟩))]) (obs := []) rfl (by kernel_rfl) trivial fun a hE => ?_
 refine WR.done rfl ?_
 refine Runs.ret hE Tryz.func36 rfl rfl ?_
 cases hm
 exact ⟨r, thicketlaw11_world.A.mk p al none 0 none 0, rfl, H⟩

theorem thicketlaw11_known_ok {w0 w : World} {As : List HP} {k : Nat}  {t : Bool}  (hm : thicketlaw11_known k = some t) (H : St w0 (As) w) :
    CallsR Tryz.prog 40 #[] w fun v w' => v = .bool t ∧ St w0 (As) w' := by
 rw [thicketlaw11_known] at hm
 refine enter (args := []) Tryz.func40 rfl rfl rfl fun a hE => ?_
 refine Runs.sr ?_
 refine WR.seg hE 1 [] [] (Lo := []) (obs := []) rfl (by kernel_rfl) trivial fun a hE => ?_
 refine WR.done rfl ?_
 refine Runs.sr ?_
 obtain ⟨t_, et_, hm⟩ := bind_some hm
 refine WR.eff hE rfl rfl rfl rfl (OpTo.fn hE rfl rfl Tryz.call36 (thicketlaw11_fresh_ok et_ H)) ?_
 rintro _ w ⟨p, al, rfl, H⟩ a hE
 refine WR.e0 hE [(1, .pointer (some ⟨p, 0, none⟩))] fun a hE => ?_
 refine Runs.seq ?_
 refine Runs.seq ?_
 obtain ⟨s, es, hm⟩ := bind_some hm
 refine Runs.join (fun a w => ∃ (z : arena_Arena.A), ∃ (z1 : Option Addr), ∃ (z2 : Nat), ∃ (z3 : Option Addr), ∃ (z4 : Nat), EnvOk 69 a [(1, .pointer (some ⟨p, 0, none⟩)), (24, .bool s.1)] ∧ St w0 (thicketlaw11_world.R p (thicketlaw11_world.A.mk al.a__p z z1 z2 z3 z4) s.2 :: As) w) (fun hk => ?_) ?_
 ·replace hm := es; clear es
  refine Runs.region ?_
  refine WR.d0 hE 4 [(5, .bool false), (6, .pointer (some ⟨p, 0, none⟩))] fun a hE => ?_
  obtain ⟨t_1, et_1, hm⟩ := bind_some hm
  refine WR.eff hE rfl rfl rfl rfl (OpTo.fn hE rfl rfl Tryz.call41 (thicketlaw11_world_push_ok et_1 H)) ?_
  rintro _ w ⟨z5, z6, z7, z8, z9, rfl, H⟩ a hE
  refine WR.d0 hE 8 [(10, .bool (!t_1.1))] fun a hE => ?_
  rcases Bool.eq_false_or_eq_true (!t_1.1) with c | c
  ·replace hE := hE.dec 10 c (by kernel_rfl)
   replace hm := cond_t c hm
   have c_ := c
   refine WR.e0 hE [(24, .bool true)] fun a hE => ?_
   cases hm
   exact hk _ _ ⟨z5, z6, z7, z8, z9, hE.sel [1, 24] (by kernel_rfl), H⟩
  ·replace hE := hE.dec 10 c (by kernel_rfl)
   replace hm := cond_f c hm
   have c_1 := c
   refine WR.d0 hE 9 [(10, .bool false), (11, .pointer (some ⟨p, 0, none⟩))] fun a hE => ?_
   obtain ⟨t_2, et_2, hm⟩ := bind_some hm
   refine WR.eff hE rfl rfl rfl rfl (OpTo.fn hE rfl rfl Tryz.call41 (thicketlaw11_world_push_ok et_2 H)) ?_
   rintro _ w ⟨z10, z11, z12, z13, z14, rfl, H⟩ a hE
   refine WR.d0 hE 13 [(15, .bool (!t_2.1))] fun a hE => ?_
   rcases Bool.eq_false_or_eq_true (!t_2.1) with c | c
   ·replace hE := hE.dec 15 c (by kernel_rfl)
    replace hm := cond_t c hm
    have c_2 := c
    refine WR.e0 hE [(24, .bool true)] fun a hE => ?_
    cases hm
    exact hk _ _ ⟨z10, z11, z12, z13, z14, hE.sel [1, 24] (by kernel_rfl), H⟩
   ·replace hE := hE.dec 15 c (by kernel_rfl)
    replace hm := cond_f c hm
    have c_3 := c
    refine WR.d0 hE 14 [(15, .bool false), (16, .pointer (some ⟨p, 0, none⟩))] fun a hE => ?_
    obtain ⟨t_3, et_3, hm⟩ := bind_some hm
    refine WR.eff hE rfl rfl rfl rfl (OpTo.fn hE rfl rfl Tryz.call41 (thicketlaw11_world_push_ok et_3 H)) ?_
    rintro _ w ⟨z15, z16, z17, z18, z19, rfl, H⟩ a hE
    refine WR.d0 hE 18 [(20, .bool (!t_3.1))] fun a hE => ?_
    rcases Bool.eq_false_or_eq_true (!t_3.1) with c | c
    ·replace hE := hE.dec 20 c (by kernel_rfl)
     replace hm := cond_t c hm
     have c_4 := c
     refine WR.e0 hE [(24, .bool true)] fun a hE => ?_
     cases hm
     exact hk _ _ ⟨z15, z16, z17, z18, z19, hE.sel [1, 24] (by kernel_rfl), H⟩
    ·replace hE := hE.dec 20 c (by kernel_rfl)
     replace hm := cond_f c hm
     have c_5 := c
     refine WR.d0 hE 19 [(20, .bool false), (21, .pointer (some ⟨p, 0, none⟩))] fun a hE => ?_
     obtain ⟨t_4, et_4, hm⟩ := bind_some hm
     refine WR.eff hE rfl rfl rfl rfl (OpTo.fn hE rfl rfl Tryz.call43 (thicketlaw11_world_right_ok et_4 H)) ?_
     rintro _ w ⟨rfl, H⟩ a hE
     refine WR.e0 hE [(24, .bool (!t_4.1))] fun a hE => ?_
     cases hm
     exact hk _ _ ⟨z15, z16, z17, z18, z19, hE.sel [1, 24] (by kernel_rfl), H⟩
 rintro a w ⟨z, z1, z2, z3, z4, hE, H⟩
 refine Runs.cond hE rfl (fun c => ?_) (fun c => ?_)
 ·replace hm := cond_t c hm
  refine Runs.sr ?_
  refine WR.seg hE 1 [] [0] (Lo := [(0, .bool false)]) (obs := []) rfl (by kernel_rfl) trivial fun a hE => ?_
  refine WR.done rfl ?_
  refine Runs.ret hE Tryz.func40 rfl rfl ?_
  cases hm
  exact ⟨rfl, H.x0⟩
 ·replace hm := cond_f c hm
  refine Runs.skip ?_
  refine Runs.seq ?_
  obtain ⟨s1, es1, hm⟩ := bind_some hm
  refine Runs.join (fun a w => ∃ (z20 : arena_Arena.A), ∃ (z21 : Option Addr), ∃ (z22 : Nat), ∃ (z23 : Option Addr), ∃ (z24 : Nat), EnvOk 69 a [(0, .bool s1.1)] ∧ St w0 (thicketlaw11_world.R p (thicketlaw11_world.A.mk al.a__p z20 z21 z22 z23 z24) s1.2 :: As) w) (fun hk => ?_) ?_
  ·replace hm := es1; clear es1
   refine Runs.region ?_
   replace H := thicketlaw11_world.open H
   try dsimp only at H
   refine WR.seg hE 8 [.slice z1 s.2.has0.length z2] [1, 32] (Lo := [(1, .pointer (some ⟨p, 0, none⟩)), (32, .bool ((s.2.has0.length : Int) == 3))]) (obs := [.p (0 ≤ (0 : Int) ∧ (0 : Int) < ((2 : Nat) : Int)), .cell ⟨p, 3, none⟩ (.slice z1 s.2.has0.length z2)]) rfl (by kernel_rfl) ⟨⟨by decide, by decide⟩, H.cell 0 rfl rfl, trivial⟩ fun a hE => ?_
   rcases Bool.eq_false_or_eq_true ((s.2.has0.length : Int) == 3) with c | c
   ·replace hE := hE.dec 32 c (by kernel_rfl)
    replace hm := cond_t c hm
    have c_6 := c
    refine WR.d0 hE 9 [(32, .bool true), (33, .pointer (some ⟨p, 0, none⟩))] fun a hE => ?_
    replace H := thicketlaw11_world.shut (thicketlaw11_world.A.mk al.a__p z z1 z2 z3 z4) (s.2) H.t3.t3.t3.t3
    obtain ⟨t_5, et_5, hm⟩ := bind_some hm
    refine WR.eff hE rfl rfl rfl rfl (OpTo.fn hE rfl rfl Tryz.call42 (thicketlaw11_world_pop_ok et_5 H)) ?_
    rintro _ w ⟨z25, z26, z27, z28, z29, rfl, H⟩ a hE
    refine WR.d0 hE 12 [(36, .bool t_5.1)] fun a hE => ?_
    rcases Bool.eq_false_or_eq_true t_5.1 with c | c
    ·replace hE := hE.dec 36 c (by kernel_rfl)
     replace hm := cond_t c hm
     have c_7 := c
     refine WR.d0 hE 13 [(36, .bool true), (37, .pointer (some ⟨p, 0, none⟩))] fun a hE => ?_
     obtain ⟨t_6, et_6, hm⟩ := bind_some hm
     refine WR.eff hE rfl rfl rfl rfl (OpTo.fn hE rfl rfl Tryz.call42 (thicketlaw11_world_pop_ok et_6 H)) ?_
     rintro _ w ⟨z30, z31, z32, z33, z34, rfl, H⟩ a hE
     refine WR.d0 hE 16 [(40, .bool t_6.1)] fun a hE => ?_
     rcases Bool.eq_false_or_eq_true t_6.1 with c | c
     ·replace hE := hE.dec 40 c (by kernel_rfl)
      replace hm := cond_t c hm
      have c_8 := c
      replace H := thicketlaw11_world.open H
      try dsimp only at H
      refine WR.d hE 25 [.slice z31 t_6.2.has0.length z32] [(49, .bool ((t_6.2.has0.length : Int) == 1))] (obs := [.p (0 ≤ (0 : Int) ∧ (0 : Int) < ((2 : Nat) : Int)), .cell ⟨p, 3, none⟩ (.slice z31 t_6.2.has0.length z32)]) ⟨⟨by decide, by decide⟩, H.cell 0 rfl rfl, trivial⟩ fun a hE => ?_
      rcases Bool.eq_false_or_eq_true ((t_6.2.has0.length : Int) == 1) with c | c
      ·replace hE := hE.dec 49 c (by kernel_rfl)
       replace hm := cond_t c hm
       have c_9 := c
       obtain ⟨x, ex, hm⟩ := bind_some hm
       obtain ⟨b, o, hs, hb⟩ := SlRd.base (sl_rd 76 thicketlaw11_held.enc 3 _ _ _) thicketlaw11_held.enc_ok H 2 rfl ex
       refine WR.d hE 37 [.slice z31 t_6.2.has0.length z32, .pointer (some ⟨b, o, none⟩), .int .i64 x.e.Key] [(61, .bool (x.e.Key == 3))] (obs := [.p (0 ≤ (0 : Int) ∧ (0 : Int) < ((2 : Nat) : Int)), .cell ⟨p, 3, none⟩ (.slice z31 t_6.2.has0.length z32), .p ((z31 : Option Addr) = some ⟨b, o, none⟩), .p (0 ≤ (0 : Int) ∧ (0 : Int) < ((t_6.2.has0.length : Nat) : Int)), .cell ⟨b, o + (Int.toNat 0) * 3 + 1, none⟩ (.int .i64 x.e.Key)]) ⟨⟨by decide, by decide⟩, H.cell 0 rfl rfl, hs, hb, SlRd.cells (sl_rd 76 thicketlaw11_held.enc 3 _ _ _) thicketlaw11_held.enc_ok H 2 rfl hs ex 1 _ rfl, trivial⟩ fun a hE => ?_
       rcases Bool.eq_false_or_eq_true (x.e.Key == 3) with c | c
       ·replace hE := hE.dec 61 c (by kernel_rfl)
        replace hm := cond_t c hm
        have c_10 := c
        refine WR.d0 hE 38 [(61, .bool true), (62, .pointer (some ⟨p, 0, none⟩))] fun a hE => ?_
        replace H := thicketlaw11_world.shut (thicketlaw11_world.A.mk al.a__p z30 z31 z32 z33 z34) (t_6.2) H.t3.t3.t3.t3
        obtain ⟨t_7, et_7, hm⟩ := bind_some hm
        refine WR.eff hE rfl rfl rfl rfl (OpTo.fn hE rfl rfl Tryz.call42 (thicketlaw11_world_pop_ok et_7 H)) ?_
        rintro _ w ⟨z35, z36, z37, z38, z39, rfl, H⟩ a hE
        refine WR.d0 hE 41 [(65, .bool t_7.1)] fun a hE => ?_
        rcases Bool.eq_false_or_eq_true t_7.1 with c | c
        ·replace hE := hE.dec 65 c (by kernel_rfl)
         replace hm := cond_t c hm
         have c_11 := c
         refine WR.d0 hE 42 [(65, .bool true), (66, .pointer (some ⟨p, 0, none⟩))] fun a hE => ?_
         obtain ⟨t_8, et_8, hm⟩ := bind_some hm
         refine WR.eff hE rfl rfl rfl rfl (OpTo.fn hE rfl rfl Tryz.call42 (thicketlaw11_world_pop_ok et_8 H)) ?_
         rintro _ w ⟨z40, z41, z42, z43, z44, rfl, H⟩ a hE
         refine WR.e0 hE [(0, .bool t_8.1)] fun a hE => ?_
         cases hm
         exact hk _ _ ⟨z40, z41, z42, z43, z44, hE.sel [0] (by kernel_rfl), H⟩
        ·replace hE := hE.dec 65 c (by kernel_rfl)
         replace hm := cond_f c hm
         have c_12 := c
         refine WR.e0 hE [(0, .bool false)] fun a hE => ?_
         cases hm
         exact hk _ _ ⟨z35, z36, z37, z38, z39, hE.sel [0] (by kernel_rfl), H⟩
       ·replace hE := hE.dec 61 c (by kernel_rfl)
        replace hm := cond_f c hm
        have c_13 := c
        refine WR.e0 hE [(0, .bool false)] fun a hE => ?_
        replace H := thicketlaw11_world.shut (thicketlaw11_world.A.mk al.a__p z30 z31 z32 z33 z34) (t_6.2) H.t3.t3.t3.t3
        cases hm
        exact hk _ _ ⟨z30, z31, z32, z33, z34, hE.sel [0] (by kernel_rfl), H⟩
      ·replace hE := hE.dec 49 c (by kernel_rfl)
       replace hm := cond_f c hm
       have c_14 := c
       refine WR.e0 hE [(0, .bool false)] fun a hE => ?_
       replace H := thicketlaw11_world.shut (thicketlaw11_world.A.mk al.a__p z30 z31 z32 z33 z34) (t_6.2) H.t3.t3.t3.t3
       cases hm
       exact hk _ _ ⟨z30, z31, z32, z33, z34, hE.sel [0] (by kernel_rfl), H⟩
     ·replace hE := hE.dec 40 c (by kernel_rfl)
      replace hm := cond_f c hm
      have c_15 := c
      refine WR.e0 hE [(0, .bool false)] fun a hE => ?_
      cases hm
      exact hk _ _ ⟨z30, z31, z32, z33, z34, hE.sel [0] (by kernel_rfl), H⟩
    ·replace hE := hE.dec 36 c (by kernel_rfl)
     replace hm := cond_f c hm
     have c_16 := c
     refine WR.e0 hE [(0, .bool false)] fun a hE => ?_
     cases hm
     exact hk _ _ ⟨z25, z26, z27, z28, z29, hE.sel [0] (by kernel_rfl), H⟩
   ·replace hE := hE.dec 32 c (by kernel_rfl)
    replace hm := cond_f c hm
    have c_17 := c
    refine WR.e0 hE [(0, .bool false)] fun a hE => ?_
    replace H := thicketlaw11_world.shut (thicketlaw11_world.A.mk al.a__p z z1 z2 z3 z4) (s.2) H.t3.t3.t3.t3
    cases hm
    exact hk _ _ ⟨z, z1, z2, z3, z4, hE.sel [0] (by kernel_rfl), H⟩
  rintro a w ⟨z20, z21, z22, z23, z24, hE, H⟩
  refine Runs.ret hE Tryz.func40 rfl rfl ?_
  cases hm
  exact ⟨rfl, H.x0⟩

theorem thicketlaw11_SkewMelds_ok {w0 w : World} {As : List HP} {k : Nat} {sb_rows : Option Addr} {sc_rows : Nat} {rows : List (NRow Int)} {X_rows : HP} {sb_pops : Option Addr} {sc_pops : Nat} {pops : List Bool} {t : Bool} (hX_rows : SlRd X_rows ecN 1 sb_rows rows) (hC_rows : rows.length ≤ sc_rows) (hN_rows : ∀ z ∈ rows, SlRd X_rows ecI 1 z.b z.l ∧ z.l.length ≤ z.c) (hX_pops : SlRd X_rows ecB 1 sb_pops pops) (hC_pops : pops.length ≤ sc_pops) (hm : thicketlaw11_SkewMelds k rows pops = some t) (H : St w0 (X_rows :: As) w) :
    CallsR Tryz.prog 7 #[.slice sb_rows rows.length sc_rows, .slice sb_pops pops.length sc_pops] w fun v w' => v = .bool t ∧ St w0 (X_rows :: As) w' := by
 rw [thicketlaw11_SkewMelds] at hm
 refine enter (args := [.slice sb_rows rows.length sc_rows, .slice sb_pops pops.length sc_pops]) Tryz.func7 rfl rfl rfl fun a hE => ?_
 refine Runs.sr ?_
 refine WR.seg hE 1 [] [0, 1] (Lo := [(0, .slice sb_rows rows.length sc_rows), (1, .slice sb_pops pops.length sc_pops)]) (obs := []) rfl (by kernel_rfl) trivial fun a hE => ?_
 refine WR.done rfl ?_
 refine Runs.sr ?_
 obtain ⟨t_, et_, hm⟩ := bind_some hm
 refine WR.eff hE rfl rfl rfl rfl (OpTo.fn hE rfl rfl Tryz.call36 (thicketlaw11_fresh_ok et_ H)) ?_
 rintro _ w ⟨p, al, rfl, H⟩ a hE
 refine WR.e0 hE [(5, .pointer (some ⟨p, 0, none⟩))] fun a hE => ?_
 refine Runs.seq ?_
 refine Runs.sr ?_
 refine WR.e0 hE [(11, .bool false)] fun a hE => ?_
 refine Runs.condF hE rfl ?_
 refine Runs.skip ?_
 refine Runs.seq ?_
 refine Runs.sr ?_
 refine WR.e0 hE [(6, .int .i64 0)] fun a hE => ?_
 obtain ⟨s, es, hR⟩ := bind_some hm
 refine Runs.join (fun a w => ∃ s1, s = Sum.inr s1 ∧ ∃ (z5 : arena_Arena.A), ∃ (z6 : Option Addr), ∃ (z7 : Nat), ∃ (z8 : Option Addr), ∃ (z9 : Nat), EnvOk 106 a [] ∧ St w0 (thicketlaw11_world.R p (thicketlaw11_world.A.mk al.a__p z5 z6 z7 z8 z9) s1 :: X_rows :: As) w) (fun hk => ?_) ?_
 ·replace hm := es; clear es
  refine Runs.block ?_
  refine Runs.loop (fun m a w => ∃ (i : Int), ∃ (m_ : thicketlaw11_world), ∃ (z10 : arena_Arena.A), ∃ (z11 : Option Addr), ∃ (z12 : Nat), ∃ (z13 : Option Addr), ∃ (z14 : Nat), EnvOk 106 a [(0, .slice sb_rows rows.length sc_rows), (1, .slice sb_pops pops.length sc_pops), (5, .pointer (some ⟨p, 0, none⟩)), (6, .int .i64 i)] ∧ St w0 (thicketlaw11_world.R p (thicketlaw11_world.A.mk al.a__p z10 z11 z12 z13 z14) m_ :: X_rows :: As) w ∧ thicketlaw11_SkewMelds_l0 pops rows m i m_ = some s) k ⟨0, t_, al.a__a, al.has0_b, al.has0_c, al.has1_b, al.has1_c, hE.sel [0, 1, 5, 6] (by kernel_rfl), H.t1.t1, hm⟩ ?_
  rintro m ih a w ⟨i, m_, z10, z11, z12, z13, z14, hE, H, hm⟩
  cases m with
  | zero => simp [thicketlaw11_SkewMelds_l0] at hm
  | succ m =>
   rw [thicketlaw11_SkewMelds_l0] at hm
   refine Runs.seq ?_
   refine Runs.seq ?_
   refine Runs.join (fun a w => EnvOk 106 a [(0, .slice sb_rows rows.length sc_rows), (1, .slice sb_pops pops.length sc_pops), (5, .pointer (some ⟨p, 0, none⟩)), (6, .int .i64 i), (19, .bool ((decide (i < (rows.length : Int))) && (decide (i < 12))))] ∧ St w0 (thicketlaw11_world.R p (thicketlaw11_world.A.mk al.a__p z10 z11 z12 z13 z14) m_ :: X_rows :: As) w) (fun hk => ?_) ?_
   ·clear hm
    refine Runs.region ?_
    refine WR.seg hE 5 [] [0, 1, 5, 6, 16] (Lo := [(0, .slice sb_rows rows.length sc_rows), (1, .slice sb_pops pops.length sc_pops), (5, .pointer (some ⟨p, 0, none⟩)), (6, .int .i64 i), (16, .bool (decide (i < (rows.length : Int))))]) (obs := []) rfl (by kernel_rfl) trivial fun a hE => ?_
    rcases Bool.eq_false_or_eq_true (decide (i < (rows.length : Int))) with c | c
    ·replace hE := hE.dec 16 c (by kernel_rfl)
     have c_ := c
     refine WR.e0 hE [(19, .bool (decide (i < 12)))] fun a hE => ?_
     refine hk _ _ ⟨?_, H.t1.t1⟩
     try rw [c_] at hE
     try rw [c_]
     exact hE.sel [0, 1, 5, 6, 19] (by kernel_rfl)
    ·replace hE := hE.dec 16 c (by kernel_rfl)
     have c_1 := c
     refine WR.e0 hE [(19, .bool false)] fun a hE => ?_
     refine hk _ _ ⟨?_, H.t1.t1⟩
     try rw [c_1] at hE
     try rw [c_1]
     exact hE.sel [0, 1, 5, 6, 19] (by kernel_rfl)
   rintro a w ⟨hE, H⟩
   refine Runs.cond hE rfl (fun c => ?_) (fun c => ?_)
   ·replace hm := cond_t c hm
    refine Runs.skip ?_
    refine Runs.seq ?_
    refine Runs.block ?_
    refine Runs.seq ?_
    refine Runs.sr ?_
    refine WR.seg hE 1 [] [0, 1, 5, 6, 7] (Lo := [(0, .slice sb_rows rows.length sc_rows), (1, .slice sb_pops pops.length sc_pops), (5, .pointer (some ⟨p, 0, none⟩)), (6, .int .i64 i), (7, .int .i64 0)]) (obs := []) rfl (by kernel_rfl) trivial fun a hE => ?_
    refine WR.done rfl ?_
    obtain ⟨s2, es2, hR1⟩ := bind_some hm
    refine Runs.join (fun a w => ∃ s3, s2 = Sum.inr s3 ∧ ∃ (z20 : arena_Arena.A), ∃ (z21 : Option Addr), ∃ (z22 : Nat), ∃ (z23 : Option Addr), ∃ (z24 : Nat), EnvOk 106 a [(0, .slice sb_rows rows.length sc_rows), (1, .slice sb_pops pops.length sc_pops), (5, .pointer (some ⟨p, 0, none⟩)), (6, .int .i64 i)] ∧ St w0 (thicketlaw11_world.R p (thicketlaw11_world.A.mk al.a__p z20 z21 z22 z23 z24) s3 :: X_rows :: As) w) (fun hk => ?_) ?_
    ·replace hm := es2; clear es2
     refine Runs.block ?_
     refine Runs.loop (fun m a w => ∃ (k_ : Int), ∃ (m_1 : thicketlaw11_world), ∃ (z25 : arena_Arena.A), ∃ (z26 : Option Addr), ∃ (z27 : Nat), ∃ (z28 : Option Addr), ∃ (z29 : Nat), EnvOk 106 a [(0, .slice sb_rows rows.length sc_rows), (1, .slice sb_pops pops.length sc_pops), (5, .pointer (some ⟨p, 0, none⟩)), (6, .int .i64 i), (7, .int .i64 k_)] ∧ St w0 (thicketlaw11_world.R p (thicketlaw11_world.A.mk al.a__p z25 z26 z27 z28 z29) m_1 :: X_rows :: As) w ∧ thicketlaw11_SkewMelds_l1 pops i rows m k_ m_1 = some s2) m ⟨0, m_, z10, z11, z12, z13, z14, hE.sel [0, 1, 5, 6, 7] (by kernel_rfl), H.t1.t1, hm⟩ ?_
     rintro m ih a w ⟨k_, m_1, z25, z26, z27, z28, z29, hE, H, hm⟩
     cases m with
     | zero => simp [thicketlaw11_SkewMelds_l1] at hm
     | succ m =>
      rw [thicketlaw11_SkewMelds_l1] at hm
      refine Runs.seq ?_
      refine Runs.seq ?_
      obtain ⟨s4, es4, hm⟩ := bind_some hm
      refine Runs.join (fun a w => EnvOk 106 a [(0, .slice sb_rows rows.length sc_rows), (1, .slice sb_pops pops.length sc_pops), (5, .pointer (some ⟨p, 0, none⟩)), (6, .int .i64 i), (7, .int .i64 k_), (32, .bool s4)] ∧ St w0 (thicketlaw11_world.R p (thicketlaw11_world.A.mk al.a__p z25 z26 z27 z28 z29) m_1 :: X_rows :: As) w) (fun hk => ?_) ?_
      ·replace hm := es4; clear es4
       refine Runs.region ?_
       obtain ⟨x1, ex1, hm⟩ := bind_some hm
       obtain ⟨b1, o1, hs1, hb1⟩ := SlRd.base hX_rows ecN_ok H 1 rfl ex1
       refine WR.seg hE 8 [.pointer (some ⟨b1, o1, none⟩), .slice x1.b x1.l.length x1.c] [0, 1, 5, 6, 7, 29] (Lo := [(0, .slice sb_rows rows.length sc_rows), (1, .slice sb_pops pops.length sc_pops), (5, .pointer (some ⟨p, 0, none⟩)), (6, .int .i64 i), (7, .int .i64 k_), (29, .bool (decide (k_ < (x1.l.length : Int))))]) (obs := [.p ((sb_rows : Option Addr) = some ⟨b1, o1, none⟩), .p (0 ≤ (i : Int) ∧ (i : Int) < ((rows.length : Nat) : Int)), .cell ⟨b1, o1 + (Int.toNat i) * 1, none⟩ (.slice x1.b x1.l.length x1.c)]) rfl (by kernel_rfl) ⟨hs1, hb1, SlRd.cells hX_rows ecN_ok H 1 rfl hs1 ex1 0 _ rfl, trivial⟩ fun a hE => ?_
       rcases Bool.eq_false_or_eq_true (decide (k_ < (x1.l.length : Int))) with c | c
       ·replace hE := hE.dec 29 c (by kernel_rfl)
        replace hm := cond_t c hm
        have c_2 := c
        refine WR.e0 hE [(32, .bool (decide (k_ < 8)))] fun a hE => ?_
        cases hm
        exact hk _ _ ⟨hE.sel [0, 1, 5, 6, 7, 32] (by kernel_rfl), H.t1.t1⟩
       ·replace hE := hE.dec 29 c (by kernel_rfl)
        replace hm := cond_f c hm
        have c_3 := c
        refine WR.e0 hE [(32, .bool false)] fun a hE => ?_
        cases hm
        exact hk _ _ ⟨hE.sel [0, 1, 5, 6, 7, 32] (by kernel_rfl), H.t1.t1⟩
      rintro a w ⟨hE, H⟩
      refine Runs.cond hE rfl (fun c => ?_) (fun c => ?_)
      ·replace hm := cond_t c hm
       refine Runs.skip ?_
       refine Runs.seq ?_
       refine Runs.block ?_
       refine Runs.sr ?_
       obtain ⟨x2, ex2, hm⟩ := bind_some hm
       obtain ⟨b2, o2, hs2, hb2⟩ := SlRd.base hX_rows ecN_ok H 1 rfl ex2
       obtain ⟨x3, ex3, hm⟩ := bind_some hm
       obtain ⟨b3, o3, hs3, hb3⟩ := SlRd.base (hN_rows x2 (idx_mem ex2)).1 ecI_ok H 1 rfl ex3
       refine WR.seg hE 9 [.pointer (some ⟨b2, o2, none⟩), .slice x2.b x2.l.length x2.c, .pointer (some ⟨b3, o3, none⟩), .int .i64 x3] [0, 1, 5, 6, 7, 35, 43] (Lo := [(0, .slice sb_rows rows.length sc_rows), (1, .slice sb_pops pops.length sc_pops), (5, .pointer (some ⟨p, 0, none⟩)), (6, .int .i64 i), (7, .int .i64 k_), (35, .pointer (some ⟨p, 0, none⟩)), (43, .int .i64 (Int.tmod x3 30))]) (obs := [.p ((sb_rows : Option Addr) = some ⟨b2, o2, none⟩), .p (0 ≤ (i : Int) ∧ (i : Int) < ((rows.length : Nat) : Int)), .cell ⟨b2, o2 + (Int.toNat i) * 1, none⟩ (.slice x2.b x2.l.length x2.c), .p ((x2.b : Option Addr) = some ⟨b3, o3, none⟩), .p (0 ≤ (k_ : Int) ∧ (k_ : Int) < ((x2.l.length : Nat) : Int)), .cell ⟨b3, o3 + (Int.toNat k_) * 1, none⟩ (.int .i64 x3), .p ((30 : Int) ≠ 0)]) rfl (by kernel_rfl) ⟨hs2, hb2, SlRd.cells hX_rows ecN_ok H 1 rfl hs2 ex2 0 _ rfl, hs3, hb3, SlRd.cells (hN_rows x2 (idx_mem ex2)).1 ecI_ok H 1 rfl hs3 ex3 0 _ rfl, (by show _ ≠ _; decide), trivial⟩ fun a hE => ?_
       obtain ⟨t_1, et_1, hm⟩ := bind_some hm
       refine WR.eff hE rfl rfl rfl rfl (OpTo.fn hE rfl rfl Tryz.call41 (thicketlaw11_world_push_ok et_1 H)) ?_
       rintro _ w ⟨z30, z31, z32, z33, z34, rfl, H⟩ a hE
       refine WR.e0 hE [(45, .bool (!t_1.1))] fun a hE => ?_
       refine Runs.cond hE rfl (fun c => ?_) (fun c => ?_)
       ·replace hm := cond_t c hm
        refine Runs.sr ?_
        refine WR.e0 hE [(4, .bool false)] fun a hE => ?_
        refine Runs.ret hE Tryz.func7 rfl rfl ?_
        cases hm
        dsimp only at hR1; cases hR1
        dsimp only at hR; cases hR
        exact ⟨rfl, H.x0⟩
       ·replace hm := cond_f c hm
        refine Runs.skip ?_
        refine Runs.inBlock ?_
        refine Runs.region ?_
        refine WR.e0 hE [(7, .int .i64 (w64 (k_ + 1)))] fun a hE => ?_
        exact ih m (Nat.lt_succ_self m) _ _ ⟨w64 (k_ + 1), t_1.2, z30, z31, z32, z33, z34, hE.sel [0, 1, 5, 6, 7] (by kernel_rfl), H.t1.t1, hm⟩
      ·replace hm := cond_f c hm
       refine Runs.exit rfl ?_
       cases hm
       exact hk _ _ ⟨_, rfl, z25, z26, z27, z28, z29, hE.sel [0, 1, 5, 6] (by kernel_rfl), H.t1.t1⟩
    rintro a w ⟨s3, rfl, z20, z21, z22, z23, z24, hE, H⟩
    replace hm := hR1; dsimp only at hm
    refine Runs.seq ?_
    refine Runs.seq ?_
    obtain ⟨s5, es5, hm⟩ := bind_some hm
    refine Runs.join (fun a w => ∃ (z35 : arena_Arena.A), ∃ (z36 : Option Addr), ∃ (z37 : Nat), ∃ (z38 : Option Addr), ∃ (z39 : Nat), EnvOk 106 a [(0, .slice sb_rows rows.length sc_rows), (1, .slice sb_pops pops.length sc_pops), (5, .pointer (some ⟨p, 0, none⟩)), (6, .int .i64 i), (65, .bool s5.1)] ∧ St w0 (thicketlaw11_world.R p (thicketlaw11_world.A.mk al.a__p z35 z36 z37 z38 z39) s5.2 :: X_rows :: As) w) (fun hk => ?_) ?_
    ·replace hm := es5; clear es5
     refine Runs.region ?_
     refine WR.seg hE 5 [] [0, 1, 5, 6, 50] (Lo := [(0, .slice sb_rows rows.length sc_rows), (1, .slice sb_pops pops.length sc_pops), (5, .pointer (some ⟨p, 0, none⟩)), (6, .int .i64 i), (50, .bool (decide (i < (pops.length : Int))))]) (obs := []) rfl (by kernel_rfl) trivial fun a hE => ?_
     rcases Bool.eq_false_or_eq_true (decide (i < (pops.length : Int))) with c | c
     ·replace hE := hE.dec 50 c (by kernel_rfl)
      replace hm := cond_t c hm
      have c_4 := c
      obtain ⟨x5, ex5, hm⟩ := bind_some hm
      obtain ⟨b5, o5, hs5, hb5⟩ := SlRd.base hX_pops ecB_ok H 1 rfl ex5
      refine WR.d hE 11 [.pointer (some ⟨b5, o5, none⟩), .bool x5] [(56, .bool x5)] (obs := [.p ((sb_pops : Option Addr) = some ⟨b5, o5, none⟩), .p (0 ≤ (i : Int) ∧ (i : Int) < ((pops.length : Nat) : Int)), .cell ⟨b5, o5 + (Int.toNat i) * 1, none⟩ (.bool x5)]) ⟨hs5, hb5, SlRd.cells hX_pops ecB_ok H 1 rfl hs5 ex5 0 _ rfl, trivial⟩ fun a hE => ?_
      rcases Bool.eq_false_or_eq_true x5 with c | c
      ·replace hE := hE.dec 56 c (by kernel_rfl)
       replace hm := cond_t c hm
       have c_5 := c
       refine WR.d0 hE 12 [(56, .bool true), (57, .pointer (some ⟨p, 0, none⟩))] fun a hE => ?_
       obtain ⟨t_2, et_2, hm⟩ := bind_some hm
       refine WR.eff hE rfl rfl rfl rfl (OpTo.fn hE rfl rfl Tryz.call42 (thicketlaw11_world_pop_ok et_2 H)) ?_
       rintro _ w ⟨z40, z41, z42, z43, z44, rfl, H⟩ a hE
       refine WR.d0 hE 16 [(61, .bool (!t_2.1))] fun a hE => ?_
       rcases Bool.eq_false_or_eq_true (!t_2.1) with c | c
       ·replace hE := hE.dec 61 c (by kernel_rfl)
        replace hm := cond_t c hm
        have c_6 := c
        refine WR.e0 hE [(65, .bool true)] fun a hE => ?_
        cases hm
        exact hk _ _ ⟨z40, z41, z42, z43, z44, hE.sel [0, 1, 5, 6, 65] (by kernel_rfl), H.t1.t1⟩
       ·replace hE := hE.dec 61 c (by kernel_rfl)
        replace hm := cond_f c hm
        have c_7 := c
        refine WR.d0 hE 17 [(61, .bool false), (62, .pointer (some ⟨p, 0, none⟩))] fun a hE => ?_
        obtain ⟨t_3, et_3, hm⟩ := bind_some hm
        refine WR.eff hE rfl rfl rfl rfl (OpTo.fn hE rfl rfl Tryz.call43 (thicketlaw11_world_right_ok et_3 H)) ?_
        rintro _ w ⟨rfl, H⟩ a hE
        refine WR.e0 hE [(65, .bool (!t_3.1))] fun a hE => ?_
        cases hm
        exact hk _ _ ⟨z40, z41, z42, z43, z44, hE.sel [0, 1, 5, 6, 65] (by kernel_rfl), H.t1.t1⟩
      ·replace hE := hE.dec 56 c (by kernel_rfl)
       replace hm := cond_f c hm
       have c_8 := c
       refine WR.d0 hE 17 [(61, .bool false), (62, .pointer (some ⟨p, 0, none⟩))] fun a hE => ?_
       obtain ⟨t_4, et_4, hm⟩ := bind_some hm
       refine WR.eff hE rfl rfl rfl rfl (OpTo.fn hE rfl rfl Tryz.call43 (thicketlaw11_world_right_ok et_4 H)) ?_
       rintro _ w ⟨rfl, H⟩ a hE
       refine WR.e0 hE [(65, .bool (!t_4.1))] fun a hE => ?_
       cases hm
       exact hk _ _ ⟨z20, z21, z22, z23, z24, hE.sel [0, 1, 5, 6, 65] (by kernel_rfl), H.t1.t1⟩
     ·replace hE := hE.dec 50 c (by kernel_rfl)
      replace hm := cond_f c hm
      have c_9 := c
      refine WR.d0 hE 17 [(61, .bool false), (62, .pointer (some ⟨p, 0, none⟩))] fun a hE => ?_
      obtain ⟨t_5, et_5, hm⟩ := bind_some hm
      refine WR.eff hE rfl rfl rfl rfl (OpTo.fn hE rfl rfl Tryz.call43 (thicketlaw11_world_right_ok et_5 H)) ?_
      rintro _ w ⟨rfl, H⟩ a hE
      refine WR.e0 hE [(65, .bool (!t_5.1))] fun a hE => ?_
      cases hm
      exact hk _ _ ⟨z20, z21, z22, z23, z24, hE.sel [0, 1, 5, 6, 65] (by kernel_rfl), H.t1.t1⟩
    rintro a w ⟨z35, z36, z37, z38, z39, hE, H⟩
    refine Runs.cond hE rfl (fun c => ?_) (fun c => ?_)
    ·replace hm := cond_t c hm
     refine Runs.sr ?_
     refine WR.seg hE 1 [] [4] (Lo := [(4, .bool false)]) (obs := []) rfl (by kernel_rfl) trivial fun a hE => ?_
     refine WR.done rfl ?_
     refine Runs.ret hE Tryz.func7 rfl rfl ?_
     cases hm
     dsimp only at hR; cases hR
     exact ⟨rfl, H.x0⟩
    ·replace hm := cond_f c hm
     refine Runs.skip ?_
     refine Runs.seq ?_
     refine Runs.drawn mixed (by kernel_rfl) ?_
     replace H := H.drew
     replace H := thicketlaw11_world.open H
     try dsimp only at H
     refine WQ.seg hE [0, 1, 2, 3, 4, 5, 6, 7, 8, 9, 10, 11, 12, 13] [.slice z36 s5.2.has0.length z37, .slice z38 s5.2.has1.length z39] [0, 1, 5, 6, 8] (Lo := [(0, .slice sb_rows rows.length sc_rows), (1, .slice sb_pops pops.length sc_pops), (5, .pointer (some ⟨p, 0, none⟩)), (6, .int .i64 i), (8, .int .i64 (w64 ((s5.2.has0.length : Int) + (s5.2.has1.length : Int))))]) (obs := [.p (0 ≤ (0 : Int) ∧ (0 : Int) < ((2 : Nat) : Int)), .cell ⟨p, 3, none⟩ (.slice z36 s5.2.has0.length z37), .p (0 ≤ (1 : Int) ∧ (1 : Int) < ((2 : Nat) : Int)), .cell ⟨p, 4, none⟩ (.slice z38 s5.2.has1.length z39)]) (by kernel_rfl) (by kernel_rfl) ⟨⟨by decide, by decide⟩, H.cell 0 rfl rfl, ⟨by decide, by decide⟩, H.cell 0 rfl rfl, trivial⟩ fun a hE => ?_
     refine WQ.done (by kernel_rfl) ?_
     refine Runs.seq ?_
     replace H := thicketlaw11_world.shut (thicketlaw11_world.A.mk al.a__p z35 z36 z37 z38 z39) (s5.2) H.t3.t3.t3.t3
     obtain ⟨s6, es6, hm⟩ := bind_some hm
     refine Runs.join (fun a w => ∃ (z45 : Option Addr), ∃ (z46 : Nat), ∃ (z47 : Option Addr), ∃ (z48 : Nat), EnvOk 106 a [(0, .slice sb_rows rows.length sc_rows), (1, .slice sb_pops pops.length sc_pops), (5, .pointer (some ⟨p, 0, none⟩)), (6, .int .i64 i), (104, .bool s6.1)] ∧ St w0 (thicketlaw11_world.R p (thicketlaw11_world.A.mk al.a__p z35 z45 z46 z47 z48) s6.2 :: X_rows :: As) w) (fun hk => ?_) ?_
     ·replace hm := es6; clear es6
      refine Runs.region ?_
      refine WR.d0 hE 1 [(79, .pointer (some ⟨p, 0, none⟩))] fun a hE => ?_
      obtain ⟨t_6, et_6, hm⟩ := bind_some hm
      refine WR.eff hE rfl rfl rfl rfl (OpTo.fn hE rfl rfl Tryz.call44 (thicketlaw11_world_meld_ok et_6 H)) ?_
      rintro _ w ⟨z49, z50, z51, z52, rfl, H⟩ a hE
      refine WR.d0 hE 4 [(82, .bool (!t_6.1))] fun a hE => ?_
      rcases Bool.eq_false_or_eq_true (!t_6.1) with c | c
      ·replace hE := hE.dec 82 c (by kernel_rfl)
       replace hm := cond_t c hm
       have c_10 := c
       refine WR.e0 hE [(104, .bool true)] fun a hE => ?_
       cases hm
       exact hk _ _ ⟨z49, z50, z51, z52, hE.sel [0, 1, 5, 6, 104] (by kernel_rfl), H.t1.t1⟩
      ·replace hE := hE.dec 82 c (by kernel_rfl)
       replace hm := cond_f c hm
       have c_11 := c
       replace H := thicketlaw11_world.open H
       try dsimp only at H
       refine WR.d hE 14 [.slice z49 t_6.2.has0.length z50] [(92, .bool ((t_6.2.has0.length : Int) != (w64 ((s5.2.has0.length : Int) + (s5.2.has1.length : Int)))))] (obs := [.p (0 ≤ (0 : Int) ∧ (0 : Int) < ((2 : Nat) : Int)), .cell ⟨p, 3, none⟩ (.slice z49 t_6.2.has0.length z50)]) ⟨⟨by decide, by decide⟩, H.cell 0 rfl rfl, trivial⟩ fun a hE => ?_
       rcases Bool.eq_false_or_eq_true ((t_6.2.has0.length : Int) != (w64 ((s5.2.has0.length : Int) + (s5.2.has1.length : Int)))) with c | c
       ·replace hE := hE.dec 92 c (by kernel_rfl)
        replace hm := cond_t c hm
        have c_12 := c
        refine WR.e0 hE [(104, .bool true)] fun a hE => ?_
        replace H := thicketlaw11_world.shut (thicketlaw11_world.A.mk al.a__p z35 z49 z50 z51 z52) (t_6.2) H.t3.t3.t3.t3
        cases hm
        exact hk _ _ ⟨z49, z50, z51, z52, hE.sel [0, 1, 5, 6, 104] (by kernel_rfl), H.t1.t1⟩
       ·replace hE := hE.dec 92 c (by kernel_rfl)
        replace hm := cond_f c hm
        have c_13 := c
        refine WR.d hE 22 [.int .i64 t_6.2.root1] [(100, .bool (t_6.2.root1 != (-1)))] (obs := [.p (0 ≤ (1 : Int) ∧ (1 : Int) < ((2 : Nat) : Int)), .cell ⟨p, 2, none⟩ (.int .i64 t_6.2.root1)]) ⟨⟨by decide, by decide⟩, H.cell 0 rfl rfl, trivial⟩ fun a hE => ?_
        rcases Bool.eq_false_or_eq_true (t_6.2.root1 != (-1)) with c | c
        ·replace hE := hE.dec 100 c (by kernel_rfl)
         replace hm := cond_t c hm
         have c_14 := c
         refine WR.e0 hE [(104, .bool true)] fun a hE => ?_
         replace H := thicketlaw11_world.shut (thicketlaw11_world.A.mk al.a__p z35 z49 z50 z51 z52) (t_6.2) H.t3.t3.t3.t3
         cases hm
         exact hk _ _ ⟨z49, z50, z51, z52, hE.sel [0, 1, 5, 6, 104] (by kernel_rfl), H.t1.t1⟩
        ·replace hE := hE.dec 100 c (by kernel_rfl)
         replace hm := cond_f c hm
         have c_15 := c
         refine WR.d0 hE 23 [(100, .bool false), (101, .pointer (some ⟨p, 0, none⟩))] fun a hE => ?_
         replace H := thicketlaw11_world.shut (thicketlaw11_world.A.mk al.a__p z35 z49 z50 z51 z52) (t_6.2) H.t3.t3.t3.t3
         obtain ⟨t_7, et_7, hm⟩ := bind_some hm
         refine WR.eff hE rfl rfl rfl rfl (OpTo.fn hE rfl rfl Tryz.call43 (thicketlaw11_world_right_ok et_7 H)) ?_
         rintro _ w ⟨rfl, H⟩ a hE
         refine WR.e0 hE [(104, .bool (!t_7.1))] fun a hE => ?_
         cases hm
         exact hk _ _ ⟨z49, z50, z51, z52, hE.sel [0, 1, 5, 6, 104] (by kernel_rfl), H.t1.t1⟩
     rintro a w ⟨z45, z46, z47, z48, hE, H⟩
     refine Runs.cond hE rfl (fun c => ?_) (fun c => ?_)
     ·replace hm := cond_t c hm
      refine Runs.sr ?_
      refine WR.seg hE 1 [] [4] (Lo := [(4, .bool false)]) (obs := []) rfl (by kernel_rfl) trivial fun a hE => ?_
      refine WR.done rfl ?_
      refine Runs.ret hE Tryz.func7 rfl rfl ?_
      cases hm
      dsimp only at hR; cases hR
      exact ⟨rfl, H.x0⟩
     ·replace hm := cond_f c hm
      refine Runs.skip ?_
      refine Runs.inBlock ?_
      refine Runs.region ?_
      refine WR.seg hE 3 [] [0, 1, 5, 6] (Lo := [(0, .slice sb_rows rows.length sc_rows), (1, .slice sb_pops pops.length sc_pops), (5, .pointer (some ⟨p, 0, none⟩)), (6, .int .i64 (w64 (i + 1)))]) (obs := []) rfl (by kernel_rfl) trivial fun a hE => ?_
      refine WR.done rfl ?_
      exact ih m (Nat.lt_succ_self m) _ _ ⟨w64 (i + 1), s6.2, z35, z45, z46, z47, z48, hE.sel [0, 1, 5, 6] (by kernel_rfl), H.t1.t1, hm⟩
   ·replace hm := cond_f c hm
    refine Runs.exit rfl ?_
    cases hm
    exact hk _ _ ⟨_, rfl, z10, z11, z12, z13, z14, hE.sel [] (by kernel_rfl), H.t1.t1⟩
 rintro a w ⟨s1, rfl, z5, z6, z7, z8, z9, hE, H⟩
 replace hm := hR; dsimp only at hm
 refine Runs.sr ?_
 obtain ⟨t_8, et_8, hm⟩ := bind_some hm
 refine WR.eff hE rfl rfl rfl rfl (OpTo.fn hE rfl rfl Tryz.call40 (thicketlaw11_known_ok et_8 H)) ?_
 rintro _ w ⟨rfl, H⟩ a hE
 refine WR.seg hE 2 [] [4] (Lo := [(4, .bool t_8)]) (obs := []) rfl (by kernel_rfl) trivial fun a hE => ?_
 refine WR.done rfl ?_
 refine Runs.ret hE Tryz.func7 rfl rfl ?_
 cases hm
 exact ⟨rfl, H.x0⟩

end Go.Proofs.YtmidmkinclmbdaaGreat
