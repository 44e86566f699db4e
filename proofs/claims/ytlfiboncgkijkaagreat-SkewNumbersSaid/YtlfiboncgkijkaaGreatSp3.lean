import Derived.Test.YtlfiboncgkijkaaGreatSp2
set_option linter.unusedVariables false
set_option linter.unusedSimpArgs false
set_option maxRecDepth 10000
set_option maxHeartbeats 4000000
namespace Go.Proofs.YtlfiboncgkijkaaGreat
open Go.Th

theorem thicketlaw11_world_right_ok {w0 w : World} {As : List HP} {k : Nat} {p_w_ : Nat} {al_w_ : thicketlaw11_world.A} {w_ : thicketlaw11_world} {t : Bool × thicketlaw11_world}  (hm : thicketlaw11_world_right k w_ = some t) (H : St w0 (thicketlaw11_world.R p_w_ al_w_ w_ :: As) w) :
    CallsR Tryz.prog 6 #[.pointer (some ⟨p_w_, 0, none⟩)] w fun v w' => v = .bool t.1 ∧ St w0 (thicketlaw11_world.R p_w_ al_w_ t.2 :: As) w' := by
  rw [thicketlaw11_world_right] at hm
  refine enter (args := [.pointer (some ⟨p_w_, 0, none⟩)]) Tryz.func6 rfl rfl rfl fun a hE => ?_
  refine Runs.seq ?_
  refine Runs.region ?_
  refine WR.seg hE 1 [] [0] (Lo := [(0, .pointer (some ⟨p_w_, 0, none⟩))]) (obs := []) rfl (by kernel_rfl) trivial fun a hE => ?_
  refine WR.done rfl ?_
  refine Runs.seq ?_
  refine Runs.seq ?_
  refine Runs.drawn mixed (by kernel_rfl) ?_
  replace H := H.drew
  replace H := thicketlaw11_world.open H
  refine WQ.seg hE [0, 1, 2, 3, 5, 6, 7, 8, 9, 10, 11, 12, 13, 14, 15, 16, 17, 18] [.pointer (some ⟨al_w_.a__p, 0, none⟩), .slice al_w_.has0_b w_.has0.length al_w_.has0_c, .slice al_w_.has1_b w_.has1.length al_w_.has1_c] [0, 10, 25] (Lo := [(0, .pointer (some ⟨p_w_, 0, none⟩)), (10, .pointer (some ⟨al_w_.a__p, 0, none⟩)), (25, .int .i64 (w64 (2 * (w64 ((w_.has0.length : Int) + (w_.has1.length : Int))))))]) (obs := [.cell ⟨p_w_, 0, none⟩ (.pointer (some ⟨al_w_.a__p, 0, none⟩)), .p (0 ≤ (0 : Int) ∧ (0 : Int) < ((2 : Nat) : Int)), .cell ⟨p_w_, 3, none⟩ (.slice al_w_.has0_b w_.has0.length al_w_.has0_c), .p (0 ≤ (1 : Int) ∧ (1 : Int) < ((2 : Nat) : Int)), .cell ⟨p_w_, 4, none⟩ (.slice al_w_.has1_b w_.has1.length al_w_.has1_c)]) (by kernel_rfl) (by kernel_rfl) ⟨H.cell 0 rfl rfl, ⟨by decide, by decide⟩, H.cell 0 rfl rfl, ⟨by decide, by decide⟩, H.cell 0 rfl rfl, trivial⟩ fun a hE => ?_
  obtain ⟨t_, et_, hm⟩ := bind_some hm
  refine WQ.eff (j := 4) (obs := [.cell ⟨p_w_, 4, none⟩ (.slice al_w_.has1_b w_.has1.length al_w_.has1_c), .p (0 ≤ (1 : Int) ∧ (1 : Int) < ((2 : Nat) : Int)), .cell ⟨p_w_, 3, none⟩ (.slice al_w_.has0_b w_.has0.length al_w_.has0_c), .p (0 ≤ (0 : Int) ∧ (0 : Int) < ((2 : Nat) : Int))]) hE (by kernel_rfl) rfl rfl rfl rfl (by kernel_rfl) (OpTo.fn hE rfl rfl Tryz.call12 (arena_Arena_Len_ok et_ H.t1)) ?_
  rintro _ w ⟨rfl, H⟩
  refine ⟨⟨H.cell 1 rfl rfl, ⟨by decide, by decide⟩, H.cell 1 rfl rfl, ⟨by decide, by decide⟩, trivial⟩, fun a hE => ?_⟩
  refine WQ.seg hE [19] [] [0, 26] (Lo := [(0, .pointer (some ⟨p_w_, 0, none⟩)), (26, .bool (t_ != (w64 (2 * (w64 ((w_.has0.length : Int) + (w_.has1.length : Int)))))))]) (obs := []) (by kernel_rfl) (by kernel_rfl) trivial fun a hE => ?_
  refine WQ.done (by kernel_rfl) ?_
  refine Runs.cond hE rfl (fun c => ?_) (fun c => ?_)
  · replace hm := cond_t c hm
    refine Runs.seq ?_
    refine Runs.region ?_
    refine WR.seg hE 1 [] [2] (Lo := [(2, .bool false)]) (obs := []) rfl (by kernel_rfl) trivial fun a hE => ?_
    refine WR.done rfl ?_
    replace H := thicketlaw11_world.shut al_w_ (w_) H.t3.t3.t2.t3
    refine Runs.ret hE Tryz.func6 rfl rfl ?_
    cases hm
    exact ⟨rfl, H⟩
  · replace hm := cond_f c hm
    refine Runs.skip ?_
    refine Runs.seq ?_
    refine Runs.seq ?_
    refine Runs.region ?_
    refine WR.seg hE 1 [] [0, 3] (Lo := [(0, .pointer (some ⟨p_w_, 0, none⟩)), (3, .int .i64 0)]) (obs := []) rfl (by kernel_rfl) trivial fun a hE => ?_
    refine WR.done rfl ?_
    refine Runs.block ?_
    refine Runs.unroll ?_
    refine Runs.seq ?_
    refine Runs.seq ?_
    refine Runs.region ?_
    refine WR.seg hE 2 [] [0, 3, 28] (Lo := [(0, .pointer (some ⟨p_w_, 0, none⟩)), (3, .int .i64 0), (28, .bool true)]) (obs := []) rfl (by kernel_rfl) trivial fun a hE => ?_
    refine WR.done rfl ?_
    refine Runs.condT hE rfl ?_
    refine Runs.skip ?_
    refine Runs.seq ?_
    refine Runs.block ?_
    refine Runs.seq ?_
    refine Runs.region ?_
    refine WR.seg hE 7 [.slice al_w_.has0_b w_.has0.length al_w_.has0_c] [0, 3, 4] (Lo := [(0, .pointer (some ⟨p_w_, 0, none⟩)), (3, .int .i64 0), (4, .slice al_w_.has0_b w_.has0.length al_w_.has0_c)]) (obs := [.p (0 ≤ (0 : Int) ∧ (0 : Int) < ((2 : Nat) : Int)), .cell ⟨p_w_, 3, none⟩ (.slice al_w_.has0_b w_.has0.length al_w_.has0_c)]) rfl (by kernel_rfl) ⟨⟨by decide, by decide⟩, H.cell 1 rfl rfl, trivial⟩ fun a hE => ?_
    refine WR.done rfl ?_
    refine Runs.seq ?_
    refine Runs.region ?_
    refine WR.seg hE 4 [.pointer (some ⟨al_w_.a__p, 0, none⟩)] [0, 3, 4, 40] (Lo := [(0, .pointer (some ⟨p_w_, 0, none⟩)), (3, .int .i64 0), (4, .slice al_w_.has0_b w_.has0.length al_w_.has0_c), (40, .pointer (some ⟨al_w_.a__p, 0, none⟩))]) (obs := [.cell ⟨p_w_, 0, none⟩ (.pointer (some ⟨al_w_.a__p, 0, none⟩))]) rfl (by kernel_rfl) ⟨H.cell 1 rfl rfl, trivial⟩ fun a hE => ?_
    obtain ⟨t_1, et_1, hm⟩ := bind_some hm
    refine WR.eff hE rfl rfl rfl rfl (OpTo.fn hE rfl rfl Tryz.call15 (arena_Arena_Meter_ok et_1 H)) ?_
    rintro _ w ⟨rfl, H⟩ a hE
    replace H := arena_Arena.open H
    obtain ⟨t_2, et_2, hm⟩ := bind_some hm
    refine WR.eff hE rfl rfl rfl rfl (OpTo.fn hE rfl rfl Tryz.call18 (meter_Meter_Steps_ok et_2 H.t3)) ?_
    rintro _ w ⟨rfl, H⟩ a hE
    refine WR.seg hE 7 [] [0, 3, 4, 5] (Lo := [(0, .pointer (some ⟨p_w_, 0, none⟩)), (3, .int .i64 0), (4, .slice al_w_.has0_b w_.has0.length al_w_.has0_c), (5, .int .i64 t_2)]) (obs := []) rfl (by kernel_rfl) trivial fun a hE => ?_
    refine WR.done rfl ?_
    refine Runs.seq ?_
    refine Runs.drawn mixed (by kernel_rfl) ?_
    replace H := H.drew
    refine WQ.seg hE [0, 1, 2, 3, 4, 5, 6, 7, 8, 9] [.pointer (some ⟨al_w_.a__p, 0, none⟩), .int .i64 w_.root0] [0, 3, 4, 5, 46, 52] (Lo := [(0, .pointer (some ⟨p_w_, 0, none⟩)), (3, .int .i64 0), (4, .slice al_w_.has0_b w_.has0.length al_w_.has0_c), (5, .int .i64 t_2), (46, .pointer (some ⟨al_w_.a__p, 0, none⟩)), (52, .int .i64 w_.root0)]) (obs := [.cell ⟨p_w_, 0, none⟩ (.pointer (some ⟨al_w_.a__p, 0, none⟩)), .p (0 ≤ (0 : Int) ∧ (0 : Int) < ((2 : Nat) : Int)), .cell ⟨p_w_, 1, none⟩ (.int .i64 w_.root0)]) (by kernel_rfl) (by kernel_rfl) ⟨H.cell 4 rfl rfl, ⟨by decide, by decide⟩, H.cell 4 rfl rfl, trivial⟩ fun a hE => ?_
    replace H := arena_Arena.shut al_w_.a__a (w_.a_) H.t3.t3.t3
    obtain ⟨t_3, et_3, hm⟩ := bind_some hm
    refine WQ.eff (j := 10) (obs := []) hE (by kernel_rfl) rfl rfl rfl rfl (by kernel_rfl) (OpTo.fn hE rfl rfl Tryz.call22 (skew_Min_ok et_3 H)) ?_
    rintro _ w ⟨rfl, H⟩
    refine ⟨trivial, fun a hE => ?_⟩
    refine WQ.seg hE [11] [] [0, 3, 4, 5, 6] (Lo := [(0, .pointer (some ⟨p_w_, 0, none⟩)), (3, .int .i64 0), (4, .slice al_w_.has0_b w_.has0.length al_w_.has0_c), (5, .int .i64 t_2), (6, .int .i64 t_3.1)]) (obs := []) (by kernel_rfl) (by kernel_rfl) trivial fun a hE => ?_
    refine WQ.done (by kernel_rfl) ?_
    refine Runs.seq ?_
    refine Runs.seq ?_
    refine Runs.region ?_
    refine WR.seg hE 4 [] [0, 3, 4, 6, 54, 55, 57] (Lo := [(0, .pointer (some ⟨p_w_, 0, none⟩)), (3, .int .i64 0), (4, .slice al_w_.has0_b w_.has0.length al_w_.has0_c), (6, .int .i64 t_3.1), (54, .pointer (some ⟨p_w_, 0, none⟩)), (55, .int .i64 t_2), (57, .int .i64 (w_.has0.length : Int))]) (obs := []) rfl (by kernel_rfl) trivial fun a hE => ?_
    replace H := thicketlaw11_world.shut al_w_ (thicketlaw11_world.mk t_3.2 w_.root0 w_.root1 w_.has0 w_.has1 w_.next w_.spent w_.most) H.t3.t3.t2.t3
    obtain ⟨t_4, et_4, hm⟩ := bind_some hm
    refine WR.eff hE rfl rfl rfl rfl (OpTo.fn hE rfl rfl Tryz.call20 (thicketlaw11_world_cost_ok et_4 H)) ?_
    rintro _ w ⟨rfl, hf, hf1, H⟩ a hE
    refine WR.seg hE 6 [] [0, 3, 4, 6, 59] (Lo := [(0, .pointer (some ⟨p_w_, 0, none⟩)), (3, .int .i64 0), (4, .slice al_w_.has0_b w_.has0.length al_w_.has0_c), (6, .int .i64 t_3.1), (59, .bool (!t_4.1))]) (obs := []) rfl (by kernel_rfl) trivial fun a hE => ?_
    refine WR.done rfl ?_
    refine Runs.cond hE rfl (fun c => ?_) (fun c => ?_)
    · replace hm := cond_t c hm
      refine Runs.seq ?_
      refine Runs.region ?_
      refine WR.seg hE 1 [] [2] (Lo := [(2, .bool false)]) (obs := []) rfl (by kernel_rfl) trivial fun a hE => ?_
      refine WR.done rfl ?_
      refine Runs.ret hE Tryz.func6 rfl rfl ?_
      cases hm
      exact ⟨rfl, H⟩
    · replace hm := cond_f c hm
      refine Runs.skip ?_
      refine Runs.seq ?_
      obtain ⟨s, es, hm⟩ := bind_some hm
      refine Runs.join (fun a w => EnvOk 114 a [(0, .pointer (some ⟨p_w_, 0, none⟩)), (3, .int .i64 0), (113, .bool s.1)] ∧ St w0 (thicketlaw11_world.R p_w_ al_w_ s.2 :: As) w) (fun hk => ?_) ?_
      · replace hm := es; clear es
        refine Runs.drawn mixed (by kernel_rfl) ?_
        replace H := H.drew
        replace H := thicketlaw11_world.open H
        try rw [hf] at H
        try rw [hf1] at H
        try dsimp only at H
        refine WQ.seg hE [0, 1, 2, 3] [] [0, 3, 4, 6, 63] (Lo := [(0, .pointer (some ⟨p_w_, 0, none⟩)), (3, .int .i64 0), (4, .slice al_w_.has0_b w_.has0.length al_w_.has0_c), (6, .int .i64 t_3.1), (63, .bool ((w_.has0.length : Int) == 0))]) (obs := []) (by kernel_rfl) (by kernel_rfl) trivial fun a hE => ?_
        rcases Bool.eq_false_or_eq_true ((w_.has0.length : Int) == 0) with c | c
        · replace hE := hE.dec 63 c (by kernel_rfl)
          replace hm := cond_t c hm
          have c_ := c
          refine WQ.seg hE [4, 5, 6] [] [0, 3, 4, 6, 63, 66] (Lo := [(0, .pointer (some ⟨p_w_, 0, none⟩)), (3, .int .i64 0), (4, .slice al_w_.has0_b w_.has0.length al_w_.has0_c), (6, .int .i64 t_3.1), (63, .bool true), (66, .bool (t_3.1 != (-1)))]) (obs := []) (by kernel_rfl) (by kernel_rfl) trivial fun a hE => ?_
          rcases Bool.eq_false_or_eq_true (t_3.1 != (-1)) with c | c
          · replace hE := hE.dec 66 c (by kernel_rfl)
            replace hm := cond_t c hm
            have c_1 := c
            refine WQ.seg hE [7, 8, 9, 10, 11, 12, 13, 14, 15, 16, 17, 18, 19, 20, 21, 22, 23, 24, 25, 26, 27, 28, 29, 30, 31, 32, 33, 34, 35, 36, 37, 38, 39, 40, 41, 42, 43, 44, 45, 46, 47, 48, 49, 50, 51, 52, 53] [] [0, 3, 113] (Lo := [(0, .pointer (some ⟨p_w_, 0, none⟩)), (3, .int .i64 0), (113, .bool true)]) (obs := []) (by kernel_rfl) (by kernel_rfl) trivial fun a hE => ?_
            refine WQ.done (by kernel_rfl) ?_
            replace H := thicketlaw11_world.shut al_w_ (thicketlaw11_world.mk t_4.2.a_ t_4.2.root0 t_4.2.root1 w_.has0 w_.has1 t_4.2.next t_4.2.spent t_4.2.most) H.t3.t3.t3.t3
            cases hm
            exact hk _ _ ⟨hE.sel [0, 3, 113] (by kernel_rfl), H⟩
          · replace hE := hE.dec 66 c (by kernel_rfl)
            replace hm := cond_f c hm
            have c_2 := c
            refine WQ.seg hE [7, 8, 9, 10, 11, 12, 13, 14, 15, 16] [.int .i64 t_4.2.root0] [0, 3, 4, 6, 76] (Lo := [(0, .pointer (some ⟨p_w_, 0, none⟩)), (3, .int .i64 0), (4, .slice al_w_.has0_b w_.has0.length al_w_.has0_c), (6, .int .i64 t_3.1), (76, .bool (t_4.2.root0 != (-1)))]) (obs := [.p (0 ≤ (0 : Int) ∧ (0 : Int) < ((2 : Nat) : Int)), .cell ⟨p_w_, 1, none⟩ (.int .i64 t_4.2.root0)]) (by kernel_rfl) (by kernel_rfl) ⟨⟨by decide, by decide⟩, H.cell 0 rfl rfl, trivial⟩ fun a hE => ?_
            rcases Bool.eq_false_or_eq_true (t_4.2.root0 != (-1)) with c | c
            · replace hE := hE.dec 76 c (by kernel_rfl)
              replace hm := cond_t c hm
              have c_3 := c
              refine WQ.seg hE [17, 18, 19, 20, 21, 22, 23, 24, 25, 26, 27, 28, 29, 30, 31, 32, 33, 34, 35, 36, 37, 38, 39, 40, 41, 42, 43, 44, 45, 46, 47, 48, 49, 50, 51, 52, 53] [] [0, 3, 113] (Lo := [(0, .pointer (some ⟨p_w_, 0, none⟩)), (3, .int .i64 0), (113, .bool true)]) (obs := []) (by kernel_rfl) (by kernel_rfl) trivial fun a hE => ?_
              refine WQ.done (by kernel_rfl) ?_
              replace H := thicketlaw11_world.shut al_w_ (thicketlaw11_world.mk t_4.2.a_ t_4.2.root0 t_4.2.root1 w_.has0 w_.has1 t_4.2.next t_4.2.spent t_4.2.most) H.t3.t3.t3.t3
              cases hm
              exact hk _ _ ⟨hE.sel [0, 3, 113] (by kernel_rfl), H⟩
            · replace hE := hE.dec 76 c (by kernel_rfl)
              replace hm := cond_f c hm
              have c_4 := c
              refine WQ.seg hE [17, 18, 19, 20] [] [0, 3, 4, 6, 76, 80] (Lo := [(0, .pointer (some ⟨p_w_, 0, none⟩)), (3, .int .i64 0), (4, .slice al_w_.has0_b w_.has0.length al_w_.has0_c), (6, .int .i64 t_3.1), (76, .bool false), (80, .bool (decide ((w_.has0.length : Int) > 0)))]) (obs := []) (by kernel_rfl) (by kernel_rfl) trivial fun a hE => ?_
              rcases Bool.eq_false_or_eq_true (decide ((w_.has0.length : Int) > 0)) with c | c
              · replace hE := hE.dec 80 c (by kernel_rfl)
                replace hm := cond_t c hm
                have c_5 := c
                refine WQ.seg hE [21, 22, 23] [] [0, 3, 4, 76, 80, 81, 82, 83] (Lo := [(0, .pointer (some ⟨p_w_, 0, none⟩)), (3, .int .i64 0), (4, .slice al_w_.has0_b w_.has0.length al_w_.has0_c), (76, .bool false), (80, .bool true), (81, .int .i64 t_3.1), (82, .slice al_w_.has0_b w_.has0.length al_w_.has0_c), (83, .slice al_w_.has0_b w_.has0.length al_w_.has0_c)]) (obs := []) (by kernel_rfl) (by kernel_rfl) trivial fun a hE => ?_
                obtain ⟨t_5, et_5, hm⟩ := bind_some hm
                replace H := H.t2
                refine WQ.eff (j := 24) (obs := []) hE (by kernel_rfl) rfl rfl rfl rfl (by kernel_rfl) (OpTo.fn hE rfl rfl Tryz.call23 (thicketlaw11_least_ok (hX_l := (sl_rd 48 thicketlaw11_held.enc 3 _ _ _)) (hC_l := (H.slCap 0 rfl).1) et_5 H)) ?_
                rintro _ w ⟨rfl, H⟩
                refine ⟨trivial, fun a hE => ?_⟩
                obtain ⟨x, ex, hm⟩ := bind_some hm
                obtain ⟨b, o, hs, hb⟩ := SlRd.base (sl_rd 48 thicketlaw11_held.enc 3 _ _ _) thicketlaw11_held.enc_ok H 0 rfl ex
                refine WQ.seg hE [25, 26, 27, 28, 29, 30, 31] [.pointer (some ⟨b, o, none⟩), .int .i64 x.cell] [0, 3, 4, 91] (Lo := [(0, .pointer (some ⟨p_w_, 0, none⟩)), (3, .int .i64 0), (4, .slice al_w_.has0_b w_.has0.length al_w_.has0_c), (91, .bool (t_3.1 != x.cell))]) (obs := [.p ((al_w_.has0_b : Option Addr) = some ⟨b, o, none⟩), .p (0 ≤ (t_5 : Int) ∧ (t_5 : Int) < ((w_.has0.length : Nat) : Int)), .cell ⟨b, o + (Int.toNat t_5) * 3, none⟩ (.int .i64 x.cell)]) (by kernel_rfl) (by kernel_rfl) ⟨hs, hb, SlRd.cells (sl_rd 48 thicketlaw11_held.enc 3 _ _ _) thicketlaw11_held.enc_ok H 0 rfl hs ex 0 _ rfl, trivial⟩ fun a hE => ?_
                rcases Bool.eq_false_or_eq_true (t_3.1 != x.cell) with c | c
                · replace hE := hE.dec 91 c (by kernel_rfl)
                  replace hm := cond_t c hm
                  have c_6 := c
                  refine WQ.seg hE [32, 33, 34, 35, 36, 37, 38, 39, 40, 41, 42, 43, 44, 45, 46, 47, 48, 49, 50, 51, 52, 53] [] [0, 3, 113] (Lo := [(0, .pointer (some ⟨p_w_, 0, none⟩)), (3, .int .i64 0), (113, .bool true)]) (obs := []) (by kernel_rfl) (by kernel_rfl) trivial fun a hE => ?_
                  refine WQ.done (by kernel_rfl) ?_
                  replace H := thicketlaw11_world.shut al_w_ (thicketlaw11_world.mk t_4.2.a_ t_4.2.root0 t_4.2.root1 w_.has0 w_.has1 t_4.2.next t_4.2.spent t_4.2.most) H.t3.t1.t3.t3
                  cases hm
                  exact hk _ _ ⟨hE.sel [0, 3, 113] (by kernel_rfl), H⟩
                · replace hE := hE.dec 91 c (by kernel_rfl)
                  replace hm := cond_f c hm
                  have c_7 := c
                  refine WQ.seg hE [32, 33, 34, 35, 36, 37, 38, 39, 40, 41, 43] [.pointer (some ⟨al_w_.a__p, 0, none⟩), .int .i64 t_4.2.root0] [0, 3, 91, 95, 101, 103] (Lo := [(0, .pointer (some ⟨p_w_, 0, none⟩)), (3, .int .i64 0), (91, .bool false), (95, .pointer (some ⟨al_w_.a__p, 0, none⟩)), (101, .int .i64 t_4.2.root0), (103, .slice al_w_.has0_b w_.has0.length al_w_.has0_c)]) (obs := [.cell ⟨p_w_, 0, none⟩ (.pointer (some ⟨al_w_.a__p, 0, none⟩)), .p (0 ≤ (0 : Int) ∧ (0 : Int) < ((2 : Nat) : Int)), .cell ⟨p_w_, 1, none⟩ (.int .i64 t_4.2.root0)]) (by kernel_rfl) (by kernel_rfl) ⟨H.cell 1 rfl rfl, ⟨by decide, by decide⟩, H.cell 1 rfl rfl, trivial⟩ fun a hE => ?_
                  obtain ⟨t_6, et_6, hm⟩ := bind_some hm
                  refine WQ.eff (j := 42) (obs := []) hE (by kernel_rfl) rfl rfl rfl rfl (by kernel_rfl) (OpTo.fn hE rfl rfl Tryz.call25 (skew_All_ok et_6 H.t2)) ?_
                  rintro _ w ⟨sb, sc, rfl, H⟩
                  refine ⟨trivial, fun a hE => ?_⟩
                  obtain ⟨t_7, et_7, hm⟩ := bind_some hm
                  replace H := H.t2
                  refine WQ.eff (j := 44) (obs := []) hE (by kernel_rfl) rfl rfl rfl rfl (by kernel_rfl) (OpTo.fn hE rfl rfl Tryz.call26 (thicketlaw11_cells_ok (hX_l := (sl_rd 48 thicketlaw11_held.enc 3 _ _ _)) (hC_l := (H.slCap 0 rfl).1) et_7 H)) ?_
                  rintro _ w ⟨sb1, sc1, rfl, H⟩
                  refine ⟨trivial, fun a hE => ?_⟩
                  obtain ⟨t_8, et_8, hm⟩ := bind_some hm
                  replace H := H.t2
                  refine WQ.eff (j := 45) (obs := []) hE (by kernel_rfl) rfl rfl rfl rfl (by kernel_rfl) (OpTo.fn hE rfl rfl Tryz.call24 (thicketbook_Same_int_ok (hX_a_ := (sl_rd 3 ecI 1 _ _ _)) (hC_a_ := (H.slCap 0 rfl).1) (hX_b := (sl_rd 3 ecI 1 _ _ _)) (hC_b := (H.slCap 1 rfl).1) et_8 H)) ?_
                  rintro _ w ⟨rfl, H⟩
                  refine ⟨trivial, fun a hE => ?_⟩
                  refine WQ.seg hE [46, 47, 48] [] [0, 3, 108] (Lo := [(0, .pointer (some ⟨p_w_, 0, none⟩)), (3, .int .i64 0), (108, .bool (!t_8))]) (obs := []) (by kernel_rfl) (by kernel_rfl) trivial fun a hE => ?_
                  rcases Bool.eq_false_or_eq_true (!t_8) with c | c
                  · replace hE := hE.dec 108 c (by kernel_rfl)
                    replace hm := cond_t c hm
                    have c_8 := c
                    refine WQ.seg hE [49, 50, 51, 52, 53] [] [0, 3, 113] (Lo := [(0, .pointer (some ⟨p_w_, 0, none⟩)), (3, .int .i64 0), (113, .bool true)]) (obs := []) (by kernel_rfl) (by kernel_rfl) trivial fun a hE => ?_
                    refine WQ.done (by kernel_rfl) ?_
                    replace H := thicketlaw11_world.shut al_w_ (thicketlaw11_world.mk t_6.2 t_4.2.root0 t_4.2.root1 w_.has0 w_.has1 t_4.2.next t_4.2.spent t_4.2.most) H.t5.t3.t4.t5
                    cases hm
                    exact hk _ _ ⟨hE.sel [0, 3, 113] (by kernel_rfl), H.x2.x1⟩
                  · replace hE := hE.dec 108 c (by kernel_rfl)
                    replace hm := cond_f c hm
                    have c_9 := c
                    refine WQ.seg hE [49, 50] [] [0, 3, 108, 109, 110] (Lo := [(0, .pointer (some ⟨p_w_, 0, none⟩)), (3, .int .i64 0), (108, .bool false), (109, .pointer (some ⟨p_w_, 0, none⟩)), (110, .int .i64 0)]) (obs := []) (by kernel_rfl) (by kernel_rfl) trivial fun a hE => ?_
                    replace H := thicketlaw11_world.shut al_w_ (thicketlaw11_world.mk t_6.2 t_4.2.root0 t_4.2.root1 w_.has0 w_.has1 t_4.2.next t_4.2.spent t_4.2.most) H.t5.t3.t4.t5
                    obtain ⟨t_9, et_9, hm⟩ := bind_some hm
                    refine WQ.eff (j := 51) (obs := []) hE (by kernel_rfl) rfl rfl rfl rfl (by kernel_rfl) (OpTo.fn hE rfl rfl Tryz.call27 (thicketlaw11_world_shape_ok et_9 H)) ?_
                    rintro _ w ⟨rfl, H⟩
                    refine ⟨trivial, fun a hE => ?_⟩
                    refine WQ.seg hE [52, 53] [] [0, 3, 113] (Lo := [(0, .pointer (some ⟨p_w_, 0, none⟩)), (3, .int .i64 0), (113, .bool (!t_9.1))]) (obs := []) (by kernel_rfl) (by kernel_rfl) trivial fun a hE => ?_
                    refine WQ.done (by kernel_rfl) ?_
                    cases hm
                    exact hk _ _ ⟨hE.sel [0, 3, 113] (by kernel_rfl), H.x2.x1⟩
              · replace hE := hE.dec 80 c (by kernel_rfl)
                replace hm := cond_f c hm
                have c_10 := c
                refine WQ.seg hE [21, 22, 23, 24, 25, 26, 27, 28, 29, 30, 31, 32, 33, 34, 35, 36, 37, 38, 39, 40, 41, 43] [.pointer (some ⟨al_w_.a__p, 0, none⟩), .int .i64 t_4.2.root0] [0, 3, 91, 95, 101, 103] (Lo := [(0, .pointer (some ⟨p_w_, 0, none⟩)), (3, .int .i64 0), (91, .bool false), (95, .pointer (some ⟨al_w_.a__p, 0, none⟩)), (101, .int .i64 t_4.2.root0), (103, .slice al_w_.has0_b w_.has0.length al_w_.has0_c)]) (obs := [.cell ⟨p_w_, 0, none⟩ (.pointer (some ⟨al_w_.a__p, 0, none⟩)), .p (0 ≤ (0 : Int) ∧ (0 : Int) < ((2 : Nat) : Int)), .cell ⟨p_w_, 1, none⟩ (.int .i64 t_4.2.root0)]) (by kernel_rfl) (by kernel_rfl) ⟨H.cell 0 rfl rfl, ⟨by decide, by decide⟩, H.cell 0 rfl rfl, trivial⟩ fun a hE => ?_
                obtain ⟨t_10, et_10, hm⟩ := bind_some hm
                refine WQ.eff (j := 42) (obs := []) hE (by kernel_rfl) rfl rfl rfl rfl (by kernel_rfl) (OpTo.fn hE rfl rfl Tryz.call25 (skew_All_ok et_10 H.t1)) ?_
                rintro _ w ⟨sb2, sc2, rfl, H⟩
                refine ⟨trivial, fun a hE => ?_⟩
                obtain ⟨t_11, et_11, hm⟩ := bind_some hm
                replace H := H.t3
                refine WQ.eff (j := 44) (obs := []) hE (by kernel_rfl) rfl rfl rfl rfl (by kernel_rfl) (OpTo.fn hE rfl rfl Tryz.call26 (thicketlaw11_cells_ok (hX_l := (sl_rd 48 thicketlaw11_held.enc 3 _ _ _)) (hC_l := (H.slCap 0 rfl).1) et_11 H)) ?_
                rintro _ w ⟨sb3, sc3, rfl, H⟩
                refine ⟨trivial, fun a hE => ?_⟩
                obtain ⟨t_12, et_12, hm⟩ := bind_some hm
                replace H := H.t2
                refine WQ.eff (j := 45) (obs := []) hE (by kernel_rfl) rfl rfl rfl rfl (by kernel_rfl) (OpTo.fn hE rfl rfl Tryz.call24 (thicketbook_Same_int_ok (hX_a_ := (sl_rd 3 ecI 1 _ _ _)) (hC_a_ := (H.slCap 0 rfl).1) (hX_b := (sl_rd 3 ecI 1 _ _ _)) (hC_b := (H.slCap 1 rfl).1) et_12 H)) ?_
                rintro _ w ⟨rfl, H⟩
                refine ⟨trivial, fun a hE => ?_⟩
                refine WQ.seg hE [46, 47, 48] [] [0, 3, 108] (Lo := [(0, .pointer (some ⟨p_w_, 0, none⟩)), (3, .int .i64 0), (108, .bool (!t_12))]) (obs := []) (by kernel_rfl) (by kernel_rfl) trivial fun a hE => ?_
                rcases Bool.eq_false_or_eq_true (!t_12) with c | c
                · replace hE := hE.dec 108 c (by kernel_rfl)
                  replace hm := cond_t c hm
                  have c_11 := c
                  refine WQ.seg hE [49, 50, 51, 52, 53] [] [0, 3, 113] (Lo := [(0, .pointer (some ⟨p_w_, 0, none⟩)), (3, .int .i64 0), (113, .bool true)]) (obs := []) (by kernel_rfl) (by kernel_rfl) trivial fun a hE => ?_
                  refine WQ.done (by kernel_rfl) ?_
                  replace H := thicketlaw11_world.shut al_w_ (thicketlaw11_world.mk t_10.2 t_4.2.root0 t_4.2.root1 w_.has0 w_.has1 t_4.2.next t_4.2.spent t_4.2.most) H.t5.t3.t4.t5
                  cases hm
                  exact hk _ _ ⟨hE.sel [0, 3, 113] (by kernel_rfl), H.x2.x1⟩
                · replace hE := hE.dec 108 c (by kernel_rfl)
                  replace hm := cond_f c hm
                  have c_12 := c
                  refine WQ.seg hE [49, 50] [] [0, 3, 108, 109, 110] (Lo := [(0, .pointer (some ⟨p_w_, 0, none⟩)), (3, .int .i64 0), (108, .bool false), (109, .pointer (some ⟨p_w_, 0, none⟩)), (110, .int .i64 0)]) (obs := []) (by kernel_rfl) (by kernel_rfl) trivial fun a hE => ?_
                  replace H := thicketlaw11_world.shut al_w_ (thicketlaw11_world.mk t_10.2 t_4.2.root0 t_4.2.root1 w_.has0 w_.has1 t_4.2.next t_4.2.spent t_4.2.most) H.t5.t3.t4.t5
                  obtain ⟨t_13, et_13, hm⟩ := bind_some hm
                  refine WQ.eff (j := 51) (obs := []) hE (by kernel_rfl) rfl rfl rfl rfl (by kernel_rfl) (OpTo.fn hE rfl rfl Tryz.call27 (thicketlaw11_world_shape_ok et_13 H)) ?_
                  rintro _ w ⟨rfl, H⟩
                  refine ⟨trivial, fun a hE => ?_⟩
                  refine WQ.seg hE [52, 53] [] [0, 3, 113] (Lo := [(0, .pointer (some ⟨p_w_, 0, none⟩)), (3, .int .i64 0), (113, .bool (!t_13.1))]) (obs := []) (by kernel_rfl) (by kernel_rfl) trivial fun a hE => ?_
                  refine WQ.done (by kernel_rfl) ?_
                  cases hm
                  exact hk _ _ ⟨hE.sel [0, 3, 113] (by kernel_rfl), H.x2.x1⟩
        · replace hE := hE.dec 63 c (by kernel_rfl)
          replace hm := cond_f c hm
          have c_13 := c
          refine WQ.seg hE [4, 5, 6, 7, 8, 9, 10, 11, 12, 13, 14, 15, 16, 17, 18, 19, 20] [] [0, 3, 4, 6, 76, 80] (Lo := [(0, .pointer (some ⟨p_w_, 0, none⟩)), (3, .int .i64 0), (4, .slice al_w_.has0_b w_.has0.length al_w_.has0_c), (6, .int .i64 t_3.1), (76, .bool false), (80, .bool (decide ((w_.has0.length : Int) > 0)))]) (obs := []) (by kernel_rfl) (by kernel_rfl) trivial fun a hE => ?_
          rcases Bool.eq_false_or_eq_true (decide ((w_.has0.length : Int) > 0)) with c | c
          · replace hE := hE.dec 80 c (by kernel_rfl)
            replace hm := cond_t c hm
            have c_14 := c
            refine WQ.seg hE [21, 22, 23] [] [0, 3, 4, 76, 80, 81, 82, 83] (Lo := [(0, .pointer (some ⟨p_w_, 0, none⟩)), (3, .int .i64 0), (4, .slice al_w_.has0_b w_.has0.length al_w_.has0_c), (76, .bool false), (80, .bool true), (81, .int .i64 t_3.1), (82, .slice al_w_.has0_b w_.has0.length al_w_.has0_c), (83, .slice al_w_.has0_b w_.has0.length al_w_.has0_c)]) (obs := []) (by kernel_rfl) (by kernel_rfl) trivial fun a hE => ?_
            obtain ⟨t_14, et_14, hm⟩ := bind_some hm
            replace H := H.t2
            refine WQ.eff (j := 24) (obs := []) hE (by kernel_rfl) rfl rfl rfl rfl (by kernel_rfl) (OpTo.fn hE rfl rfl Tryz.call23 (thicketlaw11_least_ok (hX_l := (sl_rd 48 thicketlaw11_held.enc 3 _ _ _)) (hC_l := (H.slCap 0 rfl).1) et_14 H)) ?_
            rintro _ w ⟨rfl, H⟩
            refine ⟨trivial, fun a hE => ?_⟩
            obtain ⟨x1, ex1, hm⟩ := bind_some hm
            obtain ⟨b1, o1, hs1, hb1⟩ := SlRd.base (sl_rd 48 thicketlaw11_held.enc 3 _ _ _) thicketlaw11_held.enc_ok H 0 rfl ex1
            refine WQ.seg hE [25, 26, 27, 28, 29, 30, 31] [.pointer (some ⟨b1, o1, none⟩), .int .i64 x1.cell] [0, 3, 4, 91] (Lo := [(0, .pointer (some ⟨p_w_, 0, none⟩)), (3, .int .i64 0), (4, .slice al_w_.has0_b w_.has0.length al_w_.has0_c), (91, .bool (t_3.1 != x1.cell))]) (obs := [.p ((al_w_.has0_b : Option Addr) = some ⟨b1, o1, none⟩), .p (0 ≤ (t_14 : Int) ∧ (t_14 : Int) < ((w_.has0.length : Nat) : Int)), .cell ⟨b1, o1 + (Int.toNat t_14) * 3, none⟩ (.int .i64 x1.cell)]) (by kernel_rfl) (by kernel_rfl) ⟨hs1, hb1, SlRd.cells (sl_rd 48 thicketlaw11_held.enc 3 _ _ _) thicketlaw11_held.enc_ok H 0 rfl hs1 ex1 0 _ rfl, trivial⟩ fun a hE => ?_
            rcases Bool.eq_false_or_eq_true (t_3.1 != x1.cell) with c | c
            · replace hE := hE.dec 91 c (by kernel_rfl)
              replace hm := cond_t c hm
              have c_15 := c
              refine WQ.seg hE [32, 33, 34, 35, 36, 37, 38, 39, 40, 41, 42, 43, 44, 45, 46, 47, 48, 49, 50, 51, 52, 53] [] [0, 3, 113] (Lo := [(0, .pointer (some ⟨p_w_, 0, none⟩)), (3, .int .i64 0), (113, .bool true)]) (obs := []) (by kernel_rfl) (by kernel_rfl) trivial fun a hE => ?_
              refine WQ.done (by kernel_rfl) ?_
              replace H := thicketlaw11_world.shut al_w_ (thicketlaw11_world.mk t_4.2.a_ t_4.2.root0 t_4.2.root1 w_.has0 w_.has1 t_4.2.next t_4.2.spent t_4.2.most) H.t3.t1.t3.t3
              cases hm
              exact hk _ _ ⟨hE.sel [0, 3, 113] (by kernel_rfl), H⟩
            · replace hE := hE.dec 91 c (by kernel_rfl)
              replace hm := cond_f c hm
              have c_16 := c
              refine WQ.seg hE [32, 33, 34, 35, 36, 37, 38, 39, 40, 41, 43] [.pointer (some ⟨al_w_.a__p, 0, none⟩), .int .i64 t_4.2.root0] [0, 3, 91, 95, 101, 103] (Lo := [(0, .pointer (some ⟨p_w_, 0, none⟩)), (3, .int .i64 0), (91, .bool false), (95, .pointer (some ⟨al_w_.a__p, 0, none⟩)), (101, .int .i64 t_4.2.root0), (103, .slice al_w_.has0_b w_.has0.length al_w_.has0_c)]) (obs := [.cell ⟨p_w_, 0, none⟩ (.pointer (some ⟨al_w_.a__p, 0, none⟩)), .p (0 ≤ (0 : Int) ∧ (0 : Int) < ((2 : Nat) : Int)), .cell ⟨p_w_, 1, none⟩ (.int .i64 t_4.2.root0)]) (by kernel_rfl) (by kernel_rfl) ⟨H.cell 1 rfl rfl, ⟨by decide, by decide⟩, H.cell 1 rfl rfl, trivial⟩ fun a hE => ?_
              obtain ⟨t_15, et_15, hm⟩ := bind_some hm
              refine WQ.eff (j := 42) (obs := []) hE (by kernel_rfl) rfl rfl rfl rfl (by kernel_rfl) (OpTo.fn hE rfl rfl Tryz.call25 (skew_All_ok et_15 H.t2)) ?_
              rintro _ w ⟨sb4, sc4, rfl, H⟩
              refine ⟨trivial, fun a hE => ?_⟩
              obtain ⟨t_16, et_16, hm⟩ := bind_some hm
              replace H := H.t2
              refine WQ.eff (j := 44) (obs := []) hE (by kernel_rfl) rfl rfl rfl rfl (by kernel_rfl) (OpTo.fn hE rfl rfl Tryz.call26 (thicketlaw11_cells_ok (hX_l := (sl_rd 48 thicketlaw11_held.enc 3 _ _ _)) (hC_l := (H.slCap 0 rfl).1) et_16 H)) ?_
              rintro _ w ⟨sb5, sc5, rfl, H⟩
              refine ⟨trivial, fun a hE => ?_⟩
              obtain ⟨t_17, et_17, hm⟩ := bind_some hm
              replace H := H.t2
              refine WQ.eff (j := 45) (obs := []) hE (by kernel_rfl) rfl rfl rfl rfl (by kernel_rfl) (OpTo.fn hE rfl rfl Tryz.call24 (thicketbook_Same_int_ok (hX_a_ := (sl_rd 3 ecI 1 _ _ _)) (hC_a_ := (H.slCap 0 rfl).1) (hX_b := (sl_rd 3 ecI 1 _ _ _)) (hC_b := (H.slCap 1 rfl).1) et_17 H)) ?_
              rintro _ w ⟨rfl, H⟩
              refine ⟨trivial, fun a hE => ?_⟩
              refine WQ.seg hE [46, 47, 48] [] [0, 3, 108] (Lo := [(0, .pointer (some ⟨p_w_, 0, none⟩)), (3, .int .i64 0), (108, .bool (!t_17))]) (obs := []) (by kernel_rfl) (by kernel_rfl) trivial fun a hE => ?_
              rcases Bool.eq_false_or_eq_true (!t_17) with c | c
              · replace hE := hE.dec 108 c (by kernel_rfl)
                replace hm := cond_t c hm
                have c_17 := c
                refine WQ.seg hE [49, 50, 51, 52, 53] [] [0, 3, 113] (Lo := [(0, .pointer (some ⟨p_w_, 0, none⟩)), (3, .int .i64 0), (113, .bool true)]) (obs := []) (by kernel_rfl) (by kernel_rfl) trivial fun a hE => ?_
                refine WQ.done (by kernel_rfl) ?_
                replace H := thicketlaw11_world.shut al_w_ (thicketlaw11_world.mk t_15.2 t_4.2.root0 t_4.2.root1 w_.has0 w_.has1 t_4.2.next t_4.2.spent t_4.2.most) H.t5.t3.t4.t5
                cases hm
                exact hk _ _ ⟨hE.sel [0, 3, 113] (by kernel_rfl), H.x2.x1⟩
              · replace hE := hE.dec 108 c (by kernel_rfl)
                replace hm := cond_f c hm
                have c_18 := c
                refine WQ.seg hE [49, 50] [] [0, 3, 108, 109, 110] (Lo := [(0, .pointer (some ⟨p_w_, 0, none⟩)), (3, .int .i64 0), (108, .bool false), (109, .pointer (some ⟨p_w_, 0, none⟩)), (110, .int .i64 0)]) (obs := []) (by kernel_rfl) (by kernel_rfl) trivial fun a hE => ?_
                replace H := thicketlaw11_world.shut al_w_ (thicketlaw11_world.mk t_15.2 t_4.2.root0 t_4.2.root1 w_.has0 w_.has1 t_4.2.next t_4.2.spent t_4.2.most) H.t5.t3.t4.t5
                obtain ⟨t_18, et_18, hm⟩ := bind_some hm
                refine WQ.eff (j := 51) (obs := []) hE (by kernel_rfl) rfl rfl rfl rfl (by kernel_rfl) (OpTo.fn hE rfl rfl Tryz.call27 (thicketlaw11_world_shape_ok et_18 H)) ?_
                rintro _ w ⟨rfl, H⟩
                refine ⟨trivial, fun a hE => ?_⟩
                refine WQ.seg hE [52, 53] [] [0, 3, 113] (Lo := [(0, .pointer (some ⟨p_w_, 0, none⟩)), (3, .int .i64 0), (113, .bool (!t_18.1))]) (obs := []) (by kernel_rfl) (by kernel_rfl) trivial fun a hE => ?_
                refine WQ.done (by kernel_rfl) ?_
                cases hm
                exact hk _ _ ⟨hE.sel [0, 3, 113] (by kernel_rfl), H.x2.x1⟩
          · replace hE := hE.dec 80 c (by kernel_rfl)
            replace hm := cond_f c hm
            have c_19 := c
            refine WQ.seg hE [21, 22, 23, 24, 25, 26, 27, 28, 29, 30, 31, 32, 33, 34, 35, 36, 37, 38, 39, 40, 41, 43] [.pointer (some ⟨al_w_.a__p, 0, none⟩), .int .i64 t_4.2.root0] [0, 3, 91, 95, 101, 103] (Lo := [(0, .pointer (some ⟨p_w_, 0, none⟩)), (3, .int .i64 0), (91, .bool false), (95, .pointer (some ⟨al_w_.a__p, 0, none⟩)), (101, .int .i64 t_4.2.root0), (103, .slice al_w_.has0_b w_.has0.length al_w_.has0_c)]) (obs := [.cell ⟨p_w_, 0, none⟩ (.pointer (some ⟨al_w_.a__p, 0, none⟩)), .p (0 ≤ (0 : Int) ∧ (0 : Int) < ((2 : Nat) : Int)), .cell ⟨p_w_, 1, none⟩ (.int .i64 t_4.2.root0)]) (by kernel_rfl) (by kernel_rfl) ⟨H.cell 0 rfl rfl, ⟨by decide, by decide⟩, H.cell 0 rfl rfl, trivial⟩ fun a hE => ?_
            obtain ⟨t_19, et_19, hm⟩ := bind_some hm
            refine WQ.eff (j := 42) (obs := []) hE (by kernel_rfl) rfl rfl rfl rfl (by kernel_rfl) (OpTo.fn hE rfl rfl Tryz.call25 (skew_All_ok et_19 H.t1)) ?_
            rintro _ w ⟨sb6, sc6, rfl, H⟩
            refine ⟨trivial, fun a hE => ?_⟩
            obtain ⟨t_20, et_20, hm⟩ := bind_some hm
            replace H := H.t3
            refine WQ.eff (j := 44) (obs := []) hE (by kernel_rfl) rfl rfl rfl rfl (by kernel_rfl) (OpTo.fn hE rfl rfl Tryz.call26 (thicketlaw11_cells_ok (hX_l := (sl_rd 48 thicketlaw11_held.enc 3 _ _ _)) (hC_l := (H.slCap 0 rfl).1) et_20 H)) ?_
            rintro _ w ⟨sb7, sc7, rfl, H⟩
            refine ⟨trivial, fun a hE => ?_⟩
            obtain ⟨t_21, et_21, hm⟩ := bind_some hm
            replace H := H.t2
            refine WQ.eff (j := 45) (obs := []) hE (by kernel_rfl) rfl rfl rfl rfl (by kernel_rfl) (OpTo.fn hE rfl rfl Tryz.call24 (thicketbook_Same_int_ok (hX_a_ := (sl_rd 3 ecI 1 _ _ _)) (hC_a_ := (H.slCap 0 rfl).1) (hX_b := (sl_rd 3 ecI 1 _ _ _)) (hC_b := (H.slCap 1 rfl).1) et_21 H)) ?_
            rintro _ w ⟨rfl, H⟩
            refine ⟨trivial, fun a hE => ?_⟩
            refine WQ.seg hE [46, 47, 48] [] [0, 3, 108] (Lo := [(0, .pointer (some ⟨p_w_, 0, none⟩)), (3, .int .i64 0), (108, .bool (!t_21))]) (obs := []) (by kernel_rfl) (by kernel_rfl) trivial fun a hE => ?_
            rcases Bool.eq_false_or_eq_true (!t_21) with c | c
            · replace hE := hE.dec 108 c (by kernel_rfl)
              replace hm := cond_t c hm
              have c_20 := c
              refine WQ.seg hE [49, 50, 51, 52, 53] [] [0, 3, 113] (Lo := [(0, .pointer (some ⟨p_w_, 0, none⟩)), (3, .int .i64 0), (113, .bool true)]) (obs := []) (by kernel_rfl) (by kernel_rfl) trivial fun a hE => ?_
              refine WQ.done (by kernel_rfl) ?_
              replace H := thicketlaw11_world.shut al_w_ (thicketlaw11_world.mk t_19.2 t_4.2.root0 t_4.2.root1 w_.has0 w_.has1 t_4.2.next t_4.2.spent t_4.2.most) H.t5.t3.t4.t5
              cases hm
              exact hk _ _ ⟨hE.sel [0, 3, 113] (by kernel_rfl), H.x2.x1⟩
            · replace hE := hE.dec 108 c (by kernel_rfl)
              replace hm := cond_f c hm
              have c_21 := c
              refine WQ.seg hE [49, 50] [] [0, 3, 108, 109, 110] (Lo := [(0, .pointer (some ⟨p_w_, 0, none⟩)), (3, .int .i64 0), (108, .bool false), (109, .pointer (some ⟨p_w_, 0, none⟩)), (110, .int .i64 0)]) (obs := []) (by kernel_rfl) (by kernel_rfl) trivial fun a hE => ?_
              replace H := thicketlaw11_world.shut al_w_ (thicketlaw11_world.mk t_19.2 t_4.2.root0 t_4.2.root1 w_.has0 w_.has1 t_4.2.next t_4.2.spent t_4.2.most) H.t5.t3.t4.t5
              obtain ⟨t_22, et_22, hm⟩ := bind_some hm
              refine WQ.eff (j := 51) (obs := []) hE (by kernel_rfl) rfl rfl rfl rfl (by kernel_rfl) (OpTo.fn hE rfl rfl Tryz.call27 (thicketlaw11_world_shape_ok et_22 H)) ?_
              rintro _ w ⟨rfl, H⟩
              refine ⟨trivial, fun a hE => ?_⟩
              refine WQ.seg hE [52, 53] [] [0, 3, 113] (Lo := [(0, .pointer (some ⟨p_w_, 0, none⟩)), (3, .int .i64 0), (113, .bool (!t_22.1))]) (obs := []) (by kernel_rfl) (by kernel_rfl) trivial fun a hE => ?_
              refine WQ.done (by kernel_rfl) ?_
              cases hm
              exact hk _ _ ⟨hE.sel [0, 3, 113] (by kernel_rfl), H.x2.x1⟩
      rintro a w ⟨hE, H⟩
      refine Runs.cond hE rfl (fun c => ?_) (fun c => ?_)
      · replace hm := cond_t c hm
        refine Runs.seq ?_
        refine Runs.region ?_
        refine WR.seg hE 1 [] [2] (Lo := [(2, .bool false)]) (obs := []) rfl (by kernel_rfl) trivial fun a hE => ?_
        refine WR.done rfl ?_
        refine Runs.ret hE Tryz.func6 rfl rfl ?_
        cases hm
        exact ⟨rfl, H⟩
      · replace hm := cond_f c hm
        refine Runs.skip ?_
        refine Runs.inBlock ?_
        refine Runs.region ?_
        refine WR.seg hE 3 [] [0, 3] (Lo := [(0, .pointer (some ⟨p_w_, 0, none⟩)), (3, .int .i64 1)]) (obs := []) rfl (by kernel_rfl) trivial fun a hE => ?_
        refine WR.done rfl ?_
        refine Runs.inLoop ?_
        refine Runs.seq ?_
        refine Runs.seq ?_
        refine Runs.region ?_
        refine WR.seg hE 2 [] [0, 3, 28] (Lo := [(0, .pointer (some ⟨p_w_, 0, none⟩)), (3, .int .i64 1), (28, .bool true)]) (obs := []) rfl (by kernel_rfl) trivial fun a hE => ?_
        refine WR.done rfl ?_
        refine Runs.condT hE rfl ?_
        refine Runs.skip ?_
        refine Runs.seq ?_
        refine Runs.block ?_
        refine Runs.seq ?_
        refine Runs.region ?_
        replace H := thicketlaw11_world.open H
        refine WR.seg hE 7 [.slice al_w_.has1_b s.2.has1.length al_w_.has1_c] [0, 3, 4] (Lo := [(0, .pointer (some ⟨p_w_, 0, none⟩)), (3, .int .i64 1), (4, .slice al_w_.has1_b s.2.has1.length al_w_.has1_c)]) (obs := [.p (0 ≤ (1 : Int) ∧ (1 : Int) < ((2 : Nat) : Int)), .cell ⟨p_w_, 4, none⟩ (.slice al_w_.has1_b s.2.has1.length al_w_.has1_c)]) rfl (by kernel_rfl) ⟨⟨by decide, by decide⟩, H.cell 0 rfl rfl, trivial⟩ fun a hE => ?_
        refine WR.done rfl ?_
        refine Runs.seq ?_
        refine Runs.region ?_
        refine WR.seg hE 4 [.pointer (some ⟨al_w_.a__p, 0, none⟩)] [0, 3, 4, 40] (Lo := [(0, .pointer (some ⟨p_w_, 0, none⟩)), (3, .int .i64 1), (4, .slice al_w_.has1_b s.2.has1.length al_w_.has1_c), (40, .pointer (some ⟨al_w_.a__p, 0, none⟩))]) (obs := [.cell ⟨p_w_, 0, none⟩ (.pointer (some ⟨al_w_.a__p, 0, none⟩))]) rfl (by kernel_rfl) ⟨H.cell 0 rfl rfl, trivial⟩ fun a hE => ?_
        obtain ⟨t_23, et_23, hm⟩ := bind_some hm
        refine WR.eff hE rfl rfl rfl rfl (OpTo.fn hE rfl rfl Tryz.call15 (arena_Arena_Meter_ok et_23 H.t1)) ?_
        rintro _ w ⟨rfl, H⟩ a hE
        replace H := arena_Arena.open H
        obtain ⟨t_24, et_24, hm⟩ := bind_some hm
        refine WR.eff hE rfl rfl rfl rfl (OpTo.fn hE rfl rfl Tryz.call18 (meter_Meter_Steps_ok et_24 H.t3)) ?_
        rintro _ w ⟨rfl, H⟩ a hE
        refine WR.seg hE 7 [] [0, 3, 4, 5] (Lo := [(0, .pointer (some ⟨p_w_, 0, none⟩)), (3, .int .i64 1), (4, .slice al_w_.has1_b s.2.has1.length al_w_.has1_c), (5, .int .i64 t_24)]) (obs := []) rfl (by kernel_rfl) trivial fun a hE => ?_
        refine WR.done rfl ?_
        refine Runs.seq ?_
        refine Runs.drawn mixed (by kernel_rfl) ?_
        replace H := H.drew
        refine WQ.seg hE [0, 1, 2, 3, 4, 5, 6, 7, 8, 9] [.pointer (some ⟨al_w_.a__p, 0, none⟩), .int .i64 s.2.root1] [0, 3, 4, 5, 46, 52] (Lo := [(0, .pointer (some ⟨p_w_, 0, none⟩)), (3, .int .i64 1), (4, .slice al_w_.has1_b s.2.has1.length al_w_.has1_c), (5, .int .i64 t_24), (46, .pointer (some ⟨al_w_.a__p, 0, none⟩)), (52, .int .i64 s.2.root1)]) (obs := [.cell ⟨p_w_, 0, none⟩ (.pointer (some ⟨al_w_.a__p, 0, none⟩)), .p (0 ≤ (1 : Int) ∧ (1 : Int) < ((2 : Nat) : Int)), .cell ⟨p_w_, 2, none⟩ (.int .i64 s.2.root1)]) (by kernel_rfl) (by kernel_rfl) ⟨H.cell 4 rfl rfl, ⟨by decide, by decide⟩, H.cell 4 rfl rfl, trivial⟩ fun a hE => ?_
        replace H := arena_Arena.shut al_w_.a__a (s.2.a_) H.t3.t3.t3
        obtain ⟨t_25, et_25, hm⟩ := bind_some hm
        refine WQ.eff (j := 10) (obs := []) hE (by kernel_rfl) rfl rfl rfl rfl (by kernel_rfl) (OpTo.fn hE rfl rfl Tryz.call22 (skew_Min_ok et_25 H)) ?_
        rintro _ w ⟨rfl, H⟩
        refine ⟨trivial, fun a hE => ?_⟩
        refine WQ.seg hE [11] [] [0, 3, 4, 5, 6] (Lo := [(0, .pointer (some ⟨p_w_, 0, none⟩)), (3, .int .i64 1), (4, .slice al_w_.has1_b s.2.has1.length al_w_.has1_c), (5, .int .i64 t_24), (6, .int .i64 t_25.1)]) (obs := []) (by kernel_rfl) (by kernel_rfl) trivial fun a hE => ?_
        refine WQ.done (by kernel_rfl) ?_
        refine Runs.seq ?_
        refine Runs.seq ?_
        refine Runs.region ?_
        refine WR.seg hE 4 [] [0, 3, 4, 6, 54, 55, 57] (Lo := [(0, .pointer (some ⟨p_w_, 0, none⟩)), (3, .int .i64 1), (4, .slice al_w_.has1_b s.2.has1.length al_w_.has1_c), (6, .int .i64 t_25.1), (54, .pointer (some ⟨p_w_, 0, none⟩)), (55, .int .i64 t_24), (57, .int .i64 (s.2.has1.length : Int))]) (obs := []) rfl (by kernel_rfl) trivial fun a hE => ?_
        replace H := thicketlaw11_world.shut al_w_ (thicketlaw11_world.mk t_25.2 s.2.root0 s.2.root1 s.2.has0 s.2.has1 s.2.next s.2.spent s.2.most) H.t3.t3.t2.t3
        obtain ⟨t_26, et_26, hm⟩ := bind_some hm
        refine WR.eff hE rfl rfl rfl rfl (OpTo.fn hE rfl rfl Tryz.call20 (thicketlaw11_world_cost_ok et_26 H)) ?_
        rintro _ w ⟨rfl, hf2, hf3, H⟩ a hE
        refine WR.seg hE 6 [] [0, 3, 4, 6, 59] (Lo := [(0, .pointer (some ⟨p_w_, 0, none⟩)), (3, .int .i64 1), (4, .slice al_w_.has1_b s.2.has1.length al_w_.has1_c), (6, .int .i64 t_25.1), (59, .bool (!t_26.1))]) (obs := []) rfl (by kernel_rfl) trivial fun a hE => ?_
        refine WR.done rfl ?_
        refine Runs.cond hE rfl (fun c => ?_) (fun c => ?_)
        · replace hm := cond_t c hm
          refine Runs.seq ?_
          refine Runs.region ?_
          refine WR.seg hE 1 [] [2] (Lo := [(2, .bool false)]) (obs := []) rfl (by kernel_rfl) trivial fun a hE => ?_
          refine WR.done rfl ?_
          refine Runs.ret hE Tryz.func6 rfl rfl ?_
          cases hm
          exact ⟨rfl, H⟩
        · replace hm := cond_f c hm
          refine Runs.skip ?_
          refine Runs.seq ?_
          obtain ⟨s1, es1, hm⟩ := bind_some hm
          refine Runs.join (fun a w => EnvOk 114 a [(0, .pointer (some ⟨p_w_, 0, none⟩)), (3, .int .i64 1), (113, .bool s1.1)] ∧ St w0 (thicketlaw11_world.R p_w_ al_w_ s1.2 :: As) w) (fun hk => ?_) ?_
          · replace hm := es1; clear es1
            refine Runs.drawn mixed (by kernel_rfl) ?_
            replace H := H.drew
            replace H := thicketlaw11_world.open H
            try rw [hf2] at H
            try rw [hf3] at H
            try dsimp only at H
            refine WQ.seg hE [0, 1, 2, 3] [] [0, 3, 4, 6, 63] (Lo := [(0, .pointer (some ⟨p_w_, 0, none⟩)), (3, .int .i64 1), (4, .slice al_w_.has1_b s.2.has1.length al_w_.has1_c), (6, .int .i64 t_25.1), (63, .bool ((s.2.has1.length : Int) == 0))]) (obs := []) (by kernel_rfl) (by kernel_rfl) trivial fun a hE => ?_
            rcases Bool.eq_false_or_eq_true ((s.2.has1.length : Int) == 0) with c | c
            · replace hE := hE.dec 63 c (by kernel_rfl)
              replace hm := cond_t c hm
              have c_22 := c
              refine WQ.seg hE [4, 5, 6] [] [0, 3, 4, 6, 63, 66] (Lo := [(0, .pointer (some ⟨p_w_, 0, none⟩)), (3, .int .i64 1), (4, .slice al_w_.has1_b s.2.has1.length al_w_.has1_c), (6, .int .i64 t_25.1), (63, .bool true), (66, .bool (t_25.1 != (-1)))]) (obs := []) (by kernel_rfl) (by kernel_rfl) trivial fun a hE => ?_
              rcases Bool.eq_false_or_eq_true (t_25.1 != (-1)) with c | c
              · replace hE := hE.dec 66 c (by kernel_rfl)
                replace hm := cond_t c hm
                have c_23 := c
                refine WQ.seg hE [7, 8, 9, 10, 11, 12, 13, 14, 15, 16, 17, 18, 19, 20, 21, 22, 23, 24, 25, 26, 27, 28, 29, 30, 31, 32, 33, 34, 35, 36, 37, 38, 39, 40, 41, 42, 43, 44, 45, 46, 47, 48, 49, 50, 51, 52, 53] [] [0, 3, 113] (Lo := [(0, .pointer (some ⟨p_w_, 0, none⟩)), (3, .int .i64 1), (113, .bool true)]) (obs := []) (by kernel_rfl) (by kernel_rfl) trivial fun a hE => ?_
                refine WQ.done (by kernel_rfl) ?_
                replace H := thicketlaw11_world.shut al_w_ (thicketlaw11_world.mk t_26.2.a_ t_26.2.root0 t_26.2.root1 s.2.has0 s.2.has1 t_26.2.next t_26.2.spent t_26.2.most) H.t3.t3.t3.t3
                cases hm
                exact hk _ _ ⟨hE.sel [0, 3, 113] (by kernel_rfl), H⟩
              · replace hE := hE.dec 66 c (by kernel_rfl)
                replace hm := cond_f c hm
                have c_24 := c
                refine WQ.seg hE [7, 8, 9, 10, 11, 12, 13, 14, 15, 16] [.int .i64 t_26.2.root1] [0, 3, 4, 6, 76] (Lo := [(0, .pointer (some ⟨p_w_, 0, none⟩)), (3, .int .i64 1), (4, .slice al_w_.has1_b s.2.has1.length al_w_.has1_c), (6, .int .i64 t_25.1), (76, .bool (t_26.2.root1 != (-1)))]) (obs := [.p (0 ≤ (1 : Int) ∧ (1 : Int) < ((2 : Nat) : Int)), .cell ⟨p_w_, 2, none⟩ (.int .i64 t_26.2.root1)]) (by kernel_rfl) (by kernel_rfl) ⟨⟨by decide, by decide⟩, H.cell 0 rfl rfl, trivial⟩ fun a hE => ?_
                rcases Bool.eq_false_or_eq_true (t_26.2.root1 != (-1)) with c | c
                · replace hE := hE.dec 76 c (by kernel_rfl)
                  replace hm := cond_t c hm
                  have c_25 := c
                  refine WQ.seg hE [17, 18, 19, 20, 21, 22, 23, 24, 25, 26, 27, 28, 29, 30, 31, 32, 33, 34, 35, 36, 37, 38, 39, 40, 41, 42, 43, 44, 45, 46, 47, 48, 49, 50, 51, 52, 53] [] [0, 3, 113] (Lo := [(0, .pointer (some ⟨p_w_, 0, none⟩)), (3, .int .i64 1), (113, .bool true)]) (obs := []) (by kernel_rfl) (by kernel_rfl) trivial fun a hE => ?_
                  refine WQ.done (by kernel_rfl) ?_
                  replace H := thicketlaw11_world.shut al_w_ (thicketlaw11_world.mk t_26.2.a_ t_26.2.root0 t_26.2.root1 s.2.has0 s.2.has1 t_26.2.next t_26.2.spent t_26.2.most) H.t3.t3.t3.t3
                  cases hm
                  exact hk _ _ ⟨hE.sel [0, 3, 113] (by kernel_rfl), H⟩
                · replace hE := hE.dec 76 c (by kernel_rfl)
                  replace hm := cond_f c hm
                  have c_26 := c
                  refine WQ.seg hE [17, 18, 19, 20] [] [0, 3, 4, 6, 76, 80] (Lo := [(0, .pointer (some ⟨p_w_, 0, none⟩)), (3, .int .i64 1), (4, .slice al_w_.has1_b s.2.has1.length al_w_.has1_c), (6, .int .i64 t_25.1), (76, .bool false), (80, .bool (decide ((s.2.has1.length : Int) > 0)))]) (obs := []) (by kernel_rfl) (by kernel_rfl) trivial fun a hE => ?_
                  rcases Bool.eq_false_or_eq_true (decide ((s.2.has1.length : Int) > 0)) with c | c
                  · replace hE := hE.dec 80 c (by kernel_rfl)
                    replace hm := cond_t c hm
                    have c_27 := c
                    refine WQ.seg hE [21, 22, 23] [] [0, 3, 4, 76, 80, 81, 82, 83] (Lo := [(0, .pointer (some ⟨p_w_, 0, none⟩)), (3, .int .i64 1), (4, .slice al_w_.has1_b s.2.has1.length al_w_.has1_c), (76, .bool false), (80, .bool true), (81, .int .i64 t_25.1), (82, .slice al_w_.has1_b s.2.has1.length al_w_.has1_c), (83, .slice al_w_.has1_b s.2.has1.length al_w_.has1_c)]) (obs := []) (by kernel_rfl) (by kernel_rfl) trivial fun a hE => ?_
                    obtain ⟨t_27, et_27, hm⟩ := bind_some hm
                    replace H := H.t3
                    refine WQ.eff (j := 24) (obs := []) hE (by kernel_rfl) rfl rfl rfl rfl (by kernel_rfl) (OpTo.fn hE rfl rfl Tryz.call23 (thicketlaw11_least_ok (hX_l := (sl_rd 48 thicketlaw11_held.enc 3 _ _ _)) (hC_l := (H.slCap 0 rfl).1) et_27 H)) ?_
                    rintro _ w ⟨rfl, H⟩
                    refine ⟨trivial, fun a hE => ?_⟩
                    obtain ⟨x2, ex2, hm⟩ := bind_some hm
                    obtain ⟨b2, o2, hs2, hb2⟩ := SlRd.base (sl_rd 48 thicketlaw11_held.enc 3 _ _ _) thicketlaw11_held.enc_ok H 0 rfl ex2
                    refine WQ.seg hE [25, 26, 27, 28, 29, 30, 31] [.pointer (some ⟨b2, o2, none⟩), .int .i64 x2.cell] [0, 3, 4, 91] (Lo := [(0, .pointer (some ⟨p_w_, 0, none⟩)), (3, .int .i64 1), (4, .slice al_w_.has1_b s.2.has1.length al_w_.has1_c), (91, .bool (t_25.1 != x2.cell))]) (obs := [.p ((al_w_.has1_b : Option Addr) = some ⟨b2, o2, none⟩), .p (0 ≤ (t_27 : Int) ∧ (t_27 : Int) < ((s.2.has1.length : Nat) : Int)), .cell ⟨b2, o2 + (Int.toNat t_27) * 3, none⟩ (.int .i64 x2.cell)]) (by kernel_rfl) (by kernel_rfl) ⟨hs2, hb2, SlRd.cells (sl_rd 48 thicketlaw11_held.enc 3 _ _ _) thicketlaw11_held.enc_ok H 0 rfl hs2 ex2 0 _ rfl, trivial⟩ fun a hE => ?_
                    rcases Bool.eq_false_or_eq_true (t_25.1 != x2.cell) with c | c
                    · replace hE := hE.dec 91 c (by kernel_rfl)
                      replace hm := cond_t c hm
                      have c_28 := c
                      refine WQ.seg hE [32, 33, 34, 35, 36, 37, 38, 39, 40, 41, 42, 43, 44, 45, 46, 47, 48, 49, 50, 51, 52, 53] [] [0, 3, 113] (Lo := [(0, .pointer (some ⟨p_w_, 0, none⟩)), (3, .int .i64 1), (113, .bool true)]) (obs := []) (by kernel_rfl) (by kernel_rfl) trivial fun a hE => ?_
                      refine WQ.done (by kernel_rfl) ?_
                      replace H := thicketlaw11_world.shut al_w_ (thicketlaw11_world.mk t_26.2.a_ t_26.2.root0 t_26.2.root1 s.2.has0 s.2.has1 t_26.2.next t_26.2.spent t_26.2.most) H.t3.t3.t3
                      cases hm
                      exact hk _ _ ⟨hE.sel [0, 3, 113] (by kernel_rfl), H⟩
                    · replace hE := hE.dec 91 c (by kernel_rfl)
                      replace hm := cond_f c hm
                      have c_29 := c
                      refine WQ.seg hE [32, 33, 34, 35, 36, 37, 38, 39, 40, 41, 43] [.pointer (some ⟨al_w_.a__p, 0, none⟩), .int .i64 t_26.2.root1] [0, 3, 91, 95, 101, 103] (Lo := [(0, .pointer (some ⟨p_w_, 0, none⟩)), (3, .int .i64 1), (91, .bool false), (95, .pointer (some ⟨al_w_.a__p, 0, none⟩)), (101, .int .i64 t_26.2.root1), (103, .slice al_w_.has1_b s.2.has1.length al_w_.has1_c)]) (obs := [.cell ⟨p_w_, 0, none⟩ (.pointer (some ⟨al_w_.a__p, 0, none⟩)), .p (0 ≤ (1 : Int) ∧ (1 : Int) < ((2 : Nat) : Int)), .cell ⟨p_w_, 2, none⟩ (.int .i64 t_26.2.root1)]) (by kernel_rfl) (by kernel_rfl) ⟨H.cell 1 rfl rfl, ⟨by decide, by decide⟩, H.cell 1 rfl rfl, trivial⟩ fun a hE => ?_
                      obtain ⟨t_28, et_28, hm⟩ := bind_some hm
                      refine WQ.eff (j := 42) (obs := []) hE (by kernel_rfl) rfl rfl rfl rfl (by kernel_rfl) (OpTo.fn hE rfl rfl Tryz.call25 (skew_All_ok et_28 H.t2)) ?_
                      rintro _ w ⟨sb8, sc8, rfl, H⟩
                      refine ⟨trivial, fun a hE => ?_⟩
                      obtain ⟨t_29, et_29, hm⟩ := bind_some hm
                      replace H := H.t2
                      refine WQ.eff (j := 44) (obs := []) hE (by kernel_rfl) rfl rfl rfl rfl (by kernel_rfl) (OpTo.fn hE rfl rfl Tryz.call26 (thicketlaw11_cells_ok (hX_l := (sl_rd 48 thicketlaw11_held.enc 3 _ _ _)) (hC_l := (H.slCap 0 rfl).1) et_29 H)) ?_
                      rintro _ w ⟨sb9, sc9, rfl, H⟩
                      refine ⟨trivial, fun a hE => ?_⟩
                      obtain ⟨t_30, et_30, hm⟩ := bind_some hm
                      replace H := H.t2
                      refine WQ.eff (j := 45) (obs := []) hE (by kernel_rfl) rfl rfl rfl rfl (by kernel_rfl) (OpTo.fn hE rfl rfl Tryz.call24 (thicketbook_Same_int_ok (hX_a_ := (sl_rd 3 ecI 1 _ _ _)) (hC_a_ := (H.slCap 0 rfl).1) (hX_b := (sl_rd 3 ecI 1 _ _ _)) (hC_b := (H.slCap 1 rfl).1) et_30 H)) ?_
                      rintro _ w ⟨rfl, H⟩
                      refine ⟨trivial, fun a hE => ?_⟩
                      refine WQ.seg hE [46, 47, 48] [] [0, 3, 108] (Lo := [(0, .pointer (some ⟨p_w_, 0, none⟩)), (3, .int .i64 1), (108, .bool (!t_30))]) (obs := []) (by kernel_rfl) (by kernel_rfl) trivial fun a hE => ?_
                      rcases Bool.eq_false_or_eq_true (!t_30) with c | c
                      · replace hE := hE.dec 108 c (by kernel_rfl)
                        replace hm := cond_t c hm
                        have c_30 := c
                        refine WQ.seg hE [49, 50, 51, 52, 53] [] [0, 3, 113] (Lo := [(0, .pointer (some ⟨p_w_, 0, none⟩)), (3, .int .i64 1), (113, .bool true)]) (obs := []) (by kernel_rfl) (by kernel_rfl) trivial fun a hE => ?_
                        refine WQ.done (by kernel_rfl) ?_
                        replace H := thicketlaw11_world.shut al_w_ (thicketlaw11_world.mk t_28.2 t_26.2.root0 t_26.2.root1 s.2.has0 s.2.has1 t_26.2.next t_26.2.spent t_26.2.most) H.t2.t5.t4.t5
                        cases hm
                        exact hk _ _ ⟨hE.sel [0, 3, 113] (by kernel_rfl), H.x2.x1⟩
                      · replace hE := hE.dec 108 c (by kernel_rfl)
                        replace hm := cond_f c hm
                        have c_31 := c
                        refine WQ.seg hE [49, 50] [] [0, 3, 108, 109, 110] (Lo := [(0, .pointer (some ⟨p_w_, 0, none⟩)), (3, .int .i64 1), (108, .bool false), (109, .pointer (some ⟨p_w_, 0, none⟩)), (110, .int .i64 1)]) (obs := []) (by kernel_rfl) (by kernel_rfl) trivial fun a hE => ?_
                        replace H := thicketlaw11_world.shut al_w_ (thicketlaw11_world.mk t_28.2 t_26.2.root0 t_26.2.root1 s.2.has0 s.2.has1 t_26.2.next t_26.2.spent t_26.2.most) H.t2.t5.t4.t5
                        obtain ⟨t_31, et_31, hm⟩ := bind_some hm
                        refine WQ.eff (j := 51) (obs := []) hE (by kernel_rfl) rfl rfl rfl rfl (by kernel_rfl) (OpTo.fn hE rfl rfl Tryz.call27 (thicketlaw11_world_shape_ok et_31 H)) ?_
                        rintro _ w ⟨rfl, H⟩
                        refine ⟨trivial, fun a hE => ?_⟩
                        refine WQ.seg hE [52, 53] [] [0, 3, 113] (Lo := [(0, .pointer (some ⟨p_w_, 0, none⟩)), (3, .int .i64 1), (113, .bool (!t_31.1))]) (obs := []) (by kernel_rfl) (by kernel_rfl) trivial fun a hE => ?_
                        refine WQ.done (by kernel_rfl) ?_
                        cases hm
                        exact hk _ _ ⟨hE.sel [0, 3, 113] (by kernel_rfl), H.x2.x1⟩
                  · replace hE := hE.dec 80 c (by kernel_rfl)
                    replace hm := cond_f c hm
                    have c_32 := c
                    refine WQ.seg hE [21, 22, 23, 24, 25, 26, 27, 28, 29, 30, 31, 32, 33, 34, 35, 36, 37, 38, 39, 40, 41, 43] [.pointer (some ⟨al_w_.a__p, 0, none⟩), .int .i64 t_26.2.root1] [0, 3, 91, 95, 101, 103] (Lo := [(0, .pointer (some ⟨p_w_, 0, none⟩)), (3, .int .i64 1), (91, .bool false), (95, .pointer (some ⟨al_w_.a__p, 0, none⟩)), (101, .int .i64 t_26.2.root1), (103, .slice al_w_.has1_b s.2.has1.length al_w_.has1_c)]) (obs := [.cell ⟨p_w_, 0, none⟩ (.pointer (some ⟨al_w_.a__p, 0, none⟩)), .p (0 ≤ (1 : Int) ∧ (1 : Int) < ((2 : Nat) : Int)), .cell ⟨p_w_, 2, none⟩ (.int .i64 t_26.2.root1)]) (by kernel_rfl) (by kernel_rfl) ⟨H.cell 0 rfl rfl, ⟨by decide, by decide⟩, H.cell 0 rfl rfl, trivial⟩ fun a hE => ?_
                    obtain ⟨t_32, et_32, hm⟩ := bind_some hm
                    refine WQ.eff (j := 42) (obs := []) hE (by kernel_rfl) rfl rfl rfl rfl (by kernel_rfl) (OpTo.fn hE rfl rfl Tryz.call25 (skew_All_ok et_32 H.t1)) ?_
                    rintro _ w ⟨sb10, sc10, rfl, H⟩
                    refine ⟨trivial, fun a hE => ?_⟩
                    obtain ⟨t_33, et_33, hm⟩ := bind_some hm
                    replace H := H.t4
                    refine WQ.eff (j := 44) (obs := []) hE (by kernel_rfl) rfl rfl rfl rfl (by kernel_rfl) (OpTo.fn hE rfl rfl Tryz.call26 (thicketlaw11_cells_ok (hX_l := (sl_rd 48 thicketlaw11_held.enc 3 _ _ _)) (hC_l := (H.slCap 0 rfl).1) et_33 H)) ?_
                    rintro _ w ⟨sb11, sc11, rfl, H⟩
                    refine ⟨trivial, fun a hE => ?_⟩
                    obtain ⟨t_34, et_34, hm⟩ := bind_some hm
                    replace H := H.t2
                    refine WQ.eff (j := 45) (obs := []) hE (by kernel_rfl) rfl rfl rfl rfl (by kernel_rfl) (OpTo.fn hE rfl rfl Tryz.call24 (thicketbook_Same_int_ok (hX_a_ := (sl_rd 3 ecI 1 _ _ _)) (hC_a_ := (H.slCap 0 rfl).1) (hX_b := (sl_rd 3 ecI 1 _ _ _)) (hC_b := (H.slCap 1 rfl).1) et_34 H)) ?_
                    rintro _ w ⟨rfl, H⟩
                    refine ⟨trivial, fun a hE => ?_⟩
                    refine WQ.seg hE [46, 47, 48] [] [0, 3, 108] (Lo := [(0, .pointer (some ⟨p_w_, 0, none⟩)), (3, .int .i64 1), (108, .bool (!t_34))]) (obs := []) (by kernel_rfl) (by kernel_rfl) trivial fun a hE => ?_
                    rcases Bool.eq_false_or_eq_true (!t_34) with c | c
                    · replace hE := hE.dec 108 c (by kernel_rfl)
                      replace hm := cond_t c hm
                      have c_33 := c
                      refine WQ.seg hE [49, 50, 51, 52, 53] [] [0, 3, 113] (Lo := [(0, .pointer (some ⟨p_w_, 0, none⟩)), (3, .int .i64 1), (113, .bool true)]) (obs := []) (by kernel_rfl) (by kernel_rfl) trivial fun a hE => ?_
                      refine WQ.done (by kernel_rfl) ?_
                      replace H := thicketlaw11_world.shut al_w_ (thicketlaw11_world.mk t_32.2 t_26.2.root0 t_26.2.root1 s.2.has0 s.2.has1 t_26.2.next t_26.2.spent t_26.2.most) H.t2.t5.t4.t5
                      cases hm
                      exact hk _ _ ⟨hE.sel [0, 3, 113] (by kernel_rfl), H.x2.x1⟩
                    · replace hE := hE.dec 108 c (by kernel_rfl)
                      replace hm := cond_f c hm
                      have c_34 := c
                      refine WQ.seg hE [49, 50] [] [0, 3, 108, 109, 110] (Lo := [(0, .pointer (some ⟨p_w_, 0, none⟩)), (3, .int .i64 1), (108, .bool false), (109, .pointer (some ⟨p_w_, 0, none⟩)), (110, .int .i64 1)]) (obs := []) (by kernel_rfl) (by kernel_rfl) trivial fun a hE => ?_
                      replace H := thicketlaw11_world.shut al_w_ (thicketlaw11_world.mk t_32.2 t_26.2.root0 t_26.2.root1 s.2.has0 s.2.has1 t_26.2.next t_26.2.spent t_26.2.most) H.t2.t5.t4.t5
                      obtain ⟨t_35, et_35, hm⟩ := bind_some hm
                      refine WQ.eff (j := 51) (obs := []) hE (by kernel_rfl) rfl rfl rfl rfl (by kernel_rfl) (OpTo.fn hE rfl rfl Tryz.call27 (thicketlaw11_world_shape_ok et_35 H)) ?_
                      rintro _ w ⟨rfl, H⟩
                      refine ⟨trivial, fun a hE => ?_⟩
                      refine WQ.seg hE [52, 53] [] [0, 3, 113] (Lo := [(0, .pointer (some ⟨p_w_, 0, none⟩)), (3, .int .i64 1), (113, .bool (!t_35.1))]) (obs := []) (by kernel_rfl) (by kernel_rfl) trivial fun a hE => ?_
                      refine WQ.done (by kernel_rfl) ?_
                      cases hm
                      exact hk _ _ ⟨hE.sel [0, 3, 113] (by kernel_rfl), H.x2.x1⟩
            · replace hE := hE.dec 63 c (by kernel_rfl)
              replace hm := cond_f c hm
              have c_35 := c
              refine WQ.seg hE [4, 5, 6, 7, 8, 9, 10, 11, 12, 13, 14, 15, 16, 17, 18, 19, 20] [] [0, 3, 4, 6, 76, 80] (Lo := [(0, .pointer (some ⟨p_w_, 0, none⟩)), (3, .int .i64 1), (4, .slice al_w_.has1_b s.2.has1.length al_w_.has1_c), (6, .int .i64 t_25.1), (76, .bool false), (80, .bool (decide ((s.2.has1.length : Int) > 0)))]) (obs := []) (by kernel_rfl) (by kernel_rfl) trivial fun a hE => ?_
              rcases Bool.eq_false_or_eq_true (decide ((s.2.has1.length : Int) > 0)) with c | c
              · replace hE := hE.dec 80 c (by kernel_rfl)
                replace hm := cond_t c hm
                have c_36 := c
                refine WQ.seg hE [21, 22, 23] [] [0, 3, 4, 76, 80, 81, 82, 83] (Lo := [(0, .pointer (some ⟨p_w_, 0, none⟩)), (3, .int .i64 1), (4, .slice al_w_.has1_b s.2.has1.length al_w_.has1_c), (76, .bool false), (80, .bool true), (81, .int .i64 t_25.1), (82, .slice al_w_.has1_b s.2.has1.length al_w_.has1_c), (83, .slice al_w_.has1_b s.2.has1.length al_w_.has1_c)]) (obs := []) (by kernel_rfl) (by kernel_rfl) trivial fun a hE => ?_
                obtain ⟨t_36, et_36, hm⟩ := bind_some hm
                replace H := H.t3
                refine WQ.eff (j := 24) (obs := []) hE (by kernel_rfl) rfl rfl rfl rfl (by kernel_rfl) (OpTo.fn hE rfl rfl Tryz.call23 (thicketlaw11_least_ok (hX_l := (sl_rd 48 thicketlaw11_held.enc 3 _ _ _)) (hC_l := (H.slCap 0 rfl).1) et_36 H)) ?_
                rintro _ w ⟨rfl, H⟩
                refine ⟨trivial, fun a hE => ?_⟩
                obtain ⟨x3, ex3, hm⟩ := bind_some hm
                obtain ⟨b3, o3, hs3, hb3⟩ := SlRd.base (sl_rd 48 thicketlaw11_held.enc 3 _ _ _) thicketlaw11_held.enc_ok H 0 rfl ex3
                refine WQ.seg hE [25, 26, 27, 28, 29, 30, 31] [.pointer (some ⟨b3, o3, none⟩), .int .i64 x3.cell] [0, 3, 4, 91] (Lo := [(0, .pointer (some ⟨p_w_, 0, none⟩)), (3, .int .i64 1), (4, .slice al_w_.has1_b s.2.has1.length al_w_.has1_c), (91, .bool (t_25.1 != x3.cell))]) (obs := [.p ((al_w_.has1_b : Option Addr) = some ⟨b3, o3, none⟩), .p (0 ≤ (t_36 : Int) ∧ (t_36 : Int) < ((s.2.has1.length : Nat) : Int)), .cell ⟨b3, o3 + (Int.toNat t_36) * 3, none⟩ (.int .i64 x3.cell)]) (by kernel_rfl) (by kernel_rfl) ⟨hs3, hb3, SlRd.cells (sl_rd 48 thicketlaw11_held.enc 3 _ _ _) thicketlaw11_held.enc_ok H 0 rfl hs3 ex3 0 _ rfl, trivial⟩ fun a hE => ?_
                rcases Bool.eq_false_or_eq_true (t_25.1 != x3.cell) with c | c
                · replace hE := hE.dec 91 c (by kernel_rfl)
                  replace hm := cond_t c hm
                  have c_37 := c
                  refine WQ.seg hE [32, 33, 34, 35, 36, 37, 38, 39, 40, 41, 42, 43, 44, 45, 46, 47, 48, 49, 50, 51, 52, 53] [] [0, 3, 113] (Lo := [(0, .pointer (some ⟨p_w_, 0, none⟩)), (3, .int .i64 1), (113, .bool true)]) (obs := []) (by kernel_rfl) (by kernel_rfl) trivial fun a hE => ?_
                  refine WQ.done (by kernel_rfl) ?_
                  replace H := thicketlaw11_world.shut al_w_ (thicketlaw11_world.mk t_26.2.a_ t_26.2.root0 t_26.2.root1 s.2.has0 s.2.has1 t_26.2.next t_26.2.spent t_26.2.most) H.t3.t3.t3
                  cases hm
                  exact hk _ _ ⟨hE.sel [0, 3, 113] (by kernel_rfl), H⟩
                · replace hE := hE.dec 91 c (by kernel_rfl)
                  replace hm := cond_f c hm
                  have c_38 := c
                  refine WQ.seg hE [32, 33, 34, 35, 36, 37, 38, 39, 40, 41, 43] [.pointer (some ⟨al_w_.a__p, 0, none⟩), .int .i64 t_26.2.root1] [0, 3, 91, 95, 101, 103] (Lo := [(0, .pointer (some ⟨p_w_, 0, none⟩)), (3, .int .i64 1), (91, .bool false), (95, .pointer (some ⟨al_w_.a__p, 0, none⟩)), (101, .int .i64 t_26.2.root1), (103, .slice al_w_.has1_b s.2.has1.length al_w_.has1_c)]) (obs := [.cell ⟨p_w_, 0, none⟩ (.pointer (some ⟨al_w_.a__p, 0, none⟩)), .p (0 ≤ (1 : Int) ∧ (1 : Int) < ((2 : Nat) : Int)), .cell ⟨p_w_, 2, none⟩ (.int .i64 t_26.2.root1)]) (by kernel_rfl) (by kernel_rfl) ⟨H.cell 1 rfl rfl, ⟨by decide, by decide⟩, H.cell 1 rfl rfl, trivial⟩ fun a hE => ?_
                  obtain ⟨t_37, et_37, hm⟩ := bind_some hm
                  refine WQ.eff (j := 42) (obs := []) hE (by kernel_rfl) rfl rfl rfl rfl (by kernel_rfl) (OpTo.fn hE rfl rfl Tryz.call25 (skew_All_ok et_37 H.t2)) ?_
                  rintro _ w ⟨sb12, sc12, rfl, H⟩
                  refine ⟨trivial, fun a hE => ?_⟩
                  obtain ⟨t_38, et_38, hm⟩ := bind_some hm
                  replace H := H.t2
                  refine WQ.eff (j := 44) (obs := []) hE (by kernel_rfl) rfl rfl rfl rfl (by kernel_rfl) (OpTo.fn hE rfl rfl Tryz.call26 (thicketlaw11_cells_ok (hX_l := (sl_rd 48 thicketlaw11_held.enc 3 _ _ _)) (hC_l := (H.slCap 0 rfl).1) et_38 H)) ?_
                  rintro _ w ⟨sb13, sc13, rfl, H⟩
                  refine ⟨trivial, fun a hE => ?_⟩
                  obtain ⟨t_39, et_39, hm⟩ := bind_some hm
                  replace H := H.t2
                  refine WQ.eff (j := 45) (obs := []) hE (by kernel_rfl) rfl rfl rfl rfl (by kernel_rfl) (OpTo.fn hE rfl rfl Tryz.call24 (thicketbook_Same_int_ok (hX_a_ := (sl_rd 3 ecI 1 _ _ _)) (hC_a_ := (H.slCap 0 rfl).1) (hX_b := (sl_rd 3 ecI 1 _ _ _)) (hC_b := (H.slCap 1 rfl).1) et_39 H)) ?_
                  rintro _ w ⟨rfl, H⟩
                  refine ⟨trivial, fun a hE => ?_⟩
                  refine WQ.seg hE [46, 47, 48] [] [0, 3, 108] (Lo := [(0, .pointer (some ⟨p_w_, 0, none⟩)), (3, .int .i64 1), (108, .bool (!t_39))]) (obs := []) (by kernel_rfl) (by kernel_rfl) trivial fun a hE => ?_
                  rcases Bool.eq_false_or_eq_true (!t_39) with c | c
                  · replace hE := hE.dec 108 c (by kernel_rfl)
                    replace hm := cond_t c hm
                    have c_39 := c
                    refine WQ.seg hE [49, 50, 51, 52, 53] [] [0, 3, 113] (Lo := [(0, .pointer (some ⟨p_w_, 0, none⟩)), (3, .int .i64 1), (113, .bool true)]) (obs := []) (by kernel_rfl) (by kernel_rfl) trivial fun a hE => ?_
                    refine WQ.done (by kernel_rfl) ?_
                    replace H := thicketlaw11_world.shut al_w_ (thicketlaw11_world.mk t_37.2 t_26.2.root0 t_26.2.root1 s.2.has0 s.2.has1 t_26.2.next t_26.2.spent t_26.2.most) H.t2.t5.t4.t5
                    cases hm
                    exact hk _ _ ⟨hE.sel [0, 3, 113] (by kernel_rfl), H.x2.x1⟩
                  · replace hE := hE.dec 108 c (by kernel_rfl)
                    replace hm := cond_f c hm
                    have c_40 := c
                    refine WQ.seg hE [49, 50] [] [0, 3, 108, 109, 110] (Lo := [(0, .pointer (some ⟨p_w_, 0, none⟩)), (3, .int .i64 1), (108, .bool false), (109, .pointer (some ⟨p_w_, 0, none⟩)), (110, .int .i64 1)]) (obs := []) (by kernel_rfl) (by kernel_rfl) trivial fun a hE => ?_
                    replace H := thicketlaw11_world.shut al_w_ (thicketlaw11_world.mk t_37.2 t_26.2.root0 t_26.2.root1 s.2.has0 s.2.has1 t_26.2.next t_26.2.spent t_26.2.most) H.t2.t5.t4.t5
                    obtain ⟨t_40, et_40, hm⟩ := bind_some hm
                    refine WQ.eff (j := 51) (obs := []) hE (by kernel_rfl) rfl rfl rfl rfl (by kernel_rfl) (OpTo.fn hE rfl rfl Tryz.call27 (thicketlaw11_world_shape_ok et_40 H)) ?_
                    rintro _ w ⟨rfl, H⟩
                    refine ⟨trivial, fun a hE => ?_⟩
                    refine WQ.seg hE [52, 53] [] [0, 3, 113] (Lo := [(0, .pointer (some ⟨p_w_, 0, none⟩)), (3, .int .i64 1), (113, .bool (!t_40.1))]) (obs := []) (by kernel_rfl) (by kernel_rfl) trivial fun a hE => ?_
                    refine WQ.done (by kernel_rfl) ?_
                    cases hm
                    exact hk _ _ ⟨hE.sel [0, 3, 113] (by kernel_rfl), H.x2.x1⟩
              · replace hE := hE.dec 80 c (by kernel_rfl)
                replace hm := cond_f c hm
                have c_41 := c
                refine WQ.seg hE [21, 22, 23, 24, 25, 26, 27, 28, 29, 30, 31, 32, 33, 34, 35, 36, 37, 38, 39, 40, 41, 43] [.pointer (some ⟨al_w_.a__p, 0, none⟩), .int .i64 t_26.2.root1] [0, 3, 91, 95, 101, 103] (Lo := [(0, .pointer (some ⟨p_w_, 0, none⟩)), (3, .int .i64 1), (91, .bool false), (95, .pointer (some ⟨al_w_.a__p, 0, none⟩)), (101, .int .i64 t_26.2.root1), (103, .slice al_w_.has1_b s.2.has1.length al_w_.has1_c)]) (obs := [.cell ⟨p_w_, 0, none⟩ (.pointer (some ⟨al_w_.a__p, 0, none⟩)), .p (0 ≤ (1 : Int) ∧ (1 : Int) < ((2 : Nat) : Int)), .cell ⟨p_w_, 2, none⟩ (.int .i64 t_26.2.root1)]) (by kernel_rfl) (by kernel_rfl) ⟨H.cell 0 rfl rfl, ⟨by decide, by decide⟩, H.cell 0 rfl rfl, trivial⟩ fun a hE => ?_
                obtain ⟨t_41, et_41, hm⟩ := bind_some hm
                refine WQ.eff (j := 42) (obs := []) hE (by kernel_rfl) rfl rfl rfl rfl (by kernel_rfl) (OpTo.fn hE rfl rfl Tryz.call25 (skew_All_ok et_41 H.t1)) ?_
                rintro _ w ⟨sb14, sc14, rfl, H⟩
                refine ⟨trivial, fun a hE => ?_⟩
                obtain ⟨t_42, et_42, hm⟩ := bind_some hm
                replace H := H.t4
                refine WQ.eff (j := 44) (obs := []) hE (by kernel_rfl) rfl rfl rfl rfl (by kernel_rfl) (OpTo.fn hE rfl rfl Tryz.call26 (thicketlaw11_cells_ok (hX_l := (sl_rd 48 thicketlaw11_held.enc 3 _ _ _)) (hC_l := (H.slCap 0 rfl).1) et_42 H)) ?_
                rintro _ w ⟨sb15, sc15, rfl, H⟩
                refine ⟨trivial, fun a hE => ?_⟩
                obtain ⟨t_43, et_43, hm⟩ := bind_some hm
                replace H := H.t2
                refine WQ.eff (j := 45) (obs := []) hE (by kernel_rfl) rfl rfl rfl rfl (by kernel_rfl) (OpTo.fn hE rfl rfl Tryz.call24 (thicketbook_Same_int_ok (hX_a_ := (sl_rd 3 ecI 1 _ _ _)) (hC_a_ := (H.slCap 0 rfl).1) (hX_b := (sl_rd 3 ecI 1 _ _ _)) (hC_b := (H.slCap 1 rfl).1) et_43 H)) ?_
                rintro _ w ⟨rfl, H⟩
                refine ⟨trivial, fun a hE => ?_⟩
                refine WQ.seg hE [46, 47, 48] [] [0, 3, 108] (Lo := [(0, .pointer (some ⟨p_w_, 0, none⟩)), (3, .int .i64 1), (108, .bool (!t_43))]) (obs := []) (by kernel_rfl) (by kernel_rfl) trivial fun a hE => ?_
                rcases Bool.eq_false_or_eq_true (!t_43) with c | c
                · replace hE := hE.dec 108 c (by kernel_rfl)
                  replace hm := cond_t c hm
                  have c_42 := c
                  refine WQ.seg hE [49, 50, 51, 52, 53] [] [0, 3, 113] (Lo := [(0, .pointer (some ⟨p_w_, 0, none⟩)), (3, .int .i64 1), (113, .bool true)]) (obs := []) (by kernel_rfl) (by kernel_rfl) trivial fun a hE => ?_
                  refine WQ.done (by kernel_rfl) ?_
                  replace H := thicketlaw11_world.shut al_w_ (thicketlaw11_world.mk t_41.2 t_26.2.root0 t_26.2.root1 s.2.has0 s.2.has1 t_26.2.next t_26.2.spent t_26.2.most) H.t2.t5.t4.t5
                  cases hm
                  exact hk _ _ ⟨hE.sel [0, 3, 113] (by kernel_rfl), H.x2.x1⟩
                · replace hE := hE.dec 108 c (by kernel_rfl)
                  replace hm := cond_f c hm
                  have c_43 := c
                  refine WQ.seg hE [49, 50] [] [0, 3, 108, 109, 110] (Lo := [(0, .pointer (some ⟨p_w_, 0, none⟩)), (3, .int .i64 1), (108, .bool false), (109, .pointer (some ⟨p_w_, 0, none⟩)), (110, .int .i64 1)]) (obs := []) (by kernel_rfl) (by kernel_rfl) trivial fun a hE => ?_
                  replace H := thicketlaw11_world.shut al_w_ (thicketlaw11_world.mk t_41.2 t_26.2.root0 t_26.2.root1 s.2.has0 s.2.has1 t_26.2.next t_26.2.spent t_26.2.most) H.t2.t5.t4.t5
                  obtain ⟨t_44, et_44, hm⟩ := bind_some hm
                  refine WQ.eff (j := 51) (obs := []) hE (by kernel_rfl) rfl rfl rfl rfl (by kernel_rfl) (OpTo.fn hE rfl rfl Tryz.call27 (thicketlaw11_world_shape_ok et_44 H)) ?_
                  rintro _ w ⟨rfl, H⟩
                  refine ⟨trivial, fun a hE => ?_⟩
                  refine WQ.seg hE [52, 53] [] [0, 3, 113] (Lo := [(0, .pointer (some ⟨p_w_, 0, none⟩)), (3, .int .i64 1), (113, .bool (!t_44.1))]) (obs := []) (by kernel_rfl) (by kernel_rfl) trivial fun a hE => ?_
                  refine WQ.done (by kernel_rfl) ?_
                  cases hm
                  exact hk _ _ ⟨hE.sel [0, 3, 113] (by kernel_rfl), H.x2.x1⟩
          rintro a w ⟨hE, H⟩
          refine Runs.cond hE rfl (fun c => ?_) (fun c => ?_)
          · replace hm := cond_t c hm
            refine Runs.seq ?_
            refine Runs.region ?_
            refine WR.seg hE 1 [] [2] (Lo := [(2, .bool false)]) (obs := []) rfl (by kernel_rfl) trivial fun a hE => ?_
            refine WR.done rfl ?_
            refine Runs.ret hE Tryz.func6 rfl rfl ?_
            cases hm
            exact ⟨rfl, H⟩
          · replace hm := cond_f c hm
            refine Runs.skip ?_
            refine Runs.inBlock ?_
            refine Runs.region ?_
            refine WR.seg hE 3 [] [0, 3] (Lo := [(0, .pointer (some ⟨p_w_, 0, none⟩)), (3, .int .i64 2)]) (obs := []) rfl (by kernel_rfl) trivial fun a hE => ?_
            refine WR.done rfl ?_
            refine Runs.inLoop ?_
            refine Runs.seq ?_
            refine Runs.seq ?_
            refine Runs.region ?_
            refine WR.seg hE 2 [] [0, 3, 28] (Lo := [(0, .pointer (some ⟨p_w_, 0, none⟩)), (3, .int .i64 2), (28, .bool false)]) (obs := []) rfl (by kernel_rfl) trivial fun a hE => ?_
            refine WR.done rfl ?_
            refine Runs.condF hE rfl ?_
            refine Runs.exit rfl ?_
            refine Runs.seq ?_
            refine Runs.region ?_
            refine WR.seg hE 1 [] [2] (Lo := [(2, .bool true)]) (obs := []) rfl (by kernel_rfl) trivial fun a hE => ?_
            refine WR.done rfl ?_
            refine Runs.ret hE Tryz.func6 rfl rfl ?_
            cases hm
            exact ⟨rfl, H⟩

theorem thicketbook_Within_ok {w0 w : World} {As : List HP} {n : Int} {lo : Int} {hi : Int} {t : Int}  (hm : thicketbook_Within n lo hi = some t) (H : St w0 (As) w) :
    CallsR Tryz.prog 28 #[.int .i64 n, .int .i64 lo, .int .i64 hi] w fun v w' => v = .int .i64 t ∧ St w0 (As) w' := by
  rw [thicketbook_Within] at hm
  refine enter (args := [.int .i64 n, .int .i64 lo, .int .i64 hi]) Tryz.func28 rfl rfl rfl fun a hE => ?_
  refine Runs.seq ?_
  refine Runs.region ?_
  refine WR.seg hE 1 [] [0, 1, 2] (Lo := [(0, .int .i64 n), (1, .int .i64 lo), (2, .int .i64 hi)]) (obs := []) rfl (by kernel_rfl) trivial fun a hE => ?_
  refine WR.done rfl ?_
  refine Runs.seq ?_
  refine Runs.seq ?_
  refine Runs.join (fun a w => EnvOk 33 a [(0, .int .i64 n), (1, .int .i64 lo), (2, .int .i64 hi), (14, .bool ((decide (n ≥ lo)) && (decide (n ≤ hi))))] ∧ St w0 (As) w) (fun hk => ?_) ?_
  · clear hm
    refine Runs.region ?_
    refine WR.seg hE 4 [] [0, 1, 2, 10] (Lo := [(0, .int .i64 n), (1, .int .i64 lo), (2, .int .i64 hi), (10, .bool (decide (n ≥ lo)))]) (obs := []) rfl (by kernel_rfl) trivial fun a hE => ?_
    rcases Bool.eq_false_or_eq_true (decide (n ≥ lo)) with c | c
    · replace hE := hE.dec 10 c (by kernel_rfl)
      have c_ := c
      refine WR.seg hE 8 [] [0, 1, 2, 14] (Lo := [(0, .int .i64 n), (1, .int .i64 lo), (2, .int .i64 hi), (14, .bool (decide (n ≤ hi)))]) (obs := []) rfl (by kernel_rfl) trivial fun a hE => ?_
      refine WR.done rfl ?_
      refine hk _ _ ⟨?_, H⟩
      try rw [c_] at hE
      try rw [c_]
      exact hE.sel [0, 1, 2, 14] (by kernel_rfl)
    · replace hE := hE.dec 10 c (by kernel_rfl)
      have c_1 := c
      refine WR.seg hE 8 [] [0, 1, 2, 14] (Lo := [(0, .int .i64 n), (1, .int .i64 lo), (2, .int .i64 hi), (14, .bool false)]) (obs := []) rfl (by kernel_rfl) trivial fun a hE => ?_
      refine WR.done rfl ?_
      refine hk _ _ ⟨?_, H⟩
      try rw [c_1] at hE
      try rw [c_1]
      exact hE.sel [0, 1, 2, 14] (by kernel_rfl)
  rintro a w ⟨hE, H⟩
  refine Runs.cond hE rfl (fun c => ?_) (fun c => ?_)
  · replace hm := cond_t c hm
    refine Runs.seq ?_
    refine Runs.region ?_
    refine WR.seg hE 2 [] [6] (Lo := [(6, .int .i64 n)]) (obs := []) rfl (by kernel_rfl) trivial fun a hE => ?_
    refine WR.done rfl ?_
    refine Runs.ret hE Tryz.func28 rfl rfl ?_
    cases hm
    exact ⟨rfl, H⟩
  · replace hm := cond_f c hm
    refine Runs.skip ?_
    refine Runs.seq ?_
    refine Runs.region ?_
    obtain ⟨u, eu, hm⟩ := bind_some hm
    refine WR.seg hE 7 [] [0, 1, 2] (Lo := [(0, .int .i64 (Int.tmod n (w64 ((w64 (hi - lo)) + 1)))), (1, .int .i64 lo), (2, .int .i64 hi)]) (obs := [.p (w64 ((w64 (hi - lo)) + 1) ≠ 0)]) rfl (by kernel_rfl) ⟨(nz_spec eu), trivial⟩ fun a hE => ?_
    refine WR.done rfl ?_
    refine Runs.seq ?_
    refine Runs.seq ?_
    refine Runs.region ?_
    refine WR.seg hE 2 [] [0, 1, 2, 23] (Lo := [(0, .int .i64 (Int.tmod n (w64 ((w64 (hi - lo)) + 1)))), (1, .int .i64 lo), (2, .int .i64 hi), (23, .bool (decide (Int.tmod n (w64 ((w64 (hi - lo)) + 1)) < 0)))]) (obs := []) rfl (by kernel_rfl) trivial fun a hE => ?_
    refine WR.done rfl ?_
    obtain ⟨s, es, hm⟩ := bind_some hm
    refine Runs.join (fun a w => EnvOk 33 a [(0, .int .i64 s), (1, .int .i64 lo)] ∧ St w0 (As) w) (fun hk => ?_) ?_
    · replace hm := es; clear es
      refine Runs.cond hE rfl (fun c => ?_) (fun c => ?_)
      · replace hm := cond_t c hm
        refine Runs.region ?_
        refine WR.seg hE 7 [] [0, 1] (Lo := [(0, .int .i64 (w64 ((w64 ((w64 ((Int.tmod n (w64 ((w64 (hi - lo)) + 1))) + hi)) - lo)) + 1))), (1, .int .i64 lo)]) (obs := []) rfl (by kernel_rfl) trivial fun a hE => ?_
        refine WR.done rfl ?_
        cases hm
        exact hk _ _ ⟨hE.sel [0, 1] (by kernel_rfl), H⟩
      · replace hm := cond_f c hm
        refine Runs.skip ?_
        cases hm
        exact hk _ _ ⟨hE.sel [0, 1] (by kernel_rfl), H⟩
    rintro a w ⟨hE, H⟩
    refine Runs.seq ?_
    refine Runs.region ?_
    refine WR.seg hE 4 [] [6] (Lo := [(6, .int .i64 (w64 (lo + s)))]) (obs := []) rfl (by kernel_rfl) trivial fun a hE => ?_
    refine WR.done rfl ?_
    refine Runs.ret hE Tryz.func28 rfl rfl ?_
    cases hm
    exact ⟨rfl, H⟩

theorem item_Lower_ok {w0 w : World} {As : List HP} {p_a_ : Nat} {al_a_ : arena_Arena.A} {a_ : arena_Arena} {i : Int} {key : Int} {t : Bool × arena_Arena}  (hm : item_Lower a_ i key = some t) (H : St w0 (arena_Arena.R p_a_ al_a_ a_ :: As) w) :
    CallsR Tryz.prog 29 #[.pointer (some ⟨p_a_, 0, none⟩), .int .i64 i, .int .i64 key] w fun v w' => v = .bool t.1 ∧ St w0 (arena_Arena.R p_a_ al_a_ t.2 :: As) w' := by
  rw [item_Lower] at hm
  refine enter (args := [.pointer (some ⟨p_a_, 0, none⟩), .int .i64 i, .int .i64 key]) Tryz.func29 rfl rfl rfl fun a hE => ?_
  refine Runs.seq ?_
  refine Runs.region ?_
  refine WR.seg hE 1 [] [0, 1, 2] (Lo := [(0, .pointer (some ⟨p_a_, 0, none⟩)), (1, .int .i64 i), (2, .int .i64 key)]) (obs := []) rfl (by kernel_rfl) trivial fun a hE => ?_
  refine WR.done rfl ?_
  refine Runs.seq ?_
  refine Runs.seq ?_
  obtain ⟨s, es, hm⟩ := bind_some hm
  refine Runs.join (fun a w => EnvOk 20 a [(0, .pointer (some ⟨p_a_, 0, none⟩)), (1, .int .i64 i), (2, .int .i64 key), (15, .bool s.1)] ∧ St w0 (arena_Arena.R p_a_ al_a_ s.2 :: As) w) (fun hk => ?_) ?_
  · replace hm := es; clear es
    refine Runs.region ?_
    refine WR.seg hE 6 [] [0, 1, 2, 9, 10, 11, 12] (Lo := [(0, .pointer (some ⟨p_a_, 0, none⟩)), (1, .int .i64 i), (2, .int .i64 key), (9, .bool false), (10, .int .i64 key), (11, .pointer (some ⟨p_a_, 0, none⟩)), (12, .int .i64 i)]) (obs := []) rfl (by kernel_rfl) trivial fun a hE => ?_
    obtain ⟨t_, et_, hm⟩ := bind_some hm
    refine WR.eff hE rfl rfl rfl rfl (OpTo.fn hE rfl rfl Tryz.call51 (arena_Arena_Get_ok et_ H)) ?_
    rintro _ w ⟨rfl, hf1, hf, H⟩ a hE
    refine WR.seg hE 9 [] [0, 1, 2, 15] (Lo := [(0, .pointer (some ⟨p_a_, 0, none⟩)), (1, .int .i64 i), (2, .int .i64 key), (15, .bool (decide (key > t_.1)))]) (obs := []) rfl (by kernel_rfl) trivial fun a hE => ?_
    refine WR.done rfl ?_
    cases hm
    exact hk _ _ ⟨hE.sel [0, 1, 2, 15] (by kernel_rfl), H⟩
  rintro a w ⟨hE, H⟩
  refine Runs.cond hE rfl (fun c => ?_) (fun c => ?_)
  · replace hm := cond_t c hm
    refine Runs.seq ?_
    refine Runs.region ?_
    refine WR.seg hE 1 [] [6] (Lo := [(6, .bool false)]) (obs := []) rfl (by kernel_rfl) trivial fun a hE => ?_
    refine WR.done rfl ?_
    refine Runs.ret hE Tryz.func29 rfl rfl ?_
    cases hm
    exact ⟨rfl, H⟩
  · replace hm := cond_f c hm
    refine Runs.skip ?_
    refine Runs.seq ?_
    refine Runs.region ?_
    refine WR.seg hE 3 [] [16, 17, 18] (Lo := [(16, .pointer (some ⟨p_a_, 0, none⟩)), (17, .int .i64 i), (18, .int .i64 key)]) (obs := []) rfl (by kernel_rfl) trivial fun a hE => ?_
    obtain ⟨t_1, et_1, hm⟩ := bind_some hm
    refine WR.eff hE rfl rfl rfl rfl (OpTo.fn hE rfl rfl Tryz.call39 (arena_Arena_Set_ok et_1 H)) ?_
    rintro _ w ⟨rfl, hf2, H⟩ a hE
    refine WR.seg hE 5 [] [6] (Lo := [(6, .bool t_1.1)]) (obs := []) rfl (by kernel_rfl) trivial fun a hE => ?_
    refine WR.done rfl ?_
    refine Runs.ret hE Tryz.func29 rfl rfl ?_
    cases hm
    exact ⟨rfl, H⟩

theorem item_Node_ok {w0 w : World} {As : List HP} {p_a_ : Nat} {al_a_ : arena_Arena.A} {a_ : arena_Arena} {i : Int} {t : Int × arena_Arena}  (hm : item_Node a_ i = some t) (H : St w0 (arena_Arena.R p_a_ al_a_ a_ :: As) w) :
    CallsR Tryz.prog 33 #[.pointer (some ⟨p_a_, 0, none⟩), .int .i64 i] w fun v w' => v = .int .i64 t.1 ∧ St w0 (arena_Arena.R p_a_ al_a_ t.2 :: As) w' := by
  rw [item_Node] at hm
  refine enter (args := [.pointer (some ⟨p_a_, 0, none⟩), .int .i64 i]) Tryz.func33 rfl rfl rfl fun a hE => ?_
  refine Runs.seq ?_
  refine Runs.region ?_
  refine WR.seg hE 1 [] [0, 1] (Lo := [(0, .pointer (some ⟨p_a_, 0, none⟩)), (1, .int .i64 i)]) (obs := []) rfl (by kernel_rfl) trivial fun a hE => ?_
  refine WR.done rfl ?_
  refine Runs.seq ?_
  refine Runs.seq ?_
  refine Runs.region ?_
  refine WR.seg hE 2 [] [0, 1, 6] (Lo := [(0, .pointer (some ⟨p_a_, 0, none⟩)), (1, .int .i64 i), (6, .bool false)]) (obs := []) rfl (by kernel_rfl) trivial fun a hE => ?_
  refine WR.done rfl ?_
  refine Runs.condF hE rfl ?_
  refine Runs.skip ?_
  refine Runs.seq ?_
  refine Runs.region ?_
  refine WR.seg hE 2 [] [7, 8] (Lo := [(7, .pointer (some ⟨p_a_, 0, none⟩)), (8, .int .i64 i)]) (obs := []) rfl (by kernel_rfl) trivial fun a hE => ?_
  obtain ⟨t_, et_, hm⟩ := bind_some hm
  refine WR.eff hE rfl rfl rfl rfl (OpTo.fn hE rfl rfl Tryz.call45 (arena_Arena_Cell_ok et_ H)) ?_
  rintro _ w ⟨rfl, H⟩ a hE
  refine WR.seg hE 4 [] [4] (Lo := [(4, .int .i64 t_.1)]) (obs := []) rfl (by kernel_rfl) trivial fun a hE => ?_
  refine WR.done rfl ?_
  refine Runs.ret hE Tryz.func33 rfl rfl ?_
  cases hm
  exact ⟨rfl, H⟩

theorem trees_Rise_ok {w0 w : World} {As : List HP} {k : Nat} {p_a_ : Nat} {al_a_ : arena_Arena.A} {a_ : arena_Arena} {i : Int} {any : Bool} {t : Int × arena_Arena}  (hm : trees_Rise k a_ i any = some t) (H : St w0 (arena_Arena.R p_a_ al_a_ a_ :: As) w) :
    CallsR Tryz.prog 53 #[.pointer (some ⟨p_a_, 0, none⟩), .int .i64 i, .bool any] w fun v w' => v = .int .i64 t.1 ∧ St w0 (arena_Arena.R p_a_ al_a_ t.2 :: As) w' := by
  rw [trees_Rise] at hm
  refine enter (args := [.pointer (some ⟨p_a_, 0, none⟩), .int .i64 i, .bool any]) Tryz.func53 rfl rfl rfl fun a hE => ?_
  refine Runs.seq ?_
  refine Runs.region ?_
  refine WR.seg hE 1 [] [0, 1, 2] (Lo := [(0, .pointer (some ⟨p_a_, 0, none⟩)), (1, .int .i64 i), (2, .bool any)]) (obs := []) rfl (by kernel_rfl) trivial fun a hE => ?_
  refine WR.done rfl ?_
  refine Runs.seq ?_
  refine Runs.region ?_
  refine WR.seg hE 2 [] [0, 2, 10, 11] (Lo := [(0, .pointer (some ⟨p_a_, 0, none⟩)), (2, .bool any), (10, .pointer (some ⟨p_a_, 0, none⟩)), (11, .int .i64 i)]) (obs := []) rfl (by kernel_rfl) trivial fun a hE => ?_
  obtain ⟨t_, et_, hm⟩ := bind_some hm
  refine WR.eff hE rfl rfl rfl rfl (OpTo.fn hE rfl rfl Tryz.call33 (item_Node_ok et_ H)) ?_
  rintro _ w ⟨rfl, H⟩ a hE
  refine WR.seg hE 4 [] [0, 2, 7] (Lo := [(0, .pointer (some ⟨p_a_, 0, none⟩)), (2, .bool any), (7, .int .i64 t_.1)]) (obs := []) rfl (by kernel_rfl) trivial fun a hE => ?_
  refine WR.done rfl ?_
  refine Runs.seq ?_
  refine Runs.seq ?_
  refine Runs.region ?_
  refine WR.seg hE 1 [] [0, 2, 7, 8] (Lo := [(0, .pointer (some ⟨p_a_, 0, none⟩)), (2, .bool any), (7, .int .i64 t_.1), (8, .int .i64 0)]) (obs := []) rfl (by kernel_rfl) trivial fun a hE => ?_
  refine WR.done rfl ?_
  obtain ⟨s, es, hm⟩ := bind_some hm
  refine Runs.join (fun a w => EnvOk 45 a [(7, .int .i64 s.1)] ∧ St w0 (arena_Arena.R p_a_ al_a_ s.2 :: As) w) (fun hk => ?_) ?_
  · replace hm := es; clear es
    refine Runs.block ?_
    refine Runs.loop (fun m a w => ∃ (n : Int), ∃ (k_ : Int), ∃ (m_ : arena_Arena), EnvOk 45 a [(0, .pointer (some ⟨p_a_, 0, none⟩)), (2, .bool any), (7, .int .i64 n), (8, .int .i64 k_)] ∧ St w0 (arena_Arena.R p_a_ al_a_ m_ :: As) w ∧ trees_Rise_l0 any m n k_ m_ = some s) k ⟨t_.1, 0, t_.2, hE.sel [0, 2, 7, 8] (by kernel_rfl), H, hm⟩ ?_
    rintro m ih a w ⟨n, k_, m_, hE, H, hm⟩
    cases m with
    | zero => simp [trees_Rise_l0] at hm
    | succ m =>
      rw [trees_Rise_l0] at hm
      refine Runs.seq ?_
      refine Runs.seq ?_
      obtain ⟨s1, es1, hm⟩ := bind_some hm
      refine Runs.join (fun a w => EnvOk 45 a [(0, .pointer (some ⟨p_a_, 0, none⟩)), (2, .bool any), (7, .int .i64 n), (8, .int .i64 k_), (20, .bool s1)] ∧ St w0 (arena_Arena.R p_a_ al_a_ m_ :: As) w) (fun hk => ?_) ?_
      · replace hm := es1; clear es1
        refine Runs.region ?_
        refine WR.seg hE 3 [] [0, 2, 7, 8, 15] (Lo := [(0, .pointer (some ⟨p_a_, 0, none⟩)), (2, .bool any), (7, .int .i64 n), (8, .int .i64 k_), (15, .bool (n != (-1)))]) (obs := []) rfl (by kernel_rfl) trivial fun a hE => ?_
        rcases Bool.eq_false_or_eq_true (n != (-1)) with c | c
        · replace hE := hE.dec 15 c (by kernel_rfl)
          replace hm := cond_t c hm
          have c_ := c
          refine WR.seg hE 5 [] [0, 2, 7, 8, 15, 16, 17] (Lo := [(0, .pointer (some ⟨p_a_, 0, none⟩)), (2, .bool any), (7, .int .i64 n), (8, .int .i64 k_), (15, .bool true), (16, .int .i64 k_), (17, .pointer (some ⟨p_a_, 0, none⟩))]) (obs := []) rfl (by kernel_rfl) trivial fun a hE => ?_
          obtain ⟨t_1, et_1, hm⟩ := bind_some hm
          refine WR.eff hE rfl rfl rfl rfl (OpTo.fn hE rfl rfl Tryz.call17 (arena_Arena_Cells_ok et_1 H)) ?_
          rintro _ w ⟨rfl, H⟩ a hE
          refine WR.seg hE 8 [] [0, 2, 7, 8, 20] (Lo := [(0, .pointer (some ⟨p_a_, 0, none⟩)), (2, .bool any), (7, .int .i64 n), (8, .int .i64 k_), (20, .bool (decide (k_ ≤ t_1)))]) (obs := []) rfl (by kernel_rfl) trivial fun a hE => ?_
          refine WR.done rfl ?_
          cases hm
          exact hk _ _ ⟨hE.sel [0, 2, 7, 8, 20] (by kernel_rfl), H⟩
        · replace hE := hE.dec 15 c (by kernel_rfl)
          replace hm := cond_f c hm
          have c_1 := c
          refine WR.seg hE 8 [] [0, 2, 7, 8, 20] (Lo := [(0, .pointer (some ⟨p_a_, 0, none⟩)), (2, .bool any), (7, .int .i64 n), (8, .int .i64 k_), (20, .bool false)]) (obs := []) rfl (by kernel_rfl) trivial fun a hE => ?_
          refine WR.done rfl ?_
          cases hm
          exact hk _ _ ⟨hE.sel [0, 2, 7, 8, 20] (by kernel_rfl), H⟩
      rintro a w ⟨hE, H⟩
      refine Runs.cond hE rfl (fun c => ?_) (fun c => ?_)
      · replace hm := cond_t c hm
        refine Runs.skip ?_
        refine Runs.seq ?_
        refine Runs.block ?_
        refine Runs.seq ?_
        refine Runs.region ?_
        refine WR.seg hE 2 [] [0, 2, 7, 8, 23, 24] (Lo := [(0, .pointer (some ⟨p_a_, 0, none⟩)), (2, .bool any), (7, .int .i64 n), (8, .int .i64 k_), (23, .pointer (some ⟨p_a_, 0, none⟩)), (24, .int .i64 n)]) (obs := []) rfl (by kernel_rfl) trivial fun a hE => ?_
        obtain ⟨t_2, et_2, hm⟩ := bind_some hm
        refine WR.eff hE rfl rfl rfl rfl (OpTo.fn hE rfl rfl Tryz.call45 (arena_Arena_Cell_ok et_2 H)) ?_
        rintro _ w ⟨rfl, H⟩ a hE
        refine WR.seg hE 4 [] [0, 2, 7, 8, 9] (Lo := [(0, .pointer (some ⟨p_a_, 0, none⟩)), (2, .bool any), (7, .int .i64 n), (8, .int .i64 k_), (9, .int .i64 t_2.1)]) (obs := []) rfl (by kernel_rfl) trivial fun a hE => ?_
        refine WR.done rfl ?_
        refine Runs.seq ?_
        refine Runs.seq ?_
        obtain ⟨s2, es2, hm⟩ := bind_some hm
        refine Runs.join (fun a w => EnvOk 45 a [(0, .pointer (some ⟨p_a_, 0, none⟩)), (2, .bool any), (7, .int .i64 n), (8, .int .i64 k_), (9, .int .i64 t_2.1), (38, .bool s2.1)] ∧ St w0 (arena_Arena.R p_a_ al_a_ s2.2 :: As) w) (fun hk => ?_) ?_
        · replace hm := es2; clear es2
          refine Runs.region ?_
          refine WR.seg hE 3 [] [0, 2, 7, 8, 9, 28] (Lo := [(0, .pointer (some ⟨p_a_, 0, none⟩)), (2, .bool any), (7, .int .i64 n), (8, .int .i64 k_), (9, .int .i64 t_2.1), (28, .bool (t_2.1 == (-1)))]) (obs := []) rfl (by kernel_rfl) trivial fun a hE => ?_
          rcases Bool.eq_false_or_eq_true (t_2.1 == (-1)) with c | c
          · replace hE := hE.dec 28 c (by kernel_rfl)
            replace hm := cond_t c hm
            have c_2 := c
            refine WR.seg hE 13 [] [0, 2, 7, 8, 9, 38] (Lo := [(0, .pointer (some ⟨p_a_, 0, none⟩)), (2, .bool any), (7, .int .i64 n), (8, .int .i64 k_), (9, .int .i64 t_2.1), (38, .bool true)]) (obs := []) rfl (by kernel_rfl) trivial fun a hE => ?_
            refine WR.done rfl ?_
            cases hm
            exact hk _ _ ⟨hE.sel [0, 2, 7, 8, 9, 38] (by kernel_rfl), H⟩
          · replace hE := hE.dec 28 c (by kernel_rfl)
            replace hm := cond_f c hm
            have c_3 := c
            refine WR.seg hE 6 [] [0, 2, 7, 8, 9, 28, 31] (Lo := [(0, .pointer (some ⟨p_a_, 0, none⟩)), (2, .bool any), (7, .int .i64 n), (8, .int .i64 k_), (9, .int .i64 t_2.1), (28, .bool false), (31, .bool (!any))]) (obs := []) rfl (by kernel_rfl) trivial fun a hE => ?_
            rcases Bool.eq_false_or_eq_true (!any) with c | c
            · replace hE := hE.dec 31 c (by kernel_rfl)
              replace hm := cond_t c hm
              have c_4 := c
              refine WR.seg hE 9 [] [0, 2, 7, 8, 9, 28, 31, 32, 33, 34] (Lo := [(0, .pointer (some ⟨p_a_, 0, none⟩)), (2, .bool any), (7, .int .i64 n), (8, .int .i64 k_), (9, .int .i64 t_2.1), (28, .bool false), (31, .bool true), (32, .pointer (some ⟨p_a_, 0, none⟩)), (33, .int .i64 n), (34, .int .i64 t_2.1)]) (obs := []) rfl (by kernel_rfl) trivial fun a hE => ?_
              obtain ⟨t_3, et_3, hm⟩ := bind_some hm
              refine WR.eff hE rfl rfl rfl rfl (OpTo.fn hE rfl rfl Tryz.call62 (node_Before_ok et_3 H)) ?_
              rintro _ w ⟨rfl, H⟩ a hE
              refine WR.seg hE 13 [] [0, 2, 7, 8, 9, 38] (Lo := [(0, .pointer (some ⟨p_a_, 0, none⟩)), (2, .bool any), (7, .int .i64 n), (8, .int .i64 k_), (9, .int .i64 t_2.1), (38, .bool (!t_3.1))]) (obs := []) rfl (by kernel_rfl) trivial fun a hE => ?_
              refine WR.done rfl ?_
              cases hm
              exact hk _ _ ⟨hE.sel [0, 2, 7, 8, 9, 38] (by kernel_rfl), H⟩
            · replace hE := hE.dec 31 c (by kernel_rfl)
              replace hm := cond_f c hm
              have c_5 := c
              refine WR.seg hE 13 [] [0, 2, 7, 8, 9, 38] (Lo := [(0, .pointer (some ⟨p_a_, 0, none⟩)), (2, .bool any), (7, .int .i64 n), (8, .int .i64 k_), (9, .int .i64 t_2.1), (38, .bool false)]) (obs := []) rfl (by kernel_rfl) trivial fun a hE => ?_
              refine WR.done rfl ?_
              cases hm
              exact hk _ _ ⟨hE.sel [0, 2, 7, 8, 9, 38] (by kernel_rfl), H⟩
        rintro a w ⟨hE, H⟩
        refine Runs.cond hE rfl (fun c => ?_) (fun c => ?_)
        · replace hm := cond_t c hm
          refine Runs.exit rfl ?_
          cases hm
          exact hk _ _ ⟨hE.sel [7] (by kernel_rfl), H⟩
        · replace hm := cond_f c hm
          refine Runs.skip ?_
          refine Runs.seq ?_
          refine Runs.region ?_
          refine WR.seg hE 3 [] [0, 2, 8, 9, 39, 40, 41] (Lo := [(0, .pointer (some ⟨p_a_, 0, none⟩)), (2, .bool any), (8, .int .i64 k_), (9, .int .i64 t_2.1), (39, .pointer (some ⟨p_a_, 0, none⟩)), (40, .int .i64 n), (41, .int .i64 t_2.1)]) (obs := []) rfl (by kernel_rfl) trivial fun a hE => ?_
          obtain ⟨t_4, et_4, hm⟩ := bind_some hm
          refine WR.eff hE rfl rfl rfl rfl (OpTo.fn hE rfl rfl Tryz.call63 (item_Swap_ok et_4 H)) ?_
          rintro _ w ⟨rfl, H⟩ a hE
          refine WR.done rfl ?_
          refine Runs.region ?_
          refine WR.seg hE 2 [] [0, 2, 7, 8] (Lo := [(0, .pointer (some ⟨p_a_, 0, none⟩)), (2, .bool any), (7, .int .i64 t_2.1), (8, .int .i64 k_)]) (obs := []) rfl (by kernel_rfl) trivial fun a hE => ?_
          refine WR.done rfl ?_
          refine Runs.inBlock ?_
          refine Runs.region ?_
          refine WR.seg hE 3 [] [0, 2, 7, 8] (Lo := [(0, .pointer (some ⟨p_a_, 0, none⟩)), (2, .bool any), (7, .int .i64 t_2.1), (8, .int .i64 (w64 (k_ + 1)))]) (obs := []) rfl (by kernel_rfl) trivial fun a hE => ?_
          refine WR.done rfl ?_
          exact ih m (Nat.lt_succ_self m) _ _ ⟨t_2.1, w64 (k_ + 1), t_4, hE.sel [0, 2, 7, 8] (by kernel_rfl), H, hm⟩
      · replace hm := cond_f c hm
        refine Runs.exit rfl ?_
        cases hm
        exact hk _ _ ⟨hE.sel [7] (by kernel_rfl), H⟩
  rintro a w ⟨hE, H⟩
  refine Runs.seq ?_
  refine Runs.region ?_
  refine WR.seg hE 2 [] [6] (Lo := [(6, .int .i64 s.1)]) (obs := []) rfl (by kernel_rfl) trivial fun a hE => ?_
  refine WR.done rfl ?_
  refine Runs.ret hE Tryz.func53 rfl rfl ?_
  cases hm
  exact ⟨rfl, H⟩

theorem skew_Fall_ok {w0 w : World} {As : List HP} {k : Nat} {p_a_ : Nat} {al_a_ : arena_Arena.A} {a_ : arena_Arena} {r : Int} {i : Int} {t : Int × arena_Arena}  (hm : skew_Fall k a_ r i = some t) (H : St w0 (arena_Arena.R p_a_ al_a_ a_ :: As) w) :
    CallsR Tryz.prog 30 #[.pointer (some ⟨p_a_, 0, none⟩), .int .i64 r, .int .i64 i] w fun v w' => v = .int .i64 t.1 ∧ St w0 (arena_Arena.R p_a_ al_a_ t.2 :: As) w' := by
  rw [skew_Fall] at hm
  refine enter (args := [.pointer (some ⟨p_a_, 0, none⟩), .int .i64 r, .int .i64 i]) Tryz.func30 rfl rfl rfl fun a hE => ?_
  refine Runs.seq ?_
  refine Runs.region ?_
  refine WR.seg hE 1 [] [0, 1, 2] (Lo := [(0, .pointer (some ⟨p_a_, 0, none⟩)), (1, .int .i64 r), (2, .int .i64 i)]) (obs := []) rfl (by kernel_rfl) trivial fun a hE => ?_
  refine WR.done rfl ?_
  refine Runs.seq ?_
  refine Runs.seq ?_
  refine Runs.region ?_
  refine WR.seg hE 2 [] [0, 1, 2, 8] (Lo := [(0, .pointer (some ⟨p_a_, 0, none⟩)), (1, .int .i64 r), (2, .int .i64 i), (8, .bool false)]) (obs := []) rfl (by kernel_rfl) trivial fun a hE => ?_
  refine WR.done rfl ?_
  refine Runs.condF hE rfl ?_
  refine Runs.skip ?_
  refine Runs.seq ?_
  refine Runs.region ?_
  refine WR.seg hE 2 [] [1, 9, 10] (Lo := [(1, .int .i64 r), (9, .pointer (some ⟨p_a_, 0, none⟩)), (10, .int .i64 i)]) (obs := []) rfl (by kernel_rfl) trivial fun a hE => ?_
  obtain ⟨t_, et_, hm⟩ := bind_some hm
  refine WR.eff hE rfl rfl rfl rfl (OpTo.fn hE rfl rfl Tryz.call53 (trees_Rise_ok et_ H)) ?_
  rintro _ w ⟨rfl, H⟩ a hE
  refine WR.done rfl ?_
  refine Runs.seq ?_
  refine Runs.region ?_
  refine WR.seg hE 2 [] [6] (Lo := [(6, .int .i64 r)]) (obs := []) rfl (by kernel_rfl) trivial fun a hE => ?_
  refine WR.done rfl ?_
  refine Runs.ret hE Tryz.func30 rfl rfl ?_
  cases hm
  exact ⟨rfl, H⟩

theorem thicketlaw11_without_ok {w0 w : World} {As : List HP} {sb_l : Option Addr} {sc_l : Nat} {l : List thicketlaw11_held} {X_l : HP} {k_ : Int} {t : (List thicketlaw11_held)} (hX_l : SlRd X_l thicketlaw11_held.enc 3 sb_l l) (hC_l : l.length ≤ sc_l) (hm : thicketlaw11_without l k_ = some t) (H : St w0 (X_l :: As) w) :
    CallsR Tryz.prog 31 #[.slice sb_l l.length sc_l, .int .i64 k_] w fun v w' => ∃ (sb0 : Option Addr), ∃ (sc0 : Nat), v = .slice sb0 t.length sc0 ∧ St w0 (Sl 48 thicketlaw11_held.enc 3 sb0 sc0 t :: X_l :: As) w' := by
  rw [thicketlaw11_without] at hm
  refine enter (args := [.slice sb_l l.length sc_l, .int .i64 k_]) Tryz.func31 rfl rfl rfl fun a hE => ?_
  refine Runs.seq ?_
  refine Runs.region ?_
  refine WR.seg hE 1 [] [0, 1] (Lo := [(0, .slice sb_l l.length sc_l), (1, .int .i64 k_)]) (obs := []) rfl (by kernel_rfl) trivial fun a hE => ?_
  refine WR.done rfl ?_
  refine Runs.seq ?_
  refine Runs.drawn mixed (by kernel_rfl) ?_
  replace H := H.drew
  obtain ⟨l1, el1, hm⟩ := bind_some hm
  obtain ⟨sb, q⟩ : ∃ z, rebase sb_l sc_l (Int.toNat 0) 3 = z := ⟨_, rfl⟩
  obtain ⟨sc, q1⟩ : ∃ z, sc_l - (Int.toNat 0) = z := ⟨_, rfl⟩
  obtain ⟨l2, el2, hm⟩ := bind_some hm
  obtain ⟨sb1, q2⟩ : ∃ z, rebase sb_l sc_l (Int.toNat (w64 (k_ + 1))) 3 = z := ⟨_, rfl⟩
  obtain ⟨sc1, q3⟩ : ∃ z, sc_l - (Int.toNat (w64 (k_ + 1))) = z := ⟨_, rfl⟩
  refine WQ.seg hE [1, 2, 3, 5, 6, 7, 8] [.slice sb l1.length sc, .slice sb1 l2.length sc1] [8, 13] (Lo := [(8, .slice sb l1.length sc), (13, .slice sb1 l2.length sc1)]) (obs := [.p (rebase sb_l sc_l 0 3 = sb), .p ((Int.toNat k_) - 0 = l1.length), .p (sc_l - 0 = sc), .p (0 ≤ (k_ : Int) ∧ (k_ : Int) ≤ ((sc_l : Nat) : Int)), .p (rebase sb_l sc_l (Int.toNat (w64 (k_ + 1))) 3 = sb1), .p (l.length - (Int.toNat (w64 (k_ + 1))) = l2.length), .p (sc_l - (Int.toNat (w64 (k_ + 1))) = sc1), .p (0 ≤ ((w64 (k_ + 1)) : Int) ∧ ((w64 (k_ + 1)) : Int) ≤ ((l.length : Nat) : Int))]) (by kernel_rfl) (by kernel_rfl) ⟨q, cut_len el1, q1, cut_cap el1 hC_l, q2, cut_len el2, q3, cut_bd0 el2, trivial⟩ fun a hE => ?_
  refine WQ.eff (j := 0) (obs := [.p (rebase sb_l sc_l (Int.toNat (w64 (k_ + 1))) 3 = sb1), .p (l.length - (Int.toNat (w64 (k_ + 1))) = l2.length), .p (sc_l - (Int.toNat (w64 (k_ + 1))) = sc1), .p (0 ≤ ((w64 (k_ + 1)) : Int) ∧ ((w64 (k_ + 1)) : Int) ≤ ((l.length : Nat) : Int)), .p (rebase sb_l sc_l 0 3 = sb), .p ((Int.toNat k_) - 0 = l1.length), .p (sc_l - 0 = sc), .p (0 ≤ (k_ : Int) ∧ (k_ : Int) ≤ ((sc_l : Nat) : Int))]) hE (by kernel_rfl) rfl rfl rfl rfl (by kernel_rfl) (OpTo.buildSl (T := 48) hE H thicketlaw11_held.enc_ok ([] : List thicketlaw11_held) rfl (fun _ => by kernel_rfl) rfl rfl rfl) ?_
  rintro _ w ⟨r, rfl, H⟩
  refine ⟨⟨q2, cut_len el2, q3, cut_bd0 el2, q, cut_len el1, q1, cut_cap el1 hC_l, trivial⟩, fun a hE => ?_⟩
  obtain ⟨l3, el3, hm⟩ := bind_some hm
  refine WQ.eff (j := 4) (obs := [.p (rebase sb_l sc_l (Int.toNat (w64 (k_ + 1))) 3 = sb1), .p (l.length - (Int.toNat (w64 (k_ + 1))) = l2.length), .p (sc_l - (Int.toNat (w64 (k_ + 1))) = sc1), .p (0 ≤ ((w64 (k_ + 1)) : Int) ∧ ((w64 (k_ + 1)) : Int) ≤ ((l.length : Nat) : Int))]) hE (by kernel_rfl) rfl rfl rfl rfl (by kernel_rfl) (OpTo.appendM el3 hE H thicketlaw11_held.enc_ok rfl rfl rfl rfl rfl rfl rfl rfl rfl rfl (SlRd.all (hX_l.cut' thicketlaw11_held.enc_ok el1 (hC_l) q) thicketlaw11_held.enc_ok H 1 rfl) rfl) ?_
  rintro _ w ⟨sb2, sc2, rfl, H⟩
  refine ⟨⟨q2, cut_len el2, q3, cut_bd0 el2, trivial⟩, fun a hE => ?_⟩
  obtain ⟨l4, el4, hm⟩ := bind_some hm
  refine WQ.eff (j := 9) (obs := []) hE (by kernel_rfl) rfl rfl rfl rfl (by kernel_rfl) (OpTo.appendM el4 hE H thicketlaw11_held.enc_ok rfl rfl rfl rfl rfl rfl rfl rfl rfl rfl (SlRd.all (hX_l.cut' thicketlaw11_held.enc_ok el2 (hC_l) q2) thicketlaw11_held.enc_ok H 1 rfl) rfl) ?_
  rintro _ w ⟨sb3, sc3, rfl, H⟩
  refine ⟨trivial, fun a hE => ?_⟩
  refine WQ.seg hE [10] [] [4] (Lo := [(4, .slice sb3 l4.length sc3)]) (obs := []) (by kernel_rfl) (by kernel_rfl) trivial fun a hE => ?_
  refine WQ.done (by kernel_rfl) ?_
  refine Runs.ret hE Tryz.func31 rfl rfl ?_
  cases hm
  exact ⟨sb3, sc3, rfl, H.t1.t1⟩

theorem thicketlaw11_world_fall_at0_ok {w0 w : World} {As : List HP} {k : Nat} {p_w_ : Nat} {al_w_ : thicketlaw11_world.A} {w_ : thicketlaw11_world} {at_ : Int} {by_ : Int} {t : Bool × thicketlaw11_world}  (hm : thicketlaw11_world_fall_at0 k w_ at_ by_ = some t) (H : St w0 (thicketlaw11_world.R p_w_ al_w_ w_ :: As) w) :
    CallsR Tryz.prog 7 #[.pointer (some ⟨p_w_, 0, none⟩), .int .i64 0, .int .i64 at_, .int .i64 by_] w fun v w' => ∃ (z_w__has0_b : Option Addr), ∃ (z_w__has0_c : Nat), v = .bool t.1 ∧ St w0 (thicketlaw11_world.R p_w_ (thicketlaw11_world.A.mk al_w_.a__p al_w_.a__a z_w__has0_b z_w__has0_c al_w_.has1_b al_w_.has1_c) t.2 :: As) w' := by
  rw [thicketlaw11_world_fall_at0] at hm
  refine enter (args := [.pointer (some ⟨p_w_, 0, none⟩), .int .i64 0, .int .i64 at_, .int .i64 by_]) Tryz.func7 rfl rfl rfl fun a hE => ?_
  refine Runs.seq ?_
  refine Runs.region ?_
  refine WR.seg hE 1 [] [0, 1, 2, 3] (Lo := [(0, .pointer (some ⟨p_w_, 0, none⟩)), (1, .int .i64 0), (2, .int .i64 at_), (3, .int .i64 by_)]) (obs := []) rfl (by kernel_rfl) trivial fun a hE => ?_
  refine WR.done rfl ?_
  refine Runs.seq ?_
  refine Runs.seq ?_
  refine Runs.region ?_
  replace H := thicketlaw11_world.open H
  refine WR.seg hE 8 [.slice al_w_.has0_b w_.has0.length al_w_.has0_c] [0, 1, 2, 3, 20] (Lo := [(0, .pointer (some ⟨p_w_, 0, none⟩)), (1, .int .i64 0), (2, .int .i64 at_), (3, .int .i64 by_), (20, .bool ((w_.has0.length : Int) == 0))]) (obs := [.p (0 ≤ (0 : Int) ∧ (0 : Int) < ((2 : Nat) : Int)), .cell ⟨p_w_, 3, none⟩ (.slice al_w_.has0_b w_.has0.length al_w_.has0_c)]) rfl (by kernel_rfl) ⟨⟨by decide, by decide⟩, H.cell 0 rfl rfl, trivial⟩ fun a hE => ?_
  refine WR.done rfl ?_
  refine Runs.cond hE rfl (fun c => ?_) (fun c => ?_)
  · replace hm := cond_t c hm
    refine Runs.seq ?_
    refine Runs.region ?_
    refine WR.seg hE 1 [] [8] (Lo := [(8, .bool true)]) (obs := []) rfl (by kernel_rfl) trivial fun a hE => ?_
    refine WR.done rfl ?_
    replace H := thicketlaw11_world.shut al_w_ (w_) H.t3.t3.t3.t3
    refine Runs.ret hE Tryz.func7 rfl rfl ?_
    cases hm
    exact ⟨al_w_.has0_b, al_w_.has0_c, rfl, H⟩
  · replace hm := cond_f c hm
    refine Runs.skip ?_
    refine Runs.seq ?_
    refine Runs.region ?_
    refine WR.seg hE 9 [.slice al_w_.has0_b w_.has0.length al_w_.has0_c] [0, 1, 3, 21, 29] (Lo := [(0, .pointer (some ⟨p_w_, 0, none⟩)), (1, .int .i64 0), (3, .int .i64 by_), (21, .int .i64 at_), (29, .int .i64 (w64 ((w_.has0.length : Int) - 1)))]) (obs := [.p (0 ≤ (0 : Int) ∧ (0 : Int) < ((2 : Nat) : Int)), .cell ⟨p_w_, 3, none⟩ (.slice al_w_.has0_b w_.has0.length al_w_.has0_c)]) rfl (by kernel_rfl) ⟨⟨by decide, by decide⟩, H.cell 0 rfl rfl, trivial⟩ fun a hE => ?_
    obtain ⟨t_, et_, hm⟩ := bind_some hm
    refine WR.eff hE rfl rfl rfl rfl (OpTo.fn hE rfl rfl Tryz.call28 (thicketbook_Within_ok et_ H)) ?_
    rintro _ w ⟨rfl, H⟩ a hE
    refine WR.seg hE 11 [] [0, 1, 3, 9] (Lo := [(0, .pointer (some ⟨p_w_, 0, none⟩)), (1, .int .i64 0), (3, .int .i64 by_), (9, .int .i64 t_)]) (obs := []) rfl (by kernel_rfl) trivial fun a hE => ?_
    refine WR.done rfl ?_
    refine Runs.seq ?_
    refine Runs.region ?_
    obtain ⟨x, ex, hm⟩ := bind_some hm
    obtain ⟨b, o, hs, hb⟩ := SlRd.base (sl_rd 48 thicketlaw11_held.enc 3 _ _ _) thicketlaw11_held.enc_ok H 2 rfl ex
    refine WR.seg hE 9 [.slice al_w_.has0_b w_.has0.length al_w_.has0_c, .pointer (some ⟨b, o, none⟩), .int .i64 x.cell, .int .i64 x.e.Key, .int .i64 x.e.Serial] [0, 1, 3, 9, 39] (Lo := [(0, .pointer (some ⟨p_w_, 0, none⟩)), (1, .int .i64 0), (3, .int .i64 by_), (9, .int .i64 t_), (39, .agg #[.int .i64 x.cell, .int .i64 x.e.Key, .int .i64 x.e.Serial])]) (obs := [.p (0 ≤ (0 : Int) ∧ (0 : Int) < ((2 : Nat) : Int)), .cell ⟨p_w_, 3, none⟩ (.slice al_w_.has0_b w_.has0.length al_w_.has0_c), .p ((al_w_.has0_b : Option Addr) = some ⟨b, o, none⟩), .p (0 ≤ (t_ : Int) ∧ (t_ : Int) < ((w_.has0.length : Nat) : Int)), .cell ⟨b, o + (Int.toNat t_) * 3, none⟩ (.int .i64 x.cell), .cell ⟨b, o + (Int.toNat t_) * 3 + 1, none⟩ (.int .i64 x.e.Key), .cell ⟨b, o + (Int.toNat t_) * 3 + 2, none⟩ (.int .i64 x.e.Serial)]) rfl (by kernel_rfl) ⟨⟨by decide, by decide⟩, H.cell 0 rfl rfl, hs, hb, SlRd.cells (sl_rd 48 thicketlaw11_held.enc 3 _ _ _) thicketlaw11_held.enc_ok H 2 rfl hs ex 0 _ rfl, SlRd.cells (sl_rd 48 thicketlaw11_held.enc 3 _ _ _) thicketlaw11_held.enc_ok H 2 rfl hs ex 1 _ rfl, SlRd.cells (sl_rd 48 thicketlaw11_held.enc 3 _ _ _) thicketlaw11_held.enc_ok H 2 rfl hs ex 2 _ rfl, trivial⟩ fun a hE => ?_
    refine WR.eff hE rfl rfl rfl rfl (OpTo.new hE H [] (.cells #[.int .i64 0, .int .i64 0, .int .i64 0] 48 (0, 0)) (fun r => .pointer (some ⟨r, 0, none⟩)) (obs := []) rfl (fun _ => by kernel_rfl) trivial) ?_
    rintro _ w ⟨r, rfl, H⟩ a hE
    refine WR.eff0 hE rfl rfl rfl (OpTo.store hE H rfl rfl rfl rfl rfl rfl (Nat.le_of_ble_eq_true rfl)) ?_
    rintro _ w H a hE
    refine WR.done rfl ?_
    refine Runs.seq ?_
    refine Runs.region ?_
    refine WR.seg hE 7 [.int .i64 x.e.Key] [0, 1, 9, 10, 44, 46] (Lo := [(0, .pointer (some ⟨p_w_, 0, none⟩)), (1, .int .i64 0), (9, .int .i64 t_), (10, .pointer (some ⟨r, 0, none⟩)), (44, .int .i64 (if by_ < x.e.Key then by_ else x.e.Key)), (46, .pointer (some ⟨r, 1, none⟩))]) (obs := [.cell ⟨r, 1, none⟩ (.int .i64 x.e.Key)]) rfl (by kernel_rfl) ⟨H.cell 0 rfl rfl, trivial⟩ fun a hE => ?_
    refine WR.eff0 hE rfl rfl rfl (OpTo.store hE H rfl rfl rfl rfl rfl rfl (Nat.le_of_ble_eq_true rfl)) ?_
    rintro _ w H a hE
    refine WR.done rfl ?_
    refine Runs.seq ?_
    refine Runs.seq ?_
    refine Runs.drawn mixed (by kernel_rfl) ?_
    replace H := H.drew
    refine WQ.seg hE [0, 1, 2, 3, 4, 5, 6, 7, 8] [.pointer (some ⟨al_w_.a__p, 0, none⟩), .int .i64 x.cell, .int .i64 (if by_ < x.e.Key then by_ else x.e.Key)] [0, 1, 9, 10, 50, 52, 55] (Lo := [(0, .pointer (some ⟨p_w_, 0, none⟩)), (1, .int .i64 0), (9, .int .i64 t_), (10, .pointer (some ⟨r, 0, none⟩)), (50, .pointer (some ⟨al_w_.a__p, 0, none⟩)), (52, .int .i64 x.cell), (55, .int .i64 (if by_ < x.e.Key then by_ else x.e.Key))]) (obs := [.cell ⟨p_w_, 0, none⟩ (.pointer (some ⟨al_w_.a__p, 0, none⟩)), .cell ⟨r, 0, none⟩ (.int .i64 x.cell), .cell ⟨r, 1, none⟩ (.int .i64 (if by_ < x.e.Key then by_ else x.e.Key))]) (by kernel_rfl) (by kernel_rfl) ⟨H.cell 1 rfl rfl, H.cell 0 rfl rfl, H.cell 0 rfl rfl, trivial⟩ fun a hE => ?_
    obtain ⟨t_1, et_1, hm⟩ := bind_some hm
    refine WQ.eff (j := 9) (obs := []) hE (by kernel_rfl) rfl rfl rfl rfl (by kernel_rfl) (OpTo.fn hE rfl rfl Tryz.call29 (item_Lower_ok et_1 H.t2)) ?_
    rintro _ w ⟨rfl, H⟩
    refine ⟨trivial, fun a hE => ?_⟩
    refine WQ.seg hE [10] [] [0, 1, 9, 10, 57] (Lo := [(0, .pointer (some ⟨p_w_, 0, none⟩)), (1, .int .i64 0), (9, .int .i64 t_), (10, .pointer (some ⟨r, 0, none⟩)), (57, .bool (!t_1.1))]) (obs := []) (by kernel_rfl) (by kernel_rfl) trivial fun a hE => ?_
    refine WQ.done (by kernel_rfl) ?_
    refine Runs.cond hE rfl (fun c => ?_) (fun c => ?_)
    · replace hm := cond_t c hm
      refine Runs.seq ?_
      refine Runs.region ?_
      refine WR.seg hE 1 [] [8] (Lo := [(8, .bool false)]) (obs := []) rfl (by kernel_rfl) trivial fun a hE => ?_
      refine WR.done rfl ?_
      replace H := thicketlaw11_world.shut al_w_ (thicketlaw11_world.mk t_1.2 w_.root0 w_.root1 w_.has0 w_.has1 w_.next w_.spent w_.most) H.t4.t4.t2.t4
      refine Runs.ret hE Tryz.func7 rfl rfl ?_
      cases hm
      exact ⟨al_w_.has0_b, al_w_.has0_c, rfl, H.x1⟩
    · replace hm := cond_f c hm
      refine Runs.skip ?_
      refine Runs.seq ?_
      refine Runs.region ?_
      refine WR.seg hE 4 [.pointer (some ⟨al_w_.a__p, 0, none⟩)] [0, 1, 9, 10, 61] (Lo := [(0, .pointer (some ⟨p_w_, 0, none⟩)), (1, .int .i64 0), (9, .int .i64 t_), (10, .pointer (some ⟨r, 0, none⟩)), (61, .pointer (some ⟨al_w_.a__p, 0, none⟩))]) (obs := [.cell ⟨p_w_, 0, none⟩ (.pointer (some ⟨al_w_.a__p, 0, none⟩))]) rfl (by kernel_rfl) ⟨H.cell 2 rfl rfl, trivial⟩ fun a hE => ?_
      obtain ⟨t_2, et_2, hm⟩ := bind_some hm
      refine WR.eff hE rfl rfl rfl rfl (OpTo.fn hE rfl rfl Tryz.call15 (arena_Arena_Meter_ok et_2 H)) ?_
      rintro _ w ⟨rfl, H⟩ a hE
      replace H := arena_Arena.open H
      obtain ⟨t_3, et_3, hm⟩ := bind_some hm
      refine WR.eff hE rfl rfl rfl rfl (OpTo.fn hE rfl rfl Tryz.call18 (meter_Meter_Steps_ok et_3 H.t3)) ?_
      rintro _ w ⟨rfl, H⟩ a hE
      refine WR.seg hE 7 [] [0, 1, 9, 10, 11] (Lo := [(0, .pointer (some ⟨p_w_, 0, none⟩)), (1, .int .i64 0), (9, .int .i64 t_), (10, .pointer (some ⟨r, 0, none⟩)), (11, .int .i64 t_3)]) (obs := []) rfl (by kernel_rfl) trivial fun a hE => ?_
      refine WR.done rfl ?_
      refine Runs.seq ?_
      refine Runs.drawn mixed (by kernel_rfl) ?_
      replace H := H.drew
      refine WQ.seg hE [0, 1, 2, 3, 4, 5, 6, 7, 8, 9, 10, 11] [.pointer (some ⟨al_w_.a__p, 0, none⟩), .int .i64 w_.root0, .int .i64 x.cell] [0, 1, 9, 10, 11, 67, 73, 75] (Lo := [(0, .pointer (some ⟨p_w_, 0, none⟩)), (1, .int .i64 0), (9, .int .i64 t_), (10, .pointer (some ⟨r, 0, none⟩)), (11, .int .i64 t_3), (67, .pointer (some ⟨al_w_.a__p, 0, none⟩)), (73, .int .i64 w_.root0), (75, .int .i64 x.cell)]) (obs := [.cell ⟨p_w_, 0, none⟩ (.pointer (some ⟨al_w_.a__p, 0, none⟩)), .p (0 ≤ (0 : Int) ∧ (0 : Int) < ((2 : Nat) : Int)), .cell ⟨p_w_, 1, none⟩ (.int .i64 w_.root0), .cell ⟨r, 0, none⟩ (.int .i64 x.cell)]) (by kernel_rfl) (by kernel_rfl) ⟨H.cell 5 rfl rfl, ⟨by decide, by decide⟩, H.cell 5 rfl rfl, H.cell 4 rfl rfl, trivial⟩ fun a hE => ?_
      replace H := arena_Arena.shut al_w_.a__a (t_1.2) H.t3.t3.t3
      obtain ⟨t_4, et_4, hm⟩ := bind_some hm
      refine WQ.eff (j := 12) (obs := []) hE (by kernel_rfl) rfl rfl rfl rfl (by kernel_rfl) (OpTo.fn hE rfl rfl Tryz.call30 (skew_Fall_ok et_4 H)) ?_
      rintro _ w ⟨rfl, H⟩
      refine ⟨trivial, fun a hE => ?_⟩
      refine WQ.seg hE [13] [] [0, 1, 9, 10, 11, 12] (Lo := [(0, .pointer (some ⟨p_w_, 0, none⟩)), (1, .int .i64 0), (9, .int .i64 t_), (10, .pointer (some ⟨r, 0, none⟩)), (11, .int .i64 t_3), (12, .int .i64 t_4.1)]) (obs := []) (by kernel_rfl) (by kernel_rfl) trivial fun a hE => ?_
      refine WQ.done (by kernel_rfl) ?_
      refine Runs.seq ?_
      refine Runs.seq ?_
      refine Runs.region ?_
      refine WR.seg hE 9 [.slice al_w_.has0_b w_.has0.length al_w_.has0_c] [0, 1, 9, 10, 12, 77, 78, 85] (Lo := [(0, .pointer (some ⟨p_w_, 0, none⟩)), (1, .int .i64 0), (9, .int .i64 t_), (10, .pointer (some ⟨r, 0, none⟩)), (12, .int .i64 t_4.1), (77, .pointer (some ⟨p_w_, 0, none⟩)), (78, .int .i64 t_3), (85, .int .i64 (w_.has0.length : Int))]) (obs := [.p (0 ≤ (0 : Int) ∧ (0 : Int) < ((2 : Nat) : Int)), .cell ⟨p_w_, 3, none⟩ (.slice al_w_.has0_b w_.has0.length al_w_.has0_c)]) rfl (by kernel_rfl) ⟨⟨by decide, by decide⟩, H.cell 2 rfl rfl, trivial⟩ fun a hE => ?_
      replace H := thicketlaw11_world.shut al_w_ (thicketlaw11_world.mk t_4.2 w_.root0 w_.root1 w_.has0 w_.has1 w_.next w_.spent w_.most) H.t4.t4.t2.t4
      obtain ⟨t_5, et_5, hm⟩ := bind_some hm
      refine WR.eff hE rfl rfl rfl rfl (OpTo.fn hE rfl rfl Tryz.call20 (thicketlaw11_world_cost_ok et_5 H)) ?_
      rintro _ w ⟨rfl, hf, hf1, H⟩ a hE
      refine WR.seg hE 11 [] [0, 1, 9, 10, 12, 87] (Lo := [(0, .pointer (some ⟨p_w_, 0, none⟩)), (1, .int .i64 0), (9, .int .i64 t_), (10, .pointer (some ⟨r, 0, none⟩)), (12, .int .i64 t_4.1), (87, .bool (!t_5.1))]) (obs := []) rfl (by kernel_rfl) trivial fun a hE => ?_
      refine WR.done rfl ?_
      refine Runs.cond hE rfl (fun c => ?_) (fun c => ?_)
      · replace hm := cond_t c hm
        refine Runs.seq ?_
        refine Runs.region ?_
        refine WR.seg hE 1 [] [8] (Lo := [(8, .bool false)]) (obs := []) rfl (by kernel_rfl) trivial fun a hE => ?_
        refine WR.done rfl ?_
        refine Runs.ret hE Tryz.func7 rfl rfl ?_
        cases hm
        exact ⟨al_w_.has0_b, al_w_.has0_c, rfl, H.x1⟩
      · replace hm := cond_f c hm
        refine Runs.skip ?_
        refine Runs.seq ?_
        refine Runs.region ?_
        refine WR.seg hE 6 [] [0, 1, 9, 10, 90, 93] (Lo := [(0, .pointer (some ⟨p_w_, 0, none⟩)), (1, .int .i64 0), (9, .int .i64 t_), (10, .pointer (some ⟨r, 0, none⟩)), (90, .int .i64 t_4.1), (93, .pointer (some ⟨p_w_, 1, none⟩))]) (obs := [.p (0 ≤ (0 : Int) ∧ (0 : Int) < ((2 : Nat) : Int))]) rfl (by kernel_rfl) ⟨⟨by decide, by decide⟩, trivial⟩ fun a hE => ?_
        replace H := thicketlaw11_world.open H
        try rw [hf] at H
        try rw [hf1] at H
        try dsimp only at H
        refine WR.eff0 hE rfl rfl rfl (OpTo.store hE H rfl rfl rfl rfl rfl rfl (Nat.le_of_ble_eq_true rfl)) ?_
        rintro _ w H a hE
        refine WR.done rfl ?_
        refine Runs.seq ?_
        replace H := thicketlaw11_world.shut al_w_ (thicketlaw11_world.mk t_5.2.a_ t_4.1 t_5.2.root1 w_.has0 w_.has1 t_5.2.next t_5.2.spent t_5.2.most) H.t3.t3.t3.t3
        obtain ⟨t_6, et_6, hm⟩ := bind_some hm
        obtain ⟨l, el, hm⟩ := bind_some hm
        refine Runs.join (fun a w => ∃ (z : Option Addr), ∃ (z1 : Nat), EnvOk 110 a [] ∧ St w0 (thicketlaw11_world.R p_w_ (thicketlaw11_world.A.mk al_w_.a__p al_w_.a__a z z1 al_w_.has1_b al_w_.has1_c) (thicketlaw11_world.mk t_5.2.a_ t_4.1 t_5.2.root1 l w_.has1 t_5.2.next t_5.2.spent t_5.2.most) :: As) w) (fun hk => ?_) ?_
        ·
          refine Runs.drawn mixed (by kernel_rfl) ?_
          replace H := H.drew
          replace H := thicketlaw11_world.open H
          try dsimp only at H
          refine WQ.seg hE [0, 1, 2, 3, 4, 5, 6, 7, 8, 10, 13, 14] [.slice al_w_.has0_b w_.has0.length al_w_.has0_c, .int .i64 x.cell, .int .i64 (if by_ < x.e.Key then by_ else x.e.Key), .int .i64 x.e.Serial] [95, 101, 102, 104, 108] (Lo := [(95, .int .i64 0), (101, .slice al_w_.has0_b w_.has0.length al_w_.has0_c), (102, .int .i64 t_), (104, .agg #[.int .i64 x.cell, .int .i64 (if by_ < x.e.Key then by_ else x.e.Key), .int .i64 x.e.Serial]), (108, .pointer (some ⟨p_w_, 3, none⟩))]) (obs := [.p (0 ≤ (0 : Int) ∧ (0 : Int) < ((2 : Nat) : Int)), .cell ⟨p_w_, 3, none⟩ (.slice al_w_.has0_b w_.has0.length al_w_.has0_c), .cell ⟨r, 0, none⟩ (.int .i64 x.cell), .cell ⟨r, 1, none⟩ (.int .i64 (if by_ < x.e.Key then by_ else x.e.Key)), .cell ⟨r, 2, none⟩ (.int .i64 x.e.Serial)]) (by kernel_rfl) (by kernel_rfl) ⟨⟨by decide, by decide⟩, H.cell 0 rfl rfl, H.cell 4 rfl rfl, H.cell 4 rfl rfl, H.cell 4 rfl rfl, trivial⟩ fun a hE => ?_
          refine WQ.act2 9 11 (by kernel_rfl) ?_ ?_
          ·
            replace H := H.t2
            refine AQ.eff (j := 9) (obs := [.cell ⟨r, 0, none⟩ (.int .i64 x.cell), .cell ⟨r, 1, none⟩ (.int .i64 (if by_ < x.e.Key then by_ else x.e.Key)), .cell ⟨r, 2, none⟩ (.int .i64 x.e.Serial)]) hE rfl rfl rfl rfl (by kernel_rfl) (OpTo.fn hE rfl rfl Tryz.call31 (thicketlaw11_without_ok (hX_l := (sl_rd 48 thicketlaw11_held.enc 3 _ _ _)) (hC_l := (H.slCap 0 rfl).1) et_6 H)) ?_
            rintro _ w ⟨sb2, sc2, rfl, H⟩
            refine ⟨⟨H.cell 5 rfl rfl, H.cell 5 rfl rfl, H.cell 5 rfl rfl, trivial⟩, fun a hE => ?_⟩
            refine WQ.eff (j := 11) (obs := []) hE (by kernel_rfl) rfl rfl rfl rfl (by kernel_rfl) (OpTo.buildSl (T := 48) hE H thicketlaw11_held.enc_ok ([thicketlaw11_held.mk x.cell (api_Entry.mk (if by_ < x.e.Key then by_ else x.e.Key) x.e.Serial)] : List thicketlaw11_held) rfl (fun _ => by kernel_rfl) rfl rfl rfl) ?_
            rintro _ w ⟨r2, rfl, H⟩
            refine ⟨trivial, fun a hE => ?_⟩
            replace H := H.t1
            refine WQ.eff (j := 12) (obs := []) hE (by kernel_rfl) rfl rfl rfl rfl (by kernel_rfl) (OpTo.appendM el hE H thicketlaw11_held.enc_ok rfl rfl rfl rfl rfl rfl rfl rfl rfl rfl (SlRd.all (sl_rd 48 thicketlaw11_held.enc 3 _ _ _) thicketlaw11_held.enc_ok H 1 rfl) rfl) ?_
            rintro _ w ⟨sb3, sc3, rfl, H⟩
            refine ⟨trivial, fun a hE => ?_⟩
            refine WQ.seg hE [15] [] [106, 109] (Lo := [(106, .slice sb3 l.length sc3), (109, .pointer (some ⟨p_w_, 3, none⟩))]) (obs := [.p (0 ≤ (0 : Int) ∧ (0 : Int) < ((2 : Nat) : Int))]) (by kernel_rfl) (by kernel_rfl) ⟨⟨by decide, by decide⟩, trivial⟩ fun a hE => ?_
            refine WQ.eff0 (j := 16) (obs := []) hE (by kernel_rfl) rfl rfl rfl (by kernel_rfl) (OpTo.store hE H.t3 rfl rfl rfl rfl rfl rfl (Nat.le_of_ble_eq_true rfl)) ?_
            rintro _ w H
            refine ⟨trivial, fun a hE => ?_⟩
            refine WQ.done (by kernel_rfl) ?_
            replace H := thicketlaw11_world.shut (thicketlaw11_world.A.mk al_w_.a__p al_w_.a__a sb3 sc3 al_w_.has1_b al_w_.has1_c) (thicketlaw11_world.mk t_5.2.a_ t_4.1 t_5.2.root1 l w_.has1 t_5.2.next t_5.2.spent t_5.2.most) H.t5.t2.t5.t3
            exact hk _ _ ⟨sb3, sc3, hE.sel [] (by kernel_rfl), H.x3.x2.x1⟩
          ·
            refine AQ.eff (j := 11) (obs := [.cell ⟨p_w_, 3, none⟩ (.slice al_w_.has0_b w_.has0.length al_w_.has0_c), .p (0 ≤ (0 : Int) ∧ (0 : Int) < ((2 : Nat) : Int))]) hE rfl rfl rfl rfl (by kernel_rfl) (OpTo.buildSl (T := 48) hE H thicketlaw11_held.enc_ok ([thicketlaw11_held.mk x.cell (api_Entry.mk (if by_ < x.e.Key then by_ else x.e.Key) x.e.Serial)] : List thicketlaw11_held) rfl (fun _ => by kernel_rfl) rfl rfl rfl) ?_
            rintro _ w ⟨r3, rfl, H⟩
            refine ⟨⟨H.cell 1 rfl rfl, ⟨by decide, by decide⟩, trivial⟩, fun a hE => ?_⟩
            replace H := H.t3
            refine WQ.eff (j := 9) (obs := []) hE (by kernel_rfl) rfl rfl rfl rfl (by kernel_rfl) (OpTo.fn hE rfl rfl Tryz.call31 (thicketlaw11_without_ok (hX_l := (sl_rd 48 thicketlaw11_held.enc 3 _ _ _)) (hC_l := (H.slCap 0 rfl).1) et_6 H)) ?_
            rintro _ w ⟨sb4, sc4, rfl, H⟩
            refine ⟨trivial, fun a hE => ?_⟩
            refine WQ.eff (j := 12) (obs := []) hE (by kernel_rfl) rfl rfl rfl rfl (by kernel_rfl) (OpTo.appendM el hE H thicketlaw11_held.enc_ok rfl rfl rfl rfl rfl rfl rfl rfl rfl rfl (SlRd.all (sl_rd 48 thicketlaw11_held.enc 3 _ _ _) thicketlaw11_held.enc_ok H 2 rfl) rfl) ?_
            rintro _ w ⟨sb5, sc5, rfl, H⟩
            refine ⟨trivial, fun a hE => ?_⟩
            refine WQ.seg hE [15] [] [106, 109] (Lo := [(106, .slice sb5 l.length sc5), (109, .pointer (some ⟨p_w_, 3, none⟩))]) (obs := [.p (0 ≤ (0 : Int) ∧ (0 : Int) < ((2 : Nat) : Int))]) (by kernel_rfl) (by kernel_rfl) ⟨⟨by decide, by decide⟩, trivial⟩ fun a hE => ?_
            refine WQ.eff0 (j := 16) (obs := []) hE (by kernel_rfl) rfl rfl rfl (by kernel_rfl) (OpTo.store hE H.t3 rfl rfl rfl rfl rfl rfl (Nat.le_of_ble_eq_true rfl)) ?_
            rintro _ w H
            refine ⟨trivial, fun a hE => ?_⟩
            refine WQ.done (by kernel_rfl) ?_
            replace H := thicketlaw11_world.shut (thicketlaw11_world.A.mk al_w_.a__p al_w_.a__a sb5 sc5 al_w_.has1_b al_w_.has1_c) (thicketlaw11_world.mk t_5.2.a_ t_4.1 t_5.2.root1 l w_.has1 t_5.2.next t_5.2.spent t_5.2.most) H.t5.t2.t5.t3
            exact hk _ _ ⟨sb5, sc5, hE.sel [] (by kernel_rfl), H.x3.x2.x1⟩
        rintro a w ⟨z, z1, hE, H⟩
        refine Runs.seq ?_
        refine Runs.region ?_
        refine WR.seg hE 1 [] [8] (Lo := [(8, .bool true)]) (obs := []) rfl (by kernel_rfl) trivial fun a hE => ?_
        refine WR.done rfl ?_
        refine Runs.ret hE Tryz.func7 rfl rfl ?_
        cases hm
        exact ⟨z, z1, rfl, H⟩

theorem thicketlaw11_world_fall_at1_ok {w0 w : World} {As : List HP} {k : Nat} {p_w_ : Nat} {al_w_ : thicketlaw11_world.A} {w_ : thicketlaw11_world} {at_ : Int} {by_ : Int} {t : Bool × thicketlaw11_world}  (hm : thicketlaw11_world_fall_at1 k w_ at_ by_ = some t) (H : St w0 (thicketlaw11_world.R p_w_ al_w_ w_ :: As) w) :
    CallsR Tryz.prog 7 #[.pointer (some ⟨p_w_, 0, none⟩), .int .i64 1, .int .i64 at_, .int .i64 by_] w fun v w' => ∃ (z_w__has1_b : Option Addr), ∃ (z_w__has1_c : Nat), v = .bool t.1 ∧ St w0 (thicketlaw11_world.R p_w_ (thicketlaw11_world.A.mk al_w_.a__p al_w_.a__a al_w_.has0_b al_w_.has0_c z_w__has1_b z_w__has1_c) t.2 :: As) w' := by
  rw [thicketlaw11_world_fall_at1] at hm
  refine enter (args := [.pointer (some ⟨p_w_, 0, none⟩), .int .i64 1, .int .i64 at_, .int .i64 by_]) Tryz.func7 rfl rfl rfl fun a hE => ?_
  refine Runs.seq ?_
  refine Runs.region ?_
  refine WR.seg hE 1 [] [0, 1, 2, 3] (Lo := [(0, .pointer (some ⟨p_w_, 0, none⟩)), (1, .int .i64 1), (2, .int .i64 at_), (3, .int .i64 by_)]) (obs := []) rfl (by kernel_rfl) trivial fun a hE => ?_
  refine WR.done rfl ?_
  refine Runs.seq ?_
  refine Runs.seq ?_
  refine Runs.region ?_
  replace H := thicketlaw11_world.open H
  refine WR.seg hE 8 [.slice al_w_.has1_b w_.has1.length al_w_.has1_c] [0, 1, 2, 3, 20] (Lo := [(0, .pointer (some ⟨p_w_, 0, none⟩)), (1, .int .i64 1), (2, .int .i64 at_), (3, .int .i64 by_), (20, .bool ((w_.has1.length : Int) == 0))]) (obs := [.p (0 ≤ (1 : Int) ∧ (1 : Int) < ((2 : Nat) : Int)), .cell ⟨p_w_, 4, none⟩ (.slice al_w_.has1_b w_.has1.length al_w_.has1_c)]) rfl (by kernel_rfl) ⟨⟨by decide, by decide⟩, H.cell 0 rfl rfl, trivial⟩ fun a hE => ?_
  refine WR.done rfl ?_
  refine Runs.cond hE rfl (fun c => ?_) (fun c => ?_)
  · replace hm := cond_t c hm
    refine Runs.seq ?_
    refine Runs.region ?_
    refine WR.seg hE 1 [] [8] (Lo := [(8, .bool true)]) (obs := []) rfl (by kernel_rfl) trivial fun a hE => ?_
    refine WR.done rfl ?_
    replace H := thicketlaw11_world.shut al_w_ (w_) H.t3.t3.t3.t3
    refine Runs.ret hE Tryz.func7 rfl rfl ?_
    cases hm
    exact ⟨al_w_.has1_b, al_w_.has1_c, rfl, H⟩
  · replace hm := cond_f c hm
    refine Runs.skip ?_
    refine Runs.seq ?_
    refine Runs.region ?_
    refine WR.seg hE 9 [.slice al_w_.has1_b w_.has1.length al_w_.has1_c] [0, 1, 3, 21, 29] (Lo := [(0, .pointer (some ⟨p_w_, 0, none⟩)), (1, .int .i64 1), (3, .int .i64 by_), (21, .int .i64 at_), (29, .int .i64 (w64 ((w_.has1.length : Int) - 1)))]) (obs := [.p (0 ≤ (1 : Int) ∧ (1 : Int) < ((2 : Nat) : Int)), .cell ⟨p_w_, 4, none⟩ (.slice al_w_.has1_b w_.has1.length al_w_.has1_c)]) rfl (by kernel_rfl) ⟨⟨by decide, by decide⟩, H.cell 0 rfl rfl, trivial⟩ fun a hE => ?_
    obtain ⟨t_, et_, hm⟩ := bind_some hm
    refine WR.eff hE rfl rfl rfl rfl (OpTo.fn hE rfl rfl Tryz.call28 (thicketbook_Within_ok et_ H)) ?_
    rintro _ w ⟨rfl, H⟩ a hE
    refine WR.seg hE 11 [] [0, 1, 3, 9] (Lo := [(0, .pointer (some ⟨p_w_, 0, none⟩)), (1, .int .i64 1), (3, .int .i64 by_), (9, .int .i64 t_)]) (obs := []) rfl (by kernel_rfl) trivial fun a hE => ?_
    refine WR.done rfl ?_
    refine Runs.seq ?_
    refine Runs.region ?_
    obtain ⟨x, ex, hm⟩ := bind_some hm
    obtain ⟨b, o, hs, hb⟩ := SlRd.base (sl_rd 48 thicketlaw11_held.enc 3 _ _ _) thicketlaw11_held.enc_ok H 3 rfl ex
    refine WR.seg hE 9 [.slice al_w_.has1_b w_.has1.length al_w_.has1_c, .pointer (some ⟨b, o, none⟩), .int .i64 x.cell, .int .i64 x.e.Key, .int .i64 x.e.Serial] [0, 1, 3, 9, 39] (Lo := [(0, .pointer (some ⟨p_w_, 0, none⟩)), (1, .int .i64 1), (3, .int .i64 by_), (9, .int .i64 t_), (39, .agg #[.int .i64 x.cell, .int .i64 x.e.Key, .int .i64 x.e.Serial])]) (obs := [.p (0 ≤ (1 : Int) ∧ (1 : Int) < ((2 : Nat) : Int)), .cell ⟨p_w_, 4, none⟩ (.slice al_w_.has1_b w_.has1.length al_w_.has1_c), .p ((al_w_.has1_b : Option Addr) = some ⟨b, o, none⟩), .p (0 ≤ (t_ : Int) ∧ (t_ : Int) < ((w_.has1.length : Nat) : Int)), .cell ⟨b, o + (Int.toNat t_) * 3, none⟩ (.int .i64 x.cell), .cell ⟨b, o + (Int.toNat t_) * 3 + 1, none⟩ (.int .i64 x.e.Key), .cell ⟨b, o + (Int.toNat t_) * 3 + 2, none⟩ (.int .i64 x.e.Serial)]) rfl (by kernel_rfl) ⟨⟨by decide, by decide⟩, H.cell 0 rfl rfl, hs, hb, SlRd.cells (sl_rd 48 thicketlaw11_held.enc 3 _ _ _) thicketlaw11_held.enc_ok H 3 rfl hs ex 0 _ rfl, SlRd.cells (sl_rd 48 thicketlaw11_held.enc 3 _ _ _) thicketlaw11_held.enc_ok H 3 rfl hs ex 1 _ rfl, SlRd.cells (sl_rd 48 thicketlaw11_held.enc 3 _ _ _) thicketlaw11_held.enc_ok H 3 rfl hs ex 2 _ rfl, trivial⟩ fun a hE => ?_
    refine WR.eff hE rfl rfl rfl rfl (OpTo.new hE H [] (.cells #[.int .i64 0, .int .i64 0, .int .i64 0] 48 (0, 0)) (fun r => .pointer (some ⟨r, 0, none⟩)) (obs := []) rfl (fun _ => by kernel_rfl) trivial) ?_
    rintro _ w ⟨r, rfl, H⟩ a hE
    refine WR.eff0 hE rfl rfl rfl (OpTo.store hE H rfl rfl rfl rfl rfl rfl (Nat.le_of_ble_eq_true rfl)) ?_
    rintro _ w H a hE
    refine WR.done rfl ?_
    refine Runs.seq ?_
    refine Runs.region ?_
    refine WR.seg hE 7 [.int .i64 x.e.Key] [0, 1, 9, 10, 44, 46] (Lo := [(0, .pointer (some ⟨p_w_, 0, none⟩)), (1, .int .i64 1), (9, .int .i64 t_), (10, .pointer (some ⟨r, 0, none⟩)), (44, .int .i64 (if by_ < x.e.Key then by_ else x.e.Key)), (46, .pointer (some ⟨r, 1, none⟩))]) (obs := [.cell ⟨r, 1, none⟩ (.int .i64 x.e.Key)]) rfl (by kernel_rfl) ⟨H.cell 0 rfl rfl, trivial⟩ fun a hE => ?_
    refine WR.eff0 hE rfl rfl rfl (OpTo.store hE H rfl rfl rfl rfl rfl rfl (Nat.le_of_ble_eq_true rfl)) ?_
    rintro _ w H a hE
    refine WR.done rfl ?_
    refine Runs.seq ?_
    refine Runs.seq ?_
    refine Runs.drawn mixed (by kernel_rfl) ?_
    replace H := H.drew
    refine WQ.seg hE [0, 1, 2, 3, 4, 5, 6, 7, 8] [.pointer (some ⟨al_w_.a__p, 0, none⟩), .int .i64 x.cell, .int .i64 (if by_ < x.e.Key then by_ else x.e.Key)] [0, 1, 9, 10, 50, 52, 55] (Lo := [(0, .pointer (some ⟨p_w_, 0, none⟩)), (1, .int .i64 1), (9, .int .i64 t_), (10, .pointer (some ⟨r, 0, none⟩)), (50, .pointer (some ⟨al_w_.a__p, 0, none⟩)), (52, .int .i64 x.cell), (55, .int .i64 (if by_ < x.e.Key then by_ else x.e.Key))]) (obs := [.cell ⟨p_w_, 0, none⟩ (.pointer (some ⟨al_w_.a__p, 0, none⟩)), .cell ⟨r, 0, none⟩ (.int .i64 x.cell), .cell ⟨r, 1, none⟩ (.int .i64 (if by_ < x.e.Key then by_ else x.e.Key))]) (by kernel_rfl) (by kernel_rfl) ⟨H.cell 1 rfl rfl, H.cell 0 rfl rfl, H.cell 0 rfl rfl, trivial⟩ fun a hE => ?_
    obtain ⟨t_1, et_1, hm⟩ := bind_some hm
    refine WQ.eff (j := 9) (obs := []) hE (by kernel_rfl) rfl rfl rfl rfl (by kernel_rfl) (OpTo.fn hE rfl rfl Tryz.call29 (item_Lower_ok et_1 H.t2)) ?_
    rintro _ w ⟨rfl, H⟩
    refine ⟨trivial, fun a hE => ?_⟩
    refine WQ.seg hE [10] [] [0, 1, 9, 10, 57] (Lo := [(0, .pointer (some ⟨p_w_, 0, none⟩)), (1, .int .i64 1), (9, .int .i64 t_), (10, .pointer (some ⟨r, 0, none⟩)), (57, .bool (!t_1.1))]) (obs := []) (by kernel_rfl) (by kernel_rfl) trivial fun a hE => ?_
    refine WQ.done (by kernel_rfl) ?_
    refine Runs.cond hE rfl (fun c => ?_) (fun c => ?_)
    · replace hm := cond_t c hm
      refine Runs.seq ?_
      refine Runs.region ?_
      refine WR.seg hE 1 [] [8] (Lo := [(8, .bool false)]) (obs := []) rfl (by kernel_rfl) trivial fun a hE => ?_
      refine WR.done rfl ?_
      replace H := thicketlaw11_world.shut al_w_ (thicketlaw11_world.mk t_1.2 w_.root0 w_.root1 w_.has0 w_.has1 w_.next w_.spent w_.most) H.t4.t4.t2.t4
      refine Runs.ret hE Tryz.func7 rfl rfl ?_
      cases hm
      exact ⟨al_w_.has1_b, al_w_.has1_c, rfl, H.x1⟩
    · replace hm := cond_f c hm
      refine Runs.skip ?_
      refine Runs.seq ?_
      refine Runs.region ?_
      refine WR.seg hE 4 [.pointer (some ⟨al_w_.a__p, 0, none⟩)] [0, 1, 9, 10, 61] (Lo := [(0, .pointer (some ⟨p_w_, 0, none⟩)), (1, .int .i64 1), (9, .int .i64 t_), (10, .pointer (some ⟨r, 0, none⟩)), (61, .pointer (some ⟨al_w_.a__p, 0, none⟩))]) (obs := [.cell ⟨p_w_, 0, none⟩ (.pointer (some ⟨al_w_.a__p, 0, none⟩))]) rfl (by kernel_rfl) ⟨H.cell 2 rfl rfl, trivial⟩ fun a hE => ?_
      obtain ⟨t_2, et_2, hm⟩ := bind_some hm
      refine WR.eff hE rfl rfl rfl rfl (OpTo.fn hE rfl rfl Tryz.call15 (arena_Arena_Meter_ok et_2 H)) ?_
      rintro _ w ⟨rfl, H⟩ a hE
      replace H := arena_Arena.open H
      obtain ⟨t_3, et_3, hm⟩ := bind_some hm
      refine WR.eff hE rfl rfl rfl rfl (OpTo.fn hE rfl rfl Tryz.call18 (meter_Meter_Steps_ok et_3 H.t3)) ?_
      rintro _ w ⟨rfl, H⟩ a hE
      refine WR.seg hE 7 [] [0, 1, 9, 10, 11] (Lo := [(0, .pointer (some ⟨p_w_, 0, none⟩)), (1, .int .i64 1), (9, .int .i64 t_), (10, .pointer (some ⟨r, 0, none⟩)), (11, .int .i64 t_3)]) (obs := []) rfl (by kernel_rfl) trivial fun a hE => ?_
      refine WR.done rfl ?_
      refine Runs.seq ?_
      refine Runs.drawn mixed (by kernel_rfl) ?_
      replace H := H.drew
      refine WQ.seg hE [0, 1, 2, 3, 4, 5, 6, 7, 8, 9, 10, 11] [.pointer (some ⟨al_w_.a__p, 0, none⟩), .int .i64 w_.root1, .int .i64 x.cell] [0, 1, 9, 10, 11, 67, 73, 75] (Lo := [(0, .pointer (some ⟨p_w_, 0, none⟩)), (1, .int .i64 1), (9, .int .i64 t_), (10, .pointer (some ⟨r, 0, none⟩)), (11, .int .i64 t_3), (67, .pointer (some ⟨al_w_.a__p, 0, none⟩)), (73, .int .i64 w_.root1), (75, .int .i64 x.cell)]) (obs := [.cell ⟨p_w_, 0, none⟩ (.pointer (some ⟨al_w_.a__p, 0, none⟩)), .p (0 ≤ (1 : Int) ∧ (1 : Int) < ((2 : Nat) : Int)), .cell ⟨p_w_, 2, none⟩ (.int .i64 w_.root1), .cell ⟨r, 0, none⟩ (.int .i64 x.cell)]) (by kernel_rfl) (by kernel_rfl) ⟨H.cell 5 rfl rfl, ⟨by decide, by decide⟩, H.cell 5 rfl rfl, H.cell 4 rfl rfl, trivial⟩ fun a hE => ?_
      replace H := arena_Arena.shut al_w_.a__a (t_1.2) H.t3.t3.t3
      obtain ⟨t_4, et_4, hm⟩ := bind_some hm
      refine WQ.eff (j := 12) (obs := []) hE (by kernel_rfl) rfl rfl rfl rfl (by kernel_rfl) (OpTo.fn hE rfl rfl Tryz.call30 (skew_Fall_ok et_4 H)) ?_
      rintro _ w ⟨rfl, H⟩
      refine ⟨trivial, fun a hE => ?_⟩
      refine WQ.seg hE [13] [] [0, 1, 9, 10, 11, 12] (Lo := [(0, .pointer (some ⟨p_w_, 0, none⟩)), (1, .int .i64 1), (9, .int .i64 t_), (10, .pointer (some ⟨r, 0, none⟩)), (11, .int .i64 t_3), (12, .int .i64 t_4.1)]) (obs := []) (by kernel_rfl) (by kernel_rfl) trivial fun a hE => ?_
      refine WQ.done (by kernel_rfl) ?_
      refine Runs.seq ?_
      refine Runs.seq ?_
      refine Runs.region ?_
      refine WR.seg hE 9 [.slice al_w_.has1_b w_.has1.length al_w_.has1_c] [0, 1, 9, 10, 12, 77, 78, 85] (Lo := [(0, .pointer (some ⟨p_w_, 0, none⟩)), (1, .int .i64 1), (9, .int .i64 t_), (10, .pointer (some ⟨r, 0, none⟩)), (12, .int .i64 t_4.1), (77, .pointer (some ⟨p_w_, 0, none⟩)), (78, .int .i64 t_3), (85, .int .i64 (w_.has1.length : Int))]) (obs := [.p (0 ≤ (1 : Int) ∧ (1 : Int) < ((2 : Nat) : Int)), .cell ⟨p_w_, 4, none⟩ (.slice al_w_.has1_b w_.has1.length al_w_.has1_c)]) rfl (by kernel_rfl) ⟨⟨by decide, by decide⟩, H.cell 2 rfl rfl, trivial⟩ fun a hE => ?_
      replace H := thicketlaw11_world.shut al_w_ (thicketlaw11_world.mk t_4.2 w_.root0 w_.root1 w_.has0 w_.has1 w_.next w_.spent w_.most) H.t4.t4.t2.t4
      obtain ⟨t_5, et_5, hm⟩ := bind_some hm
      refine WR.eff hE rfl rfl rfl rfl (OpTo.fn hE rfl rfl Tryz.call20 (thicketlaw11_world_cost_ok et_5 H)) ?_
      rintro _ w ⟨rfl, hf, hf1, H⟩ a hE
      refine WR.seg hE 11 [] [0, 1, 9, 10, 12, 87] (Lo := [(0, .pointer (some ⟨p_w_, 0, none⟩)), (1, .int .i64 1), (9, .int .i64 t_), (10, .pointer (some ⟨r, 0, none⟩)), (12, .int .i64 t_4.1), (87, .bool (!t_5.1))]) (obs := []) rfl (by kernel_rfl) trivial fun a hE => ?_
      refine WR.done rfl ?_
      refine Runs.cond hE rfl (fun c => ?_) (fun c => ?_)
      · replace hm := cond_t c hm
        refine Runs.seq ?_
        refine Runs.region ?_
        refine WR.seg hE 1 [] [8] (Lo := [(8, .bool false)]) (obs := []) rfl (by kernel_rfl) trivial fun a hE => ?_
        refine WR.done rfl ?_
        refine Runs.ret hE Tryz.func7 rfl rfl ?_
        cases hm
        exact ⟨al_w_.has1_b, al_w_.has1_c, rfl, H.x1⟩
      · replace hm := cond_f c hm
        refine Runs.skip ?_
        refine Runs.seq ?_
        refine Runs.region ?_
        refine WR.seg hE 6 [] [0, 1, 9, 10, 90, 93] (Lo := [(0, .pointer (some ⟨p_w_, 0, none⟩)), (1, .int .i64 1), (9, .int .i64 t_), (10, .pointer (some ⟨r, 0, none⟩)), (90, .int .i64 t_4.1), (93, .pointer (some ⟨p_w_, 2, none⟩))]) (obs := [.p (0 ≤ (1 : Int) ∧ (1 : Int) < ((2 : Nat) : Int))]) rfl (by kernel_rfl) ⟨⟨by decide, by decide⟩, trivial⟩ fun a hE => ?_
        replace H := thicketlaw11_world.open H
        try rw [hf] at H
        try rw [hf1] at H
        try dsimp only at H
        refine WR.eff0 hE rfl rfl rfl (OpTo.store hE H rfl rfl rfl rfl rfl rfl (Nat.le_of_ble_eq_true rfl)) ?_
        rintro _ w H a hE
        refine WR.done rfl ?_
        refine Runs.seq ?_
        replace H := thicketlaw11_world.shut al_w_ (thicketlaw11_world.mk t_5.2.a_ t_5.2.root0 t_4.1 w_.has0 w_.has1 t_5.2.next t_5.2.spent t_5.2.most) H.t3.t3.t3.t3
        obtain ⟨t_6, et_6, hm⟩ := bind_some hm
        obtain ⟨l, el, hm⟩ := bind_some hm
        refine Runs.join (fun a w => ∃ (z : Option Addr), ∃ (z1 : Nat), EnvOk 110 a [] ∧ St w0 (thicketlaw11_world.R p_w_ (thicketlaw11_world.A.mk al_w_.a__p al_w_.a__a al_w_.has0_b al_w_.has0_c z z1) (thicketlaw11_world.mk t_5.2.a_ t_5.2.root0 t_4.1 w_.has0 l t_5.2.next t_5.2.spent t_5.2.most) :: As) w) (fun hk => ?_) ?_
        ·
          refine Runs.drawn mixed (by kernel_rfl) ?_
          replace H := H.drew
          replace H := thicketlaw11_world.open H
          try dsimp only at H
          refine WQ.seg hE [0, 1, 2, 3, 4, 5, 6, 7, 8, 10, 13, 14] [.slice al_w_.has1_b w_.has1.length al_w_.has1_c, .int .i64 x.cell, .int .i64 (if by_ < x.e.Key then by_ else x.e.Key), .int .i64 x.e.Serial] [95, 101, 102, 104, 108] (Lo := [(95, .int .i64 1), (101, .slice al_w_.has1_b w_.has1.length al_w_.has1_c), (102, .int .i64 t_), (104, .agg #[.int .i64 x.cell, .int .i64 (if by_ < x.e.Key then by_ else x.e.Key), .int .i64 x.e.Serial]), (108, .pointer (some ⟨p_w_, 3, none⟩))]) (obs := [.p (0 ≤ (1 : Int) ∧ (1 : Int) < ((2 : Nat) : Int)), .cell ⟨p_w_, 4, none⟩ (.slice al_w_.has1_b w_.has1.length al_w_.has1_c), .cell ⟨r, 0, none⟩ (.int .i64 x.cell), .cell ⟨r, 1, none⟩ (.int .i64 (if by_ < x.e.Key then by_ else x.e.Key)), .cell ⟨r, 2, none⟩ (.int .i64 x.e.Serial)]) (by kernel_rfl) (by kernel_rfl) ⟨⟨by decide, by decide⟩, H.cell 0 rfl rfl, H.cell 4 rfl rfl, H.cell 4 rfl rfl, H.cell 4 rfl rfl, trivial⟩ fun a hE => ?_
          refine WQ.act2 9 11 (by kernel_rfl) ?_ ?_
          ·
            replace H := H.t3
            refine AQ.eff (j := 9) (obs := [.cell ⟨r, 0, none⟩ (.int .i64 x.cell), .cell ⟨r, 1, none⟩ (.int .i64 (if by_ < x.e.Key then by_ else x.e.Key)), .cell ⟨r, 2, none⟩ (.int .i64 x.e.Serial)]) hE rfl rfl rfl rfl (by kernel_rfl) (OpTo.fn hE rfl rfl Tryz.call31 (thicketlaw11_without_ok (hX_l := (sl_rd 48 thicketlaw11_held.enc 3 _ _ _)) (hC_l := (H.slCap 0 rfl).1) et_6 H)) ?_
            rintro _ w ⟨sb2, sc2, rfl, H⟩
            refine ⟨⟨H.cell 5 rfl rfl, H.cell 5 rfl rfl, H.cell 5 rfl rfl, trivial⟩, fun a hE => ?_⟩
            refine WQ.eff (j := 11) (obs := []) hE (by kernel_rfl) rfl rfl rfl rfl (by kernel_rfl) (OpTo.buildSl (T := 48) hE H thicketlaw11_held.enc_ok ([thicketlaw11_held.mk x.cell (api_Entry.mk (if by_ < x.e.Key then by_ else x.e.Key) x.e.Serial)] : List thicketlaw11_held) rfl (fun _ => by kernel_rfl) rfl rfl rfl) ?_
            rintro _ w ⟨r2, rfl, H⟩
            refine ⟨trivial, fun a hE => ?_⟩
            replace H := H.t1
            refine WQ.eff (j := 12) (obs := []) hE (by kernel_rfl) rfl rfl rfl rfl (by kernel_rfl) (OpTo.appendM el hE H thicketlaw11_held.enc_ok rfl rfl rfl rfl rfl rfl rfl rfl rfl rfl (SlRd.all (sl_rd 48 thicketlaw11_held.enc 3 _ _ _) thicketlaw11_held.enc_ok H 1 rfl) rfl) ?_
            rintro _ w ⟨sb3, sc3, rfl, H⟩
            refine ⟨trivial, fun a hE => ?_⟩
            refine WQ.seg hE [15] [] [106, 109] (Lo := [(106, .slice sb3 l.length sc3), (109, .pointer (some ⟨p_w_, 4, none⟩))]) (obs := [.p (0 ≤ (1 : Int) ∧ (1 : Int) < ((2 : Nat) : Int))]) (by kernel_rfl) (by kernel_rfl) ⟨⟨by decide, by decide⟩, trivial⟩ fun a hE => ?_
            refine WQ.eff0 (j := 16) (obs := []) hE (by kernel_rfl) rfl rfl rfl (by kernel_rfl) (OpTo.store hE H.t3 rfl rfl rfl rfl rfl rfl (Nat.le_of_ble_eq_true rfl)) ?_
            rintro _ w H
            refine ⟨trivial, fun a hE => ?_⟩
            refine WQ.done (by kernel_rfl) ?_
            replace H := thicketlaw11_world.shut (thicketlaw11_world.A.mk al_w_.a__p al_w_.a__a al_w_.has0_b al_w_.has0_c sb3 sc3) (thicketlaw11_world.mk t_5.2.a_ t_5.2.root0 t_4.1 w_.has0 l t_5.2.next t_5.2.spent t_5.2.most) H.t1.t5.t5.t3
            exact hk _ _ ⟨sb3, sc3, hE.sel [] (by kernel_rfl), H.x3.x2.x1⟩
          ·
            refine AQ.eff (j := 11) (obs := [.cell ⟨p_w_, 4, none⟩ (.slice al_w_.has1_b w_.has1.length al_w_.has1_c), .p (0 ≤ (1 : Int) ∧ (1 : Int) < ((2 : Nat) : Int))]) hE rfl rfl rfl rfl (by kernel_rfl) (OpTo.buildSl (T := 48) hE H thicketlaw11_held.enc_ok ([thicketlaw11_held.mk x.cell (api_Entry.mk (if by_ < x.e.Key then by_ else x.e.Key) x.e.Serial)] : List thicketlaw11_held) rfl (fun _ => by kernel_rfl) rfl rfl rfl) ?_
            rintro _ w ⟨r3, rfl, H⟩
            refine ⟨⟨H.cell 1 rfl rfl, ⟨by decide, by decide⟩, trivial⟩, fun a hE => ?_⟩
            replace H := H.t4
            refine WQ.eff (j := 9) (obs := []) hE (by kernel_rfl) rfl rfl rfl rfl (by kernel_rfl) (OpTo.fn hE rfl rfl Tryz.call31 (thicketlaw11_without_ok (hX_l := (sl_rd 48 thicketlaw11_held.enc 3 _ _ _)) (hC_l := (H.slCap 0 rfl).1) et_6 H)) ?_
            rintro _ w ⟨sb4, sc4, rfl, H⟩
            refine ⟨trivial, fun a hE => ?_⟩
            refine WQ.eff (j := 12) (obs := []) hE (by kernel_rfl) rfl rfl rfl rfl (by kernel_rfl) (OpTo.appendM el hE H thicketlaw11_held.enc_ok rfl rfl rfl rfl rfl rfl rfl rfl rfl rfl (SlRd.all (sl_rd 48 thicketlaw11_held.enc 3 _ _ _) thicketlaw11_held.enc_ok H 2 rfl) rfl) ?_
            rintro _ w ⟨sb5, sc5, rfl, H⟩
            refine ⟨trivial, fun a hE => ?_⟩
            refine WQ.seg hE [15] [] [106, 109] (Lo := [(106, .slice sb5 l.length sc5), (109, .pointer (some ⟨p_w_, 4, none⟩))]) (obs := [.p (0 ≤ (1 : Int) ∧ (1 : Int) < ((2 : Nat) : Int))]) (by kernel_rfl) (by kernel_rfl) ⟨⟨by decide, by decide⟩, trivial⟩ fun a hE => ?_
            refine WQ.eff0 (j := 16) (obs := []) hE (by kernel_rfl) rfl rfl rfl (by kernel_rfl) (OpTo.store hE H.t3 rfl rfl rfl rfl rfl rfl (Nat.le_of_ble_eq_true rfl)) ?_
            rintro _ w H
            refine ⟨trivial, fun a hE => ?_⟩
            refine WQ.done (by kernel_rfl) ?_
            replace H := thicketlaw11_world.shut (thicketlaw11_world.A.mk al_w_.a__p al_w_.a__a al_w_.has0_b al_w_.has0_c sb5 sc5) (thicketlaw11_world.mk t_5.2.a_ t_5.2.root0 t_4.1 w_.has0 l t_5.2.next t_5.2.spent t_5.2.most) H.t1.t5.t5.t3
            exact hk _ _ ⟨sb5, sc5, hE.sel [] (by kernel_rfl), H.x3.x2.x1⟩
        rintro a w ⟨z, z1, hE, H⟩
        refine Runs.seq ?_
        refine Runs.region ?_
        refine WR.seg hE 1 [] [8] (Lo := [(8, .bool true)]) (obs := []) rfl (by kernel_rfl) trivial fun a hE => ?_
        refine WR.done rfl ?_
        refine Runs.ret hE Tryz.func7 rfl rfl ?_
        cases hm
        exact ⟨z, z1, rfl, H⟩

theorem thicketlaw11_world_fall_ok {w0 w : World} {As : List HP} {k : Nat} {p_w_ : Nat} {al_w_ : thicketlaw11_world.A} {w_ : thicketlaw11_world} {at_ : Int} {by_ : Int} {h_ : Int} {t : Bool × thicketlaw11_world}  (hm : thicketlaw11_world_fall k w_ h_ at_ by_ = some t) (H : St w0 (thicketlaw11_world.R p_w_ al_w_ w_ :: As) w) :
    CallsR Tryz.prog 7 #[.pointer (some ⟨p_w_, 0, none⟩), .int .i64 h_, .int .i64 at_, .int .i64 by_] w fun v w' => ∃ (z_w__has0_b : Option Addr), ∃ (z_w__has0_c : Nat), ∃ (z_w__has1_b : Option Addr), ∃ (z_w__has1_c : Nat), v = .bool t.1 ∧ St w0 (thicketlaw11_world.R p_w_ (thicketlaw11_world.A.mk al_w_.a__p al_w_.a__a z_w__has0_b z_w__has0_c z_w__has1_b z_w__has1_c) t.2 :: As) w' := by
  rw [thicketlaw11_world_fall] at hm
  by_cases h0 : h_ = 0
  · subst h0; simp only [if_pos] at hm
    refine (thicketlaw11_world_fall_at0_ok hm H).mono ?_
    rintro v w' ⟨y_0, y_1, hv, H⟩; exact ⟨y_0, y_1, al_w_.has1_b, al_w_.has1_c, hv, H⟩
  rw [if_neg h0] at hm
  by_cases h1 : h_ = 1
  · subst h1; simp only [if_pos] at hm
    refine (thicketlaw11_world_fall_at1_ok hm H).mono ?_
    rintro v w' ⟨y_0, y_1, hv, H⟩; exact ⟨al_w_.has0_b, al_w_.has0_c, y_0, y_1, hv, H⟩
  rw [if_neg h1] at hm
  cases hm

theorem slices_Index_int_ok {w0 w : World} {As : List HP} {k : Nat} {sb_s : Option Addr} {sc_s : Nat} {s : List Int} {X_s : HP} {v_ : Int} {t : Int} (hX_s : SlRd X_s ecI 1 sb_s s) (hC_s : s.length ≤ sc_s) (hm : slices_Index_int k s v_ = some t) (H : St w0 (X_s :: As) w) :
    CallsR Tryz.prog 75 #[.slice sb_s s.length sc_s, .int .i64 v_] w fun v w' => v = .int .i64 t ∧ St w0 (X_s :: As) w' := by
  rw [slices_Index_int] at hm
  refine enter (args := [.slice sb_s s.length sc_s, .int .i64 v_]) Tryz.func75 rfl rfl rfl fun a hE => ?_
  refine Runs.seq ?_
  refine Runs.region ?_
  refine WR.seg hE 1 [] [0, 1] (Lo := [(0, .slice sb_s s.length sc_s), (1, .int .i64 v_)]) (obs := []) rfl (by kernel_rfl) trivial fun a hE => ?_
  refine WR.done rfl ?_
  refine Runs.seq ?_
  refine Runs.seq ?_
  refine Runs.region ?_
  refine WR.seg hE 3 [] [0, 1, 7, 8] (Lo := [(0, .slice sb_s s.length sc_s), (1, .int .i64 v_), (7, .int .i64 (s.length : Int)), (8, .int .i64 0)]) (obs := []) rfl (by kernel_rfl) trivial fun a hE => ?_
  refine WR.done rfl ?_
  obtain ⟨s1, es1, hR⟩ := bind_some hm
  refine Runs.join (fun a w => ∃ s2, s1 = Sum.inr s2 ∧ EnvOk 19 a [] ∧ St w0 (X_s :: As) w) (fun hk => ?_) ?_
  · replace hm := es1; clear es1
    refine Runs.block ?_
    refine Runs.loop (fun m a w => ∃ (x : Int), EnvOk 19 a [(0, .slice sb_s s.length sc_s), (1, .int .i64 v_), (7, .int .i64 (s.length : Int)), (8, .int .i64 x)] ∧ St w0 (X_s :: As) w ∧ slices_Index_int_l0 v_ (s.length : Int) s m x = some s1) k ⟨0, hE.sel [0, 1, 7, 8] (by kernel_rfl), H, hm⟩ ?_
    rintro m ih a w ⟨x, hE, H, hm⟩
    cases m with
    | zero => simp [slices_Index_int_l0] at hm
    | succ m =>
      rw [slices_Index_int_l0] at hm
      refine Runs.seq ?_
      refine Runs.region ?_
      refine WR.seg hE 1 [] [0, 1, 7, 8, 9] (Lo := [(0, .slice sb_s s.length sc_s), (1, .int .i64 v_), (7, .int .i64 (s.length : Int)), (8, .int .i64 x), (9, .bool (decide (x < (s.length : Int))))]) (obs := []) rfl (by kernel_rfl) trivial fun a hE => ?_
      refine WR.done rfl ?_
      refine Runs.seq ?_
      refine Runs.cond hE rfl (fun c => ?_) (fun c => ?_)
      · replace hm := cond_t c hm
        refine Runs.skip ?_
        refine Runs.seq ?_
        refine Runs.block ?_
        refine Runs.seq ?_
        refine Runs.region ?_
        refine WR.seg hE 2 [] [0, 1, 5, 7, 8] (Lo := [(0, .slice sb_s s.length sc_s), (1, .int .i64 v_), (5, .int .i64 x), (7, .int .i64 (s.length : Int)), (8, .int .i64 x)]) (obs := []) rfl (by kernel_rfl) trivial fun a hE => ?_
        refine WR.done rfl ?_
        refine Runs.seq ?_
        refine Runs.region ?_
        obtain ⟨x2, ex2, hm⟩ := bind_some hm
        obtain ⟨b, o, hs, hb⟩ := SlRd.base hX_s ecI_ok H 0 rfl ex2
        refine WR.seg hE 6 [.pointer (some ⟨b, o, none⟩), .int .i64 x2] [0, 1, 5, 7, 8, 16] (Lo := [(0, .slice sb_s s.length sc_s), (1, .int .i64 v_), (5, .int .i64 x), (7, .int .i64 (s.length : Int)), (8, .int .i64 x), (16, .bool (v_ == x2))]) (obs := [.p ((sb_s : Option Addr) = some ⟨b, o, none⟩), .p (0 ≤ (x : Int) ∧ (x : Int) < ((s.length : Nat) : Int)), .cell ⟨b, o + (Int.toNat x) * 1, none⟩ (.int .i64 x2)]) rfl (by kernel_rfl) ⟨hs, hb, SlRd.cells hX_s ecI_ok H 0 rfl hs ex2 0 _ rfl, trivial⟩ fun a hE => ?_
        refine WR.done rfl ?_
        refine Runs.cond hE rfl (fun c => ?_) (fun c => ?_)
        · replace hm := cond_t c hm
          refine Runs.seq ?_
          refine Runs.region ?_
          refine WR.seg hE 2 [] [4] (Lo := [(4, .int .i64 x)]) (obs := []) rfl (by kernel_rfl) trivial fun a hE => ?_
          refine WR.done rfl ?_
          refine Runs.ret hE Tryz.func75 rfl rfl ?_
          cases hm
          dsimp only at hR; cases hR
          exact ⟨rfl, H⟩
        · replace hm := cond_f c hm
          refine Runs.skip ?_
          refine Runs.inBlock ?_
          refine Runs.region ?_
          refine WR.seg hE 2 [] [0, 1, 7, 8] (Lo := [(0, .slice sb_s s.length sc_s), (1, .int .i64 v_), (7, .int .i64 (s.length : Int)), (8, .int .i64 (w64 (x + 1)))]) (obs := []) rfl (by kernel_rfl) trivial fun a hE => ?_
          refine WR.done rfl ?_
          exact ih m (Nat.lt_succ_self m) _ _ ⟨w64 (x + 1), hE.sel [0, 1, 7, 8] (by kernel_rfl), H, hm⟩
      · replace hm := cond_f c hm
        refine Runs.exit rfl ?_
        cases hm
        exact hk _ _ ⟨_, rfl, hE.sel [] (by kernel_rfl), H⟩
  rintro a w ⟨s2, rfl, hE, H⟩
  replace hm := hR; dsimp only at hm
  refine Runs.seq ?_
  refine Runs.region ?_
  refine WR.seg hE 1 [] [4] (Lo := [(4, .int .i64 (-1))]) (obs := []) rfl (by kernel_rfl) trivial fun a hE => ?_
  refine WR.done rfl ?_
  refine Runs.ret hE Tryz.func75 rfl rfl ?_
  cases hm
  exact ⟨rfl, H⟩

theorem slices_Contains_int_ok {w0 w : World} {As : List HP} {k : Nat} {sb_s : Option Addr} {sc_s : Nat} {s : List Int} {X_s : HP} {v_ : Int} {t : Bool} (hX_s : SlRd X_s ecI 1 sb_s s) (hC_s : s.length ≤ sc_s) (hm : slices_Contains_int k s v_ = some t) (H : St w0 (X_s :: As) w) :
    CallsR Tryz.prog 54 #[.slice sb_s s.length sc_s, .int .i64 v_] w fun v w' => v = .bool t ∧ St w0 (X_s :: As) w' := by
  rw [slices_Contains_int] at hm
  refine enter (args := [.slice sb_s s.length sc_s, .int .i64 v_]) Tryz.func54 rfl rfl rfl fun a hE => ?_
  refine Runs.seq ?_
  refine Runs.region ?_
  refine WR.seg hE 1 [] [0, 1] (Lo := [(0, .slice sb_s s.length sc_s), (1, .int .i64 v_)]) (obs := []) rfl (by kernel_rfl) trivial fun a hE => ?_
  refine WR.done rfl ?_
  refine Runs.seq ?_
  refine Runs.region ?_
  refine WR.seg hE 2 [] [5, 6] (Lo := [(5, .slice sb_s s.length sc_s), (6, .int .i64 v_)]) (obs := []) rfl (by kernel_rfl) trivial fun a hE => ?_
  obtain ⟨t_, et_, hm⟩ := bind_some hm
  refine WR.eff hE rfl rfl rfl rfl (OpTo.fn hE rfl rfl Tryz.call75 (slices_Index_int_ok (hX_s := hX_s) (hC_s := hC_s) et_ H)) ?_
  rintro _ w ⟨rfl, H⟩ a hE
  refine WR.seg hE 5 [] [4] (Lo := [(4, .bool (decide (t_ ≥ 0)))]) (obs := []) rfl (by kernel_rfl) trivial fun a hE => ?_
  refine WR.done rfl ?_
  refine Runs.ret hE Tryz.func54 rfl rfl ?_
  cases hm
  exact ⟨rfl, H⟩

theorem skew_without_f1_ok {w0 w : World} {As : List HP} {x : Int} {v_ : Int} {r : Nat} {t : Bool}  (hm : skew_without_f1 x v_ = some t) (H : St w0 (Blk r 3 [.int .i64 v_] :: As) w) :
    CallsR Tryz.prog 77 #[.int .i64 x, .pointer (some ⟨r, 0, none⟩)] w fun v w' => v = .bool t ∧ St w0 (Blk r 3 [.int .i64 v_] :: As) w' := by
  rw [skew_without_f1] at hm
  refine enter (args := [.int .i64 x, .pointer (some ⟨r, 0, none⟩)]) Tryz.func77 rfl rfl rfl fun a hE => ?_
  refine Runs.seq ?_
  refine Runs.region ?_
  refine WR.seg hE 1 [] [0, 1] (Lo := [(0, .int .i64 x), (1, .pointer (some ⟨r, 0, none⟩))]) (obs := []) rfl (by kernel_rfl) trivial fun a hE => ?_
  refine WR.done rfl ?_
  refine Runs.seq ?_
  refine Runs.region ?_
  refine WR.seg hE 4 [.int .i64 v_] [3] (Lo := [(3, .bool (x == v_))]) (obs := [.cell ⟨r, 0, none⟩ (.int .i64 v_)]) rfl (by kernel_rfl) ⟨H.cell 0 rfl rfl, trivial⟩ fun a hE => ?_
  refine WR.done rfl ?_
  refine Runs.ret hE Tryz.func77 rfl rfl ?_
  cases hm
  exact ⟨rfl, H⟩

theorem slices_IndexFunc_int_g77_ok {w0 w : World} {As : List HP} {k : Nat} {sb_s : Option Addr} {sc_s : Nat} {s : List Int} {X_s : HP} {v_ : Int} {r : Nat} {t : Int} (hX_s : SlRd X_s ecI 1 sb_s s) (hC_s : s.length ≤ sc_s) (hm : slices_IndexFunc_int_g77 k s v_ = some t) (H : St w0 (X_s :: Blk r 3 [.int .i64 v_] :: As) w) :
    CallsR Tryz.prog 88 #[.slice sb_s s.length sc_s, .func (.func 77) #[] #[.pointer (some ⟨r, 0, none⟩)]] w fun v w' => v = .int .i64 t ∧ St w0 (X_s :: Blk r 3 [.int .i64 v_] :: As) w' := by
  rw [slices_IndexFunc_int_g77] at hm
  refine enter (args := [.slice sb_s s.length sc_s, .func (.func 77) #[] #[.pointer (some ⟨r, 0, none⟩)]]) Tryz.func88 rfl rfl rfl fun a hE => ?_
  refine Runs.seq ?_
  refine Runs.region ?_
  refine WR.seg hE 1 [] [0, 1] (Lo := [(0, .slice sb_s s.length sc_s), (1, .func (.func 77) #[] #[.pointer (some ⟨r, 0, none⟩)])]) (obs := []) rfl (by kernel_rfl) trivial fun a hE => ?_
  refine WR.done rfl ?_
  refine Runs.seq ?_
  refine Runs.seq ?_
  refine Runs.region ?_
  refine WR.seg hE 3 [] [0, 1, 7, 8] (Lo := [(0, .slice sb_s s.length sc_s), (1, .func (.func 77) #[] #[.pointer (some ⟨r, 0, none⟩)]), (7, .int .i64 (s.length : Int)), (8, .int .i64 0)]) (obs := []) rfl (by kernel_rfl) trivial fun a hE => ?_
  refine WR.done rfl ?_
  obtain ⟨s1, es1, hR⟩ := bind_some hm
  refine Runs.join (fun a w => ∃ s2, s1 = Sum.inr s2 ∧ EnvOk 19 a [] ∧ St w0 (X_s :: Blk r 3 [.int .i64 v_] :: As) w) (fun hk => ?_) ?_
  · replace hm := es1; clear es1
    refine Runs.block ?_
    refine Runs.loop (fun m a w => ∃ (x : Int), EnvOk 19 a [(0, .slice sb_s s.length sc_s), (1, .func (.func 77) #[] #[.pointer (some ⟨r, 0, none⟩)]), (7, .int .i64 (s.length : Int)), (8, .int .i64 x)] ∧ St w0 (X_s :: Blk r 3 [.int .i64 v_] :: As) w ∧ slices_IndexFunc_int_g77_l0 (s.length : Int) s v_ m x = some s1) k ⟨0, hE.sel [0, 1, 7, 8] (by kernel_rfl), H.t1.t1, hm⟩ ?_
    rintro m ih a w ⟨x, hE, H, hm⟩
    cases m with
    | zero => simp [slices_IndexFunc_int_g77_l0] at hm
    | succ m =>
      rw [slices_IndexFunc_int_g77_l0] at hm
      refine Runs.seq ?_
      refine Runs.region ?_
      refine WR.seg hE 1 [] [0, 1, 7, 8, 9] (Lo := [(0, .slice sb_s s.length sc_s), (1, .func (.func 77) #[] #[.pointer (some ⟨r, 0, none⟩)]), (7, .int .i64 (s.length : Int)), (8, .int .i64 x), (9, .bool (decide (x < (s.length : Int))))]) (obs := []) rfl (by kernel_rfl) trivial fun a hE => ?_
      refine WR.done rfl ?_
      refine Runs.seq ?_
      refine Runs.cond hE rfl (fun c => ?_) (fun c => ?_)
      · replace hm := cond_t c hm
        refine Runs.skip ?_
        refine Runs.seq ?_
        refine Runs.block ?_
        refine Runs.seq ?_
        refine Runs.region ?_
        refine WR.seg hE 2 [] [0, 1, 5, 7, 8] (Lo := [(0, .slice sb_s s.length sc_s), (1, .func (.func 77) #[] #[.pointer (some ⟨r, 0, none⟩)]), (5, .int .i64 x), (7, .int .i64 (s.length : Int)), (8, .int .i64 x)]) (obs := []) rfl (by kernel_rfl) trivial fun a hE => ?_
        refine WR.done rfl ?_
        refine Runs.seq ?_
        refine Runs.region ?_
        obtain ⟨x2, ex2, hm⟩ := bind_some hm
        obtain ⟨b, o, hs, hb⟩ := SlRd.base hX_s ecI_ok H 0 rfl ex2
        refine WR.seg hE 5 [.pointer (some ⟨b, o, none⟩), .int .i64 x2] [0, 1, 5, 7, 8, 11, 15] (Lo := [(0, .slice sb_s s.length sc_s), (1, .func (.func 77) #[] #[.pointer (some ⟨r, 0, none⟩)]), (5, .int .i64 x), (7, .int .i64 (s.length : Int)), (8, .int .i64 x), (11, .func (.func 77) #[] #[.pointer (some ⟨r, 0, none⟩)]), (15, .int .i64 x2)]) (obs := [.p ((sb_s : Option Addr) = some ⟨b, o, none⟩), .p (0 ≤ (x : Int) ∧ (x : Int) < ((s.length : Nat) : Int)), .cell ⟨b, o + (Int.toNat x) * 1, none⟩ (.int .i64 x2)]) rfl (by kernel_rfl) ⟨hs, hb, SlRd.cells hX_s ecI_ok H 0 rfl hs ex2 0 _ rfl, trivial⟩ fun a hE => ?_
        obtain ⟨t_, et_, hm⟩ := bind_some hm
        refine WR.eff hE rfl rfl rfl rfl (OpTo.fv hE rfl rfl rfl Tryz.call77 (skew_without_f1_ok et_ H.t1)) ?_
        rintro _ w ⟨rfl, H⟩ a hE
        refine WR.done rfl ?_
        refine Runs.cond hE rfl (fun c => ?_) (fun c => ?_)
        · replace hm := cond_t c hm
          refine Runs.seq ?_
          refine Runs.region ?_
          refine WR.seg hE 2 [] [4] (Lo := [(4, .int .i64 x)]) (obs := []) rfl (by kernel_rfl) trivial fun a hE => ?_
          refine WR.done rfl ?_
          refine Runs.ret hE Tryz.func88 rfl rfl ?_
          cases hm
          dsimp only at hR; cases hR
          exact ⟨rfl, H.t1⟩
        · replace hm := cond_f c hm
          refine Runs.skip ?_
          refine Runs.inBlock ?_
          refine Runs.region ?_
          refine WR.seg hE 2 [] [0, 1, 7, 8] (Lo := [(0, .slice sb_s s.length sc_s), (1, .func (.func 77) #[] #[.pointer (some ⟨r, 0, none⟩)]), (7, .int .i64 (s.length : Int)), (8, .int .i64 (w64 (x + 1)))]) (obs := []) rfl (by kernel_rfl) trivial fun a hE => ?_
          refine WR.done rfl ?_
          exact ih m (Nat.lt_succ_self m) _ _ ⟨w64 (x + 1), hE.sel [0, 1, 7, 8] (by kernel_rfl), H.t1, hm⟩
      · replace hm := cond_f c hm
        refine Runs.exit rfl ?_
        cases hm
        exact hk _ _ ⟨_, rfl, hE.sel [] (by kernel_rfl), H.t1.t1⟩
  rintro a w ⟨s2, rfl, hE, H⟩
  replace hm := hR; dsimp only at hm
  refine Runs.seq ?_
  refine Runs.region ?_
  refine WR.seg hE 1 [] [4] (Lo := [(4, .int .i64 (-1))]) (obs := []) rfl (by kernel_rfl) trivial fun a hE => ?_
  refine WR.done rfl ?_
  refine Runs.ret hE Tryz.func88 rfl rfl ?_
  cases hm
  exact ⟨rfl, H.t1.t1⟩

theorem slices_DeleteFunc_int_g77_ok {w0 w : World} {As : List HP} {k : Nat} {sb_s : Option Addr} {sc_s : Nat} {s : List Int} {v_ : Int} {r : Nat} {t : (List Int)}  (hm : slices_DeleteFunc_int_g77 k s v_ = some t) (H : St w0 (Sl 3 ecI 1 sb_s sc_s s :: Blk r 3 [.int .i64 v_] :: As) w) :
    CallsR Tryz.prog 76 #[.slice sb_s s.length sc_s, .func (.func 77) #[] #[.pointer (some ⟨r, 0, none⟩)]] w fun v w' => ∃ (sb0 : Option Addr), ∃ (sc0 : Nat), v = .slice sb0 t.length sc0 ∧ St w0 (Sl 3 ecI 1 sb0 sc0 t :: Blk r 3 [.int .i64 v_] :: As) w' := by
  rw [slices_DeleteFunc_int_g77] at hm
  refine enter (args := [.slice sb_s s.length sc_s, .func (.func 77) #[] #[.pointer (some ⟨r, 0, none⟩)]]) Tryz.func76 rfl rfl rfl fun a hE => ?_
  refine Runs.seq ?_
  refine Runs.region ?_
  refine WR.seg hE 1 [] [0, 1] (Lo := [(0, .slice sb_s s.length sc_s), (1, .func (.func 77) #[] #[.pointer (some ⟨r, 0, none⟩)])]) (obs := []) rfl (by kernel_rfl) trivial fun a hE => ?_
  refine WR.done rfl ?_
  refine Runs.seq ?_
  refine Runs.region ?_
  refine WR.seg hE 2 [] [0, 1, 8, 9] (Lo := [(0, .slice sb_s s.length sc_s), (1, .func (.func 77) #[] #[.pointer (some ⟨r, 0, none⟩)]), (8, .slice sb_s s.length sc_s), (9, .func (.func 77) #[] #[.pointer (some ⟨r, 0, none⟩)])]) (obs := []) rfl (by kernel_rfl) trivial fun a hE => ?_
  obtain ⟨t_, et_, hm⟩ := bind_some hm
  replace H := H.t1.t1
  refine WR.eff hE rfl rfl rfl rfl (OpTo.fn hE rfl rfl Tryz.call88 (slices_IndexFunc_int_g77_ok (hX_s := (sl_rd 3 ecI 1 _ _ _)) (hC_s := (H.slCap 0 rfl).1) et_ H)) ?_
  rintro _ w ⟨rfl, H⟩ a hE
  refine WR.seg hE 4 [] [0, 1, 5] (Lo := [(0, .slice sb_s s.length sc_s), (1, .func (.func 77) #[] #[.pointer (some ⟨r, 0, none⟩)]), (5, .int .i64 t_)]) (obs := []) rfl (by kernel_rfl) trivial fun a hE => ?_
  refine WR.done rfl ?_
  refine Runs.seq ?_
  refine Runs.seq ?_
  refine Runs.region ?_
  refine WR.seg hE 2 [] [0, 1, 5, 12] (Lo := [(0, .slice sb_s s.length sc_s), (1, .func (.func 77) #[] #[.pointer (some ⟨r, 0, none⟩)]), (5, .int .i64 t_), (12, .bool (t_ == (-1)))]) (obs := []) rfl (by kernel_rfl) trivial fun a hE => ?_
  refine WR.done rfl ?_
  refine Runs.cond hE rfl (fun c => ?_) (fun c => ?_)
  · replace hm := cond_t c hm
    refine Runs.seq ?_
    refine Runs.region ?_
    refine WR.seg hE 2 [] [4] (Lo := [(4, .slice sb_s s.length sc_s)]) (obs := []) rfl (by kernel_rfl) trivial fun a hE => ?_
    refine WR.done rfl ?_
    refine Runs.ret hE Tryz.func76 rfl rfl ?_
    cases hm
    exact ⟨sb_s, sc_s, rfl, H.t1.t1⟩
  · replace hm := cond_f c hm
    refine Runs.skip ?_
    refine Runs.seq ?_
    refine Runs.seq ?_
    refine Runs.region ?_
    refine WR.seg hE 3 [] [0, 1, 5, 6] (Lo := [(0, .slice sb_s s.length sc_s), (1, .func (.func 77) #[] #[.pointer (some ⟨r, 0, none⟩)]), (5, .int .i64 t_), (6, .int .i64 (w64 (t_ + 1)))]) (obs := []) rfl (by kernel_rfl) trivial fun a hE => ?_
    refine WR.done rfl ?_
    obtain ⟨s1, es1, hm⟩ := bind_some hm
    refine Runs.join (fun a w => EnvOk 42 a [(0, .slice sb_s s1.2.length sc_s), (5, .int .i64 s1.1)] ∧ St w0 (Sl 3 ecI 1 sb_s sc_s s1.2 :: Blk r 3 [.int .i64 v_] :: As) w) (fun hk => ?_) ?_
    · replace hm := es1; clear es1
      refine Runs.block ?_
      refine Runs.loop (fun m a w => ∃ (i : Int), ∃ (j : Int), ∃ (m_ : List Int), EnvOk 42 a [(0, .slice sb_s m_.length sc_s), (1, .func (.func 77) #[] #[.pointer (some ⟨r, 0, none⟩)]), (5, .int .i64 i), (6, .int .i64 j)] ∧ St w0 (Sl 3 ecI 1 sb_s sc_s m_ :: Blk r 3 [.int .i64 v_] :: As) w ∧ slices_DeleteFunc_int_g77_l0 v_ m i j m_ = some s1) k ⟨t_, w64 (t_ + 1), s, hE.sel [0, 1, 5, 6] (by kernel_rfl), H.t1.t1, hm⟩ ?_
      rintro m ih a w ⟨i, j, m_, hE, H, hm⟩
      cases m with
      | zero => simp [slices_DeleteFunc_int_g77_l0] at hm
      | succ m =>
        rw [slices_DeleteFunc_int_g77_l0] at hm
        refine Runs.seq ?_
        refine Runs.seq ?_
        refine Runs.region ?_
        refine WR.seg hE 4 [] [0, 1, 5, 6, 19] (Lo := [(0, .slice sb_s m_.length sc_s), (1, .func (.func 77) #[] #[.pointer (some ⟨r, 0, none⟩)]), (5, .int .i64 i), (6, .int .i64 j), (19, .bool (decide (j < (m_.length : Int))))]) (obs := []) rfl (by kernel_rfl) trivial fun a hE => ?_
        refine WR.done rfl ?_
        refine Runs.cond hE rfl (fun c => ?_) (fun c => ?_)
        · replace hm := cond_t c hm
          refine Runs.skip ?_
          refine Runs.seq ?_
          obtain ⟨s2, es2, hm⟩ := bind_some hm
          refine Runs.join (fun a w => EnvOk 42 a [(0, .slice sb_s s2.2.length sc_s), (1, .func (.func 77) #[] #[.pointer (some ⟨r, 0, none⟩)]), (5, .int .i64 s2.1), (6, .int .i64 j)] ∧ St w0 (Sl 3 ecI 1 sb_s sc_s s2.2 :: Blk r 3 [.int .i64 v_] :: As) w) (fun hk => ?_) ?_
          · replace hm := es2; clear es2
            refine Runs.block ?_
            refine Runs.seq ?_
            refine Runs.region ?_
            obtain ⟨x, ex, hm⟩ := bind_some hm
            obtain ⟨b, o, hs, hb⟩ := SlRd.base (sl_rd 3 ecI 1 _ _ _) ecI_ok H 0 rfl ex
            refine WR.seg hE 5 [.pointer (some ⟨b, o, none⟩), .int .i64 x] [0, 1, 5, 6, 7] (Lo := [(0, .slice sb_s m_.length sc_s), (1, .func (.func 77) #[] #[.pointer (some ⟨r, 0, none⟩)]), (5, .int .i64 i), (6, .int .i64 j), (7, .int .i64 x)]) (obs := [.p ((sb_s : Option Addr) = some ⟨b, o, none⟩), .p (0 ≤ (j : Int) ∧ (j : Int) < ((m_.length : Nat) : Int)), .cell ⟨b, o + (Int.toNat j) * 1, none⟩ (.int .i64 x)]) rfl (by kernel_rfl) ⟨hs, hb, SlRd.cells (sl_rd 3 ecI 1 _ _ _) ecI_ok H 0 rfl hs ex 0 _ rfl, trivial⟩ fun a hE => ?_
            refine WR.done rfl ?_
            refine Runs.seq ?_
            refine Runs.region ?_
            refine WR.seg hE 2 [] [0, 1, 5, 6, 7, 26, 27] (Lo := [(0, .slice sb_s m_.length sc_s), (1, .func (.func 77) #[] #[.pointer (some ⟨r, 0, none⟩)]), (5, .int .i64 i), (6, .int .i64 j), (7, .int .i64 x), (26, .func (.func 77) #[] #[.pointer (some ⟨r, 0, none⟩)]), (27, .int .i64 x)]) (obs := []) rfl (by kernel_rfl) trivial fun a hE => ?_
            obtain ⟨t_1, et_1, hm⟩ := bind_some hm
            refine WR.eff hE rfl rfl rfl rfl (OpTo.fv hE rfl rfl rfl Tryz.call77 (skew_without_f1_ok et_1 H.t1)) ?_
            rintro _ w ⟨rfl, H⟩ a hE
            refine WR.seg hE 4 [] [0, 1, 5, 6, 7, 29] (Lo := [(0, .slice sb_s m_.length sc_s), (1, .func (.func 77) #[] #[.pointer (some ⟨r, 0, none⟩)]), (5, .int .i64 i), (6, .int .i64 j), (7, .int .i64 x), (29, .bool (!t_1))]) (obs := []) rfl (by kernel_rfl) trivial fun a hE => ?_
            refine WR.done rfl ?_
            refine Runs.cond hE rfl (fun c => ?_) (fun c => ?_)
            · replace hm := cond_t c hm
              refine Runs.seq ?_
              refine Runs.region ?_
              obtain ⟨x1, ex1, hm⟩ := bind_some hm
              obtain ⟨b1, o1, hs1, hb1⟩ := SlRd.base (sl_rd 3 ecI 1 _ _ _) ecI_ok H 1 rfl ex1
              refine WR.seg hE 4 [.pointer (some ⟨b1, o1, none⟩)] [0, 1, 5, 6, 32, 33] (Lo := [(0, .slice sb_s m_.length sc_s), (1, .func (.func 77) #[] #[.pointer (some ⟨r, 0, none⟩)]), (5, .int .i64 i), (6, .int .i64 j), (32, .int .i64 x), (33, .pointer (some ⟨b1, o1 + (Int.toNat i) * 1, none⟩))]) (obs := [.p ((sb_s : Option Addr) = some ⟨b1, o1, none⟩), .p (0 ≤ (i : Int) ∧ (i : Int) < ((m_.length : Nat) : Int))]) rfl (by kernel_rfl) ⟨hs1, hb1, trivial⟩ fun a hE => ?_
              refine WR.eff0 hE rfl rfl rfl (OpTo.storeSl (q := 0) (x' := x) hE H.t1 ecI_ok rfl hs1 ex1 rfl rfl rfl rfl rfl (Nat.le_of_ble_eq_true rfl) rfl) ?_
              rintro _ w H a hE
              try rw [← mSet_len m_ i x] at hE
              refine WR.done rfl ?_
              refine Runs.region ?_
              refine WR.seg hE 3 [] [0, 1, 5, 6] (Lo := [(0, .slice sb_s ((mSet m_ i x).length) sc_s), (1, .func (.func 77) #[] #[.pointer (some ⟨r, 0, none⟩)]), (5, .int .i64 (w64 (i + 1))), (6, .int .i64 j)]) (obs := []) rfl (by kernel_rfl) trivial fun a hE => ?_
              refine WR.done rfl ?_
              refine Runs.inBlock ?_
              cases hm
              exact hk _ _ ⟨hE.sel [0, 1, 5, 6] (by kernel_rfl), H.t1.t1⟩
            · replace hm := cond_f c hm
              refine Runs.skip ?_
              refine Runs.inBlock ?_
              cases hm
              exact hk _ _ ⟨hE.sel [0, 1, 5, 6] (by kernel_rfl), H.t1⟩
          rintro a w ⟨hE, H⟩
          refine Runs.region ?_
          refine WR.seg hE 3 [] [0, 1, 5, 6] (Lo := [(0, .slice sb_s s2.2.length sc_s), (1, .func (.func 77) #[] #[.pointer (some ⟨r, 0, none⟩)]), (5, .int .i64 s2.1), (6, .int .i64 (w64 (j + 1)))]) (obs := []) rfl (by kernel_rfl) trivial fun a hE => ?_
          refine WR.done rfl ?_
          exact ih m (Nat.lt_succ_self m) _ _ ⟨s2.1, w64 (j + 1), s2.2, hE.sel [0, 1, 5, 6] (by kernel_rfl), H.t1.t1, hm⟩
        · replace hm := cond_f c hm
          refine Runs.exit rfl ?_
          cases hm
          exact hk _ _ ⟨hE.sel [0, 5] (by kernel_rfl), H.t1.t1⟩
    rintro a w ⟨hE, H⟩
    refine Runs.seq ?_
    refine Runs.region ?_
    obtain ⟨l, el, hm⟩ := bind_some hm
    obtain ⟨sb, q⟩ : ∃ z, rebase sb_s sc_s (Int.toNat s1.1) 1 = z := ⟨_, rfl⟩
    obtain ⟨sc, q1⟩ : ∃ z, sc_s - (Int.toNat s1.1) = z := ⟨_, rfl⟩
    refine WR.seg hE 3 [.slice sb l.length sc] [0, 5, 38] (Lo := [(0, .slice sb_s s1.2.length sc_s), (5, .int .i64 s1.1), (38, .slice sb l.length sc)]) (obs := [.p (rebase sb_s sc_s (Int.toNat s1.1) 1 = sb), .p (s1.2.length - (Int.toNat s1.1) = l.length), .p (sc_s - (Int.toNat s1.1) = sc), .p (0 ≤ (s1.1 : Int) ∧ (s1.1 : Int) ≤ ((s1.2.length : Nat) : Int))]) rfl (by kernel_rfl) ⟨q, cut_len el, q1, cut_bd0 el, trivial⟩ fun a hE => ?_
    refine WR.eff0 hE rfl rfl rfl (OpTo.clearSl (z := 0) hE H ecI_ok el q q1 rfl rfl rfl rfl rfl rfl) ?_
    rintro _ w ⟨_, H⟩ a hE
    try rw [← mClear_len (z := 0) el] at hE
    refine WR.done rfl ?_
    refine Runs.seq ?_
    refine Runs.region ?_
    obtain ⟨l1, el1, hm⟩ := bind_some hm
    obtain ⟨sb1, q2⟩ : ∃ z, rebase sb_s sc_s (Int.toNat 0) 1 = z := ⟨_, rfl⟩
    obtain ⟨sc1, q3⟩ : ∃ z, sc_s - (Int.toNat 0) = z := ⟨_, rfl⟩
    refine WR.seg hE 4 [.slice sb1 l1.length sc1] [4] (Lo := [(4, .slice sb1 l1.length sc1)]) (obs := [.p (rebase sb_s sc_s 0 1 = sb1), .p ((Int.toNat s1.1) - 0 = l1.length), .p (sc_s - 0 = sc1), .p (0 ≤ (s1.1 : Int) ∧ (s1.1 : Int) ≤ ((sc_s : Nat) : Int))]) rfl (by kernel_rfl) ⟨q2, cut_len el1, q3, cut_cap el1 (H.slCap 0 rfl).1, trivial⟩ fun a hE => ?_
    refine WR.done rfl ?_
    replace H := H.slCut' ecI_ok el1 q2 q3
    refine Runs.ret hE Tryz.func76 rfl rfl ?_
    cases hm
    exact ⟨sb1, sc1, rfl, H.t1.t1⟩

theorem node_End_ok {w0 w : World} {As : List HP} {p_a_ : Nat} {al_a_ : arena_Arena.A} {a_ : arena_Arena} {n : Int} {t : Int × arena_Arena}  (hm : node_End a_ n = some t) (H : St w0 (arena_Arena.R p_a_ al_a_ a_ :: As) w) :
    CallsR Tryz.prog 78 #[.pointer (some ⟨p_a_, 0, none⟩), .int .i64 n] w fun v w' => ∃ (z_a__free_b : Option Addr), ∃ (z_a__free_c : Nat), v = .int .i64 t.1 ∧ St w0 (arena_Arena.R p_a_ (arena_Arena.A.mk al_a_.l_b al_a_.l_c z_a__free_b z_a__free_c al_a_.m__p) t.2 :: As) w' := by
  rw [node_End] at hm
  refine enter (args := [.pointer (some ⟨p_a_, 0, none⟩), .int .i64 n]) Tryz.func78 rfl rfl rfl fun a hE => ?_
  refine Runs.seq ?_
  refine Runs.region ?_
  refine WR.seg hE 1 [] [0, 1] (Lo := [(0, .pointer (some ⟨p_a_, 0, none⟩)), (1, .int .i64 n)]) (obs := []) rfl (by kernel_rfl) trivial fun a hE => ?_
  refine WR.done rfl ?_
  refine Runs.seq ?_
  refine Runs.region ?_
  refine WR.seg hE 2 [] [0, 1, 6, 7] (Lo := [(0, .pointer (some ⟨p_a_, 0, none⟩)), (1, .int .i64 n), (6, .pointer (some ⟨p_a_, 0, none⟩)), (7, .int .i64 n)]) (obs := []) rfl (by kernel_rfl) trivial fun a hE => ?_
  obtain ⟨t_, et_, hm⟩ := bind_some hm
  refine WR.eff hE rfl rfl rfl rfl (OpTo.fn hE rfl rfl Tryz.call45 (arena_Arena_Cell_ok et_ H)) ?_
  rintro _ w ⟨rfl, H⟩ a hE
  refine WR.seg hE 4 [] [0, 1, 5] (Lo := [(0, .pointer (some ⟨p_a_, 0, none⟩)), (1, .int .i64 n), (5, .int .i64 t_.1)]) (obs := []) rfl (by kernel_rfl) trivial fun a hE => ?_
  refine WR.done rfl ?_
  refine Runs.seq ?_
  refine Runs.region ?_
  refine WR.seg hE 2 [] [0, 1, 5, 9, 10] (Lo := [(0, .pointer (some ⟨p_a_, 0, none⟩)), (1, .int .i64 n), (5, .int .i64 t_.1), (9, .pointer (some ⟨p_a_, 0, none⟩)), (10, .int .i64 t_.1)]) (obs := []) rfl (by kernel_rfl) trivial fun a hE => ?_
  obtain ⟨t_1, et_1, hm⟩ := bind_some hm
  refine WR.eff hE rfl rfl rfl rfl (OpTo.fn hE rfl rfl Tryz.call39 (arena_Arena_Set_ok et_1 H)) ?_
  rintro _ w ⟨rfl, hf, H⟩ a hE
  refine WR.done rfl ?_
  refine Runs.seq ?_
  refine Runs.region ?_
  refine WR.seg hE 2 [] [5, 12, 13] (Lo := [(5, .int .i64 t_.1), (12, .pointer (some ⟨p_a_, 0, none⟩)), (13, .int .i64 n)]) (obs := []) rfl (by kernel_rfl) trivial fun a hE => ?_
  obtain ⟨t_2, et_2, hm⟩ := bind_some hm
  refine WR.eff hE rfl rfl rfl rfl (OpTo.fn hE rfl rfl Tryz.call21 (arena_Arena_Give_ok et_2 H)) ?_
  rintro _ w ⟨z, z1, rfl, H⟩ a hE
  refine WR.done rfl ?_
  refine Runs.seq ?_
  refine Runs.region ?_
  refine WR.seg hE 2 [] [4] (Lo := [(4, .int .i64 t_.1)]) (obs := []) rfl (by kernel_rfl) trivial fun a hE => ?_
  refine WR.done rfl ?_
  refine Runs.ret hE Tryz.func78 rfl rfl ?_
  cases hm
  exact ⟨z, z1, rfl, H⟩

theorem trees_Carry_f1_ok {w0 w : World} {As : List HP} {x : trees_ranked} {y : trees_ranked} {t : Int}  (hm : trees_Carry_f1 x y = some t) (H : St w0 (As) w) :
    CallsR Tryz.prog 80 #[.agg #[.int .i64 x.n, .int .i64 x.rank], .agg #[.int .i64 y.n, .int .i64 y.rank]] w fun v w' => v = .int .i64 t ∧ St w0 (As) w' := by
  rw [trees_Carry_f1] at hm
  refine enter (args := [.agg #[.int .i64 x.n, .int .i64 x.rank], .agg #[.int .i64 y.n, .int .i64 y.rank]]) Tryz.func80 rfl rfl rfl fun a hE => ?_
  refine Runs.seq ?_
  refine Runs.region ?_
  refine WR.eff hE rfl rfl rfl rfl (OpTo.new hE H [] (.cells #[.int .i64 x.n, .int .i64 x.rank] 100 (0, 0)) (fun r => .pointer (some ⟨r, 0, none⟩)) (obs := []) rfl (fun _ => by kernel_rfl) trivial) ?_
  rintro _ w ⟨r, rfl, H⟩ a hE
  refine WR.eff hE rfl rfl rfl rfl (OpTo.new hE H [] (.cells #[.int .i64 y.n, .int .i64 y.rank] 100 (0, 0)) (fun r => .pointer (some ⟨r, 0, none⟩)) (obs := []) rfl (fun _ => by kernel_rfl) trivial) ?_
  rintro _ w ⟨r1, rfl, H⟩ a hE
  refine WR.seg hE 3 [] [2, 3] (Lo := [(2, .pointer (some ⟨r, 0, none⟩)), (3, .pointer (some ⟨r1, 0, none⟩))]) (obs := []) rfl (by kernel_rfl) trivial fun a hE => ?_
  refine WR.done rfl ?_
  refine Runs.seq ?_
  refine Runs.region ?_
  refine WR.seg hE 8 [.int .i64 x.rank, .int .i64 y.rank] [4] (Lo := [(4, .int .i64 (if (if 1 < w64 (x.rank - y.rank) then 1 else w64 (x.rank - y.rank)) > (-1) then (if 1 < w64 (x.rank - y.rank) then 1 else w64 (x.rank - y.rank)) else (-1)))]) (obs := [.cell ⟨r, 1, none⟩ (.int .i64 x.rank), .cell ⟨r1, 1, none⟩ (.int .i64 y.rank)]) rfl (by kernel_rfl) ⟨H.cell 1 rfl rfl, H.cell 0 rfl rfl, trivial⟩ fun a hE => ?_
  refine WR.done rfl ?_
  refine Runs.ret hE Tryz.func80 rfl rfl ?_
  cases hm
  exact ⟨rfl, H.x1.x0⟩

theorem slices_insertionSortCmpFunc_trees_ranked_g80_ok {w0 w : World} {As : List HP} {k : Nat} {sb_data : Option Addr} {sc_data : Nat} {data : List trees_ranked} {a_ : Int} {b : Int} {t : (List trees_ranked)}  (hm : slices_insertionSortCmpFunc_trees_ranked_g80 k data a_ b = some t) (H : St w0 (Sl 100 trees_ranked.enc 2 sb_data sc_data data :: As) w) :
    CallsR Tryz.prog 104 #[.slice sb_data data.length sc_data, .int .i64 a_, .int .i64 b, .func (.func 80) #[] #[]] w fun v w' => v = .tuple #[] ∧ t.length = data.length ∧ St w0 (Sl 100 trees_ranked.enc 2 sb_data sc_data t :: As) w' := by
  rw [slices_insertionSortCmpFunc_trees_ranked_g80] at hm
  refine enter (args := [.slice sb_data data.length sc_data, .int .i64 a_, .int .i64 b, .func (.func 80) #[] #[]]) Tryz.func104 rfl rfl rfl fun a hE => ?_
  refine Runs.seq ?_
  refine Runs.region ?_
  refine WR.seg hE 3 [] [0, 1, 2, 3, 8] (Lo := [(0, .slice sb_data data.length sc_data), (1, .int .i64 a_), (2, .int .i64 b), (3, .func (.func 80) #[] #[]), (8, .int .i64 (w64 (a_ + 1)))]) (obs := []) rfl (by kernel_rfl) trivial fun a hE => ?_
  refine WR.done rfl ?_
  obtain ⟨s, es, hm⟩ := bind_some hm
  refine Runs.join (fun a w => EnvOk 53 a [] ∧ St w0 (Sl 100 trees_ranked.enc 2 sb_data sc_data s :: As) w) (fun hk => ?_) ?_
  · replace hm := es; clear es
    refine Runs.block ?_
    refine Runs.loop (fun m a w => ∃ (i : Int), ∃ (m_ : List trees_ranked), EnvOk 53 a [(0, .slice sb_data m_.length sc_data), (1, .int .i64 a_), (2, .int .i64 b), (3, .func (.func 80) #[] #[]), (8, .int .i64 i)] ∧ St w0 (Sl 100 trees_ranked.enc 2 sb_data sc_data m_ :: As) w ∧ slices_insertionSortCmpFunc_trees_ranked_g80_l0 a_ b m i m_ = some s) k ⟨w64 (a_ + 1), data, hE.sel [0, 1, 2, 3, 8] (by kernel_rfl), H, hm⟩ ?_
    rintro m ih a w ⟨i, m_, hE, H, hm⟩
    cases m with
    | zero => simp [slices_insertionSortCmpFunc_trees_ranked_g80_l0] at hm
    | succ m =>
      rw [slices_insertionSortCmpFunc_trees_ranked_g80_l0] at hm
      refine Runs.seq ?_
      refine Runs.seq ?_
      refine Runs.region ?_
      refine WR.seg hE 3 [] [0, 1, 2, 3, 8, 14] (Lo := [(0, .slice sb_data m_.length sc_data), (1, .int .i64 a_), (2, .int .i64 b), (3, .func (.func 80) #[] #[]), (8, .int .i64 i), (14, .bool (decide (i < b)))]) (obs := []) rfl (by kernel_rfl) trivial fun a hE => ?_
      refine WR.done rfl ?_
      refine Runs.cond hE rfl (fun c => ?_) (fun c => ?_)
      · replace hm := cond_t c hm
        refine Runs.skip ?_
        refine Runs.seq ?_
        refine Runs.block ?_
        refine Runs.seq ?_
        refine Runs.region ?_
        refine WR.seg hE 2 [] [0, 1, 2, 3, 8, 9] (Lo := [(0, .slice sb_data m_.length sc_data), (1, .int .i64 a_), (2, .int .i64 b), (3, .func (.func 80) #[] #[]), (8, .int .i64 i), (9, .int .i64 i)]) (obs := []) rfl (by kernel_rfl) trivial fun a hE => ?_
        refine WR.done rfl ?_
        obtain ⟨s1, es1, hm⟩ := bind_some hm
        refine Runs.join (fun a w => EnvOk 53 a [(0, .slice sb_data s1.length sc_data), (1, .int .i64 a_), (2, .int .i64 b), (3, .func (.func 80) #[] #[]), (8, .int .i64 i)] ∧ St w0 (Sl 100 trees_ranked.enc 2 sb_data sc_data s1 :: As) w) (fun hk => ?_) ?_
        · replace hm := es1; clear es1
          refine Runs.block ?_
          refine Runs.loop (fun m a w => ∃ (j : Int), ∃ (m_1 : List trees_ranked), EnvOk 53 a [(0, .slice sb_data m_1.length sc_data), (1, .int .i64 a_), (2, .int .i64 b), (3, .func (.func 80) #[] #[]), (8, .int .i64 i), (9, .int .i64 j)] ∧ St w0 (Sl 100 trees_ranked.enc 2 sb_data sc_data m_1 :: As) w ∧ slices_insertionSortCmpFunc_trees_ranked_g80_l1 a_ b i m j m_1 = some s1) m ⟨i, m_, hE.sel [0, 1, 2, 3, 8, 9] (by kernel_rfl), H, hm⟩ ?_
          rintro m ih a w ⟨j, m_1, hE, H, hm⟩
          cases m with
          | zero => simp [slices_insertionSortCmpFunc_trees_ranked_g80_l1] at hm
          | succ m =>
            rw [slices_insertionSortCmpFunc_trees_ranked_g80_l1] at hm
            refine Runs.seq ?_
            refine Runs.seq ?_
            obtain ⟨s2, es2, hm⟩ := bind_some hm
            refine Runs.join (fun a w => EnvOk 53 a [(0, .slice sb_data m_1.length sc_data), (1, .int .i64 a_), (2, .int .i64 b), (3, .func (.func 80) #[] #[]), (8, .int .i64 i), (9, .int .i64 j), (34, .bool s2)] ∧ St w0 (Sl 100 trees_ranked.enc 2 sb_data sc_data m_1 :: As) w) (fun hk => ?_) ?_
            · replace hm := es2; clear es2
              refine Runs.drawn mixed (by kernel_rfl) ?_
              replace H := H.drew
              refine WQ.seg hE [0, 1, 2, 3] [] [0, 1, 2, 3, 8, 9, 21] (Lo := [(0, .slice sb_data m_1.length sc_data), (1, .int .i64 a_), (2, .int .i64 b), (3, .func (.func 80) #[] #[]), (8, .int .i64 i), (9, .int .i64 j), (21, .bool (decide (j > a_)))]) (obs := []) (by kernel_rfl) (by kernel_rfl) trivial fun a hE => ?_
              rcases Bool.eq_false_or_eq_true (decide (j > a_)) with c | c
              · replace hE := hE.dec 21 c (by kernel_rfl)
                replace hm := cond_t c hm
                have c_ := c
                obtain ⟨x1, ex1, hm⟩ := bind_some hm
                obtain ⟨b4, o1, hs1, hb1⟩ := SlRd.base (sl_rd 100 trees_ranked.enc 2 _ _ _) trees_ranked.enc_ok H 0 rfl ex1
                obtain ⟨x2, ex2, hm⟩ := bind_some hm
                obtain ⟨b5, o2, hs2, hb2⟩ := SlRd.base (sl_rd 100 trees_ranked.enc 2 _ _ _) trees_ranked.enc_ok H 0 rfl ex2
                refine WQ.seg hE [4, 5, 6, 7, 8, 9, 10, 11, 12, 13] [.pointer (some ⟨b4, o1, none⟩), .int .i64 x1.n, .int .i64 x1.rank, .pointer (some ⟨b5, o2, none⟩), .int .i64 x2.n, .int .i64 x2.rank] [0, 1, 2, 3, 8, 9, 21, 22, 26, 31] (Lo := [(0, .slice sb_data m_1.length sc_data), (1, .int .i64 a_), (2, .int .i64 b), (3, .func (.func 80) #[] #[]), (8, .int .i64 i), (9, .int .i64 j), (21, .bool true), (22, .func (.func 80) #[] #[]), (26, .agg #[.int .i64 x1.n, .int .i64 x1.rank]), (31, .agg #[.int .i64 x2.n, .int .i64 x2.rank])]) (obs := [.p ((sb_data : Option Addr) = some ⟨b4, o1, none⟩), .p (0 ≤ (j : Int) ∧ (j : Int) < ((m_1.length : Nat) : Int)), .cell ⟨b4, o1 + (Int.toNat j) * 2, none⟩ (.int .i64 x1.n), .cell ⟨b4, o1 + (Int.toNat j) * 2 + 1, none⟩ (.int .i64 x1.rank), .p ((sb_data : Option Addr) = some ⟨b5, o2, none⟩), .p (0 ≤ ((w64 (j - 1)) : Int) ∧ ((w64 (j - 1)) : Int) < ((m_1.length : Nat) : Int)), .cell ⟨b5, o2 + (Int.toNat (w64 (j - 1))) * 2, none⟩ (.int .i64 x2.n), .cell ⟨b5, o2 + (Int.toNat (w64 (j - 1))) * 2 + 1, none⟩ (.int .i64 x2.rank)]) (by kernel_rfl) (by kernel_rfl) ⟨hs1, hb1, SlRd.cells (sl_rd 100 trees_ranked.enc 2 _ _ _) trees_ranked.enc_ok H 0 rfl hs1 ex1 0 _ rfl, SlRd.cells (sl_rd 100 trees_ranked.enc 2 _ _ _) trees_ranked.enc_ok H 0 rfl hs1 ex1 1 _ rfl, hs2, hb2, SlRd.cells (sl_rd 100 trees_ranked.enc 2 _ _ _) trees_ranked.enc_ok H 0 rfl hs2 ex2 0 _ rfl, SlRd.cells (sl_rd 100 trees_ranked.enc 2 _ _ _) trees_ranked.enc_ok H 0 rfl hs2 ex2 1 _ rfl, trivial⟩ fun a hE => ?_
                obtain ⟨t_, et_, hm⟩ := bind_some hm
                refine WQ.eff (j := 14) (obs := []) hE (by kernel_rfl) rfl rfl rfl rfl (by kernel_rfl) (OpTo.fv hE rfl rfl rfl Tryz.call80 (trees_Carry_f1_ok et_ H)) ?_
                rintro _ w ⟨rfl, H⟩
                refine ⟨trivial, fun a hE => ?_⟩
                refine WQ.seg hE [15, 16] [] [0, 1, 2, 3, 8, 9, 34] (Lo := [(0, .slice sb_data m_1.length sc_data), (1, .int .i64 a_), (2, .int .i64 b), (3, .func (.func 80) #[] #[]), (8, .int .i64 i), (9, .int .i64 j), (34, .bool (decide (t_ < 0)))]) (obs := []) (by kernel_rfl) (by kernel_rfl) trivial fun a hE => ?_
                refine WQ.done (by kernel_rfl) ?_
                cases hm
                exact hk _ _ ⟨hE.sel [0, 1, 2, 3, 8, 9, 34] (by kernel_rfl), H⟩
              · replace hE := hE.dec 21 c (by kernel_rfl)
                replace hm := cond_f c hm
                have c_1 := c
                refine WQ.seg hE [4, 5, 6, 7, 8, 9, 10, 11, 12, 13, 14, 15, 16] [] [0, 1, 2, 3, 8, 9, 34] (Lo := [(0, .slice sb_data m_1.length sc_data), (1, .int .i64 a_), (2, .int .i64 b), (3, .func (.func 80) #[] #[]), (8, .int .i64 i), (9, .int .i64 j), (34, .bool false)]) (obs := []) (by kernel_rfl) (by kernel_rfl) trivial fun a hE => ?_
                refine WQ.done (by kernel_rfl) ?_
                cases hm
                exact hk _ _ ⟨hE.sel [0, 1, 2, 3, 8, 9, 34] (by kernel_rfl), H⟩
            rintro a w ⟨hE, H⟩
            refine Runs.cond hE rfl (fun c => ?_) (fun c => ?_)
            · replace hm := cond_t c hm
              refine Runs.skip ?_
              refine Runs.seq ?_
              refine Runs.block ?_
              refine Runs.drawn mixed (by kernel_rfl) ?_
              replace H := H.drew
              obtain ⟨x3, ex3, hm⟩ := bind_some hm
              obtain ⟨b6, o3, hs3, hb3⟩ := SlRd.base (sl_rd 100 trees_ranked.enc 2 _ _ _) trees_ranked.enc_ok H 0 rfl ex3
              obtain ⟨x4, ex4, hm⟩ := bind_some hm
              obtain ⟨b7, o4, hs4, hb4⟩ := SlRd.base (sl_rd 100 trees_ranked.enc 2 _ _ _) trees_ranked.enc_ok H 0 rfl ex4
              obtain ⟨x5, ex5, hm⟩ := bind_some hm
              obtain ⟨b8, o5, hs5, hb5⟩ := SlRd.base (sl_rd 100 trees_ranked.enc 2 _ _ _) trees_ranked.enc_ok H 0 rfl ex5
              refine WQ.seg hE [0, 1, 2, 3, 4, 5, 6, 7, 8, 9, 10, 11, 12, 13, 14] [.pointer (some ⟨b6, o3, none⟩), .int .i64 x3.n, .int .i64 x3.rank, .pointer (some ⟨b7, o4, none⟩), .int .i64 x4.n, .int .i64 x4.rank, .pointer (some ⟨b8, o5, none⟩)] [0, 1, 2, 3, 8, 9, 39, 41, 46, 50, 51] (Lo := [(0, .slice sb_data m_1.length sc_data), (1, .int .i64 a_), (2, .int .i64 b), (3, .func (.func 80) #[] #[]), (8, .int .i64 i), (9, .int .i64 j), (39, .slice sb_data m_1.length sc_data), (41, .int .i64 (w64 (j - 1))), (46, .agg #[.int .i64 x3.n, .int .i64 x3.rank]), (50, .agg #[.int .i64 x4.n, .int .i64 x4.rank]), (51, .pointer (some ⟨b8, o5 + (Int.toNat j) * 2, none⟩))]) (obs := [.p ((sb_data : Option Addr) = some ⟨b6, o3, none⟩), .p (0 ≤ ((w64 (j - 1)) : Int) ∧ ((w64 (j - 1)) : Int) < ((m_1.length : Nat) : Int)), .cell ⟨b6, o3 + (Int.toNat (w64 (j - 1))) * 2, none⟩ (.int .i64 x3.n), .cell ⟨b6, o3 + (Int.toNat (w64 (j - 1))) * 2 + 1, none⟩ (.int .i64 x3.rank), .p ((sb_data : Option Addr) = some ⟨b7, o4, none⟩), .p (0 ≤ (j : Int) ∧ (j : Int) < ((m_1.length : Nat) : Int)), .cell ⟨b7, o4 + (Int.toNat j) * 2, none⟩ (.int .i64 x4.n), .cell ⟨b7, o4 + (Int.toNat j) * 2 + 1, none⟩ (.int .i64 x4.rank), .p ((sb_data : Option Addr) = some ⟨b8, o5, none⟩), .p (0 ≤ (j : Int) ∧ (j : Int) < ((m_1.length : Nat) : Int))]) (by kernel_rfl) (by kernel_rfl) ⟨hs3, hb3, SlRd.cells (sl_rd 100 trees_ranked.enc 2 _ _ _) trees_ranked.enc_ok H 0 rfl hs3 ex3 0 _ rfl, SlRd.cells (sl_rd 100 trees_ranked.enc 2 _ _ _) trees_ranked.enc_ok H 0 rfl hs3 ex3 1 _ rfl, hs4, hb4, SlRd.cells (sl_rd 100 trees_ranked.enc 2 _ _ _) trees_ranked.enc_ok H 0 rfl hs4 ex4 0 _ rfl, SlRd.cells (sl_rd 100 trees_ranked.enc 2 _ _ _) trees_ranked.enc_ok H 0 rfl hs4 ex4 1 _ rfl, hs5, hb5, trivial⟩ fun a hE => ?_
              refine WQ.eff0 (j := 15) (obs := []) hE (by kernel_rfl) rfl rfl rfl (by kernel_rfl) (OpTo.storeSl (q := 0) (x' := x3) hE H trees_ranked.enc_ok rfl hs5 ex5 rfl rfl rfl rfl rfl (Nat.le_of_ble_eq_true rfl) rfl) ?_
              rintro _ w H
              refine ⟨trivial, fun a hE => ?_⟩
              try rw [← mSet_len m_1 j x3] at hE
              obtain ⟨x6, ex6, hm⟩ := bind_some hm
              obtain ⟨b9, o6, hs6, hb6⟩ := SlRd.base (sl_rd 100 trees_ranked.enc 2 _ _ _) trees_ranked.enc_ok H 0 rfl ex6
              refine WQ.seg hE [16] [.pointer (some ⟨b9, o6, none⟩)] [0, 1, 2, 3, 8, 9, 50, 52] (Lo := [(0, .slice sb_data ((mSet m_1 j x3).length) sc_data), (1, .int .i64 a_), (2, .int .i64 b), (3, .func (.func 80) #[] #[]), (8, .int .i64 i), (9, .int .i64 j), (50, .agg #[.int .i64 x4.n, .int .i64 x4.rank]), (52, .pointer (some ⟨b9, o6 + (Int.toNat (w64 (j - 1))) * 2, none⟩))]) (obs := [.p ((sb_data : Option Addr) = some ⟨b9, o6, none⟩), .p (0 ≤ ((w64 (j - 1)) : Int) ∧ ((w64 (j - 1)) : Int) < (((mSet m_1 j x3).length : Nat) : Int))]) (by kernel_rfl) (by kernel_rfl) ⟨hs6, hb6, trivial⟩ fun a hE => ?_
              refine WQ.eff0 (j := 17) (obs := []) hE (by kernel_rfl) rfl rfl rfl (by kernel_rfl) (OpTo.storeSl (q := 0) (x' := x4) hE H trees_ranked.enc_ok rfl hs6 ex6 rfl rfl rfl rfl rfl (Nat.le_of_ble_eq_true rfl) rfl) ?_
              rintro _ w H
              refine ⟨trivial, fun a hE => ?_⟩
              try rw [← mSet_len (mSet m_1 j x3) (w64 (j - 1)) x4] at hE
              refine WQ.done (by kernel_rfl) ?_
              refine Runs.inBlock ?_
              refine Runs.region ?_
              refine WR.seg hE 3 [] [0, 1, 2, 3, 8, 9] (Lo := [(0, .slice sb_data ((mSet (mSet m_1 j x3) (w64 (j - 1)) x4).length) sc_data), (1, .int .i64 a_), (2, .int .i64 b), (3, .func (.func 80) #[] #[]), (8, .int .i64 i), (9, .int .i64 (w64 (j - 1)))]) (obs := []) rfl (by kernel_rfl) trivial fun a hE => ?_
              refine WR.done rfl ?_
              exact ih m (Nat.lt_succ_self m) _ _ ⟨w64 (j - 1), mSet (mSet m_1 j x3) (w64 (j - 1)) x4, hE.sel [0, 1, 2, 3, 8, 9] (by kernel_rfl), H, hm⟩
            · replace hm := cond_f c hm
              refine Runs.exit rfl ?_
              cases hm
              exact hk _ _ ⟨hE.sel [0, 1, 2, 3, 8] (by kernel_rfl), H⟩
        rintro a w ⟨hE, H⟩
        refine Runs.inBlock ?_
        refine Runs.region ?_
        refine WR.seg hE 3 [] [0, 1, 2, 3, 8] (Lo := [(0, .slice sb_data s1.length sc_data), (1, .int .i64 a_), (2, .int .i64 b), (3, .func (.func 80) #[] #[]), (8, .int .i64 (w64 (i + 1)))]) (obs := []) rfl (by kernel_rfl) trivial fun a hE => ?_
        refine WR.done rfl ?_
        exact ih m (Nat.lt_succ_self m) _ _ ⟨w64 (i + 1), s1, hE.sel [0, 1, 2, 3, 8] (by kernel_rfl), H, hm⟩
      · replace hm := cond_f c hm
        refine Runs.exit rfl ?_
        cases hm
        exact hk _ _ ⟨hE.sel [] (by kernel_rfl), H⟩
  rintro a w ⟨hE, H⟩
  refine Runs.fin hE Tryz.func104 rfl rfl ?_
  obtain ⟨u, eu, hm⟩ := bind_some hm
  cases hm
  exact ⟨rfl, same_spec eu, H⟩

theorem slices_stableCmpFunc_trees_ranked_g80_ok {w0 w : World} {As : List HP} {k : Nat} {sb_data : Option Addr} {sc_data : Nat} {data : List trees_ranked} {n : Int} {t : (List trees_ranked)}  (hm : slices_stableCmpFunc_trees_ranked_g80 k data n = some t) (H : St w0 (Sl 100 trees_ranked.enc 2 sb_data sc_data data :: As) w) :
    CallsR Tryz.prog 89 #[.slice sb_data data.length sc_data, .int .i64 n, .func (.func 80) #[] #[]] w fun v w' => v = .tuple #[] ∧ t.length = data.length ∧ St w0 (Sl 100 trees_ranked.enc 2 sb_data sc_data t :: As) w' := by
  rw [slices_stableCmpFunc_trees_ranked_g80] at hm
  refine enter (args := [.slice sb_data data.length sc_data, .int .i64 n, .func (.func 80) #[] #[]]) Tryz.func89 rfl rfl rfl fun a hE => ?_
  refine Runs.seq ?_
  refine Runs.region ?_
  refine WR.seg hE 1 [] [0, 1, 2, 6] (Lo := [(0, .slice sb_data data.length sc_data), (1, .int .i64 n), (2, .func (.func 80) #[] #[]), (6, .int .i64 20)]) (obs := []) rfl (by kernel_rfl) trivial fun a hE => ?_
  refine WR.done rfl ?_
  refine Runs.seq ?_
  refine Runs.region ?_
  refine WR.seg hE 3 [] [0, 1, 2, 6, 7, 8] (Lo := [(0, .slice sb_data data.length sc_data), (1, .int .i64 n), (2, .func (.func 80) #[] #[]), (6, .int .i64 20), (7, .int .i64 0), (8, .int .i64 20)]) (obs := []) rfl (by kernel_rfl) trivial fun a hE => ?_
  refine WR.done rfl ?_
  refine Runs.seq ?_
  obtain ⟨s, es, hm⟩ := bind_some hm
  refine Runs.join (fun a w => EnvOk 63 a [(0, .slice sb_data s.2.length sc_data), (1, .int .i64 n), (2, .func (.func 80) #[] #[]), (6, .int .i64 20), (7, .int .i64 s.1)] ∧ St w0 (Sl 100 trees_ranked.enc 2 sb_data sc_data s.2 :: As) w) (fun hk => ?_) ?_
  · replace hm := es; clear es
    refine Runs.block ?_
    refine Runs.loop (fun m a w => ∃ (a_ : Int), ∃ (b : Int), ∃ (m_ : List trees_ranked), EnvOk 63 a [(0, .slice sb_data m_.length sc_data), (1, .int .i64 n), (2, .func (.func 80) #[] #[]), (6, .int .i64 20), (7, .int .i64 a_), (8, .int .i64 b)] ∧ St w0 (Sl 100 trees_ranked.enc 2 sb_data sc_data m_ :: As) w ∧ slices_stableCmpFunc_trees_ranked_g80_l0 n m a_ b m_ = some s) k ⟨0, 20, data, hE.sel [0, 1, 2, 6, 7, 8] (by kernel_rfl), H, hm⟩ ?_
    rintro m ih a w ⟨a_, b, m_, hE, H, hm⟩
    cases m with
    | zero => simp [slices_stableCmpFunc_trees_ranked_g80_l0] at hm
    | succ m =>
      rw [slices_stableCmpFunc_trees_ranked_g80_l0] at hm
      refine Runs.seq ?_
      refine Runs.seq ?_
      refine Runs.region ?_
      refine WR.seg hE 3 [] [0, 1, 2, 6, 7, 8, 13] (Lo := [(0, .slice sb_data m_.length sc_data), (1, .int .i64 n), (2, .func (.func 80) #[] #[]), (6, .int .i64 20), (7, .int .i64 a_), (8, .int .i64 b), (13, .bool (decide (b ≤ n)))]) (obs := []) rfl (by kernel_rfl) trivial fun a hE => ?_
      refine WR.done rfl ?_
      refine Runs.cond hE rfl (fun c => ?_) (fun c => ?_)
      · replace hm := cond_t c hm
        refine Runs.skip ?_
        refine Runs.block ?_
        refine Runs.seq ?_
        refine Runs.region ?_
        refine WR.seg hE 4 [] [0, 1, 2, 6, 8, 14, 15, 16, 17] (Lo := [(0, .slice sb_data m_.length sc_data), (1, .int .i64 n), (2, .func (.func 80) #[] #[]), (6, .int .i64 20), (8, .int .i64 b), (14, .slice sb_data m_.length sc_data), (15, .int .i64 a_), (16, .int .i64 b), (17, .func (.func 80) #[] #[])]) (obs := []) rfl (by kernel_rfl) trivial fun a hE => ?_
        obtain ⟨t_, et_, hm⟩ := bind_some hm
        refine WR.eff hE rfl rfl rfl rfl (OpTo.fn hE rfl rfl Tryz.call104 (slices_insertionSortCmpFunc_trees_ranked_g80_ok et_ H)) ?_
        rintro _ w ⟨rfl, hl0, H⟩ a hE
        try rw [← hl0] at hE
        refine WR.done rfl ?_
        refine Runs.seq ?_
        refine Runs.region ?_
        refine WR.seg hE 2 [] [0, 1, 2, 6, 7, 8] (Lo := [(0, .slice sb_data t_.length sc_data), (1, .int .i64 n), (2, .func (.func 80) #[] #[]), (6, .int .i64 20), (7, .int .i64 b), (8, .int .i64 b)]) (obs := []) rfl (by kernel_rfl) trivial fun a hE => ?_
        refine WR.done rfl ?_
        refine Runs.region ?_
        refine WR.seg hE 4 [] [0, 1, 2, 6, 7, 8] (Lo := [(0, .slice sb_data t_.length sc_data), (1, .int .i64 n), (2, .func (.func 80) #[] #[]), (6, .int .i64 20), (7, .int .i64 b), (8, .int .i64 (w64 (b + 20)))]) (obs := []) rfl (by kernel_rfl) trivial fun a hE => ?_
        refine WR.done rfl ?_
        refine Runs.inBlock ?_
        exact ih m (Nat.lt_succ_self m) _ _ ⟨b, w64 (b + 20), t_, hE.sel [0, 1, 2, 6, 7, 8] (by kernel_rfl), H, hm⟩
      · replace hm := cond_f c hm
        refine Runs.exit rfl ?_
        cases hm
        exact hk _ _ ⟨hE.sel [0, 1, 2, 6, 7] (by kernel_rfl), H⟩
  rintro a w ⟨hE, H⟩
  refine Runs.seq ?_
  refine Runs.region ?_
  refine WR.seg hE 4 [] [0, 1, 2, 6, 23, 24, 25, 26] (Lo := [(0, .slice sb_data s.2.length sc_data), (1, .int .i64 n), (2, .func (.func 80) #[] #[]), (6, .int .i64 20), (23, .slice sb_data s.2.length sc_data), (24, .int .i64 s.1), (25, .int .i64 n), (26, .func (.func 80) #[] #[])]) (obs := []) rfl (by kernel_rfl) trivial fun a hE => ?_
  obtain ⟨t_1, et_1, hm⟩ := bind_some hm
  refine WR.eff hE rfl rfl rfl rfl (OpTo.fn hE rfl rfl Tryz.call104 (slices_insertionSortCmpFunc_trees_ranked_g80_ok et_1 H)) ?_
  rintro _ w ⟨rfl, hl0, H⟩ a hE
  try rw [← hl0] at hE
  refine WR.done rfl ?_
  obtain ⟨s1, es1, hm⟩ := bind_some hm
  refine Runs.join (fun a w => EnvOk 63 a [] ∧ St w0 (Sl 100 trees_ranked.enc 2 sb_data sc_data t_1 :: As) w) (fun hk => ?_) ?_
  · replace hm := es1; clear es1
    refine Runs.block ?_
    refine Runs.loop (fun m a w => ∃ (blockSize : Int), EnvOk 63 a [(0, .slice sb_data t_1.length sc_data), (1, .int .i64 n), (2, .func (.func 80) #[] #[]), (6, .int .i64 blockSize)] ∧ St w0 (Sl 100 trees_ranked.enc 2 sb_data sc_data t_1 :: As) w ∧ slices_stableCmpFunc_trees_ranked_g80_l1 n t_1 m blockSize = some s1) k ⟨20, hE.sel [0, 1, 2, 6] (by kernel_rfl), H, hm⟩ ?_
    rintro m ih a w ⟨blockSize, hE, H, hm⟩
    cases m with
    | zero => simp [slices_stableCmpFunc_trees_ranked_g80_l1] at hm
    | succ m =>
      rw [slices_stableCmpFunc_trees_ranked_g80_l1] at hm
      refine Runs.seq ?_
      refine Runs.seq ?_
      refine Runs.region ?_
      refine WR.seg hE 3 [] [0, 1, 2, 6, 30] (Lo := [(0, .slice sb_data t_1.length sc_data), (1, .int .i64 n), (2, .func (.func 80) #[] #[]), (6, .int .i64 blockSize), (30, .bool (decide (blockSize < n)))]) (obs := []) rfl (by kernel_rfl) trivial fun a hE => ?_
      refine WR.done rfl ?_
      refine Runs.cond hE rfl (fun c => ?_) (fun c => ?_)
      · replace hm := cond_t c hm
        refine Runs.skip ?_
        refine Runs.block ?_
        refine Runs.seq ?_
        refine Runs.region ?_
        refine WR.seg hE 4 [] [0, 1, 2, 6, 7, 8] (Lo := [(0, .slice sb_data t_1.length sc_data), (1, .int .i64 n), (2, .func (.func 80) #[] #[]), (6, .int .i64 blockSize), (7, .int .i64 0), (8, .int .i64 (w64 (2 * blockSize)))]) (obs := []) rfl (by kernel_rfl) trivial fun a hE => ?_
        refine WR.done rfl ?_
        refine Runs.seq ?_
        obtain ⟨s2, es2, hm⟩ := bind_some hm
        refine Runs.join (fun a w => EnvOk 63 a [(0, .slice sb_data t_1.length sc_data), (1, .int .i64 n), (2, .func (.func 80) #[] #[]), (6, .int .i64 blockSize), (7, .int .i64 s2)] ∧ St w0 (Sl 100 trees_ranked.enc 2 sb_data sc_data t_1 :: As) w) (fun hk => ?_) ?_
        · replace hm := es2; clear es2
          refine Runs.block ?_
          refine Runs.loop (fun m a w => ∃ (a_1 : Int), ∃ (b1 : Int), EnvOk 63 a [(0, .slice sb_data t_1.length sc_data), (1, .int .i64 n), (2, .func (.func 80) #[] #[]), (6, .int .i64 blockSize), (7, .int .i64 a_1), (8, .int .i64 b1)] ∧ St w0 (Sl 100 trees_ranked.enc 2 sb_data sc_data t_1 :: As) w ∧ slices_stableCmpFunc_trees_ranked_g80_l2 n blockSize t_1 m a_1 b1 = some s2) m ⟨0, w64 (2 * blockSize), hE.sel [0, 1, 2, 6, 7, 8] (by kernel_rfl), H, hm⟩ ?_
          rintro m ih a w ⟨a_1, b1, hE, H, hm⟩
          cases m with
          | zero => simp [slices_stableCmpFunc_trees_ranked_g80_l2] at hm
          | succ m =>
            rw [slices_stableCmpFunc_trees_ranked_g80_l2] at hm
            refine Runs.seq ?_
            refine Runs.seq ?_
            refine Runs.region ?_
            refine WR.seg hE 3 [] [0, 1, 2, 6, 7, 8, 35] (Lo := [(0, .slice sb_data t_1.length sc_data), (1, .int .i64 n), (2, .func (.func 80) #[] #[]), (6, .int .i64 blockSize), (7, .int .i64 a_1), (8, .int .i64 b1), (35, .bool (decide (b1 ≤ n)))]) (obs := []) rfl (by kernel_rfl) trivial fun a hE => ?_
            refine WR.done rfl ?_
            refine Runs.cond hE rfl (fun c => ?_) (fun c => ?_)
            · replace hm := cond_t c hm
              refine Runs.skip ?_
              refine Runs.block ?_
              refine Runs.seq ?_
              refine Runs.region ?_
              cases hm
            · replace hm := cond_f c hm
              refine Runs.exit rfl ?_
              cases hm
              exact hk _ _ ⟨hE.sel [0, 1, 2, 6, 7] (by kernel_rfl), H⟩
        rintro a w ⟨hE, H⟩
        refine Runs.seq ?_
        refine Runs.seq ?_
        refine Runs.region ?_
        refine WR.seg hE 4 [] [0, 1, 2, 6, 7, 9] (Lo := [(0, .slice sb_data t_1.length sc_data), (1, .int .i64 n), (2, .func (.func 80) #[] #[]), (6, .int .i64 blockSize), (7, .int .i64 s2), (9, .int .i64 (w64 (s2 + blockSize)))]) (obs := []) rfl (by kernel_rfl) trivial fun a hE => ?_
        refine WR.done rfl ?_
        refine Runs.seq ?_
        refine Runs.region ?_
        refine WR.seg hE 3 [] [0, 1, 2, 6, 7, 9, 54] (Lo := [(0, .slice sb_data t_1.length sc_data), (1, .int .i64 n), (2, .func (.func 80) #[] #[]), (6, .int .i64 blockSize), (7, .int .i64 s2), (9, .int .i64 (w64 (s2 + blockSize))), (54, .bool (decide (w64 (s2 + blockSize) < n)))]) (obs := []) rfl (by kernel_rfl) trivial fun a hE => ?_
        refine WR.done rfl ?_
        obtain ⟨s3, es3, hm⟩ := bind_some hm
        refine Runs.join (fun a w => EnvOk 63 a [(0, .slice sb_data t_1.length sc_data), (1, .int .i64 n), (2, .func (.func 80) #[] #[]), (6, .int .i64 blockSize)] ∧ St w0 (Sl 100 trees_ranked.enc 2 sb_data sc_data t_1 :: As) w) (fun hk => ?_) ?_
        · replace hm := es3; clear es3
          refine Runs.cond hE rfl (fun c => ?_) (fun c => ?_)
          · replace hm := cond_t c hm
            refine Runs.region ?_
            cases hm
          · replace hm := cond_f c hm
            refine Runs.skip ?_
            cases hm
            exact hk _ _ ⟨hE.sel [0, 1, 2, 6] (by kernel_rfl), H⟩
        rintro a w ⟨hE, H⟩
        refine Runs.region ?_
        refine WR.seg hE 3 [] [0, 1, 2, 6] (Lo := [(0, .slice sb_data t_1.length sc_data), (1, .int .i64 n), (2, .func (.func 80) #[] #[]), (6, .int .i64 (w64 (blockSize * 2)))]) (obs := []) rfl (by kernel_rfl) trivial fun a hE => ?_
        refine WR.done rfl ?_
        refine Runs.inBlock ?_
        exact ih m (Nat.lt_succ_self m) _ _ ⟨w64 (blockSize * 2), hE.sel [0, 1, 2, 6] (by kernel_rfl), H, hm⟩
      · replace hm := cond_f c hm
        refine Runs.exit rfl ?_
        cases hm
        exact hk _ _ ⟨hE.sel [] (by kernel_rfl), H⟩
  rintro a w ⟨hE, H⟩
  refine Runs.fin hE Tryz.func89 rfl rfl ?_
  obtain ⟨u, eu, hm⟩ := bind_some hm
  cases hm
  exact ⟨rfl, same_spec eu, H⟩

theorem slices_SortStableFunc_trees_ranked_g80_ok {w0 w : World} {As : List HP} {k : Nat} {sb_x : Option Addr} {sc_x : Nat} {x : List trees_ranked} {t : (List trees_ranked)}  (hm : slices_SortStableFunc_trees_ranked_g80 k x = some t) (H : St w0 (Sl 100 trees_ranked.enc 2 sb_x sc_x x :: As) w) :
    CallsR Tryz.prog 79 #[.slice sb_x x.length sc_x, .func (.func 80) #[] #[]] w fun v w' => v = .tuple #[] ∧ t.length = x.length ∧ St w0 (Sl 100 trees_ranked.enc 2 sb_x sc_x t :: As) w' := by
  rw [slices_SortStableFunc_trees_ranked_g80] at hm
  refine enter (args := [.slice sb_x x.length sc_x, .func (.func 80) #[] #[]]) Tryz.func79 rfl rfl rfl fun a hE => ?_
  refine Runs.region ?_
  refine WR.seg hE 4 [] [4, 6, 7] (Lo := [(4, .slice sb_x x.length sc_x), (6, .int .i64 (x.length : Int)), (7, .func (.func 80) #[] #[])]) (obs := []) rfl (by kernel_rfl) trivial fun a hE => ?_
  obtain ⟨t_, et_, hm⟩ := bind_some hm
  refine WR.eff hE rfl rfl rfl rfl (OpTo.fn hE rfl rfl Tryz.call89 (slices_stableCmpFunc_trees_ranked_g80_ok et_ H)) ?_
  rintro _ w ⟨rfl, hl0, H⟩ a hE
  try rw [← hl0] at hE
  refine WR.done rfl ?_
  refine Runs.fin hE Tryz.func79 rfl rfl ?_
  obtain ⟨u, eu, hm⟩ := bind_some hm
  cases hm
  exact ⟨rfl, same_spec eu, H⟩

theorem slices_Insert_trees_ranked_ok {w0 w : World} {As : List HP} {sb_s : Option Addr} {sc_s : Nat} {s : List trees_ranked} {i : Int} {sb_v : Option Addr} {sc_v : Nat} {v : List trees_ranked} {t : List trees_ranked} (hm : lInsert s i v = some t) (H : St w0 (Sl 100 trees_ranked.enc 2 sb_s sc_s s :: Sl 100 trees_ranked.enc 2 sb_v sc_v v :: As) w) :
    CallsR Tryz.prog 81 #[.slice sb_s s.length sc_s, .int .i64 i, .slice sb_v v.length sc_v] w fun u w' => ∃ (sb0 : Option Addr) (sc0 : Nat), u = .slice sb0 t.length sc0 ∧ St w0 (Sl 100 trees_ranked.enc 2 sb0 sc0 t :: As) w' := by
  unfold lInsert at hm
  split at hm
  · rename_i hI
    cases hm
    obtain ⟨h0, h1, hmx⟩ := hI
    obtain ⟨q, rfl⟩ := Int.eq_ofNat_of_zero_le h0
    have hq : q ≤ s.length := by omega
    have he := trees_ranked.enc_ok
    have hcs := (H.slCap 0 rfl)
    have hcv := (H.slCap 1 rfl)
    refine enter (args := [.slice sb_s s.length sc_s, .int .i64 (q : Int), .slice sb_v v.length sc_v]) Tryz.func81 rfl rfl rfl fun a hE => ?_
    refine Runs.seq ?_
    refine Runs.region ?_
    refine WR.seg hE 1 [] [0, 1, 2] (Lo := [(0, .slice sb_s s.length sc_s), (1, .int .i64 (q : Int)), (2, .slice sb_v v.length sc_v)]) (obs := []) rfl (by kernel_rfl) trivial fun a hE => ?_
    refine WR.done rfl ?_
    refine Runs.seq ?_
    refine Runs.region ?_
    refine WR.seg hE 3 [.slice (rebase sb_s sc_s q 2) (s.length - q) (sc_s - q)] [0, 1, 2] (Lo := [(0, .slice sb_s s.length sc_s), (1, .int .i64 (q : Int)), (2, .slice sb_v v.length sc_v)])
      (obs := [.p (rebase sb_s sc_s q 2 = rebase sb_s sc_s q 2), .p (s.length - q = s.length - q), .p (sc_s - q = sc_s - q), .p (0 ≤ (q : Int) ∧ (q : Int) ≤ (s.length : Int))]) rfl (by kernel_rfl) ⟨rfl, rfl, rfl, ⟨h0, h1⟩, trivial⟩ fun a hE => ?_
    refine WR.done rfl ?_
    refine Runs.seq ?_
    refine Runs.region ?_
    refine WR.seg hE 3 [] [0, 1, 2, 7] (Lo := [(0, .slice sb_s s.length sc_s), (1, .int .i64 (q : Int)), (2, .slice sb_v v.length sc_v), (7, .int .i64 (v.length : Int))]) (obs := []) rfl (by kernel_rfl) trivial fun a hE => ?_
    refine WR.done rfl ?_
    refine Runs.seq ?_
    refine Runs.seq ?_
    refine Runs.region ?_
    refine WR.seg hE 2 [] [0, 1, 2, 7, 16] (Lo := [(0, .slice sb_s s.length sc_s), (1, .int .i64 (q : Int)), (2, .slice sb_v v.length sc_v), (7, .int .i64 (v.length : Int)), (16, .bool ((v.length : Int) == 0))]) (obs := []) rfl (by kernel_rfl) trivial fun a hE => ?_
    refine WR.done rfl ?_
    refine Runs.cond hE rfl (fun c => ?_) (fun c => ?_)
    · have hv : v = [] := List.eq_nil_of_length_eq_zero (by simpa using c)
      refine Runs.seq ?_
      refine Runs.region ?_
      refine WR.seg hE 2 [] [6] (Lo := [(6, .slice sb_s s.length sc_s)]) (obs := []) rfl (by kernel_rfl) trivial fun a hE => ?_
      refine WR.done rfl ?_
      refine Runs.ret hE Tryz.func81 rfl rfl ?_
      subst hv
      have e : s.take q ++ ([] ++ s.drop q) = s := by simp
      simp only [Int.toNat_natCast]
      rw [e]
      exact ⟨_, _, rfl, H.x1⟩
    · have hvp : 0 < v.length := by have := c; simp at this; exact List.length_pos_iff.2 this
      refine Runs.skip ?_
      refine Runs.seq ?_
      refine Runs.region ?_
      refine WR.seg hE 3 [] [0, 1, 2, 7, 8] (Lo := [(0, .slice sb_s s.length sc_s), (1, .int .i64 (q : Int)), (2, .slice sb_v v.length sc_v), (7, .int .i64 (v.length : Int)), (8, .int .i64 (s.length : Int))]) (obs := []) rfl (by kernel_rfl) trivial fun a hE => ?_
      refine WR.done rfl ?_
      refine Runs.seq ?_
      refine Runs.seq ?_
      refine Runs.region ?_
      refine WR.seg hE 3 [] [0, 1, 2, 7, 8, 22] (Lo := [(0, .slice sb_s s.length sc_s), (1, .int .i64 (q : Int)), (2, .slice sb_v v.length sc_v), (7, .int .i64 (v.length : Int)), (8, .int .i64 (s.length : Int)), (22, .bool ((q : Int) == (s.length : Int)))]) (obs := []) rfl (by kernel_rfl) trivial fun a hE => ?_
      refine WR.done rfl ?_
      refine Runs.cond hE rfl (fun c2 => ?_) (fun c2 => ?_)
      · have hqn : q = s.length := by have := c2; simp at this; omega
        refine Runs.seq ?_
        refine Runs.region ?_
        refine WR.seg hE 2 [] [23, 24] (Lo := [(23, .slice sb_s s.length sc_s), (24, .slice sb_v v.length sc_v)]) (obs := []) rfl (by kernel_rfl) trivial fun a hE => ?_
        have happ : mApp s v = some (s ++ v) := by unfold mApp; rw [if_pos hmx]
        refine WR.eff hE rfl rfl rfl rfl (OpTo.appendM happ hE H he rfl rfl rfl rfl rfl rfl rfl rfl rfl rfl (SlRd.all (sl_rd 100 trees_ranked.enc 2 sb_v sc_v v) he H 1 rfl) rfl) ?_
        rintro _ w ⟨sb, sc, rfl, H⟩ a hE
        refine WR.seg hE 4 [] [6] (Lo := [(6, .slice sb (s ++ v).length sc)]) (obs := []) rfl (by kernel_rfl) trivial fun a hE => ?_
        refine WR.done rfl ?_
        refine Runs.ret hE Tryz.func81 rfl rfl ?_
        subst hqn
        have e : s.take s.length ++ (v ++ s.drop s.length) = s ++ v := by simp
        simp only [Int.toNat_natCast]
        rw [e]
        exact ⟨_, _, rfl, H.x1⟩
      · have hqn : q < s.length := by have := c2; simp at this; omega
        have hw1 : w64 ((s.length : Int) + (v.length : Int)) = ((s.length + v.length : Nat) : Int) := by unfold w64; rw [i64_small (by omega) (by omega)]; omega
        have hw2 : w64 ((q : Int) + (v.length : Int)) = ((q + v.length : Nat) : Int) := by unfold w64; rw [i64_small (by omega) (by omega)]; omega
        have hw3 : w64 (((s.length + v.length : Nat) : Int) - (q : Int)) = ((s.length + v.length - q : Nat) : Int) := by unfold w64; rw [i64_small (by omega) (by omega)]; omega
        have hfs := flat_length he s
        have hfv := flat_length he v
        have hft := flat_length he (s.take q)
        have hfd := flat_length he (s.drop q)
        have hsp : s.flatMap trees_ranked.enc = (s.take q).flatMap trees_ranked.enc ++ (s.drop q).flatMap trees_ranked.enc := by rw [← List.flatMap_append, List.take_append_drop]
        simp only [List.length_take, List.length_drop] at hft hfd
        rw [Nat.min_eq_left hq] at hft
        refine Runs.skip ?_
        refine Runs.seq ?_
        refine Runs.seq ?_
        refine Runs.region ?_
        refine WR.seg hE 6 [] [0, 1, 2, 7, 8, 31] (Lo := [(0, .slice sb_s s.length sc_s), (1, .int .i64 (q : Int)), (2, .slice sb_v v.length sc_v), (7, .int .i64 (v.length : Int)), (8, .int .i64 (s.length : Int)), (31, .bool (decide (w64 ((s.length : Int) + (v.length : Int)) > (sc_s : Int))))]) (obs := []) rfl (by kernel_rfl) trivial fun a hE => ?_
        refine WR.done rfl ?_
        refine Runs.cond hE rfl (fun c3 => ?_) (fun c3 => ?_)
        · have hgr : sc_s < s.length + v.length := by have := c3; rw [hw1] at this; simp only [decide_eq_true_eq] at this; omega
          refine Runs.seq ?_
          refine Runs.region ?_
          refine WR.seg hE 8 [.slice (rebase sb_s sc_s 0 2) q sc_s] [0, 1, 2, 7, 34, 39] (Lo := [(0, .slice sb_s s.length sc_s), (1, .int .i64 (q : Int)), (2, .slice sb_v v.length sc_v), (7, .int .i64 (v.length : Int)), (34, .slice (rebase sb_s sc_s 0 2) q sc_s), (39, .int .i64 (w64 (w64 ((s.length : Int) + (v.length : Int)) - (q : Int))))])
            (obs := [.p (rebase sb_s sc_s 0 2 = rebase sb_s sc_s 0 2), .p (q - 0 = q), .p (sc_s - 0 = sc_s), .p (0 ≤ (q : Int) ∧ (q : Int) ≤ (sc_s : Int))]) rfl (by kernel_rfl) ⟨rfl, rfl, rfl, ⟨h0, by omega⟩, trivial⟩ fun a hE => ?_
          rw [hw1, hw3] at hE
          have hrb : rebase sb_s sc_s 0 2 = sb_s := by
            unfold rebase
            split
            · rfl
            · cases sb_s <;> simp [Addr.add]
          rw [hrb] at hE
          have hrd0 : Rd w sb_s ((s.take q).flatMap trees_ranked.enc) := by
            rcases SlRd.all (sl_rd 100 trees_ranked.enc 2 sb_s sc_s s) he H 0 rfl with h | ⟨xa, h1, h2⟩
            · exfalso
              have h0' : s.length * 2 = 0 := by rw [← hfs, h]; rfl
              omega
            · exact .inr ⟨xa, h1, fun j u hj => h2 j u (by rw [hsp]; exact List.getElem?_append_left (List.getElem?_eq_some_iff.1 hj).1 ▸ hj)⟩
          refine WR.eff hE rfl rfl rfl rfl (OpTo.appendZ (sz := 2) ((s.take q).flatMap trees_ranked.enc) hE H rfl rfl rfl rfl rfl rfl rfl rfl rfl (by decide) hrd0 (by rw [hft]) (by omega) (by omega) (by omega) rfl) ?_
          rintro _ w ⟨r, cc, Z, rfl, hc1, hc2, hZ, H⟩ a hE
          have hlen : q + (s.length + v.length - q) = s.length + v.length := by omega
          rw [hlen] at hE hc1
          refine WR.seg hE 10 [] [0, 1, 2, 7, 9] (Lo := [(0, .slice sb_s s.length sc_s), (1, .int .i64 (q : Int)), (2, .slice sb_v v.length sc_v), (7, .int .i64 (v.length : Int)), (9, .slice (some ⟨r, 0, none⟩) (s.length + v.length) cc)]) (obs := []) rfl (by kernel_rfl) trivial fun a hE => ?_
          refine WR.done rfl ?_
          obtain ⟨Z1, Z2, Z3, hZe, hZ1, hZ2⟩ : ∃ Z1 Z2 Z3 : List Value, Z = Z1 ++ (Z2 ++ Z3) ∧ Z1.length = v.length * 2 ∧ Z2.length = (s.length - q) * 2 := by
            refine ⟨Z.take (v.length * 2), (Z.drop (v.length * 2)).take ((s.length - q) * 2), (Z.drop (v.length * 2)).drop ((s.length - q) * 2), by rw [List.take_append_drop, List.take_append_drop], ?_, ?_⟩ <;> simp only [List.length_take, List.length_drop, hZ] <;> omega
          subst hZe
          -- copy(s2[i:], v)
          refine Runs.seq ?_
          refine Runs.region ?_
          refine WR.seg hE 4 [.slice (some ⟨r, 0 + q * 2, none⟩) (s.length + v.length - q) (cc - q)] [0, 1, 2, 7, 9, 43, 44] (Lo := [(0, .slice sb_s s.length sc_s), (1, .int .i64 (q : Int)), (2, .slice sb_v v.length sc_v), (7, .int .i64 (v.length : Int)), (9, .slice (some ⟨r, 0, none⟩) (s.length + v.length) cc), (43, .slice (some ⟨r, 0 + q * 2, none⟩) (s.length + v.length - q) (cc - q)), (44, .slice sb_v v.length sc_v)])
            (obs := [.p (rebase (some ⟨r, 0, none⟩) cc q 2 = some ⟨r, 0 + q * 2, none⟩), .p (s.length + v.length - q = s.length + v.length - q), .p (cc - q = cc - q), .p (0 ≤ (q : Int) ∧ (q : Int) ≤ ((s.length + v.length : Nat) : Int))]) rfl (by kernel_rfl) ⟨(by show _ = _; unfold rebase; rw [if_neg (by omega)]; simp [addr_add]), rfl, rfl, ⟨h0, by omega⟩, trivial⟩ fun a hE => ?_
          refine WR.eff hE rfl rfl rfl rfl (OpTo.copyBlk (sz := 2) (v.flatMap trees_ranked.enc) hE H rfl rfl rfl rfl rfl rfl (SlRd.all (sl_rd 100 trees_ranked.enc 2 sb_v sc_v v) he H 2 rfl) (by rw [hfv]; congr 1; simp only [Nat.min_def]; split <;> omega) (flat_one he v) (by simp only [List.length_append, hft, hfv, hZ1]; omega)) ?_
          rintro _ w ⟨⟨kk, rfl⟩, H⟩ a hE
          rw [putAt_midN _ _ _ _ _ (by rw [hft]; omega) (by rw [hfv, hZ1])] at H
          refine WR.done rfl ?_
          replace hE := hE.sel [0, 1, 2, 7, 9] (Lo := [(0, .slice sb_s s.length sc_s), (1, .int .i64 (q : Int)), (2, .slice sb_v v.length sc_v), (7, .int .i64 (v.length : Int)), (9, .slice (some ⟨r, 0, none⟩) (s.length + v.length) cc)]) (by kernel_rfl)
          -- copy(s2[i+m:], s[i:])
          refine Runs.seq ?_
          refine Runs.drawn mixed (by kernel_rfl) ?_
          replace H := H.drew
          obtain ⟨b, off, A, R, rfl, hA, _, _, hR, H2⟩ := (H.t1).slParts he (by omega)
          have hrb2 : rebase (some ⟨b, off, none⟩ : Option Addr) sc_s q 2 = some ⟨b, off + q * 2, none⟩ := by unfold rebase; rw [if_neg (by omega)]; simp [addr_add]
          refine WQ.seg hE [0, 1, 2, 3, 4, 5, 6, 7] [.slice (some ⟨r, 0 + (q + v.length) * 2, none⟩) (s.length - q) (cc - (q + v.length)), .slice (some ⟨b, off + q * 2, none⟩) (s.length - q) (sc_s - q)] [9, 50, 53] (Lo := [(9, .slice (some ⟨r, 0, none⟩) (s.length + v.length) cc), (50, .slice (some ⟨r, 0 + (q + v.length) * 2, none⟩) (s.length - q) (cc - (q + v.length))), (53, .slice (some ⟨b, off + q * 2, none⟩) (s.length - q) (sc_s - q))])
            (obs := [.p (rebase (some ⟨r, 0, none⟩) cc (Int.toNat (w64 ((q : Int) + (v.length : Int)))) 2 = some ⟨r, 0 + (q + v.length) * 2, none⟩), .p (s.length + v.length - Int.toNat (w64 ((q : Int) + (v.length : Int))) = s.length - q), .p (cc - Int.toNat (w64 ((q : Int) + (v.length : Int))) = cc - (q + v.length)), .p (0 ≤ w64 ((q : Int) + (v.length : Int)) ∧ w64 ((q : Int) + (v.length : Int)) ≤ ((s.length + v.length : Nat) : Int)),
              .p (rebase (some ⟨b, off, none⟩) sc_s q 2 = some ⟨b, off + q * 2, none⟩), .p (s.length - q = s.length - q), .p (sc_s - q = sc_s - q), .p (0 ≤ (q : Int) ∧ (q : Int) ≤ (s.length : Int))]) (by kernel_rfl) (by kernel_rfl)
            ⟨(by show _ = _; rw [hw2, Int.toNat_natCast]; unfold rebase; rw [if_neg (by omega)]; simp [addr_add]), (by show _ - _ = _; rw [hw2, Int.toNat_natCast]; omega), (by show _ - _ = _; rw [hw2, Int.toNat_natCast]), (by show _ ∧ _; rw [hw2]; constructor <;> omega), hrb2, rfl, rfl, ⟨h0, h1⟩, trivial⟩ fun a hE => ?_
          have hrd1 : Rd { w with drawn := w.drawn + 1 } (some ⟨b, off + q * 2, none⟩) ((s.drop q).flatMap trees_ranked.enc) := rdBlk (H2) 0 rfl (off := off + q * 2) fun j u hj => by
            rw [hsp, List.append_assoc, ← List.append_assoc A, List.getElem?_append_right (by simp only [List.length_append, hA, hft]; omega)]
            simp only [List.length_append, hA, hft]
            rw [List.getElem?_append_left (by have := (List.getElem?_eq_some_iff.1 hj).1; omega)]
            rw [← hj]; congr 1; omega
          refine WQ.eff (j := 8) (obs := []) hE (by kernel_rfl) rfl rfl rfl rfl (by kernel_rfl) (OpTo.copyBlk (sz := 2) ((s.drop q).flatMap trees_ranked.enc) hE H2.t1 rfl rfl rfl rfl rfl rfl hrd1 (by rw [hfd]; congr 1; simp only [Nat.min_def]; split <;> omega) (flat_one he _) (by simp only [List.length_append, hft, hfv, hZ2, hfd, Nat.add_mul]; omega)) ?_
          rintro _ w ⟨⟨kk2, rfl⟩, H⟩
          refine ⟨trivial, fun a hE => ?_⟩
          refine WQ.done (by kernel_rfl) ?_
          rw [← List.append_assoc, putAt_midN _ _ _ _ _ (by simp only [List.length_append, hft, hfv, Nat.add_mul]; omega) (by rw [hfd, hZ2])] at H
          refine Runs.seq ?_
          refine Runs.region ?_
          refine WR.seg hE 2 [] [6] (Lo := [(6, .slice (some ⟨r, 0, none⟩) (s.length + v.length) cc)]) (obs := []) rfl (by kernel_rfl) trivial fun a hE => ?_
          refine WR.done rfl ?_
          refine Runs.ret hE Tryz.func81 rfl rfl ?_
          simp only [Int.toNat_natCast]
          have hln : (s.take q ++ (v ++ s.drop q)).length = s.length + v.length := by simp; omega
          have hfl3 : (s.take q).flatMap trees_ranked.enc ++ v.flatMap trees_ranked.enc ++ ((s.drop q).flatMap trees_ranked.enc ++ Z3) = [] ++ ((s.take q ++ (v ++ s.drop q)).flatMap trees_ranked.enc ++ Z3) := by simp [List.append_assoc]
          rw [hfl3] at H
          have hZ3 : (cc - (s.take q ++ (v ++ s.drop q)).length) * 2 ≤ Z3.length := by
            simp only [List.length_append, hZ1, hZ2] at hZ
            rw [hln]; omega
          have H3 := St.slBack H he (sc := cc) (by rw [hln]; exact hc1) hc2 hZ3
          exact ⟨some ⟨r, 0, none⟩, cc, by rw [hln]; rfl, H3.x1.x1⟩
        · have hroom : s.length + v.length ≤ sc_s := by have := c3; rw [hw1] at this; simp only [decide_eq_false_iff_not] at this; omega
          obtain ⟨b, off, A, R, rfl, hA, _, hmxl, hR, H1⟩ := H.slParts he (by omega)
          obtain ⟨R1, R2, hRe, hR1⟩ : ∃ R1 R2 : List Value, R = R1 ++ R2 ∧ R1.length = v.length * 2 := by
            have : v.length * 2 ≤ (sc_s - s.length) * 2 := Nat.mul_le_mul_right _ (by omega)
            exact ⟨R.take (v.length * 2), R.drop (v.length * 2), by rw [List.take_append_drop], by simp only [List.length_take]; omega⟩
          subst hRe
          have hrbq : ∀ k : Nat, k < sc_s → rebase (some ⟨b, off, none⟩ : Option Addr) sc_s k 2 = some ⟨b, off + k * 2, none⟩ := fun k hk => by unfold rebase; rw [if_neg (by omega)]; simp [addr_add]
          have hrb0 : rebase (some ⟨b, off, none⟩ : Option Addr) sc_s 0 2 = some ⟨b, off, none⟩ := by rw [hrbq 0 (by omega)]; simp
          refine Runs.skip ?_
          refine Runs.seq ?_
          refine Runs.region ?_
          refine WR.seg hE 6 [.slice (some ⟨b, off, none⟩) (s.length + v.length) sc_s] [0, 1, 2, 7] (Lo := [(0, .slice (some ⟨b, off, none⟩) (s.length + v.length) sc_s), (1, .int .i64 (q : Int)), (2, .slice sb_v v.length sc_v), (7, .int .i64 (v.length : Int))])
            (obs := [.p (rebase (some ⟨b, off, none⟩) sc_s 0 2 = some ⟨b, off, none⟩), .p (Int.toNat (w64 ((s.length : Int) + (v.length : Int))) - 0 = s.length + v.length), .p (sc_s - 0 = sc_s), .p (0 ≤ w64 ((s.length : Int) + (v.length : Int)) ∧ w64 ((s.length : Int) + (v.length : Int)) ≤ (sc_s : Int))]) rfl (by kernel_rfl)
            ⟨hrb0, (by show _ - 0 = _; rw [hw1, Int.toNat_natCast]; rfl), rfl, (by show _ ∧ _; rw [hw1]; constructor <;> omega), trivial⟩ fun a hE => ?_
          refine WR.done rfl ?_
          -- overlaps?
          obtain ⟨vb, vo, Av, Rv, rfl, hAv, _, _, hRv, Hv⟩ := (H1.t1).slParts he hvp
          have hne : vb ≠ b := by
            obtain ⟨g1, g2, gd, s1, s2, hB1, g3, g4, gd2, s3, s4, hB2, _⟩ := Hv.heap
            intro h
            subst h
            rcases gd vb with e | e
            · have : g1 vb = _ := hB1
              rw [this] at e; cases e
            · have : g3 vb = _ := hB2
              have := s3 _ _ this
              rw [e] at this; cases this
          refine Runs.seq ?_
          refine Runs.seq ?_
          refine Runs.region ?_
          refine WR.seg hE 6 [.slice (rebase (some ⟨b, off, none⟩) sc_s (q + v.length) 2) (s.length - q) (sc_s - (q + v.length))] [0, 1, 2, 7, 61, 66] (Lo := [(0, .slice (some ⟨b, off, none⟩) (s.length + v.length) sc_s), (1, .int .i64 (q : Int)), (2, .slice (some ⟨vb, vo, none⟩) v.length sc_v), (7, .int .i64 (v.length : Int)), (61, .slice (some ⟨vb, vo, none⟩) v.length sc_v), (66, .slice (rebase (some ⟨b, off, none⟩) sc_s (q + v.length) 2) (s.length - q) (sc_s - (q + v.length)))])
            (obs := [.p (rebase (some ⟨b, off, none⟩) sc_s (Int.toNat (w64 ((q : Int) + (v.length : Int)))) 2 = rebase (some ⟨b, off, none⟩) sc_s (q + v.length) 2), .p (s.length + v.length - Int.toNat (w64 ((q : Int) + (v.length : Int))) = s.length - q), .p (sc_s - Int.toNat (w64 ((q : Int) + (v.length : Int))) = sc_s - (q + v.length)), .p (0 ≤ w64 ((q : Int) + (v.length : Int)) ∧ w64 ((q : Int) + (v.length : Int)) ≤ ((s.length + v.length : Nat) : Int))]) rfl (by kernel_rfl)
            ⟨(by show _ = _; rw [hw2, Int.toNat_natCast]), (by show _ - _ = _; rw [hw2, Int.toNat_natCast]; omega), (by show _ - _ = _; rw [hw2, Int.toNat_natCast]), (by show _ ∧ _; rw [hw2]; constructor <;> omega), trivial⟩ fun a hE => ?_
          rw [hrbq (q + v.length) (by omega)] at hE
          refine WR.eff hE rfl rfl rfl rfl (OpTo.overlapsNo (tS := 98) (tR := 4) (e := 100) hE Hv 0 1 rfl rfl hne (by simp only [List.size_toArray, List.length_append, hfs]; omega) rfl rfl (fn := Tryz.f90) (by kernel_rfl) (by kernel_rfl) (by kernel_rfl) (by kernel_rfl) (by kernel_rfl) rfl rfl) ?_
          rintro _ w ⟨rfl, ew⟩ a hE
          subst ew
          refine WR.seg hE 8 [] [0, 1, 2, 7, 68] (Lo := [(0, .slice (some ⟨b, off, none⟩) (s.length + v.length) sc_s), (1, .int .i64 (q : Int)), (2, .slice (some ⟨vb, vo, none⟩) v.length sc_v), (7, .int .i64 (v.length : Int)), (68, .bool true)]) (obs := []) rfl (by kernel_rfl) trivial fun a hE => ?_
          refine WR.done rfl ?_
          refine Runs.condT hE rfl ?_
          -- copy(s[i+m:], s[i:])
          refine Runs.seq ?_
          refine Runs.drawn mixed (by kernel_rfl) ?_
          replace Hv := Hv.drew
          refine WQ.seg hE [0, 1, 2, 3, 4, 5, 6, 7] [.slice (some ⟨b, off + (q + v.length) * 2, none⟩) (s.length - q) (sc_s - (q + v.length)), .slice (some ⟨b, off + q * 2, none⟩) (s.length + v.length - q) (sc_s - q)] [0, 1, 2, 73, 76] (Lo := [(0, .slice (some ⟨b, off, none⟩) (s.length + v.length) sc_s), (1, .int .i64 (q : Int)), (2, .slice (some ⟨vb, vo, none⟩) v.length sc_v), (73, .slice (some ⟨b, off + (q + v.length) * 2, none⟩) (s.length - q) (sc_s - (q + v.length))), (76, .slice (some ⟨b, off + q * 2, none⟩) (s.length + v.length - q) (sc_s - q))])
            (obs := [.p (rebase (some ⟨b, off, none⟩) sc_s (Int.toNat (w64 ((q : Int) + (v.length : Int)))) 2 = some ⟨b, off + (q + v.length) * 2, none⟩), .p (s.length + v.length - Int.toNat (w64 ((q : Int) + (v.length : Int))) = s.length - q), .p (sc_s - Int.toNat (w64 ((q : Int) + (v.length : Int))) = sc_s - (q + v.length)), .p (0 ≤ w64 ((q : Int) + (v.length : Int)) ∧ w64 ((q : Int) + (v.length : Int)) ≤ ((s.length + v.length : Nat) : Int)),
              .p (rebase (some ⟨b, off, none⟩) sc_s q 2 = some ⟨b, off + q * 2, none⟩), .p (s.length + v.length - q = s.length + v.length - q), .p (sc_s - q = sc_s - q), .p (0 ≤ (q : Int) ∧ (q : Int) ≤ ((s.length + v.length : Nat) : Int))]) (by kernel_rfl) (by kernel_rfl)
            ⟨(by show _ = _; rw [hw2, Int.toNat_natCast]; exact hrbq _ (by omega)), (by show _ - _ = _; rw [hw2, Int.toNat_natCast]; omega), (by show _ - _ = _; rw [hw2, Int.toNat_natCast]), (by show _ ∧ _; rw [hw2]; constructor <;> omega), hrbq q (by omega), rfl, rfl, ⟨h0, by omega⟩, trivial⟩ fun a hE => ?_
          have hrd1 : Rd { w with drawn := w.drawn + 1 } (some ⟨b, off + q * 2, none⟩) ((s.drop q).flatMap trees_ranked.enc) := rdBlk Hv 1 rfl (off := off + q * 2) fun j u hj => by
            rw [hsp, List.append_assoc, ← List.append_assoc A, List.getElem?_append_right (by simp only [List.length_append, hA, hft]; omega)]
            simp only [List.length_append, hA, hft]
            rw [List.getElem?_append_left (by have := (List.getElem?_eq_some_iff.1 hj).1; omega)]
            rw [← hj]; congr 1; omega
          refine WQ.eff (j := 8) (obs := []) hE (by kernel_rfl) rfl rfl rfl rfl (by kernel_rfl) (OpTo.copyBlk (sz := 2) ((s.drop q).flatMap trees_ranked.enc) hE Hv.t1 rfl rfl rfl rfl rfl rfl hrd1 (by rw [hfd]; congr 1; simp only [Nat.min_def]; split <;> omega) (flat_one he _) (by simp only [List.length_append, hA, hfs, hR1, hfd, Nat.add_mul]; rw [Nat.sub_mul]; have : q * 2 ≤ s.length * 2 := Nat.mul_le_mul_right _ hq; omega)) ?_
          rintro _ w ⟨⟨kk2, rfl⟩, H⟩
          refine ⟨trivial, fun a hE => ?_⟩
          refine WQ.done (by kernel_rfl) ?_
          obtain ⟨X1, X2, hX, hX1, hX2⟩ : ∃ X1 X2 : List Value, (s.drop q).flatMap trees_ranked.enc ++ R1 = X1 ++ X2 ∧ X1.length = v.length * 2 ∧ X2.length = (s.length - q) * 2 := by
            refine ⟨((s.drop q).flatMap trees_ranked.enc ++ R1).take (v.length * 2), ((s.drop q).flatMap trees_ranked.enc ++ R1).drop (v.length * 2), by rw [List.take_append_drop], ?_, ?_⟩ <;> simp only [List.length_take, List.length_drop, List.length_append, hfd, hR1] <;> omega
          have hall : A ++ (s.flatMap trees_ranked.enc ++ (R1 ++ R2)) = (A ++ ((s.take q).flatMap trees_ranked.enc ++ X1)) ++ (X2 ++ R2) := by
            rw [hsp]
            calc A ++ (((s.take q).flatMap trees_ranked.enc ++ (s.drop q).flatMap trees_ranked.enc) ++ (R1 ++ R2)) = A ++ ((s.take q).flatMap trees_ranked.enc ++ (((s.drop q).flatMap trees_ranked.enc ++ R1) ++ R2)) := by simp [List.append_assoc]
              _ = _ := by rw [hX]; simp [List.append_assoc]
          rw [hall, putAt_midN _ _ _ _ _ (by simp only [List.length_append, hA, hft, hX1, Nat.add_mul, Nat.add_assoc]) (by rw [hfd, hX2])] at H
          have hall2 : (A ++ ((s.take q).flatMap trees_ranked.enc ++ X1)) ++ ((s.drop q).flatMap trees_ranked.enc ++ R2) = (A ++ (s.take q).flatMap trees_ranked.enc) ++ (X1 ++ ((s.drop q).flatMap trees_ranked.enc ++ R2)) := by simp [List.append_assoc]
          rw [hall2] at H
          -- copy(s[i:], v)
          refine Runs.seq ?_
          refine Runs.region ?_
          refine WR.seg hE 4 [.slice (some ⟨b, off + q * 2, none⟩) (s.length + v.length - q) (sc_s - q)] [0, 80, 81] (Lo := [(0, .slice (some ⟨b, off, none⟩) (s.length + v.length) sc_s), (80, .slice (some ⟨b, off + q * 2, none⟩) (s.length + v.length - q) (sc_s - q)), (81, .slice (some ⟨vb, vo, none⟩) v.length sc_v)])
            (obs := [.p (rebase (some ⟨b, off, none⟩) sc_s q 2 = some ⟨b, off + q * 2, none⟩), .p (s.length + v.length - q = s.length + v.length - q), .p (sc_s - q = sc_s - q), .p (0 ≤ (q : Int) ∧ (q : Int) ≤ ((s.length + v.length : Nat) : Int))]) rfl (by kernel_rfl) ⟨hrbq q (by omega), rfl, rfl, ⟨h0, by omega⟩, trivial⟩ fun a hE => ?_
          have hrd2 : Rd w (some ⟨vb, vo, none⟩) (v.flatMap trees_ranked.enc) := rdBlk H 1 rfl fun j u hj => by
            rw [List.getElem?_append_right (by omega), hAv, Nat.add_sub_cancel_left, List.getElem?_append_left (List.getElem?_eq_some_iff.1 hj).1]
            exact hj
          refine WR.eff hE rfl rfl rfl rfl (OpTo.copyBlk (sz := 2) (v.flatMap trees_ranked.enc) hE H rfl rfl rfl rfl rfl rfl hrd2 (by rw [hfv]; congr 1; simp only [Nat.min_def]; split <;> omega) (flat_one he v) (by simp only [List.length_append, hA, hft, hX1, hfv]; omega)) ?_
          rintro _ w ⟨⟨kk3, rfl⟩, H⟩ a hE
          rw [putAt_midN _ _ _ _ _ (by simp only [List.length_append, hA, hft]) (by rw [hfv, hX1])] at H
          refine WR.done rfl ?_
          refine Runs.seq ?_
          refine Runs.region ?_
          refine WR.seg hE 2 [] [6] (Lo := [(6, .slice (some ⟨b, off, none⟩) (s.length + v.length) sc_s)]) (obs := []) rfl (by kernel_rfl) trivial fun a hE => ?_
          refine WR.done rfl ?_
          refine Runs.ret hE Tryz.func81 rfl rfl ?_
          simp only [Int.toNat_natCast]
          have hln : (s.take q ++ (v ++ s.drop q)).length = s.length + v.length := by simp; omega
          have hfl3 : (A ++ (s.take q).flatMap trees_ranked.enc) ++ (v.flatMap trees_ranked.enc ++ ((s.drop q).flatMap trees_ranked.enc ++ R2)) = A ++ ((s.take q ++ (v ++ s.drop q)).flatMap trees_ranked.enc ++ R2) := by simp [List.append_assoc]
          rw [hfl3] at H
          have hR2 : (sc_s - (s.take q ++ (v ++ s.drop q)).length) * 2 ≤ R2.length := by
            simp only [List.length_append, hR1] at hR
            rw [hln]; omega
          have H3 := St.slBack H he (sc := sc_s) (by rw [hln]; exact hroom) hmxl hR2
          rw [hA] at H3
          exact ⟨some ⟨b, off, none⟩, sc_s, by rw [hln]; rfl, H3.x1⟩
  · cases hm

theorem trees_Row_ok {w0 w : World} {As : List HP} {k : Nat} {p_a_ : Nat} {al_a_ : arena_Arena.A} {a_ : arena_Arena} {sb_l : Option Addr} {sc_l : Nat} {l : List Int} {X_l : HP} {t : Int × arena_Arena} (hX_l : SlRd X_l ecI 1 sb_l l) (hC_l : l.length ≤ sc_l) (hm : trees_Row k a_ l = some t) (H : St w0 (arena_Arena.R p_a_ al_a_ a_ :: X_l :: As) w) :
    CallsR Tryz.prog 82 #[.pointer (some ⟨p_a_, 0, none⟩), .slice sb_l l.length sc_l] w fun v w' => v = .int .i64 t.1 ∧ St w0 (arena_Arena.R p_a_ al_a_ t.2 :: X_l :: As) w' := by
  rw [trees_Row] at hm
  refine enter (args := [.pointer (some ⟨p_a_, 0, none⟩), .slice sb_l l.length sc_l]) Tryz.func82 rfl rfl rfl fun a hE => ?_
  refine Runs.seq ?_
  refine Runs.region ?_
  refine WR.seg hE 1 [] [0, 1] (Lo := [(0, .pointer (some ⟨p_a_, 0, none⟩)), (1, .slice sb_l l.length sc_l)]) (obs := []) rfl (by kernel_rfl) trivial fun a hE => ?_
  refine WR.done rfl ?_
  refine Runs.seq ?_
  refine Runs.region ?_
  refine WR.seg hE 1 [] [0, 1, 5] (Lo := [(0, .pointer (some ⟨p_a_, 0, none⟩)), (1, .slice sb_l l.length sc_l), (5, .int .i64 (-1))]) (obs := []) rfl (by kernel_rfl) trivial fun a hE => ?_
  refine WR.done rfl ?_
  refine Runs.seq ?_
  refine Runs.seq ?_
  refine Runs.region ?_
  refine WR.seg hE 4 [] [0, 1, 5, 6] (Lo := [(0, .pointer (some ⟨p_a_, 0, none⟩)), (1, .slice sb_l l.length sc_l), (5, .int .i64 (-1)), (6, .int .i64 (w64 ((l.length : Int) - 1)))]) (obs := []) rfl (by kernel_rfl) trivial fun a hE => ?_
  refine WR.done rfl ?_
  obtain ⟨s, es, hm⟩ := bind_some hm
  refine Runs.join (fun a w => EnvOk 32 a [(5, .int .i64 s.1)] ∧ St w0 (arena_Arena.R p_a_ al_a_ s.2 :: X_l :: As) w) (fun hk => ?_) ?_
  · replace hm := es; clear es
    refine Runs.block ?_
    refine Runs.loop (fun m a w => ∃ (next : Int), ∃ (k_ : Int), ∃ (m_ : arena_Arena), EnvOk 32 a [(0, .pointer (some ⟨p_a_, 0, none⟩)), (1, .slice sb_l l.length sc_l), (5, .int .i64 next), (6, .int .i64 k_)] ∧ St w0 (arena_Arena.R p_a_ al_a_ m_ :: X_l :: As) w ∧ trees_Row_l0 l m next k_ m_ = some s) k ⟨(-1), w64 ((l.length : Int) - 1), a_, hE.sel [0, 1, 5, 6] (by kernel_rfl), H.t1.t1, hm⟩ ?_
    rintro m ih a w ⟨next, k_, m_, hE, H, hm⟩
    cases m with
    | zero => simp [trees_Row_l0] at hm
    | succ m =>
      rw [trees_Row_l0] at hm
      refine Runs.seq ?_
      refine Runs.seq ?_
      refine Runs.region ?_
      refine WR.seg hE 2 [] [0, 1, 5, 6, 11] (Lo := [(0, .pointer (some ⟨p_a_, 0, none⟩)), (1, .slice sb_l l.length sc_l), (5, .int .i64 next), (6, .int .i64 k_), (11, .bool (decide (k_ ≥ 0)))]) (obs := []) rfl (by kernel_rfl) trivial fun a hE => ?_
      refine WR.done rfl ?_
      refine Runs.cond hE rfl (fun c => ?_) (fun c => ?_)
      · replace hm := cond_t c hm
        refine Runs.skip ?_
        refine Runs.seq ?_
        refine Runs.block ?_
        refine Runs.seq ?_
        refine Runs.region ?_
        obtain ⟨x, ex, hm⟩ := bind_some hm
        obtain ⟨b, o, hs, hb⟩ := SlRd.base hX_l ecI_ok H 1 rfl ex
        refine WR.seg hE 6 [.pointer (some ⟨b, o, none⟩), .int .i64 x] [0, 1, 6, 14, 18, 19] (Lo := [(0, .pointer (some ⟨p_a_, 0, none⟩)), (1, .slice sb_l l.length sc_l), (6, .int .i64 k_), (14, .pointer (some ⟨p_a_, 0, none⟩)), (18, .int .i64 x), (19, .int .i64 next)]) (obs := [.p ((sb_l : Option Addr) = some ⟨b, o, none⟩), .p (0 ≤ (k_ : Int) ∧ (k_ : Int) < ((l.length : Nat) : Int)), .cell ⟨b, o + (Int.toNat k_) * 1, none⟩ (.int .i64 x)]) rfl (by kernel_rfl) ⟨hs, hb, SlRd.cells hX_l ecI_ok H 1 rfl hs ex 0 _ rfl, trivial⟩ fun a hE => ?_
        obtain ⟨t_, et_, hm⟩ := bind_some hm
        refine WR.eff hE rfl rfl rfl rfl (OpTo.fn hE rfl rfl Tryz.call39 (arena_Arena_Set_ok et_ H)) ?_
        rintro _ w ⟨rfl, hf, H⟩ a hE
        refine WR.done rfl ?_
        refine Runs.seq ?_
        refine Runs.region ?_
        obtain ⟨x1, ex1, hm⟩ := bind_some hm
        obtain ⟨b1, o1, hs1, hb1⟩ := SlRd.base hX_l ecI_ok H 1 rfl ex1
        refine WR.seg hE 5 [.pointer (some ⟨b1, o1, none⟩), .int .i64 x1] [0, 1, 6, 21, 25] (Lo := [(0, .pointer (some ⟨p_a_, 0, none⟩)), (1, .slice sb_l l.length sc_l), (6, .int .i64 k_), (21, .pointer (some ⟨p_a_, 0, none⟩)), (25, .int .i64 x1)]) (obs := [.p ((sb_l : Option Addr) = some ⟨b1, o1, none⟩), .p (0 ≤ (k_ : Int) ∧ (k_ : Int) < ((l.length : Nat) : Int)), .cell ⟨b1, o1 + (Int.toNat k_) * 1, none⟩ (.int .i64 x1)]) rfl (by kernel_rfl) ⟨hs1, hb1, SlRd.cells hX_l ecI_ok H 1 rfl hs1 ex1 0 _ rfl, trivial⟩ fun a hE => ?_
        obtain ⟨t_1, et_1, hm⟩ := bind_some hm
        refine WR.eff hE rfl rfl rfl rfl (OpTo.fn hE rfl rfl Tryz.call39 (arena_Arena_Set_ok et_1 H)) ?_
        rintro _ w ⟨rfl, hf1, H⟩ a hE
        refine WR.done rfl ?_
        refine Runs.region ?_
        obtain ⟨x2, ex2, hm⟩ := bind_some hm
        obtain ⟨b2, o2, hs2, hb2⟩ := SlRd.base hX_l ecI_ok H 1 rfl ex2
        refine WR.seg hE 5 [.pointer (some ⟨b2, o2, none⟩), .int .i64 x2] [0, 1, 5, 6] (Lo := [(0, .pointer (some ⟨p_a_, 0, none⟩)), (1, .slice sb_l l.length sc_l), (5, .int .i64 x2), (6, .int .i64 k_)]) (obs := [.p ((sb_l : Option Addr) = some ⟨b2, o2, none⟩), .p (0 ≤ (k_ : Int) ∧ (k_ : Int) < ((l.length : Nat) : Int)), .cell ⟨b2, o2 + (Int.toNat k_) * 1, none⟩ (.int .i64 x2)]) rfl (by kernel_rfl) ⟨hs2, hb2, SlRd.cells hX_l ecI_ok H 1 rfl hs2 ex2 0 _ rfl, trivial⟩ fun a hE => ?_
        refine WR.done rfl ?_
        refine Runs.inBlock ?_
        refine Runs.region ?_
        refine WR.seg hE 3 [] [0, 1, 5, 6] (Lo := [(0, .pointer (some ⟨p_a_, 0, none⟩)), (1, .slice sb_l l.length sc_l), (5, .int .i64 x2), (6, .int .i64 (w64 (k_ - 1)))]) (obs := []) rfl (by kernel_rfl) trivial fun a hE => ?_
        refine WR.done rfl ?_
        exact ih m (Nat.lt_succ_self m) _ _ ⟨x2, w64 (k_ - 1), t_1.2, hE.sel [0, 1, 5, 6] (by kernel_rfl), H.t1.t1, hm⟩
      · replace hm := cond_f c hm
        refine Runs.exit rfl ?_
        cases hm
        exact hk _ _ ⟨hE.sel [5] (by kernel_rfl), H.t1.t1⟩
  rintro a w ⟨hE, H⟩
  refine Runs.seq ?_
  refine Runs.region ?_
  refine WR.seg hE 2 [] [4] (Lo := [(4, .int .i64 s.1)]) (obs := []) rfl (by kernel_rfl) trivial fun a hE => ?_
  refine WR.done rfl ?_
  refine Runs.ret hE Tryz.func82 rfl rfl ?_
  cases hm
  exact ⟨rfl, H.t1.t1⟩

theorem trees_Carry_ok {w0 w : World} {As : List HP} {k : Nat} {p_a_ : Nat} {al_a_ : arena_Arena.A} {a_ : arena_Arena} {sb_l : Option Addr} {sc_l : Nat} {l : List Int} {X_l : HP} {t : Int × arena_Arena} (hX_l : SlRd X_l ecI 1 sb_l l) (hC_l : l.length ≤ sc_l) (hm : trees_Carry k a_ l = some t) (H : St w0 (arena_Arena.R p_a_ al_a_ a_ :: X_l :: As) w) :
    CallsR Tryz.prog 56 #[.pointer (some ⟨p_a_, 0, none⟩), .slice sb_l l.length sc_l] w fun v w' => v = .int .i64 t.1 ∧ St w0 (arena_Arena.R p_a_ al_a_ t.2 :: X_l :: As) w' := by
  rw [trees_Carry] at hm
  refine enter (args := [.pointer (some ⟨p_a_, 0, none⟩), .slice sb_l l.length sc_l]) Tryz.func56 rfl rfl rfl fun a hE => ?_
  refine Runs.seq ?_
  refine Runs.region ?_
  refine WR.seg hE 1 [] [0, 1] (Lo := [(0, .pointer (some ⟨p_a_, 0, none⟩)), (1, .slice sb_l l.length sc_l)]) (obs := []) rfl (by kernel_rfl) trivial fun a hE => ?_
  refine WR.done rfl ?_
  refine Runs.seq ?_
  refine Runs.region ?_
  refine WR.seg hE 1 [] [0, 1, 5] (Lo := [(0, .pointer (some ⟨p_a_, 0, none⟩)), (1, .slice sb_l l.length sc_l), (5, .slice none 0 0)]) (obs := []) rfl (by kernel_rfl) trivial fun a hE => ?_
  refine WR.done rfl ?_
  refine Runs.seq ?_
  refine Runs.seq ?_
  refine Runs.region ?_
  refine WR.seg hE 3 [] [0, 5, 12, 13, 14] (Lo := [(0, .pointer (some ⟨p_a_, 0, none⟩)), (5, .slice none 0 0), (12, .slice sb_l l.length sc_l), (13, .int .i64 (l.length : Int)), (14, .int .i64 0)]) (obs := []) rfl (by kernel_rfl) trivial fun a hE => ?_
  refine WR.done rfl ?_
  obtain ⟨s, es, hm⟩ := bind_some hm
  refine Runs.join (fun a w => ∃ (sb1 : Option Addr), ∃ (sc1 : Nat), EnvOk 94 a [(0, .pointer (some ⟨p_a_, 0, none⟩)), (5, .slice sb1 s.1.length sc1)] ∧ St w0 (Sl 100 trees_ranked.enc 2 sb1 sc1 s.1 :: arena_Arena.R p_a_ al_a_ s.2 :: X_l :: As) w) (fun hk => ?_) ?_
  · replace hm := es; clear es
    replace H := H.slNil 100 trees_ranked.enc 2
    refine Runs.block ?_
    refine Runs.loop (fun m a w => ∃ (wait : List trees_ranked), ∃ (x : Int), ∃ (m_ : arena_Arena), ∃ (sb2 : Option Addr), ∃ (sc2 : Nat), EnvOk 94 a [(0, .pointer (some ⟨p_a_, 0, none⟩)), (5, .slice sb2 wait.length sc2), (12, .slice sb_l l.length sc_l), (13, .int .i64 (l.length : Int)), (14, .int .i64 x)] ∧ St w0 (Sl 100 trees_ranked.enc 2 sb2 sc2 wait :: arena_Arena.R p_a_ al_a_ m_ :: X_l :: As) w ∧ trees_Carry_l0 (l.length : Int) l m wait x m_ = some s) k ⟨([] : List trees_ranked), 0, a_, none, 0, hE.sel [0, 5, 12, 13, 14] (by kernel_rfl), H.t2.t2.t2, hm⟩ ?_
    rintro m ih a w ⟨wait, x, m_, sb2, sc2, hE, H, hm⟩
    cases m with
    | zero => simp [trees_Carry_l0] at hm
    | succ m =>
      rw [trees_Carry_l0] at hm
      refine Runs.seq ?_
      refine Runs.region ?_
      refine WR.seg hE 1 [] [0, 5, 12, 13, 14, 15] (Lo := [(0, .pointer (some ⟨p_a_, 0, none⟩)), (5, .slice sb2 wait.length sc2), (12, .slice sb_l l.length sc_l), (13, .int .i64 (l.length : Int)), (14, .int .i64 x), (15, .bool (decide (x < (l.length : Int))))]) (obs := []) rfl (by kernel_rfl) trivial fun a hE => ?_
      refine WR.done rfl ?_
      refine Runs.seq ?_
      refine Runs.cond hE rfl (fun c => ?_) (fun c => ?_)
      · replace hm := cond_t c hm
        refine Runs.skip ?_
        refine Runs.seq ?_
        refine Runs.block ?_
        refine Runs.seq ?_
        refine Runs.region ?_
        obtain ⟨x2, ex2, hm⟩ := bind_some hm
        obtain ⟨b, o, hs, hb⟩ := SlRd.base hX_l ecI_ok H 2 rfl ex2
        refine WR.seg hE 3 [.pointer (some ⟨b, o, none⟩), .int .i64 x2] [0, 5, 7, 12, 13, 14] (Lo := [(0, .pointer (some ⟨p_a_, 0, none⟩)), (5, .slice sb2 wait.length sc2), (7, .int .i64 x2), (12, .slice sb_l l.length sc_l), (13, .int .i64 (l.length : Int)), (14, .int .i64 x)]) (obs := [.p ((sb_l : Option Addr) = some ⟨b, o, none⟩), .p (0 ≤ (x : Int) ∧ (x : Int) < ((l.length : Nat) : Int)), .cell ⟨b, o + (Int.toNat x) * 1, none⟩ (.int .i64 x2)]) rfl (by kernel_rfl) ⟨hs, hb, SlRd.cells hX_l ecI_ok H 2 rfl hs ex2 0 _ rfl, trivial⟩ fun a hE => ?_
        refine WR.done rfl ?_
        refine Runs.region ?_
        refine WR.seg hE 4 [] [0, 5, 12, 13, 14, 18, 19, 20, 21] (Lo := [(0, .pointer (some ⟨p_a_, 0, none⟩)), (5, .slice sb2 wait.length sc2), (12, .slice sb_l l.length sc_l), (13, .int .i64 (l.length : Int)), (14, .int .i64 x), (18, .slice sb2 wait.length sc2), (19, .int .i64 x2), (20, .pointer (some ⟨p_a_, 0, none⟩)), (21, .int .i64 x2)]) (obs := []) rfl (by kernel_rfl) trivial fun a hE => ?_
        obtain ⟨t_, et_, hm⟩ := bind_some hm
        refine WR.eff hE rfl rfl rfl rfl (OpTo.fn hE rfl rfl Tryz.call51 (arena_Arena_Get_ok et_ H.t1)) ?_
        rintro _ w ⟨rfl, hf1, hf, H⟩ a hE
        refine WR.seg hE 6 [] [0, 5, 12, 13, 14, 18, 23] (Lo := [(0, .pointer (some ⟨p_a_, 0, none⟩)), (5, .slice sb2 wait.length sc2), (12, .slice sb_l l.length sc_l), (13, .int .i64 (l.length : Int)), (14, .int .i64 x), (18, .slice sb2 wait.length sc2), (23, .agg #[.int .i64 x2, .int .i64 t_.1])]) (obs := []) rfl (by kernel_rfl) trivial fun a hE => ?_
        refine WR.eff hE rfl rfl rfl rfl (OpTo.buildSl (T := 100) hE H trees_ranked.enc_ok ([trees_ranked.mk x2 t_.1] : List trees_ranked) rfl (fun _ => by kernel_rfl) rfl rfl rfl) ?_
        rintro _ w ⟨r, rfl, H⟩ a hE
        obtain ⟨l2, el2, hm⟩ := bind_some hm
        replace H := H.t2
        refine WR.eff hE rfl rfl rfl rfl (OpTo.appendM el2 hE H trees_ranked.enc_ok rfl rfl rfl rfl rfl rfl rfl rfl rfl rfl (SlRd.all (sl_rd 100 trees_ranked.enc 2 _ _ _) trees_ranked.enc_ok H 1 rfl) rfl) ?_
        rintro _ w ⟨sb3, sc3, rfl, H⟩ a hE
        refine WR.seg hE 9 [] [0, 5, 12, 13, 14] (Lo := [(0, .pointer (some ⟨p_a_, 0, none⟩)), (5, .slice sb3 l2.length sc3), (12, .slice sb_l l.length sc_l), (13, .int .i64 (l.length : Int)), (14, .int .i64 x)]) (obs := []) rfl (by kernel_rfl) trivial fun a hE => ?_
        refine WR.done rfl ?_
        refine Runs.inBlock ?_
        refine Runs.region ?_
        refine WR.seg hE 2 [] [0, 5, 12, 13, 14] (Lo := [(0, .pointer (some ⟨p_a_, 0, none⟩)), (5, .slice sb3 l2.length sc3), (12, .slice sb_l l.length sc_l), (13, .int .i64 (l.length : Int)), (14, .int .i64 (w64 (x + 1)))]) (obs := []) rfl (by kernel_rfl) trivial fun a hE => ?_
        refine WR.done rfl ?_
        exact ih m (Nat.lt_succ_self m) _ _ ⟨l2, w64 (x + 1), t_.2, sb3, sc3, hE.sel [0, 5, 12, 13, 14] (by kernel_rfl), H.x1.t2.t2.t2, hm⟩
      · replace hm := cond_f c hm
        refine Runs.exit rfl ?_
        cases hm
        exact hk _ _ ⟨sb2, sc2, hE.sel [0, 5] (by kernel_rfl), H.t2.t2.t2⟩
  rintro a w ⟨sb1, sc1, hE, H⟩
  refine Runs.seq ?_
  refine Runs.region ?_
  refine WR.seg hE 1 [] [0, 5, 27] (Lo := [(0, .pointer (some ⟨p_a_, 0, none⟩)), (5, .slice sb1 s.1.length sc1), (27, .slice sb1 s.1.length sc1)]) (obs := []) rfl (by kernel_rfl) trivial fun a hE => ?_
  obtain ⟨t_1, et_1, hm⟩ := bind_some hm
  refine WR.eff hE rfl rfl rfl rfl (OpTo.fn hE rfl rfl Tryz.call79 (slices_SortStableFunc_trees_ranked_g80_ok et_1 H)) ?_
  rintro _ w ⟨rfl, hl0, H⟩ a hE
  try rw [← hl0] at hE
  refine WR.done rfl ?_
  refine Runs.seq ?_
  refine Runs.region ?_
  refine WR.seg hE 1 [] [0, 5, 8] (Lo := [(0, .pointer (some ⟨p_a_, 0, none⟩)), (5, .slice sb1 t_1.length sc1), (8, .slice none 0 0)]) (obs := []) rfl (by kernel_rfl) trivial fun a hE => ?_
  refine WR.done rfl ?_
  refine Runs.seq ?_
  obtain ⟨s1, es1, hm⟩ := bind_some hm
  refine Runs.join (fun a w => ∃ (sb6 : Option Addr), ∃ (sc6 : Nat), EnvOk 94 a [(0, .pointer (some ⟨p_a_, 0, none⟩)), (8, .slice sb6 s1.1.length sc6)] ∧ St w0 (Sl 3 ecI 1 sb6 sc6 s1.1 :: arena_Arena.R p_a_ al_a_ s1.2 :: X_l :: As) w) (fun hk => ?_) ?_
  · replace hm := es1; clear es1
    replace H := H.slNil 3 ecI 1
    refine Runs.block ?_
    refine Runs.loop (fun m a w => ∃ (wait1 : List trees_ranked), ∃ (out : List Int), ∃ (m_1 : arena_Arena), ∃ (sb7 : Option Addr), ∃ (sc7 : Nat), ∃ (sb8 : Option Addr), ∃ (sc8 : Nat), EnvOk 94 a [(0, .pointer (some ⟨p_a_, 0, none⟩)), (5, .slice sb7 wait1.length sc7), (8, .slice sb8 out.length sc8)] ∧ St w0 (Sl 100 trees_ranked.enc 2 sb7 sc7 wait1 :: Sl 3 ecI 1 sb8 sc8 out :: arena_Arena.R p_a_ al_a_ m_1 :: X_l :: As) w ∧ trees_Carry_l1 l m wait1 out m_1 = some s1) k ⟨t_1, ([] : List Int), s.2, sb1, sc1, none, 0, hE.sel [0, 5, 8] (by kernel_rfl), H.t3.t3.t2.t3, hm⟩ ?_
    rintro m ih a w ⟨wait1, out, m_1, sb7, sc7, sb8, sc8, hE, H, hm⟩
    cases m with
    | zero => simp [trees_Carry_l1] at hm
    | succ m =>
      rw [trees_Carry_l1] at hm
      refine Runs.seq ?_
      refine Runs.seq ?_
      refine Runs.region ?_
      refine WR.seg hE 3 [] [0, 5, 8, 31] (Lo := [(0, .pointer (some ⟨p_a_, 0, none⟩)), (5, .slice sb7 wait1.length sc7), (8, .slice sb8 out.length sc8), (31, .bool (decide ((wait1.length : Int) > 0)))]) (obs := []) rfl (by kernel_rfl) trivial fun a hE => ?_
      refine WR.done rfl ?_
      refine Runs.cond hE rfl (fun c => ?_) (fun c => ?_)
      · replace hm := cond_t c hm
        refine Runs.skip ?_
        refine Runs.block ?_
        refine Runs.seq ?_
        refine Runs.region ?_
        obtain ⟨x3, ex3, hm⟩ := bind_some hm
        obtain ⟨b1, o1, hs1, hb1⟩ := SlRd.base (sl_rd 100 trees_ranked.enc 2 _ _ _) trees_ranked.enc_ok H 0 rfl ex3
        refine WR.seg hE 3 [.pointer (some ⟨b1, o1, none⟩), .int .i64 x3.n, .int .i64 x3.rank] [0, 5, 8, 34] (Lo := [(0, .pointer (some ⟨p_a_, 0, none⟩)), (5, .slice sb7 wait1.length sc7), (8, .slice sb8 out.length sc8), (34, .agg #[.int .i64 x3.n, .int .i64 x3.rank])]) (obs := [.p ((sb7 : Option Addr) = some ⟨b1, o1, none⟩), .p (0 ≤ (0 : Int) ∧ (0 : Int) < ((wait1.length : Nat) : Int)), .cell ⟨b1, o1 + (Int.toNat 0) * 2, none⟩ (.int .i64 x3.n), .cell ⟨b1, o1 + (Int.toNat 0) * 2 + 1, none⟩ (.int .i64 x3.rank)]) rfl (by kernel_rfl) ⟨hs1, hb1, SlRd.cells (sl_rd 100 trees_ranked.enc 2 _ _ _) trees_ranked.enc_ok H 0 rfl hs1 ex3 0 _ rfl, SlRd.cells (sl_rd 100 trees_ranked.enc 2 _ _ _) trees_ranked.enc_ok H 0 rfl hs1 ex3 1 _ rfl, trivial⟩ fun a hE => ?_
        refine WR.eff hE rfl rfl rfl rfl (OpTo.new hE H [] (.cells #[.int .i64 0, .int .i64 0] 100 (0, 0)) (fun r => .pointer (some ⟨r, 0, none⟩)) (obs := []) rfl (fun _ => by kernel_rfl) trivial) ?_
        rintro _ w ⟨r1, rfl, H⟩ a hE
        refine WR.eff0 hE rfl rfl rfl (OpTo.store hE H rfl rfl rfl rfl rfl rfl (Nat.le_of_ble_eq_true rfl)) ?_
        rintro _ w H a hE
        refine WR.done rfl ?_
        refine Runs.seq ?_
        refine Runs.seq ?_
        obtain ⟨s2, es2, hm⟩ := bind_some hm
        refine Runs.join (fun a w => EnvOk 94 a [(0, .pointer (some ⟨p_a_, 0, none⟩)), (5, .slice sb7 wait1.length sc7), (8, .slice sb8 out.length sc8), (9, .pointer (some ⟨r1, 0, none⟩)), (46, .bool s2)] ∧ St w0 (Blk r1 100 [.int .i64 x3.n, .int .i64 x3.rank] :: Sl 100 trees_ranked.enc 2 sb7 sc7 wait1 :: Sl 3 ecI 1 sb8 sc8 out :: arena_Arena.R p_a_ al_a_ m_1 :: X_l :: As) w) (fun hk => ?_) ?_
        · replace hm := es2; clear es2
          refine Runs.drawn mixed (by kernel_rfl) ?_
          replace H := H.drew
          refine WQ.seg hE [0, 1, 2, 3] [] [0, 5, 8, 9, 38] (Lo := [(0, .pointer (some ⟨p_a_, 0, none⟩)), (5, .slice sb7 wait1.length sc7), (8, .slice sb8 out.length sc8), (9, .pointer (some ⟨r1, 0, none⟩)), (38, .bool ((wait1.length : Int) == 1))]) (obs := []) (by kernel_rfl) (by kernel_rfl) trivial fun a hE => ?_
          rcases Bool.eq_false_or_eq_true ((wait1.length : Int) == 1) with c | c
          · replace hE := hE.dec 38 c (by kernel_rfl)
            replace hm := cond_t c hm
            have c_ := c
            refine WQ.seg hE [4, 5, 6, 7, 8, 9, 10, 11] [] [0, 5, 8, 9, 46] (Lo := [(0, .pointer (some ⟨p_a_, 0, none⟩)), (5, .slice sb7 wait1.length sc7), (8, .slice sb8 out.length sc8), (9, .pointer (some ⟨r1, 0, none⟩)), (46, .bool true)]) (obs := []) (by kernel_rfl) (by kernel_rfl) trivial fun a hE => ?_
            refine WQ.done (by kernel_rfl) ?_
            cases hm
            exact hk _ _ ⟨hE.sel [0, 5, 8, 9, 46] (by kernel_rfl), H.t4.t4.t4.t4.t4⟩
          · replace hE := hE.dec 38 c (by kernel_rfl)
            replace hm := cond_f c hm
            have c_1 := c
            obtain ⟨x5, ex5, hm⟩ := bind_some hm
            obtain ⟨b3, o3, hs3, hb3⟩ := SlRd.base (sl_rd 100 trees_ranked.enc 2 _ _ _) trees_ranked.enc_ok H 1 rfl ex5
            refine WQ.seg hE [4, 5, 6, 7, 8, 9, 10, 11] [.pointer (some ⟨b3, o3, none⟩), .int .i64 x5.rank, .int .i64 x3.rank] [0, 5, 8, 9, 46] (Lo := [(0, .pointer (some ⟨p_a_, 0, none⟩)), (5, .slice sb7 wait1.length sc7), (8, .slice sb8 out.length sc8), (9, .pointer (some ⟨r1, 0, none⟩)), (46, .bool (x5.rank != x3.rank))]) (obs := [.p ((sb7 : Option Addr) = some ⟨b3, o3, none⟩), .p (0 ≤ (1 : Int) ∧ (1 : Int) < ((wait1.length : Nat) : Int)), .cell ⟨b3, o3 + (Int.toNat 1) * 2 + 1, none⟩ (.int .i64 x5.rank), .cell ⟨r1, 1, none⟩ (.int .i64 x3.rank)]) (by kernel_rfl) (by kernel_rfl) ⟨hs3, hb3, SlRd.cells (sl_rd 100 trees_ranked.enc 2 _ _ _) trees_ranked.enc_ok H 1 rfl hs3 ex5 1 _ rfl, H.cell 0 rfl rfl, trivial⟩ fun a hE => ?_
            refine WQ.done (by kernel_rfl) ?_
            cases hm
            exact hk _ _ ⟨hE.sel [0, 5, 8, 9, 46] (by kernel_rfl), H.t4.t4.t4.t4.t4⟩
        rintro a w ⟨hE, H⟩
        refine Runs.cond hE rfl (fun c => ?_) (fun c => ?_)
        · replace hm := cond_t c hm
          refine Runs.seq ?_
          refine Runs.drawn mixed (by kernel_rfl) ?_
          replace H := H.drew
          obtain ⟨l4, el4, hm⟩ := bind_some hm
          obtain ⟨sb9, q1⟩ : ∃ z, rebase sb7 sc7 (Int.toNat 1) 2 = z := ⟨_, rfl⟩
          obtain ⟨sc9, q2⟩ : ∃ z, sc7 - (Int.toNat 1) = z := ⟨_, rfl⟩
          refine WQ.seg hE [0, 1, 2, 5, 6] [.int .i64 x3.n, .slice sb9 l4.length sc9] [0, 5, 8, 47, 49, 53] (Lo := [(0, .pointer (some ⟨p_a_, 0, none⟩)), (5, .slice sb7 wait1.length sc7), (8, .slice sb8 out.length sc8), (47, .slice sb8 out.length sc8), (49, .int .i64 x3.n), (53, .slice sb9 l4.length sc9)]) (obs := [.cell ⟨r1, 0, none⟩ (.int .i64 x3.n), .p (rebase sb7 sc7 (Int.toNat 1) 2 = sb9), .p (wait1.length - (Int.toNat 1) = l4.length), .p (sc7 - (Int.toNat 1) = sc9), .p (0 ≤ (1 : Int) ∧ (1 : Int) ≤ ((wait1.length : Nat) : Int))]) (by kernel_rfl) (by kernel_rfl) ⟨H.cell 0 rfl rfl, q1, cut_len el4, q2, cut_bd0 el4, trivial⟩ fun a hE => ?_
          refine WQ.eff (j := 3) (obs := [.p (rebase sb7 sc7 (Int.toNat 1) 2 = sb9), .p (wait1.length - (Int.toNat 1) = l4.length), .p (sc7 - (Int.toNat 1) = sc9), .p (0 ≤ (1 : Int) ∧ (1 : Int) ≤ ((wait1.length : Nat) : Int))]) hE (by kernel_rfl) rfl rfl rfl rfl (by kernel_rfl) (OpTo.buildSl (T := 3) hE H ecI_ok ([x3.n] : List Int) rfl (fun _ => by kernel_rfl) rfl rfl rfl) ?_
          rintro _ w ⟨r2, rfl, H⟩
          refine ⟨⟨q1, cut_len el4, q2, cut_bd0 el4, trivial⟩, fun a hE => ?_⟩
          obtain ⟨l5, el5, hm⟩ := bind_some hm
          replace H := H.t3
          refine WQ.eff (j := 4) (obs := [.p (rebase sb7 sc7 (Int.toNat 1) 2 = sb9), .p (wait1.length - (Int.toNat 1) = l4.length), .p (sc7 - (Int.toNat 1) = sc9), .p (0 ≤ (1 : Int) ∧ (1 : Int) ≤ ((wait1.length : Nat) : Int))]) hE (by kernel_rfl) rfl rfl rfl rfl (by kernel_rfl) (OpTo.appendM el5 hE H ecI_ok rfl rfl rfl rfl rfl rfl rfl rfl rfl rfl (SlRd.all (sl_rd 3 ecI 1 _ _ _) ecI_ok H 1 rfl) rfl) ?_
          rintro _ w ⟨sb10, sc10, rfl, H⟩
          refine ⟨⟨q1, cut_len el4, q2, cut_bd0 el4, trivial⟩, fun a hE => ?_⟩
          refine WQ.seg hE [7, 8] [] [0, 5, 8] (Lo := [(0, .pointer (some ⟨p_a_, 0, none⟩)), (5, .slice sb9 l4.length sc9), (8, .slice sb10 l5.length sc10)]) (obs := []) (by kernel_rfl) (by kernel_rfl) trivial fun a hE => ?_
          refine WQ.done (by kernel_rfl) ?_
          refine Runs.exit rfl ?_
          replace H := H.t3.slCut' trees_ranked.enc_ok el4 q1 q2
          exact ih m (Nat.lt_succ_self m) _ _ ⟨l4, l5, m_1, sb9, sc9, sb10, sc10, hE.sel [0, 5, 8] (by kernel_rfl), H.x3.x2.t3.t3.t3.t3, hm⟩
        · replace hm := cond_f c hm
          refine Runs.skip ?_
          refine Runs.seq ?_
          obtain ⟨x6, ex6, hm⟩ := bind_some hm
          obtain ⟨t_2, et_2, hm⟩ := bind_some hm
          refine Runs.join (fun a w => ∃ (r4 : Nat), EnvOk 94 a [(0, .pointer (some ⟨p_a_, 0, none⟩)), (5, .slice sb7 wait1.length sc7), (8, .slice sb8 out.length sc8), (10, .pointer (some ⟨r4, 0, none⟩))] ∧ St w0 (Blk r4 100 [.int .i64 ((trees_ranked.mk t_2.1 (w64 (x3.rank + 1))).n), .int .i64 ((trees_ranked.mk t_2.1 (w64 (x3.rank + 1))).rank)] :: Sl 100 trees_ranked.enc 2 sb7 sc7 wait1 :: Sl 3 ecI 1 sb8 sc8 out :: arena_Arena.R p_a_ al_a_ t_2.2 :: X_l :: As) w) (fun hk => ?_) ?_
          ·
            refine Runs.drawn mixed (by kernel_rfl) ?_
            replace H := H.drew
            obtain ⟨b5, o5, hs5, hb5⟩ := SlRd.base (sl_rd 100 trees_ranked.enc 2 _ _ _) trees_ranked.enc_ok H 1 rfl ex6
            refine WQ.seg hE [0, 1, 2, 3, 4, 5, 6, 7, 8, 10, 11, 12] [.int .i64 x3.n, .pointer (some ⟨b5, o5, none⟩), .int .i64 x6.n, .int .i64 x3.rank, .int .i64 x3.rank] [0, 5, 8, 54, 56, 60, 62, 66] (Lo := [(0, .pointer (some ⟨p_a_, 0, none⟩)), (5, .slice sb7 wait1.length sc7), (8, .slice sb8 out.length sc8), (54, .pointer (some ⟨p_a_, 0, none⟩)), (56, .int .i64 x3.n), (60, .int .i64 x6.n), (62, .int .i64 x3.rank), (66, .int .i64 (w64 (x3.rank + 1)))]) (obs := [.cell ⟨r1, 0, none⟩ (.int .i64 x3.n), .p ((sb7 : Option Addr) = some ⟨b5, o5, none⟩), .p (0 ≤ (1 : Int) ∧ (1 : Int) < ((wait1.length : Nat) : Int)), .cell ⟨b5, o5 + (Int.toNat 1) * 2, none⟩ (.int .i64 x6.n), .cell ⟨r1, 1, none⟩ (.int .i64 x3.rank), .cell ⟨r1, 1, none⟩ (.int .i64 x3.rank)]) (by kernel_rfl) (by kernel_rfl) ⟨H.cell 0 rfl rfl, hs5, hb5, SlRd.cells (sl_rd 100 trees_ranked.enc 2 _ _ _) trees_ranked.enc_ok H 1 rfl hs5 ex6 0 _ rfl, H.cell 0 rfl rfl, H.cell 0 rfl rfl, trivial⟩ fun a hE => ?_
            refine WQ.act2 9 14 (by kernel_rfl) ?_ ?_
            ·
              refine AQ.eff (j := 9) (obs := [.cell ⟨r1, 1, none⟩ (.int .i64 x3.rank)]) hE rfl rfl rfl rfl (by kernel_rfl) (OpTo.fn hE rfl rfl Tryz.call61 (trees_Link_ok et_2 H.t3)) ?_
              rintro _ w ⟨rfl, H⟩
              refine ⟨⟨H.cell 1 rfl rfl, trivial⟩, fun a hE => ?_⟩
              refine WQ.seg hE [13] [] [0, 5, 8, 67] (Lo := [(0, .pointer (some ⟨p_a_, 0, none⟩)), (5, .slice sb7 wait1.length sc7), (8, .slice sb8 out.length sc8), (67, .agg #[.int .i64 t_2.1, .int .i64 (w64 (x3.rank + 1))])]) (obs := []) (by kernel_rfl) (by kernel_rfl) trivial fun a hE => ?_
              refine WQ.eff (j := 14) (obs := [.cell ⟨r1, 1, none⟩ (.int .i64 x3.rank)]) hE (by kernel_rfl) rfl rfl rfl rfl (by kernel_rfl) (OpTo.new hE H [] (.cells #[.int .i64 0, .int .i64 0] 100 (0, 0)) (fun r => .pointer (some ⟨r, 0, none⟩)) (obs := []) rfl (fun _ => by kernel_rfl) trivial) ?_
              rintro _ w ⟨r5, rfl, H⟩
              refine ⟨⟨H.cell 2 rfl rfl, trivial⟩, fun a hE => ?_⟩
              refine WQ.eff0 (j := 15) (obs := []) hE (by kernel_rfl) rfl rfl rfl (by kernel_rfl) (OpTo.store hE H rfl rfl rfl rfl rfl rfl (Nat.le_of_ble_eq_true rfl)) ?_
              rintro _ w H
              refine ⟨trivial, fun a hE => ?_⟩
              refine WQ.done (by kernel_rfl) ?_
              exact hk _ _ ⟨r5, hE.sel [0, 5, 8, 10] (by kernel_rfl), H.x2.t4.t2.t4.t4.t4⟩
            ·
              refine AQ.eff (j := 14) (obs := [.cell ⟨r1, 1, none⟩ (.int .i64 x3.rank), .cell ⟨r1, 1, none⟩ (.int .i64 x3.rank), .cell ⟨b5, o5 + (Int.toNat 1) * 2, none⟩ (.int .i64 x6.n), .p ((sb7 : Option Addr) = some ⟨b5, o5, none⟩), .p (0 ≤ (1 : Int) ∧ (1 : Int) < ((wait1.length : Nat) : Int)), .cell ⟨r1, 0, none⟩ (.int .i64 x3.n)]) hE rfl rfl rfl rfl (by kernel_rfl) (OpTo.new hE H [] (.cells #[.int .i64 0, .int .i64 0] 100 (0, 0)) (fun r => .pointer (some ⟨r, 0, none⟩)) (obs := []) rfl (fun _ => by kernel_rfl) trivial) ?_
              rintro _ w ⟨r6, rfl, H⟩
              refine ⟨⟨H.cell 1 rfl rfl, H.cell 1 rfl rfl, SlRd.cells (sl_rd 100 trees_ranked.enc 2 _ _ _) trees_ranked.enc_ok H 2 rfl hs5 ex6 0 _ rfl, hs5, hb5, H.cell 1 rfl rfl, trivial⟩, fun a hE => ?_⟩
              refine WQ.eff (j := 9) (obs := [.cell ⟨r1, 1, none⟩ (.int .i64 x3.rank)]) hE (by kernel_rfl) rfl rfl rfl rfl (by kernel_rfl) (OpTo.fn hE rfl rfl Tryz.call61 (trees_Link_ok et_2 H.t4)) ?_
              rintro _ w ⟨rfl, H⟩
              refine ⟨⟨H.cell 2 rfl rfl, trivial⟩, fun a hE => ?_⟩
              refine WQ.seg hE [13] [] [0, 5, 8, 10, 67] (Lo := [(0, .pointer (some ⟨p_a_, 0, none⟩)), (5, .slice sb7 wait1.length sc7), (8, .slice sb8 out.length sc8), (10, .pointer (some ⟨r6, 0, none⟩)), (67, .agg #[.int .i64 t_2.1, .int .i64 (w64 (x3.rank + 1))])]) (obs := []) (by kernel_rfl) (by kernel_rfl) trivial fun a hE => ?_
              refine WQ.eff0 (j := 15) (obs := []) hE (by kernel_rfl) rfl rfl rfl (by kernel_rfl) (OpTo.store hE H.t1 rfl rfl rfl rfl rfl rfl (Nat.le_of_ble_eq_true rfl)) ?_
              rintro _ w H
              refine ⟨trivial, fun a hE => ?_⟩
              refine WQ.done (by kernel_rfl) ?_
              exact hk _ _ ⟨r6, hE.sel [0, 5, 8, 10] (by kernel_rfl), H.x2.t4.t2.t4.t4.t4⟩
          rintro a w ⟨r4, hE, H⟩
          refine Runs.seq ?_
          refine Runs.region ?_
          obtain ⟨l6, el6, hm⟩ := bind_some hm
          obtain ⟨sb11, q4⟩ : ∃ z, rebase sb7 sc7 (Int.toNat 2) 2 = z := ⟨_, rfl⟩
          obtain ⟨sc11, q5⟩ : ∃ z, sc7 - (Int.toNat 2) = z := ⟨_, rfl⟩
          refine WR.seg hE 3 [.slice sb11 l6.length sc11] [0, 5, 8, 10] (Lo := [(0, .pointer (some ⟨p_a_, 0, none⟩)), (5, .slice sb11 l6.length sc11), (8, .slice sb8 out.length sc8), (10, .pointer (some ⟨r4, 0, none⟩))]) (obs := [.p (rebase sb7 sc7 (Int.toNat 2) 2 = sb11), .p (wait1.length - (Int.toNat 2) = l6.length), .p (sc7 - (Int.toNat 2) = sc11), .p (0 ≤ (2 : Int) ∧ (2 : Int) ≤ ((wait1.length : Nat) : Int))]) rfl (by kernel_rfl) ⟨q4, cut_len el6, q5, cut_bd0 el6, trivial⟩ fun a hE => ?_
          refine WR.done rfl ?_
          refine Runs.seq ?_
          refine Runs.region ?_
          refine WR.seg hE 1 [] [0, 5, 8, 10, 11] (Lo := [(0, .pointer (some ⟨p_a_, 0, none⟩)), (5, .slice sb11 l6.length sc11), (8, .slice sb8 out.length sc8), (10, .pointer (some ⟨r4, 0, none⟩)), (11, .int .i64 0)]) (obs := []) rfl (by kernel_rfl) trivial fun a hE => ?_
          refine WR.done rfl ?_
          refine Runs.seq ?_
          replace H := H.t1.slCut' trees_ranked.enc_ok el6 q4 q5
          obtain ⟨s3, es3, hm⟩ := bind_some hm
          refine Runs.join (fun a w => EnvOk 94 a [(0, .pointer (some ⟨p_a_, 0, none⟩)), (5, .slice sb11 l6.length sc11), (8, .slice sb8 out.length sc8), (10, .pointer (some ⟨r4, 0, none⟩)), (11, .int .i64 s3)] ∧ St w0 (Sl 100 trees_ranked.enc 2 sb11 sc11 l6 :: Blk r4 100 [.int .i64 ((trees_ranked.mk t_2.1 (w64 (x3.rank + 1))).n), .int .i64 ((trees_ranked.mk t_2.1 (w64 (x3.rank + 1))).rank)] :: Sl 3 ecI 1 sb8 sc8 out :: arena_Arena.R p_a_ al_a_ t_2.2 :: X_l :: As) w) (fun hk => ?_) ?_
          · replace hm := es3; clear es3
            refine Runs.block ?_
            refine Runs.loop (fun m a w => ∃ (k_ : Int), EnvOk 94 a [(0, .pointer (some ⟨p_a_, 0, none⟩)), (5, .slice sb11 l6.length sc11), (8, .slice sb8 out.length sc8), (10, .pointer (some ⟨r4, 0, none⟩)), (11, .int .i64 k_)] ∧ St w0 (Sl 100 trees_ranked.enc 2 sb11 sc11 l6 :: Blk r4 100 [.int .i64 ((trees_ranked.mk t_2.1 (w64 (x3.rank + 1))).n), .int .i64 ((trees_ranked.mk t_2.1 (w64 (x3.rank + 1))).rank)] :: Sl 3 ecI 1 sb8 sc8 out :: arena_Arena.R p_a_ al_a_ t_2.2 :: X_l :: As) w ∧ trees_Carry_l2 l6 ((trees_ranked.mk t_2.1 (w64 (x3.rank + 1))).n) ((trees_ranked.mk t_2.1 (w64 (x3.rank + 1))).rank) out t_2.2 l m k_ = some s3) m ⟨0, hE.sel [0, 5, 8, 10, 11] (by kernel_rfl), H.t4.t4.t4.t4.t4, hm⟩ ?_
            rintro m ih a w ⟨k_, hE, H, hm⟩
            cases m with
            | zero => simp [trees_Carry_l2] at hm
            | succ m =>
              rw [trees_Carry_l2] at hm
              refine Runs.seq ?_
              refine Runs.seq ?_
              obtain ⟨s4, es4, hm⟩ := bind_some hm
              refine Runs.join (fun a w => EnvOk 94 a [(0, .pointer (some ⟨p_a_, 0, none⟩)), (5, .slice sb11 l6.length sc11), (8, .slice sb8 out.length sc8), (10, .pointer (some ⟨r4, 0, none⟩)), (11, .int .i64 k_), (83, .bool s4)] ∧ St w0 (Sl 100 trees_ranked.enc 2 sb11 sc11 l6 :: Blk r4 100 [.int .i64 ((trees_ranked.mk t_2.1 (w64 (x3.rank + 1))).n), .int .i64 ((trees_ranked.mk t_2.1 (w64 (x3.rank + 1))).rank)] :: Sl 3 ecI 1 sb8 sc8 out :: arena_Arena.R p_a_ al_a_ t_2.2 :: X_l :: As) w) (fun hk => ?_) ?_
              · replace hm := es4; clear es4
                refine Runs.drawn mixed (by kernel_rfl) ?_
                replace H := H.drew
                refine WQ.seg hE [0, 1, 2, 3, 4] [] [0, 5, 8, 10, 11, 74] (Lo := [(0, .pointer (some ⟨p_a_, 0, none⟩)), (5, .slice sb11 l6.length sc11), (8, .slice sb8 out.length sc8), (10, .pointer (some ⟨r4, 0, none⟩)), (11, .int .i64 k_), (74, .bool (decide (k_ < (l6.length : Int))))]) (obs := []) (by kernel_rfl) (by kernel_rfl) trivial fun a hE => ?_
                rcases Bool.eq_false_or_eq_true (decide (k_ < (l6.length : Int))) with c | c
                · replace hE := hE.dec 74 c (by kernel_rfl)
                  replace hm := cond_t c hm
                  have c_2 := c
                  obtain ⟨x8, ex8, hm⟩ := bind_some hm
                  obtain ⟨b7, o7, hs7, hb7⟩ := SlRd.base (sl_rd 100 trees_ranked.enc 2 _ _ _) trees_ranked.enc_ok H 0 rfl ex8
                  refine WQ.seg hE [5, 6, 7, 8, 9, 10, 11, 12, 13] [.pointer (some ⟨b7, o7, none⟩), .int .i64 x8.rank, .int .i64 ((trees_ranked.mk t_2.1 (w64 (x3.rank + 1))).rank)] [0, 5, 8, 10, 11, 83] (Lo := [(0, .pointer (some ⟨p_a_, 0, none⟩)), (5, .slice sb11 l6.length sc11), (8, .slice sb8 out.length sc8), (10, .pointer (some ⟨r4, 0, none⟩)), (11, .int .i64 k_), (83, .bool (decide (x8.rank < (trees_ranked.mk t_2.1 (w64 (x3.rank + 1))).rank)))]) (obs := [.p ((sb11 : Option Addr) = some ⟨b7, o7, none⟩), .p (0 ≤ (k_ : Int) ∧ (k_ : Int) < ((l6.length : Nat) : Int)), .cell ⟨b7, o7 + (Int.toNat k_) * 2 + 1, none⟩ (.int .i64 x8.rank), .cell ⟨r4, 1, none⟩ (.int .i64 ((trees_ranked.mk t_2.1 (w64 (x3.rank + 1))).rank))]) (by kernel_rfl) (by kernel_rfl) ⟨hs7, hb7, SlRd.cells (sl_rd 100 trees_ranked.enc 2 _ _ _) trees_ranked.enc_ok H 0 rfl hs7 ex8 1 _ rfl, H.cell 1 rfl rfl, trivial⟩ fun a hE => ?_
                  refine WQ.done (by kernel_rfl) ?_
                  cases hm
                  exact hk _ _ ⟨hE.sel [0, 5, 8, 10, 11, 83] (by kernel_rfl), H.t4.t4.t4.t4.t4⟩
                · replace hE := hE.dec 74 c (by kernel_rfl)
                  replace hm := cond_f c hm
                  have c_3 := c
                  refine WQ.seg hE [5, 6, 7, 8, 9, 10, 11, 12, 13] [] [0, 5, 8, 10, 11, 83] (Lo := [(0, .pointer (some ⟨p_a_, 0, none⟩)), (5, .slice sb11 l6.length sc11), (8, .slice sb8 out.length sc8), (10, .pointer (some ⟨r4, 0, none⟩)), (11, .int .i64 k_), (83, .bool false)]) (obs := []) (by kernel_rfl) (by kernel_rfl) trivial fun a hE => ?_
                  refine WQ.done (by kernel_rfl) ?_
                  cases hm
                  exact hk _ _ ⟨hE.sel [0, 5, 8, 10, 11, 83] (by kernel_rfl), H.t4.t4.t4.t4.t4⟩
              rintro a w ⟨hE, H⟩
              refine Runs.cond hE rfl (fun c => ?_) (fun c => ?_)
              · replace hm := cond_t c hm
                refine Runs.skip ?_
                refine Runs.block ?_
                refine Runs.region ?_
                refine WR.seg hE 3 [] [0, 5, 8, 10, 11] (Lo := [(0, .pointer (some ⟨p_a_, 0, none⟩)), (5, .slice sb11 l6.length sc11), (8, .slice sb8 out.length sc8), (10, .pointer (some ⟨r4, 0, none⟩)), (11, .int .i64 (w64 (k_ + 1)))]) (obs := []) rfl (by kernel_rfl) trivial fun a hE => ?_
                refine WR.done rfl ?_
                refine Runs.inBlock ?_
                exact ih m (Nat.lt_succ_self m) _ _ ⟨w64 (k_ + 1), hE.sel [0, 5, 8, 10, 11] (by kernel_rfl), H.t4.t4.t4.t4.t4, hm⟩
              · replace hm := cond_f c hm
                refine Runs.exit rfl ?_
                cases hm
                exact hk _ _ ⟨hE.sel [0, 5, 8, 10, 11] (by kernel_rfl), H.t4.t4.t4.t4.t4⟩
          rintro a w ⟨hE, H⟩
          refine Runs.region ?_
          refine WR.seg hE 3 [.int .i64 ((trees_ranked.mk t_2.1 (w64 (x3.rank + 1))).n), .int .i64 ((trees_ranked.mk t_2.1 (w64 (x3.rank + 1))).rank)] [0, 5, 8, 86, 87, 88] (Lo := [(0, .pointer (some ⟨p_a_, 0, none⟩)), (5, .slice sb11 l6.length sc11), (8, .slice sb8 out.length sc8), (86, .slice sb11 l6.length sc11), (87, .int .i64 s3), (88, .agg #[.int .i64 ((trees_ranked.mk t_2.1 (w64 (x3.rank + 1))).n), .int .i64 ((trees_ranked.mk t_2.1 (w64 (x3.rank + 1))).rank)])]) (obs := [.cell ⟨r4, 0, none⟩ (.int .i64 ((trees_ranked.mk t_2.1 (w64 (x3.rank + 1))).n)), .cell ⟨r4, 1, none⟩ (.int .i64 ((trees_ranked.mk t_2.1 (w64 (x3.rank + 1))).rank))]) rfl (by kernel_rfl) ⟨H.cell 1 rfl rfl, H.cell 1 rfl rfl, trivial⟩ fun a hE => ?_
          refine WR.eff hE rfl rfl rfl rfl (OpTo.buildSl (T := 100) hE H trees_ranked.enc_ok ([(trees_ranked.mk t_2.1 (w64 (x3.rank + 1)))] : List trees_ranked) rfl (fun _ => by kernel_rfl) rfl rfl rfl) ?_
          rintro _ w ⟨r7, rfl, H⟩ a hE
          obtain ⟨t_3, et_3, hm⟩ := bind_some hm
          refine WR.eff hE rfl rfl rfl rfl (OpTo.fn hE rfl rfl Tryz.call81 (slices_Insert_trees_ranked_ok et_3 H.t1)) ?_
          rintro _ w ⟨sb12, sc12, rfl, H⟩ a hE
          refine WR.seg hE 6 [] [0, 5, 8] (Lo := [(0, .pointer (some ⟨p_a_, 0, none⟩)), (5, .slice sb12 t_3.length sc12), (8, .slice sb8 out.length sc8)]) (obs := []) rfl (by kernel_rfl) trivial fun a hE => ?_
          refine WR.done rfl ?_
          refine Runs.inBlock ?_
          exact ih m (Nat.lt_succ_self m) _ _ ⟨t_3, out, t_2.2, sb12, sc12, sb8, sc8, hE.sel [0, 5, 8] (by kernel_rfl), H.x1.t3.t3.t3.t3, hm⟩
      · replace hm := cond_f c hm
        refine Runs.exit rfl ?_
        cases hm
        exact hk _ _ ⟨sb8, sc8, hE.sel [0, 8] (by kernel_rfl), H.x0.t2.t2.t2⟩
  rintro a w ⟨sb6, sc6, hE, H⟩
  refine Runs.seq ?_
  refine Runs.region ?_
  refine WR.seg hE 2 [] [91, 92] (Lo := [(91, .pointer (some ⟨p_a_, 0, none⟩)), (92, .slice sb6 s1.1.length sc6)]) (obs := []) rfl (by kernel_rfl) trivial fun a hE => ?_
  obtain ⟨t_4, et_4, hm⟩ := bind_some hm
  replace H := H.t1
  refine WR.eff hE rfl rfl rfl rfl (OpTo.fn hE rfl rfl Tryz.call82 (trees_Row_ok (hX_l := (sl_rd 3 ecI 1 _ _ _)) (hC_l := (H.slCap 1 rfl).1) et_4 H)) ?_
  rintro _ w ⟨rfl, H⟩ a hE
  refine WR.seg hE 4 [] [4] (Lo := [(4, .int .i64 t_4.1)]) (obs := []) rfl (by kernel_rfl) trivial fun a hE => ?_
  refine WR.done rfl ?_
  refine Runs.ret hE Tryz.func56 rfl rfl ?_
  cases hm
  exact ⟨rfl, H.x1.t1.t1⟩

end Go.Proofs.YtlfiboncgkijkaaGreat
