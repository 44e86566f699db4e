import Derived.Test.YthblgkpmefpllaaGreatBp2
set_option linter.unusedVariables false
set_option linter.unusedSimpArgs false
set_option maxRecDepth 10000
set_option maxHeartbeats 4000000
namespace Go.Proofs.YthblgkpmefpllaaGreat
open Go.Th

theorem thicketlaw9_world_right_ok {w0 w : World} {As : List HP} {k : Nat} {p_w_ : Nat} {al_w_ : thicketlaw9_world.A} {w_ : thicketlaw9_world} {t : Bool × thicketlaw9_world}  (hm : thicketlaw9_world_right k w_ = some t) (H : St w0 (thicketlaw9_world.R p_w_ al_w_ w_ :: As) w) :
    CallsR Tryz.prog 30 #[.pointer (some ⟨p_w_, 0, none⟩)] w fun v w' => v = .bool t.1 ∧ St w0 (thicketlaw9_world.R p_w_ al_w_ t.2 :: As) w' := by
  rw [thicketlaw9_world_right] at hm
  refine enter (args := [.pointer (some ⟨p_w_, 0, none⟩)]) Tryz.func30 rfl rfl rfl fun a hE => ?_
  refine Runs.seq ?_
  refine Runs.region ?_
  refine WR.seg hE 1 [] [0] (Lo := [(0, .pointer (some ⟨p_w_, 0, none⟩))]) (obs := []) rfl (by kernel_rfl) trivial fun a hE => ?_
  refine WR.done rfl ?_
  refine Runs.seq ?_
  refine Runs.seq ?_
  refine Runs.drawn mixed (by kernel_rfl) ?_
  replace H := H.drew
  replace H := thicketlaw9_world.open H
  refine WQ.seg hE [0, 1, 2, 3, 5, 6, 7, 8, 9, 10, 11, 12, 13, 14, 15, 16, 17, 18] [.pointer (some ⟨al_w_.a__p, 0, none⟩), .slice al_w_.has0_b w_.has0.length al_w_.has0_c, .slice al_w_.has1_b w_.has1.length al_w_.has1_c] [0, 10, 25] (Lo := [(0, .pointer (some ⟨p_w_, 0, none⟩)), (10, .pointer (some ⟨al_w_.a__p, 0, none⟩)), (25, .int .i64 (w64 (2 * (w64 ((w_.has0.length : Int) + (w_.has1.length : Int))))))]) (obs := [.cell ⟨p_w_, 0, none⟩ (.pointer (some ⟨al_w_.a__p, 0, none⟩)), .p (0 ≤ (0 : Int) ∧ (0 : Int) < ((2 : Nat) : Int)), .cell ⟨p_w_, 3, none⟩ (.slice al_w_.has0_b w_.has0.length al_w_.has0_c), .p (0 ≤ (1 : Int) ∧ (1 : Int) < ((2 : Nat) : Int)), .cell ⟨p_w_, 4, none⟩ (.slice al_w_.has1_b w_.has1.length al_w_.has1_c)]) (by kernel_rfl) (by kernel_rfl) ⟨H.cell 0 rfl rfl, ⟨by decide, by decide⟩, H.cell 0 rfl rfl, ⟨by decide, by decide⟩, H.cell 0 rfl rfl, trivial⟩ fun a hE => ?_
  obtain ⟨t_, et_, hm⟩ := bind_some hm
  refine WQ.eff (j := 4) (obs := [.cell ⟨p_w_, 4, none⟩ (.slice al_w_.has1_b w_.has1.length al_w_.has1_c), .p (0 ≤ (1 : Int) ∧ (1 : Int) < ((2 : Nat) : Int)), .cell ⟨p_w_, 3, none⟩ (.slice al_w_.has0_b w_.has0.length al_w_.has0_c), .p (0 ≤ (0 : Int) ∧ (0 : Int) < ((2 : Nat) : Int))]) hE (by kernel_rfl) rfl rfl rfl rfl (by kernel_rfl) (OpTo.fn hE rfl rfl Tryz.call26 (arena_Arena_Len_ok et_ H.t1)) ?_
  rintro _ w ⟨rfl, H⟩
  refine ⟨⟨H.cell 1 rfl rfl, ⟨by decide, by decide⟩, H.cell 1 rfl rfl, ⟨by decide, by decide⟩, trivial⟩, fun a hE => ?_⟩
  refine WQ.seg hE [19] [] [0, 26] (Lo := [(0, .pointer (some ⟨p_w_, 0, none⟩)), (26, .bool (t_ != (w64 (2 * (w64 ((w_.has0.length : Int) + (w_.has1.length : Int)))))))]) (obs := []) (by kernel_rfl) (by kernel_rfl) trivial fun a hE => ?_
  refine WQ.done (by kernel_rfl) ?_
  refine Runs.cond hE rfl (fun c => ?_) (fun c => ?_)
  · replace hm := cond_t c hm
    refine Runs.seq ?_
    refine Runs.region ?_
    refine WR.seg hE 1 [] [2] (Lo := [(2, .bool false)]) (obs := []) rfl (by kernel_rfl) trivial fun a hE => ?_
    refine WR.done rfl ?_
    replace H := thicketlaw9_world.shut al_w_ (w_) H.t3.t3.t2.t3
    refine Runs.ret hE Tryz.func30 rfl rfl ?_
    cases hm
    exact ⟨rfl, H⟩
  · replace hm := cond_f c hm
    refine Runs.skip ?_
    refine Runs.seq ?_
    refine Runs.seq ?_
    refine Runs.region ?_
    refine WR.seg hE 1 [] [0, 3] (Lo := [(0, .pointer (some ⟨p_w_, 0, none⟩)), (3, .int .i64 0)]) (obs := []) rfl (by kernel_rfl) trivial fun a hE => ?_
    refine WR.done rfl ?_
    refine Runs.block ?_
    refine Runs.unroll ?_
    refine Runs.seq ?_
    refine Runs.seq ?_
    refine Runs.region ?_
    refine WR.seg hE 2 [] [0, 3, 28] (Lo := [(0, .pointer (some ⟨p_w_, 0, none⟩)), (3, .int .i64 0), (28, .bool true)]) (obs := []) rfl (by kernel_rfl) trivial fun a hE => ?_
    refine WR.done rfl ?_
    refine Runs.condT hE rfl ?_
    refine Runs.skip ?_
    refine Runs.seq ?_
    refine Runs.block ?_
    refine Runs.seq ?_
    refine Runs.region ?_
    refine WR.seg hE 7 [.slice al_w_.has0_b w_.has0.length al_w_.has0_c] [0, 3, 4] (Lo := [(0, .pointer (some ⟨p_w_, 0, none⟩)), (3, .int .i64 0), (4, .slice al_w_.has0_b w_.has0.length al_w_.has0_c)]) (obs := [.p (0 ≤ (0 : Int) ∧ (0 : Int) < ((2 : Nat) : Int)), .cell ⟨p_w_, 3, none⟩ (.slice al_w_.has0_b w_.has0.length al_w_.has0_c)]) rfl (by kernel_rfl) ⟨⟨by decide, by decide⟩, H.cell 1 rfl rfl, trivial⟩ fun a hE => ?_
    refine WR.done rfl ?_
    refine Runs.seq ?_
    refine Runs.region ?_
    refine WR.seg hE 4 [.pointer (some ⟨al_w_.a__p, 0, none⟩)] [0, 3, 4, 40] (Lo := [(0, .pointer (some ⟨p_w_, 0, none⟩)), (3, .int .i64 0), (4, .slice al_w_.has0_b w_.has0.length al_w_.has0_c), (40, .pointer (some ⟨al_w_.a__p, 0, none⟩))]) (obs := [.cell ⟨p_w_, 0, none⟩ (.pointer (some ⟨al_w_.a__p, 0, none⟩))]) rfl (by kernel_rfl) ⟨H.cell 1 rfl rfl, trivial⟩ fun a hE => ?_
    obtain ⟨t_1, et_1, hm⟩ := bind_some hm
    refine WR.eff hE rfl rfl rfl rfl (OpTo.fn hE rfl rfl Tryz.call18 (arena_Arena_Meter_ok et_1 H)) ?_
    rintro _ w ⟨rfl, H⟩ a hE
    replace H := arena_Arena.open H
    obtain ⟨t_2, et_2, hm⟩ := bind_some hm
    refine WR.eff hE rfl rfl rfl rfl (OpTo.fn hE rfl rfl Tryz.call19 (meter_Meter_Steps_ok et_2 H.t3)) ?_
    rintro _ w ⟨rfl, H⟩ a hE
    refine WR.seg hE 7 [] [0, 3, 4, 5] (Lo := [(0, .pointer (some ⟨p_w_, 0, none⟩)), (3, .int .i64 0), (4, .slice al_w_.has0_b w_.has0.length al_w_.has0_c), (5, .int .i64 t_2)]) (obs := []) rfl (by kernel_rfl) trivial fun a hE => ?_
    refine WR.done rfl ?_
    refine Runs.seq ?_
    refine Runs.drawn mixed (by kernel_rfl) ?_
    replace H := H.drew
    refine WQ.seg hE [0, 1, 2, 3, 4, 5, 6, 7, 8, 9] [.pointer (some ⟨al_w_.a__p, 0, none⟩), .int .i64 w_.root0] [0, 3, 4, 5, 46, 52] (Lo := [(0, .pointer (some ⟨p_w_, 0, none⟩)), (3, .int .i64 0), (4, .slice al_w_.has0_b w_.has0.length al_w_.has0_c), (5, .int .i64 t_2), (46, .pointer (some ⟨al_w_.a__p, 0, none⟩)), (52, .int .i64 w_.root0)]) (obs := [.cell ⟨p_w_, 0, none⟩ (.pointer (some ⟨al_w_.a__p, 0, none⟩)), .p (0 ≤ (0 : Int) ∧ (0 : Int) < ((2 : Nat) : Int)), .cell ⟨p_w_, 1, none⟩ (.int .i64 w_.root0)]) (by kernel_rfl) (by kernel_rfl) ⟨H.cell 4 rfl rfl, ⟨by decide, by decide⟩, H.cell 4 rfl rfl, trivial⟩ fun a hE => ?_
    replace H := arena_Arena.shut al_w_.a__a (w_.a_) H.t3.t3.t3
    obtain ⟨t_3, et_3, hm⟩ := bind_some hm
    refine WQ.eff (j := 10) (obs := []) hE (by kernel_rfl) rfl rfl rfl rfl (by kernel_rfl) (OpTo.fn hE rfl rfl Tryz.call33 (binomial_Min_ok et_3 H)) ?_
    rintro _ w ⟨rfl, H⟩
    refine ⟨trivial, fun a hE => ?_⟩
    refine WQ.seg hE [11] [] [0, 3, 4, 5, 6] (Lo := [(0, .pointer (some ⟨p_w_, 0, none⟩)), (3, .int .i64 0), (4, .slice al_w_.has0_b w_.has0.length al_w_.has0_c), (5, .int .i64 t_2), (6, .int .i64 t_3.1)]) (obs := []) (by kernel_rfl) (by kernel_rfl) trivial fun a hE => ?_
    refine WQ.done (by kernel_rfl) ?_
    refine Runs.seq ?_
    refine Runs.seq ?_
    refine Runs.region ?_
    refine WR.seg hE 4 [] [0, 3, 4, 6, 54, 55, 57] (Lo := [(0, .pointer (some ⟨p_w_, 0, none⟩)), (3, .int .i64 0), (4, .slice al_w_.has0_b w_.has0.length al_w_.has0_c), (6, .int .i64 t_3.1), (54, .pointer (some ⟨p_w_, 0, none⟩)), (55, .int .i64 t_2), (57, .int .i64 (w_.has0.length : Int))]) (obs := []) rfl (by kernel_rfl) trivial fun a hE => ?_
    replace H := thicketlaw9_world.shut al_w_ (thicketlaw9_world.mk t_3.2 w_.root0 w_.root1 w_.has0 w_.has1 w_.next w_.spent w_.most) H.t3.t3.t2.t3
    obtain ⟨t_4, et_4, hm⟩ := bind_some hm
    refine WR.eff hE rfl rfl rfl rfl (OpTo.fn hE rfl rfl Tryz.call21 (thicketlaw9_world_cost_ok et_4 H)) ?_
    rintro _ w ⟨rfl, hf, hf1, H⟩ a hE
    refine WR.seg hE 6 [] [0, 3, 4, 6, 59] (Lo := [(0, .pointer (some ⟨p_w_, 0, none⟩)), (3, .int .i64 0), (4, .slice al_w_.has0_b w_.has0.length al_w_.has0_c), (6, .int .i64 t_3.1), (59, .bool (!t_4.1))]) (obs := []) rfl (by kernel_rfl) trivial fun a hE => ?_
    refine WR.done rfl ?_
    refine Runs.cond hE rfl (fun c => ?_) (fun c => ?_)
    · replace hm := cond_t c hm
      refine Runs.seq ?_
      refine Runs.region ?_
      refine WR.seg hE 1 [] [2] (Lo := [(2, .bool false)]) (obs := []) rfl (by kernel_rfl) trivial fun a hE => ?_
      refine WR.done rfl ?_
      refine Runs.ret hE Tryz.func30 rfl rfl ?_
      cases hm
      exact ⟨rfl, H⟩
    · replace hm := cond_f c hm
      refine Runs.skip ?_
      refine Runs.seq ?_
      obtain ⟨s, es, hm⟩ := bind_some hm
      refine Runs.join (fun a w => EnvOk 114 a [(0, .pointer (some ⟨p_w_, 0, none⟩)), (3, .int .i64 0), (113, .bool s.1)] ∧ St w0 (thicketlaw9_world.R p_w_ al_w_ s.2 :: As) w) (fun hk => ?_) ?_
      · replace hm := es; clear es
        refine Runs.drawn mixed (by kernel_rfl) ?_
        replace H := H.drew
        replace H := thicketlaw9_world.open H
        try rw [hf] at H
        try rw [hf1] at H
        try dsimp only at H
        refine WQ.seg hE [0, 1, 2, 3] [] [0, 3, 4, 6, 63] (Lo := [(0, .pointer (some ⟨p_w_, 0, none⟩)), (3, .int .i64 0), (4, .slice al_w_.has0_b w_.has0.length al_w_.has0_c), (6, .int .i64 t_3.1), (63, .bool ((w_.has0.length : Int) == 0))]) (obs := []) (by kernel_rfl) (by kernel_rfl) trivial fun a hE => ?_
        rcases Bool.eq_false_or_eq_true ((w_.has0.length : Int) == 0) with c | c
        · replace hE := hE.dec 63 c (by kernel_rfl)
          replace hm := cond_t c hm
          have c_ := c
          refine WQ.seg hE [4, 5, 6] [] [0, 3, 4, 6, 63, 66] (Lo := [(0, .pointer (some ⟨p_w_, 0, none⟩)), (3, .int .i64 0), (4, .slice al_w_.has0_b w_.has0.length al_w_.has0_c), (6, .int .i64 t_3.1), (63, .bool true), (66, .bool (t_3.1 != (-1)))]) (obs := []) (by kernel_rfl) (by kernel_rfl) trivial fun a hE => ?_
          rcases Bool.eq_false_or_eq_true (t_3.1 != (-1)) with c | c
          · replace hE := hE.dec 66 c (by kernel_rfl)
            replace hm := cond_t c hm
            have c_1 := c
            refine WQ.seg hE [7, 8, 9, 10, 11, 12, 13, 14, 15, 16, 17, 18, 19, 20, 21, 22, 23, 24, 25, 26, 27, 28, 29, 30, 31, 32, 33, 34, 35, 36, 37, 38, 39, 40, 41, 42, 43, 44, 45, 46, 47, 48, 49, 50, 51, 52, 53] [] [0, 3, 113] (Lo := [(0, .pointer (some ⟨p_w_, 0, none⟩)), (3, .int .i64 0), (113, .bool true)]) (obs := []) (by kernel_rfl) (by kernel_rfl) trivial fun a hE => ?_
            refine WQ.done (by kernel_rfl) ?_
            replace H := thicketlaw9_world.shut al_w_ (thicketlaw9_world.mk t_4.2.a_ t_4.2.root0 t_4.2.root1 w_.has0 w_.has1 t_4.2.next t_4.2.spent t_4.2.most) H.t3.t3.t3.t3
            cases hm
            exact hk _ _ ⟨hE.sel [0, 3, 113] (by kernel_rfl), H⟩
          · replace hE := hE.dec 66 c (by kernel_rfl)
            replace hm := cond_f c hm
            have c_2 := c
            refine WQ.seg hE [7, 8, 9, 10, 11, 12, 13, 14, 15, 16] [.int .i64 t_4.2.root0] [0, 3, 4, 6, 76] (Lo := [(0, .pointer (some ⟨p_w_, 0, none⟩)), (3, .int .i64 0), (4, .slice al_w_.has0_b w_.has0.length al_w_.has0_c), (6, .int .i64 t_3.1), (76, .bool (t_4.2.root0 != (-1)))]) (obs := [.p (0 ≤ (0 : Int) ∧ (0 : Int) < ((2 : Nat) : Int)), .cell ⟨p_w_, 1, none⟩ (.int .i64 t_4.2.root0)]) (by kernel_rfl) (by kernel_rfl) ⟨⟨by decide, by decide⟩, H.cell 0 rfl rfl, trivial⟩ fun a hE => ?_
            rcases Bool.eq_false_or_eq_true (t_4.2.root0 != (-1)) with c | c
            · replace hE := hE.dec 76 c (by kernel_rfl)
              replace hm := cond_t c hm
              have c_3 := c
              refine WQ.seg hE [17, 18, 19, 20, 21, 22, 23, 24, 25, 26, 27, 28, 29, 30, 31, 32, 33, 34, 35, 36, 37, 38, 39, 40, 41, 42, 43, 44, 45, 46, 47, 48, 49, 50, 51, 52, 53] [] [0, 3, 113] (Lo := [(0, .pointer (some ⟨p_w_, 0, none⟩)), (3, .int .i64 0), (113, .bool true)]) (obs := []) (by kernel_rfl) (by kernel_rfl) trivial fun a hE => ?_
              refine WQ.done (by kernel_rfl) ?_
              replace H := thicketlaw9_world.shut al_w_ (thicketlaw9_world.mk t_4.2.a_ t_4.2.root0 t_4.2.root1 w_.has0 w_.has1 t_4.2.next t_4.2.spent t_4.2.most) H.t3.t3.t3.t3
              cases hm
              exact hk _ _ ⟨hE.sel [0, 3, 113] (by kernel_rfl), H⟩
            · replace hE := hE.dec 76 c (by kernel_rfl)
              replace hm := cond_f c hm
              have c_4 := c
              refine WQ.seg hE [17, 18, 19, 20] [] [0, 3, 4, 6, 76, 80] (Lo := [(0, .pointer (some ⟨p_w_, 0, none⟩)), (3, .int .i64 0), (4, .slice al_w_.has0_b w_.has0.length al_w_.has0_c), (6, .int .i64 t_3.1), (76, .bool false), (80, .bool (decide ((w_.has0.length : Int) > 0)))]) (obs := []) (by kernel_rfl) (by kernel_rfl) trivial fun a hE => ?_
              rcases Bool.eq_false_or_eq_true (decide ((w_.has0.length : Int) > 0)) with c | c
              · replace hE := hE.dec 80 c (by kernel_rfl)
                replace hm := cond_t c hm
                have c_5 := c
                refine WQ.seg hE [21, 22, 23] [] [0, 3, 4, 76, 80, 81, 82, 83] (Lo := [(0, .pointer (some ⟨p_w_, 0, none⟩)), (3, .int .i64 0), (4, .slice al_w_.has0_b w_.has0.length al_w_.has0_c), (76, .bool false), (80, .bool true), (81, .int .i64 t_3.1), (82, .slice al_w_.has0_b w_.has0.length al_w_.has0_c), (83, .slice al_w_.has0_b w_.has0.length al_w_.has0_c)]) (obs := []) (by kernel_rfl) (by kernel_rfl) trivial fun a hE => ?_
                obtain ⟨t_5, et_5, hm⟩ := bind_some hm
                replace H := H.t2
                refine WQ.eff (j := 24) (obs := []) hE (by kernel_rfl) rfl rfl rfl rfl (by kernel_rfl) (OpTo.fn hE rfl rfl Tryz.call64 (thicketlaw9_least_ok (hX_l := (sl_rd 58 thicketlaw9_held.enc 3 _ _ _)) (hC_l := (H.slCap 0 rfl).1) et_5 H)) ?_
                rintro _ w ⟨rfl, H⟩
                refine ⟨trivial, fun a hE => ?_⟩
                obtain ⟨x, ex, hm⟩ := bind_some hm
                obtain ⟨b, o, hs, hb⟩ := SlRd.base (sl_rd 58 thicketlaw9_held.enc 3 _ _ _) thicketlaw9_held.enc_ok H 0 rfl ex
                refine WQ.seg hE [25, 26, 27, 28, 29, 30, 31] [.pointer (some ⟨b, o, none⟩), .int .i64 x.cell] [0, 3, 4, 91] (Lo := [(0, .pointer (some ⟨p_w_, 0, none⟩)), (3, .int .i64 0), (4, .slice al_w_.has0_b w_.has0.length al_w_.has0_c), (91, .bool (t_3.1 != x.cell))]) (obs := [.p ((al_w_.has0_b : Option Addr) = some ⟨b, o, none⟩), .p (0 ≤ (t_5 : Int) ∧ (t_5 : Int) < ((w_.has0.length : Nat) : Int)), .cell ⟨b, o + (Int.toNat t_5) * 3, none⟩ (.int .i64 x.cell)]) (by kernel_rfl) (by kernel_rfl) ⟨hs, hb, SlRd.cells (sl_rd 58 thicketlaw9_held.enc 3 _ _ _) thicketlaw9_held.enc_ok H 0 rfl hs ex 0 _ rfl, trivial⟩ fun a hE => ?_
                rcases Bool.eq_false_or_eq_true (t_3.1 != x.cell) with c | c
                · replace hE := hE.dec 91 c (by kernel_rfl)
                  replace hm := cond_t c hm
                  have c_6 := c
                  refine WQ.seg hE [32, 33, 34, 35, 36, 37, 38, 39, 40, 41, 42, 43, 44, 45, 46, 47, 48, 49, 50, 51, 52, 53] [] [0, 3, 113] (Lo := [(0, .pointer (some ⟨p_w_, 0, none⟩)), (3, .int .i64 0), (113, .bool true)]) (obs := []) (by kernel_rfl) (by kernel_rfl) trivial fun a hE => ?_
                  refine WQ.done (by kernel_rfl) ?_
                  replace H := thicketlaw9_world.shut al_w_ (thicketlaw9_world.mk t_4.2.a_ t_4.2.root0 t_4.2.root1 w_.has0 w_.has1 t_4.2.next t_4.2.spent t_4.2.most) H.t3.t1.t3.t3
                  cases hm
                  exact hk _ _ ⟨hE.sel [0, 3, 113] (by kernel_rfl), H⟩
                · replace hE := hE.dec 91 c (by kernel_rfl)
                  replace hm := cond_f c hm
                  have c_7 := c
                  refine WQ.seg hE [32, 33, 34, 35, 36, 37, 38, 39, 40, 41, 43] [.pointer (some ⟨al_w_.a__p, 0, none⟩), .int .i64 t_4.2.root0] [0, 3, 91, 95, 101, 103] (Lo := [(0, .pointer (some ⟨p_w_, 0, none⟩)), (3, .int .i64 0), (91, .bool false), (95, .pointer (some ⟨al_w_.a__p, 0, none⟩)), (101, .int .i64 t_4.2.root0), (103, .slice al_w_.has0_b w_.has0.length al_w_.has0_c)]) (obs := [.cell ⟨p_w_, 0, none⟩ (.pointer (some ⟨al_w_.a__p, 0, none⟩)), .p (0 ≤ (0 : Int) ∧ (0 : Int) < ((2 : Nat) : Int)), .cell ⟨p_w_, 1, none⟩ (.int .i64 t_4.2.root0)]) (by kernel_rfl) (by kernel_rfl) ⟨H.cell 1 rfl rfl, ⟨by decide, by decide⟩, H.cell 1 rfl rfl, trivial⟩ fun a hE => ?_
                  obtain ⟨t_6, et_6, hm⟩ := bind_some hm
                  refine WQ.eff (j := 42) (obs := []) hE (by kernel_rfl) rfl rfl rfl rfl (by kernel_rfl) (OpTo.fn hE rfl rfl Tryz.call67 (binomial_All_ok et_6 H.t2)) ?_
                  rintro _ w ⟨sb, sc, rfl, H⟩
                  refine ⟨trivial, fun a hE => ?_⟩
                  obtain ⟨t_7, et_7, hm⟩ := bind_some hm
                  replace H := H.t2
                  refine WQ.eff (j := 44) (obs := []) hE (by kernel_rfl) rfl rfl rfl rfl (by kernel_rfl) (OpTo.fn hE rfl rfl Tryz.call68 (thicketlaw9_cells_ok (hX_l := (sl_rd 58 thicketlaw9_held.enc 3 _ _ _)) (hC_l := (H.slCap 0 rfl).1) et_7 H)) ?_
                  rintro _ w ⟨sb1, sc1, rfl, H⟩
                  refine ⟨trivial, fun a hE => ?_⟩
                  obtain ⟨t_8, et_8, hm⟩ := bind_some hm
                  replace H := H.t2
                  refine WQ.eff (j := 45) (obs := []) hE (by kernel_rfl) rfl rfl rfl rfl (by kernel_rfl) (OpTo.fn hE rfl rfl Tryz.call51 (thicketbook_Same_int_ok (hX_a_ := (sl_rd 3 ecI 1 _ _ _)) (hC_a_ := (H.slCap 0 rfl).1) (hX_b := (sl_rd 3 ecI 1 _ _ _)) (hC_b := (H.slCap 1 rfl).1) et_8 H)) ?_
                  rintro _ w ⟨rfl, H⟩
                  refine ⟨trivial, fun a hE => ?_⟩
                  refine WQ.seg hE [46, 47, 48] [] [0, 3, 108] (Lo := [(0, .pointer (some ⟨p_w_, 0, none⟩)), (3, .int .i64 0), (108, .bool (!t_8))]) (obs := []) (by kernel_rfl) (by kernel_rfl) trivial fun a hE => ?_
                  rcases Bool.eq_false_or_eq_true (!t_8) with c | c
                  · replace hE := hE.dec 108 c (by kernel_rfl)
                    replace hm := cond_t c hm
                    have c_8 := c
                    refine WQ.seg hE [49, 50, 51, 52, 53] [] [0, 3, 113] (Lo := [(0, .pointer (some ⟨p_w_, 0, none⟩)), (3, .int .i64 0), (113, .bool true)]) (obs := []) (by kernel_rfl) (by kernel_rfl) trivial fun a hE => ?_
                    refine WQ.done (by kernel_rfl) ?_
                    replace H := thicketlaw9_world.shut al_w_ (thicketlaw9_world.mk t_6.2 t_4.2.root0 t_4.2.root1 w_.has0 w_.has1 t_4.2.next t_4.2.spent t_4.2.most) H.t5.t3.t4.t5
                    cases hm
                    exact hk _ _ ⟨hE.sel [0, 3, 113] (by kernel_rfl), H.x2.x1⟩
                  · replace hE := hE.dec 108 c (by kernel_rfl)
                    replace hm := cond_f c hm
                    have c_9 := c
                    refine WQ.seg hE [49, 50] [] [0, 3, 108, 109, 110] (Lo := [(0, .pointer (some ⟨p_w_, 0, none⟩)), (3, .int .i64 0), (108, .bool false), (109, .pointer (some ⟨p_w_, 0, none⟩)), (110, .int .i64 0)]) (obs := []) (by kernel_rfl) (by kernel_rfl) trivial fun a hE => ?_
                    replace H := thicketlaw9_world.shut al_w_ (thicketlaw9_world.mk t_6.2 t_4.2.root0 t_4.2.root1 w_.has0 w_.has1 t_4.2.next t_4.2.spent t_4.2.most) H.t5.t3.t4.t5
                    obtain ⟨t_9, et_9, hm⟩ := bind_some hm
                    refine WQ.eff (j := 51) (obs := []) hE (by kernel_rfl) rfl rfl rfl rfl (by kernel_rfl) (OpTo.fn hE rfl rfl Tryz.call69 (thicketlaw9_world_shape_ok et_9 H)) ?_
                    rintro _ w ⟨rfl, H⟩
                    refine ⟨trivial, fun a hE => ?_⟩
                    refine WQ.seg hE [52, 53] [] [0, 3, 113] (Lo := [(0, .pointer (some ⟨p_w_, 0, none⟩)), (3, .int .i64 0), (113, .bool (!t_9.1))]) (obs := []) (by kernel_rfl) (by kernel_rfl) trivial fun a hE => ?_
                    refine WQ.done (by kernel_rfl) ?_
                    cases hm
                    exact hk _ _ ⟨hE.sel [0, 3, 113] (by kernel_rfl), H.x2.x1⟩
              · replace hE := hE.dec 80 c (by kernel_rfl)
                replace hm := cond_f c hm
                have c_10 := c
                refine WQ.seg hE [21, 22, 23, 24, 25, 26, 27, 28, 29, 30, 31, 32, 33, 34, 35, 36, 37, 38, 39, 40, 41, 43] [.pointer (some ⟨al_w_.a__p, 0, none⟩), .int .i64 t_4.2.root0] [0, 3, 91, 95, 101, 103] (Lo := [(0, .pointer (some ⟨p_w_, 0, none⟩)), (3, .int .i64 0), (91, .bool false), (95, .pointer (some ⟨al_w_.a__p, 0, none⟩)), (101, .int .i64 t_4.2.root0), (103, .slice al_w_.has0_b w_.has0.length al_w_.has0_c)]) (obs := [.cell ⟨p_w_, 0, none⟩ (.pointer (some ⟨al_w_.a__p, 0, none⟩)), .p (0 ≤ (0 : Int) ∧ (0 : Int) < ((2 : Nat) : Int)), .cell ⟨p_w_, 1, none⟩ (.int .i64 t_4.2.root0)]) (by kernel_rfl) (by kernel_rfl) ⟨H.cell 0 rfl rfl, ⟨by decide, by decide⟩, H.cell 0 rfl rfl, trivial⟩ fun a hE => ?_
                obtain ⟨t_10, et_10, hm⟩ := bind_some hm
                refine WQ.eff (j := 42) (obs := []) hE (by kernel_rfl) rfl rfl rfl rfl (by kernel_rfl) (OpTo.fn hE rfl rfl Tryz.call67 (binomial_All_ok et_10 H.t1)) ?_
                rintro _ w ⟨sb2, sc2, rfl, H⟩
                refine ⟨trivial, fun a hE => ?_⟩
                obtain ⟨t_11, et_11, hm⟩ := bind_some hm
                replace H := H.t3
                refine WQ.eff (j := 44) (obs := []) hE (by kernel_rfl) rfl rfl rfl rfl (by kernel_rfl) (OpTo.fn hE rfl rfl Tryz.call68 (thicketlaw9_cells_ok (hX_l := (sl_rd 58 thicketlaw9_held.enc 3 _ _ _)) (hC_l := (H.slCap 0 rfl).1) et_11 H)) ?_
                rintro _ w ⟨sb3, sc3, rfl, H⟩
                refine ⟨trivial, fun a hE => ?_⟩
                obtain ⟨t_12, et_12, hm⟩ := bind_some hm
                replace H := H.t2
                refine WQ.eff (j := 45) (obs := []) hE (by kernel_rfl) rfl rfl rfl rfl (by kernel_rfl) (OpTo.fn hE rfl rfl Tryz.call51 (thicketbook_Same_int_ok (hX_a_ := (sl_rd 3 ecI 1 _ _ _)) (hC_a_ := (H.slCap 0 rfl).1) (hX_b := (sl_rd 3 ecI 1 _ _ _)) (hC_b := (H.slCap 1 rfl).1) et_12 H)) ?_
                rintro _ w ⟨rfl, H⟩
                refine ⟨trivial, fun a hE => ?_⟩
                refine WQ.seg hE [46, 47, 48] [] [0, 3, 108] (Lo := [(0, .pointer (some ⟨p_w_, 0, none⟩)), (3, .int .i64 0), (108, .bool (!t_12))]) (obs := []) (by kernel_rfl) (by kernel_rfl) trivial fun a hE => ?_
                rcases Bool.eq_false_or_eq_true (!t_12) with c | c
                · replace hE := hE.dec 108 c (by kernel_rfl)
                  replace hm := cond_t c hm
                  have c_11 := c
                  refine WQ.seg hE [49, 50, 51, 52, 53] [] [0, 3, 113] (Lo := [(0, .pointer (some ⟨p_w_, 0, none⟩)), (3, .int .i64 0), (113, .bool true)]) (obs := []) (by kernel_rfl) (by kernel_rfl) trivial fun a hE => ?_
                  refine WQ.done (by kernel_rfl) ?_
                  replace H := thicketlaw9_world.shut al_w_ (thicketlaw9_world.mk t_10.2 t_4.2.root0 t_4.2.root1 w_.has0 w_.has1 t_4.2.next t_4.2.spent t_4.2.most) H.t5.t3.t4.t5
                  cases hm
                  exact hk _ _ ⟨hE.sel [0, 3, 113] (by kernel_rfl), H.x2.x1⟩
                · replace hE := hE.dec 108 c (by kernel_rfl)
                  replace hm := cond_f c hm
                  have c_12 := c
                  refine WQ.seg hE [49, 50] [] [0, 3, 108, 109, 110] (Lo := [(0, .pointer (some ⟨p_w_, 0, none⟩)), (3, .int .i64 0), (108, .bool false), (109, .pointer (some ⟨p_w_, 0, none⟩)), (110, .int .i64 0)]) (obs := []) (by kernel_rfl) (by kernel_rfl) trivial fun a hE => ?_
                  replace H := thicketlaw9_world.shut al_w_ (thicketlaw9_world.mk t_10.2 t_4.2.root0 t_4.2.root1 w_.has0 w_.has1 t_4.2.next t_4.2.spent t_4.2.most) H.t5.t3.t4.t5
                  obtain ⟨t_13, et_13, hm⟩ := bind_some hm
                  refine WQ.eff (j := 51) (obs := []) hE (by kernel_rfl) rfl rfl rfl rfl (by kernel_rfl) (OpTo.fn hE rfl rfl Tryz.call69 (thicketlaw9_world_shape_ok et_13 H)) ?_
                  rintro _ w ⟨rfl, H⟩
                  refine ⟨trivial, fun a hE => ?_⟩
                  refine WQ.seg hE [52, 53] [] [0, 3, 113] (Lo := [(0, .pointer (some ⟨p_w_, 0, none⟩)), (3, .int .i64 0), (113, .bool (!t_13.1))]) (obs := []) (by kernel_rfl) (by kernel_rfl) trivial fun a hE => ?_
                  refine WQ.done (by kernel_rfl) ?_
                  cases hm
                  exact hk _ _ ⟨hE.sel [0, 3, 113] (by kernel_rfl), H.x2.x1⟩
        · replace hE := hE.dec 63 c (by kernel_rfl)
          replace hm := cond_f c hm
          have c_13 := c
          refine WQ.seg hE [4, 5, 6, 7, 8, 9, 10, 11, 12, 13, 14, 15, 16, 17, 18, 19, 20] [] [0, 3, 4, 6, 76, 80] (Lo := [(0, .pointer (some ⟨p_w_, 0, none⟩)), (3, .int .i64 0), (4, .slice al_w_.has0_b w_.has0.length al_w_.has0_c), (6, .int .i64 t_3.1), (76, .bool false), (80, .bool (decide ((w_.has0.length : Int) > 0)))]) (obs := []) (by kernel_rfl) (by kernel_rfl) trivial fun a hE => ?_
          rcases Bool.eq_false_or_eq_true (decide ((w_.has0.length : Int) > 0)) with c | c
          · replace hE := hE.dec 80 c (by kernel_rfl)
            replace hm := cond_t c hm
            have c_14 := c
            refine WQ.seg hE [21, 22, 23] [] [0, 3, 4, 76, 80, 81, 82, 83] (Lo := [(0, .pointer (some ⟨p_w_, 0, none⟩)), (3, .int .i64 0), (4, .slice al_w_.has0_b w_.has0.length al_w_.has0_c), (76, .bool false), (80, .bool true), (81, .int .i64 t_3.1), (82, .slice al_w_.has0_b w_.has0.length al_w_.has0_c), (83, .slice al_w_.has0_b w_.has0.length al_w_.has0_c)]) (obs := []) (by kernel_rfl) (by kernel_rfl) trivial fun a hE => ?_
            obtain ⟨t_14, et_14, hm⟩ := bind_some hm
            replace H := H.t2
            refine WQ.eff (j := 24) (obs := []) hE (by kernel_rfl) rfl rfl rfl rfl (by kernel_rfl) (OpTo.fn hE rfl rfl Tryz.call64 (thicketlaw9_least_ok (hX_l := (sl_rd 58 thicketlaw9_held.enc 3 _ _ _)) (hC_l := (H.slCap 0 rfl).1) et_14 H)) ?_
            rintro _ w ⟨rfl, H⟩
            refine ⟨trivial, fun a hE => ?_⟩
            obtain ⟨x1, ex1, hm⟩ := bind_some hm
            obtain ⟨b1, o1, hs1, hb1⟩ := SlRd.base (sl_rd 58 thicketlaw9_held.enc 3 _ _ _) thicketlaw9_held.enc_ok H 0 rfl ex1
            refine WQ.seg hE [25, 26, 27, 28, 29, 30, 31] [.pointer (some ⟨b1, o1, none⟩), .int .i64 x1.cell] [0, 3, 4, 91] (Lo := [(0, .pointer (some ⟨p_w_, 0, none⟩)), (3, .int .i64 0), (4, .slice al_w_.has0_b w_.has0.length al_w_.has0_c), (91, .bool (t_3.1 != x1.cell))]) (obs := [.p ((al_w_.has0_b : Option Addr) = some ⟨b1, o1, none⟩), .p (0 ≤ (t_14 : Int) ∧ (t_14 : Int) < ((w_.has0.length : Nat) : Int)), .cell ⟨b1, o1 + (Int.toNat t_14) * 3, none⟩ (.int .i64 x1.cell)]) (by kernel_rfl) (by kernel_rfl) ⟨hs1, hb1, SlRd.cells (sl_rd 58 thicketlaw9_held.enc 3 _ _ _) thicketlaw9_held.enc_ok H 0 rfl hs1 ex1 0 _ rfl, trivial⟩ fun a hE => ?_
            rcases Bool.eq_false_or_eq_true (t_3.1 != x1.cell) with c | c
            · replace hE := hE.dec 91 c (by kernel_rfl)
              replace hm := cond_t c hm
              have c_15 := c
              refine WQ.seg hE [32, 33, 34, 35, 36, 37, 38, 39, 40, 41, 42, 43, 44, 45, 46, 47, 48, 49, 50, 51, 52, 53] [] [0, 3, 113] (Lo := [(0, .pointer (some ⟨p_w_, 0, none⟩)), (3, .int .i64 0), (113, .bool true)]) (obs := []) (by kernel_rfl) (by kernel_rfl) trivial fun a hE => ?_
              refine WQ.done (by kernel_rfl) ?_
              replace H := thicketlaw9_world.shut al_w_ (thicketlaw9_world.mk t_4.2.a_ t_4.2.root0 t_4.2.root1 w_.has0 w_.has1 t_4.2.next t_4.2.spent t_4.2.most) H.t3.t1.t3.t3
              cases hm
              exact hk _ _ ⟨hE.sel [0, 3, 113] (by kernel_rfl), H⟩
            · replace hE := hE.dec 91 c (by kernel_rfl)
              replace hm := cond_f c hm
              have c_16 := c
              refine WQ.seg hE [32, 33, 34, 35, 36, 37, 38, 39, 40, 41, 43] [.pointer (some ⟨al_w_.a__p, 0, none⟩), .int .i64 t_4.2.root0] [0, 3, 91, 95, 101, 103] (Lo := [(0, .pointer (some ⟨p_w_, 0, none⟩)), (3, .int .i64 0), (91, .bool false), (95, .pointer (some ⟨al_w_.a__p, 0, none⟩)), (101, .int .i64 t_4.2.root0), (103, .slice al_w_.has0_b w_.has0.length al_w_.has0_c)]) (obs := [.cell ⟨p_w_, 0, none⟩ (.pointer (some ⟨al_w_.a__p, 0, none⟩)), .p (0 ≤ (0 : Int) ∧ (0 : Int) < ((2 : Nat) : Int)), .cell ⟨p_w_, 1, none⟩ (.int .i64 t_4.2.root0)]) (by kernel_rfl) (by kernel_rfl) ⟨H.cell 1 rfl rfl, ⟨by decide, by decide⟩, H.cell 1 rfl rfl, trivial⟩ fun a hE => ?_
              obtain ⟨t_15, et_15, hm⟩ := bind_some hm
              refine WQ.eff (j := 42) (obs := []) hE (by kernel_rfl) rfl rfl rfl rfl (by kernel_rfl) (OpTo.fn hE rfl rfl Tryz.call67 (binomial_All_ok et_15 H.t2)) ?_
              rintro _ w ⟨sb4, sc4, rfl, H⟩
              refine ⟨trivial, fun a hE => ?_⟩
              obtain ⟨t_16, et_16, hm⟩ := bind_some hm
              replace H := H.t2
              refine WQ.eff (j := 44) (obs := []) hE (by kernel_rfl) rfl rfl rfl rfl (by kernel_rfl) (OpTo.fn hE rfl rfl Tryz.call68 (thicketlaw9_cells_ok (hX_l := (sl_rd 58 thicketlaw9_held.enc 3 _ _ _)) (hC_l := (H.slCap 0 rfl).1) et_16 H)) ?_
              rintro _ w ⟨sb5, sc5, rfl, H⟩
              refine ⟨trivial, fun a hE => ?_⟩
              obtain ⟨t_17, et_17, hm⟩ := bind_some hm
              replace H := H.t2
              refine WQ.eff (j := 45) (obs := []) hE (by kernel_rfl) rfl rfl rfl rfl (by kernel_rfl) (OpTo.fn hE rfl rfl Tryz.call51 (thicketbook_Same_int_ok (hX_a_ := (sl_rd 3 ecI 1 _ _ _)) (hC_a_ := (H.slCap 0 rfl).1) (hX_b := (sl_rd 3 ecI 1 _ _ _)) (hC_b := (H.slCap 1 rfl).1) et_17 H)) ?_
              rintro _ w ⟨rfl, H⟩
              refine ⟨trivial, fun a hE => ?_⟩
              refine WQ.seg hE [46, 47, 48] [] [0, 3, 108] (Lo := [(0, .pointer (some ⟨p_w_, 0, none⟩)), (3, .int .i64 0), (108, .bool (!t_17))]) (obs := []) (by kernel_rfl) (by kernel_rfl) trivial fun a hE => ?_
              rcases Bool.eq_false_or_eq_true (!t_17) with c | c
              · replace hE := hE.dec 108 c (by kernel_rfl)
                replace hm := cond_t c hm
                have c_17 := c
                refine WQ.seg hE [49, 50, 51, 52, 53] [] [0, 3, 113] (Lo := [(0, .pointer (some ⟨p_w_, 0, none⟩)), (3, .int .i64 0), (113, .bool true)]) (obs := []) (by kernel_rfl) (by kernel_rfl) trivial fun a hE => ?_
                refine WQ.done (by kernel_rfl) ?_
                replace H := thicketlaw9_world.shut al_w_ (thicketlaw9_world.mk t_15.2 t_4.2.root0 t_4.2.root1 w_.has0 w_.has1 t_4.2.next t_4.2.spent t_4.2.most) H.t5.t3.t4.t5
                cases hm
                exact hk _ _ ⟨hE.sel [0, 3, 113] (by kernel_rfl), H.x2.x1⟩
              · replace hE := hE.dec 108 c (by kernel_rfl)
                replace hm := cond_f c hm
                have c_18 := c
                refine WQ.seg hE [49, 50] [] [0, 3, 108, 109, 110] (Lo := [(0, .pointer (some ⟨p_w_, 0, none⟩)), (3, .int .i64 0), (108, .bool false), (109, .pointer (some ⟨p_w_, 0, none⟩)), (110, .int .i64 0)]) (obs := []) (by kernel_rfl) (by kernel_rfl) trivial fun a hE => ?_
                replace H := thicketlaw9_world.shut al_w_ (thicketlaw9_world.mk t_15.2 t_4.2.root0 t_4.2.root1 w_.has0 w_.has1 t_4.2.next t_4.2.spent t_4.2.most) H.t5.t3.t4.t5
                obtain ⟨t_18, et_18, hm⟩ := bind_some hm
                refine WQ.eff (j := 51) (obs := []) hE (by kernel_rfl) rfl rfl rfl rfl (by kernel_rfl) (OpTo.fn hE rfl rfl Tryz.call69 (thicketlaw9_world_shape_ok et_18 H)) ?_
                rintro _ w ⟨rfl, H⟩
                refine ⟨trivial, fun a hE => ?_⟩
                refine WQ.seg hE [52, 53] [] [0, 3, 113] (Lo := [(0, .pointer (some ⟨p_w_, 0, none⟩)), (3, .int .i64 0), (113, .bool (!t_18.1))]) (obs := []) (by kernel_rfl) (by kernel_rfl) trivial fun a hE => ?_
                refine WQ.done (by kernel_rfl) ?_
                cases hm
                exact hk _ _ ⟨hE.sel [0, 3, 113] (by kernel_rfl), H.x2.x1⟩
          · replace hE := hE.dec 80 c (by kernel_rfl)
            replace hm := cond_f c hm
            have c_19 := c
            refine WQ.seg hE [21, 22, 23, 24, 25, 26, 27, 28, 29, 30, 31, 32, 33, 34, 35, 36, 37, 38, 39, 40, 41, 43] [.pointer (some ⟨al_w_.a__p, 0, none⟩), .int .i64 t_4.2.root0] [0, 3, 91, 95, 101, 103] (Lo := [(0, .pointer (some ⟨p_w_, 0, none⟩)), (3, .int .i64 0), (91, .bool false), (95, .pointer (some ⟨al_w_.a__p, 0, none⟩)), (101, .int .i64 t_4.2.root0), (103, .slice al_w_.has0_b w_.has0.length al_w_.has0_c)]) (obs := [.cell ⟨p_w_, 0, none⟩ (.pointer (some ⟨al_w_.a__p, 0, none⟩)), .p (0 ≤ (0 : Int) ∧ (0 : Int) < ((2 : Nat) : Int)), .cell ⟨p_w_, 1, none⟩ (.int .i64 t_4.2.root0)]) (by kernel_rfl) (by kernel_rfl) ⟨H.cell 0 rfl rfl, ⟨by decide, by decide⟩, H.cell 0 rfl rfl, trivial⟩ fun a hE => ?_
            obtain ⟨t_19, et_19, hm⟩ := bind_some hm
            refine WQ.eff (j := 42) (obs := []) hE (by kernel_rfl) rfl rfl rfl rfl (by kernel_rfl) (OpTo.fn hE rfl rfl Tryz.call67 (binomial_All_ok et_19 H.t1)) ?_
            rintro _ w ⟨sb6, sc6, rfl, H⟩
            refine ⟨trivial, fun a hE => ?_⟩
            obtain ⟨t_20, et_20, hm⟩ := bind_some hm
            replace H := H.t3
            refine WQ.eff (j := 44) (obs := []) hE (by kernel_rfl) rfl rfl rfl rfl (by kernel_rfl) (OpTo.fn hE rfl rfl Tryz.call68 (thicketlaw9_cells_ok (hX_l := (sl_rd 58 thicketlaw9_held.enc 3 _ _ _)) (hC_l := (H.slCap 0 rfl).1) et_20 H)) ?_
            rintro _ w ⟨sb7, sc7, rfl, H⟩
            refine ⟨trivial, fun a hE => ?_⟩
            obtain ⟨t_21, et_21, hm⟩ := bind_some hm
            replace H := H.t2
            refine WQ.eff (j := 45) (obs := []) hE (by kernel_rfl) rfl rfl rfl rfl (by kernel_rfl) (OpTo.fn hE rfl rfl Tryz.call51 (thicketbook_Same_int_ok (hX_a_ := (sl_rd 3 ecI 1 _ _ _)) (hC_a_ := (H.slCap 0 rfl).1) (hX_b := (sl_rd 3 ecI 1 _ _ _)) (hC_b := (H.slCap 1 rfl).1) et_21 H)) ?_
            rintro _ w ⟨rfl, H⟩
            refine ⟨trivial, fun a hE => ?_⟩
            refine WQ.seg hE [46, 47, 48] [] [0, 3, 108] (Lo := [(0, .pointer (some ⟨p_w_, 0, none⟩)), (3, .int .i64 0), (108, .bool (!t_21))]) (obs := []) (by kernel_rfl) (by kernel_rfl) trivial fun a hE => ?_
            rcases Bool.eq_false_or_eq_true (!t_21) with c | c
            · replace hE := hE.dec 108 c (by kernel_rfl)
              replace hm := cond_t c hm
              have c_20 := c
              refine WQ.seg hE [49, 50, 51, 52, 53] [] [0, 3, 113] (Lo := [(0, .pointer (some ⟨p_w_, 0, none⟩)), (3, .int .i64 0), (113, .bool true)]) (obs := []) (by kernel_rfl) (by kernel_rfl) trivial fun a hE => ?_
              refine WQ.done (by kernel_rfl) ?_
              replace H := thicketlaw9_world.shut al_w_ (thicketlaw9_world.mk t_19.2 t_4.2.root0 t_4.2.root1 w_.has0 w_.has1 t_4.2.next t_4.2.spent t_4.2.most) H.t5.t3.t4.t5
              cases hm
              exact hk _ _ ⟨hE.sel [0, 3, 113] (by kernel_rfl), H.x2.x1⟩
            · replace hE := hE.dec 108 c (by kernel_rfl)
              replace hm := cond_f c hm
              have c_21 := c
              refine WQ.seg hE [49, 50] [] [0, 3, 108, 109, 110] (Lo := [(0, .pointer (some ⟨p_w_, 0, none⟩)), (3, .int .i64 0), (108, .bool false), (109, .pointer (some ⟨p_w_, 0, none⟩)), (110, .int .i64 0)]) (obs := []) (by kernel_rfl) (by kernel_rfl) trivial fun a hE => ?_
              replace H := thicketlaw9_world.shut al_w_ (thicketlaw9_world.mk t_19.2 t_4.2.root0 t_4.2.root1 w_.has0 w_.has1 t_4.2.next t_4.2.spent t_4.2.most) H.t5.t3.t4.t5
              obtain ⟨t_22, et_22, hm⟩ := bind_some hm
              refine WQ.eff (j := 51) (obs := []) hE (by kernel_rfl) rfl rfl rfl rfl (by kernel_rfl) (OpTo.fn hE rfl rfl Tryz.call69 (thicketlaw9_world_shape_ok et_22 H)) ?_
              rintro _ w ⟨rfl, H⟩
              refine ⟨trivial, fun a hE => ?_⟩
              refine WQ.seg hE [52, 53] [] [0, 3, 113] (Lo := [(0, .pointer (some ⟨p_w_, 0, none⟩)), (3, .int .i64 0), (113, .bool (!t_22.1))]) (obs := []) (by kernel_rfl) (by kernel_rfl) trivial fun a hE => ?_
              refine WQ.done (by kernel_rfl) ?_
              cases hm
              exact hk _ _ ⟨hE.sel [0, 3, 113] (by kernel_rfl), H.x2.x1⟩
      rintro a w ⟨hE, H⟩
      refine Runs.cond hE rfl (fun c => ?_) (fun c => ?_)
      · replace hm := cond_t c hm
        refine Runs.seq ?_
        refine Runs.region ?_
        refine WR.seg hE 1 [] [2] (Lo := [(2, .bool false)]) (obs := []) rfl (by kernel_rfl) trivial fun a hE => ?_
        refine WR.done rfl ?_
        refine Runs.ret hE Tryz.func30 rfl rfl ?_
        cases hm
        exact ⟨rfl, H⟩
      · replace hm := cond_f c hm
        refine Runs.skip ?_
        refine Runs.inBlock ?_
        refine Runs.region ?_
        refine WR.seg hE 3 [] [0, 3] (Lo := [(0, .pointer (some ⟨p_w_, 0, none⟩)), (3, .int .i64 1)]) (obs := []) rfl (by kernel_rfl) trivial fun a hE => ?_
        refine WR.done rfl ?_
        refine Runs.inLoop ?_
        refine Runs.seq ?_
        refine Runs.seq ?_
        refine Runs.region ?_
        refine WR.seg hE 2 [] [0, 3, 28] (Lo := [(0, .pointer (some ⟨p_w_, 0, none⟩)), (3, .int .i64 1), (28, .bool true)]) (obs := []) rfl (by kernel_rfl) trivial fun a hE => ?_
        refine WR.done rfl ?_
        refine Runs.condT hE rfl ?_
        refine Runs.skip ?_
        refine Runs.seq ?_
        refine Runs.block ?_
        refine Runs.seq ?_
        refine Runs.region ?_
        replace H := thicketlaw9_world.open H
        refine WR.seg hE 7 [.slice al_w_.has1_b s.2.has1.length al_w_.has1_c] [0, 3, 4] (Lo := [(0, .pointer (some ⟨p_w_, 0, none⟩)), (3, .int .i64 1), (4, .slice al_w_.has1_b s.2.has1.length al_w_.has1_c)]) (obs := [.p (0 ≤ (1 : Int) ∧ (1 : Int) < ((2 : Nat) : Int)), .cell ⟨p_w_, 4, none⟩ (.slice al_w_.has1_b s.2.has1.length al_w_.has1_c)]) rfl (by kernel_rfl) ⟨⟨by decide, by decide⟩, H.cell 0 rfl rfl, trivial⟩ fun a hE => ?_
        refine WR.done rfl ?_
        refine Runs.seq ?_
        refine Runs.region ?_
        refine WR.seg hE 4 [.pointer (some ⟨al_w_.a__p, 0, none⟩)] [0, 3, 4, 40] (Lo := [(0, .pointer (some ⟨p_w_, 0, none⟩)), (3, .int .i64 1), (4, .slice al_w_.has1_b s.2.has1.length al_w_.has1_c), (40, .pointer (some ⟨al_w_.a__p, 0, none⟩))]) (obs := [.cell ⟨p_w_, 0, none⟩ (.pointer (some ⟨al_w_.a__p, 0, none⟩))]) rfl (by kernel_rfl) ⟨H.cell 0 rfl rfl, trivial⟩ fun a hE => ?_
        obtain ⟨t_23, et_23, hm⟩ := bind_some hm
        refine WR.eff hE rfl rfl rfl rfl (OpTo.fn hE rfl rfl Tryz.call18 (arena_Arena_Meter_ok et_23 H.t1)) ?_
        rintro _ w ⟨rfl, H⟩ a hE
        replace H := arena_Arena.open H
        obtain ⟨t_24, et_24, hm⟩ := bind_some hm
        refine WR.eff hE rfl rfl rfl rfl (OpTo.fn hE rfl rfl Tryz.call19 (meter_Meter_Steps_ok et_24 H.t3)) ?_
        rintro _ w ⟨rfl, H⟩ a hE
        refine WR.seg hE 7 [] [0, 3, 4, 5] (Lo := [(0, .pointer (some ⟨p_w_, 0, none⟩)), (3, .int .i64 1), (4, .slice al_w_.has1_b s.2.has1.length al_w_.has1_c), (5, .int .i64 t_24)]) (obs := []) rfl (by kernel_rfl) trivial fun a hE => ?_
        refine WR.done rfl ?_
        refine Runs.seq ?_
        refine Runs.drawn mixed (by kernel_rfl) ?_
        replace H := H.drew
        refine WQ.seg hE [0, 1, 2, 3, 4, 5, 6, 7, 8, 9] [.pointer (some ⟨al_w_.a__p, 0, none⟩), .int .i64 s.2.root1] [0, 3, 4, 5, 46, 52] (Lo := [(0, .pointer (some ⟨p_w_, 0, none⟩)), (3, .int .i64 1), (4, .slice al_w_.has1_b s.2.has1.length al_w_.has1_c), (5, .int .i64 t_24), (46, .pointer (some ⟨al_w_.a__p, 0, none⟩)), (52, .int .i64 s.2.root1)]) (obs := [.cell ⟨p_w_, 0, none⟩ (.pointer (some ⟨al_w_.a__p, 0, none⟩)), .p (0 ≤ (1 : Int) ∧ (1 : Int) < ((2 : Nat) : Int)), .cell ⟨p_w_, 2, none⟩ (.int .i64 s.2.root1)]) (by kernel_rfl) (by kernel_rfl) ⟨H.cell 4 rfl rfl, ⟨by decide, by decide⟩, H.cell 4 rfl rfl, trivial⟩ fun a hE => ?_
        replace H := arena_Arena.shut al_w_.a__a (s.2.a_) H.t3.t3.t3
        obtain ⟨t_25, et_25, hm⟩ := bind_some hm
        refine WQ.eff (j := 10) (obs := []) hE (by kernel_rfl) rfl rfl rfl rfl (by kernel_rfl) (OpTo.fn hE rfl rfl Tryz.call33 (binomial_Min_ok et_25 H)) ?_
        rintro _ w ⟨rfl, H⟩
        refine ⟨trivial, fun a hE => ?_⟩
        refine WQ.seg hE [11] [] [0, 3, 4, 5, 6] (Lo := [(0, .pointer (some ⟨p_w_, 0, none⟩)), (3, .int .i64 1), (4, .slice al_w_.has1_b s.2.has1.length al_w_.has1_c), (5, .int .i64 t_24), (6, .int .i64 t_25.1)]) (obs := []) (by kernel_rfl) (by kernel_rfl) trivial fun a hE => ?_
        refine WQ.done (by kernel_rfl) ?_
        refine Runs.seq ?_
        refine Runs.seq ?_
        refine Runs.region ?_
        refine WR.seg hE 4 [] [0, 3, 4, 6, 54, 55, 57] (Lo := [(0, .pointer (some ⟨p_w_, 0, none⟩)), (3, .int .i64 1), (4, .slice al_w_.has1_b s.2.has1.length al_w_.has1_c), (6, .int .i64 t_25.1), (54, .pointer (some ⟨p_w_, 0, none⟩)), (55, .int .i64 t_24), (57, .int .i64 (s.2.has1.length : Int))]) (obs := []) rfl (by kernel_rfl) trivial fun a hE => ?_
        replace H := thicketlaw9_world.shut al_w_ (thicketlaw9_world.mk t_25.2 s.2.root0 s.2.root1 s.2.has0 s.2.has1 s.2.next s.2.spent s.2.most) H.t3.t3.t2.t3
        obtain ⟨t_26, et_26, hm⟩ := bind_some hm
        refine WR.eff hE rfl rfl rfl rfl (OpTo.fn hE rfl rfl Tryz.call21 (thicketlaw9_world_cost_ok et_26 H)) ?_
        rintro _ w ⟨rfl, hf2, hf3, H⟩ a hE
        refine WR.seg hE 6 [] [0, 3, 4, 6, 59] (Lo := [(0, .pointer (some ⟨p_w_, 0, none⟩)), (3, .int .i64 1), (4, .slice al_w_.has1_b s.2.has1.length al_w_.has1_c), (6, .int .i64 t_25.1), (59, .bool (!t_26.1))]) (obs := []) rfl (by kernel_rfl) trivial fun a hE => ?_
        refine WR.done rfl ?_
        refine Runs.cond hE rfl (fun c => ?_) (fun c => ?_)
        · replace hm := cond_t c hm
          refine Runs.seq ?_
          refine Runs.region ?_
          refine WR.seg hE 1 [] [2] (Lo := [(2, .bool false)]) (obs := []) rfl (by kernel_rfl) trivial fun a hE => ?_
          refine WR.done rfl ?_
          refine Runs.ret hE Tryz.func30 rfl rfl ?_
          cases hm
          exact ⟨rfl, H⟩
        · replace hm := cond_f c hm
          refine Runs.skip ?_
          refine Runs.seq ?_
          obtain ⟨s1, es1, hm⟩ := bind_some hm
          refine Runs.join (fun a w => EnvOk 114 a [(0, .pointer (some ⟨p_w_, 0, none⟩)), (3, .int .i64 1), (113, .bool s1.1)] ∧ St w0 (thicketlaw9_world.R p_w_ al_w_ s1.2 :: As) w) (fun hk => ?_) ?_
          · replace hm := es1; clear es1
            refine Runs.drawn mixed (by kernel_rfl) ?_
            replace H := H.drew
            replace H := thicketlaw9_world.open H
            try rw [hf2] at H
            try rw [hf3] at H
            try dsimp only at H
            refine WQ.seg hE [0, 1, 2, 3] [] [0, 3, 4, 6, 63] (Lo := [(0, .pointer (some ⟨p_w_, 0, none⟩)), (3, .int .i64 1), (4, .slice al_w_.has1_b s.2.has1.length al_w_.has1_c), (6, .int .i64 t_25.1), (63, .bool ((s.2.has1.length : Int) == 0))]) (obs := []) (by kernel_rfl) (by kernel_rfl) trivial fun a hE => ?_
            rcases Bool.eq_false_or_eq_true ((s.2.has1.length : Int) == 0) with c | c
            · replace hE := hE.dec 63 c (by kernel_rfl)
              replace hm := cond_t c hm
              have c_22 := c
              refine WQ.seg hE [4, 5, 6] [] [0, 3, 4, 6, 63, 66] (Lo := [(0, .pointer (some ⟨p_w_, 0, none⟩)), (3, .int .i64 1), (4, .slice al_w_.has1_b s.2.has1.length al_w_.has1_c), (6, .int .i64 t_25.1), (63, .bool true), (66, .bool (t_25.1 != (-1)))]) (obs := []) (by kernel_rfl) (by kernel_rfl) trivial fun a hE => ?_
              rcases Bool.eq_false_or_eq_true (t_25.1 != (-1)) with c | c
              · replace hE := hE.dec 66 c (by kernel_rfl)
                replace hm := cond_t c hm
                have c_23 := c
                refine WQ.seg hE [7, 8, 9, 10, 11, 12, 13, 14, 15, 16, 17, 18, 19, 20, 21, 22, 23, 24, 25, 26, 27, 28, 29, 30, 31, 32, 33, 34, 35, 36, 37, 38, 39, 40, 41, 42, 43, 44, 45, 46, 47, 48, 49, 50, 51, 52, 53] [] [0, 3, 113] (Lo := [(0, .pointer (some ⟨p_w_, 0, none⟩)), (3, .int .i64 1), (113, .bool true)]) (obs := []) (by kernel_rfl) (by kernel_rfl) trivial fun a hE => ?_
                refine WQ.done (by kernel_rfl) ?_
                replace H := thicketlaw9_world.shut al_w_ (thicketlaw9_world.mk t_26.2.a_ t_26.2.root0 t_26.2.root1 s.2.has0 s.2.has1 t_26.2.next t_26.2.spent t_26.2.most) H.t3.t3.t3.t3
                cases hm
                exact hk _ _ ⟨hE.sel [0, 3, 113] (by kernel_rfl), H⟩
              · replace hE := hE.dec 66 c (by kernel_rfl)
                replace hm := cond_f c hm
                have c_24 := c
                refine WQ.seg hE [7, 8, 9, 10, 11, 12, 13, 14, 15, 16] [.int .i64 t_26.2.root1] [0, 3, 4, 6, 76] (Lo := [(0, .pointer (some ⟨p_w_, 0, none⟩)), (3, .int .i64 1), (4, .slice al_w_.has1_b s.2.has1.length al_w_.has1_c), (6, .int .i64 t_25.1), (76, .bool (t_26.2.root1 != (-1)))]) (obs := [.p (0 ≤ (1 : Int) ∧ (1 : Int) < ((2 : Nat) : Int)), .cell ⟨p_w_, 2, none⟩ (.int .i64 t_26.2.root1)]) (by kernel_rfl) (by kernel_rfl) ⟨⟨by decide, by decide⟩, H.cell 0 rfl rfl, trivial⟩ fun a hE => ?_
                rcases Bool.eq_false_or_eq_true (t_26.2.root1 != (-1)) with c | c
                · replace hE := hE.dec 76 c (by kernel_rfl)
                  replace hm := cond_t c hm
                  have c_25 := c
                  refine WQ.seg hE [17, 18, 19, 20, 21, 22, 23, 24, 25, 26, 27, 28, 29, 30, 31, 32, 33, 34, 35, 36, 37, 38, 39, 40, 41, 42, 43, 44, 45, 46, 47, 48, 49, 50, 51, 52, 53] [] [0, 3, 113] (Lo := [(0, .pointer (some ⟨p_w_, 0, none⟩)), (3, .int .i64 1), (113, .bool true)]) (obs := []) (by kernel_rfl) (by kernel_rfl) trivial fun a hE => ?_
                  refine WQ.done (by kernel_rfl) ?_
                  replace H := thicketlaw9_world.shut al_w_ (thicketlaw9_world.mk t_26.2.a_ t_26.2.root0 t_26.2.root1 s.2.has0 s.2.has1 t_26.2.next t_26.2.spent t_26.2.most) H.t3.t3.t3.t3
                  cases hm
                  exact hk _ _ ⟨hE.sel [0, 3, 113] (by kernel_rfl), H⟩
                · replace hE := hE.dec 76 c (by kernel_rfl)
                  replace hm := cond_f c hm
                  have c_26 := c
                  refine WQ.seg hE [17, 18, 19, 20] [] [0, 3, 4, 6, 76, 80] (Lo := [(0, .pointer (some ⟨p_w_, 0, none⟩)), (3, .int .i64 1), (4, .slice al_w_.has1_b s.2.has1.length al_w_.has1_c), (6, .int .i64 t_25.1), (76, .bool false), (80, .bool (decide ((s.2.has1.length : Int) > 0)))]) (obs := []) (by kernel_rfl) (by kernel_rfl) trivial fun a hE => ?_
                  rcases Bool.eq_false_or_eq_true (decide ((s.2.has1.length : Int) > 0)) with c | c
                  · replace hE := hE.dec 80 c (by kernel_rfl)
                    replace hm := cond_t c hm
                    have c_27 := c
                    refine WQ.seg hE [21, 22, 23] [] [0, 3, 4, 76, 80, 81, 82, 83] (Lo := [(0, .pointer (some ⟨p_w_, 0, none⟩)), (3, .int .i64 1), (4, .slice al_w_.has1_b s.2.has1.length al_w_.has1_c), (76, .bool false), (80, .bool true), (81, .int .i64 t_25.1), (82, .slice al_w_.has1_b s.2.has1.length al_w_.has1_c), (83, .slice al_w_.has1_b s.2.has1.length al_w_.has1_c)]) (obs := []) (by kernel_rfl) (by kernel_rfl) trivial fun a hE => ?_
                    obtain ⟨t_27, et_27, hm⟩ := bind_some hm
                    replace H := H.t3
                    refine WQ.eff (j := 24) (obs := []) hE (by kernel_rfl) rfl rfl rfl rfl (by kernel_rfl) (OpTo.fn hE rfl rfl Tryz.call64 (thicketlaw9_least_ok (hX_l := (sl_rd 58 thicketlaw9_held.enc 3 _ _ _)) (hC_l := (H.slCap 0 rfl).1) et_27 H)) ?_
                    rintro _ w ⟨rfl, H⟩
                    refine ⟨trivial, fun a hE => ?_⟩
                    obtain ⟨x2, ex2, hm⟩ := bind_some hm
                    obtain ⟨b2, o2, hs2, hb2⟩ := SlRd.base (sl_rd 58 thicketlaw9_held.enc 3 _ _ _) thicketlaw9_held.enc_ok H 0 rfl ex2
                    refine WQ.seg hE [25, 26, 27, 28, 29, 30, 31] [.pointer (some ⟨b2, o2, none⟩), .int .i64 x2.cell] [0, 3, 4, 91] (Lo := [(0, .pointer (some ⟨p_w_, 0, none⟩)), (3, .int .i64 1), (4, .slice al_w_.has1_b s.2.has1.length al_w_.has1_c), (91, .bool (t_25.1 != x2.cell))]) (obs := [.p ((al_w_.has1_b : Option Addr) = some ⟨b2, o2, none⟩), .p (0 ≤ (t_27 : Int) ∧ (t_27 : Int) < ((s.2.has1.length : Nat) : Int)), .cell ⟨b2, o2 + (Int.toNat t_27) * 3, none⟩ (.int .i64 x2.cell)]) (by kernel_rfl) (by kernel_rfl) ⟨hs2, hb2, SlRd.cells (sl_rd 58 thicketlaw9_held.enc 3 _ _ _) thicketlaw9_held.enc_ok H 0 rfl hs2 ex2 0 _ rfl, trivial⟩ fun a hE => ?_
                    rcases Bool.eq_false_or_eq_true (t_25.1 != x2.cell) with c | c
                    · replace hE := hE.dec 91 c (by kernel_rfl)
                      replace hm := cond_t c hm
                      have c_28 := c
                      refine WQ.seg hE [32, 33, 34, 35, 36, 37, 38, 39, 40, 41, 42, 43, 44, 45, 46, 47, 48, 49, 50, 51, 52, 53] [] [0, 3, 113] (Lo := [(0, .pointer (some ⟨p_w_, 0, none⟩)), (3, .int .i64 1), (113, .bool true)]) (obs := []) (by kernel_rfl) (by kernel_rfl) trivial fun a hE => ?_
                      refine WQ.done (by kernel_rfl) ?_
                      replace H := thicketlaw9_world.shut al_w_ (thicketlaw9_world.mk t_26.2.a_ t_26.2.root0 t_26.2.root1 s.2.has0 s.2.has1 t_26.2.next t_26.2.spent t_26.2.most) H.t3.t3.t3
                      cases hm
                      exact hk _ _ ⟨hE.sel [0, 3, 113] (by kernel_rfl), H⟩
                    · replace hE := hE.dec 91 c (by kernel_rfl)
                      replace hm := cond_f c hm
                      have c_29 := c
                      refine WQ.seg hE [32, 33, 34, 35, 36, 37, 38, 39, 40, 41, 43] [.pointer (some ⟨al_w_.a__p, 0, none⟩), .int .i64 t_26.2.root1] [0, 3, 91, 95, 101, 103] (Lo := [(0, .pointer (some ⟨p_w_, 0, none⟩)), (3, .int .i64 1), (91, .bool false), (95, .pointer (some ⟨al_w_.a__p, 0, none⟩)), (101, .int .i64 t_26.2.root1), (103, .slice al_w_.has1_b s.2.has1.length al_w_.has1_c)]) (obs := [.cell ⟨p_w_, 0, none⟩ (.pointer (some ⟨al_w_.a__p, 0, none⟩)), .p (0 ≤ (1 : Int) ∧ (1 : Int) < ((2 : Nat) : Int)), .cell ⟨p_w_, 2, none⟩ (.int .i64 t_26.2.root1)]) (by kernel_rfl) (by kernel_rfl) ⟨H.cell 1 rfl rfl, ⟨by decide, by decide⟩, H.cell 1 rfl rfl, trivial⟩ fun a hE => ?_
                      obtain ⟨t_28, et_28, hm⟩ := bind_some hm
                      refine WQ.eff (j := 42) (obs := []) hE (by kernel_rfl) rfl rfl rfl rfl (by kernel_rfl) (OpTo.fn hE rfl rfl Tryz.call67 (binomial_All_ok et_28 H.t2)) ?_
                      rintro _ w ⟨sb8, sc8, rfl, H⟩
                      refine ⟨trivial, fun a hE => ?_⟩
                      obtain ⟨t_29, et_29, hm⟩ := bind_some hm
                      replace H := H.t2
                      refine WQ.eff (j := 44) (obs := []) hE (by kernel_rfl) rfl rfl rfl rfl (by kernel_rfl) (OpTo.fn hE rfl rfl Tryz.call68 (thicketlaw9_cells_ok (hX_l := (sl_rd 58 thicketlaw9_held.enc 3 _ _ _)) (hC_l := (H.slCap 0 rfl).1) et_29 H)) ?_
                      rintro _ w ⟨sb9, sc9, rfl, H⟩
                      refine ⟨trivial, fun a hE => ?_⟩
                      obtain ⟨t_30, et_30, hm⟩ := bind_some hm
                      replace H := H.t2
                      refine WQ.eff (j := 45) (obs := []) hE (by kernel_rfl) rfl rfl rfl rfl (by kernel_rfl) (OpTo.fn hE rfl rfl Tryz.call51 (thicketbook_Same_int_ok (hX_a_ := (sl_rd 3 ecI 1 _ _ _)) (hC_a_ := (H.slCap 0 rfl).1) (hX_b := (sl_rd 3 ecI 1 _ _ _)) (hC_b := (H.slCap 1 rfl).1) et_30 H)) ?_
                      rintro _ w ⟨rfl, H⟩
                      refine ⟨trivial, fun a hE => ?_⟩
                      refine WQ.seg hE [46, 47, 48] [] [0, 3, 108] (Lo := [(0, .pointer (some ⟨p_w_, 0, none⟩)), (3, .int .i64 1), (108, .bool (!t_30))]) (obs := []) (by kernel_rfl) (by kernel_rfl) trivial fun a hE => ?_
                      rcases Bool.eq_false_or_eq_true (!t_30) with c | c
                      · replace hE := hE.dec 108 c (by kernel_rfl)
                        replace hm := cond_t c hm
                        have c_30 := c
                        refine WQ.seg hE [49, 50, 51, 52, 53] [] [0, 3, 113] (Lo := [(0, .pointer (some ⟨p_w_, 0, none⟩)), (3, .int .i64 1), (113, .bool true)]) (obs := []) (by kernel_rfl) (by kernel_rfl) trivial fun a hE => ?_
                        refine WQ.done (by kernel_rfl) ?_
                        replace H := thicketlaw9_world.shut al_w_ (thicketlaw9_world.mk t_28.2 t_26.2.root0 t_26.2.root1 s.2.has0 s.2.has1 t_26.2.next t_26.2.spent t_26.2.most) H.t2.t5.t4.t5
                        cases hm
                        exact hk _ _ ⟨hE.sel [0, 3, 113] (by kernel_rfl), H.x2.x1⟩
                      · replace hE := hE.dec 108 c (by kernel_rfl)
                        replace hm := cond_f c hm
                        have c_31 := c
                        refine WQ.seg hE [49, 50] [] [0, 3, 108, 109, 110] (Lo := [(0, .pointer (some ⟨p_w_, 0, none⟩)), (3, .int .i64 1), (108, .bool false), (109, .pointer (some ⟨p_w_, 0, none⟩)), (110, .int .i64 1)]) (obs := []) (by kernel_rfl) (by kernel_rfl) trivial fun a hE => ?_
                        replace H := thicketlaw9_world.shut al_w_ (thicketlaw9_world.mk t_28.2 t_26.2.root0 t_26.2.root1 s.2.has0 s.2.has1 t_26.2.next t_26.2.spent t_26.2.most) H.t2.t5.t4.t5
                        obtain ⟨t_31, et_31, hm⟩ := bind_some hm
                        refine WQ.eff (j := 51) (obs := []) hE (by kernel_rfl) rfl rfl rfl rfl (by kernel_rfl) (OpTo.fn hE rfl rfl Tryz.call69 (thicketlaw9_world_shape_ok et_31 H)) ?_
                        rintro _ w ⟨rfl, H⟩
                        refine ⟨trivial, fun a hE => ?_⟩
                        refine WQ.seg hE [52, 53] [] [0, 3, 113] (Lo := [(0, .pointer (some ⟨p_w_, 0, none⟩)), (3, .int .i64 1), (113, .bool (!t_31.1))]) (obs := []) (by kernel_rfl) (by kernel_rfl) trivial fun a hE => ?_
                        refine WQ.done (by kernel_rfl) ?_
                        cases hm
                        exact hk _ _ ⟨hE.sel [0, 3, 113] (by kernel_rfl), H.x2.x1⟩
                  · replace hE := hE.dec 80 c (by kernel_rfl)
                    replace hm := cond_f c hm
                    have c_32 := c
                    refine WQ.seg hE [21, 22, 23, 24, 25, 26, 27, 28, 29, 30, 31, 32, 33, 34, 35, 36, 37, 38, 39, 40, 41, 43] [.pointer (some ⟨al_w_.a__p, 0, none⟩), .int .i64 t_26.2.root1] [0, 3, 91, 95, 101, 103] (Lo := [(0, .pointer (some ⟨p_w_, 0, none⟩)), (3, .int .i64 1), (91, .bool false), (95, .pointer (some ⟨al_w_.a__p, 0, none⟩)), (101, .int .i64 t_26.2.root1), (103, .slice al_w_.has1_b s.2.has1.length al_w_.has1_c)]) (obs := [.cell ⟨p_w_, 0, none⟩ (.pointer (some ⟨al_w_.a__p, 0, none⟩)), .p (0 ≤ (1 : Int) ∧ (1 : Int) < ((2 : Nat) : Int)), .cell ⟨p_w_, 2, none⟩ (.int .i64 t_26.2.root1)]) (by kernel_rfl) (by kernel_rfl) ⟨H.cell 0 rfl rfl, ⟨by decide, by decide⟩, H.cell 0 rfl rfl, trivial⟩ fun a hE => ?_
                    obtain ⟨t_32, et_32, hm⟩ := bind_some hm
                    refine WQ.eff (j := 42) (obs := []) hE (by kernel_rfl) rfl rfl rfl rfl (by kernel_rfl) (OpTo.fn hE rfl rfl Tryz.call67 (binomial_All_ok et_32 H.t1)) ?_
                    rintro _ w ⟨sb10, sc10, rfl, H⟩
                    refine ⟨trivial, fun a hE => ?_⟩
                    obtain ⟨t_33, et_33, hm⟩ := bind_some hm
                    replace H := H.t4
                    refine WQ.eff (j := 44) (obs := []) hE (by kernel_rfl) rfl rfl rfl rfl (by kernel_rfl) (OpTo.fn hE rfl rfl Tryz.call68 (thicketlaw9_cells_ok (hX_l := (sl_rd 58 thicketlaw9_held.enc 3 _ _ _)) (hC_l := (H.slCap 0 rfl).1) et_33 H)) ?_
                    rintro _ w ⟨sb11, sc11, rfl, H⟩
                    refine ⟨trivial, fun a hE => ?_⟩
                    obtain ⟨t_34, et_34, hm⟩ := bind_some hm
                    replace H := H.t2
                    refine WQ.eff (j := 45) (obs := []) hE (by kernel_rfl) rfl rfl rfl rfl (by kernel_rfl) (OpTo.fn hE rfl rfl Tryz.call51 (thicketbook_Same_int_ok (hX_a_ := (sl_rd 3 ecI 1 _ _ _)) (hC_a_ := (H.slCap 0 rfl).1) (hX_b := (sl_rd 3 ecI 1 _ _ _)) (hC_b := (H.slCap 1 rfl).1) et_34 H)) ?_
                    rintro _ w ⟨rfl, H⟩
                    refine ⟨trivial, fun a hE => ?_⟩
                    refine WQ.seg hE [46, 47, 48] [] [0, 3, 108] (Lo := [(0, .pointer (some ⟨p_w_, 0, none⟩)), (3, .int .i64 1), (108, .bool (!t_34))]) (obs := []) (by kernel_rfl) (by kernel_rfl) trivial fun a hE => ?_
                    rcases Bool.eq_false_or_eq_true (!t_34) with c | c
                    · replace hE := hE.dec 108 c (by kernel_rfl)
                      replace hm := cond_t c hm
                      have c_33 := c
                      refine WQ.seg hE [49, 50, 51, 52, 53] [] [0, 3, 113] (Lo := [(0, .pointer (some ⟨p_w_, 0, none⟩)), (3, .int .i64 1), (113, .bool true)]) (obs := []) (by kernel_rfl) (by kernel_rfl) trivial fun a hE => ?_
                      refine WQ.done (by kernel_rfl) ?_
                      replace H := thicketlaw9_world.shut al_w_ (thicketlaw9_world.mk t_32.2 t_26.2.root0 t_26.2.root1 s.2.has0 s.2.has1 t_26.2.next t_26.2.spent t_26.2.most) H.t2.t5.t4.t5
                      cases hm
                      exact hk _ _ ⟨hE.sel [0, 3, 113] (by kernel_rfl), H.x2.x1⟩
                    · replace hE := hE.dec 108 c (by kernel_rfl)
                      replace hm := cond_f c hm
                      have c_34 := c
                      refine WQ.seg hE [49, 50] [] [0, 3, 108, 109, 110] (Lo := [(0, .pointer (some ⟨p_w_, 0, none⟩)), (3, .int .i64 1), (108, .bool false), (109, .pointer (some ⟨p_w_, 0, none⟩)), (110, .int .i64 1)]) (obs := []) (by kernel_rfl) (by kernel_rfl) trivial fun a hE => ?_
                      replace H := thicketlaw9_world.shut al_w_ (thicketlaw9_world.mk t_32.2 t_26.2.root0 t_26.2.root1 s.2.has0 s.2.has1 t_26.2.next t_26.2.spent t_26.2.most) H.t2.t5.t4.t5
                      obtain ⟨t_35, et_35, hm⟩ := bind_some hm
                      refine WQ.eff (j := 51) (obs := []) hE (by kernel_rfl) rfl rfl rfl rfl (by kernel_rfl) (OpTo.fn hE rfl rfl Tryz.call69 (thicketlaw9_world_shape_ok et_35 H)) ?_
                      rintro _ w ⟨rfl, H⟩
                      refine ⟨trivial, fun a hE => ?_⟩
                      refine WQ.seg hE [52, 53] [] [0, 3, 113] (Lo := [(0, .pointer (some ⟨p_w_, 0, none⟩)), (3, .int .i64 1), (113, .bool (!t_35.1))]) (obs := []) (by kernel_rfl) (by kernel_rfl) trivial fun a hE => ?_
                      refine WQ.done (by kernel_rfl) ?_
                      cases hm
                      exact hk _ _ ⟨hE.sel [0, 3, 113] (by kernel_rfl), H.x2.x1⟩
            · replace hE := hE.dec 63 c (by kernel_rfl)
              replace hm := cond_f c hm
              have c_35 := c
              refine WQ.seg hE [4, 5, 6, 7, 8, 9, 10, 11, 12, 13, 14, 15, 16, 17, 18, 19, 20] [] [0, 3, 4, 6, 76, 80] (Lo := [(0, .pointer (some ⟨p_w_, 0, none⟩)), (3, .int .i64 1), (4, .slice al_w_.has1_b s.2.has1.length al_w_.has1_c), (6, .int .i64 t_25.1), (76, .bool false), (80, .bool (decide ((s.2.has1.length : Int) > 0)))]) (obs := []) (by kernel_rfl) (by kernel_rfl) trivial fun a hE => ?_
              rcases Bool.eq_false_or_eq_true (decide ((s.2.has1.length : Int) > 0)) with c | c
              · replace hE := hE.dec 80 c (by kernel_rfl)
                replace hm := cond_t c hm
                have c_36 := c
                refine WQ.seg hE [21, 22, 23] [] [0, 3, 4, 76, 80, 81, 82, 83] (Lo := [(0, .pointer (some ⟨p_w_, 0, none⟩)), (3, .int .i64 1), (4, .slice al_w_.has1_b s.2.has1.length al_w_.has1_c), (76, .bool false), (80, .bool true), (81, .int .i64 t_25.1), (82, .slice al_w_.has1_b s.2.has1.length al_w_.has1_c), (83, .slice al_w_.has1_b s.2.has1.length al_w_.has1_c)]) (obs := []) (by kernel_rfl) (by kernel_rfl) trivial fun a hE => ?_
                obtain ⟨t_36, et_36, hm⟩ := bind_some hm
                replace H := H.t3
                refine WQ.eff (j := 24) (obs := []) hE (by kernel_rfl) rfl rfl rfl rfl (by kernel_rfl) (OpTo.fn hE rfl rfl Tryz.call64 (thicketlaw9_least_ok (hX_l := (sl_rd 58 thicketlaw9_held.enc 3 _ _ _)) (hC_l := (H.slCap 0 rfl).1) et_36 H)) ?_
                rintro _ w ⟨rfl, H⟩
                refine ⟨trivial, fun a hE => ?_⟩
                obtain ⟨x3, ex3, hm⟩ := bind_some hm
                obtain ⟨b3, o3, hs3, hb3⟩ := SlRd.base (sl_rd 58 thicketlaw9_held.enc 3 _ _ _) thicketlaw9_held.enc_ok H 0 rfl ex3
                refine WQ.seg hE [25, 26, 27, 28, 29, 30, 31] [.pointer (some ⟨b3, o3, none⟩), .int .i64 x3.cell] [0, 3, 4, 91] (Lo := [(0, .pointer (some ⟨p_w_, 0, none⟩)), (3, .int .i64 1), (4, .slice al_w_.has1_b s.2.has1.length al_w_.has1_c), (91, .bool (t_25.1 != x3.cell))]) (obs := [.p ((al_w_.has1_b : Option Addr) = some ⟨b3, o3, none⟩), .p (0 ≤ (t_36 : Int) ∧ (t_36 : Int) < ((s.2.has1.length : Nat) : Int)), .cell ⟨b3, o3 + (Int.toNat t_36) * 3, none⟩ (.int .i64 x3.cell)]) (by kernel_rfl) (by kernel_rfl) ⟨hs3, hb3, SlRd.cells (sl_rd 58 thicketlaw9_held.enc 3 _ _ _) thicketlaw9_held.enc_ok H 0 rfl hs3 ex3 0 _ rfl, trivial⟩ fun a hE => ?_
                rcases Bool.eq_false_or_eq_true (t_25.1 != x3.cell) with c | c
                · replace hE := hE.dec 91 c (by kernel_rfl)
                  replace hm := cond_t c hm
                  have c_37 := c
                  refine WQ.seg hE [32, 33, 34, 35, 36, 37, 38, 39, 40, 41, 42, 43, 44, 45, 46, 47, 48, 49, 50, 51, 52, 53] [] [0, 3, 113] (Lo := [(0, .pointer (some ⟨p_w_, 0, none⟩)), (3, .int .i64 1), (113, .bool true)]) (obs := []) (by kernel_rfl) (by kernel_rfl) trivial fun a hE => ?_
                  refine WQ.done (by kernel_rfl) ?_
                  replace H := thicketlaw9_world.shut al_w_ (thicketlaw9_world.mk t_26.2.a_ t_26.2.root0 t_26.2.root1 s.2.has0 s.2.has1 t_26.2.next t_26.2.spent t_26.2.most) H.t3.t3.t3
                  cases hm
                  exact hk _ _ ⟨hE.sel [0, 3, 113] (by kernel_rfl), H⟩
                · replace hE := hE.dec 91 c (by kernel_rfl)
                  replace hm := cond_f c hm
                  have c_38 := c
                  refine WQ.seg hE [32, 33, 34, 35, 36, 37, 38, 39, 40, 41, 43] [.pointer (some ⟨al_w_.a__p, 0, none⟩), .int .i64 t_26.2.root1] [0, 3, 91, 95, 101, 103] (Lo := [(0, .pointer (some ⟨p_w_, 0, none⟩)), (3, .int .i64 1), (91, .bool false), (95, .pointer (some ⟨al_w_.a__p, 0, none⟩)), (101, .int .i64 t_26.2.root1), (103, .slice al_w_.has1_b s.2.has1.length al_w_.has1_c)]) (obs := [.cell ⟨p_w_, 0, none⟩ (.pointer (some ⟨al_w_.a__p, 0, none⟩)), .p (0 ≤ (1 : Int) ∧ (1 : Int) < ((2 : Nat) : Int)), .cell ⟨p_w_, 2, none⟩ (.int .i64 t_26.2.root1)]) (by kernel_rfl) (by kernel_rfl) ⟨H.cell 1 rfl rfl, ⟨by decide, by decide⟩, H.cell 1 rfl rfl, trivial⟩ fun a hE => ?_
                  obtain ⟨t_37, et_37, hm⟩ := bind_some hm
                  refine WQ.eff (j := 42) (obs := []) hE (by kernel_rfl) rfl rfl rfl rfl (by kernel_rfl) (OpTo.fn hE rfl rfl Tryz.call67 (binomial_All_ok et_37 H.t2)) ?_
                  rintro _ w ⟨sb12, sc12, rfl, H⟩
                  refine ⟨trivial, fun a hE => ?_⟩
                  obtain ⟨t_38, et_38, hm⟩ := bind_some hm
                  replace H := H.t2
                  refine WQ.eff (j := 44) (obs := []) hE (by kernel_rfl) rfl rfl rfl rfl (by kernel_rfl) (OpTo.fn hE rfl rfl Tryz.call68 (thicketlaw9_cells_ok (hX_l := (sl_rd 58 thicketlaw9_held.enc 3 _ _ _)) (hC_l := (H.slCap 0 rfl).1) et_38 H)) ?_
                  rintro _ w ⟨sb13, sc13, rfl, H⟩
                  refine ⟨trivial, fun a hE => ?_⟩
                  obtain ⟨t_39, et_39, hm⟩ := bind_some hm
                  replace H := H.t2
                  refine WQ.eff (j := 45) (obs := []) hE (by kernel_rfl) rfl rfl rfl rfl (by kernel_rfl) (OpTo.fn hE rfl rfl Tryz.call51 (thicketbook_Same_int_ok (hX_a_ := (sl_rd 3 ecI 1 _ _ _)) (hC_a_ := (H.slCap 0 rfl).1) (hX_b := (sl_rd 3 ecI 1 _ _ _)) (hC_b := (H.slCap 1 rfl).1) et_39 H)) ?_
                  rintro _ w ⟨rfl, H⟩
                  refine ⟨trivial, fun a hE => ?_⟩
                  refine WQ.seg hE [46, 47, 48] [] [0, 3, 108] (Lo := [(0, .pointer (some ⟨p_w_, 0, none⟩)), (3, .int .i64 1), (108, .bool (!t_39))]) (obs := []) (by kernel_rfl) (by kernel_rfl) trivial fun a hE => ?_
                  rcases Bool.eq_false_or_eq_true (!t_39) with c | c
                  · replace hE := hE.dec 108 c (by kernel_rfl)
                    replace hm := cond_t c hm
                    have c_39 := c
                    refine WQ.seg hE [49, 50, 51, 52, 53] [] [0, 3, 113] (Lo := [(0, .pointer (some ⟨p_w_, 0, none⟩)), (3, .int .i64 1), (113, .bool true)]) (obs := []) (by kernel_rfl) (by kernel_rfl) trivial fun a hE => ?_
                    refine WQ.done (by kernel_rfl) ?_
                    replace H := thicketlaw9_world.shut al_w_ (thicketlaw9_world.mk t_37.2 t_26.2.root0 t_26.2.root1 s.2.has0 s.2.has1 t_26.2.next t_26.2.spent t_26.2.most) H.t2.t5.t4.t5
                    cases hm
                    exact hk _ _ ⟨hE.sel [0, 3, 113] (by kernel_rfl), H.x2.x1⟩
                  · replace hE := hE.dec 108 c (by kernel_rfl)
                    replace hm := cond_f c hm
                    have c_40 := c
                    refine WQ.seg hE [49, 50] [] [0, 3, 108, 109, 110] (Lo := [(0, .pointer (some ⟨p_w_, 0, none⟩)), (3, .int .i64 1), (108, .bool false), (109, .pointer (some ⟨p_w_, 0, none⟩)), (110, .int .i64 1)]) (obs := []) (by kernel_rfl) (by kernel_rfl) trivial fun a hE => ?_
                    replace H := thicketlaw9_world.shut al_w_ (thicketlaw9_world.mk t_37.2 t_26.2.root0 t_26.2.root1 s.2.has0 s.2.has1 t_26.2.next t_26.2.spent t_26.2.most) H.t2.t5.t4.t5
                    obtain ⟨t_40, et_40, hm⟩ := bind_some hm
                    refine WQ.eff (j := 51) (obs := []) hE (by kernel_rfl) rfl rfl rfl rfl (by kernel_rfl) (OpTo.fn hE rfl rfl Tryz.call69 (thicketlaw9_world_shape_ok et_40 H)) ?_
                    rintro _ w ⟨rfl, H⟩
                    refine ⟨trivial, fun a hE => ?_⟩
                    refine WQ.seg hE [52, 53] [] [0, 3, 113] (Lo := [(0, .pointer (some ⟨p_w_, 0, none⟩)), (3, .int .i64 1), (113, .bool (!t_40.1))]) (obs := []) (by kernel_rfl) (by kernel_rfl) trivial fun a hE => ?_
                    refine WQ.done (by kernel_rfl) ?_
                    cases hm
                    exact hk _ _ ⟨hE.sel [0, 3, 113] (by kernel_rfl), H.x2.x1⟩
              · replace hE := hE.dec 80 c (by kernel_rfl)
                replace hm := cond_f c hm
                have c_41 := c
                refine WQ.seg hE [21, 22, 23, 24, 25, 26, 27, 28, 29, 30, 31, 32, 33, 34, 35, 36, 37, 38, 39, 40, 41, 43] [.pointer (some ⟨al_w_.a__p, 0, none⟩), .int .i64 t_26.2.root1] [0, 3, 91, 95, 101, 103] (Lo := [(0, .pointer (some ⟨p_w_, 0, none⟩)), (3, .int .i64 1), (91, .bool false), (95, .pointer (some ⟨al_w_.a__p, 0, none⟩)), (101, .int .i64 t_26.2.root1), (103, .slice al_w_.has1_b s.2.has1.length al_w_.has1_c)]) (obs := [.cell ⟨p_w_, 0, none⟩ (.pointer (some ⟨al_w_.a__p, 0, none⟩)), .p (0 ≤ (1 : Int) ∧ (1 : Int) < ((2 : Nat) : Int)), .cell ⟨p_w_, 2, none⟩ (.int .i64 t_26.2.root1)]) (by kernel_rfl) (by kernel_rfl) ⟨H.cell 0 rfl rfl, ⟨by decide, by decide⟩, H.cell 0 rfl rfl, trivial⟩ fun a hE => ?_
                obtain ⟨t_41, et_41, hm⟩ := bind_some hm
                refine WQ.eff (j := 42) (obs := []) hE (by kernel_rfl) rfl rfl rfl rfl (by kernel_rfl) (OpTo.fn hE rfl rfl Tryz.call67 (binomial_All_ok et_41 H.t1)) ?_
                rintro _ w ⟨sb14, sc14, rfl, H⟩
                refine ⟨trivial, fun a hE => ?_⟩
                obtain ⟨t_42, et_42, hm⟩ := bind_some hm
                replace H := H.t4
                refine WQ.eff (j := 44) (obs := []) hE (by kernel_rfl) rfl rfl rfl rfl (by kernel_rfl) (OpTo.fn hE rfl rfl Tryz.call68 (thicketlaw9_cells_ok (hX_l := (sl_rd 58 thicketlaw9_held.enc 3 _ _ _)) (hC_l := (H.slCap 0 rfl).1) et_42 H)) ?_
                rintro _ w ⟨sb15, sc15, rfl, H⟩
                refine ⟨trivial, fun a hE => ?_⟩
                obtain ⟨t_43, et_43, hm⟩ := bind_some hm
                replace H := H.t2
                refine WQ.eff (j := 45) (obs := []) hE (by kernel_rfl) rfl rfl rfl rfl (by kernel_rfl) (OpTo.fn hE rfl rfl Tryz.call51 (thicketbook_Same_int_ok (hX_a_ := (sl_rd 3 ecI 1 _ _ _)) (hC_a_ := (H.slCap 0 rfl).1) (hX_b := (sl_rd 3 ecI 1 _ _ _)) (hC_b := (H.slCap 1 rfl).1) et_43 H)) ?_
                rintro _ w ⟨rfl, H⟩
                refine ⟨trivial, fun a hE => ?_⟩
                refine WQ.seg hE [46, 47, 48] [] [0, 3, 108] (Lo := [(0, .pointer (some ⟨p_w_, 0, none⟩)), (3, .int .i64 1), (108, .bool (!t_43))]) (obs := []) (by kernel_rfl) (by kernel_rfl) trivial fun a hE => ?_
                rcases Bool.eq_false_or_eq_true (!t_43) with c | c
                · replace hE := hE.dec 108 c (by kernel_rfl)
                  replace hm := cond_t c hm
                  have c_42 := c
                  refine WQ.seg hE [49, 50, 51, 52, 53] [] [0, 3, 113] (Lo := [(0, .pointer (some ⟨p_w_, 0, none⟩)), (3, .int .i64 1), (113, .bool true)]) (obs := []) (by kernel_rfl) (by kernel_rfl) trivial fun a hE => ?_
                  refine WQ.done (by kernel_rfl) ?_
                  replace H := thicketlaw9_world.shut al_w_ (thicketlaw9_world.mk t_41.2 t_26.2.root0 t_26.2.root1 s.2.has0 s.2.has1 t_26.2.next t_26.2.spent t_26.2.most) H.t2.t5.t4.t5
                  cases hm
                  exact hk _ _ ⟨hE.sel [0, 3, 113] (by kernel_rfl), H.x2.x1⟩
                · replace hE := hE.dec 108 c (by kernel_rfl)
                  replace hm := cond_f c hm
                  have c_43 := c
                  refine WQ.seg hE [49, 50] [] [0, 3, 108, 109, 110] (Lo := [(0, .pointer (some ⟨p_w_, 0, none⟩)), (3, .int .i64 1), (108, .bool false), (109, .pointer (some ⟨p_w_, 0, none⟩)), (110, .int .i64 1)]) (obs := []) (by kernel_rfl) (by kernel_rfl) trivial fun a hE => ?_
                  replace H := thicketlaw9_world.shut al_w_ (thicketlaw9_world.mk t_41.2 t_26.2.root0 t_26.2.root1 s.2.has0 s.2.has1 t_26.2.next t_26.2.spent t_26.2.most) H.t2.t5.t4.t5
                  obtain ⟨t_44, et_44, hm⟩ := bind_some hm
                  refine WQ.eff (j := 51) (obs := []) hE (by kernel_rfl) rfl rfl rfl rfl (by kernel_rfl) (OpTo.fn hE rfl rfl Tryz.call69 (thicketlaw9_world_shape_ok et_44 H)) ?_
                  rintro _ w ⟨rfl, H⟩
                  refine ⟨trivial, fun a hE => ?_⟩
                  refine WQ.seg hE [52, 53] [] [0, 3, 113] (Lo := [(0, .pointer (some ⟨p_w_, 0, none⟩)), (3, .int .i64 1), (113, .bool (!t_44.1))]) (obs := []) (by kernel_rfl) (by kernel_rfl) trivial fun a hE => ?_
                  refine WQ.done (by kernel_rfl) ?_
                  cases hm
                  exact hk _ _ ⟨hE.sel [0, 3, 113] (by kernel_rfl), H.x2.x1⟩
          rintro a w ⟨hE, H⟩
          refine Runs.cond hE rfl (fun c => ?_) (fun c => ?_)
          · replace hm := cond_t c hm
            refine Runs.seq ?_
            refine Runs.region ?_
            refine WR.seg hE 1 [] [2] (Lo := [(2, .bool false)]) (obs := []) rfl (by kernel_rfl) trivial fun a hE => ?_
            refine WR.done rfl ?_
            refine Runs.ret hE Tryz.func30 rfl rfl ?_
            cases hm
            exact ⟨rfl, H⟩
          · replace hm := cond_f c hm
            refine Runs.skip ?_
            refine Runs.inBlock ?_
            refine Runs.region ?_
            refine WR.seg hE 3 [] [0, 3] (Lo := [(0, .pointer (some ⟨p_w_, 0, none⟩)), (3, .int .i64 2)]) (obs := []) rfl (by kernel_rfl) trivial fun a hE => ?_
            refine WR.done rfl ?_
            refine Runs.inLoop ?_
            refine Runs.seq ?_
            refine Runs.seq ?_
            refine Runs.region ?_
            refine WR.seg hE 2 [] [0, 3, 28] (Lo := [(0, .pointer (some ⟨p_w_, 0, none⟩)), (3, .int .i64 2), (28, .bool false)]) (obs := []) rfl (by kernel_rfl) trivial fun a hE => ?_
            refine WR.done rfl ?_
            refine Runs.condF hE rfl ?_
            refine Runs.exit rfl ?_
            refine Runs.seq ?_
            refine Runs.region ?_
            refine WR.seg hE 1 [] [2] (Lo := [(2, .bool true)]) (obs := []) rfl (by kernel_rfl) trivial fun a hE => ?_
            refine WR.done rfl ?_
            refine Runs.ret hE Tryz.func30 rfl rfl ?_
            cases hm
            exact ⟨rfl, H⟩

theorem thicketbook_Within_ok {w0 w : World} {As : List HP} {n : Int} {lo : Int} {hi : Int} {t : Int}  (hm : thicketbook_Within n lo hi = some t) (H : St w0 (As) w) :
    CallsR Tryz.prog 16 #[.int .i64 n, .int .i64 lo, .int .i64 hi] w fun v w' => v = .int .i64 t ∧ St w0 (As) w' := by
  rw [thicketbook_Within] at hm
  refine enter (args := [.int .i64 n, .int .i64 lo, .int .i64 hi]) Tryz.func16 rfl rfl rfl fun a hE => ?_
  refine Runs.seq ?_
  refine Runs.region ?_
  refine WR.seg hE 1 [] [0, 1, 2] (Lo := [(0, .int .i64 n), (1, .int .i64 lo), (2, .int .i64 hi)]) (obs := []) rfl (by kernel_rfl) trivial fun a hE => ?_
  refine WR.done rfl ?_
  refine Runs.seq ?_
  refine Runs.seq ?_
  refine Runs.join (fun a w => EnvOk 33 a [(0, .int .i64 n), (1, .int .i64 lo), (2, .int .i64 hi), (14, .bool ((decide (n ≥ lo)) && (decide (n ≤ hi))))] ∧ St w0 (As) w) (fun hk => ?_) ?_
  · clear hm
    refine Runs.region ?_
    refine WR.seg hE 4 [] [0, 1, 2, 10] (Lo := [(0, .int .i64 n), (1, .int .i64 lo), (2, .int .i64 hi), (10, .bool (decide (n ≥ lo)))]) (obs := []) rfl (by kernel_rfl) trivial fun a hE => ?_
    rcases Bool.eq_false_or_eq_true (decide (n ≥ lo)) with c | c
    · replace hE := hE.dec 10 c (by kernel_rfl)
      have c_ := c
      refine WR.seg hE 8 [] [0, 1, 2, 14] (Lo := [(0, .int .i64 n), (1, .int .i64 lo), (2, .int .i64 hi), (14, .bool (decide (n ≤ hi)))]) (obs := []) rfl (by kernel_rfl) trivial fun a hE => ?_
      refine WR.done rfl ?_
      refine hk _ _ ⟨?_, H⟩
      try rw [c_] at hE
      try rw [c_]
      exact hE.sel [0, 1, 2, 14] (by kernel_rfl)
    · replace hE := hE.dec 10 c (by kernel_rfl)
      have c_1 := c
      refine WR.seg hE 8 [] [0, 1, 2, 14] (Lo := [(0, .int .i64 n), (1, .int .i64 lo), (2, .int .i64 hi), (14, .bool false)]) (obs := []) rfl (by kernel_rfl) trivial fun a hE => ?_
      refine WR.done rfl ?_
      refine hk _ _ ⟨?_, H⟩
      try rw [c_1] at hE
      try rw [c_1]
      exact hE.sel [0, 1, 2, 14] (by kernel_rfl)
  rintro a w ⟨hE, H⟩
  refine Runs.cond hE rfl (fun c => ?_) (fun c => ?_)
  · replace hm := cond_t c hm
    refine Runs.seq ?_
    refine Runs.region ?_
    refine WR.seg hE 2 [] [6] (Lo := [(6, .int .i64 n)]) (obs := []) rfl (by kernel_rfl) trivial fun a hE => ?_
    refine WR.done rfl ?_
    refine Runs.ret hE Tryz.func16 rfl rfl ?_
    cases hm
    exact ⟨rfl, H⟩
  · replace hm := cond_f c hm
    refine Runs.skip ?_
    refine Runs.seq ?_
    refine Runs.region ?_
    obtain ⟨u, eu, hm⟩ := bind_some hm
    refine WR.seg hE 7 [] [0, 1, 2] (Lo := [(0, .int .i64 (Int.tmod n (w64 ((w64 (hi - lo)) + 1)))), (1, .int .i64 lo), (2, .int .i64 hi)]) (obs := [.p (w64 ((w64 (hi - lo)) + 1) ≠ 0)]) rfl (by kernel_rfl) ⟨(nz_spec eu), trivial⟩ fun a hE => ?_
    refine WR.done rfl ?_
    refine Runs.seq ?_
    refine Runs.seq ?_
    refine Runs.region ?_
    refine WR.seg hE 2 [] [0, 1, 2, 23] (Lo := [(0, .int .i64 (Int.tmod n (w64 ((w64 (hi - lo)) + 1)))), (1, .int .i64 lo), (2, .int .i64 hi), (23, .bool (decide (Int.tmod n (w64 ((w64 (hi - lo)) + 1)) < 0)))]) (obs := []) rfl (by kernel_rfl) trivial fun a hE => ?_
    refine WR.done rfl ?_
    obtain ⟨s, es, hm⟩ := bind_some hm
    refine Runs.join (fun a w => EnvOk 33 a [(0, .int .i64 s), (1, .int .i64 lo)] ∧ St w0 (As) w) (fun hk => ?_) ?_
    · replace hm := es; clear es
      refine Runs.cond hE rfl (fun c => ?_) (fun c => ?_)
      · replace hm := cond_t c hm
        refine Runs.region ?_
        refine WR.seg hE 7 [] [0, 1] (Lo := [(0, .int .i64 (w64 ((w64 ((w64 ((Int.tmod n (w64 ((w64 (hi - lo)) + 1))) + hi)) - lo)) + 1))), (1, .int .i64 lo)]) (obs := []) rfl (by kernel_rfl) trivial fun a hE => ?_
        refine WR.done rfl ?_
        cases hm
        exact hk _ _ ⟨hE.sel [0, 1] (by kernel_rfl), H⟩
      · replace hm := cond_f c hm
        refine Runs.skip ?_
        cases hm
        exact hk _ _ ⟨hE.sel [0, 1] (by kernel_rfl), H⟩
    rintro a w ⟨hE, H⟩
    refine Runs.seq ?_
    refine Runs.region ?_
    refine WR.seg hE 4 [] [6] (Lo := [(6, .int .i64 (w64 (lo + s)))]) (obs := []) rfl (by kernel_rfl) trivial fun a hE => ?_
    refine WR.done rfl ?_
    refine Runs.ret hE Tryz.func16 rfl rfl ?_
    cases hm
    exact ⟨rfl, H⟩

theorem item_Lower_ok {w0 w : World} {As : List HP} {p_a_ : Nat} {al_a_ : arena_Arena.A} {a_ : arena_Arena} {i : Int} {key : Int} {t : Bool × arena_Arena}  (hm : item_Lower a_ i key = some t) (H : St w0 (arena_Arena.R p_a_ al_a_ a_ :: As) w) :
    CallsR Tryz.prog 71 #[.pointer (some ⟨p_a_, 0, none⟩), .int .i64 i, .int .i64 key] w fun v w' => v = .bool t.1 ∧ St w0 (arena_Arena.R p_a_ al_a_ t.2 :: As) w' := by
  rw [item_Lower] at hm
  refine enter (args := [.pointer (some ⟨p_a_, 0, none⟩), .int .i64 i, .int .i64 key]) Tryz.func71 rfl rfl rfl fun a hE => ?_
  refine Runs.seq ?_
  refine Runs.region ?_
  refine WR.seg hE 1 [] [0, 1, 2] (Lo := [(0, .pointer (some ⟨p_a_, 0, none⟩)), (1, .int .i64 i), (2, .int .i64 key)]) (obs := []) rfl (by kernel_rfl) trivial fun a hE => ?_
  refine WR.done rfl ?_
  refine Runs.seq ?_
  refine Runs.seq ?_
  obtain ⟨s, es, hm⟩ := bind_some hm
  refine Runs.join (fun a w => EnvOk 20 a [(0, .pointer (some ⟨p_a_, 0, none⟩)), (1, .int .i64 i), (2, .int .i64 key), (15, .bool s.1)] ∧ St w0 (arena_Arena.R p_a_ al_a_ s.2 :: As) w) (fun hk => ?_) ?_
  · replace hm := es; clear es
    refine Runs.region ?_
    refine WR.seg hE 6 [] [0, 1, 2, 9, 10, 11, 12] (Lo := [(0, .pointer (some ⟨p_a_, 0, none⟩)), (1, .int .i64 i), (2, .int .i64 key), (9, .bool false), (10, .int .i64 key), (11, .pointer (some ⟨p_a_, 0, none⟩)), (12, .int .i64 i)]) (obs := []) rfl (by kernel_rfl) trivial fun a hE => ?_
    obtain ⟨t_, et_, hm⟩ := bind_some hm
    refine WR.eff hE rfl rfl rfl rfl (OpTo.fn hE rfl rfl Tryz.call61 (arena_Arena_Get_ok et_ H)) ?_
    rintro _ w ⟨rfl, hf1, hf, H⟩ a hE
    refine WR.seg hE 9 [] [0, 1, 2, 15] (Lo := [(0, .pointer (some ⟨p_a_, 0, none⟩)), (1, .int .i64 i), (2, .int .i64 key), (15, .bool (decide (key > t_.1)))]) (obs := []) rfl (by kernel_rfl) trivial fun a hE => ?_
    refine WR.done rfl ?_
    cases hm
    exact hk _ _ ⟨hE.sel [0, 1, 2, 15] (by kernel_rfl), H⟩
  rintro a w ⟨hE, H⟩
  refine Runs.cond hE rfl (fun c => ?_) (fun c => ?_)
  · replace hm := cond_t c hm
    refine Runs.seq ?_
    refine Runs.region ?_
    refine WR.seg hE 1 [] [6] (Lo := [(6, .bool false)]) (obs := []) rfl (by kernel_rfl) trivial fun a hE => ?_
    refine WR.done rfl ?_
    refine Runs.ret hE Tryz.func71 rfl rfl ?_
    cases hm
    exact ⟨rfl, H⟩
  · replace hm := cond_f c hm
    refine Runs.skip ?_
    refine Runs.seq ?_
    refine Runs.region ?_
    refine WR.seg hE 3 [] [16, 17, 18] (Lo := [(16, .pointer (some ⟨p_a_, 0, none⟩)), (17, .int .i64 i), (18, .int .i64 key)]) (obs := []) rfl (by kernel_rfl) trivial fun a hE => ?_
    obtain ⟨t_1, et_1, hm⟩ := bind_some hm
    refine WR.eff hE rfl rfl rfl rfl (OpTo.fn hE rfl rfl Tryz.call53 (arena_Arena_Set_ok et_1 H)) ?_
    rintro _ w ⟨rfl, hf2, H⟩ a hE
    refine WR.seg hE 5 [] [6] (Lo := [(6, .bool t_1.1)]) (obs := []) rfl (by kernel_rfl) trivial fun a hE => ?_
    refine WR.done rfl ?_
    refine Runs.ret hE Tryz.func71 rfl rfl ?_
    cases hm
    exact ⟨rfl, H⟩

theorem item_Node_ok {w0 w : World} {As : List HP} {p_a_ : Nat} {al_a_ : arena_Arena.A} {a_ : arena_Arena} {i : Int} {t : Int × arena_Arena}  (hm : item_Node a_ i = some t) (H : St w0 (arena_Arena.R p_a_ al_a_ a_ :: As) w) :
    CallsR Tryz.prog 65 #[.pointer (some ⟨p_a_, 0, none⟩), .int .i64 i] w fun v w' => v = .int .i64 t.1 ∧ St w0 (arena_Arena.R p_a_ al_a_ t.2 :: As) w' := by
  rw [item_Node] at hm
  refine enter (args := [.pointer (some ⟨p_a_, 0, none⟩), .int .i64 i]) Tryz.func65 rfl rfl rfl fun a hE => ?_
  refine Runs.seq ?_
  refine Runs.region ?_
  refine WR.seg hE 1 [] [0, 1] (Lo := [(0, .pointer (some ⟨p_a_, 0, none⟩)), (1, .int .i64 i)]) (obs := []) rfl (by kernel_rfl) trivial fun a hE => ?_
  refine WR.done rfl ?_
  refine Runs.seq ?_
  refine Runs.seq ?_
  refine Runs.region ?_
  refine WR.seg hE 2 [] [0, 1, 6] (Lo := [(0, .pointer (some ⟨p_a_, 0, none⟩)), (1, .int .i64 i), (6, .bool false)]) (obs := []) rfl (by kernel_rfl) trivial fun a hE => ?_
  refine WR.done rfl ?_
  refine Runs.condF hE rfl ?_
  refine Runs.skip ?_
  refine Runs.seq ?_
  refine Runs.region ?_
  refine WR.seg hE 2 [] [7, 8] (Lo := [(7, .pointer (some ⟨p_a_, 0, none⟩)), (8, .int .i64 i)]) (obs := []) rfl (by kernel_rfl) trivial fun a hE => ?_
  obtain ⟨t_, et_, hm⟩ := bind_some hm
  refine WR.eff hE rfl rfl rfl rfl (OpTo.fn hE rfl rfl Tryz.call73 (arena_Arena_Cell_ok et_ H)) ?_
  rintro _ w ⟨rfl, H⟩ a hE
  refine WR.seg hE 4 [] [4] (Lo := [(4, .int .i64 t_.1)]) (obs := []) rfl (by kernel_rfl) trivial fun a hE => ?_
  refine WR.done rfl ?_
  refine Runs.ret hE Tryz.func65 rfl rfl ?_
  cases hm
  exact ⟨rfl, H⟩

theorem item_Swap_ok {w0 w : World} {As : List HP} {p_a_ : Nat} {al_a_ : arena_Arena.A} {a_ : arena_Arena} {n : Int} {m_ : Int} {t : arena_Arena}  (hm : item_Swap a_ n m_ = some t) (H : St w0 (arena_Arena.R p_a_ al_a_ a_ :: As) w) :
    CallsR Tryz.prog 160 #[.pointer (some ⟨p_a_, 0, none⟩), .int .i64 n, .int .i64 m_] w fun v w' => v = .tuple #[] ∧ St w0 (arena_Arena.R p_a_ al_a_ t :: As) w' := by
  rw [item_Swap] at hm
  refine enter (args := [.pointer (some ⟨p_a_, 0, none⟩), .int .i64 n, .int .i64 m_]) Tryz.func160 rfl rfl rfl fun a hE => ?_
  refine Runs.seq ?_
  refine Runs.seq ?_
  refine Runs.region ?_
  refine WR.seg hE 2 [] [0, 1, 2, 9] (Lo := [(0, .pointer (some ⟨p_a_, 0, none⟩)), (1, .int .i64 n), (2, .int .i64 m_), (9, .bool false)]) (obs := []) rfl (by kernel_rfl) trivial fun a hE => ?_
  refine WR.done rfl ?_
  refine Runs.condF hE rfl ?_
  refine Runs.skip ?_
  refine Runs.seq ?_
  refine Runs.region ?_
  refine WR.seg hE 2 [] [0, 1, 2, 10, 11] (Lo := [(0, .pointer (some ⟨p_a_, 0, none⟩)), (1, .int .i64 n), (2, .int .i64 m_), (10, .pointer (some ⟨p_a_, 0, none⟩)), (11, .int .i64 n)]) (obs := []) rfl (by kernel_rfl) trivial fun a hE => ?_
  obtain ⟨t_, et_, hm⟩ := bind_some hm
  refine WR.eff hE rfl rfl rfl rfl (OpTo.fn hE rfl rfl Tryz.call73 (arena_Arena_Cell_ok et_ H)) ?_
  rintro _ w ⟨rfl, H⟩ a hE
  refine WR.seg hE 5 [] [0, 1, 2, 12, 13, 14] (Lo := [(0, .pointer (some ⟨p_a_, 0, none⟩)), (1, .int .i64 n), (2, .int .i64 m_), (12, .int .i64 t_.1), (13, .pointer (some ⟨p_a_, 0, none⟩)), (14, .int .i64 m_)]) (obs := []) rfl (by kernel_rfl) trivial fun a hE => ?_
  obtain ⟨t_1, et_1, hm⟩ := bind_some hm
  refine WR.eff hE rfl rfl rfl rfl (OpTo.fn hE rfl rfl Tryz.call73 (arena_Arena_Cell_ok et_1 H)) ?_
  rintro _ w ⟨rfl, H⟩ a hE
  refine WR.seg hE 8 [] [0, 1, 2, 6, 7] (Lo := [(0, .pointer (some ⟨p_a_, 0, none⟩)), (1, .int .i64 n), (2, .int .i64 m_), (6, .int .i64 t_.1), (7, .int .i64 t_1.1)]) (obs := []) rfl (by kernel_rfl) trivial fun a hE => ?_
  refine WR.done rfl ?_
  refine Runs.seq ?_
  refine Runs.region ?_
  refine WR.seg hE 3 [] [0, 2, 6, 16, 17, 18] (Lo := [(0, .pointer (some ⟨p_a_, 0, none⟩)), (2, .int .i64 m_), (6, .int .i64 t_.1), (16, .pointer (some ⟨p_a_, 0, none⟩)), (17, .int .i64 n), (18, .int .i64 t_1.1)]) (obs := []) rfl (by kernel_rfl) trivial fun a hE => ?_
  obtain ⟨t_2, et_2, hm⟩ := bind_some hm
  refine WR.eff hE rfl rfl rfl rfl (OpTo.fn hE rfl rfl Tryz.call111 (item_Put_ok et_2 H)) ?_
  rintro _ w ⟨rfl, hf, H⟩ a hE
  refine WR.done rfl ?_
  refine Runs.region ?_
  refine WR.seg hE 3 [] [20, 21, 22] (Lo := [(20, .pointer (some ⟨p_a_, 0, none⟩)), (21, .int .i64 m_), (22, .int .i64 t_.1)]) (obs := []) rfl (by kernel_rfl) trivial fun a hE => ?_
  obtain ⟨t_3, et_3, hm⟩ := bind_some hm
  refine WR.eff hE rfl rfl rfl rfl (OpTo.fn hE rfl rfl Tryz.call111 (item_Put_ok et_3 H)) ?_
  rintro _ w ⟨rfl, hf1, H⟩ a hE
  refine WR.done rfl ?_
  refine Runs.fin hE Tryz.func160 rfl rfl ?_
  cases hm
  exact ⟨rfl, H⟩

theorem trees_Rise_ok {w0 w : World} {As : List HP} {k : Nat} {p_a_ : Nat} {al_a_ : arena_Arena.A} {a_ : arena_Arena} {i : Int} {any : Bool} {t : Int × arena_Arena}  (hm : trees_Rise k a_ i any = some t) (H : St w0 (arena_Arena.R p_a_ al_a_ a_ :: As) w) :
    CallsR Tryz.prog 130 #[.pointer (some ⟨p_a_, 0, none⟩), .int .i64 i, .bool any] w fun v w' => v = .int .i64 t.1 ∧ St w0 (arena_Arena.R p_a_ al_a_ t.2 :: As) w' := by
  rw [trees_Rise] at hm
  refine enter (args := [.pointer (some ⟨p_a_, 0, none⟩), .int .i64 i, .bool any]) Tryz.func130 rfl rfl rfl fun a hE => ?_
  refine Runs.seq ?_
  refine Runs.region ?_
  refine WR.seg hE 1 [] [0, 1, 2] (Lo := [(0, .pointer (some ⟨p_a_, 0, none⟩)), (1, .int .i64 i), (2, .bool any)]) (obs := []) rfl (by kernel_rfl) trivial fun a hE => ?_
  refine WR.done rfl ?_
  refine Runs.seq ?_
  refine Runs.region ?_
  refine WR.seg hE 2 [] [0, 2, 10, 11] (Lo := [(0, .pointer (some ⟨p_a_, 0, none⟩)), (2, .bool any), (10, .pointer (some ⟨p_a_, 0, none⟩)), (11, .int .i64 i)]) (obs := []) rfl (by kernel_rfl) trivial fun a hE => ?_
  obtain ⟨t_, et_, hm⟩ := bind_some hm
  refine WR.eff hE rfl rfl rfl rfl (OpTo.fn hE rfl rfl Tryz.call65 (item_Node_ok et_ H)) ?_
  rintro _ w ⟨rfl, H⟩ a hE
  refine WR.seg hE 4 [] [0, 2, 7] (Lo := [(0, .pointer (some ⟨p_a_, 0, none⟩)), (2, .bool any), (7, .int .i64 t_.1)]) (obs := []) rfl (by kernel_rfl) trivial fun a hE => ?_
  refine WR.done rfl ?_
  refine Runs.seq ?_
  refine Runs.seq ?_
  refine Runs.region ?_
  refine WR.seg hE 1 [] [0, 2, 7, 8] (Lo := [(0, .pointer (some ⟨p_a_, 0, none⟩)), (2, .bool any), (7, .int .i64 t_.1), (8, .int .i64 0)]) (obs := []) rfl (by kernel_rfl) trivial fun a hE => ?_
  refine WR.done rfl ?_
  obtain ⟨s, es, hm⟩ := bind_some hm
  refine Runs.join (fun a w => EnvOk 45 a [(7, .int .i64 s.1)] ∧ St w0 (arena_Arena.R p_a_ al_a_ s.2 :: As) w) (fun hk => ?_) ?_
  · replace hm := es; clear es
    refine Runs.block ?_
    refine Runs.loop (fun m a w => ∃ (n : Int), ∃ (k_ : Int), ∃ (m_ : arena_Arena), EnvOk 45 a [(0, .pointer (some ⟨p_a_, 0, none⟩)), (2, .bool any), (7, .int .i64 n), (8, .int .i64 k_)] ∧ St w0 (arena_Arena.R p_a_ al_a_ m_ :: As) w ∧ trees_Rise_l0 any m n k_ m_ = some s) k ⟨t_.1, 0, t_.2, hE.sel [0, 2, 7, 8] (by kernel_rfl), H, hm⟩ ?_
    rintro m ih a w ⟨n, k_, m_, hE, H, hm⟩
    cases m with
    | zero => simp [trees_Rise_l0] at hm
    | succ m =>
      rw [trees_Rise_l0] at hm
      refine Runs.seq ?_
      refine Runs.seq ?_
      obtain ⟨s1, es1, hm⟩ := bind_some hm
      refine Runs.join (fun a w => EnvOk 45 a [(0, .pointer (some ⟨p_a_, 0, none⟩)), (2, .bool any), (7, .int .i64 n), (8, .int .i64 k_), (20, .bool s1)] ∧ St w0 (arena_Arena.R p_a_ al_a_ m_ :: As) w) (fun hk => ?_) ?_
      · replace hm := es1; clear es1
        refine Runs.region ?_
        refine WR.seg hE 3 [] [0, 2, 7, 8, 15] (Lo := [(0, .pointer (some ⟨p_a_, 0, none⟩)), (2, .bool any), (7, .int .i64 n), (8, .int .i64 k_), (15, .bool (n != (-1)))]) (obs := []) rfl (by kernel_rfl) trivial fun a hE => ?_
        rcases Bool.eq_false_or_eq_true (n != (-1)) with c | c
        · replace hE := hE.dec 15 c (by kernel_rfl)
          replace hm := cond_t c hm
          have c_ := c
          refine WR.seg hE 5 [] [0, 2, 7, 8, 15, 16, 17] (Lo := [(0, .pointer (some ⟨p_a_, 0, none⟩)), (2, .bool any), (7, .int .i64 n), (8, .int .i64 k_), (15, .bool true), (16, .int .i64 k_), (17, .pointer (some ⟨p_a_, 0, none⟩))]) (obs := []) rfl (by kernel_rfl) trivial fun a hE => ?_
          obtain ⟨t_1, et_1, hm⟩ := bind_some hm
          refine WR.eff hE rfl rfl rfl rfl (OpTo.fn hE rfl rfl Tryz.call63 (arena_Arena_Cells_ok et_1 H)) ?_
          rintro _ w ⟨rfl, H⟩ a hE
          refine WR.seg hE 8 [] [0, 2, 7, 8, 20] (Lo := [(0, .pointer (some ⟨p_a_, 0, none⟩)), (2, .bool any), (7, .int .i64 n), (8, .int .i64 k_), (20, .bool (decide (k_ ≤ t_1)))]) (obs := []) rfl (by kernel_rfl) trivial fun a hE => ?_
          refine WR.done rfl ?_
          cases hm
          exact hk _ _ ⟨hE.sel [0, 2, 7, 8, 20] (by kernel_rfl), H⟩
        · replace hE := hE.dec 15 c (by kernel_rfl)
          replace hm := cond_f c hm
          have c_1 := c
          refine WR.seg hE 8 [] [0, 2, 7, 8, 20] (Lo := [(0, .pointer (some ⟨p_a_, 0, none⟩)), (2, .bool any), (7, .int .i64 n), (8, .int .i64 k_), (20, .bool false)]) (obs := []) rfl (by kernel_rfl) trivial fun a hE => ?_
          refine WR.done rfl ?_
          cases hm
          exact hk _ _ ⟨hE.sel [0, 2, 7, 8, 20] (by kernel_rfl), H⟩
      rintro a w ⟨hE, H⟩
      refine Runs.cond hE rfl (fun c => ?_) (fun c => ?_)
      · replace hm := cond_t c hm
        refine Runs.skip ?_
        refine Runs.seq ?_
        refine Runs.block ?_
        refine Runs.seq ?_
        refine Runs.region ?_
        refine WR.seg hE 2 [] [0, 2, 7, 8, 23, 24] (Lo := [(0, .pointer (some ⟨p_a_, 0, none⟩)), (2, .bool any), (7, .int .i64 n), (8, .int .i64 k_), (23, .pointer (some ⟨p_a_, 0, none⟩)), (24, .int .i64 n)]) (obs := []) rfl (by kernel_rfl) trivial fun a hE => ?_
        obtain ⟨t_2, et_2, hm⟩ := bind_some hm
        refine WR.eff hE rfl rfl rfl rfl (OpTo.fn hE rfl rfl Tryz.call73 (arena_Arena_Cell_ok et_2 H)) ?_
        rintro _ w ⟨rfl, H⟩ a hE
        refine WR.seg hE 4 [] [0, 2, 7, 8, 9] (Lo := [(0, .pointer (some ⟨p_a_, 0, none⟩)), (2, .bool any), (7, .int .i64 n), (8, .int .i64 k_), (9, .int .i64 t_2.1)]) (obs := []) rfl (by kernel_rfl) trivial fun a hE => ?_
        refine WR.done rfl ?_
        refine Runs.seq ?_
        refine Runs.seq ?_
        obtain ⟨s2, es2, hm⟩ := bind_some hm
        refine Runs.join (fun a w => EnvOk 45 a [(0, .pointer (some ⟨p_a_, 0, none⟩)), (2, .bool any), (7, .int .i64 n), (8, .int .i64 k_), (9, .int .i64 t_2.1), (38, .bool s2.1)] ∧ St w0 (arena_Arena.R p_a_ al_a_ s2.2 :: As) w) (fun hk => ?_) ?_
        · replace hm := es2; clear es2
          refine Runs.region ?_
          refine WR.seg hE 3 [] [0, 2, 7, 8, 9, 28] (Lo := [(0, .pointer (some ⟨p_a_, 0, none⟩)), (2, .bool any), (7, .int .i64 n), (8, .int .i64 k_), (9, .int .i64 t_2.1), (28, .bool (t_2.1 == (-1)))]) (obs := []) rfl (by kernel_rfl) trivial fun a hE => ?_
          rcases Bool.eq_false_or_eq_true (t_2.1 == (-1)) with c | c
          · replace hE := hE.dec 28 c (by kernel_rfl)
            replace hm := cond_t c hm
            have c_2 := c
            refine WR.seg hE 13 [] [0, 2, 7, 8, 9, 38] (Lo := [(0, .pointer (some ⟨p_a_, 0, none⟩)), (2, .bool any), (7, .int .i64 n), (8, .int .i64 k_), (9, .int .i64 t_2.1), (38, .bool true)]) (obs := []) rfl (by kernel_rfl) trivial fun a hE => ?_
            refine WR.done rfl ?_
            cases hm
            exact hk _ _ ⟨hE.sel [0, 2, 7, 8, 9, 38] (by kernel_rfl), H⟩
          · replace hE := hE.dec 28 c (by kernel_rfl)
            replace hm := cond_f c hm
            have c_3 := c
            refine WR.seg hE 6 [] [0, 2, 7, 8, 9, 28, 31] (Lo := [(0, .pointer (some ⟨p_a_, 0, none⟩)), (2, .bool any), (7, .int .i64 n), (8, .int .i64 k_), (9, .int .i64 t_2.1), (28, .bool false), (31, .bool (!any))]) (obs := []) rfl (by kernel_rfl) trivial fun a hE => ?_
            rcases Bool.eq_false_or_eq_true (!any) with c | c
            · replace hE := hE.dec 31 c (by kernel_rfl)
              replace hm := cond_t c hm
              have c_4 := c
              refine WR.seg hE 9 [] [0, 2, 7, 8, 9, 28, 31, 32, 33, 34] (Lo := [(0, .pointer (some ⟨p_a_, 0, none⟩)), (2, .bool any), (7, .int .i64 n), (8, .int .i64 k_), (9, .int .i64 t_2.1), (28, .bool false), (31, .bool true), (32, .pointer (some ⟨p_a_, 0, none⟩)), (33, .int .i64 n), (34, .int .i64 t_2.1)]) (obs := []) rfl (by kernel_rfl) trivial fun a hE => ?_
              obtain ⟨t_3, et_3, hm⟩ := bind_some hm
              refine WR.eff hE rfl rfl rfl rfl (OpTo.fn hE rfl rfl Tryz.call124 (node_Before_ok et_3 H)) ?_
              rintro _ w ⟨rfl, H⟩ a hE
              refine WR.seg hE 13 [] [0, 2, 7, 8, 9, 38] (Lo := [(0, .pointer (some ⟨p_a_, 0, none⟩)), (2, .bool any), (7, .int .i64 n), (8, .int .i64 k_), (9, .int .i64 t_2.1), (38, .bool (!t_3.1))]) (obs := []) rfl (by kernel_rfl) trivial fun a hE => ?_
              refine WR.done rfl ?_
              cases hm
              exact hk _ _ ⟨hE.sel [0, 2, 7, 8, 9, 38] (by kernel_rfl), H⟩
            · replace hE := hE.dec 31 c (by kernel_rfl)
              replace hm := cond_f c hm
              have c_5 := c
              refine WR.seg hE 13 [] [0, 2, 7, 8, 9, 38] (Lo := [(0, .pointer (some ⟨p_a_, 0, none⟩)), (2, .bool any), (7, .int .i64 n), (8, .int .i64 k_), (9, .int .i64 t_2.1), (38, .bool false)]) (obs := []) rfl (by kernel_rfl) trivial fun a hE => ?_
              refine WR.done rfl ?_
              cases hm
              exact hk _ _ ⟨hE.sel [0, 2, 7, 8, 9, 38] (by kernel_rfl), H⟩
        rintro a w ⟨hE, H⟩
        refine Runs.cond hE rfl (fun c => ?_) (fun c => ?_)
        · replace hm := cond_t c hm
          refine Runs.exit rfl ?_
          cases hm
          exact hk _ _ ⟨hE.sel [7] (by kernel_rfl), H⟩
        · replace hm := cond_f c hm
          refine Runs.skip ?_
          refine Runs.seq ?_
          refine Runs.region ?_
          refine WR.seg hE 3 [] [0, 2, 8, 9, 39, 40, 41] (Lo := [(0, .pointer (some ⟨p_a_, 0, none⟩)), (2, .bool any), (8, .int .i64 k_), (9, .int .i64 t_2.1), (39, .pointer (some ⟨p_a_, 0, none⟩)), (40, .int .i64 n), (41, .int .i64 t_2.1)]) (obs := []) rfl (by kernel_rfl) trivial fun a hE => ?_
          obtain ⟨t_4, et_4, hm⟩ := bind_some hm
          refine WR.eff hE rfl rfl rfl rfl (OpTo.fn hE rfl rfl Tryz.call160 (item_Swap_ok et_4 H)) ?_
          rintro _ w ⟨rfl, H⟩ a hE
          refine WR.done rfl ?_
          refine Runs.region ?_
          refine WR.seg hE 2 [] [0, 2, 7, 8] (Lo := [(0, .pointer (some ⟨p_a_, 0, none⟩)), (2, .bool any), (7, .int .i64 t_2.1), (8, .int .i64 k_)]) (obs := []) rfl (by kernel_rfl) trivial fun a hE => ?_
          refine WR.done rfl ?_
          refine Runs.inBlock ?_
          refine Runs.region ?_
          refine WR.seg hE 3 [] [0, 2, 7, 8] (Lo := [(0, .pointer (some ⟨p_a_, 0, none⟩)), (2, .bool any), (7, .int .i64 t_2.1), (8, .int .i64 (w64 (k_ + 1)))]) (obs := []) rfl (by kernel_rfl) trivial fun a hE => ?_
          refine WR.done rfl ?_
          exact ih m (Nat.lt_succ_self m) _ _ ⟨t_2.1, w64 (k_ + 1), t_4, hE.sel [0, 2, 7, 8] (by kernel_rfl), H, hm⟩
      · replace hm := cond_f c hm
        refine Runs.exit rfl ?_
        cases hm
        exact hk _ _ ⟨hE.sel [7] (by kernel_rfl), H⟩
  rintro a w ⟨hE, H⟩
  refine Runs.seq ?_
  refine Runs.region ?_
  refine WR.seg hE 2 [] [6] (Lo := [(6, .int .i64 s.1)]) (obs := []) rfl (by kernel_rfl) trivial fun a hE => ?_
  refine WR.done rfl ?_
  refine Runs.ret hE Tryz.func130 rfl rfl ?_
  cases hm
  exact ⟨rfl, H⟩

theorem binomial_Fall_ok {w0 w : World} {As : List HP} {k : Nat} {p_a_ : Nat} {al_a_ : arena_Arena.A} {a_ : arena_Arena} {r : Int} {i : Int} {t : Int × arena_Arena}  (hm : binomial_Fall k a_ r i = some t) (H : St w0 (arena_Arena.R p_a_ al_a_ a_ :: As) w) :
    CallsR Tryz.prog 72 #[.pointer (some ⟨p_a_, 0, none⟩), .int .i64 r, .int .i64 i] w fun v w' => v = .int .i64 t.1 ∧ St w0 (arena_Arena.R p_a_ al_a_ t.2 :: As) w' := by
  rw [binomial_Fall] at hm
  refine enter (args := [.pointer (some ⟨p_a_, 0, none⟩), .int .i64 r, .int .i64 i]) Tryz.func72 rfl rfl rfl fun a hE => ?_
  refine Runs.seq ?_
  refine Runs.region ?_
  refine WR.seg hE 1 [] [0, 1, 2] (Lo := [(0, .pointer (some ⟨p_a_, 0, none⟩)), (1, .int .i64 r), (2, .int .i64 i)]) (obs := []) rfl (by kernel_rfl) trivial fun a hE => ?_
  refine WR.done rfl ?_
  refine Runs.seq ?_
  refine Runs.seq ?_
  refine Runs.region ?_
  refine WR.seg hE 2 [] [0, 1, 2, 8] (Lo := [(0, .pointer (some ⟨p_a_, 0, none⟩)), (1, .int .i64 r), (2, .int .i64 i), (8, .bool false)]) (obs := []) rfl (by kernel_rfl) trivial fun a hE => ?_
  refine WR.done rfl ?_
  refine Runs.condF hE rfl ?_
  refine Runs.skip ?_
  refine Runs.seq ?_
  refine Runs.region ?_
  refine WR.seg hE 2 [] [1, 9, 10] (Lo := [(1, .int .i64 r), (9, .pointer (some ⟨p_a_, 0, none⟩)), (10, .int .i64 i)]) (obs := []) rfl (by kernel_rfl) trivial fun a hE => ?_
  obtain ⟨t_, et_, hm⟩ := bind_some hm
  refine WR.eff hE rfl rfl rfl rfl (OpTo.fn hE rfl rfl Tryz.call130 (trees_Rise_ok et_ H)) ?_
  rintro _ w ⟨rfl, H⟩ a hE
  refine WR.done rfl ?_
  refine Runs.seq ?_
  refine Runs.region ?_
  refine WR.seg hE 2 [] [6] (Lo := [(6, .int .i64 r)]) (obs := []) rfl (by kernel_rfl) trivial fun a hE => ?_
  refine WR.done rfl ?_
  refine Runs.ret hE Tryz.func72 rfl rfl ?_
  cases hm
  exact ⟨rfl, H⟩

theorem thicketlaw9_without_ok {w0 w : World} {As : List HP} {sb_l : Option Addr} {sc_l : Nat} {l : List thicketlaw9_held} {X_l : HP} {k_ : Int} {t : (List thicketlaw9_held)} (hX_l : SlRd X_l thicketlaw9_held.enc 3 sb_l l) (hC_l : l.length ≤ sc_l) (hm : thicketlaw9_without l k_ = some t) (H : St w0 (X_l :: As) w) :
    CallsR Tryz.prog 66 #[.slice sb_l l.length sc_l, .int .i64 k_] w fun v w' => ∃ (sb0 : Option Addr), ∃ (sc0 : Nat), v = .slice sb0 t.length sc0 ∧ St w0 (Sl 58 thicketlaw9_held.enc 3 sb0 sc0 t :: X_l :: As) w' := by
  rw [thicketlaw9_without] at hm
  refine enter (args := [.slice sb_l l.length sc_l, .int .i64 k_]) Tryz.func66 rfl rfl rfl fun a hE => ?_
  refine Runs.seq ?_
  refine Runs.region ?_
  refine WR.seg hE 1 [] [0, 1] (Lo := [(0, .slice sb_l l.length sc_l), (1, .int .i64 k_)]) (obs := []) rfl (by kernel_rfl) trivial fun a hE => ?_
  refine WR.done rfl ?_
  refine Runs.seq ?_
  refine Runs.drawn mixed (by kernel_rfl) ?_
  replace H := H.drew
  obtain ⟨l1, el1, hm⟩ := bind_some hm
  obtain ⟨sb, q⟩ : ∃ z, rebase sb_l sc_l (Int.toNat 0) 3 = z := ⟨_, rfl⟩
  obtain ⟨sc, q1⟩ : ∃ z, sc_l - (Int.toNat 0) = z := ⟨_, rfl⟩
  obtain ⟨l2, el2, hm⟩ := bind_some hm
  obtain ⟨sb1, q2⟩ : ∃ z, rebase sb_l sc_l (Int.toNat (w64 (k_ + 1))) 3 = z := ⟨_, rfl⟩
  obtain ⟨sc1, q3⟩ : ∃ z, sc_l - (Int.toNat (w64 (k_ + 1))) = z := ⟨_, rfl⟩
  refine WQ.seg hE [1, 2, 3, 5, 6, 7, 8] [.slice sb l1.length sc, .slice sb1 l2.length sc1] [8, 13] (Lo := [(8, .slice sb l1.length sc), (13, .slice sb1 l2.length sc1)]) (obs := [.p (rebase sb_l sc_l 0 3 = sb), .p ((Int.toNat k_) - 0 = l1.length), .p (sc_l - 0 = sc), .p (0 ≤ (k_ : Int) ∧ (k_ : Int) ≤ ((sc_l : Nat) : Int)), .p (rebase sb_l sc_l (Int.toNat (w64 (k_ + 1))) 3 = sb1), .p (l.length - (Int.toNat (w64 (k_ + 1))) = l2.length), .p (sc_l - (Int.toNat (w64 (k_ + 1))) = sc1), .p (0 ≤ ((w64 (k_ + 1)) : Int) ∧ ((w64 (k_ + 1)) : Int) ≤ ((l.length : Nat) : Int))]) (by kernel_rfl) (by kernel_rfl) ⟨q, cut_len el1, q1, cut_cap el1 hC_l, q2, cut_len el2, q3, cut_bd0 el2, trivial⟩ fun a hE => ?_
  refine WQ.eff (j := 0) (obs := [.p (rebase sb_l sc_l (Int.toNat (w64 (k_ + 1))) 3 = sb1), .p (l.length - (Int.toNat (w64 (k_ + 1))) = l2.length), .p (sc_l - (Int.toNat (w64 (k_ + 1))) = sc1), .p (0 ≤ ((w64 (k_ + 1)) : Int) ∧ ((w64 (k_ + 1)) : Int) ≤ ((l.length : Nat) : Int)), .p (rebase sb_l sc_l 0 3 = sb), .p ((Int.toNat k_) - 0 = l1.length), .p (sc_l - 0 = sc), .p (0 ≤ (k_ : Int) ∧ (k_ : Int) ≤ ((sc_l : Nat) : Int))]) hE (by kernel_rfl) rfl rfl rfl rfl (by kernel_rfl) (OpTo.buildSl (T := 58) hE H thicketlaw9_held.enc_ok ([] : List thicketlaw9_held) rfl (fun _ => by kernel_rfl) rfl rfl rfl) ?_
  rintro _ w ⟨r, rfl, H⟩
  refine ⟨⟨q2, cut_len el2, q3, cut_bd0 el2, q, cut_len el1, q1, cut_cap el1 hC_l, trivial⟩, fun a hE => ?_⟩
  obtain ⟨l3, el3, hm⟩ := bind_some hm
  refine WQ.eff (j := 4) (obs := [.p (rebase sb_l sc_l (Int.toNat (w64 (k_ + 1))) 3 = sb1), .p (l.length - (Int.toNat (w64 (k_ + 1))) = l2.length), .p (sc_l - (Int.toNat (w64 (k_ + 1))) = sc1), .p (0 ≤ ((w64 (k_ + 1)) : Int) ∧ ((w64 (k_ + 1)) : Int) ≤ ((l.length : Nat) : Int))]) hE (by kernel_rfl) rfl rfl rfl rfl (by kernel_rfl) (OpTo.appendM el3 hE H thicketlaw9_held.enc_ok rfl rfl rfl rfl rfl rfl rfl rfl rfl rfl (SlRd.all (hX_l.cut' thicketlaw9_held.enc_ok el1 (hC_l) q) thicketlaw9_held.enc_ok H 1 rfl) rfl) ?_
  rintro _ w ⟨sb2, sc2, rfl, H⟩
  refine ⟨⟨q2, cut_len el2, q3, cut_bd0 el2, trivial⟩, fun a hE => ?_⟩
  obtain ⟨l4, el4, hm⟩ := bind_some hm
  refine WQ.eff (j := 9) (obs := []) hE (by kernel_rfl) rfl rfl rfl rfl (by kernel_rfl) (OpTo.appendM el4 hE H thicketlaw9_held.enc_ok rfl rfl rfl rfl rfl rfl rfl rfl rfl rfl (SlRd.all (hX_l.cut' thicketlaw9_held.enc_ok el2 (hC_l) q2) thicketlaw9_held.enc_ok H 1 rfl) rfl) ?_
  rintro _ w ⟨sb3, sc3, rfl, H⟩
  refine ⟨trivial, fun a hE => ?_⟩
  refine WQ.seg hE [10] [] [4] (Lo := [(4, .slice sb3 l4.length sc3)]) (obs := []) (by kernel_rfl) (by kernel_rfl) trivial fun a hE => ?_
  refine WQ.done (by kernel_rfl) ?_
  refine Runs.ret hE Tryz.func66 rfl rfl ?_
  cases hm
  exact ⟨sb3, sc3, rfl, H.t1.t1⟩

theorem thicketlaw9_world_fall_at0_ok {w0 w : World} {As : List HP} {k : Nat} {p_w_ : Nat} {al_w_ : thicketlaw9_world.A} {w_ : thicketlaw9_world} {at_ : Int} {by_ : Int} {t : Bool × thicketlaw9_world}  (hm : thicketlaw9_world_fall_at0 k w_ at_ by_ = some t) (H : St w0 (thicketlaw9_world.R p_w_ al_w_ w_ :: As) w) :
    CallsR Tryz.prog 32 #[.pointer (some ⟨p_w_, 0, none⟩), .int .i64 0, .int .i64 at_, .int .i64 by_] w fun v w' => ∃ (z_w__has0_b : Option Addr), ∃ (z_w__has0_c : Nat), v = .bool t.1 ∧ St w0 (thicketlaw9_world.R p_w_ (thicketlaw9_world.A.mk al_w_.a__p al_w_.a__a z_w__has0_b z_w__has0_c al_w_.has1_b al_w_.has1_c) t.2 :: As) w' := by
  rw [thicketlaw9_world_fall_at0] at hm
  refine enter (args := [.pointer (some ⟨p_w_, 0, none⟩), .int .i64 0, .int .i64 at_, .int .i64 by_]) Tryz.func32 rfl rfl rfl fun a hE => ?_
  refine Runs.seq ?_
  refine Runs.region ?_
  refine WR.seg hE 1 [] [0, 1, 2, 3] (Lo := [(0, .pointer (some ⟨p_w_, 0, none⟩)), (1, .int .i64 0), (2, .int .i64 at_), (3, .int .i64 by_)]) (obs := []) rfl (by kernel_rfl) trivial fun a hE => ?_
  refine WR.done rfl ?_
  refine Runs.seq ?_
  refine Runs.seq ?_
  refine Runs.region ?_
  replace H := thicketlaw9_world.open H
  refine WR.seg hE 8 [.slice al_w_.has0_b w_.has0.length al_w_.has0_c] [0, 1, 2, 3, 20] (Lo := [(0, .pointer (some ⟨p_w_, 0, none⟩)), (1, .int .i64 0), (2, .int .i64 at_), (3, .int .i64 by_), (20, .bool ((w_.has0.length : Int) == 0))]) (obs := [.p (0 ≤ (0 : Int) ∧ (0 : Int) < ((2 : Nat) : Int)), .cell ⟨p_w_, 3, none⟩ (.slice al_w_.has0_b w_.has0.length al_w_.has0_c)]) rfl (by kernel_rfl) ⟨⟨by decide, by decide⟩, H.cell 0 rfl rfl, trivial⟩ fun a hE => ?_
  refine WR.done rfl ?_
  refine Runs.cond hE rfl (fun c => ?_) (fun c => ?_)
  · replace hm := cond_t c hm
    refine Runs.seq ?_
    refine Runs.region ?_
    refine WR.seg hE 1 [] [8] (Lo := [(8, .bool true)]) (obs := []) rfl (by kernel_rfl) trivial fun a hE => ?_
    refine WR.done rfl ?_
    replace H := thicketlaw9_world.shut al_w_ (w_) H.t3.t3.t3.t3
    refine Runs.ret hE Tryz.func32 rfl rfl ?_
    cases hm
    exact ⟨al_w_.has0_b, al_w_.has0_c, rfl, H⟩
  · replace hm := cond_f c hm
    refine Runs.skip ?_
    refine Runs.seq ?_
    refine Runs.region ?_
    refine WR.seg hE 9 [.slice al_w_.has0_b w_.has0.length al_w_.has0_c] [0, 1, 3, 21, 29] (Lo := [(0, .pointer (some ⟨p_w_, 0, none⟩)), (1, .int .i64 0), (3, .int .i64 by_), (21, .int .i64 at_), (29, .int .i64 (w64 ((w_.has0.length : Int) - 1)))]) (obs := [.p (0 ≤ (0 : Int) ∧ (0 : Int) < ((2 : Nat) : Int)), .cell ⟨p_w_, 3, none⟩ (.slice al_w_.has0_b w_.has0.length al_w_.has0_c)]) rfl (by kernel_rfl) ⟨⟨by decide, by decide⟩, H.cell 0 rfl rfl, trivial⟩ fun a hE => ?_
    obtain ⟨t_, et_, hm⟩ := bind_some hm
    refine WR.eff hE rfl rfl rfl rfl (OpTo.fn hE rfl rfl Tryz.call16 (thicketbook_Within_ok et_ H)) ?_
    rintro _ w ⟨rfl, H⟩ a hE
    refine WR.seg hE 11 [] [0, 1, 3, 9] (Lo := [(0, .pointer (some ⟨p_w_, 0, none⟩)), (1, .int .i64 0), (3, .int .i64 by_), (9, .int .i64 t_)]) (obs := []) rfl (by kernel_rfl) trivial fun a hE => ?_
    refine WR.done rfl ?_
    refine Runs.seq ?_
    refine Runs.region ?_
    obtain ⟨x, ex, hm⟩ := bind_some hm
    obtain ⟨b, o, hs, hb⟩ := SlRd.base (sl_rd 58 thicketlaw9_held.enc 3 _ _ _) thicketlaw9_held.enc_ok H 2 rfl ex
    refine WR.seg hE 9 [.slice al_w_.has0_b w_.has0.length al_w_.has0_c, .pointer (some ⟨b, o, none⟩), .int .i64 x.cell, .int .i64 x.e.Key, .int .i64 x.e.Serial] [0, 1, 3, 9, 39] (Lo := [(0, .pointer (some ⟨p_w_, 0, none⟩)), (1, .int .i64 0), (3, .int .i64 by_), (9, .int .i64 t_), (39, .agg #[.int .i64 x.cell, .int .i64 x.e.Key, .int .i64 x.e.Serial])]) (obs := [.p (0 ≤ (0 : Int) ∧ (0 : Int) < ((2 : Nat) : Int)), .cell ⟨p_w_, 3, none⟩ (.slice al_w_.has0_b w_.has0.length al_w_.has0_c), .p ((al_w_.has0_b : Option Addr) = some ⟨b, o, none⟩), .p (0 ≤ (t_ : Int) ∧ (t_ : Int) < ((w_.has0.length : Nat) : Int)), .cell ⟨b, o + (Int.toNat t_) * 3, none⟩ (.int .i64 x.cell), .cell ⟨b, o + (Int.toNat t_) * 3 + 1, none⟩ (.int .i64 x.e.Key), .cell ⟨b, o + (Int.toNat t_) * 3 + 2, none⟩ (.int .i64 x.e.Serial)]) rfl (by kernel_rfl) ⟨⟨by decide, by decide⟩, H.cell 0 rfl rfl, hs, hb, SlRd.cells (sl_rd 58 thicketlaw9_held.enc 3 _ _ _) thicketlaw9_held.enc_ok H 2 rfl hs ex 0 _ rfl, SlRd.cells (sl_rd 58 thicketlaw9_held.enc 3 _ _ _) thicketlaw9_held.enc_ok H 2 rfl hs ex 1 _ rfl, SlRd.cells (sl_rd 58 thicketlaw9_held.enc 3 _ _ _) thicketlaw9_held.enc_ok H 2 rfl hs ex 2 _ rfl, trivial⟩ fun a hE => ?_
    refine WR.eff hE rfl rfl rfl rfl (OpTo.new hE H [] (.cells #[.int .i64 0, .int .i64 0, .int .i64 0] 58 (0, 0)) (fun r => .pointer (some ⟨r, 0, none⟩)) (obs := []) rfl (fun _ => by kernel_rfl) trivial) ?_
    rintro _ w ⟨r, rfl, H⟩ a hE
    refine WR.eff0 hE rfl rfl rfl (OpTo.store hE H rfl rfl rfl rfl rfl rfl (Nat.le_of_ble_eq_true rfl)) ?_
    rintro _ w H a hE
    refine WR.done rfl ?_
    refine Runs.seq ?_
    refine Runs.region ?_
    refine WR.seg hE 7 [.int .i64 x.e.Key] [0, 1, 9, 10, 44, 46] (Lo := [(0, .pointer (some ⟨p_w_, 0, none⟩)), (1, .int .i64 0), (9, .int .i64 t_), (10, .pointer (some ⟨r, 0, none⟩)), (44, .int .i64 (if by_ < x.e.Key then by_ else x.e.Key)), (46, .pointer (some ⟨r, 1, none⟩))]) (obs := [.cell ⟨r, 1, none⟩ (.int .i64 x.e.Key)]) rfl (by kernel_rfl) ⟨H.cell 0 rfl rfl, trivial⟩ fun a hE => ?_
    refine WR.eff0 hE rfl rfl rfl (OpTo.store hE H rfl rfl rfl rfl rfl rfl (Nat.le_of_ble_eq_true rfl)) ?_
    rintro _ w H a hE
    refine WR.done rfl ?_
    refine Runs.seq ?_
    refine Runs.seq ?_
    refine Runs.drawn mixed (by kernel_rfl) ?_
    replace H := H.drew
    refine WQ.seg hE [0, 1, 2, 3, 4, 5, 6, 7, 8] [.pointer (some ⟨al_w_.a__p, 0, none⟩), .int .i64 x.cell, .int .i64 (if by_ < x.e.Key then by_ else x.e.Key)] [0, 1, 9, 10, 50, 52, 55] (Lo := [(0, .pointer (some ⟨p_w_, 0, none⟩)), (1, .int .i64 0), (9, .int .i64 t_), (10, .pointer (some ⟨r, 0, none⟩)), (50, .pointer (some ⟨al_w_.a__p, 0, none⟩)), (52, .int .i64 x.cell), (55, .int .i64 (if by_ < x.e.Key then by_ else x.e.Key))]) (obs := [.cell ⟨p_w_, 0, none⟩ (.pointer (some ⟨al_w_.a__p, 0, none⟩)), .cell ⟨r, 0, none⟩ (.int .i64 x.cell), .cell ⟨r, 1, none⟩ (.int .i64 (if by_ < x.e.Key then by_ else x.e.Key))]) (by kernel_rfl) (by kernel_rfl) ⟨H.cell 1 rfl rfl, H.cell 0 rfl rfl, H.cell 0 rfl rfl, trivial⟩ fun a hE => ?_
    obtain ⟨t_1, et_1, hm⟩ := bind_some hm
    refine WQ.eff (j := 9) (obs := []) hE (by kernel_rfl) rfl rfl rfl rfl (by kernel_rfl) (OpTo.fn hE rfl rfl Tryz.call71 (item_Lower_ok et_1 H.t2)) ?_
    rintro _ w ⟨rfl, H⟩
    refine ⟨trivial, fun a hE => ?_⟩
    refine WQ.seg hE [10] [] [0, 1, 9, 10, 57] (Lo := [(0, .pointer (some ⟨p_w_, 0, none⟩)), (1, .int .i64 0), (9, .int .i64 t_), (10, .pointer (some ⟨r, 0, none⟩)), (57, .bool (!t_1.1))]) (obs := []) (by kernel_rfl) (by kernel_rfl) trivial fun a hE => ?_
    refine WQ.done (by kernel_rfl) ?_
    refine Runs.cond hE rfl (fun c => ?_) (fun c => ?_)
    · replace hm := cond_t c hm
      refine Runs.seq ?_
      refine Runs.region ?_
      refine WR.seg hE 1 [] [8] (Lo := [(8, .bool false)]) (obs := []) rfl (by kernel_rfl) trivial fun a hE => ?_
      refine WR.done rfl ?_
      replace H := thicketlaw9_world.shut al_w_ (thicketlaw9_world.mk t_1.2 w_.root0 w_.root1 w_.has0 w_.has1 w_.next w_.spent w_.most) H.t4.t4.t2.t4
      refine Runs.ret hE Tryz.func32 rfl rfl ?_
      cases hm
      exact ⟨al_w_.has0_b, al_w_.has0_c, rfl, H.x1⟩
    · replace hm := cond_f c hm
      refine Runs.skip ?_
      refine Runs.seq ?_
      refine Runs.region ?_
      refine WR.seg hE 4 [.pointer (some ⟨al_w_.a__p, 0, none⟩)] [0, 1, 9, 10, 61] (Lo := [(0, .pointer (some ⟨p_w_, 0, none⟩)), (1, .int .i64 0), (9, .int .i64 t_), (10, .pointer (some ⟨r, 0, none⟩)), (61, .pointer (some ⟨al_w_.a__p, 0, none⟩))]) (obs := [.cell ⟨p_w_, 0, none⟩ (.pointer (some ⟨al_w_.a__p, 0, none⟩))]) rfl (by kernel_rfl) ⟨H.cell 2 rfl rfl, trivial⟩ fun a hE => ?_
      obtain ⟨t_2, et_2, hm⟩ := bind_some hm
      refine WR.eff hE rfl rfl rfl rfl (OpTo.fn hE rfl rfl Tryz.call18 (arena_Arena_Meter_ok et_2 H)) ?_
      rintro _ w ⟨rfl, H⟩ a hE
      replace H := arena_Arena.open H
      obtain ⟨t_3, et_3, hm⟩ := bind_some hm
      refine WR.eff hE rfl rfl rfl rfl (OpTo.fn hE rfl rfl Tryz.call19 (meter_Meter_Steps_ok et_3 H.t3)) ?_
      rintro _ w ⟨rfl, H⟩ a hE
      refine WR.seg hE 7 [] [0, 1, 9, 10, 11] (Lo := [(0, .pointer (some ⟨p_w_, 0, none⟩)), (1, .int .i64 0), (9, .int .i64 t_), (10, .pointer (some ⟨r, 0, none⟩)), (11, .int .i64 t_3)]) (obs := []) rfl (by kernel_rfl) trivial fun a hE => ?_
      refine WR.done rfl ?_
      refine Runs.seq ?_
      refine Runs.drawn mixed (by kernel_rfl) ?_
      replace H := H.drew
      refine WQ.seg hE [0, 1, 2, 3, 4, 5, 6, 7, 8, 9, 10, 11] [.pointer (some ⟨al_w_.a__p, 0, none⟩), .int .i64 w_.root0, .int .i64 x.cell] [0, 1, 9, 10, 11, 67, 73, 75] (Lo := [(0, .pointer (some ⟨p_w_, 0, none⟩)), (1, .int .i64 0), (9, .int .i64 t_), (10, .pointer (some ⟨r, 0, none⟩)), (11, .int .i64 t_3), (67, .pointer (some ⟨al_w_.a__p, 0, none⟩)), (73, .int .i64 w_.root0), (75, .int .i64 x.cell)]) (obs := [.cell ⟨p_w_, 0, none⟩ (.pointer (some ⟨al_w_.a__p, 0, none⟩)), .p (0 ≤ (0 : Int) ∧ (0 : Int) < ((2 : Nat) : Int)), .cell ⟨p_w_, 1, none⟩ (.int .i64 w_.root0), .cell ⟨r, 0, none⟩ (.int .i64 x.cell)]) (by kernel_rfl) (by kernel_rfl) ⟨H.cell 5 rfl rfl, ⟨by decide, by decide⟩, H.cell 5 rfl rfl, H.cell 4 rfl rfl, trivial⟩ fun a hE => ?_
      replace H := arena_Arena.shut al_w_.a__a (t_1.2) H.t3.t3.t3
      obtain ⟨t_4, et_4, hm⟩ := bind_some hm
      refine WQ.eff (j := 12) (obs := []) hE (by kernel_rfl) rfl rfl rfl rfl (by kernel_rfl) (OpTo.fn hE rfl rfl Tryz.call72 (binomial_Fall_ok et_4 H)) ?_
      rintro _ w ⟨rfl, H⟩
      refine ⟨trivial, fun a hE => ?_⟩
      refine WQ.seg hE [13] [] [0, 1, 9, 10, 11, 12] (Lo := [(0, .pointer (some ⟨p_w_, 0, none⟩)), (1, .int .i64 0), (9, .int .i64 t_), (10, .pointer (some ⟨r, 0, none⟩)), (11, .int .i64 t_3), (12, .int .i64 t_4.1)]) (obs := []) (by kernel_rfl) (by kernel_rfl) trivial fun a hE => ?_
      refine WQ.done (by kernel_rfl) ?_
      refine Runs.seq ?_
      refine Runs.seq ?_
      refine Runs.region ?_
      refine WR.seg hE 9 [.slice al_w_.has0_b w_.has0.length al_w_.has0_c] [0, 1, 9, 10, 12, 77, 78, 85] (Lo := [(0, .pointer (some ⟨p_w_, 0, none⟩)), (1, .int .i64 0), (9, .int .i64 t_), (10, .pointer (some ⟨r, 0, none⟩)), (12, .int .i64 t_4.1), (77, .pointer (some ⟨p_w_, 0, none⟩)), (78, .int .i64 t_3), (85, .int .i64 (w_.has0.length : Int))]) (obs := [.p (0 ≤ (0 : Int) ∧ (0 : Int) < ((2 : Nat) : Int)), .cell ⟨p_w_, 3, none⟩ (.slice al_w_.has0_b w_.has0.length al_w_.has0_c)]) rfl (by kernel_rfl) ⟨⟨by decide, by decide⟩, H.cell 2 rfl rfl, trivial⟩ fun a hE => ?_
      replace H := thicketlaw9_world.shut al_w_ (thicketlaw9_world.mk t_4.2 w_.root0 w_.root1 w_.has0 w_.has1 w_.next w_.spent w_.most) H.t4.t4.t2.t4
      obtain ⟨t_5, et_5, hm⟩ := bind_some hm
      refine WR.eff hE rfl rfl rfl rfl (OpTo.fn hE rfl rfl Tryz.call21 (thicketlaw9_world_cost_ok et_5 H)) ?_
      rintro _ w ⟨rfl, hf, hf1, H⟩ a hE
      refine WR.seg hE 11 [] [0, 1, 9, 10, 12, 87] (Lo := [(0, .pointer (some ⟨p_w_, 0, none⟩)), (1, .int .i64 0), (9, .int .i64 t_), (10, .pointer (some ⟨r, 0, none⟩)), (12, .int .i64 t_4.1), (87, .bool (!t_5.1))]) (obs := []) rfl (by kernel_rfl) trivial fun a hE => ?_
      refine WR.done rfl ?_
      refine Runs.cond hE rfl (fun c => ?_) (fun c => ?_)
      · replace hm := cond_t c hm
        refine Runs.seq ?_
        refine Runs.region ?_
        refine WR.seg hE 1 [] [8] (Lo := [(8, .bool false)]) (obs := []) rfl (by kernel_rfl) trivial fun a hE => ?_
        refine WR.done rfl ?_
        refine Runs.ret hE Tryz.func32 rfl rfl ?_
        cases hm
        exact ⟨al_w_.has0_b, al_w_.has0_c, rfl, H.x1⟩
      · replace hm := cond_f c hm
        refine Runs.skip ?_
        refine Runs.seq ?_
        refine Runs.region ?_
        refine WR.seg hE 6 [] [0, 1, 9, 10, 90, 93] (Lo := [(0, .pointer (some ⟨p_w_, 0, none⟩)), (1, .int .i64 0), (9, .int .i64 t_), (10, .pointer (some ⟨r, 0, none⟩)), (90, .int .i64 t_4.1), (93, .pointer (some ⟨p_w_, 1, none⟩))]) (obs := [.p (0 ≤ (0 : Int) ∧ (0 : Int) < ((2 : Nat) : Int))]) rfl (by kernel_rfl) ⟨⟨by decide, by decide⟩, trivial⟩ fun a hE => ?_
        replace H := thicketlaw9_world.open H
        try rw [hf] at H
        try rw [hf1] at H
        try dsimp only at H
        refine WR.eff0 hE rfl rfl rfl (OpTo.store hE H rfl rfl rfl rfl rfl rfl (Nat.le_of_ble_eq_true rfl)) ?_
        rintro _ w H a hE
        refine WR.done rfl ?_
        refine Runs.seq ?_
        replace H := thicketlaw9_world.shut al_w_ (thicketlaw9_world.mk t_5.2.a_ t_4.1 t_5.2.root1 w_.has0 w_.has1 t_5.2.next t_5.2.spent t_5.2.most) H.t3.t3.t3.t3
        obtain ⟨t_6, et_6, hm⟩ := bind_some hm
        obtain ⟨l, el, hm⟩ := bind_some hm
        refine Runs.join (fun a w => ∃ (z : Option Addr), ∃ (z1 : Nat), EnvOk 110 a [] ∧ St w0 (thicketlaw9_world.R p_w_ (thicketlaw9_world.A.mk al_w_.a__p al_w_.a__a z z1 al_w_.has1_b al_w_.has1_c) (thicketlaw9_world.mk t_5.2.a_ t_4.1 t_5.2.root1 l w_.has1 t_5.2.next t_5.2.spent t_5.2.most) :: As) w) (fun hk => ?_) ?_
        ·
          refine Runs.drawn mixed (by kernel_rfl) ?_
          replace H := H.drew
          replace H := thicketlaw9_world.open H
          try dsimp only at H
          refine WQ.seg hE [0, 1, 2, 3, 4, 5, 6, 7, 8, 10, 13, 14] [.slice al_w_.has0_b w_.has0.length al_w_.has0_c, .int .i64 x.cell, .int .i64 (if by_ < x.e.Key then by_ else x.e.Key), .int .i64 x.e.Serial] [95, 101, 102, 104, 108] (Lo := [(95, .int .i64 0), (101, .slice al_w_.has0_b w_.has0.length al_w_.has0_c), (102, .int .i64 t_), (104, .agg #[.int .i64 x.cell, .int .i64 (if by_ < x.e.Key then by_ else x.e.Key), .int .i64 x.e.Serial]), (108, .pointer (some ⟨p_w_, 3, none⟩))]) (obs := [.p (0 ≤ (0 : Int) ∧ (0 : Int) < ((2 : Nat) : Int)), .cell ⟨p_w_, 3, none⟩ (.slice al_w_.has0_b w_.has0.length al_w_.has0_c), .cell ⟨r, 0, none⟩ (.int .i64 x.cell), .cell ⟨r, 1, none⟩ (.int .i64 (if by_ < x.e.Key then by_ else x.e.Key)), .cell ⟨r, 2, none⟩ (.int .i64 x.e.Serial)]) (by kernel_rfl) (by kernel_rfl) ⟨⟨by decide, by decide⟩, H.cell 0 rfl rfl, H.cell 4 rfl rfl, H.cell 4 rfl rfl, H.cell 4 rfl rfl, trivial⟩ fun a hE => ?_
          refine WQ.act2 9 11 (by kernel_rfl) ?_ ?_
          ·
            replace H := H.t2
            refine AQ.eff (j := 9) (obs := [.cell ⟨r, 0, none⟩ (.int .i64 x.cell), .cell ⟨r, 1, none⟩ (.int .i64 (if by_ < x.e.Key then by_ else x.e.Key)), .cell ⟨r, 2, none⟩ (.int .i64 x.e.Serial)]) hE rfl rfl rfl rfl (by kernel_rfl) (OpTo.fn hE rfl rfl Tryz.call66 (thicketlaw9_without_ok (hX_l := (sl_rd 58 thicketlaw9_held.enc 3 _ _ _)) (hC_l := (H.slCap 0 rfl).1) et_6 H)) ?_
            rintro _ w ⟨sb2, sc2, rfl, H⟩
            refine ⟨⟨H.cell 5 rfl rfl, H.cell 5 rfl rfl, H.cell 5 rfl rfl, trivial⟩, fun a hE => ?_⟩
            refine WQ.eff (j := 11) (obs := []) hE (by kernel_rfl) rfl rfl rfl rfl (by kernel_rfl) (OpTo.buildSl (T := 58) hE H thicketlaw9_held.enc_ok ([thicketlaw9_held.mk x.cell (api_Entry.mk (if by_ < x.e.Key then by_ else x.e.Key) x.e.Serial)] : List thicketlaw9_held) rfl (fun _ => by kernel_rfl) rfl rfl rfl) ?_
            rintro _ w ⟨r2, rfl, H⟩
            refine ⟨trivial, fun a hE => ?_⟩
            replace H := H.t1
            refine WQ.eff (j := 12) (obs := []) hE (by kernel_rfl) rfl rfl rfl rfl (by kernel_rfl) (OpTo.appendM el hE H thicketlaw9_held.enc_ok rfl rfl rfl rfl rfl rfl rfl rfl rfl rfl (SlRd.all (sl_rd 58 thicketlaw9_held.enc 3 _ _ _) thicketlaw9_held.enc_ok H 1 rfl) rfl) ?_
            rintro _ w ⟨sb3, sc3, rfl, H⟩
            refine ⟨trivial, fun a hE => ?_⟩
            refine WQ.seg hE [15] [] [106, 109] (Lo := [(106, .slice sb3 l.length sc3), (109, .pointer (some ⟨p_w_, 3, none⟩))]) (obs := [.p (0 ≤ (0 : Int) ∧ (0 : Int) < ((2 : Nat) : Int))]) (by kernel_rfl) (by kernel_rfl) ⟨⟨by decide, by decide⟩, trivial⟩ fun a hE => ?_
            refine WQ.eff0 (j := 16) (obs := []) hE (by kernel_rfl) rfl rfl rfl (by kernel_rfl) (OpTo.store hE H.t3 rfl rfl rfl rfl rfl rfl (Nat.le_of_ble_eq_true rfl)) ?_
            rintro _ w H
            refine ⟨trivial, fun a hE => ?_⟩
            refine WQ.done (by kernel_rfl) ?_
            replace H := thicketlaw9_world.shut (thicketlaw9_world.A.mk al_w_.a__p al_w_.a__a sb3 sc3 al_w_.has1_b al_w_.has1_c) (thicketlaw9_world.mk t_5.2.a_ t_4.1 t_5.2.root1 l w_.has1 t_5.2.next t_5.2.spent t_5.2.most) H.t5.t2.t5.t3
            exact hk _ _ ⟨sb3, sc3, hE.sel [] (by kernel_rfl), H.x3.x2.x1⟩
          ·
            refine AQ.eff (j := 11) (obs := [.cell ⟨p_w_, 3, none⟩ (.slice al_w_.has0_b w_.has0.length al_w_.has0_c), .p (0 ≤ (0 : Int) ∧ (0 : Int) < ((2 : Nat) : Int))]) hE rfl rfl rfl rfl (by kernel_rfl) (OpTo.buildSl (T := 58) hE H thicketlaw9_held.enc_ok ([thicketlaw9_held.mk x.cell (api_Entry.mk (if by_ < x.e.Key then by_ else x.e.Key) x.e.Serial)] : List thicketlaw9_held) rfl (fun _ => by kernel_rfl) rfl rfl rfl) ?_
            rintro _ w ⟨r3, rfl, H⟩
            refine ⟨⟨H.cell 1 rfl rfl, ⟨by decide, by decide⟩, trivial⟩, fun a hE => ?_⟩
            replace H := H.t3
            refine WQ.eff (j := 9) (obs := []) hE (by kernel_rfl) rfl rfl rfl rfl (by kernel_rfl) (OpTo.fn hE rfl rfl Tryz.call66 (thicketlaw9_without_ok (hX_l := (sl_rd 58 thicketlaw9_held.enc 3 _ _ _)) (hC_l := (H.slCap 0 rfl).1) et_6 H)) ?_
            rintro _ w ⟨sb4, sc4, rfl, H⟩
            refine ⟨trivial, fun a hE => ?_⟩
            refine WQ.eff (j := 12) (obs := []) hE (by kernel_rfl) rfl rfl rfl rfl (by kernel_rfl) (OpTo.appendM el hE H thicketlaw9_held.enc_ok rfl rfl rfl rfl rfl rfl rfl rfl rfl rfl (SlRd.all (sl_rd 58 thicketlaw9_held.enc 3 _ _ _) thicketlaw9_held.enc_ok H 2 rfl) rfl) ?_
            rintro _ w ⟨sb5, sc5, rfl, H⟩
            refine ⟨trivial, fun a hE => ?_⟩
            refine WQ.seg hE [15] [] [106, 109] (Lo := [(106, .slice sb5 l.length sc5), (109, .pointer (some ⟨p_w_, 3, none⟩))]) (obs := [.p (0 ≤ (0 : Int) ∧ (0 : Int) < ((2 : Nat) : Int))]) (by kernel_rfl) (by kernel_rfl) ⟨⟨by decide, by decide⟩, trivial⟩ fun a hE => ?_
            refine WQ.eff0 (j := 16) (obs := []) hE (by kernel_rfl) rfl rfl rfl (by kernel_rfl) (OpTo.store hE H.t3 rfl rfl rfl rfl rfl rfl (Nat.le_of_ble_eq_true rfl)) ?_
            rintro _ w H
            refine ⟨trivial, fun a hE => ?_⟩
            refine WQ.done (by kernel_rfl) ?_
            replace H := thicketlaw9_world.shut (thicketlaw9_world.A.mk al_w_.a__p al_w_.a__a sb5 sc5 al_w_.has1_b al_w_.has1_c) (thicketlaw9_world.mk t_5.2.a_ t_4.1 t_5.2.root1 l w_.has1 t_5.2.next t_5.2.spent t_5.2.most) H.t5.t2.t5.t3
            exact hk _ _ ⟨sb5, sc5, hE.sel [] (by kernel_rfl), H.x3.x2.x1⟩
        rintro a w ⟨z, z1, hE, H⟩
        refine Runs.seq ?_
        refine Runs.region ?_
        refine WR.seg hE 1 [] [8] (Lo := [(8, .bool true)]) (obs := []) rfl (by kernel_rfl) trivial fun a hE => ?_
        refine WR.done rfl ?_
        refine Runs.ret hE Tryz.func32 rfl rfl ?_
        cases hm
        exact ⟨z, z1, rfl, H⟩

theorem thicketlaw9_world_fall_at1_ok {w0 w : World} {As : List HP} {k : Nat} {p_w_ : Nat} {al_w_ : thicketlaw9_world.A} {w_ : thicketlaw9_world} {at_ : Int} {by_ : Int} {t : Bool × thicketlaw9_world}  (hm : thicketlaw9_world_fall_at1 k w_ at_ by_ = some t) (H : St w0 (thicketlaw9_world.R p_w_ al_w_ w_ :: As) w) :
    CallsR Tryz.prog 32 #[.pointer (some ⟨p_w_, 0, none⟩), .int .i64 1, .int .i64 at_, .int .i64 by_] w fun v w' => ∃ (z_w__has1_b : Option Addr), ∃ (z_w__has1_c : Nat), v = .bool t.1 ∧ St w0 (thicketlaw9_world.R p_w_ (thicketlaw9_world.A.mk al_w_.a__p al_w_.a__a al_w_.has0_b al_w_.has0_c z_w__has1_b z_w__has1_c) t.2 :: As) w' := by
  rw [thicketlaw9_world_fall_at1] at hm
  refine enter (args := [.pointer (some ⟨p_w_, 0, none⟩), .int .i64 1, .int .i64 at_, .int .i64 by_]) Tryz.func32 rfl rfl rfl fun a hE => ?_
  refine Runs.seq ?_
  refine Runs.region ?_
  refine WR.seg hE 1 [] [0, 1, 2, 3] (Lo := [(0, .pointer (some ⟨p_w_, 0, none⟩)), (1, .int .i64 1), (2, .int .i64 at_), (3, .int .i64 by_)]) (obs := []) rfl (by kernel_rfl) trivial fun a hE => ?_
  refine WR.done rfl ?_
  refine Runs.seq ?_
  refine Runs.seq ?_
  refine Runs.region ?_
  replace H := thicketlaw9_world.open H
  refine WR.seg hE 8 [.slice al_w_.has1_b w_.has1.length al_w_.has1_c] [0, 1, 2, 3, 20] (Lo := [(0, .pointer (some ⟨p_w_, 0, none⟩)), (1, .int .i64 1), (2, .int .i64 at_), (3, .int .i64 by_), (20, .bool ((w_.has1.length : Int) == 0))]) (obs := [.p (0 ≤ (1 : Int) ∧ (1 : Int) < ((2 : Nat) : Int)), .cell ⟨p_w_, 4, none⟩ (.slice al_w_.has1_b w_.has1.length al_w_.has1_c)]) rfl (by kernel_rfl) ⟨⟨by decide, by decide⟩, H.cell 0 rfl rfl, trivial⟩ fun a hE => ?_
  refine WR.done rfl ?_
  refine Runs.cond hE rfl (fun c => ?_) (fun c => ?_)
  · replace hm := cond_t c hm
    refine Runs.seq ?_
    refine Runs.region ?_
    refine WR.seg hE 1 [] [8] (Lo := [(8, .bool true)]) (obs := []) rfl (by kernel_rfl) trivial fun a hE => ?_
    refine WR.done rfl ?_
    replace H := thicketlaw9_world.shut al_w_ (w_) H.t3.t3.t3.t3
    refine Runs.ret hE Tryz.func32 rfl rfl ?_
    cases hm
    exact ⟨al_w_.has1_b, al_w_.has1_c, rfl, H⟩
  · replace hm := cond_f c hm
    refine Runs.skip ?_
    refine Runs.seq ?_
    refine Runs.region ?_
    refine WR.seg hE 9 [.slice al_w_.has1_b w_.has1.length al_w_.has1_c] [0, 1, 3, 21, 29] (Lo := [(0, .pointer (some ⟨p_w_, 0, none⟩)), (1, .int .i64 1), (3, .int .i64 by_), (21, .int .i64 at_), (29, .int .i64 (w64 ((w_.has1.length : Int) - 1)))]) (obs := [.p (0 ≤ (1 : Int) ∧ (1 : Int) < ((2 : Nat) : Int)), .cell ⟨p_w_, 4, none⟩ (.slice al_w_.has1_b w_.has1.length al_w_.has1_c)]) rfl (by kernel_rfl) ⟨⟨by decide, by decide⟩, H.cell 0 rfl rfl, trivial⟩ fun a hE => ?_
    obtain ⟨t_, et_, hm⟩ := bind_some hm
    refine WR.eff hE rfl rfl rfl rfl (OpTo.fn hE rfl rfl Tryz.call16 (thicketbook_Within_ok et_ H)) ?_
    rintro _ w ⟨rfl, H⟩ a hE
    refine WR.seg hE 11 [] [0, 1, 3, 9] (Lo := [(0, .pointer (some ⟨p_w_, 0, none⟩)), (1, .int .i64 1), (3, .int .i64 by_), (9, .int .i64 t_)]) (obs := []) rfl (by kernel_rfl) trivial fun a hE => ?_
    refine WR.done rfl ?_
    refine Runs.seq ?_
    refine Runs.region ?_
    obtain ⟨x, ex, hm⟩ := bind_some hm
    obtain ⟨b, o, hs, hb⟩ := SlRd.base (sl_rd 58 thicketlaw9_held.enc 3 _ _ _) thicketlaw9_held.enc_ok H 3 rfl ex
    refine WR.seg hE 9 [.slice al_w_.has1_b w_.has1.length al_w_.has1_c, .pointer (some ⟨b, o, none⟩), .int .i64 x.cell, .int .i64 x.e.Key, .int .i64 x.e.Serial] [0, 1, 3, 9, 39] (Lo := [(0, .pointer (some ⟨p_w_, 0, none⟩)), (1, .int .i64 1), (3, .int .i64 by_), (9, .int .i64 t_), (39, .agg #[.int .i64 x.cell, .int .i64 x.e.Key, .int .i64 x.e.Serial])]) (obs := [.p (0 ≤ (1 : Int) ∧ (1 : Int) < ((2 : Nat) : Int)), .cell ⟨p_w_, 4, none⟩ (.slice al_w_.has1_b w_.has1.length al_w_.has1_c), .p ((al_w_.has1_b : Option Addr) = some ⟨b, o, none⟩), .p (0 ≤ (t_ : Int) ∧ (t_ : Int) < ((w_.has1.length : Nat) : Int)), .cell ⟨b, o + (Int.toNat t_) * 3, none⟩ (.int .i64 x.cell), .cell ⟨b, o + (Int.toNat t_) * 3 + 1, none⟩ (.int .i64 x.e.Key), .cell ⟨b, o + (Int.toNat t_) * 3 + 2, none⟩ (.int .i64 x.e.Serial)]) rfl (by kernel_rfl) ⟨⟨by decide, by decide⟩, H.cell 0 rfl rfl, hs, hb, SlRd.cells (sl_rd 58 thicketlaw9_held.enc 3 _ _ _) thicketlaw9_held.enc_ok H 3 rfl hs ex 0 _ rfl, SlRd.cells (sl_rd 58 thicketlaw9_held.enc 3 _ _ _) thicketlaw9_held.enc_ok H 3 rfl hs ex 1 _ rfl, SlRd.cells (sl_rd 58 thicketlaw9_held.enc 3 _ _ _) thicketlaw9_held.enc_ok H 3 rfl hs ex 2 _ rfl, trivial⟩ fun a hE => ?_
    refine WR.eff hE rfl rfl rfl rfl (OpTo.new hE H [] (.cells #[.int .i64 0, .int .i64 0, .int .i64 0] 58 (0, 0)) (fun r => .pointer (some ⟨r, 0, none⟩)) (obs := []) rfl (fun _ => by kernel_rfl) trivial) ?_
    rintro _ w ⟨r, rfl, H⟩ a hE
    refine WR.eff0 hE rfl rfl rfl (OpTo.store hE H rfl rfl rfl rfl rfl rfl (Nat.le_of_ble_eq_true rfl)) ?_
    rintro _ w H a hE
    refine WR.done rfl ?_
    refine Runs.seq ?_
    refine Runs.region ?_
    refine WR.seg hE 7 [.int .i64 x.e.Key] [0, 1, 9, 10, 44, 46] (Lo := [(0, .pointer (some ⟨p_w_, 0, none⟩)), (1, .int .i64 1), (9, .int .i64 t_), (10, .pointer (some ⟨r, 0, none⟩)), (44, .int .i64 (if by_ < x.e.Key then by_ else x.e.Key)), (46, .pointer (some ⟨r, 1, none⟩))]) (obs := [.cell ⟨r, 1, none⟩ (.int .i64 x.e.Key)]) rfl (by kernel_rfl) ⟨H.cell 0 rfl rfl, trivial⟩ fun a hE => ?_
    refine WR.eff0 hE rfl rfl rfl (OpTo.store hE H rfl rfl rfl rfl rfl rfl (Nat.le_of_ble_eq_true rfl)) ?_
    rintro _ w H a hE
    refine WR.done rfl ?_
    refine Runs.seq ?_
    refine Runs.seq ?_
    refine Runs.drawn mixed (by kernel_rfl) ?_
    replace H := H.drew
    refine WQ.seg hE [0, 1, 2, 3, 4, 5, 6, 7, 8] [.pointer (some ⟨al_w_.a__p, 0, none⟩), .int .i64 x.cell, .int .i64 (if by_ < x.e.Key then by_ else x.e.Key)] [0, 1, 9, 10, 50, 52, 55] (Lo := [(0, .pointer (some ⟨p_w_, 0, none⟩)), (1, .int .i64 1), (9, .int .i64 t_), (10, .pointer (some ⟨r, 0, none⟩)), (50, .pointer (some ⟨al_w_.a__p, 0, none⟩)), (52, .int .i64 x.cell), (55, .int .i64 (if by_ < x.e.Key then by_ else x.e.Key))]) (obs := [.cell ⟨p_w_, 0, none⟩ (.pointer (some ⟨al_w_.a__p, 0, none⟩)), .cell ⟨r, 0, none⟩ (.int .i64 x.cell), .cell ⟨r, 1, none⟩ (.int .i64 (if by_ < x.e.Key then by_ else x.e.Key))]) (by kernel_rfl) (by kernel_rfl) ⟨H.cell 1 rfl rfl, H.cell 0 rfl rfl, H.cell 0 rfl rfl, trivial⟩ fun a hE => ?_
    obtain ⟨t_1, et_1, hm⟩ := bind_some hm
    refine WQ.eff (j := 9) (obs := []) hE (by kernel_rfl) rfl rfl rfl rfl (by kernel_rfl) (OpTo.fn hE rfl rfl Tryz.call71 (item_Lower_ok et_1 H.t2)) ?_
    rintro _ w ⟨rfl, H⟩
    refine ⟨trivial, fun a hE => ?_⟩
    refine WQ.seg hE [10] [] [0, 1, 9, 10, 57] (Lo := [(0, .pointer (some ⟨p_w_, 0, none⟩)), (1, .int .i64 1), (9, .int .i64 t_), (10, .pointer (some ⟨r, 0, none⟩)), (57, .bool (!t_1.1))]) (obs := []) (by kernel_rfl) (by kernel_rfl) trivial fun a hE => ?_
    refine WQ.done (by kernel_rfl) ?_
    refine Runs.cond hE rfl (fun c => ?_) (fun c => ?_)
    · replace hm := cond_t c hm
      refine Runs.seq ?_
      refine Runs.region ?_
      refine WR.seg hE 1 [] [8] (Lo := [(8, .bool false)]) (obs := []) rfl (by kernel_rfl) trivial fun a hE => ?_
      refine WR.done rfl ?_
      replace H := thicketlaw9_world.shut al_w_ (thicketlaw9_world.mk t_1.2 w_.root0 w_.root1 w_.has0 w_.has1 w_.next w_.spent w_.most) H.t4.t4.t2.t4
      refine Runs.ret hE Tryz.func32 rfl rfl ?_
      cases hm
      exact ⟨al_w_.has1_b, al_w_.has1_c, rfl, H.x1⟩
    · replace hm := cond_f c hm
      refine Runs.skip ?_
      refine Runs.seq ?_
      refine Runs.region ?_
      refine WR.seg hE 4 [.pointer (some ⟨al_w_.a__p, 0, none⟩)] [0, 1, 9, 10, 61] (Lo := [(0, .pointer (some ⟨p_w_, 0, none⟩)), (1, .int .i64 1), (9, .int .i64 t_), (10, .pointer (some ⟨r, 0, none⟩)), (61, .pointer (some ⟨al_w_.a__p, 0, none⟩))]) (obs := [.cell ⟨p_w_, 0, none⟩ (.pointer (some ⟨al_w_.a__p, 0, none⟩))]) rfl (by kernel_rfl) ⟨H.cell 2 rfl rfl, trivial⟩ fun a hE => ?_
      obtain ⟨t_2, et_2, hm⟩ := bind_some hm
      refine WR.eff hE rfl rfl rfl rfl (OpTo.fn hE rfl rfl Tryz.call18 (arena_Arena_Meter_ok et_2 H)) ?_
      rintro _ w ⟨rfl, H⟩ a hE
      replace H := arena_Arena.open H
      obtain ⟨t_3, et_3, hm⟩ := bind_some hm
      refine WR.eff hE rfl rfl rfl rfl (OpTo.fn hE rfl rfl Tryz.call19 (meter_Meter_Steps_ok et_3 H.t3)) ?_
      rintro _ w ⟨rfl, H⟩ a hE
      refine WR.seg hE 7 [] [0, 1, 9, 10, 11] (Lo := [(0, .pointer (some ⟨p_w_, 0, none⟩)), (1, .int .i64 1), (9, .int .i64 t_), (10, .pointer (some ⟨r, 0, none⟩)), (11, .int .i64 t_3)]) (obs := []) rfl (by kernel_rfl) trivial fun a hE => ?_
      refine WR.done rfl ?_
      refine Runs.seq ?_
      refine Runs.drawn mixed (by kernel_rfl) ?_
      replace H := H.drew
      refine WQ.seg hE [0, 1, 2, 3, 4, 5, 6, 7, 8, 9, 10, 11] [.pointer (some ⟨al_w_.a__p, 0, none⟩), .int .i64 w_.root1, .int .i64 x.cell] [0, 1, 9, 10, 11, 67, 73, 75] (Lo := [(0, .pointer (some ⟨p_w_, 0, none⟩)), (1, .int .i64 1), (9, .int .i64 t_), (10, .pointer (some ⟨r, 0, none⟩)), (11, .int .i64 t_3), (67, .pointer (some ⟨al_w_.a__p, 0, none⟩)), (73, .int .i64 w_.root1), (75, .int .i64 x.cell)]) (obs := [.cell ⟨p_w_, 0, none⟩ (.pointer (some ⟨al_w_.a__p, 0, none⟩)), .p (0 ≤ (1 : Int) ∧ (1 : Int) < ((2 : Nat) : Int)), .cell ⟨p_w_, 2, none⟩ (.int .i64 w_.root1), .cell ⟨r, 0, none⟩ (.int .i64 x.cell)]) (by kernel_rfl) (by kernel_rfl) ⟨H.cell 5 rfl rfl, ⟨by decide, by decide⟩, H.cell 5 rfl rfl, H.cell 4 rfl rfl, trivial⟩ fun a hE => ?_
      replace H := arena_Arena.shut al_w_.a__a (t_1.2) H.t3.t3.t3
      obtain ⟨t_4, et_4, hm⟩ := bind_some hm
      refine WQ.eff (j := 12) (obs := []) hE (by kernel_rfl) rfl rfl rfl rfl (by kernel_rfl) (OpTo.fn hE rfl rfl Tryz.call72 (binomial_Fall_ok et_4 H)) ?_
      rintro _ w ⟨rfl, H⟩
      refine ⟨trivial, fun a hE => ?_⟩
      refine WQ.seg hE [13] [] [0, 1, 9, 10, 11, 12] (Lo := [(0, .pointer (some ⟨p_w_, 0, none⟩)), (1, .int .i64 1), (9, .int .i64 t_), (10, .pointer (some ⟨r, 0, none⟩)), (11, .int .i64 t_3), (12, .int .i64 t_4.1)]) (obs := []) (by kernel_rfl) (by kernel_rfl) trivial fun a hE => ?_
      refine WQ.done (by kernel_rfl) ?_
      refine Runs.seq ?_
      refine Runs.seq ?_
      refine Runs.region ?_
      refine WR.seg hE 9 [.slice al_w_.has1_b w_.has1.length al_w_.has1_c] [0, 1, 9, 10, 12, 77, 78, 85] (Lo := [(0, .pointer (some ⟨p_w_, 0, none⟩)), (1, .int .i64 1), (9, .int .i64 t_), (10, .pointer (some ⟨r, 0, none⟩)), (12, .int .i64 t_4.1), (77, .pointer (some ⟨p_w_, 0, none⟩)), (78, .int .i64 t_3), (85, .int .i64 (w_.has1.length : Int))]) (obs := [.p (0 ≤ (1 : Int) ∧ (1 : Int) < ((2 : Nat) : Int)), .cell ⟨p_w_, 4, none⟩ (.slice al_w_.has1_b w_.has1.length al_w_.has1_c)]) rfl (by kernel_rfl) ⟨⟨by decide, by decide⟩, H.cell 2 rfl rfl, trivial⟩ fun a hE => ?_
      replace H := thicketlaw9_world.shut al_w_ (thicketlaw9_world.mk t_4.2 w_.root0 w_.root1 w_.has0 w_.has1 w_.next w_.spent w_.most) H.t4.t4.t2.t4
      obtain ⟨t_5, et_5, hm⟩ := bind_some hm
      refine WR.eff hE rfl rfl rfl rfl (OpTo.fn hE rfl rfl Tryz.call21 (thicketlaw9_world_cost_ok et_5 H)) ?_
      rintro _ w ⟨rfl, hf, hf1, H⟩ a hE
      refine WR.seg hE 11 [] [0, 1, 9, 10, 12, 87] (Lo := [(0, .pointer (some ⟨p_w_, 0, none⟩)), (1, .int .i64 1), (9, .int .i64 t_), (10, .pointer (some ⟨r, 0, none⟩)), (12, .int .i64 t_4.1), (87, .bool (!t_5.1))]) (obs := []) rfl (by kernel_rfl) trivial fun a hE => ?_
      refine WR.done rfl ?_
      refine Runs.cond hE rfl (fun c => ?_) (fun c => ?_)
      · replace hm := cond_t c hm
        refine Runs.seq ?_
        refine Runs.region ?_
        refine WR.seg hE 1 [] [8] (Lo := [(8, .bool false)]) (obs := []) rfl (by kernel_rfl) trivial fun a hE => ?_
        refine WR.done rfl ?_
        refine Runs.ret hE Tryz.func32 rfl rfl ?_
        cases hm
        exact ⟨al_w_.has1_b, al_w_.has1_c, rfl, H.x1⟩
      · replace hm := cond_f c hm
        refine Runs.skip ?_
        refine Runs.seq ?_
        refine Runs.region ?_
        refine WR.seg hE 6 [] [0, 1, 9, 10, 90, 93] (Lo := [(0, .pointer (some ⟨p_w_, 0, none⟩)), (1, .int .i64 1), (9, .int .i64 t_), (10, .pointer (some ⟨r, 0, none⟩)), (90, .int .i64 t_4.1), (93, .pointer (some ⟨p_w_, 2, none⟩))]) (obs := [.p (0 ≤ (1 : Int) ∧ (1 : Int) < ((2 : Nat) : Int))]) rfl (by kernel_rfl) ⟨⟨by decide, by decide⟩, trivial⟩ fun a hE => ?_
        replace H := thicketlaw9_world.open H
        try rw [hf] at H
        try rw [hf1] at H
        try dsimp only at H
        refine WR.eff0 hE rfl rfl rfl (OpTo.store hE H rfl rfl rfl rfl rfl rfl (Nat.le_of_ble_eq_true rfl)) ?_
        rintro _ w H a hE
        refine WR.done rfl ?_
        refine Runs.seq ?_
        replace H := thicketlaw9_world.shut al_w_ (thicketlaw9_world.mk t_5.2.a_ t_5.2.root0 t_4.1 w_.has0 w_.has1 t_5.2.next t_5.2.spent t_5.2.most) H.t3.t3.t3.t3
        obtain ⟨t_6, et_6, hm⟩ := bind_some hm
        obtain ⟨l, el, hm⟩ := bind_some hm
        refine Runs.join (fun a w => ∃ (z : Option Addr), ∃ (z1 : Nat), EnvOk 110 a [] ∧ St w0 (thicketlaw9_world.R p_w_ (thicketlaw9_world.A.mk al_w_.a__p al_w_.a__a al_w_.has0_b al_w_.has0_c z z1) (thicketlaw9_world.mk t_5.2.a_ t_5.2.root0 t_4.1 w_.has0 l t_5.2.next t_5.2.spent t_5.2.most) :: As) w) (fun hk => ?_) ?_
        ·
          refine Runs.drawn mixed (by kernel_rfl) ?_
          replace H := H.drew
          replace H := thicketlaw9_world.open H
          try dsimp only at H
          refine WQ.seg hE [0, 1, 2, 3, 4, 5, 6, 7, 8, 10, 13, 14] [.slice al_w_.has1_b w_.has1.length al_w_.has1_c, .int .i64 x.cell, .int .i64 (if by_ < x.e.Key then by_ else x.e.Key), .int .i64 x.e.Serial] [95, 101, 102, 104, 108] (Lo := [(95, .int .i64 1), (101, .slice al_w_.has1_b w_.has1.length al_w_.has1_c), (102, .int .i64 t_), (104, .agg #[.int .i64 x.cell, .int .i64 (if by_ < x.e.Key then by_ else x.e.Key), .int .i64 x.e.Serial]), (108, .pointer (some ⟨p_w_, 3, none⟩))]) (obs := [.p (0 ≤ (1 : Int) ∧ (1 : Int) < ((2 : Nat) : Int)), .cell ⟨p_w_, 4, none⟩ (.slice al_w_.has1_b w_.has1.length al_w_.has1_c), .cell ⟨r, 0, none⟩ (.int .i64 x.cell), .cell ⟨r, 1, none⟩ (.int .i64 (if by_ < x.e.Key then by_ else x.e.Key)), .cell ⟨r, 2, none⟩ (.int .i64 x.e.Serial)]) (by kernel_rfl) (by kernel_rfl) ⟨⟨by decide, by decide⟩, H.cell 0 rfl rfl, H.cell 4 rfl rfl, H.cell 4 rfl rfl, H.cell 4 rfl rfl, trivial⟩ fun a hE => ?_
          refine WQ.act2 9 11 (by kernel_rfl) ?_ ?_
          ·
            replace H := H.t3
            refine AQ.eff (j := 9) (obs := [.cell ⟨r, 0, none⟩ (.int .i64 x.cell), .cell ⟨r, 1, none⟩ (.int .i64 (if by_ < x.e.Key then by_ else x.e.Key)), .cell ⟨r, 2, none⟩ (.int .i64 x.e.Serial)]) hE rfl rfl rfl rfl (by kernel_rfl) (OpTo.fn hE rfl rfl Tryz.call66 (thicketlaw9_without_ok (hX_l := (sl_rd 58 thicketlaw9_held.enc 3 _ _ _)) (hC_l := (H.slCap 0 rfl).1) et_6 H)) ?_
            rintro _ w ⟨sb2, sc2, rfl, H⟩
            refine ⟨⟨H.cell 5 rfl rfl, H.cell 5 rfl rfl, H.cell 5 rfl rfl, trivial⟩, fun a hE => ?_⟩
            refine WQ.eff (j := 11) (obs := []) hE (by kernel_rfl) rfl rfl rfl rfl (by kernel_rfl) (OpTo.buildSl (T := 58) hE H thicketlaw9_held.enc_ok ([thicketlaw9_held.mk x.cell (api_Entry.mk (if by_ < x.e.Key then by_ else x.e.Key) x.e.Serial)] : List thicketlaw9_held) rfl (fun _ => by kernel_rfl) rfl rfl rfl) ?_
            rintro _ w ⟨r2, rfl, H⟩
            refine ⟨trivial, fun a hE => ?_⟩
            replace H := H.t1
            refine WQ.eff (j := 12) (obs := []) hE (by kernel_rfl) rfl rfl rfl rfl (by kernel_rfl) (OpTo.appendM el hE H thicketlaw9_held.enc_ok rfl rfl rfl rfl rfl rfl rfl rfl rfl rfl (SlRd.all (sl_rd 58 thicketlaw9_held.enc 3 _ _ _) thicketlaw9_held.enc_ok H 1 rfl) rfl) ?_
            rintro _ w ⟨sb3, sc3, rfl, H⟩
            refine ⟨trivial, fun a hE => ?_⟩
            refine WQ.seg hE [15] [] [106, 109] (Lo := [(106, .slice sb3 l.length sc3), (109, .pointer (some ⟨p_w_, 4, none⟩))]) (obs := [.p (0 ≤ (1 : Int) ∧ (1 : Int) < ((2 : Nat) : Int))]) (by kernel_rfl) (by kernel_rfl) ⟨⟨by decide, by decide⟩, trivial⟩ fun a hE => ?_
            refine WQ.eff0 (j := 16) (obs := []) hE (by kernel_rfl) rfl rfl rfl (by kernel_rfl) (OpTo.store hE H.t3 rfl rfl rfl rfl rfl rfl (Nat.le_of_ble_eq_true rfl)) ?_
            rintro _ w H
            refine ⟨trivial, fun a hE => ?_⟩
            refine WQ.done (by kernel_rfl) ?_
            replace H := thicketlaw9_world.shut (thicketlaw9_world.A.mk al_w_.a__p al_w_.a__a al_w_.has0_b al_w_.has0_c sb3 sc3) (thicketlaw9_world.mk t_5.2.a_ t_5.2.root0 t_4.1 w_.has0 l t_5.2.next t_5.2.spent t_5.2.most) H.t1.t5.t5.t3
            exact hk _ _ ⟨sb3, sc3, hE.sel [] (by kernel_rfl), H.x3.x2.x1⟩
          ·
            refine AQ.eff (j := 11) (obs := [.cell ⟨p_w_, 4, none⟩ (.slice al_w_.has1_b w_.has1.length al_w_.has1_c), .p (0 ≤ (1 : Int) ∧ (1 : Int) < ((2 : Nat) : Int))]) hE rfl rfl rfl rfl (by kernel_rfl) (OpTo.buildSl (T := 58) hE H thicketlaw9_held.enc_ok ([thicketlaw9_held.mk x.cell (api_Entry.mk (if by_ < x.e.Key then by_ else x.e.Key) x.e.Serial)] : List thicketlaw9_held) rfl (fun _ => by kernel_rfl) rfl rfl rfl) ?_
            rintro _ w ⟨r3, rfl, H⟩
            refine ⟨⟨H.cell 1 rfl rfl, ⟨by decide, by decide⟩, trivial⟩, fun a hE => ?_⟩
            replace H := H.t4
            refine WQ.eff (j := 9) (obs := []) hE (by kernel_rfl) rfl rfl rfl rfl (by kernel_rfl) (OpTo.fn hE rfl rfl Tryz.call66 (thicketlaw9_without_ok (hX_l := (sl_rd 58 thicketlaw9_held.enc 3 _ _ _)) (hC_l := (H.slCap 0 rfl).1) et_6 H)) ?_
            rintro _ w ⟨sb4, sc4, rfl, H⟩
            refine ⟨trivial, fun a hE => ?_⟩
            refine WQ.eff (j := 12) (obs := []) hE (by kernel_rfl) rfl rfl rfl rfl (by kernel_rfl) (OpTo.appendM el hE H thicketlaw9_held.enc_ok rfl rfl rfl rfl rfl rfl rfl rfl rfl rfl (SlRd.all (sl_rd 58 thicketlaw9_held.enc 3 _ _ _) thicketlaw9_held.enc_ok H 2 rfl) rfl) ?_
            rintro _ w ⟨sb5, sc5, rfl, H⟩
            refine ⟨trivial, fun a hE => ?_⟩
            refine WQ.seg hE [15] [] [106, 109] (Lo := [(106, .slice sb5 l.length sc5), (109, .pointer (some ⟨p_w_, 4, none⟩))]) (obs := [.p (0 ≤ (1 : Int) ∧ (1 : Int) < ((2 : Nat) : Int))]) (by kernel_rfl) (by kernel_rfl) ⟨⟨by decide, by decide⟩, trivial⟩ fun a hE => ?_
            refine WQ.eff0 (j := 16) (obs := []) hE (by kernel_rfl) rfl rfl rfl (by kernel_rfl) (OpTo.store hE H.t3 rfl rfl rfl rfl rfl rfl (Nat.le_of_ble_eq_true rfl)) ?_
            rintro _ w H
            refine ⟨trivial, fun a hE => ?_⟩
            refine WQ.done (by kernel_rfl) ?_
            replace H := thicketlaw9_world.shut (thicketlaw9_world.A.mk al_w_.a__p al_w_.a__a al_w_.has0_b al_w_.has0_c sb5 sc5) (thicketlaw9_world.mk t_5.2.a_ t_5.2.root0 t_4.1 w_.has0 l t_5.2.next t_5.2.spent t_5.2.most) H.t1.t5.t5.t3
            exact hk _ _ ⟨sb5, sc5, hE.sel [] (by kernel_rfl), H.x3.x2.x1⟩
        rintro a w ⟨z, z1, hE, H⟩
        refine Runs.seq ?_
        refine Runs.region ?_
        refine WR.seg hE 1 [] [8] (Lo := [(8, .bool true)]) (obs := []) rfl (by kernel_rfl) trivial fun a hE => ?_
        refine WR.done rfl ?_
        refine Runs.ret hE Tryz.func32 rfl rfl ?_
        cases hm
        exact ⟨z, z1, rfl, H⟩

theorem thicketlaw9_world_fall_ok {w0 w : World} {As : List HP} {k : Nat} {p_w_ : Nat} {al_w_ : thicketlaw9_world.A} {w_ : thicketlaw9_world} {at_ : Int} {by_ : Int} {h_ : Int} {t : Bool × thicketlaw9_world}  (hm : thicketlaw9_world_fall k w_ h_ at_ by_ = some t) (H : St w0 (thicketlaw9_world.R p_w_ al_w_ w_ :: As) w) :
    CallsR Tryz.prog 32 #[.pointer (some ⟨p_w_, 0, none⟩), .int .i64 h_, .int .i64 at_, .int .i64 by_] w fun v w' => ∃ (z_w__has0_b : Option Addr), ∃ (z_w__has0_c : Nat), ∃ (z_w__has1_b : Option Addr), ∃ (z_w__has1_c : Nat), v = .bool t.1 ∧ St w0 (thicketlaw9_world.R p_w_ (thicketlaw9_world.A.mk al_w_.a__p al_w_.a__a z_w__has0_b z_w__has0_c z_w__has1_b z_w__has1_c) t.2 :: As) w' := by
  rw [thicketlaw9_world_fall] at hm
  by_cases h0 : h_ = 0
  · subst h0; simp only [if_pos] at hm
    refine (thicketlaw9_world_fall_at0_ok hm H).mono ?_
    rintro v w' ⟨y_0, y_1, hv, H⟩; exact ⟨y_0, y_1, al_w_.has1_b, al_w_.has1_c, hv, H⟩
  rw [if_neg h0] at hm
  by_cases h1 : h_ = 1
  · subst h1; simp only [if_pos] at hm
    refine (thicketlaw9_world_fall_at1_ok hm H).mono ?_
    rintro v w' ⟨y_0, y_1, hv, H⟩; exact ⟨al_w_.has0_b, al_w_.has0_c, y_0, y_1, hv, H⟩
  rw [if_neg h1] at hm
  cases hm

theorem slices_Index_int_ok {w0 w : World} {As : List HP} {k : Nat} {sb_s : Option Addr} {sc_s : Nat} {s : List Int} {X_s : HP} {v_ : Int} {t : Int} (hX_s : SlRd X_s ecI 1 sb_s s) (hC_s : s.length ≤ sc_s) (hm : slices_Index_int k s v_ = some t) (H : St w0 (X_s :: As) w) :
    CallsR Tryz.prog 161 #[.slice sb_s s.length sc_s, .int .i64 v_] w fun v w' => v = .int .i64 t ∧ St w0 (X_s :: As) w' := by
  rw [slices_Index_int] at hm
  refine enter (args := [.slice sb_s s.length sc_s, .int .i64 v_]) Tryz.func161 rfl rfl rfl fun a hE => ?_
  refine Runs.seq ?_
  refine Runs.region ?_
  refine WR.seg hE 1 [] [0, 1] (Lo := [(0, .slice sb_s s.length sc_s), (1, .int .i64 v_)]) (obs := []) rfl (by kernel_rfl) trivial fun a hE => ?_
  refine WR.done rfl ?_
  refine Runs.seq ?_
  refine Runs.seq ?_
  refine Runs.region ?_
  refine WR.seg hE 3 [] [0, 1, 7, 8] (Lo := [(0, .slice sb_s s.length sc_s), (1, .int .i64 v_), (7, .int .i64 (s.length : Int)), (8, .int .i64 0)]) (obs := []) rfl (by kernel_rfl) trivial fun a hE => ?_
  refine WR.done rfl ?_
  obtain ⟨s1, es1, hR⟩ := bind_some hm
  refine Runs.join (fun a w => ∃ s2, s1 = Sum.inr s2 ∧ EnvOk 19 a [] ∧ St w0 (X_s :: As) w) (fun hk => ?_) ?_
  · replace hm := es1; clear es1
    refine Runs.block ?_
    refine Runs.loop (fun m a w => ∃ (x : Int), EnvOk 19 a [(0, .slice sb_s s.length sc_s), (1, .int .i64 v_), (7, .int .i64 (s.length : Int)), (8, .int .i64 x)] ∧ St w0 (X_s :: As) w ∧ slices_Index_int_l0 v_ (s.length : Int) s m x = some s1) k ⟨0, hE.sel [0, 1, 7, 8] (by kernel_rfl), H, hm⟩ ?_
    rintro m ih a w ⟨x, hE, H, hm⟩
    cases m with
    | zero => simp [slices_Index_int_l0] at hm
    | succ m =>
      rw [slices_Index_int_l0] at hm
      refine Runs.seq ?_
      refine Runs.region ?_
      refine WR.seg hE 1 [] [0, 1, 7, 8, 9] (Lo := [(0, .slice sb_s s.length sc_s), (1, .int .i64 v_), (7, .int .i64 (s.length : Int)), (8, .int .i64 x), (9, .bool (decide (x < (s.length : Int))))]) (obs := []) rfl (by kernel_rfl) trivial fun a hE => ?_
      refine WR.done rfl ?_
      refine Runs.seq ?_
      refine Runs.cond hE rfl (fun c => ?_) (fun c => ?_)
      · replace hm := cond_t c hm
        refine Runs.skip ?_
        refine Runs.seq ?_
        refine Runs.block ?_
        refine Runs.seq ?_
        refine Runs.region ?_
        refine WR.seg hE 2 [] [0, 1, 5, 7, 8] (Lo := [(0, .slice sb_s s.length sc_s), (1, .int .i64 v_), (5, .int .i64 x), (7, .int .i64 (s.length : Int)), (8, .int .i64 x)]) (obs := []) rfl (by kernel_rfl) trivial fun a hE => ?_
        refine WR.done rfl ?_
        refine Runs.seq ?_
        refine Runs.region ?_
        obtain ⟨x2, ex2, hm⟩ := bind_some hm
        obtain ⟨b, o, hs, hb⟩ := SlRd.base hX_s ecI_ok H 0 rfl ex2
        refine WR.seg hE 6 [.pointer (some ⟨b, o, none⟩), .int .i64 x2] [0, 1, 5, 7, 8, 16] (Lo := [(0, .slice sb_s s.length sc_s), (1, .int .i64 v_), (5, .int .i64 x), (7, .int .i64 (s.length : Int)), (8, .int .i64 x), (16, .bool (v_ == x2))]) (obs := [.p ((sb_s : Option Addr) = some ⟨b, o, none⟩), .p (0 ≤ (x : Int) ∧ (x : Int) < ((s.length : Nat) : Int)), .cell ⟨b, o + (Int.toNat x) * 1, none⟩ (.int .i64 x2)]) rfl (by kernel_rfl) ⟨hs, hb, SlRd.cells hX_s ecI_ok H 0 rfl hs ex2 0 _ rfl, trivial⟩ fun a hE => ?_
        refine WR.done rfl ?_
        refine Runs.cond hE rfl (fun c => ?_) (fun c => ?_)
        · replace hm := cond_t c hm
          refine Runs.seq ?_
          refine Runs.region ?_
          refine WR.seg hE 2 [] [4] (Lo := [(4, .int .i64 x)]) (obs := []) rfl (by kernel_rfl) trivial fun a hE => ?_
          refine WR.done rfl ?_
          refine Runs.ret hE Tryz.func161 rfl rfl ?_
          cases hm
          dsimp only at hR; cases hR
          exact ⟨rfl, H⟩
        · replace hm := cond_f c hm
          refine Runs.skip ?_
          refine Runs.inBlock ?_
          refine Runs.region ?_
          refine WR.seg hE 2 [] [0, 1, 7, 8] (Lo := [(0, .slice sb_s s.length sc_s), (1, .int .i64 v_), (7, .int .i64 (s.length : Int)), (8, .int .i64 (w64 (x + 1)))]) (obs := []) rfl (by kernel_rfl) trivial fun a hE => ?_
          refine WR.done rfl ?_
          exact ih m (Nat.lt_succ_self m) _ _ ⟨w64 (x + 1), hE.sel [0, 1, 7, 8] (by kernel_rfl), H, hm⟩
      · replace hm := cond_f c hm
        refine Runs.exit rfl ?_
        cases hm
        exact hk _ _ ⟨_, rfl, hE.sel [] (by kernel_rfl), H⟩
  rintro a w ⟨s2, rfl, hE, H⟩
  replace hm := hR; dsimp only at hm
  refine Runs.seq ?_
  refine Runs.region ?_
  refine WR.seg hE 1 [] [4] (Lo := [(4, .int .i64 (-1))]) (obs := []) rfl (by kernel_rfl) trivial fun a hE => ?_
  refine WR.done rfl ?_
  refine Runs.ret hE Tryz.func161 rfl rfl ?_
  cases hm
  exact ⟨rfl, H⟩

theorem slices_Contains_int_ok {w0 w : World} {As : List HP} {k : Nat} {sb_s : Option Addr} {sc_s : Nat} {s : List Int} {X_s : HP} {v_ : Int} {t : Bool} (hX_s : SlRd X_s ecI 1 sb_s s) (hC_s : s.length ≤ sc_s) (hm : slices_Contains_int k s v_ = some t) (H : St w0 (X_s :: As) w) :
    CallsR Tryz.prog 131 #[.slice sb_s s.length sc_s, .int .i64 v_] w fun v w' => v = .bool t ∧ St w0 (X_s :: As) w' := by
  rw [slices_Contains_int] at hm
  refine enter (args := [.slice sb_s s.length sc_s, .int .i64 v_]) Tryz.func131 rfl rfl rfl fun a hE => ?_
  refine Runs.seq ?_
  refine Runs.region ?_
  refine WR.seg hE 1 [] [0, 1] (Lo := [(0, .slice sb_s s.length sc_s), (1, .int .i64 v_)]) (obs := []) rfl (by kernel_rfl) trivial fun a hE => ?_
  refine WR.done rfl ?_
  refine Runs.seq ?_
  refine Runs.region ?_
  refine WR.seg hE 2 [] [5, 6] (Lo := [(5, .slice sb_s s.length sc_s), (6, .int .i64 v_)]) (obs := []) rfl (by kernel_rfl) trivial fun a hE => ?_
  obtain ⟨t_, et_, hm⟩ := bind_some hm
  refine WR.eff hE rfl rfl rfl rfl (OpTo.fn hE rfl rfl Tryz.call161 (slices_Index_int_ok (hX_s := hX_s) (hC_s := hC_s) et_ H)) ?_
  rintro _ w ⟨rfl, H⟩ a hE
  refine WR.seg hE 5 [] [4] (Lo := [(4, .bool (decide (t_ ≥ 0)))]) (obs := []) rfl (by kernel_rfl) trivial fun a hE => ?_
  refine WR.done rfl ?_
  refine Runs.ret hE Tryz.func131 rfl rfl ?_
  cases hm
  exact ⟨rfl, H⟩

theorem binomial_without_f1_ok {w0 w : World} {As : List HP} {x : Int} {v_ : Int} {r : Nat} {t : Bool}  (hm : binomial_without_f1 x v_ = some t) (H : St w0 (Blk r 3 [.int .i64 v_] :: As) w) :
    CallsR Tryz.prog 121 #[.int .i64 x, .pointer (some ⟨r, 0, none⟩)] w fun v w' => v = .bool t ∧ St w0 (Blk r 3 [.int .i64 v_] :: As) w' := by
  rw [binomial_without_f1] at hm
  refine enter (args := [.int .i64 x, .pointer (some ⟨r, 0, none⟩)]) Tryz.func121 rfl rfl rfl fun a hE => ?_
  refine Runs.seq ?_
  refine Runs.region ?_
  refine WR.seg hE 1 [] [0, 1] (Lo := [(0, .int .i64 x), (1, .pointer (some ⟨r, 0, none⟩))]) (obs := []) rfl (by kernel_rfl) trivial fun a hE => ?_
  refine WR.done rfl ?_
  refine Runs.seq ?_
  refine Runs.region ?_
  refine WR.seg hE 4 [.int .i64 v_] [3] (Lo := [(3, .bool (x == v_))]) (obs := [.cell ⟨r, 0, none⟩ (.int .i64 v_)]) rfl (by kernel_rfl) ⟨H.cell 0 rfl rfl, trivial⟩ fun a hE => ?_
  refine WR.done rfl ?_
  refine Runs.ret hE Tryz.func121 rfl rfl ?_
  cases hm
  exact ⟨rfl, H⟩

theorem slices_IndexFunc_int_g121_ok {w0 w : World} {As : List HP} {k : Nat} {sb_s : Option Addr} {sc_s : Nat} {s : List Int} {X_s : HP} {v_ : Int} {r : Nat} {t : Int} (hX_s : SlRd X_s ecI 1 sb_s s) (hC_s : s.length ≤ sc_s) (hm : slices_IndexFunc_int_g121 k s v_ = some t) (H : St w0 (X_s :: Blk r 3 [.int .i64 v_] :: As) w) :
    CallsR Tryz.prog 154 #[.slice sb_s s.length sc_s, .func (.func 121) #[] #[.pointer (some ⟨r, 0, none⟩)]] w fun v w' => v = .int .i64 t ∧ St w0 (X_s :: Blk r 3 [.int .i64 v_] :: As) w' := by
  rw [slices_IndexFunc_int_g121] at hm
  refine enter (args := [.slice sb_s s.length sc_s, .func (.func 121) #[] #[.pointer (some ⟨r, 0, none⟩)]]) Tryz.func154 rfl rfl rfl fun a hE => ?_
  refine Runs.seq ?_
  refine Runs.region ?_
  refine WR.seg hE 1 [] [0, 1] (Lo := [(0, .slice sb_s s.length sc_s), (1, .func (.func 121) #[] #[.pointer (some ⟨r, 0, none⟩)])]) (obs := []) rfl (by kernel_rfl) trivial fun a hE => ?_
  refine WR.done rfl ?_
  refine Runs.seq ?_
  refine Runs.seq ?_
  refine Runs.region ?_
  refine WR.seg hE 3 [] [0, 1, 7, 8] (Lo := [(0, .slice sb_s s.length sc_s), (1, .func (.func 121) #[] #[.pointer (some ⟨r, 0, none⟩)]), (7, .int .i64 (s.length : Int)), (8, .int .i64 0)]) (obs := []) rfl (by kernel_rfl) trivial fun a hE => ?_
  refine WR.done rfl ?_
  obtain ⟨s1, es1, hR⟩ := bind_some hm
  refine Runs.join (fun a w => ∃ s2, s1 = Sum.inr s2 ∧ EnvOk 19 a [] ∧ St w0 (X_s :: Blk r 3 [.int .i64 v_] :: As) w) (fun hk => ?_) ?_
  · replace hm := es1; clear es1
    refine Runs.block ?_
    refine Runs.loop (fun m a w => ∃ (x : Int), EnvOk 19 a [(0, .slice sb_s s.length sc_s), (1, .func (.func 121) #[] #[.pointer (some ⟨r, 0, none⟩)]), (7, .int .i64 (s.length : Int)), (8, .int .i64 x)] ∧ St w0 (X_s :: Blk r 3 [.int .i64 v_] :: As) w ∧ slices_IndexFunc_int_g121_l0 (s.length : Int) s v_ m x = some s1) k ⟨0, hE.sel [0, 1, 7, 8] (by kernel_rfl), H.t1.t1, hm⟩ ?_
    rintro m ih a w ⟨x, hE, H, hm⟩
    cases m with
    | zero => simp [slices_IndexFunc_int_g121_l0] at hm
    | succ m =>
      rw [slices_IndexFunc_int_g121_l0] at hm
      refine Runs.seq ?_
      refine Runs.region ?_
      refine WR.seg hE 1 [] [0, 1, 7, 8, 9] (Lo := [(0, .slice sb_s s.length sc_s), (1, .func (.func 121) #[] #[.pointer (some ⟨r, 0, none⟩)]), (7, .int .i64 (s.length : Int)), (8, .int .i64 x), (9, .bool (decide (x < (s.length : Int))))]) (obs := []) rfl (by kernel_rfl) trivial fun a hE => ?_
      refine WR.done rfl ?_
      refine Runs.seq ?_
      refine Runs.cond hE rfl (fun c => ?_) (fun c => ?_)
      · replace hm := cond_t c hm
        refine Runs.skip ?_
        refine Runs.seq ?_
        refine Runs.block ?_
        refine Runs.seq ?_
        refine Runs.region ?_
        refine WR.seg hE 2 [] [0, 1, 5, 7, 8] (Lo := [(0, .slice sb_s s.length sc_s), (1, .func (.func 121) #[] #[.pointer (some ⟨r, 0, none⟩)]), (5, .int .i64 x), (7, .int .i64 (s.length : Int)), (8, .int .i64 x)]) (obs := []) rfl (by kernel_rfl) trivial fun a hE => ?_
        refine WR.done rfl ?_
        refine Runs.seq ?_
        refine Runs.region ?_
        obtain ⟨x2, ex2, hm⟩ := bind_some hm
        obtain ⟨b, o, hs, hb⟩ := SlRd.base hX_s ecI_ok H 0 rfl ex2
        refine WR.seg hE 5 [.pointer (some ⟨b, o, none⟩), .int .i64 x2] [0, 1, 5, 7, 8, 11, 15] (Lo := [(0, .slice sb_s s.length sc_s), (1, .func (.func 121) #[] #[.pointer (some ⟨r, 0, none⟩)]), (5, .int .i64 x), (7, .int .i64 (s.length : Int)), (8, .int .i64 x), (11, .func (.func 121) #[] #[.pointer (some ⟨r, 0, none⟩)]), (15, .int .i64 x2)]) (obs := [.p ((sb_s : Option Addr) = some ⟨b, o, none⟩), .p (0 ≤ (x : Int) ∧ (x : Int) < ((s.length : Nat) : Int)), .cell ⟨b, o + (Int.toNat x) * 1, none⟩ (.int .i64 x2)]) rfl (by kernel_rfl) ⟨hs, hb, SlRd.cells hX_s ecI_ok H 0 rfl hs ex2 0 _ rfl, trivial⟩ fun a hE => ?_
        obtain ⟨t_, et_, hm⟩ := bind_some hm
        refine WR.eff hE rfl rfl rfl rfl (OpTo.fv hE rfl rfl rfl Tryz.call121 (binomial_without_f1_ok et_ H.t1)) ?_
        rintro _ w ⟨rfl, H⟩ a hE
        refine WR.done rfl ?_
        refine Runs.cond hE rfl (fun c => ?_) (fun c => ?_)
        · replace hm := cond_t c hm
          refine Runs.seq ?_
          refine Runs.region ?_
          refine WR.seg hE 2 [] [4] (Lo := [(4, .int .i64 x)]) (obs := []) rfl (by kernel_rfl) trivial fun a hE => ?_
          refine WR.done rfl ?_
          refine Runs.ret hE Tryz.func154 rfl rfl ?_
          cases hm
          dsimp only at hR; cases hR
          exact ⟨rfl, H.t1⟩
        · replace hm := cond_f c hm
          refine Runs.skip ?_
          refine Runs.inBlock ?_
          refine Runs.region ?_
          refine WR.seg hE 2 [] [0, 1, 7, 8] (Lo := [(0, .slice sb_s s.length sc_s), (1, .func (.func 121) #[] #[.pointer (some ⟨r, 0, none⟩)]), (7, .int .i64 (s.length : Int)), (8, .int .i64 (w64 (x + 1)))]) (obs := []) rfl (by kernel_rfl) trivial fun a hE => ?_
          refine WR.done rfl ?_
          exact ih m (Nat.lt_succ_self m) _ _ ⟨w64 (x + 1), hE.sel [0, 1, 7, 8] (by kernel_rfl), H.t1, hm⟩
      · replace hm := cond_f c hm
        refine Runs.exit rfl ?_
        cases hm
        exact hk _ _ ⟨_, rfl, hE.sel [] (by kernel_rfl), H.t1.t1⟩
  rintro a w ⟨s2, rfl, hE, H⟩
  replace hm := hR; dsimp only at hm
  refine Runs.seq ?_
  refine Runs.region ?_
  refine WR.seg hE 1 [] [4] (Lo := [(4, .int .i64 (-1))]) (obs := []) rfl (by kernel_rfl) trivial fun a hE => ?_
  refine WR.done rfl ?_
  refine Runs.ret hE Tryz.func154 rfl rfl ?_
  cases hm
  exact ⟨rfl, H.t1.t1⟩

theorem slices_DeleteFunc_int_g121_ok {w0 w : World} {As : List HP} {k : Nat} {sb_s : Option Addr} {sc_s : Nat} {s : List Int} {v_ : Int} {r : Nat} {t : (List Int)}  (hm : slices_DeleteFunc_int_g121 k s v_ = some t) (H : St w0 (Sl 3 ecI 1 sb_s sc_s s :: Blk r 3 [.int .i64 v_] :: As) w) :
    CallsR Tryz.prog 120 #[.slice sb_s s.length sc_s, .func (.func 121) #[] #[.pointer (some ⟨r, 0, none⟩)]] w fun v w' => ∃ (sb0 : Option Addr), ∃ (sc0 : Nat), v = .slice sb0 t.length sc0 ∧ St w0 (Sl 3 ecI 1 sb0 sc0 t :: Blk r 3 [.int .i64 v_] :: As) w' := by
  rw [slices_DeleteFunc_int_g121] at hm
  refine enter (args := [.slice sb_s s.length sc_s, .func (.func 121) #[] #[.pointer (some ⟨r, 0, none⟩)]]) Tryz.func120 rfl rfl rfl fun a hE => ?_
  refine Runs.seq ?_
  refine Runs.region ?_
  refine WR.seg hE 1 [] [0, 1] (Lo := [(0, .slice sb_s s.length sc_s), (1, .func (.func 121) #[] #[.pointer (some ⟨r, 0, none⟩)])]) (obs := []) rfl (by kernel_rfl) trivial fun a hE => ?_
  refine WR.done rfl ?_
  refine Runs.seq ?_
  refine Runs.region ?_
  refine WR.seg hE 2 [] [0, 1, 8, 9] (Lo := [(0, .slice sb_s s.length sc_s), (1, .func (.func 121) #[] #[.pointer (some ⟨r, 0, none⟩)]), (8, .slice sb_s s.length sc_s), (9, .func (.func 121) #[] #[.pointer (some ⟨r, 0, none⟩)])]) (obs := []) rfl (by kernel_rfl) trivial fun a hE => ?_
  obtain ⟨t_, et_, hm⟩ := bind_some hm
  replace H := H.t1.t1
  refine WR.eff hE rfl rfl rfl rfl (OpTo.fn hE rfl rfl Tryz.call154 (slices_IndexFunc_int_g121_ok (hX_s := (sl_rd 3 ecI 1 _ _ _)) (hC_s := (H.slCap 0 rfl).1) et_ H)) ?_
  rintro _ w ⟨rfl, H⟩ a hE
  refine WR.seg hE 4 [] [0, 1, 5] (Lo := [(0, .slice sb_s s.length sc_s), (1, .func (.func 121) #[] #[.pointer (some ⟨r, 0, none⟩)]), (5, .int .i64 t_)]) (obs := []) rfl (by kernel_rfl) trivial fun a hE => ?_
  refine WR.done rfl ?_
  refine Runs.seq ?_
  refine Runs.seq ?_
  refine Runs.region ?_
  refine WR.seg hE 2 [] [0, 1, 5, 12] (Lo := [(0, .slice sb_s s.length sc_s), (1, .func (.func 121) #[] #[.pointer (some ⟨r, 0, none⟩)]), (5, .int .i64 t_), (12, .bool (t_ == (-1)))]) (obs := []) rfl (by kernel_rfl) trivial fun a hE => ?_
  refine WR.done rfl ?_
  refine Runs.cond hE rfl (fun c => ?_) (fun c => ?_)
  · replace hm := cond_t c hm
    refine Runs.seq ?_
    refine Runs.region ?_
    refine WR.seg hE 2 [] [4] (Lo := [(4, .slice sb_s s.length sc_s)]) (obs := []) rfl (by kernel_rfl) trivial fun a hE => ?_
    refine WR.done rfl ?_
    refine Runs.ret hE Tryz.func120 rfl rfl ?_
    cases hm
    exact ⟨sb_s, sc_s, rfl, H.t1.t1⟩
  · replace hm := cond_f c hm
    refine Runs.skip ?_
    refine Runs.seq ?_
    refine Runs.seq ?_
    refine Runs.region ?_
    refine WR.seg hE 3 [] [0, 1, 5, 6] (Lo := [(0, .slice sb_s s.length sc_s), (1, .func (.func 121) #[] #[.pointer (some ⟨r, 0, none⟩)]), (5, .int .i64 t_), (6, .int .i64 (w64 (t_ + 1)))]) (obs := []) rfl (by kernel_rfl) trivial fun a hE => ?_
    refine WR.done rfl ?_
    obtain ⟨s1, es1, hm⟩ := bind_some hm
    refine Runs.join (fun a w => EnvOk 42 a [(0, .slice sb_s s1.2.length sc_s), (5, .int .i64 s1.1)] ∧ St w0 (Sl 3 ecI 1 sb_s sc_s s1.2 :: Blk r 3 [.int .i64 v_] :: As) w) (fun hk => ?_) ?_
    · replace hm := es1; clear es1
      refine Runs.block ?_
      refine Runs.loop (fun m a w => ∃ (i : Int), ∃ (j : Int), ∃ (m_ : List Int), EnvOk 42 a [(0, .slice sb_s m_.length sc_s), (1, .func (.func 121) #[] #[.pointer (some ⟨r, 0, none⟩)]), (5, .int .i64 i), (6, .int .i64 j)] ∧ St w0 (Sl 3 ecI 1 sb_s sc_s m_ :: Blk r 3 [.int .i64 v_] :: As) w ∧ slices_DeleteFunc_int_g121_l0 v_ m i j m_ = some s1) k ⟨t_, w64 (t_ + 1), s, hE.sel [0, 1, 5, 6] (by kernel_rfl), H.t1.t1, hm⟩ ?_
      rintro m ih a w ⟨i, j, m_, hE, H, hm⟩
      cases m with
      | zero => simp [slices_DeleteFunc_int_g121_l0] at hm
      | succ m =>
        rw [slices_DeleteFunc_int_g121_l0] at hm
        refine Runs.seq ?_
        refine Runs.seq ?_
        refine Runs.region ?_
        refine WR.seg hE 4 [] [0, 1, 5, 6, 19] (Lo := [(0, .slice sb_s m_.length sc_s), (1, .func (.func 121) #[] #[.pointer (some ⟨r, 0, none⟩)]), (5, .int .i64 i), (6, .int .i64 j), (19, .bool (decide (j < (m_.length : Int))))]) (obs := []) rfl (by kernel_rfl) trivial fun a hE => ?_
        refine WR.done rfl ?_
        refine Runs.cond hE rfl (fun c => ?_) (fun c => ?_)
        · replace hm := cond_t c hm
          refine Runs.skip ?_
          refine Runs.seq ?_
          obtain ⟨s2, es2, hm⟩ := bind_some hm
          refine Runs.join (fun a w => EnvOk 42 a [(0, .slice sb_s s2.2.length sc_s), (1, .func (.func 121) #[] #[.pointer (some ⟨r, 0, none⟩)]), (5, .int .i64 s2.1), (6, .int .i64 j)] ∧ St w0 (Sl 3 ecI 1 sb_s sc_s s2.2 :: Blk r 3 [.int .i64 v_] :: As) w) (fun hk => ?_) ?_
          · replace hm := es2; clear es2
            refine Runs.block ?_
            refine Runs.seq ?_
            refine Runs.region ?_
            obtain ⟨x, ex, hm⟩ := bind_some hm
            obtain ⟨b, o, hs, hb⟩ := SlRd.base (sl_rd 3 ecI 1 _ _ _) ecI_ok H 0 rfl ex
            refine WR.seg hE 5 [.pointer (some ⟨b, o, none⟩), .int .i64 x] [0, 1, 5, 6, 7] (Lo := [(0, .slice sb_s m_.length sc_s), (1, .func (.func 121) #[] #[.pointer (some ⟨r, 0, none⟩)]), (5, .int .i64 i), (6, .int .i64 j), (7, .int .i64 x)]) (obs := [.p ((sb_s : Option Addr) = some ⟨b, o, none⟩), .p (0 ≤ (j : Int) ∧ (j : Int) < ((m_.length : Nat) : Int)), .cell ⟨b, o + (Int.toNat j) * 1, none⟩ (.int .i64 x)]) rfl (by kernel_rfl) ⟨hs, hb, SlRd.cells (sl_rd 3 ecI 1 _ _ _) ecI_ok H 0 rfl hs ex 0 _ rfl, trivial⟩ fun a hE => ?_
            refine WR.done rfl ?_
            refine Runs.seq ?_
            refine Runs.region ?_
            refine WR.seg hE 2 [] [0, 1, 5, 6, 7, 26, 27] (Lo := [(0, .slice sb_s m_.length sc_s), (1, .func (.func 121) #[] #[.pointer (some ⟨r, 0, none⟩)]), (5, .int .i64 i), (6, .int .i64 j), (7, .int .i64 x), (26, .func (.func 121) #[] #[.pointer (some ⟨r, 0, none⟩)]), (27, .int .i64 x)]) (obs := []) rfl (by kernel_rfl) trivial fun a hE => ?_
            obtain ⟨t_1, et_1, hm⟩ := bind_some hm
            refine WR.eff hE rfl rfl rfl rfl (OpTo.fv hE rfl rfl rfl Tryz.call121 (binomial_without_f1_ok et_1 H.t1)) ?_
            rintro _ w ⟨rfl, H⟩ a hE
            refine WR.seg hE 4 [] [0, 1, 5, 6, 7, 29] (Lo := [(0, .slice sb_s m_.length sc_s), (1, .func (.func 121) #[] #[.pointer (some ⟨r, 0, none⟩)]), (5, .int .i64 i), (6, .int .i64 j), (7, .int .i64 x), (29, .bool (!t_1))]) (obs := []) rfl (by kernel_rfl) trivial fun a hE => ?_
            refine WR.done rfl ?_
            refine Runs.cond hE rfl (fun c => ?_) (fun c => ?_)
            · replace hm := cond_t c hm
              refine Runs.seq ?_
              refine Runs.region ?_
              obtain ⟨x1, ex1, hm⟩ := bind_some hm
              obtain ⟨b1, o1, hs1, hb1⟩ := SlRd.base (sl_rd 3 ecI 1 _ _ _) ecI_ok H 1 rfl ex1
              refine WR.seg hE 4 [.pointer (some ⟨b1, o1, none⟩)] [0, 1, 5, 6, 32, 33] (Lo := [(0, .slice sb_s m_.length sc_s), (1, .func (.func 121) #[] #[.pointer (some ⟨r, 0, none⟩)]), (5, .int .i64 i), (6, .int .i64 j), (32, .int .i64 x), (33, .pointer (some ⟨b1, o1 + (Int.toNat i) * 1, none⟩))]) (obs := [.p ((sb_s : Option Addr) = some ⟨b1, o1, none⟩), .p (0 ≤ (i : Int) ∧ (i : Int) < ((m_.length : Nat) : Int))]) rfl (by kernel_rfl) ⟨hs1, hb1, trivial⟩ fun a hE => ?_
              refine WR.eff0 hE rfl rfl rfl (OpTo.storeSl (q := 0) (x' := x) hE H.t1 ecI_ok rfl hs1 ex1 rfl rfl rfl rfl rfl (Nat.le_of_ble_eq_true rfl) rfl) ?_
              rintro _ w H a hE
              try rw [← mSet_len m_ i x] at hE
              refine WR.done rfl ?_
              refine Runs.region ?_
              refine WR.seg hE 3 [] [0, 1, 5, 6] (Lo := [(0, .slice sb_s ((mSet m_ i x).length) sc_s), (1, .func (.func 121) #[] #[.pointer (some ⟨r, 0, none⟩)]), (5, .int .i64 (w64 (i + 1))), (6, .int .i64 j)]) (obs := []) rfl (by kernel_rfl) trivial fun a hE => ?_
              refine WR.done rfl ?_
              refine Runs.inBlock ?_
              cases hm
              exact hk _ _ ⟨hE.sel [0, 1, 5, 6] (by kernel_rfl), H.t1.t1⟩
            · replace hm := cond_f c hm
              refine Runs.skip ?_
              refine Runs.inBlock ?_
              cases hm
              exact hk _ _ ⟨hE.sel [0, 1, 5, 6] (by kernel_rfl), H.t1⟩
          rintro a w ⟨hE, H⟩
          refine Runs.region ?_
          refine WR.seg hE 3 [] [0, 1, 5, 6] (Lo := [(0, .slice sb_s s2.2.length sc_s), (1, .func (.func 121) #[] #[.pointer (some ⟨r, 0, none⟩)]), (5, .int .i64 s2.1), (6, .int .i64 (w64 (j + 1)))]) (obs := []) rfl (by kernel_rfl) trivial fun a hE => ?_
          refine WR.done rfl ?_
          exact ih m (Nat.lt_succ_self m) _ _ ⟨s2.1, w64 (j + 1), s2.2, hE.sel [0, 1, 5, 6] (by kernel_rfl), H.t1.t1, hm⟩
        · replace hm := cond_f c hm
          refine Runs.exit rfl ?_
          cases hm
          exact hk _ _ ⟨hE.sel [0, 5] (by kernel_rfl), H.t1.t1⟩
    rintro a w ⟨hE, H⟩
    refine Runs.seq ?_
    refine Runs.region ?_
    obtain ⟨l, el, hm⟩ := bind_some hm
    obtain ⟨sb, q⟩ : ∃ z, rebase sb_s sc_s (Int.toNat s1.1) 1 = z := ⟨_, rfl⟩
    obtain ⟨sc, q1⟩ : ∃ z, sc_s - (Int.toNat s1.1) = z := ⟨_, rfl⟩
    refine WR.seg hE 3 [.slice sb l.length sc] [0, 5, 38] (Lo := [(0, .slice sb_s s1.2.length sc_s), (5, .int .i64 s1.1), (38, .slice sb l.length sc)]) (obs := [.p (rebase sb_s sc_s (Int.toNat s1.1) 1 = sb), .p (s1.2.length - (Int.toNat s1.1) = l.length), .p (sc_s - (Int.toNat s1.1) = sc), .p (0 ≤ (s1.1 : Int) ∧ (s1.1 : Int) ≤ ((s1.2.length : Nat) : Int))]) rfl (by kernel_rfl) ⟨q, cut_len el, q1, cut_bd0 el, trivial⟩ fun a hE => ?_
    refine WR.eff0 hE rfl rfl rfl (OpTo.clearSl (z := 0) hE H ecI_ok el q q1 rfl rfl rfl rfl rfl rfl) ?_
    rintro _ w ⟨_, H⟩ a hE
    try rw [← mClear_len (z := 0) el] at hE
    refine WR.done rfl ?_
    refine Runs.seq ?_
    refine Runs.region ?_
    obtain ⟨l1, el1, hm⟩ := bind_some hm
    obtain ⟨sb1, q2⟩ : ∃ z, rebase sb_s sc_s (Int.toNat 0) 1 = z := ⟨_, rfl⟩
    obtain ⟨sc1, q3⟩ : ∃ z, sc_s - (Int.toNat 0) = z := ⟨_, rfl⟩
    refine WR.seg hE 4 [.slice sb1 l1.length sc1] [4] (Lo := [(4, .slice sb1 l1.length sc1)]) (obs := [.p (rebase sb_s sc_s 0 1 = sb1), .p ((Int.toNat s1.1) - 0 = l1.length), .p (sc_s - 0 = sc1), .p (0 ≤ (s1.1 : Int) ∧ (s1.1 : Int) ≤ ((sc_s : Nat) : Int))]) rfl (by kernel_rfl) ⟨q2, cut_len el1, q3, cut_cap el1 (H.slCap 0 rfl).1, trivial⟩ fun a hE => ?_
    refine WR.done rfl ?_
    replace H := H.slCut' ecI_ok el1 q2 q3
    refine Runs.ret hE Tryz.func120 rfl rfl ?_
    cases hm
    exact ⟨sb1, sc1, rfl, H.t1.t1⟩

theorem node_End_ok {w0 w : World} {As : List HP} {p_a_ : Nat} {al_a_ : arena_Arena.A} {a_ : arena_Arena} {n : Int} {t : Int × arena_Arena}  (hm : node_End a_ n = some t) (H : St w0 (arena_Arena.R p_a_ al_a_ a_ :: As) w) :
    CallsR Tryz.prog 123 #[.pointer (some ⟨p_a_, 0, none⟩), .int .i64 n] w fun v w' => ∃ (z_a__free_b : Option Addr), ∃ (z_a__free_c : Nat), v = .int .i64 t.1 ∧ St w0 (arena_Arena.R p_a_ (arena_Arena.A.mk al_a_.l_b al_a_.l_c z_a__free_b z_a__free_c al_a_.m__p) t.2 :: As) w' := by
  rw [node_End] at hm
  refine enter (args := [.pointer (some ⟨p_a_, 0, none⟩), .int .i64 n]) Tryz.func123 rfl rfl rfl fun a hE => ?_
  refine Runs.seq ?_
  refine Runs.region ?_
  refine WR.seg hE 1 [] [0, 1] (Lo := [(0, .pointer (some ⟨p_a_, 0, none⟩)), (1, .int .i64 n)]) (obs := []) rfl (by kernel_rfl) trivial fun a hE => ?_
  refine WR.done rfl ?_
  refine Runs.seq ?_
  refine Runs.region ?_
  refine WR.seg hE 2 [] [0, 1, 6, 7] (Lo := [(0, .pointer (some ⟨p_a_, 0, none⟩)), (1, .int .i64 n), (6, .pointer (some ⟨p_a_, 0, none⟩)), (7, .int .i64 n)]) (obs := []) rfl (by kernel_rfl) trivial fun a hE => ?_
  obtain ⟨t_, et_, hm⟩ := bind_some hm
  refine WR.eff hE rfl rfl rfl rfl (OpTo.fn hE rfl rfl Tryz.call73 (arena_Arena_Cell_ok et_ H)) ?_
  rintro _ w ⟨rfl, H⟩ a hE
  refine WR.seg hE 4 [] [0, 1, 5] (Lo := [(0, .pointer (some ⟨p_a_, 0, none⟩)), (1, .int .i64 n), (5, .int .i64 t_.1)]) (obs := []) rfl (by kernel_rfl) trivial fun a hE => ?_
  refine WR.done rfl ?_
  refine Runs.seq ?_
  refine Runs.region ?_
  refine WR.seg hE 2 [] [0, 1, 5, 9, 10] (Lo := [(0, .pointer (some ⟨p_a_, 0, none⟩)), (1, .int .i64 n), (5, .int .i64 t_.1), (9, .pointer (some ⟨p_a_, 0, none⟩)), (10, .int .i64 t_.1)]) (obs := []) rfl (by kernel_rfl) trivial fun a hE => ?_
  obtain ⟨t_1, et_1, hm⟩ := bind_some hm
  refine WR.eff hE rfl rfl rfl rfl (OpTo.fn hE rfl rfl Tryz.call53 (arena_Arena_Set_ok et_1 H)) ?_
  rintro _ w ⟨rfl, hf, H⟩ a hE
  refine WR.done rfl ?_
  refine Runs.seq ?_
  refine Runs.region ?_
  refine WR.seg hE 2 [] [5, 12, 13] (Lo := [(5, .int .i64 t_.1), (12, .pointer (some ⟨p_a_, 0, none⟩)), (13, .int .i64 n)]) (obs := []) rfl (by kernel_rfl) trivial fun a hE => ?_
  obtain ⟨t_2, et_2, hm⟩ := bind_some hm
  refine WR.eff hE rfl rfl rfl rfl (OpTo.fn hE rfl rfl Tryz.call25 (arena_Arena_Give_ok et_2 H)) ?_
  rintro _ w ⟨z, z1, rfl, H⟩ a hE
  refine WR.done rfl ?_
  refine Runs.seq ?_
  refine Runs.region ?_
  refine WR.seg hE 2 [] [4] (Lo := [(4, .int .i64 t_.1)]) (obs := []) rfl (by kernel_rfl) trivial fun a hE => ?_
  refine WR.done rfl ?_
  refine Runs.ret hE Tryz.func123 rfl rfl ?_
  cases hm
  exact ⟨z, z1, rfl, H⟩

theorem binomial_without_ok {w0 w : World} {As : List HP} {k : Nat} {p_a_ : Nat} {al_a_ : arena_Arena.A} {a_ : arena_Arena} {sb_l : Option Addr} {sc_l : Nat} {l : List Int} {n : Int} {t : Int × Int × arena_Arena}  (hm : binomial_without k a_ l n = some t) (H : St w0 (arena_Arena.R p_a_ al_a_ a_ :: Sl 3 ecI 1 sb_l sc_l l :: As) w) :
    CallsR Tryz.prog 59 #[.pointer (some ⟨p_a_, 0, none⟩), .slice sb_l l.length sc_l, .int .i64 n] w fun v w' => ∃ (z_a__free_b : Option Addr), ∃ (z_a__free_c : Nat), v = .tuple #[.int .i64 t.1, .int .i64 t.2.1] ∧ St w0 (arena_Arena.R p_a_ (arena_Arena.A.mk al_a_.l_b al_a_.l_c z_a__free_b z_a__free_c al_a_.m__p) t.2.2 :: As) w' := by
  rw [binomial_without] at hm
  refine enter (args := [.pointer (some ⟨p_a_, 0, none⟩), .slice sb_l l.length sc_l, .int .i64 n]) Tryz.func59 rfl rfl rfl fun a hE => ?_
  refine Runs.seq ?_
  refine Runs.region ?_
  refine WR.eff hE rfl rfl rfl rfl (OpTo.new hE H [] (.cells #[.int .i64 n] 3 (0, 0)) (fun r => .pointer (some ⟨r, 0, none⟩)) (obs := []) rfl (fun _ => by kernel_rfl) trivial) ?_
  rintro _ w ⟨r, rfl, H⟩ a hE
  refine WR.seg hE 3 [] [0, 1, 5] (Lo := [(0, .pointer (some ⟨p_a_, 0, none⟩)), (1, .slice sb_l l.length sc_l), (5, .pointer (some ⟨r, 0, none⟩))]) (obs := []) rfl (by kernel_rfl) trivial fun a hE => ?_
  refine WR.done rfl ?_
  refine Runs.seq ?_
  refine Runs.region ?_
  refine WR.seg hE 2 [] [0, 5, 10, 11] (Lo := [(0, .pointer (some ⟨p_a_, 0, none⟩)), (5, .pointer (some ⟨r, 0, none⟩)), (10, .slice sb_l l.length sc_l), (11, .func (.func 121) #[] #[.pointer (some ⟨r, 0, none⟩)])]) (obs := []) rfl (by kernel_rfl) trivial fun a hE => ?_
  obtain ⟨t_, et_, hm⟩ := bind_some hm
  refine WR.eff hE rfl rfl rfl rfl (OpTo.fn hE rfl rfl Tryz.call120 (slices_DeleteFunc_int_g121_ok et_ H.t2)) ?_
  rintro _ w ⟨sb, sc, rfl, H⟩ a hE
  refine WR.seg hE 4 [] [0, 5, 8] (Lo := [(0, .pointer (some ⟨p_a_, 0, none⟩)), (5, .pointer (some ⟨r, 0, none⟩)), (8, .slice sb t_.length sc)]) (obs := []) rfl (by kernel_rfl) trivial fun a hE => ?_
  refine WR.done rfl ?_
  refine Runs.seq ?_
  refine Runs.region ?_
  refine WR.seg hE 3 [.int .i64 n] [0, 5, 8, 13, 14, 15] (Lo := [(0, .pointer (some ⟨p_a_, 0, none⟩)), (5, .pointer (some ⟨r, 0, none⟩)), (8, .slice sb t_.length sc), (13, .slice sb t_.length sc), (14, .pointer (some ⟨p_a_, 0, none⟩)), (15, .int .i64 n)]) (obs := [.cell ⟨r, 0, none⟩ (.int .i64 n)]) rfl (by kernel_rfl) ⟨H.cell 1 rfl rfl, trivial⟩ fun a hE => ?_
  obtain ⟨t_1, et_1, hm⟩ := bind_some hm
  refine WR.eff hE rfl rfl rfl rfl (OpTo.fn hE rfl rfl Tryz.call122 (trees_Kids_ok et_1 H.t2)) ?_
  rintro _ w ⟨sb1, sc1, rfl, H⟩ a hE
  obtain ⟨l1, el1, hm⟩ := bind_some hm
  replace H := H.t2
  refine WR.eff hE rfl rfl rfl rfl (OpTo.appendM el1 hE H ecI_ok rfl rfl rfl rfl rfl rfl rfl rfl rfl rfl (SlRd.all (sl_rd 3 ecI 1 _ _ _) ecI_ok H 1 rfl) rfl) ?_
  rintro _ w ⟨sb2, sc2, rfl, H⟩ a hE
  refine WR.seg hE 6 [] [0, 5, 8] (Lo := [(0, .pointer (some ⟨p_a_, 0, none⟩)), (5, .pointer (some ⟨r, 0, none⟩)), (8, .slice sb2 l1.length sc2)]) (obs := []) rfl (by kernel_rfl) trivial fun a hE => ?_
  refine WR.done rfl ?_
  refine Runs.seq ?_
  refine Runs.region ?_
  refine WR.seg hE 2 [.int .i64 n] [0, 8, 18, 19] (Lo := [(0, .pointer (some ⟨p_a_, 0, none⟩)), (8, .slice sb2 l1.length sc2), (18, .pointer (some ⟨p_a_, 0, none⟩)), (19, .int .i64 n)]) (obs := [.cell ⟨r, 0, none⟩ (.int .i64 n)]) rfl (by kernel_rfl) ⟨H.cell 3 rfl rfl, trivial⟩ fun a hE => ?_
  obtain ⟨t_2, et_2, hm⟩ := bind_some hm
  refine WR.eff hE rfl rfl rfl rfl (OpTo.fn hE rfl rfl Tryz.call123 (node_End_ok et_2 H.t2)) ?_
  rintro _ w ⟨z, z1, rfl, H⟩ a hE
  refine WR.seg hE 4 [] [0, 8, 9] (Lo := [(0, .pointer (some ⟨p_a_, 0, none⟩)), (8, .slice sb2 l1.length sc2), (9, .int .i64 t_2.1)]) (obs := []) rfl (by kernel_rfl) trivial fun a hE => ?_
  refine WR.done rfl ?_
  refine Runs.seq ?_
  refine Runs.region ?_
  refine WR.seg hE 2 [] [9, 21, 22] (Lo := [(9, .int .i64 t_2.1), (21, .pointer (some ⟨p_a_, 0, none⟩)), (22, .slice sb2 l1.length sc2)]) (obs := []) rfl (by kernel_rfl) trivial fun a hE => ?_
  obtain ⟨t_3, et_3, hm⟩ := bind_some hm
  replace H := H.t1.t1
  refine WR.eff hE rfl rfl rfl rfl (OpTo.fn hE rfl rfl Tryz.call55 (trees_Carry_ok (hX_l := (sl_rd 3 ecI 1 _ _ _)) (hC_l := (H.slCap 1 rfl).1) et_3 H)) ?_
  rintro _ w ⟨rfl, H⟩ a hE
  refine WR.seg hE 6 [] [6, 7] (Lo := [(6, .int .i64 t_3.1), (7, .int .i64 t_2.1)]) (obs := []) rfl (by kernel_rfl) trivial fun a hE => ?_
  refine WR.done rfl ?_
  refine Runs.ret hE Tryz.func59 rfl rfl ?_
  cases hm
  exact ⟨z, z1, rfl, H.x3.x2.x1⟩

theorem binomial_Cut_ok {w0 w : World} {As : List HP} {k : Nat} {p_a_ : Nat} {al_a_ : arena_Arena.A} {a_ : arena_Arena} {r : Int} {i : Int} {t : Int × arena_Arena}  (hm : binomial_Cut k a_ r i = some t) (H : St w0 (arena_Arena.R p_a_ al_a_ a_ :: As) w) :
    CallsR Tryz.prog 74 #[.pointer (some ⟨p_a_, 0, none⟩), .int .i64 r, .int .i64 i] w fun v w' => ∃ (z_a__free_b : Option Addr), ∃ (z_a__free_c : Nat), v = .int .i64 t.1 ∧ St w0 (arena_Arena.R p_a_ (arena_Arena.A.mk al_a_.l_b al_a_.l_c z_a__free_b z_a__free_c al_a_.m__p) t.2 :: As) w' := by
  rw [binomial_Cut] at hm
  refine enter (args := [.pointer (some ⟨p_a_, 0, none⟩), .int .i64 r, .int .i64 i]) Tryz.func74 rfl rfl rfl fun a hE => ?_
  refine Runs.seq ?_
  refine Runs.region ?_
  refine WR.seg hE 1 [] [0, 1, 2] (Lo := [(0, .pointer (some ⟨p_a_, 0, none⟩)), (1, .int .i64 r), (2, .int .i64 i)]) (obs := []) rfl (by kernel_rfl) trivial fun a hE => ?_
  refine WR.done rfl ?_
  refine Runs.seq ?_
  refine Runs.seq ?_
  refine Runs.region ?_
  refine WR.seg hE 2 [] [0, 1, 2, 12] (Lo := [(0, .pointer (some ⟨p_a_, 0, none⟩)), (1, .int .i64 r), (2, .int .i64 i), (12, .bool false)]) (obs := []) rfl (by kernel_rfl) trivial fun a hE => ?_
  refine WR.done rfl ?_
  refine Runs.condF hE rfl ?_
  refine Runs.skip ?_
  refine Runs.seq ?_
  refine Runs.seq ?_
  refine Runs.region ?_
  refine WR.seg hE 2 [] [0, 1, 2, 13, 14] (Lo := [(0, .pointer (some ⟨p_a_, 0, none⟩)), (1, .int .i64 r), (2, .int .i64 i), (13, .pointer (some ⟨p_a_, 0, none⟩)), (14, .int .i64 i)]) (obs := []) rfl (by kernel_rfl) trivial fun a hE => ?_
  obtain ⟨t_, et_, hm⟩ := bind_some hm
  refine WR.eff hE rfl rfl rfl rfl (OpTo.fn hE rfl rfl Tryz.call65 (item_Node_ok et_ H)) ?_
  rintro _ w ⟨rfl, H⟩ a hE
  refine WR.seg hE 4 [] [0, 1, 2, 16] (Lo := [(0, .pointer (some ⟨p_a_, 0, none⟩)), (1, .int .i64 r), (2, .int .i64 i), (16, .bool (t_.1 == (-1)))]) (obs := []) rfl (by kernel_rfl) trivial fun a hE => ?_
  refine WR.done rfl ?_
  refine Runs.cond hE rfl (fun c => ?_) (fun c => ?_)
  · replace hm := cond_t c hm
    refine Runs.seq ?_
    refine Runs.region ?_
    refine WR.seg hE 2 [] [6] (Lo := [(6, .int .i64 r)]) (obs := []) rfl (by kernel_rfl) trivial fun a hE => ?_
    refine WR.done rfl ?_
    refine Runs.ret hE Tryz.func74 rfl rfl ?_
    cases hm
    exact ⟨al_a_.free_b, al_a_.free_c, rfl, H⟩
  · replace hm := cond_f c hm
    refine Runs.skip ?_
    refine Runs.seq ?_
    refine Runs.region ?_
    refine WR.seg hE 2 [] [0, 1, 18, 19] (Lo := [(0, .pointer (some ⟨p_a_, 0, none⟩)), (1, .int .i64 r), (18, .pointer (some ⟨p_a_, 0, none⟩)), (19, .int .i64 i)]) (obs := []) rfl (by kernel_rfl) trivial fun a hE => ?_
    obtain ⟨t_1, et_1, hm⟩ := bind_some hm
    refine WR.eff hE rfl rfl rfl rfl (OpTo.fn hE rfl rfl Tryz.call130 (trees_Rise_ok et_1 H)) ?_
    rintro _ w ⟨rfl, H⟩ a hE
    refine WR.seg hE 4 [] [0, 1, 7] (Lo := [(0, .pointer (some ⟨p_a_, 0, none⟩)), (1, .int .i64 r), (7, .int .i64 t_1.1)]) (obs := []) rfl (by kernel_rfl) trivial fun a hE => ?_
    refine WR.done rfl ?_
    refine Runs.seq ?_
    refine Runs.region ?_
    refine WR.seg hE 2 [] [0, 1, 7, 21, 22] (Lo := [(0, .pointer (some ⟨p_a_, 0, none⟩)), (1, .int .i64 r), (7, .int .i64 t_1.1), (21, .pointer (some ⟨p_a_, 0, none⟩)), (22, .int .i64 r)]) (obs := []) rfl (by kernel_rfl) trivial fun a hE => ?_
    obtain ⟨t_2, et_2, hm⟩ := bind_some hm
    refine WR.eff hE rfl rfl rfl rfl (OpTo.fn hE rfl rfl Tryz.call56 (trees_List_ok et_2 H)) ?_
    rintro _ w ⟨sb, sc, rfl, H⟩ a hE
    refine WR.seg hE 4 [] [0, 1, 7, 8] (Lo := [(0, .pointer (some ⟨p_a_, 0, none⟩)), (1, .int .i64 r), (7, .int .i64 t_1.1), (8, .slice sb t_2.1.length sc)]) (obs := []) rfl (by kernel_rfl) trivial fun a hE => ?_
    refine WR.done rfl ?_
    refine Runs.seq ?_
    refine Runs.seq ?_
    refine Runs.region ?_
    refine WR.seg hE 2 [] [0, 1, 7, 8, 24, 25] (Lo := [(0, .pointer (some ⟨p_a_, 0, none⟩)), (1, .int .i64 r), (7, .int .i64 t_1.1), (8, .slice sb t_2.1.length sc), (24, .slice sb t_2.1.length sc), (25, .int .i64 t_1.1)]) (obs := []) rfl (by kernel_rfl) trivial fun a hE => ?_
    obtain ⟨t_3, et_3, hm⟩ := bind_some hm
    refine WR.eff hE rfl rfl rfl rfl (OpTo.fn hE rfl rfl Tryz.call131 (slices_Contains_int_ok (hX_s := (sl_rd 3 ecI 1 _ _ _)) (hC_s := (H.slCap 0 rfl).1) et_3 H)) ?_
    rintro _ w ⟨rfl, H⟩ a hE
    refine WR.seg hE 4 [] [0, 1, 7, 8, 27] (Lo := [(0, .pointer (some ⟨p_a_, 0, none⟩)), (1, .int .i64 r), (7, .int .i64 t_1.1), (8, .slice sb t_2.1.length sc), (27, .bool (!t_3))]) (obs := []) rfl (by kernel_rfl) trivial fun a hE => ?_
    refine WR.done rfl ?_
    refine Runs.cond hE rfl (fun c => ?_) (fun c => ?_)
    · replace hm := cond_t c hm
      refine Runs.seq ?_
      refine Runs.region ?_
      refine WR.seg hE 2 [] [6] (Lo := [(6, .int .i64 r)]) (obs := []) rfl (by kernel_rfl) trivial fun a hE => ?_
      refine WR.done rfl ?_
      refine Runs.ret hE Tryz.func74 rfl rfl ?_
      cases hm
      exact ⟨al_a_.free_b, al_a_.free_c, rfl, H.x0⟩
    · replace hm := cond_f c hm
      refine Runs.skip ?_
      refine Runs.seq ?_
      refine Runs.region ?_
      refine WR.seg hE 3 [] [30, 31, 32] (Lo := [(30, .pointer (some ⟨p_a_, 0, none⟩)), (31, .slice sb t_2.1.length sc), (32, .int .i64 t_1.1)]) (obs := []) rfl (by kernel_rfl) trivial fun a hE => ?_
      obtain ⟨t_4, et_4, hm⟩ := bind_some hm
      refine WR.eff hE rfl rfl rfl rfl (OpTo.fn hE rfl rfl Tryz.call59 (binomial_without_ok et_4 H.t1)) ?_
      rintro _ w ⟨z, z1, rfl, H⟩ a hE
      refine WR.seg hE 9 [] [9] (Lo := [(9, .int .i64 t_4.1)]) (obs := []) rfl (by kernel_rfl) trivial fun a hE => ?_
      refine WR.done rfl ?_
      refine Runs.seq ?_
      refine Runs.region ?_
      refine WR.seg hE 2 [] [6] (Lo := [(6, .int .i64 t_4.1)]) (obs := []) rfl (by kernel_rfl) trivial fun a hE => ?_
      refine WR.done rfl ?_
      refine Runs.ret hE Tryz.func74 rfl rfl ?_
      cases hm
      exact ⟨z, z1, rfl, H⟩

theorem thicketlaw9_world_cut_at0_ok {w0 w : World} {As : List HP} {k : Nat} {p_w_ : Nat} {al_w_ : thicketlaw9_world.A} {w_ : thicketlaw9_world} {at_ : Int} {t : Bool × thicketlaw9_world}  (hm : thicketlaw9_world_cut_at0 k w_ at_ = some t) (H : St w0 (thicketlaw9_world.R p_w_ al_w_ w_ :: As) w) :
    CallsR Tryz.prog 34 #[.pointer (some ⟨p_w_, 0, none⟩), .int .i64 0, .int .i64 at_] w fun v w' => ∃ (z_w__a__a : arena_Arena.A), ∃ (z_w__has0_b : Option Addr), ∃ (z_w__has0_c : Nat), v = .bool t.1 ∧ St w0 (thicketlaw9_world.R p_w_ (thicketlaw9_world.A.mk al_w_.a__p z_w__a__a z_w__has0_b z_w__has0_c al_w_.has1_b al_w_.has1_c) t.2 :: As) w' := by
  rw [thicketlaw9_world_cut_at0] at hm
  refine enter (args := [.pointer (some ⟨p_w_, 0, none⟩), .int .i64 0, .int .i64 at_]) Tryz.func34 rfl rfl rfl fun a hE => ?_
  refine Runs.seq ?_
  refine Runs.region ?_
  refine WR.seg hE 1 [] [0, 1, 2] (Lo := [(0, .pointer (some ⟨p_w_, 0, none⟩)), (1, .int .i64 0), (2, .int .i64 at_)]) (obs := []) rfl (by kernel_rfl) trivial fun a hE => ?_
  refine WR.done rfl ?_
  refine Runs.seq ?_
  refine Runs.seq ?_
  refine Runs.region ?_
  replace H := thicketlaw9_world.open H
  refine WR.seg hE 8 [.slice al_w_.has0_b w_.has0.length al_w_.has0_c] [0, 1, 2, 18] (Lo := [(0, .pointer (some ⟨p_w_, 0, none⟩)), (1, .int .i64 0), (2, .int .i64 at_), (18, .bool ((w_.has0.length : Int) == 0))]) (obs := [.p (0 ≤ (0 : Int) ∧ (0 : Int) < ((2 : Nat) : Int)), .cell ⟨p_w_, 3, none⟩ (.slice al_w_.has0_b w_.has0.length al_w_.has0_c)]) rfl (by kernel_rfl) ⟨⟨by decide, by decide⟩, H.cell 0 rfl rfl, trivial⟩ fun a hE => ?_
  refine WR.done rfl ?_
  refine Runs.cond hE rfl (fun c => ?_) (fun c => ?_)
  · replace hm := cond_t c hm
    refine Runs.seq ?_
    refine Runs.region ?_
    refine WR.seg hE 1 [] [6] (Lo := [(6, .bool true)]) (obs := []) rfl (by kernel_rfl) trivial fun a hE => ?_
    refine WR.done rfl ?_
    replace H := thicketlaw9_world.shut al_w_ (w_) H.t3.t3.t3.t3
    refine Runs.ret hE Tryz.func34 rfl rfl ?_
    cases hm
    exact ⟨al_w_.a__a, al_w_.has0_b, al_w_.has0_c, rfl, H⟩
  · replace hm := cond_f c hm
    refine Runs.skip ?_
    refine Runs.seq ?_
    refine Runs.region ?_
    refine WR.seg hE 9 [.slice al_w_.has0_b w_.has0.length al_w_.has0_c] [0, 1, 19, 27] (Lo := [(0, .pointer (some ⟨p_w_, 0, none⟩)), (1, .int .i64 0), (19, .int .i64 at_), (27, .int .i64 (w64 ((w_.has0.length : Int) - 1)))]) (obs := [.p (0 ≤ (0 : Int) ∧ (0 : Int) < ((2 : Nat) : Int)), .cell ⟨p_w_, 3, none⟩ (.slice al_w_.has0_b w_.has0.length al_w_.has0_c)]) rfl (by kernel_rfl) ⟨⟨by decide, by decide⟩, H.cell 0 rfl rfl, trivial⟩ fun a hE => ?_
    obtain ⟨t_, et_, hm⟩ := bind_some hm
    refine WR.eff hE rfl rfl rfl rfl (OpTo.fn hE rfl rfl Tryz.call16 (thicketbook_Within_ok et_ H)) ?_
    rintro _ w ⟨rfl, H⟩ a hE
    refine WR.seg hE 11 [] [0, 1, 7] (Lo := [(0, .pointer (some ⟨p_w_, 0, none⟩)), (1, .int .i64 0), (7, .int .i64 t_)]) (obs := []) rfl (by kernel_rfl) trivial fun a hE => ?_
    refine WR.done rfl ?_
    refine Runs.seq ?_
    refine Runs.region ?_
    obtain ⟨x, ex, hm⟩ := bind_some hm
    obtain ⟨b, o, hs, hb⟩ := SlRd.base (sl_rd 58 thicketlaw9_held.enc 3 _ _ _) thicketlaw9_held.enc_ok H 2 rfl ex
    refine WR.seg hE 11 [.slice al_w_.has0_b w_.has0.length al_w_.has0_c, .pointer (some ⟨b, o, none⟩), .int .i64 x.cell] [0, 1, 7, 8] (Lo := [(0, .pointer (some ⟨p_w_, 0, none⟩)), (1, .int .i64 0), (7, .int .i64 t_), (8, .int .i64 x.cell)]) (obs := [.p (0 ≤ (0 : Int) ∧ (0 : Int) < ((2 : Nat) : Int)), .cell ⟨p_w_, 3, none⟩ (.slice al_w_.has0_b w_.has0.length al_w_.has0_c), .p ((al_w_.has0_b : Option Addr) = some ⟨b, o, none⟩), .p (0 ≤ (t_ : Int) ∧ (t_ : Int) < ((w_.has0.length : Nat) : Int)), .cell ⟨b, o + (Int.toNat t_) * 3, none⟩ (.int .i64 x.cell)]) rfl (by kernel_rfl) ⟨⟨by decide, by decide⟩, H.cell 0 rfl rfl, hs, hb, SlRd.cells (sl_rd 58 thicketlaw9_held.enc 3 _ _ _) thicketlaw9_held.enc_ok H 2 rfl hs ex 0 _ rfl, trivial⟩ fun a hE => ?_
    refine WR.done rfl ?_
    refine Runs.seq ?_
    refine Runs.region ?_
    refine WR.seg hE 4 [.pointer (some ⟨al_w_.a__p, 0, none⟩)] [0, 1, 7, 8, 42] (Lo := [(0, .pointer (some ⟨p_w_, 0, none⟩)), (1, .int .i64 0), (7, .int .i64 t_), (8, .int .i64 x.cell), (42, .pointer (some ⟨al_w_.a__p, 0, none⟩))]) (obs := [.cell ⟨p_w_, 0, none⟩ (.pointer (some ⟨al_w_.a__p, 0, none⟩))]) rfl (by kernel_rfl) ⟨H.cell 0 rfl rfl, trivial⟩ fun a hE => ?_
    obtain ⟨t_1, et_1, hm⟩ := bind_some hm
    refine WR.eff hE rfl rfl rfl rfl (OpTo.fn hE rfl rfl Tryz.call18 (arena_Arena_Meter_ok et_1 H.t1)) ?_
    rintro _ w ⟨rfl, H⟩ a hE
    replace H := arena_Arena.open H
    obtain ⟨t_2, et_2, hm⟩ := bind_some hm
    refine WR.eff hE rfl rfl rfl rfl (OpTo.fn hE rfl rfl Tryz.call19 (meter_Meter_Steps_ok et_2 H.t3)) ?_
    rintro _ w ⟨rfl, H⟩ a hE
    refine WR.seg hE 7 [] [0, 1, 7, 8, 9] (Lo := [(0, .pointer (some ⟨p_w_, 0, none⟩)), (1, .int .i64 0), (7, .int .i64 t_), (8, .int .i64 x.cell), (9, .int .i64 t_2)]) (obs := []) rfl (by kernel_rfl) trivial fun a hE => ?_
    refine WR.done rfl ?_
    refine Runs.seq ?_
    refine Runs.drawn mixed (by kernel_rfl) ?_
    replace H := H.drew
    refine WQ.seg hE [0, 1, 2, 3, 4, 5, 6, 7, 8, 9, 10] [.pointer (some ⟨al_w_.a__p, 0, none⟩), .int .i64 w_.root0] [0, 1, 7, 8, 9, 48, 54, 55] (Lo := [(0, .pointer (some ⟨p_w_, 0, none⟩)), (1, .int .i64 0), (7, .int .i64 t_), (8, .int .i64 x.cell), (9, .int .i64 t_2), (48, .pointer (some ⟨al_w_.a__p, 0, none⟩)), (54, .int .i64 w_.root0), (55, .int .i64 x.cell)]) (obs := [.cell ⟨p_w_, 0, none⟩ (.pointer (some ⟨al_w_.a__p, 0, none⟩)), .p (0 ≤ (0 : Int) ∧ (0 : Int) < ((2 : Nat) : Int)), .cell ⟨p_w_, 1, none⟩ (.int .i64 w_.root0)]) (by kernel_rfl) (by kernel_rfl) ⟨H.cell 4 rfl rfl, ⟨by decide, by decide⟩, H.cell 4 rfl rfl, trivial⟩ fun a hE => ?_
    replace H := arena_Arena.shut al_w_.a__a (w_.a_) H.t3.t3.t3
    obtain ⟨t_3, et_3, hm⟩ := bind_some hm
    refine WQ.eff (j := 11) (obs := []) hE (by kernel_rfl) rfl rfl rfl rfl (by kernel_rfl) (OpTo.fn hE rfl rfl Tryz.call74 (binomial_Cut_ok et_3 H)) ?_
    rintro _ w ⟨z, z1, rfl, H⟩
    refine ⟨trivial, fun a hE => ?_⟩
    refine WQ.seg hE [12] [] [0, 1, 7, 8, 9, 10] (Lo := [(0, .pointer (some ⟨p_w_, 0, none⟩)), (1, .int .i64 0), (7, .int .i64 t_), (8, .int .i64 x.cell), (9, .int .i64 t_2), (10, .int .i64 t_3.1)]) (obs := []) (by kernel_rfl) (by kernel_rfl) trivial fun a hE => ?_
    refine WQ.done (by kernel_rfl) ?_
    refine Runs.seq ?_
    refine Runs.seq ?_
    refine Runs.region ?_
    refine WR.seg hE 9 [.slice al_w_.has0_b w_.has0.length al_w_.has0_c] [0, 1, 7, 8, 10, 57, 58, 65] (Lo := [(0, .pointer (some ⟨p_w_, 0, none⟩)), (1, .int .i64 0), (7, .int .i64 t_), (8, .int .i64 x.cell), (10, .int .i64 t_3.1), (57, .pointer (some ⟨p_w_, 0, none⟩)), (58, .int .i64 t_2), (65, .int .i64 (w_.has0.length : Int))]) (obs := [.p (0 ≤ (0 : Int) ∧ (0 : Int) < ((2 : Nat) : Int)), .cell ⟨p_w_, 3, none⟩ (.slice al_w_.has0_b w_.has0.length al_w_.has0_c)]) rfl (by kernel_rfl) ⟨⟨by decide, by decide⟩, H.cell 1 rfl rfl, trivial⟩ fun a hE => ?_
    replace H := thicketlaw9_world.shut (thicketlaw9_world.A.mk al_w_.a__p (arena_Arena.A.mk al_w_.a__a.l_b al_w_.a__a.l_c z z1 al_w_.a__a.m__p) al_w_.has0_b al_w_.has0_c al_w_.has1_b al_w_.has1_c) (thicketlaw9_world.mk t_3.2 w_.root0 w_.root1 w_.has0 w_.has1 w_.next w_.spent w_.most) H.t3.t3.t2.t3
    obtain ⟨t_4, et_4, hm⟩ := bind_some hm
    refine WR.eff hE rfl rfl rfl rfl (OpTo.fn hE rfl rfl Tryz.call21 (thicketlaw9_world_cost_ok et_4 H)) ?_
    rintro _ w ⟨rfl, hf, hf1, H⟩ a hE
    refine WR.seg hE 11 [] [0, 1, 7, 8, 10, 67] (Lo := [(0, .pointer (some ⟨p_w_, 0, none⟩)), (1, .int .i64 0), (7, .int .i64 t_), (8, .int .i64 x.cell), (10, .int .i64 t_3.1), (67, .bool (!t_4.1))]) (obs := []) rfl (by kernel_rfl) trivial fun a hE => ?_
    refine WR.done rfl ?_
    refine Runs.cond hE rfl (fun c => ?_) (fun c => ?_)
    · replace hm := cond_t c hm
      refine Runs.seq ?_
      refine Runs.region ?_
      refine WR.seg hE 1 [] [6] (Lo := [(6, .bool false)]) (obs := []) rfl (by kernel_rfl) trivial fun a hE => ?_
      refine WR.done rfl ?_
      refine Runs.ret hE Tryz.func34 rfl rfl ?_
      cases hm
      exact ⟨arena_Arena.A.mk al_w_.a__a.l_b al_w_.a__a.l_c z z1 al_w_.a__a.m__p, al_w_.has0_b, al_w_.has0_c, rfl, H⟩
    · replace hm := cond_f c hm
      refine Runs.skip ?_
      refine Runs.seq ?_
      refine Runs.region ?_
      refine WR.seg hE 6 [] [0, 1, 7, 8, 70, 73] (Lo := [(0, .pointer (some ⟨p_w_, 0, none⟩)), (1, .int .i64 0), (7, .int .i64 t_), (8, .int .i64 x.cell), (70, .int .i64 t_3.1), (73, .pointer (some ⟨p_w_, 1, none⟩))]) (obs := [.p (0 ≤ (0 : Int) ∧ (0 : Int) < ((2 : Nat) : Int))]) rfl (by kernel_rfl) ⟨⟨by decide, by decide⟩, trivial⟩ fun a hE => ?_
      replace H := thicketlaw9_world.open H
      try rw [hf] at H
      try rw [hf1] at H
      try dsimp only at H
      refine WR.eff0 hE rfl rfl rfl (OpTo.store hE H rfl rfl rfl rfl rfl rfl (Nat.le_of_ble_eq_true rfl)) ?_
      rintro _ w H a hE
      refine WR.done rfl ?_
      refine Runs.seq ?_
      refine Runs.drawn mixed (by kernel_rfl) ?_
      replace H := H.drew
      refine WQ.seg hE [0, 1, 2, 3, 4, 5, 6, 7, 8, 10, 11] [.slice al_w_.has0_b w_.has0.length al_w_.has0_c] [0, 8, 75, 81, 82, 85] (Lo := [(0, .pointer (some ⟨p_w_, 0, none⟩)), (8, .int .i64 x.cell), (75, .int .i64 0), (81, .slice al_w_.has0_b w_.has0.length al_w_.has0_c), (82, .int .i64 t_), (85, .pointer (some ⟨p_w_, 3, none⟩))]) (obs := [.p (0 ≤ (0 : Int) ∧ (0 : Int) < ((2 : Nat) : Int)), .cell ⟨p_w_, 3, none⟩ (.slice al_w_.has0_b w_.has0.length al_w_.has0_c)]) (by kernel_rfl) (by kernel_rfl) ⟨⟨by decide, by decide⟩, H.cell 0 rfl rfl, trivial⟩ fun a hE => ?_
      obtain ⟨t_5, et_5, hm⟩ := bind_some hm
      replace H := H.t2
      refine WQ.eff (j := 9) (obs := []) hE (by kernel_rfl) rfl rfl rfl rfl (by kernel_rfl) (OpTo.fn hE rfl rfl Tryz.call66 (thicketlaw9_without_ok (hX_l := (sl_rd 58 thicketlaw9_held.enc 3 _ _ _)) (hC_l := (H.slCap 0 rfl).1) et_5 H)) ?_
      rintro _ w ⟨sb, sc, rfl, H⟩
      refine ⟨trivial, fun a hE => ?_⟩
      refine WQ.seg hE [12] [] [0, 8, 83, 86] (Lo := [(0, .pointer (some ⟨p_w_, 0, none⟩)), (8, .int .i64 x.cell), (83, .slice sb t_5.length sc), (86, .pointer (some ⟨p_w_, 3, none⟩))]) (obs := [.p (0 ≤ (0 : Int) ∧ (0 : Int) < ((2 : Nat) : Int))]) (by kernel_rfl) (by kernel_rfl) ⟨⟨by decide, by decide⟩, trivial⟩ fun a hE => ?_
      refine WQ.eff0 (j := 13) (obs := []) hE (by kernel_rfl) rfl rfl rfl (by kernel_rfl) (OpTo.store hE H.t2 rfl rfl rfl rfl rfl rfl (Nat.le_of_ble_eq_true rfl)) ?_
      rintro _ w H
      refine ⟨trivial, fun a hE => ?_⟩
      refine WQ.done (by kernel_rfl) ?_
      refine Runs.seq ?_
      replace H := thicketlaw9_world.shut (thicketlaw9_world.A.mk al_w_.a__p (arena_Arena.A.mk al_w_.a__a.l_b al_w_.a__a.l_c z z1 al_w_.a__a.m__p) sb sc al_w_.has1_b al_w_.has1_c) (thicketlaw9_world.mk t_4.2.a_ t_3.1 t_4.2.root1 t_5 w_.has1 t_4.2.next t_4.2.spent t_4.2.most) H.t4.t2.t4.t3
      obtain ⟨s, es, hm⟩ := bind_some hm
      refine Runs.join (fun a w => ∃ (z2 : arena_Arena.A), EnvOk 102 a [(6, .bool s.1)] ∧ St w0 (thicketlaw9_world.R p_w_ (thicketlaw9_world.A.mk al_w_.a__p z2 sb sc al_w_.has1_b al_w_.has1_c) s.2 :: As) w) (fun hk => ?_) ?_
      · replace hm := es; clear es
        refine Runs.region ?_
        replace H := thicketlaw9_world.open H
        try dsimp only at H
        refine WR.seg hE 5 [.pointer (some ⟨al_w_.a__p, 0, none⟩)] [0, 8, 90, 91] (Lo := [(0, .pointer (some ⟨p_w_, 0, none⟩)), (8, .int .i64 x.cell), (90, .pointer (some ⟨al_w_.a__p, 0, none⟩)), (91, .int .i64 x.cell)]) (obs := [.cell ⟨p_w_, 0, none⟩ (.pointer (some ⟨al_w_.a__p, 0, none⟩))]) rfl (by kernel_rfl) ⟨H.cell 0 rfl rfl, trivial⟩ fun a hE => ?_
        obtain ⟨t_6, et_6, hm⟩ := bind_some hm
        refine WR.eff hE rfl rfl rfl rfl (OpTo.fn hE rfl rfl Tryz.call65 (item_Node_ok et_6 H.t1)) ?_
        rintro _ w ⟨rfl, H⟩ a hE
        refine WR.seg hE 8 [] [0, 8, 94] (Lo := [(0, .pointer (some ⟨p_w_, 0, none⟩)), (8, .int .i64 x.cell), (94, .bool (t_6.1 == (-1)))]) (obs := []) rfl (by kernel_rfl) trivial fun a hE => ?_
        rcases Bool.eq_false_or_eq_true (t_6.1 == (-1)) with c | c
        · replace hE := hE.dec 94 c (by kernel_rfl)
          replace hm := cond_t c hm
          have c_ := c
          refine WR.seg hE 13 [.pointer (some ⟨al_w_.a__p, 0, none⟩)] [94, 98, 99] (Lo := [(94, .bool true), (98, .pointer (some ⟨al_w_.a__p, 0, none⟩)), (99, .int .i64 x.cell)]) (obs := [.cell ⟨p_w_, 0, none⟩ (.pointer (some ⟨al_w_.a__p, 0, none⟩))]) rfl (by kernel_rfl) ⟨H.cell 1 rfl rfl, trivial⟩ fun a hE => ?_
          obtain ⟨t_7, et_7, hm⟩ := bind_some hm
          refine WR.eff hE rfl rfl rfl rfl (OpTo.fn hE rfl rfl Tryz.call25 (arena_Arena_Give_ok et_7 H)) ?_
          rintro _ w ⟨z3, z4, rfl, H⟩ a hE
          refine WR.seg hE 16 [] [6] (Lo := [(6, .bool t_7.1)]) (obs := []) rfl (by kernel_rfl) trivial fun a hE => ?_
          refine WR.done rfl ?_
          replace H := thicketlaw9_world.shut (thicketlaw9_world.A.mk al_w_.a__p (arena_Arena.A.mk ((arena_Arena.A.mk al_w_.a__a.l_b al_w_.a__a.l_c z z1 al_w_.a__a.m__p).l_b) ((arena_Arena.A.mk al_w_.a__a.l_b al_w_.a__a.l_c z z1 al_w_.a__a.m__p).l_c) z3 z4 ((arena_Arena.A.mk al_w_.a__a.l_b al_w_.a__a.l_c z z1 al_w_.a__a.m__p).m__p)) sb sc al_w_.has1_b al_w_.has1_c) (thicketlaw9_world.mk t_7.2 t_3.1 t_4.2.root1 t_5 w_.has1 t_4.2.next t_4.2.spent t_4.2.most) H.t3.t3.t2.t3
          cases hm
          exact hk _ _ ⟨arena_Arena.A.mk ((arena_Arena.A.mk al_w_.a__a.l_b al_w_.a__a.l_c z z1 al_w_.a__a.m__p).l_b) ((arena_Arena.A.mk al_w_.a__a.l_b al_w_.a__a.l_c z z1 al_w_.a__a.m__p).l_c) z3 z4 ((arena_Arena.A.mk al_w_.a__a.l_b al_w_.a__a.l_c z z1 al_w_.a__a.m__p).m__p), hE.sel [6] (by kernel_rfl), H.x1⟩
        · replace hE := hE.dec 94 c (by kernel_rfl)
          replace hm := cond_f c hm
          have c_1 := c
          refine WR.seg hE 16 [] [6] (Lo := [(6, .bool false)]) (obs := []) rfl (by kernel_rfl) trivial fun a hE => ?_
          refine WR.done rfl ?_
          replace H := thicketlaw9_world.shut (thicketlaw9_world.A.mk al_w_.a__p (arena_Arena.A.mk al_w_.a__a.l_b al_w_.a__a.l_c z z1 al_w_.a__a.m__p) sb sc al_w_.has1_b al_w_.has1_c) (thicketlaw9_world.mk t_6.2 t_3.1 t_4.2.root1 t_5 w_.has1 t_4.2.next t_4.2.spent t_4.2.most) H.t3.t3.t2.t3
          cases hm
          exact hk _ _ ⟨arena_Arena.A.mk al_w_.a__a.l_b al_w_.a__a.l_c z z1 al_w_.a__a.m__p, hE.sel [6] (by kernel_rfl), H.x1⟩
      rintro a w ⟨z2, hE, H⟩
      refine Runs.ret hE Tryz.func34 rfl rfl ?_
      cases hm
      exact ⟨z2, sb, sc, rfl, H⟩

theorem thicketlaw9_world_cut_at1_ok {w0 w : World} {As : List HP} {k : Nat} {p_w_ : Nat} {al_w_ : thicketlaw9_world.A} {w_ : thicketlaw9_world} {at_ : Int} {t : Bool × thicketlaw9_world}  (hm : thicketlaw9_world_cut_at1 k w_ at_ = some t) (H : St w0 (thicketlaw9_world.R p_w_ al_w_ w_ :: As) w) :
    CallsR Tryz.prog 34 #[.pointer (some ⟨p_w_, 0, none⟩), .int .i64 1, .int .i64 at_] w fun v w' => ∃ (z_w__a__a : arena_Arena.A), ∃ (z_w__has1_b : Option Addr), ∃ (z_w__has1_c : Nat), v = .bool t.1 ∧ St w0 (thicketlaw9_world.R p_w_ (thicketlaw9_world.A.mk al_w_.a__p z_w__a__a al_w_.has0_b al_w_.has0_c z_w__has1_b z_w__has1_c) t.2 :: As) w' := by
  rw [thicketlaw9_world_cut_at1] at hm
  refine enter (args := [.pointer (some ⟨p_w_, 0, none⟩), .int .i64 1, .int .i64 at_]) Tryz.func34 rfl rfl rfl fun a hE => ?_
  refine Runs.seq ?_
  refine Runs.region ?_
  refine WR.seg hE 1 [] [0, 1, 2] (Lo := [(0, .pointer (some ⟨p_w_, 0, none⟩)), (1, .int .i64 1), (2, .int .i64 at_)]) (obs := []) rfl (by kernel_rfl) trivial fun a hE => ?_
  refine WR.done rfl ?_
  refine Runs.seq ?_
  refine Runs.seq ?_
  refine Runs.region ?_
  replace H := thicketlaw9_world.open H
  refine WR.seg hE 8 [.slice al_w_.has1_b w_.has1.length al_w_.has1_c] [0, 1, 2, 18] (Lo := [(0, .pointer (some ⟨p_w_, 0, none⟩)), (1, .int .i64 1), (2, .int .i64 at_), (18, .bool ((w_.has1.length : Int) == 0))]) (obs := [.p (0 ≤ (1 : Int) ∧ (1 : Int) < ((2 : Nat) : Int)), .cell ⟨p_w_, 4, none⟩ (.slice al_w_.has1_b w_.has1.length al_w_.has1_c)]) rfl (by kernel_rfl) ⟨⟨by decide, by decide⟩, H.cell 0 rfl rfl, trivial⟩ fun a hE => ?_
  refine WR.done rfl ?_
  refine Runs.cond hE rfl (fun c => ?_) (fun c => ?_)
  · replace hm := cond_t c hm
    refine Runs.seq ?_
    refine Runs.region ?_
    refine WR.seg hE 1 [] [6] (Lo := [(6, .bool true)]) (obs := []) rfl (by kernel_rfl) trivial fun a hE => ?_
    refine WR.done rfl ?_
    replace H := thicketlaw9_world.shut al_w_ (w_) H.t3.t3.t3.t3
    refine Runs.ret hE Tryz.func34 rfl rfl ?_
    cases hm
    exact ⟨al_w_.a__a, al_w_.has1_b, al_w_.has1_c, rfl, H⟩
  · replace hm := cond_f c hm
    refine Runs.skip ?_
    refine Runs.seq ?_
    refine Runs.region ?_
    refine WR.seg hE 9 [.slice al_w_.has1_b w_.has1.length al_w_.has1_c] [0, 1, 19, 27] (Lo := [(0, .pointer (some ⟨p_w_, 0, none⟩)), (1, .int .i64 1), (19, .int .i64 at_), (27, .int .i64 (w64 ((w_.has1.length : Int) - 1)))]) (obs := [.p (0 ≤ (1 : Int) ∧ (1 : Int) < ((2 : Nat) : Int)), .cell ⟨p_w_, 4, none⟩ (.slice al_w_.has1_b w_.has1.length al_w_.has1_c)]) rfl (by kernel_rfl) ⟨⟨by decide, by decide⟩, H.cell 0 rfl rfl, trivial⟩ fun a hE => ?_
    obtain ⟨t_, et_, hm⟩ := bind_some hm
    refine WR.eff hE rfl rfl rfl rfl (OpTo.fn hE rfl rfl Tryz.call16 (thicketbook_Within_ok et_ H)) ?_
    rintro _ w ⟨rfl, H⟩ a hE
    refine WR.seg hE 11 [] [0, 1, 7] (Lo := [(0, .pointer (some ⟨p_w_, 0, none⟩)), (1, .int .i64 1), (7, .int .i64 t_)]) (obs := []) rfl (by kernel_rfl) trivial fun a hE => ?_
    refine WR.done rfl ?_
    refine Runs.seq ?_
    refine Runs.region ?_
    obtain ⟨x, ex, hm⟩ := bind_some hm
    obtain ⟨b, o, hs, hb⟩ := SlRd.base (sl_rd 58 thicketlaw9_held.enc 3 _ _ _) thicketlaw9_held.enc_ok H 3 rfl ex
    refine WR.seg hE 11 [.slice al_w_.has1_b w_.has1.length al_w_.has1_c, .pointer (some ⟨b, o, none⟩), .int .i64 x.cell] [0, 1, 7, 8] (Lo := [(0, .pointer (some ⟨p_w_, 0, none⟩)), (1, .int .i64 1), (7, .int .i64 t_), (8, .int .i64 x.cell)]) (obs := [.p (0 ≤ (1 : Int) ∧ (1 : Int) < ((2 : Nat) : Int)), .cell ⟨p_w_, 4, none⟩ (.slice al_w_.has1_b w_.has1.length al_w_.has1_c), .p ((al_w_.has1_b : Option Addr) = some ⟨b, o, none⟩), .p (0 ≤ (t_ : Int) ∧ (t_ : Int) < ((w_.has1.length : Nat) : Int)), .cell ⟨b, o + (Int.toNat t_) * 3, none⟩ (.int .i64 x.cell)]) rfl (by kernel_rfl) ⟨⟨by decide, by decide⟩, H.cell 0 rfl rfl, hs, hb, SlRd.cells (sl_rd 58 thicketlaw9_held.enc 3 _ _ _) thicketlaw9_held.enc_ok H 3 rfl hs ex 0 _ rfl, trivial⟩ fun a hE => ?_
    refine WR.done rfl ?_
    refine Runs.seq ?_
    refine Runs.region ?_
    refine WR.seg hE 4 [.pointer (some ⟨al_w_.a__p, 0, none⟩)] [0, 1, 7, 8, 42] (Lo := [(0, .pointer (some ⟨p_w_, 0, none⟩)), (1, .int .i64 1), (7, .int .i64 t_), (8, .int .i64 x.cell), (42, .pointer (some ⟨al_w_.a__p, 0, none⟩))]) (obs := [.cell ⟨p_w_, 0, none⟩ (.pointer (some ⟨al_w_.a__p, 0, none⟩))]) rfl (by kernel_rfl) ⟨H.cell 0 rfl rfl, trivial⟩ fun a hE => ?_
    obtain ⟨t_1, et_1, hm⟩ := bind_some hm
    refine WR.eff hE rfl rfl rfl rfl (OpTo.fn hE rfl rfl Tryz.call18 (arena_Arena_Meter_ok et_1 H.t1)) ?_
    rintro _ w ⟨rfl, H⟩ a hE
    replace H := arena_Arena.open H
    obtain ⟨t_2, et_2, hm⟩ := bind_some hm
    refine WR.eff hE rfl rfl rfl rfl (OpTo.fn hE rfl rfl Tryz.call19 (meter_Meter_Steps_ok et_2 H.t3)) ?_
    rintro _ w ⟨rfl, H⟩ a hE
    refine WR.seg hE 7 [] [0, 1, 7, 8, 9] (Lo := [(0, .pointer (some ⟨p_w_, 0, none⟩)), (1, .int .i64 1), (7, .int .i64 t_), (8, .int .i64 x.cell), (9, .int .i64 t_2)]) (obs := []) rfl (by kernel_rfl) trivial fun a hE => ?_
    refine WR.done rfl ?_
    refine Runs.seq ?_
    refine Runs.drawn mixed (by kernel_rfl) ?_
    replace H := H.drew
    refine WQ.seg hE [0, 1, 2, 3, 4, 5, 6, 7, 8, 9, 10] [.pointer (some ⟨al_w_.a__p, 0, none⟩), .int .i64 w_.root1] [0, 1, 7, 8, 9, 48, 54, 55] (Lo := [(0, .pointer (some ⟨p_w_, 0, none⟩)), (1, .int .i64 1), (7, .int .i64 t_), (8, .int .i64 x.cell), (9, .int .i64 t_2), (48, .pointer (some ⟨al_w_.a__p, 0, none⟩)), (54, .int .i64 w_.root1), (55, .int .i64 x.cell)]) (obs := [.cell ⟨p_w_, 0, none⟩ (.pointer (some ⟨al_w_.a__p, 0, none⟩)), .p (0 ≤ (1 : Int) ∧ (1 : Int) < ((2 : Nat) : Int)), .cell ⟨p_w_, 2, none⟩ (.int .i64 w_.root1)]) (by kernel_rfl) (by kernel_rfl) ⟨H.cell 4 rfl rfl, ⟨by decide, by decide⟩, H.cell 4 rfl rfl, trivial⟩ fun a hE => ?_
    replace H := arena_Arena.shut al_w_.a__a (w_.a_) H.t3.t3.t3
    obtain ⟨t_3, et_3, hm⟩ := bind_some hm
    refine WQ.eff (j := 11) (obs := []) hE (by kernel_rfl) rfl rfl rfl rfl (by kernel_rfl) (OpTo.fn hE rfl rfl Tryz.call74 (binomial_Cut_ok et_3 H)) ?_
    rintro _ w ⟨z, z1, rfl, H⟩
    refine ⟨trivial, fun a hE => ?_⟩
    refine WQ.seg hE [12] [] [0, 1, 7, 8, 9, 10] (Lo := [(0, .pointer (some ⟨p_w_, 0, none⟩)), (1, .int .i64 1), (7, .int .i64 t_), (8, .int .i64 x.cell), (9, .int .i64 t_2), (10, .int .i64 t_3.1)]) (obs := []) (by kernel_rfl) (by kernel_rfl) trivial fun a hE => ?_
    refine WQ.done (by kernel_rfl) ?_
    refine Runs.seq ?_
    refine Runs.seq ?_
    refine Runs.region ?_
    refine WR.seg hE 9 [.slice al_w_.has1_b w_.has1.length al_w_.has1_c] [0, 1, 7, 8, 10, 57, 58, 65] (Lo := [(0, .pointer (some ⟨p_w_, 0, none⟩)), (1, .int .i64 1), (7, .int .i64 t_), (8, .int .i64 x.cell), (10, .int .i64 t_3.1), (57, .pointer (some ⟨p_w_, 0, none⟩)), (58, .int .i64 t_2), (65, .int .i64 (w_.has1.length : Int))]) (obs := [.p (0 ≤ (1 : Int) ∧ (1 : Int) < ((2 : Nat) : Int)), .cell ⟨p_w_, 4, none⟩ (.slice al_w_.has1_b w_.has1.length al_w_.has1_c)]) rfl (by kernel_rfl) ⟨⟨by decide, by decide⟩, H.cell 1 rfl rfl, trivial⟩ fun a hE => ?_
    replace H := thicketlaw9_world.shut (thicketlaw9_world.A.mk al_w_.a__p (arena_Arena.A.mk al_w_.a__a.l_b al_w_.a__a.l_c z z1 al_w_.a__a.m__p) al_w_.has0_b al_w_.has0_c al_w_.has1_b al_w_.has1_c) (thicketlaw9_world.mk t_3.2 w_.root0 w_.root1 w_.has0 w_.has1 w_.next w_.spent w_.most) H.t3.t3.t2.t3
    obtain ⟨t_4, et_4, hm⟩ := bind_some hm
    refine WR.eff hE rfl rfl rfl rfl (OpTo.fn hE rfl rfl Tryz.call21 (thicketlaw9_world_cost_ok et_4 H)) ?_
    rintro _ w ⟨rfl, hf, hf1, H⟩ a hE
    refine WR.seg hE 11 [] [0, 1, 7, 8, 10, 67] (Lo := [(0, .pointer (some ⟨p_w_, 0, none⟩)), (1, .int .i64 1), (7, .int .i64 t_), (8, .int .i64 x.cell), (10, .int .i64 t_3.1), (67, .bool (!t_4.1))]) (obs := []) rfl (by kernel_rfl) trivial fun a hE => ?_
    refine WR.done rfl ?_
    refine Runs.cond hE rfl (fun c => ?_) (fun c => ?_)
    · replace hm := cond_t c hm
      refine Runs.seq ?_
      refine Runs.region ?_
      refine WR.seg hE 1 [] [6] (Lo := [(6, .bool false)]) (obs := []) rfl (by kernel_rfl) trivial fun a hE => ?_
      refine WR.done rfl ?_
      refine Runs.ret hE Tryz.func34 rfl rfl ?_
      cases hm
      exact ⟨arena_Arena.A.mk al_w_.a__a.l_b al_w_.a__a.l_c z z1 al_w_.a__a.m__p, al_w_.has1_b, al_w_.has1_c, rfl, H⟩
    · replace hm := cond_f c hm
      refine Runs.skip ?_
      refine Runs.seq ?_
      refine Runs.region ?_
      refine WR.seg hE 6 [] [0, 1, 7, 8, 70, 73] (Lo := [(0, .pointer (some ⟨p_w_, 0, none⟩)), (1, .int .i64 1), (7, .int .i64 t_), (8, .int .i64 x.cell), (70, .int .i64 t_3.1), (73, .pointer (some ⟨p_w_, 2, none⟩))]) (obs := [.p (0 ≤ (1 : Int) ∧ (1 : Int) < ((2 : Nat) : Int))]) rfl (by kernel_rfl) ⟨⟨by decide, by decide⟩, trivial⟩ fun a hE => ?_
      replace H := thicketlaw9_world.open H
      try rw [hf] at H
      try rw [hf1] at H
      try dsimp only at H
      refine WR.eff0 hE rfl rfl rfl (OpTo.store hE H rfl rfl rfl rfl rfl rfl (Nat.le_of_ble_eq_true rfl)) ?_
      rintro _ w H a hE
      refine WR.done rfl ?_
      refine Runs.seq ?_
      refine Runs.drawn mixed (by kernel_rfl) ?_
      replace H := H.drew
      refine WQ.seg hE [0, 1, 2, 3, 4, 5, 6, 7, 8, 10, 11] [.slice al_w_.has1_b w_.has1.length al_w_.has1_c] [0, 8, 75, 81, 82, 85] (Lo := [(0, .pointer (some ⟨p_w_, 0, none⟩)), (8, .int .i64 x.cell), (75, .int .i64 1), (81, .slice al_w_.has1_b w_.has1.length al_w_.has1_c), (82, .int .i64 t_), (85, .pointer (some ⟨p_w_, 3, none⟩))]) (obs := [.p (0 ≤ (1 : Int) ∧ (1 : Int) < ((2 : Nat) : Int)), .cell ⟨p_w_, 4, none⟩ (.slice al_w_.has1_b w_.has1.length al_w_.has1_c)]) (by kernel_rfl) (by kernel_rfl) ⟨⟨by decide, by decide⟩, H.cell 0 rfl rfl, trivial⟩ fun a hE => ?_
      obtain ⟨t_5, et_5, hm⟩ := bind_some hm
      replace H := H.t3
      refine WQ.eff (j := 9) (obs := []) hE (by kernel_rfl) rfl rfl rfl rfl (by kernel_rfl) (OpTo.fn hE rfl rfl Tryz.call66 (thicketlaw9_without_ok (hX_l := (sl_rd 58 thicketlaw9_held.enc 3 _ _ _)) (hC_l := (H.slCap 0 rfl).1) et_5 H)) ?_
      rintro _ w ⟨sb, sc, rfl, H⟩
      refine ⟨trivial, fun a hE => ?_⟩
      refine WQ.seg hE [12] [] [0, 8, 83, 86] (Lo := [(0, .pointer (some ⟨p_w_, 0, none⟩)), (8, .int .i64 x.cell), (83, .slice sb t_5.length sc), (86, .pointer (some ⟨p_w_, 4, none⟩))]) (obs := [.p (0 ≤ (1 : Int) ∧ (1 : Int) < ((2 : Nat) : Int))]) (by kernel_rfl) (by kernel_rfl) ⟨⟨by decide, by decide⟩, trivial⟩ fun a hE => ?_
      refine WQ.eff0 (j := 13) (obs := []) hE (by kernel_rfl) rfl rfl rfl (by kernel_rfl) (OpTo.store hE H.t2 rfl rfl rfl rfl rfl rfl (Nat.le_of_ble_eq_true rfl)) ?_
      rintro _ w H
      refine ⟨trivial, fun a hE => ?_⟩
      refine WQ.done (by kernel_rfl) ?_
      refine Runs.seq ?_
      replace H := thicketlaw9_world.shut (thicketlaw9_world.A.mk al_w_.a__p (arena_Arena.A.mk al_w_.a__a.l_b al_w_.a__a.l_c z z1 al_w_.a__a.m__p) al_w_.has0_b al_w_.has0_c sb sc) (thicketlaw9_world.mk t_4.2.a_ t_4.2.root0 t_3.1 w_.has0 t_5 t_4.2.next t_4.2.spent t_4.2.most) H.t1.t4.t4.t3
      obtain ⟨s, es, hm⟩ := bind_some hm
      refine Runs.join (fun a w => ∃ (z2 : arena_Arena.A), EnvOk 102 a [(6, .bool s.1)] ∧ St w0 (thicketlaw9_world.R p_w_ (thicketlaw9_world.A.mk al_w_.a__p z2 al_w_.has0_b al_w_.has0_c sb sc) s.2 :: As) w) (fun hk => ?_) ?_
      · replace hm := es; clear es
        refine Runs.region ?_
        replace H := thicketlaw9_world.open H
        try dsimp only at H
        refine WR.seg hE 5 [.pointer (some ⟨al_w_.a__p, 0, none⟩)] [0, 8, 90, 91] (Lo := [(0, .pointer (some ⟨p_w_, 0, none⟩)), (8, .int .i64 x.cell), (90, .pointer (some ⟨al_w_.a__p, 0, none⟩)), (91, .int .i64 x.cell)]) (obs := [.cell ⟨p_w_, 0, none⟩ (.pointer (some ⟨al_w_.a__p, 0, none⟩))]) rfl (by kernel_rfl) ⟨H.cell 0 rfl rfl, trivial⟩ fun a hE => ?_
        obtain ⟨t_6, et_6, hm⟩ := bind_some hm
        refine WR.eff hE rfl rfl rfl rfl (OpTo.fn hE rfl rfl Tryz.call65 (item_Node_ok et_6 H.t1)) ?_
        rintro _ w ⟨rfl, H⟩ a hE
        refine WR.seg hE 8 [] [0, 8, 94] (Lo := [(0, .pointer (some ⟨p_w_, 0, none⟩)), (8, .int .i64 x.cell), (94, .bool (t_6.1 == (-1)))]) (obs := []) rfl (by kernel_rfl) trivial fun a hE => ?_
        rcases Bool.eq_false_or_eq_true (t_6.1 == (-1)) with c | c
        · replace hE := hE.dec 94 c (by kernel_rfl)
          replace hm := cond_t c hm
          have c_ := c
          refine WR.seg hE 13 [.pointer (some ⟨al_w_.a__p, 0, none⟩)] [94, 98, 99] (Lo := [(94, .bool true), (98, .pointer (some ⟨al_w_.a__p, 0, none⟩)), (99, .int .i64 x.cell)]) (obs := [.cell ⟨p_w_, 0, none⟩ (.pointer (some ⟨al_w_.a__p, 0, none⟩))]) rfl (by kernel_rfl) ⟨H.cell 1 rfl rfl, trivial⟩ fun a hE => ?_
          obtain ⟨t_7, et_7, hm⟩ := bind_some hm
          refine WR.eff hE rfl rfl rfl rfl (OpTo.fn hE rfl rfl Tryz.call25 (arena_Arena_Give_ok et_7 H)) ?_
          rintro _ w ⟨z3, z4, rfl, H⟩ a hE
          refine WR.seg hE 16 [] [6] (Lo := [(6, .bool t_7.1)]) (obs := []) rfl (by kernel_rfl) trivial fun a hE => ?_
          refine WR.done rfl ?_
          replace H := thicketlaw9_world.shut (thicketlaw9_world.A.mk al_w_.a__p (arena_Arena.A.mk ((arena_Arena.A.mk al_w_.a__a.l_b al_w_.a__a.l_c z z1 al_w_.a__a.m__p).l_b) ((arena_Arena.A.mk al_w_.a__a.l_b al_w_.a__a.l_c z z1 al_w_.a__a.m__p).l_c) z3 z4 ((arena_Arena.A.mk al_w_.a__a.l_b al_w_.a__a.l_c z z1 al_w_.a__a.m__p).m__p)) al_w_.has0_b al_w_.has0_c sb sc) (thicketlaw9_world.mk t_7.2 t_4.2.root0 t_3.1 w_.has0 t_5 t_4.2.next t_4.2.spent t_4.2.most) H.t3.t3.t2.t3
          cases hm
          exact hk _ _ ⟨arena_Arena.A.mk ((arena_Arena.A.mk al_w_.a__a.l_b al_w_.a__a.l_c z z1 al_w_.a__a.m__p).l_b) ((arena_Arena.A.mk al_w_.a__a.l_b al_w_.a__a.l_c z z1 al_w_.a__a.m__p).l_c) z3 z4 ((arena_Arena.A.mk al_w_.a__a.l_b al_w_.a__a.l_c z z1 al_w_.a__a.m__p).m__p), hE.sel [6] (by kernel_rfl), H.x1⟩
        · replace hE := hE.dec 94 c (by kernel_rfl)
          replace hm := cond_f c hm
          have c_1 := c
          refine WR.seg hE 16 [] [6] (Lo := [(6, .bool false)]) (obs := []) rfl (by kernel_rfl) trivial fun a hE => ?_
          refine WR.done rfl ?_
          replace H := thicketlaw9_world.shut (thicketlaw9_world.A.mk al_w_.a__p (arena_Arena.A.mk al_w_.a__a.l_b al_w_.a__a.l_c z z1 al_w_.a__a.m__p) al_w_.has0_b al_w_.has0_c sb sc) (thicketlaw9_world.mk t_6.2 t_4.2.root0 t_3.1 w_.has0 t_5 t_4.2.next t_4.2.spent t_4.2.most) H.t3.t3.t2.t3
          cases hm
          exact hk _ _ ⟨arena_Arena.A.mk al_w_.a__a.l_b al_w_.a__a.l_c z z1 al_w_.a__a.m__p, hE.sel [6] (by kernel_rfl), H.x1⟩
      rintro a w ⟨z2, hE, H⟩
      refine Runs.ret hE Tryz.func34 rfl rfl ?_
      cases hm
      exact ⟨z2, sb, sc, rfl, H⟩

theorem thicketlaw9_world_cut_ok {w0 w : World} {As : List HP} {k : Nat} {p_w_ : Nat} {al_w_ : thicketlaw9_world.A} {w_ : thicketlaw9_world} {at_ : Int} {h_ : Int} {t : Bool × thicketlaw9_world}  (hm : thicketlaw9_world_cut k w_ h_ at_ = some t) (H : St w0 (thicketlaw9_world.R p_w_ al_w_ w_ :: As) w) :
    CallsR Tryz.prog 34 #[.pointer (some ⟨p_w_, 0, none⟩), .int .i64 h_, .int .i64 at_] w fun v w' => ∃ (z_w__a__a : arena_Arena.A), ∃ (z_w__has0_b : Option Addr), ∃ (z_w__has0_c : Nat), ∃ (z_w__has1_b : Option Addr), ∃ (z_w__has1_c : Nat), v = .bool t.1 ∧ St w0 (thicketlaw9_world.R p_w_ (thicketlaw9_world.A.mk al_w_.a__p z_w__a__a z_w__has0_b z_w__has0_c z_w__has1_b z_w__has1_c) t.2 :: As) w' := by
  rw [thicketlaw9_world_cut] at hm
  by_cases h0 : h_ = 0
  · subst h0; simp only [if_pos] at hm
    refine (thicketlaw9_world_cut_at0_ok hm H).mono ?_
    rintro v w' ⟨y_0, y_1, y_2, hv, H⟩; exact ⟨y_0, y_1, y_2, al_w_.has1_b, al_w_.has1_c, hv, H⟩
  rw [if_neg h0] at hm
  by_cases h1 : h_ = 1
  · subst h1; simp only [if_pos] at hm
    refine (thicketlaw9_world_cut_at1_ok hm H).mono ?_
    rintro v w' ⟨y_0, y_1, y_2, hv, H⟩; exact ⟨y_0, al_w_.has0_b, al_w_.has0_c, y_1, y_2, hv, H⟩
  rw [if_neg h1] at hm
  cases hm

theorem binomial_Meld_ok {w0 w : World} {As : List HP} {k : Nat} {p_a_ : Nat} {al_a_ : arena_Arena.A} {a_ : arena_Arena} {r : Int} {s : Int} {t : Int × arena_Arena}  (hm : binomial_Meld k a_ r s = some t) (H : St w0 (arena_Arena.R p_a_ al_a_ a_ :: As) w) :
    CallsR Tryz.prog 70 #[.pointer (some ⟨p_a_, 0, none⟩), .int .i64 r, .int .i64 s] w fun v w' => v = .int .i64 t.1 ∧ St w0 (arena_Arena.R p_a_ al_a_ t.2 :: As) w' := by
  rw [binomial_Meld] at hm
  refine enter (args := [.pointer (some ⟨p_a_, 0, none⟩), .int .i64 r, .int .i64 s]) Tryz.func70 rfl rfl rfl fun a hE => ?_
  refine Runs.seq ?_
  refine Runs.region ?_
  refine WR.seg hE 1 [] [0, 1, 2] (Lo := [(0, .pointer (some ⟨p_a_, 0, none⟩)), (1, .int .i64 r), (2, .int .i64 s)]) (obs := []) rfl (by kernel_rfl) trivial fun a hE => ?_
  refine WR.done rfl ?_
  refine Runs.seq ?_
  refine Runs.seq ?_
  refine Runs.region ?_
  refine WR.seg hE 2 [] [0, 1, 2, 8] (Lo := [(0, .pointer (some ⟨p_a_, 0, none⟩)), (1, .int .i64 r), (2, .int .i64 s), (8, .bool false)]) (obs := []) rfl (by kernel_rfl) trivial fun a hE => ?_
  refine WR.done rfl ?_
  refine Runs.condF hE rfl ?_
  refine Runs.skip ?_
  refine Runs.seq ?_
  refine Runs.seq ?_
  refine Runs.region ?_
  refine WR.seg hE 3 [] [0, 1, 2, 11] (Lo := [(0, .pointer (some ⟨p_a_, 0, none⟩)), (1, .int .i64 r), (2, .int .i64 s), (11, .bool (r == s))]) (obs := []) rfl (by kernel_rfl) trivial fun a hE => ?_
  refine WR.done rfl ?_
  refine Runs.cond hE rfl (fun c => ?_) (fun c => ?_)
  · replace hm := cond_t c hm
    refine Runs.seq ?_
    refine Runs.region ?_
    refine WR.seg hE 2 [] [6] (Lo := [(6, .int .i64 r)]) (obs := []) rfl (by kernel_rfl) trivial fun a hE => ?_
    refine WR.done rfl ?_
    refine Runs.ret hE Tryz.func70 rfl rfl ?_
    cases hm
    exact ⟨rfl, H⟩
  · replace hm := cond_f c hm
    refine Runs.skip ?_
    refine Runs.seq ?_
    refine Runs.region ?_
    refine WR.seg hE 3 [] [0, 2, 13, 14, 15] (Lo := [(0, .pointer (some ⟨p_a_, 0, none⟩)), (2, .int .i64 s), (13, .pointer (some ⟨p_a_, 0, none⟩)), (14, .pointer (some ⟨p_a_, 0, none⟩)), (15, .int .i64 r)]) (obs := []) rfl (by kernel_rfl) trivial fun a hE => ?_
    obtain ⟨t_, et_, hm⟩ := bind_some hm
    refine WR.eff hE rfl rfl rfl rfl (OpTo.fn hE rfl rfl Tryz.call56 (trees_List_ok et_ H)) ?_
    rintro _ w ⟨sb, sc, rfl, H⟩ a hE
    refine WR.seg hE 6 [] [13, 16, 17, 18] (Lo := [(13, .pointer (some ⟨p_a_, 0, none⟩)), (16, .slice sb t_.1.length sc), (17, .pointer (some ⟨p_a_, 0, none⟩)), (18, .int .i64 s)]) (obs := []) rfl (by kernel_rfl) trivial fun a hE => ?_
    obtain ⟨t_1, et_1, hm⟩ := bind_some hm
    refine WR.eff hE rfl rfl rfl rfl (OpTo.fn hE rfl rfl Tryz.call56 (trees_List_ok et_1 H.t1)) ?_
    rintro _ w ⟨sb1, sc1, rfl, H⟩ a hE
    obtain ⟨l, el, hm⟩ := bind_some hm
    replace H := H.t2
    refine WR.eff hE rfl rfl rfl rfl (OpTo.appendM el hE H ecI_ok rfl rfl rfl rfl rfl rfl rfl rfl rfl rfl (SlRd.all (sl_rd 3 ecI 1 _ _ _) ecI_ok H 1 rfl) rfl) ?_
    rintro _ w ⟨sb2, sc2, rfl, H⟩ a hE
    obtain ⟨t_2, et_2, hm⟩ := bind_some hm
    replace H := H.t2
    refine WR.eff hE rfl rfl rfl rfl (OpTo.fn hE rfl rfl Tryz.call55 (trees_Carry_ok (hX_l := (sl_rd 3 ecI 1 _ _ _)) (hC_l := (H.slCap 1 rfl).1) et_2 H)) ?_
    rintro _ w ⟨rfl, H⟩ a hE
    refine WR.seg hE 10 [] [6] (Lo := [(6, .int .i64 t_2.1)]) (obs := []) rfl (by kernel_rfl) trivial fun a hE => ?_
    refine WR.done rfl ?_
    refine Runs.ret hE Tryz.func70 rfl rfl ?_
    cases hm
    exact ⟨rfl, H.x2.x1⟩

theorem thicketlaw9_world_meld_at0_ok {w0 w : World} {As : List HP} {k : Nat} {p_w_ : Nat} {al_w_ : thicketlaw9_world.A} {w_ : thicketlaw9_world} {t : Bool × thicketlaw9_world}  (hm : thicketlaw9_world_meld_at0 k w_ = some t) (H : St w0 (thicketlaw9_world.R p_w_ al_w_ w_ :: As) w) :
    CallsR Tryz.prog 31 #[.pointer (some ⟨p_w_, 0, none⟩), .int .i64 0] w fun v w' => ∃ (z_w__has0_b : Option Addr), ∃ (z_w__has0_c : Nat), ∃ (z_w__has1_b : Option Addr), ∃ (z_w__has1_c : Nat), v = .bool t.1 ∧ St w0 (thicketlaw9_world.R p_w_ (thicketlaw9_world.A.mk al_w_.a__p al_w_.a__a z_w__has0_b z_w__has0_c z_w__has1_b z_w__has1_c) t.2 :: As) w' := by
  rw [thicketlaw9_world_meld_at0] at hm
  refine enter (args := [.pointer (some ⟨p_w_, 0, none⟩), .int .i64 0]) Tryz.func31 rfl rfl rfl fun a hE => ?_
  refine Runs.seq ?_
  refine Runs.region ?_
  refine WR.seg hE 1 [] [0, 1] (Lo := [(0, .pointer (some ⟨p_w_, 0, none⟩)), (1, .int .i64 0)]) (obs := []) rfl (by kernel_rfl) trivial fun a hE => ?_
  refine WR.done rfl ?_
  refine Runs.seq ?_
  refine Runs.region ?_
  replace H := thicketlaw9_world.open H
  refine WR.seg hE 4 [.pointer (some ⟨al_w_.a__p, 0, none⟩)] [0, 1, 10] (Lo := [(0, .pointer (some ⟨p_w_, 0, none⟩)), (1, .int .i64 0), (10, .pointer (some ⟨al_w_.a__p, 0, none⟩))]) (obs := [.cell ⟨p_w_, 0, none⟩ (.pointer (some ⟨al_w_.a__p, 0, none⟩))]) rfl (by kernel_rfl) ⟨H.cell 0 rfl rfl, trivial⟩ fun a hE => ?_
  obtain ⟨t_, et_, hm⟩ := bind_some hm
  refine WR.eff hE rfl rfl rfl rfl (OpTo.fn hE rfl rfl Tryz.call18 (arena_Arena_Meter_ok et_ H.t1)) ?_
  rintro _ w ⟨rfl, H⟩ a hE
  replace H := arena_Arena.open H
  obtain ⟨t_1, et_1, hm⟩ := bind_some hm
  refine WR.eff hE rfl rfl rfl rfl (OpTo.fn hE rfl rfl Tryz.call19 (meter_Meter_Steps_ok et_1 H.t3)) ?_
  rintro _ w ⟨rfl, H⟩ a hE
  refine WR.seg hE 7 [] [0, 1, 5] (Lo := [(0, .pointer (some ⟨p_w_, 0, none⟩)), (1, .int .i64 0), (5, .int .i64 t_1)]) (obs := []) rfl (by kernel_rfl) trivial fun a hE => ?_
  refine WR.done rfl ?_
  refine Runs.seq ?_
  refine Runs.drawn mixed (by kernel_rfl) ?_
  replace H := H.drew
  refine WQ.seg hE [0, 1, 2, 3, 4, 5, 6, 7, 8, 9, 10, 11, 12, 13, 14, 15, 16] [.pointer (some ⟨al_w_.a__p, 0, none⟩), .int .i64 w_.root0, .int .i64 w_.root1] [0, 1, 5, 16, 22, 29] (Lo := [(0, .pointer (some ⟨p_w_, 0, none⟩)), (1, .int .i64 0), (5, .int .i64 t_1), (16, .pointer (some ⟨al_w_.a__p, 0, none⟩)), (22, .int .i64 w_.root0), (29, .int .i64 w_.root1)]) (obs := [.cell ⟨p_w_, 0, none⟩ (.pointer (some ⟨al_w_.a__p, 0, none⟩)), .p (0 ≤ (0 : Int) ∧ (0 : Int) < ((2 : Nat) : Int)), .cell ⟨p_w_, 1, none⟩ (.int .i64 w_.root0), .p (0 ≤ (1 : Int) ∧ (1 : Int) < ((2 : Nat) : Int)), .cell ⟨p_w_, 2, none⟩ (.int .i64 w_.root1)]) (by kernel_rfl) (by kernel_rfl) ⟨H.cell 4 rfl rfl, ⟨by decide, by decide⟩, H.cell 4 rfl rfl, ⟨by decide, by decide⟩, H.cell 4 rfl rfl, trivial⟩ fun a hE => ?_
  replace H := arena_Arena.shut al_w_.a__a (w_.a_) H.t3.t3.t3
  obtain ⟨t_2, et_2, hm⟩ := bind_some hm
  refine WQ.eff (j := 17) (obs := []) hE (by kernel_rfl) rfl rfl rfl rfl (by kernel_rfl) (OpTo.fn hE rfl rfl Tryz.call70 (binomial_Meld_ok et_2 H)) ?_
  rintro _ w ⟨rfl, H⟩
  refine ⟨trivial, fun a hE => ?_⟩
  refine WQ.seg hE [18] [] [0, 1, 5, 6] (Lo := [(0, .pointer (some ⟨p_w_, 0, none⟩)), (1, .int .i64 0), (5, .int .i64 t_1), (6, .int .i64 t_2.1)]) (obs := []) (by kernel_rfl) (by kernel_rfl) trivial fun a hE => ?_
  refine WQ.done (by kernel_rfl) ?_
  refine Runs.seq ?_
  refine Runs.seq ?_
  refine Runs.drawn mixed (by kernel_rfl) ?_
  replace H := H.drew
  refine WQ.seg hE [0, 1, 2, 3, 4, 5, 6, 7, 8, 9, 10, 11, 12, 13, 14] [.slice al_w_.has0_b w_.has0.length al_w_.has0_c, .slice al_w_.has1_b w_.has1.length al_w_.has1_c] [0, 1, 6, 31, 32, 45] (Lo := [(0, .pointer (some ⟨p_w_, 0, none⟩)), (1, .int .i64 0), (6, .int .i64 t_2.1), (31, .pointer (some ⟨p_w_, 0, none⟩)), (32, .int .i64 t_1), (45, .int .i64 (w64 ((w_.has0.length : Int) + (w_.has1.length : Int))))]) (obs := [.p (0 ≤ (0 : Int) ∧ (0 : Int) < ((2 : Nat) : Int)), .cell ⟨p_w_, 3, none⟩ (.slice al_w_.has0_b w_.has0.length al_w_.has0_c), .p (0 ≤ (1 : Int) ∧ (1 : Int) < ((2 : Nat) : Int)), .cell ⟨p_w_, 4, none⟩ (.slice al_w_.has1_b w_.has1.length al_w_.has1_c)]) (by kernel_rfl) (by kernel_rfl) ⟨⟨by decide, by decide⟩, H.cell 1 rfl rfl, ⟨by decide, by decide⟩, H.cell 1 rfl rfl, trivial⟩ fun a hE => ?_
  replace H := thicketlaw9_world.shut al_w_ (thicketlaw9_world.mk t_2.2 w_.root0 w_.root1 w_.has0 w_.has1 w_.next w_.spent w_.most) H.t3.t3.t2.t3
  obtain ⟨t_3, et_3, hm⟩ := bind_some hm
  refine WQ.eff (j := 15) (obs := []) hE (by kernel_rfl) rfl rfl rfl rfl (by kernel_rfl) (OpTo.fn hE rfl rfl Tryz.call21 (thicketlaw9_world_cost_ok et_3 H)) ?_
  rintro _ w ⟨rfl, hf, hf1, H⟩
  refine ⟨trivial, fun a hE => ?_⟩
  refine WQ.seg hE [16] [] [0, 1, 6, 47] (Lo := [(0, .pointer (some ⟨p_w_, 0, none⟩)), (1, .int .i64 0), (6, .int .i64 t_2.1), (47, .bool (!t_3.1))]) (obs := []) (by kernel_rfl) (by kernel_rfl) trivial fun a hE => ?_
  refine WQ.done (by kernel_rfl) ?_
  refine Runs.cond hE rfl (fun c => ?_) (fun c => ?_)
  · replace hm := cond_t c hm
    refine Runs.seq ?_
    refine Runs.region ?_
    refine WR.seg hE 1 [] [4] (Lo := [(4, .bool false)]) (obs := []) rfl (by kernel_rfl) trivial fun a hE => ?_
    refine WR.done rfl ?_
    refine Runs.ret hE Tryz.func31 rfl rfl ?_
    cases hm
    exact ⟨al_w_.has0_b, al_w_.has0_c, al_w_.has1_b, al_w_.has1_c, rfl, H⟩
  · replace hm := cond_f c hm
    refine Runs.skip ?_
    refine Runs.seq ?_
    refine Runs.drawn mixed (by kernel_rfl) ?_
    replace H := H.drew
    refine WQ.seg hE [0, 1, 2, 3, 4, 5, 6, 7, 8, 10, 11] [] [0, 1, 52, 53, 56, 58] (Lo := [(0, .pointer (some ⟨p_w_, 0, none⟩)), (1, .int .i64 0), (52, .int .i64 1), (53, .int .i64 t_2.1), (56, .pointer (some ⟨p_w_, 1, none⟩)), (58, .pointer (some ⟨p_w_, 1, none⟩))]) (obs := [.p (0 ≤ (0 : Int) ∧ (0 : Int) < ((2 : Nat) : Int))]) (by kernel_rfl) (by kernel_rfl) ⟨⟨by decide, by decide⟩, trivial⟩ fun a hE => ?_
    replace H := thicketlaw9_world.open H
    try rw [hf] at H
    try rw [hf1] at H
    try dsimp only at H
    refine WQ.eff0 (j := 9) (obs := []) hE (by kernel_rfl) rfl rfl rfl (by kernel_rfl) (OpTo.store hE H rfl rfl rfl rfl rfl rfl (Nat.le_of_ble_eq_true rfl)) ?_
    rintro _ w H
    refine ⟨trivial, fun a hE => ?_⟩
    refine WQ.seg hE [12] [] [0, 1, 59] (Lo := [(0, .pointer (some ⟨p_w_, 0, none⟩)), (1, .int .i64 0), (59, .pointer (some ⟨p_w_, 2, none⟩))]) (obs := [.p (0 ≤ (1 : Int) ∧ (1 : Int) < ((2 : Nat) : Int))]) (by kernel_rfl) (by kernel_rfl) ⟨⟨by decide, by decide⟩, trivial⟩ fun a hE => ?_
    refine WQ.eff0 (j := 13) (obs := []) hE (by kernel_rfl) rfl rfl rfl (by kernel_rfl) (OpTo.store hE H rfl rfl rfl rfl rfl rfl (Nat.le_of_ble_eq_true rfl)) ?_
    rintro _ w H
    refine ⟨trivial, fun a hE => ?_⟩
    refine WQ.done (by kernel_rfl) ?_
    refine Runs.seq ?_
    refine Runs.drawn mixed (by kernel_rfl) ?_
    replace H := H.drew
    refine WQ.seg hE [0, 1, 2, 3, 4, 6, 7, 8, 9, 10, 11, 13, 14, 15, 16, 17, 18, 19, 21, 22, 25, 26] [.slice al_w_.has0_b w_.has0.length al_w_.has0_c, .slice al_w_.has1_b w_.has1.length al_w_.has1_c] [61, 64, 71, 79, 82, 85] (Lo := [(61, .int .i64 0), (64, .int .i64 1), (71, .slice al_w_.has0_b w_.has0.length al_w_.has0_c), (79, .slice al_w_.has1_b w_.has1.length al_w_.has1_c), (82, .pointer (some ⟨p_w_, 3, none⟩)), (85, .pointer (some ⟨p_w_, 3, none⟩))]) (obs := [.p (0 ≤ (0 : Int) ∧ (0 : Int) < ((2 : Nat) : Int)), .cell ⟨p_w_, 3, none⟩ (.slice al_w_.has0_b w_.has0.length al_w_.has0_c), .p (0 ≤ (1 : Int) ∧ (1 : Int) < ((2 : Nat) : Int)), .cell ⟨p_w_, 4, none⟩ (.slice al_w_.has1_b w_.has1.length al_w_.has1_c)]) (by kernel_rfl) (by kernel_rfl) ⟨⟨by decide, by decide⟩, H.cell 0 rfl rfl, ⟨by decide, by decide⟩, H.cell 0 rfl rfl, trivial⟩ fun a hE => ?_
    refine WQ.eff (j := 5) (obs := [.cell ⟨p_w_, 4, none⟩ (.slice al_w_.has1_b w_.has1.length al_w_.has1_c), .p (0 ≤ (1 : Int) ∧ (1 : Int) < ((2 : Nat) : Int)), .cell ⟨p_w_, 3, none⟩ (.slice al_w_.has0_b w_.has0.length al_w_.has0_c), .p (0 ≤ (0 : Int) ∧ (0 : Int) < ((2 : Nat) : Int))]) hE (by kernel_rfl) rfl rfl rfl rfl (by kernel_rfl) (OpTo.buildSl (T := 58) hE H thicketlaw9_held.enc_ok ([] : List thicketlaw9_held) rfl (fun _ => by kernel_rfl) rfl rfl rfl) ?_
    rintro _ w ⟨r, rfl, H⟩
    refine ⟨⟨H.cell 1 rfl rfl, ⟨by decide, by decide⟩, H.cell 1 rfl rfl, ⟨by decide, by decide⟩, trivial⟩, fun a hE => ?_⟩
    obtain ⟨l, el, hm⟩ := bind_some hm
    refine WQ.eff (j := 12) (obs := [.cell ⟨p_w_, 4, none⟩ (.slice al_w_.has1_b w_.has1.length al_w_.has1_c), .p (0 ≤ (1 : Int) ∧ (1 : Int) < ((2 : Nat) : Int))]) hE (by kernel_rfl) rfl rfl rfl rfl (by kernel_rfl) (OpTo.appendM el hE H thicketlaw9_held.enc_ok rfl rfl rfl rfl rfl rfl rfl rfl rfl rfl (SlRd.all (sl_rd 58 thicketlaw9_held.enc 3 _ _ _) thicketlaw9_held.enc_ok H 3 rfl) rfl) ?_
    rintro _ w ⟨sb, sc, rfl, H⟩
    refine ⟨⟨H.cell 1 rfl rfl, ⟨by decide, by decide⟩, trivial⟩, fun a hE => ?_⟩
    obtain ⟨l1, el1, hm⟩ := bind_some hm
    refine WQ.eff (j := 20) (obs := []) hE (by kernel_rfl) rfl rfl rfl rfl (by kernel_rfl) (OpTo.appendM el1 hE H thicketlaw9_held.enc_ok rfl rfl rfl rfl rfl rfl rfl rfl rfl rfl (SlRd.all (sl_rd 58 thicketlaw9_held.enc 3 _ _ _) thicketlaw9_held.enc_ok H 4 rfl) rfl) ?_
    rintro _ w ⟨sb1, sc1, rfl, H⟩
    refine ⟨trivial, fun a hE => ?_⟩
    refine WQ.seg hE [23] [] [64, 80, 83, 85] (Lo := [(64, .int .i64 1), (80, .slice sb1 l1.length sc1), (83, .pointer (some ⟨p_w_, 3, none⟩)), (85, .pointer (some ⟨p_w_, 3, none⟩))]) (obs := [.p (0 ≤ (0 : Int) ∧ (0 : Int) < ((2 : Nat) : Int))]) (by kernel_rfl) (by kernel_rfl) ⟨⟨by decide, by decide⟩, trivial⟩ fun a hE => ?_
    refine WQ.eff0 (j := 24) (obs := []) hE (by kernel_rfl) rfl rfl rfl (by kernel_rfl) (OpTo.store hE H.t1 rfl rfl rfl rfl rfl rfl (Nat.le_of_ble_eq_true rfl)) ?_
    rintro _ w H
    refine ⟨trivial, fun a hE => ?_⟩
    refine WQ.seg hE [27] [] [86] (Lo := [(86, .pointer (some ⟨p_w_, 4, none⟩))]) (obs := [.p (0 ≤ (1 : Int) ∧ (1 : Int) < ((2 : Nat) : Int))]) (by kernel_rfl) (by kernel_rfl) ⟨⟨by decide, by decide⟩, trivial⟩ fun a hE => ?_
    refine WQ.eff0 (j := 28) (obs := []) hE (by kernel_rfl) rfl rfl rfl (by kernel_rfl) (OpTo.store hE H rfl rfl rfl rfl rfl rfl (Nat.le_of_ble_eq_true rfl)) ?_
    rintro _ w H
    refine ⟨trivial, fun a hE => ?_⟩
    refine WQ.done (by kernel_rfl) ?_
    refine Runs.seq ?_
    refine Runs.region ?_
    refine WR.seg hE 1 [] [4] (Lo := [(4, .bool true)]) (obs := []) rfl (by kernel_rfl) trivial fun a hE => ?_
    refine WR.done rfl ?_
    replace H := H.slNil 58 thicketlaw9_held.enc 3
    replace H := thicketlaw9_world.shut (thicketlaw9_world.A.mk al_w_.a__p al_w_.a__a sb1 sc1 none 0) (thicketlaw9_world.mk t_3.2.a_ t_2.1 (-1) l1 ([] : List thicketlaw9_held) t_3.2.next t_3.2.spent t_3.2.most) H.t2.t3.t3
    refine Runs.ret hE Tryz.func31 rfl rfl ?_
    cases hm
    exact ⟨sb1, sc1, none, 0, rfl, H.x2.x1⟩

theorem thicketlaw9_world_meld_at1_ok {w0 w : World} {As : List HP} {k : Nat} {p_w_ : Nat} {al_w_ : thicketlaw9_world.A} {w_ : thicketlaw9_world} {t : Bool × thicketlaw9_world}  (hm : thicketlaw9_world_meld_at1 k w_ = some t) (H : St w0 (thicketlaw9_world.R p_w_ al_w_ w_ :: As) w) :
    CallsR Tryz.prog 31 #[.pointer (some ⟨p_w_, 0, none⟩), .int .i64 1] w fun v w' => ∃ (z_w__has0_b : Option Addr), ∃ (z_w__has0_c : Nat), ∃ (z_w__has1_b : Option Addr), ∃ (z_w__has1_c : Nat), v = .bool t.1 ∧ St w0 (thicketlaw9_world.R p_w_ (thicketlaw9_world.A.mk al_w_.a__p al_w_.a__a z_w__has0_b z_w__has0_c z_w__has1_b z_w__has1_c) t.2 :: As) w' := by
  rw [thicketlaw9_world_meld_at1] at hm
  refine enter (args := [.pointer (some ⟨p_w_, 0, none⟩), .int .i64 1]) Tryz.func31 rfl rfl rfl fun a hE => ?_
  refine Runs.seq ?_
  refine Runs.region ?_
  refine WR.seg hE 1 [] [0, 1] (Lo := [(0, .pointer (some ⟨p_w_, 0, none⟩)), (1, .int .i64 1)]) (obs := []) rfl (by kernel_rfl) trivial fun a hE => ?_
  refine WR.done rfl ?_
  refine Runs.seq ?_
  refine Runs.region ?_
  replace H := thicketlaw9_world.open H
  refine WR.seg hE 4 [.pointer (some ⟨al_w_.a__p, 0, none⟩)] [0, 1, 10] (Lo := [(0, .pointer (some ⟨p_w_, 0, none⟩)), (1, .int .i64 1), (10, .pointer (some ⟨al_w_.a__p, 0, none⟩))]) (obs := [.cell ⟨p_w_, 0, none⟩ (.pointer (some ⟨al_w_.a__p, 0, none⟩))]) rfl (by kernel_rfl) ⟨H.cell 0 rfl rfl, trivial⟩ fun a hE => ?_
  obtain ⟨t_, et_, hm⟩ := bind_some hm
  refine WR.eff hE rfl rfl rfl rfl (OpTo.fn hE rfl rfl Tryz.call18 (arena_Arena_Meter_ok et_ H.t1)) ?_
  rintro _ w ⟨rfl, H⟩ a hE
  replace H := arena_Arena.open H
  obtain ⟨t_1, et_1, hm⟩ := bind_some hm
  refine WR.eff hE rfl rfl rfl rfl (OpTo.fn hE rfl rfl Tryz.call19 (meter_Meter_Steps_ok et_1 H.t3)) ?_
  rintro _ w ⟨rfl, H⟩ a hE
  refine WR.seg hE 7 [] [0, 1, 5] (Lo := [(0, .pointer (some ⟨p_w_, 0, none⟩)), (1, .int .i64 1), (5, .int .i64 t_1)]) (obs := []) rfl (by kernel_rfl) trivial fun a hE => ?_
  refine WR.done rfl ?_
  refine Runs.seq ?_
  refine Runs.drawn mixed (by kernel_rfl) ?_
  replace H := H.drew
  refine WQ.seg hE [0, 1, 2, 3, 4, 5, 6, 7, 8, 9, 10, 11, 12, 13, 14, 15, 16] [.pointer (some ⟨al_w_.a__p, 0, none⟩), .int .i64 w_.root1, .int .i64 w_.root0] [0, 1, 5, 16, 22, 29] (Lo := [(0, .pointer (some ⟨p_w_, 0, none⟩)), (1, .int .i64 1), (5, .int .i64 t_1), (16, .pointer (some ⟨al_w_.a__p, 0, none⟩)), (22, .int .i64 w_.root1), (29, .int .i64 w_.root0)]) (obs := [.cell ⟨p_w_, 0, none⟩ (.pointer (some ⟨al_w_.a__p, 0, none⟩)), .p (0 ≤ (1 : Int) ∧ (1 : Int) < ((2 : Nat) : Int)), .cell ⟨p_w_, 2, none⟩ (.int .i64 w_.root1), .p (0 ≤ (0 : Int) ∧ (0 : Int) < ((2 : Nat) : Int)), .cell ⟨p_w_, 1, none⟩ (.int .i64 w_.root0)]) (by kernel_rfl) (by kernel_rfl) ⟨H.cell 4 rfl rfl, ⟨by decide, by decide⟩, H.cell 4 rfl rfl, ⟨by decide, by decide⟩, H.cell 4 rfl rfl, trivial⟩ fun a hE => ?_
  replace H := arena_Arena.shut al_w_.a__a (w_.a_) H.t3.t3.t3
  obtain ⟨t_2, et_2, hm⟩ := bind_some hm
  refine WQ.eff (j := 17) (obs := []) hE (by kernel_rfl) rfl rfl rfl rfl (by kernel_rfl) (OpTo.fn hE rfl rfl Tryz.call70 (binomial_Meld_ok et_2 H)) ?_
  rintro _ w ⟨rfl, H⟩
  refine ⟨trivial, fun a hE => ?_⟩
  refine WQ.seg hE [18] [] [0, 1, 5, 6] (Lo := [(0, .pointer (some ⟨p_w_, 0, none⟩)), (1, .int .i64 1), (5, .int .i64 t_1), (6, .int .i64 t_2.1)]) (obs := []) (by kernel_rfl) (by kernel_rfl) trivial fun a hE => ?_
  refine WQ.done (by kernel_rfl) ?_
  refine Runs.seq ?_
  refine Runs.seq ?_
  refine Runs.drawn mixed (by kernel_rfl) ?_
  replace H := H.drew
  refine WQ.seg hE [0, 1, 2, 3, 4, 5, 6, 7, 8, 9, 10, 11, 12, 13, 14] [.slice al_w_.has0_b w_.has0.length al_w_.has0_c, .slice al_w_.has1_b w_.has1.length al_w_.has1_c] [0, 1, 6, 31, 32, 45] (Lo := [(0, .pointer (some ⟨p_w_, 0, none⟩)), (1, .int .i64 1), (6, .int .i64 t_2.1), (31, .pointer (some ⟨p_w_, 0, none⟩)), (32, .int .i64 t_1), (45, .int .i64 (w64 ((w_.has0.length : Int) + (w_.has1.length : Int))))]) (obs := [.p (0 ≤ (0 : Int) ∧ (0 : Int) < ((2 : Nat) : Int)), .cell ⟨p_w_, 3, none⟩ (.slice al_w_.has0_b w_.has0.length al_w_.has0_c), .p (0 ≤ (1 : Int) ∧ (1 : Int) < ((2 : Nat) : Int)), .cell ⟨p_w_, 4, none⟩ (.slice al_w_.has1_b w_.has1.length al_w_.has1_c)]) (by kernel_rfl) (by kernel_rfl) ⟨⟨by decide, by decide⟩, H.cell 1 rfl rfl, ⟨by decide, by decide⟩, H.cell 1 rfl rfl, trivial⟩ fun a hE => ?_
  replace H := thicketlaw9_world.shut al_w_ (thicketlaw9_world.mk t_2.2 w_.root0 w_.root1 w_.has0 w_.has1 w_.next w_.spent w_.most) H.t3.t3.t2.t3
  obtain ⟨t_3, et_3, hm⟩ := bind_some hm
  refine WQ.eff (j := 15) (obs := []) hE (by kernel_rfl) rfl rfl rfl rfl (by kernel_rfl) (OpTo.fn hE rfl rfl Tryz.call21 (thicketlaw9_world_cost_ok et_3 H)) ?_
  rintro _ w ⟨rfl, hf, hf1, H⟩
  refine ⟨trivial, fun a hE => ?_⟩
  refine WQ.seg hE [16] [] [0, 1, 6, 47] (Lo := [(0, .pointer (some ⟨p_w_, 0, none⟩)), (1, .int .i64 1), (6, .int .i64 t_2.1), (47, .bool (!t_3.1))]) (obs := []) (by kernel_rfl) (by kernel_rfl) trivial fun a hE => ?_
  refine WQ.done (by kernel_rfl) ?_
  refine Runs.cond hE rfl (fun c => ?_) (fun c => ?_)
  · replace hm := cond_t c hm
    refine Runs.seq ?_
    refine Runs.region ?_
    refine WR.seg hE 1 [] [4] (Lo := [(4, .bool false)]) (obs := []) rfl (by kernel_rfl) trivial fun a hE => ?_
    refine WR.done rfl ?_
    refine Runs.ret hE Tryz.func31 rfl rfl ?_
    cases hm
    exact ⟨al_w_.has0_b, al_w_.has0_c, al_w_.has1_b, al_w_.has1_c, rfl, H⟩
  · replace hm := cond_f c hm
    refine Runs.skip ?_
    refine Runs.seq ?_
    refine Runs.drawn mixed (by kernel_rfl) ?_
    replace H := H.drew
    refine WQ.seg hE [0, 1, 2, 3, 4, 5, 6, 7, 8, 10, 11] [] [0, 1, 52, 53, 56, 58] (Lo := [(0, .pointer (some ⟨p_w_, 0, none⟩)), (1, .int .i64 1), (52, .int .i64 0), (53, .int .i64 t_2.1), (56, .pointer (some ⟨p_w_, 2, none⟩)), (58, .pointer (some ⟨p_w_, 1, none⟩))]) (obs := [.p (0 ≤ (1 : Int) ∧ (1 : Int) < ((2 : Nat) : Int))]) (by kernel_rfl) (by kernel_rfl) ⟨⟨by decide, by decide⟩, trivial⟩ fun a hE => ?_
    replace H := thicketlaw9_world.open H
    try rw [hf] at H
    try rw [hf1] at H
    try dsimp only at H
    refine WQ.eff0 (j := 9) (obs := []) hE (by kernel_rfl) rfl rfl rfl (by kernel_rfl) (OpTo.store hE H rfl rfl rfl rfl rfl rfl (Nat.le_of_ble_eq_true rfl)) ?_
    rintro _ w H
    refine ⟨trivial, fun a hE => ?_⟩
    refine WQ.seg hE [12] [] [0, 1, 59] (Lo := [(0, .pointer (some ⟨p_w_, 0, none⟩)), (1, .int .i64 1), (59, .pointer (some ⟨p_w_, 1, none⟩))]) (obs := [.p (0 ≤ (0 : Int) ∧ (0 : Int) < ((2 : Nat) : Int))]) (by kernel_rfl) (by kernel_rfl) ⟨⟨by decide, by decide⟩, trivial⟩ fun a hE => ?_
    refine WQ.eff0 (j := 13) (obs := []) hE (by kernel_rfl) rfl rfl rfl (by kernel_rfl) (OpTo.store hE H rfl rfl rfl rfl rfl rfl (Nat.le_of_ble_eq_true rfl)) ?_
    rintro _ w H
    refine ⟨trivial, fun a hE => ?_⟩
    refine WQ.done (by kernel_rfl) ?_
    refine Runs.seq ?_
    refine Runs.drawn mixed (by kernel_rfl) ?_
    replace H := H.drew
    refine WQ.seg hE [0, 1, 2, 3, 4, 6, 7, 8, 9, 10, 11, 13, 14, 15, 16, 17, 18, 19, 21, 22, 25, 26] [.slice al_w_.has1_b w_.has1.length al_w_.has1_c, .slice al_w_.has0_b w_.has0.length al_w_.has0_c] [61, 64, 71, 79, 82, 85] (Lo := [(61, .int .i64 1), (64, .int .i64 0), (71, .slice al_w_.has1_b w_.has1.length al_w_.has1_c), (79, .slice al_w_.has0_b w_.has0.length al_w_.has0_c), (82, .pointer (some ⟨p_w_, 3, none⟩)), (85, .pointer (some ⟨p_w_, 3, none⟩))]) (obs := [.p (0 ≤ (1 : Int) ∧ (1 : Int) < ((2 : Nat) : Int)), .cell ⟨p_w_, 4, none⟩ (.slice al_w_.has1_b w_.has1.length al_w_.has1_c), .p (0 ≤ (0 : Int) ∧ (0 : Int) < ((2 : Nat) : Int)), .cell ⟨p_w_, 3, none⟩ (.slice al_w_.has0_b w_.has0.length al_w_.has0_c)]) (by kernel_rfl) (by kernel_rfl) ⟨⟨by decide, by decide⟩, H.cell 0 rfl rfl, ⟨by decide, by decide⟩, H.cell 0 rfl rfl, trivial⟩ fun a hE => ?_
    refine WQ.eff (j := 5) (obs := [.cell ⟨p_w_, 3, none⟩ (.slice al_w_.has0_b w_.has0.length al_w_.has0_c), .p (0 ≤ (0 : Int) ∧ (0 : Int) < ((2 : Nat) : Int)), .cell ⟨p_w_, 4, none⟩ (.slice al_w_.has1_b w_.has1.length al_w_.has1_c), .p (0 ≤ (1 : Int) ∧ (1 : Int) < ((2 : Nat) : Int))]) hE (by kernel_rfl) rfl rfl rfl rfl (by kernel_rfl) (OpTo.buildSl (T := 58) hE H thicketlaw9_held.enc_ok ([] : List thicketlaw9_held) rfl (fun _ => by kernel_rfl) rfl rfl rfl) ?_
    rintro _ w ⟨r, rfl, H⟩
    refine ⟨⟨H.cell 1 rfl rfl, ⟨by decide, by decide⟩, H.cell 1 rfl rfl, ⟨by decide, by decide⟩, trivial⟩, fun a hE => ?_⟩
    obtain ⟨l, el, hm⟩ := bind_some hm
    refine WQ.eff (j := 12) (obs := [.cell ⟨p_w_, 3, none⟩ (.slice al_w_.has0_b w_.has0.length al_w_.has0_c), .p (0 ≤ (0 : Int) ∧ (0 : Int) < ((2 : Nat) : Int))]) hE (by kernel_rfl) rfl rfl rfl rfl (by kernel_rfl) (OpTo.appendM el hE H thicketlaw9_held.enc_ok rfl rfl rfl rfl rfl rfl rfl rfl rfl rfl (SlRd.all (sl_rd 58 thicketlaw9_held.enc 3 _ _ _) thicketlaw9_held.enc_ok H 4 rfl) rfl) ?_
    rintro _ w ⟨sb, sc, rfl, H⟩
    refine ⟨⟨H.cell 1 rfl rfl, ⟨by decide, by decide⟩, trivial⟩, fun a hE => ?_⟩
    obtain ⟨l1, el1, hm⟩ := bind_some hm
    refine WQ.eff (j := 20) (obs := []) hE (by kernel_rfl) rfl rfl rfl rfl (by kernel_rfl) (OpTo.appendM el1 hE H thicketlaw9_held.enc_ok rfl rfl rfl rfl rfl rfl rfl rfl rfl rfl (SlRd.all (sl_rd 58 thicketlaw9_held.enc 3 _ _ _) thicketlaw9_held.enc_ok H 3 rfl) rfl) ?_
    rintro _ w ⟨sb1, sc1, rfl, H⟩
    refine ⟨trivial, fun a hE => ?_⟩
    refine WQ.seg hE [23] [] [64, 80, 83, 85] (Lo := [(64, .int .i64 0), (80, .slice sb1 l1.length sc1), (83, .pointer (some ⟨p_w_, 4, none⟩)), (85, .pointer (some ⟨p_w_, 3, none⟩))]) (obs := [.p (0 ≤ (1 : Int) ∧ (1 : Int) < ((2 : Nat) : Int))]) (by kernel_rfl) (by kernel_rfl) ⟨⟨by decide, by decide⟩, trivial⟩ fun a hE => ?_
    refine WQ.eff0 (j := 24) (obs := []) hE (by kernel_rfl) rfl rfl rfl (by kernel_rfl) (OpTo.store hE H.t1 rfl rfl rfl rfl rfl rfl (Nat.le_of_ble_eq_true rfl)) ?_
    rintro _ w H
    refine ⟨trivial, fun a hE => ?_⟩
    refine WQ.seg hE [27] [] [86] (Lo := [(86, .pointer (some ⟨p_w_, 3, none⟩))]) (obs := [.p (0 ≤ (0 : Int) ∧ (0 : Int) < ((2 : Nat) : Int))]) (by kernel_rfl) (by kernel_rfl) ⟨⟨by decide, by decide⟩, trivial⟩ fun a hE => ?_
    refine WQ.eff0 (j := 28) (obs := []) hE (by kernel_rfl) rfl rfl rfl (by kernel_rfl) (OpTo.store hE H rfl rfl rfl rfl rfl rfl (Nat.le_of_ble_eq_true rfl)) ?_
    rintro _ w H
    refine ⟨trivial, fun a hE => ?_⟩
    refine WQ.done (by kernel_rfl) ?_
    refine Runs.seq ?_
    refine Runs.region ?_
    refine WR.seg hE 1 [] [4] (Lo := [(4, .bool true)]) (obs := []) rfl (by kernel_rfl) trivial fun a hE => ?_
    refine WR.done rfl ?_
    replace H := H.slNil 58 thicketlaw9_held.enc 3
    replace H := thicketlaw9_world.shut (thicketlaw9_world.A.mk al_w_.a__p al_w_.a__a none 0 sb1 sc1) (thicketlaw9_world.mk t_3.2.a_ (-1) t_2.1 ([] : List thicketlaw9_held) l1 t_3.2.next t_3.2.spent t_3.2.most) H.t2.t1.t3.t3
    refine Runs.ret hE Tryz.func31 rfl rfl ?_
    cases hm
    exact ⟨none, 0, sb1, sc1, rfl, H.x2.x1⟩

theorem thicketlaw9_world_meld_ok {w0 w : World} {As : List HP} {k : Nat} {p_w_ : Nat} {al_w_ : thicketlaw9_world.A} {w_ : thicketlaw9_world} {h_ : Int} {t : Bool × thicketlaw9_world}  (hm : thicketlaw9_world_meld k w_ h_ = some t) (H : St w0 (thicketlaw9_world.R p_w_ al_w_ w_ :: As) w) :
    CallsR Tryz.prog 31 #[.pointer (some ⟨p_w_, 0, none⟩), .int .i64 h_] w fun v w' => ∃ (z_w__has0_b : Option Addr), ∃ (z_w__has0_c : Nat), ∃ (z_w__has1_b : Option Addr), ∃ (z_w__has1_c : Nat), v = .bool t.1 ∧ St w0 (thicketlaw9_world.R p_w_ (thicketlaw9_world.A.mk al_w_.a__p al_w_.a__a z_w__has0_b z_w__has0_c z_w__has1_b z_w__has1_c) t.2 :: As) w' := by
  rw [thicketlaw9_world_meld] at hm
  by_cases h0 : h_ = 0
  · subst h0; simp only [if_pos] at hm
    refine (thicketlaw9_world_meld_at0_ok hm H).mono ?_
    rintro v w' ⟨y_0, y_1, y_2, y_3, hv, H⟩; exact ⟨y_0, y_1, y_2, y_3, hv, H⟩
  rw [if_neg h0] at hm
  by_cases h1 : h_ = 1
  · subst h1; simp only [if_pos] at hm
    refine (thicketlaw9_world_meld_at1_ok hm H).mono ?_
    rintro v w' ⟨y_0, y_1, y_2, y_3, hv, H⟩; exact ⟨y_0, y_1, y_2, y_3, hv, H⟩
  rw [if_neg h1] at hm
  cases hm

theorem binomial_Pop_ok {w0 w : World} {As : List HP} {k : Nat} {p_a_ : Nat} {al_a_ : arena_Arena.A} {a_ : arena_Arena} {r : Int} {t : Int × Int × arena_Arena}  (hm : binomial_Pop k a_ r = some t) (H : St w0 (arena_Arena.R p_a_ al_a_ a_ :: As) w) :
    CallsR Tryz.prog 22 #[.pointer (some ⟨p_a_, 0, none⟩), .int .i64 r] w fun v w' => ∃ (z_a__free_b : Option Addr), ∃ (z_a__free_c : Nat), v = .tuple #[.int .i64 t.1, .int .i64 t.2.1] ∧ St w0 (arena_Arena.R p_a_ (arena_Arena.A.mk al_a_.l_b al_a_.l_c z_a__free_b z_a__free_c al_a_.m__p) t.2.2 :: As) w' := by
  rw [binomial_Pop] at hm
  refine enter (args := [.pointer (some ⟨p_a_, 0, none⟩), .int .i64 r]) Tryz.func22 rfl rfl rfl fun a hE => ?_
  refine Runs.seq ?_
  refine Runs.region ?_
  refine WR.seg hE 2 [] [0, 1] (Lo := [(0, .pointer (some ⟨p_a_, 0, none⟩)), (1, .int .i64 r)]) (obs := []) rfl (by kernel_rfl) trivial fun a hE => ?_
  refine WR.done rfl ?_
  refine Runs.seq ?_
  refine Runs.seq ?_
  obtain ⟨s, es, hm⟩ := bind_some hm
  refine Runs.join (fun a w => EnvOk 26 a [(0, .pointer (some ⟨p_a_, 0, none⟩)), (1, .int .i64 r), (14, .bool s)] ∧ St w0 (arena_Arena.R p_a_ al_a_ a_ :: As) w) (fun hk => ?_) ?_
  · replace hm := es; clear es
    refine Runs.region ?_
    refine WR.seg hE 5 [] [0, 1, 9, 10, 11] (Lo := [(0, .pointer (some ⟨p_a_, 0, none⟩)), (1, .int .i64 r), (9, .bool false), (10, .pointer (some ⟨p_a_, 0, none⟩)), (11, .int .i64 r)]) (obs := []) rfl (by kernel_rfl) trivial fun a hE => ?_
    obtain ⟨t_, et_, hm⟩ := bind_some hm
    refine WR.eff hE rfl rfl rfl rfl (OpTo.fn hE rfl rfl Tryz.call58 (arena_Arena_Live_ok et_ H)) ?_
    rintro _ w ⟨rfl, H⟩ a hE
    refine WR.seg hE 8 [] [0, 1, 14] (Lo := [(0, .pointer (some ⟨p_a_, 0, none⟩)), (1, .int .i64 r), (14, .bool (!t_))]) (obs := []) rfl (by kernel_rfl) trivial fun a hE => ?_
    refine WR.done rfl ?_
    cases hm
    exact hk _ _ ⟨hE.sel [0, 1, 14] (by kernel_rfl), H⟩
  rintro a w ⟨hE, H⟩
  refine Runs.cond hE rfl (fun c => ?_) (fun c => ?_)
  · replace hm := cond_t c hm
    refine Runs.seq ?_
    refine Runs.region ?_
    refine WR.seg hE 2 [] [4, 5] (Lo := [(4, .int .i64 (-1)), (5, .int .i64 (-1))]) (obs := []) rfl (by kernel_rfl) trivial fun a hE => ?_
    refine WR.done rfl ?_
    refine Runs.ret hE Tryz.func22 rfl rfl ?_
    cases hm
    exact ⟨al_a_.free_b, al_a_.free_c, rfl, H⟩
  · replace hm := cond_f c hm
    refine Runs.skip ?_
    refine Runs.seq ?_
    refine Runs.region ?_
    refine WR.seg hE 2 [] [0, 15, 16] (Lo := [(0, .pointer (some ⟨p_a_, 0, none⟩)), (15, .pointer (some ⟨p_a_, 0, none⟩)), (16, .int .i64 r)]) (obs := []) rfl (by kernel_rfl) trivial fun a hE => ?_
    obtain ⟨t_1, et_1, hm⟩ := bind_some hm
    refine WR.eff hE rfl rfl rfl rfl (OpTo.fn hE rfl rfl Tryz.call56 (trees_List_ok et_1 H)) ?_
    rintro _ w ⟨sb, sc, rfl, H⟩ a hE
    refine WR.seg hE 4 [] [0, 6] (Lo := [(0, .pointer (some ⟨p_a_, 0, none⟩)), (6, .slice sb t_1.1.length sc)]) (obs := []) rfl (by kernel_rfl) trivial fun a hE => ?_
    refine WR.done rfl ?_
    refine Runs.seq ?_
    refine Runs.region ?_
    refine WR.seg hE 4 [] [18, 19, 20, 21] (Lo := [(18, .pointer (some ⟨p_a_, 0, none⟩)), (19, .slice sb t_1.1.length sc), (20, .pointer (some ⟨p_a_, 0, none⟩)), (21, .slice sb t_1.1.length sc)]) (obs := []) rfl (by kernel_rfl) trivial fun a hE => ?_
    obtain ⟨t_2, et_2, hm⟩ := bind_some hm
    replace H := H.t1
    refine WR.eff hE rfl rfl rfl rfl (OpTo.fn hE rfl rfl Tryz.call60 (trees_Best_ok (hX_l := (sl_rd 3 ecI 1 _ _ _)) (hC_l := (H.slCap 1 rfl).1) et_2 H)) ?_
    rintro _ w ⟨rfl, H⟩ a hE
    obtain ⟨t_3, et_3, hm⟩ := bind_some hm
    refine WR.eff hE rfl rfl rfl rfl (OpTo.fn hE rfl rfl Tryz.call59 (binomial_without_ok et_3 H.t1.t1)) ?_
    rintro _ w ⟨z, z1, rfl, H⟩ a hE
    refine WR.seg hE 10 [] [4, 5] (Lo := [(4, .int .i64 t_3.1), (5, .int .i64 t_3.2.1)]) (obs := []) rfl (by kernel_rfl) trivial fun a hE => ?_
    refine WR.done rfl ?_
    refine Runs.ret hE Tryz.func22 rfl rfl ?_
    cases hm
    exact ⟨z, z1, rfl, H⟩

theorem thicketlaw9_world_pop_at0_ok {w0 w : World} {As : List HP} {k : Nat} {p_w_ : Nat} {al_w_ : thicketlaw9_world.A} {w_ : thicketlaw9_world} {t : Bool × thicketlaw9_world}  (hm : thicketlaw9_world_pop_at0 k w_ = some t) (H : St w0 (thicketlaw9_world.R p_w_ al_w_ w_ :: As) w) :
    CallsR Tryz.prog 29 #[.pointer (some ⟨p_w_, 0, none⟩), .int .i64 0] w fun v w' => ∃ (z_w__a__a : arena_Arena.A), ∃ (z_w__has0_b : Option Addr), ∃ (z_w__has0_c : Nat), v = .bool t.1 ∧ St w0 (thicketlaw9_world.R p_w_ (thicketlaw9_world.A.mk al_w_.a__p z_w__a__a z_w__has0_b z_w__has0_c al_w_.has1_b al_w_.has1_c) t.2 :: As) w' := by
  rw [thicketlaw9_world_pop_at0] at hm
  refine enter (args := [.pointer (some ⟨p_w_, 0, none⟩), .int .i64 0]) Tryz.func29 rfl rfl rfl fun a hE => ?_
  refine Runs.seq ?_
  refine Runs.region ?_
  refine WR.seg hE 1 [] [0, 1] (Lo := [(0, .pointer (some ⟨p_w_, 0, none⟩)), (1, .int .i64 0)]) (obs := []) rfl (by kernel_rfl) trivial fun a hE => ?_
  refine WR.done rfl ?_
  refine Runs.seq ?_
  refine Runs.region ?_
  replace H := thicketlaw9_world.open H
  refine WR.seg hE 4 [.pointer (some ⟨al_w_.a__p, 0, none⟩)] [0, 1, 14] (Lo := [(0, .pointer (some ⟨p_w_, 0, none⟩)), (1, .int .i64 0), (14, .pointer (some ⟨al_w_.a__p, 0, none⟩))]) (obs := [.cell ⟨p_w_, 0, none⟩ (.pointer (some ⟨al_w_.a__p, 0, none⟩))]) rfl (by kernel_rfl) ⟨H.cell 0 rfl rfl, trivial⟩ fun a hE => ?_
  obtain ⟨t_, et_, hm⟩ := bind_some hm
  refine WR.eff hE rfl rfl rfl rfl (OpTo.fn hE rfl rfl Tryz.call18 (arena_Arena_Meter_ok et_ H.t1)) ?_
  rintro _ w ⟨rfl, H⟩ a hE
  replace H := arena_Arena.open H
  obtain ⟨t_1, et_1, hm⟩ := bind_some hm
  refine WR.eff hE rfl rfl rfl rfl (OpTo.fn hE rfl rfl Tryz.call19 (meter_Meter_Steps_ok et_1 H.t3)) ?_
  rintro _ w ⟨rfl, H⟩ a hE
  refine WR.seg hE 7 [] [0, 1, 5] (Lo := [(0, .pointer (some ⟨p_w_, 0, none⟩)), (1, .int .i64 0), (5, .int .i64 t_1)]) (obs := []) rfl (by kernel_rfl) trivial fun a hE => ?_
  refine WR.done rfl ?_
  refine Runs.seq ?_
  refine Runs.drawn mixed (by kernel_rfl) ?_
  replace H := H.drew
  refine WQ.seg hE [0, 1, 2, 3, 4, 5, 6, 7, 8, 9] [.pointer (some ⟨al_w_.a__p, 0, none⟩), .int .i64 w_.root0] [0, 1, 5, 21, 27] (Lo := [(0, .pointer (some ⟨p_w_, 0, none⟩)), (1, .int .i64 0), (5, .int .i64 t_1), (21, .pointer (some ⟨al_w_.a__p, 0, none⟩)), (27, .int .i64 w_.root0)]) (obs := [.cell ⟨p_w_, 0, none⟩ (.pointer (some ⟨al_w_.a__p, 0, none⟩)), .p (0 ≤ (0 : Int) ∧ (0 : Int) < ((2 : Nat) : Int)), .cell ⟨p_w_, 1, none⟩ (.int .i64 w_.root0)]) (by kernel_rfl) (by kernel_rfl) ⟨H.cell 4 rfl rfl, ⟨by decide, by decide⟩, H.cell 4 rfl rfl, trivial⟩ fun a hE => ?_
  replace H := arena_Arena.shut al_w_.a__a (w_.a_) H.t3.t3.t3
  obtain ⟨t_2, et_2, hm⟩ := bind_some hm
  refine WQ.eff (j := 10) (obs := []) hE (by kernel_rfl) rfl rfl rfl rfl (by kernel_rfl) (OpTo.fn hE rfl rfl Tryz.call22 (binomial_Pop_ok et_2 H)) ?_
  rintro _ w ⟨z, z1, rfl, H⟩
  refine ⟨trivial, fun a hE => ?_⟩
  refine WQ.seg hE [11, 12, 13, 14, 15] [] [0, 1, 5, 6, 7] (Lo := [(0, .pointer (some ⟨p_w_, 0, none⟩)), (1, .int .i64 0), (5, .int .i64 t_1), (6, .int .i64 t_2.1), (7, .int .i64 t_2.2.1)]) (obs := []) (by kernel_rfl) (by kernel_rfl) trivial fun a hE => ?_
  refine WQ.done (by kernel_rfl) ?_
  refine Runs.seq ?_
  refine Runs.region ?_
  refine WR.seg hE 8 [.slice al_w_.has0_b w_.has0.length al_w_.has0_c] [0, 1, 5, 6, 7, 8] (Lo := [(0, .pointer (some ⟨p_w_, 0, none⟩)), (1, .int .i64 0), (5, .int .i64 t_1), (6, .int .i64 t_2.1), (7, .int .i64 t_2.2.1), (8, .int .i64 (w_.has0.length : Int))]) (obs := [.p (0 ≤ (0 : Int) ∧ (0 : Int) < ((2 : Nat) : Int)), .cell ⟨p_w_, 3, none⟩ (.slice al_w_.has0_b w_.has0.length al_w_.has0_c)]) rfl (by kernel_rfl) ⟨⟨by decide, by decide⟩, H.cell 1 rfl rfl, trivial⟩ fun a hE => ?_
  refine WR.done rfl ?_
  refine Runs.seq ?_
  refine Runs.seq ?_
  refine Runs.region ?_
  refine WR.seg hE 3 [] [0, 1, 6, 7, 8, 38, 39, 40] (Lo := [(0, .pointer (some ⟨p_w_, 0, none⟩)), (1, .int .i64 0), (6, .int .i64 t_2.1), (7, .int .i64 t_2.2.1), (8, .int .i64 (w_.has0.length : Int)), (38, .pointer (some ⟨p_w_, 0, none⟩)), (39, .int .i64 t_1), (40, .int .i64 (w_.has0.length : Int))]) (obs := []) rfl (by kernel_rfl) trivial fun a hE => ?_
  replace H := thicketlaw9_world.shut (thicketlaw9_world.A.mk al_w_.a__p (arena_Arena.A.mk al_w_.a__a.l_b al_w_.a__a.l_c z z1 al_w_.a__a.m__p) al_w_.has0_b al_w_.has0_c al_w_.has1_b al_w_.has1_c) (thicketlaw9_world.mk t_2.2.2 w_.root0 w_.root1 w_.has0 w_.has1 w_.next w_.spent w_.most) H.t3.t3.t2.t3
  obtain ⟨t_3, et_3, hm⟩ := bind_some hm
  refine WR.eff hE rfl rfl rfl rfl (OpTo.fn hE rfl rfl Tryz.call21 (thicketlaw9_world_cost_ok et_3 H)) ?_
  rintro _ w ⟨rfl, hf, hf1, H⟩ a hE
  refine WR.seg hE 5 [] [0, 1, 6, 7, 8, 42] (Lo := [(0, .pointer (some ⟨p_w_, 0, none⟩)), (1, .int .i64 0), (6, .int .i64 t_2.1), (7, .int .i64 t_2.2.1), (8, .int .i64 (w_.has0.length : Int)), (42, .bool (!t_3.1))]) (obs := []) rfl (by kernel_rfl) trivial fun a hE => ?_
  refine WR.done rfl ?_
  refine Runs.cond hE rfl (fun c => ?_) (fun c => ?_)
  · replace hm := cond_t c hm
    refine Runs.seq ?_
    refine Runs.region ?_
    refine WR.seg hE 1 [] [4] (Lo := [(4, .bool false)]) (obs := []) rfl (by kernel_rfl) trivial fun a hE => ?_
    refine WR.done rfl ?_
    refine Runs.ret hE Tryz.func29 rfl rfl ?_
    cases hm
    exact ⟨arena_Arena.A.mk al_w_.a__a.l_b al_w_.a__a.l_c z z1 al_w_.a__a.m__p, al_w_.has0_b, al_w_.has0_c, rfl, H⟩
  · replace hm := cond_f c hm
    refine Runs.skip ?_
    refine Runs.seq ?_
    refine Runs.seq ?_
    refine Runs.region ?_
    refine WR.seg hE 2 [] [0, 1, 6, 7, 44] (Lo := [(0, .pointer (some ⟨p_w_, 0, none⟩)), (1, .int .i64 0), (6, .int .i64 t_2.1), (7, .int .i64 t_2.2.1), (44, .bool ((w_.has0.length : Int) == 0))]) (obs := []) rfl (by kernel_rfl) trivial fun a hE => ?_
    refine WR.done rfl ?_
    refine Runs.cond hE rfl (fun c => ?_) (fun c => ?_)
    · replace hm := cond_t c hm
      refine Runs.seq ?_
      refine Runs.join (fun a w => EnvOk 107 a [(4, .bool ((t_2.1 == (-1)) && (t_2.2.1 == (-1))))] ∧ St w0 (thicketlaw9_world.R p_w_ (thicketlaw9_world.A.mk al_w_.a__p (arena_Arena.A.mk al_w_.a__a.l_b al_w_.a__a.l_c z z1 al_w_.a__a.m__p) al_w_.has0_b al_w_.has0_c al_w_.has1_b al_w_.has1_c) t_3.2 :: As) w) (fun hk => ?_) ?_
      · clear hm
        refine Runs.region ?_
        refine WR.seg hE 3 [] [7, 47] (Lo := [(7, .int .i64 t_2.2.1), (47, .bool (t_2.1 == (-1)))]) (obs := []) rfl (by kernel_rfl) trivial fun a hE => ?_
        rcases Bool.eq_false_or_eq_true (t_2.1 == (-1)) with c | c
        · replace hE := hE.dec 47 c (by kernel_rfl)
          have c_ := c
          refine WR.seg hE 7 [] [4] (Lo := [(4, .bool (t_2.2.1 == (-1)))]) (obs := []) rfl (by kernel_rfl) trivial fun a hE => ?_
          refine WR.done rfl ?_
          refine hk _ _ ⟨?_, H⟩
          try rw [c_] at hE
          try rw [c_]
          exact hE.sel [4] (by kernel_rfl)
        · replace hE := hE.dec 47 c (by kernel_rfl)
          have c_1 := c
          refine WR.seg hE 7 [] [4] (Lo := [(4, .bool false)]) (obs := []) rfl (by kernel_rfl) trivial fun a hE => ?_
          refine WR.done rfl ?_
          refine hk _ _ ⟨?_, H⟩
          try rw [c_1] at hE
          try rw [c_1]
          exact hE.sel [4] (by kernel_rfl)
      rintro a w ⟨hE, H⟩
      refine Runs.ret hE Tryz.func29 rfl rfl ?_
      cases hm
      exact ⟨arena_Arena.A.mk al_w_.a__a.l_b al_w_.a__a.l_c z z1 al_w_.a__a.m__p, al_w_.has0_b, al_w_.has0_c, rfl, H⟩
    · replace hm := cond_f c hm
      refine Runs.skip ?_
      refine Runs.seq ?_
      refine Runs.region ?_
      replace H := thicketlaw9_world.open H
      try rw [hf] at H
      try rw [hf1] at H
      try dsimp only at H
      refine WR.seg hE 6 [.slice al_w_.has0_b w_.has0.length al_w_.has0_c] [0, 1, 6, 7, 56] (Lo := [(0, .pointer (some ⟨p_w_, 0, none⟩)), (1, .int .i64 0), (6, .int .i64 t_2.1), (7, .int .i64 t_2.2.1), (56, .slice al_w_.has0_b w_.has0.length al_w_.has0_c)]) (obs := [.p (0 ≤ (0 : Int) ∧ (0 : Int) < ((2 : Nat) : Int)), .cell ⟨p_w_, 3, none⟩ (.slice al_w_.has0_b w_.has0.length al_w_.has0_c)]) rfl (by kernel_rfl) ⟨⟨by decide, by decide⟩, H.cell 0 rfl rfl, trivial⟩ fun a hE => ?_
      obtain ⟨t_4, et_4, hm⟩ := bind_some hm
      replace H := H.t2
      refine WR.eff hE rfl rfl rfl rfl (OpTo.fn hE rfl rfl Tryz.call64 (thicketlaw9_least_ok (hX_l := (sl_rd 58 thicketlaw9_held.enc 3 _ _ _)) (hC_l := (H.slCap 0 rfl).1) et_4 H)) ?_
      rintro _ w ⟨rfl, H⟩ a hE
      refine WR.seg hE 8 [] [0, 1, 6, 7, 9] (Lo := [(0, .pointer (some ⟨p_w_, 0, none⟩)), (1, .int .i64 0), (6, .int .i64 t_2.1), (7, .int .i64 t_2.2.1), (9, .int .i64 t_4)]) (obs := []) rfl (by kernel_rfl) trivial fun a hE => ?_
      refine WR.done rfl ?_
      refine Runs.seq ?_
      refine Runs.region ?_
      refine WR.seg hE 6 [] [0, 1, 7, 9, 60, 63] (Lo := [(0, .pointer (some ⟨p_w_, 0, none⟩)), (1, .int .i64 0), (7, .int .i64 t_2.2.1), (9, .int .i64 t_4), (60, .int .i64 t_2.1), (63, .pointer (some ⟨p_w_, 1, none⟩))]) (obs := [.p (0 ≤ (0 : Int) ∧ (0 : Int) < ((2 : Nat) : Int))]) rfl (by kernel_rfl) ⟨⟨by decide, by decide⟩, trivial⟩ fun a hE => ?_
      refine WR.eff0 hE rfl rfl rfl (OpTo.store hE H.t1 rfl rfl rfl rfl rfl rfl (Nat.le_of_ble_eq_true rfl)) ?_
      rintro _ w H a hE
      refine WR.done rfl ?_
      refine Runs.seq ?_
      replace H := thicketlaw9_world.shut (thicketlaw9_world.A.mk al_w_.a__p (arena_Arena.A.mk al_w_.a__a.l_b al_w_.a__a.l_c z z1 al_w_.a__a.m__p) al_w_.has0_b al_w_.has0_c al_w_.has1_b al_w_.has1_c) (thicketlaw9_world.mk t_3.2.a_ t_2.1 t_3.2.root1 w_.has0 w_.has1 t_3.2.next t_3.2.spent t_3.2.most) H.t3.t2.t3.t3
      obtain ⟨s, es, hm⟩ := bind_some hm
      refine Runs.join (fun a w => EnvOk 107 a [(0, .pointer (some ⟨p_w_, 0, none⟩)), (1, .int .i64 0), (7, .int .i64 t_2.2.1), (9, .int .i64 t_4), (10, .bool s.1)] ∧ St w0 (thicketlaw9_world.R p_w_ (thicketlaw9_world.A.mk al_w_.a__p (arena_Arena.A.mk al_w_.a__a.l_b al_w_.a__a.l_c z z1 al_w_.a__a.m__p) al_w_.has0_b al_w_.has0_c al_w_.has1_b al_w_.has1_c) s.2 :: As) w) (fun hk => ?_) ?_
      · replace hm := es; clear es
        refine Runs.region ?_
        replace H := thicketlaw9_world.open H
        try dsimp only at H
        obtain ⟨x1, ex1, hm⟩ := bind_some hm
        obtain ⟨b1, o1, hs1, hb1⟩ := SlRd.base (sl_rd 58 thicketlaw9_held.enc 3 _ _ _) thicketlaw9_held.enc_ok H 2 rfl ex1
        refine WR.seg hE 13 [.slice al_w_.has0_b w_.has0.length al_w_.has0_c, .pointer (some ⟨b1, o1, none⟩), .int .i64 x1.cell] [0, 1, 7, 9, 76] (Lo := [(0, .pointer (some ⟨p_w_, 0, none⟩)), (1, .int .i64 0), (7, .int .i64 t_2.2.1), (9, .int .i64 t_4), (76, .bool (t_2.2.1 == x1.cell))]) (obs := [.p (0 ≤ (0 : Int) ∧ (0 : Int) < ((2 : Nat) : Int)), .cell ⟨p_w_, 3, none⟩ (.slice al_w_.has0_b w_.has0.length al_w_.has0_c), .p ((al_w_.has0_b : Option Addr) = some ⟨b1, o1, none⟩), .p (0 ≤ (t_4 : Int) ∧ (t_4 : Int) < ((w_.has0.length : Nat) : Int)), .cell ⟨b1, o1 + (Int.toNat t_4) * 3, none⟩ (.int .i64 x1.cell)]) rfl (by kernel_rfl) ⟨⟨by decide, by decide⟩, H.cell 0 rfl rfl, hs1, hb1, SlRd.cells (sl_rd 58 thicketlaw9_held.enc 3 _ _ _) thicketlaw9_held.enc_ok H 2 rfl hs1 ex1 0 _ rfl, trivial⟩ fun a hE => ?_
        rcases Bool.eq_false_or_eq_true (t_2.2.1 == x1.cell) with c | c
        · replace hE := hE.dec 76 c (by kernel_rfl)
          replace hm := cond_t c hm
          have c_2 := c
          refine WR.seg hE 18 [.pointer (some ⟨al_w_.a__p, 0, none⟩)] [0, 1, 7, 9, 76, 80, 81] (Lo := [(0, .pointer (some ⟨p_w_, 0, none⟩)), (1, .int .i64 0), (7, .int .i64 t_2.2.1), (9, .int .i64 t_4), (76, .bool true), (80, .pointer (some ⟨al_w_.a__p, 0, none⟩)), (81, .int .i64 t_2.2.1)]) (obs := [.cell ⟨p_w_, 0, none⟩ (.pointer (some ⟨al_w_.a__p, 0, none⟩))]) rfl (by kernel_rfl) ⟨H.cell 0 rfl rfl, trivial⟩ fun a hE => ?_
          obtain ⟨t_5, et_5, hm⟩ := bind_some hm
          refine WR.eff hE rfl rfl rfl rfl (OpTo.fn hE rfl rfl Tryz.call65 (item_Node_ok et_5 H.t1)) ?_
          rintro _ w ⟨rfl, H⟩ a hE
          refine WR.seg hE 22 [] [0, 1, 7, 9, 10] (Lo := [(0, .pointer (some ⟨p_w_, 0, none⟩)), (1, .int .i64 0), (7, .int .i64 t_2.2.1), (9, .int .i64 t_4), (10, .bool (t_5.1 == (-1)))]) (obs := []) rfl (by kernel_rfl) trivial fun a hE => ?_
          refine WR.done rfl ?_
          replace H := thicketlaw9_world.shut (thicketlaw9_world.A.mk al_w_.a__p (arena_Arena.A.mk al_w_.a__a.l_b al_w_.a__a.l_c z z1 al_w_.a__a.m__p) al_w_.has0_b al_w_.has0_c al_w_.has1_b al_w_.has1_c) (thicketlaw9_world.mk t_5.2 t_2.1 t_3.2.root1 w_.has0 w_.has1 t_3.2.next t_3.2.spent t_3.2.most) H.t3.t3.t2.t3
          cases hm
          exact hk _ _ ⟨hE.sel [0, 1, 7, 9, 10] (by kernel_rfl), H⟩
        · replace hE := hE.dec 76 c (by kernel_rfl)
          replace hm := cond_f c hm
          have c_3 := c
          refine WR.seg hE 22 [] [0, 1, 7, 9, 10] (Lo := [(0, .pointer (some ⟨p_w_, 0, none⟩)), (1, .int .i64 0), (7, .int .i64 t_2.2.1), (9, .int .i64 t_4), (10, .bool false)]) (obs := []) rfl (by kernel_rfl) trivial fun a hE => ?_
          refine WR.done rfl ?_
          replace H := thicketlaw9_world.shut (thicketlaw9_world.A.mk al_w_.a__p (arena_Arena.A.mk al_w_.a__a.l_b al_w_.a__a.l_c z z1 al_w_.a__a.m__p) al_w_.has0_b al_w_.has0_c al_w_.has1_b al_w_.has1_c) (thicketlaw9_world.mk t_3.2.a_ t_2.1 t_3.2.root1 w_.has0 w_.has1 t_3.2.next t_3.2.spent t_3.2.most) H.t3.t3.t3.t3
          cases hm
          exact hk _ _ ⟨hE.sel [0, 1, 7, 9, 10] (by kernel_rfl), H⟩
      rintro a w ⟨hE, H⟩
      refine Runs.seq ?_
      refine Runs.drawn mixed (by kernel_rfl) ?_
      replace H := H.drew
      replace H := thicketlaw9_world.open H
      try dsimp only at H
      refine WQ.seg hE [0, 1, 2, 3, 4, 5, 6, 7, 8, 10, 11] [.slice al_w_.has0_b s.2.has0.length al_w_.has0_c] [0, 7, 10, 86, 92, 93, 96] (Lo := [(0, .pointer (some ⟨p_w_, 0, none⟩)), (7, .int .i64 t_2.2.1), (10, .bool s.1), (86, .int .i64 0), (92, .slice al_w_.has0_b s.2.has0.length al_w_.has0_c), (93, .int .i64 t_4), (96, .pointer (some ⟨p_w_, 3, none⟩))]) (obs := [.p (0 ≤ (0 : Int) ∧ (0 : Int) < ((2 : Nat) : Int)), .cell ⟨p_w_, 3, none⟩ (.slice al_w_.has0_b s.2.has0.length al_w_.has0_c)]) (by kernel_rfl) (by kernel_rfl) ⟨⟨by decide, by decide⟩, H.cell 0 rfl rfl, trivial⟩ fun a hE => ?_
      obtain ⟨t_6, et_6, hm⟩ := bind_some hm
      replace H := H.t2
      refine WQ.eff (j := 9) (obs := []) hE (by kernel_rfl) rfl rfl rfl rfl (by kernel_rfl) (OpTo.fn hE rfl rfl Tryz.call66 (thicketlaw9_without_ok (hX_l := (sl_rd 58 thicketlaw9_held.enc 3 _ _ _)) (hC_l := (H.slCap 0 rfl).1) et_6 H)) ?_
      rintro _ w ⟨sb, sc, rfl, H⟩
      refine ⟨trivial, fun a hE => ?_⟩
      refine WQ.seg hE [12] [] [0, 7, 10, 94, 97] (Lo := [(0, .pointer (some ⟨p_w_, 0, none⟩)), (7, .int .i64 t_2.2.1), (10, .bool s.1), (94, .slice sb t_6.length sc), (97, .pointer (some ⟨p_w_, 3, none⟩))]) (obs := [.p (0 ≤ (0 : Int) ∧ (0 : Int) < ((2 : Nat) : Int))]) (by kernel_rfl) (by kernel_rfl) ⟨⟨by decide, by decide⟩, trivial⟩ fun a hE => ?_
      refine WQ.eff0 (j := 13) (obs := []) hE (by kernel_rfl) rfl rfl rfl (by kernel_rfl) (OpTo.store hE H.t2 rfl rfl rfl rfl rfl rfl (Nat.le_of_ble_eq_true rfl)) ?_
      rintro _ w H
      refine ⟨trivial, fun a hE => ?_⟩
      refine WQ.done (by kernel_rfl) ?_
      refine Runs.seq ?_
      replace H := thicketlaw9_world.shut (thicketlaw9_world.A.mk al_w_.a__p (arena_Arena.A.mk al_w_.a__a.l_b al_w_.a__a.l_c z z1 al_w_.a__a.m__p) sb sc al_w_.has1_b al_w_.has1_c) (thicketlaw9_world.mk s.2.a_ s.2.root0 s.2.root1 t_6 s.2.has1 s.2.next s.2.spent s.2.most) H.t4.t2.t4.t3
      obtain ⟨s1, es1, hm⟩ := bind_some hm
      refine Runs.join (fun a w => ∃ (z2 : arena_Arena.A), EnvOk 107 a [(4, .bool s1.1)] ∧ St w0 (thicketlaw9_world.R p_w_ (thicketlaw9_world.A.mk al_w_.a__p z2 sb sc al_w_.has1_b al_w_.has1_c) s1.2 :: As) w) (fun hk => ?_) ?_
      · replace hm := es1; clear es1
        refine Runs.region ?_
        refine WR.seg hE 2 [] [0, 7, 99] (Lo := [(0, .pointer (some ⟨p_w_, 0, none⟩)), (7, .int .i64 t_2.2.1), (99, .bool s.1)]) (obs := []) rfl (by kernel_rfl) trivial fun a hE => ?_
        rcases Bool.eq_false_or_eq_true s.1 with c | c
        · replace hE := hE.dec 99 c (by kernel_rfl)
          replace hm := cond_t c hm
          have c_4 := c
          replace H := thicketlaw9_world.open H
          try dsimp only at H
          refine WR.seg hE 7 [.pointer (some ⟨al_w_.a__p, 0, none⟩)] [99, 103, 104] (Lo := [(99, .bool true), (103, .pointer (some ⟨al_w_.a__p, 0, none⟩)), (104, .int .i64 t_2.2.1)]) (obs := [.cell ⟨p_w_, 0, none⟩ (.pointer (some ⟨al_w_.a__p, 0, none⟩))]) rfl (by kernel_rfl) ⟨H.cell 0 rfl rfl, trivial⟩ fun a hE => ?_
          obtain ⟨t_7, et_7, hm⟩ := bind_some hm
          refine WR.eff hE rfl rfl rfl rfl (OpTo.fn hE rfl rfl Tryz.call25 (arena_Arena_Give_ok et_7 H.t1)) ?_
          rintro _ w ⟨z3, z4, rfl, H⟩ a hE
          refine WR.seg hE 10 [] [4] (Lo := [(4, .bool t_7.1)]) (obs := []) rfl (by kernel_rfl) trivial fun a hE => ?_
          refine WR.done rfl ?_
          replace H := thicketlaw9_world.shut (thicketlaw9_world.A.mk al_w_.a__p (arena_Arena.A.mk ((arena_Arena.A.mk al_w_.a__a.l_b al_w_.a__a.l_c z z1 al_w_.a__a.m__p).l_b) ((arena_Arena.A.mk al_w_.a__a.l_b al_w_.a__a.l_c z z1 al_w_.a__a.m__p).l_c) z3 z4 ((arena_Arena.A.mk al_w_.a__a.l_b al_w_.a__a.l_c z z1 al_w_.a__a.m__p).m__p)) sb sc al_w_.has1_b al_w_.has1_c) (thicketlaw9_world.mk t_7.2 s.2.root0 s.2.root1 t_6 s.2.has1 s.2.next s.2.spent s.2.most) H.t3.t3.t2.t3
          cases hm
          exact hk _ _ ⟨arena_Arena.A.mk ((arena_Arena.A.mk al_w_.a__a.l_b al_w_.a__a.l_c z z1 al_w_.a__a.m__p).l_b) ((arena_Arena.A.mk al_w_.a__a.l_b al_w_.a__a.l_c z z1 al_w_.a__a.m__p).l_c) z3 z4 ((arena_Arena.A.mk al_w_.a__a.l_b al_w_.a__a.l_c z z1 al_w_.a__a.m__p).m__p), hE.sel [4] (by kernel_rfl), H.x1⟩
        · replace hE := hE.dec 99 c (by kernel_rfl)
          replace hm := cond_f c hm
          have c_5 := c
          refine WR.seg hE 10 [] [4] (Lo := [(4, .bool false)]) (obs := []) rfl (by kernel_rfl) trivial fun a hE => ?_
          refine WR.done rfl ?_
          cases hm
          exact hk _ _ ⟨arena_Arena.A.mk al_w_.a__a.l_b al_w_.a__a.l_c z z1 al_w_.a__a.m__p, hE.sel [4] (by kernel_rfl), H.x1⟩
      rintro a w ⟨z2, hE, H⟩
      refine Runs.ret hE Tryz.func29 rfl rfl ?_
      cases hm
      exact ⟨z2, sb, sc, rfl, H⟩

end Go.Proofs.YthblgkpmefpllaaGreat
