import Derived.Test.YthblgkpmefpllaaGreatBp1
set_option linter.unusedVariables false
set_option linter.unusedSimpArgs false
set_option maxRecDepth 10000
set_option maxHeartbeats 4000000
namespace Go.Proofs.YthblgkpmefpllaaGreat
open Go.Th

theorem thicketlaw9_world_push_at0_ok {w0 w : World} {As : List HP} {k : Nat} {p_w_ : Nat} {al_w_ : thicketlaw9_world.A} {w_ : thicketlaw9_world} {key : Int} {t : Bool × thicketlaw9_world}  (hm : thicketlaw9_world_push_at0 k w_ key = some t) (H : St w0 (thicketlaw9_world.R p_w_ al_w_ w_ :: As) w) :
    CallsR Tryz.prog 28 #[.pointer (some ⟨p_w_, 0, none⟩), .int .i64 0, .int .i64 key] w fun v w' => ∃ (z_w__a__a : arena_Arena.A), ∃ (z_w__has0_b : Option Addr), ∃ (z_w__has0_c : Nat), v = .bool t.1 ∧ St w0 (thicketlaw9_world.R p_w_ (thicketlaw9_world.A.mk al_w_.a__p z_w__a__a z_w__has0_b z_w__has0_c al_w_.has1_b al_w_.has1_c) t.2 :: As) w' := by
  rw [thicketlaw9_world_push_at0] at hm
  refine enter (args := [.pointer (some ⟨p_w_, 0, none⟩), .int .i64 0, .int .i64 key]) Tryz.func28 rfl rfl rfl fun a hE => ?_
  refine Runs.seq ?_
  refine Runs.region ?_
  refine WR.seg hE 1 [] [0, 1, 2] (Lo := [(0, .pointer (some ⟨p_w_, 0, none⟩)), (1, .int .i64 0), (2, .int .i64 key)]) (obs := []) rfl (by kernel_rfl) trivial fun a hE => ?_
  refine WR.done rfl ?_
  refine Runs.seq ?_
  refine Runs.drawn mixed (by kernel_rfl) ?_
  replace H := H.drew
  replace H := thicketlaw9_world.open H
  refine WQ.seg hE [0, 1, 2, 3, 4, 5, 6, 7, 8] [.pointer (some ⟨al_w_.a__p, 0, none⟩), .int .i64 w_.next] [0, 1, 2, 17, 18, 22] (Lo := [(0, .pointer (some ⟨p_w_, 0, none⟩)), (1, .int .i64 0), (2, .int .i64 key), (17, .pointer (some ⟨al_w_.a__p, 0, none⟩)), (18, .int .i64 key), (22, .int .i64 w_.next)]) (obs := [.cell ⟨p_w_, 0, none⟩ (.pointer (some ⟨al_w_.a__p, 0, none⟩)), .cell ⟨p_w_, 5, none⟩ (.int .i64 w_.next)]) (by kernel_rfl) (by kernel_rfl) ⟨H.cell 0 rfl rfl, H.cell 0 rfl rfl, trivial⟩ fun a hE => ?_
  obtain ⟨t_, et_, hm⟩ := bind_some hm
  refine WQ.eff (j := 9) (obs := []) hE (by kernel_rfl) rfl rfl rfl rfl (by kernel_rfl) (OpTo.fn hE rfl rfl Tryz.call17 (item_New_ok et_ H.t1)) ?_
  rintro _ w ⟨z, z1, rfl, H⟩
  refine ⟨trivial, fun a hE => ?_⟩
  refine WQ.seg hE [10, 11, 12, 13, 14] [] [0, 1, 2, 7, 8] (Lo := [(0, .pointer (some ⟨p_w_, 0, none⟩)), (1, .int .i64 0), (2, .int .i64 key), (7, .int .i64 t_.1), (8, .bool t_.2.1)]) (obs := []) (by kernel_rfl) (by kernel_rfl) trivial fun a hE => ?_
  refine WQ.done (by kernel_rfl) ?_
  refine Runs.seq ?_
  refine Runs.seq ?_
  refine Runs.region ?_
  refine WR.seg hE 2 [] [0, 1, 2, 7, 27] (Lo := [(0, .pointer (some ⟨p_w_, 0, none⟩)), (1, .int .i64 0), (2, .int .i64 key), (7, .int .i64 t_.1), (27, .bool (!t_.2.1))]) (obs := []) rfl (by kernel_rfl) trivial fun a hE => ?_
  refine WR.done rfl ?_
  refine Runs.cond hE rfl (fun c => ?_) (fun c => ?_)
  · replace hm := cond_t c hm
    refine Runs.seq ?_
    refine Runs.drawn mixed (by kernel_rfl) ?_
    replace H := H.drew
    refine WQ.seg hE [0, 1, 2, 3, 5, 6, 7, 8] [.pointer (some ⟨al_w_.a__p, 0, none⟩), .pointer (some ⟨al_w_.a__p, 0, none⟩)] [31, 36] (Lo := [(31, .pointer (some ⟨al_w_.a__p, 0, none⟩)), (36, .pointer (some ⟨al_w_.a__p, 0, none⟩))]) (obs := [.cell ⟨p_w_, 0, none⟩ (.pointer (some ⟨al_w_.a__p, 0, none⟩)), .cell ⟨p_w_, 0, none⟩ (.pointer (some ⟨al_w_.a__p, 0, none⟩))]) (by kernel_rfl) (by kernel_rfl) ⟨H.cell 1 rfl rfl, H.cell 1 rfl rfl, trivial⟩ fun a hE => ?_
    obtain ⟨t_1, et_1, hm⟩ := bind_some hm
    refine WQ.eff (j := 4) (obs := [.cell ⟨p_w_, 0, none⟩ (.pointer (some ⟨al_w_.a__p, 0, none⟩))]) hE (by kernel_rfl) rfl rfl rfl rfl (by kernel_rfl) (OpTo.fn hE rfl rfl Tryz.call26 (arena_Arena_Len_ok et_1 H)) ?_
    rintro _ w ⟨rfl, H⟩
    refine ⟨⟨H.cell 1 rfl rfl, trivial⟩, fun a hE => ?_⟩
    obtain ⟨t_2, et_2, hm⟩ := bind_some hm
    refine WQ.eff (j := 9) (obs := []) hE (by kernel_rfl) rfl rfl rfl rfl (by kernel_rfl) (OpTo.fn hE rfl rfl Tryz.call63 (arena_Arena_Cells_ok et_2 H)) ?_
    rintro _ w ⟨rfl, H⟩
    refine ⟨trivial, fun a hE => ?_⟩
    refine WQ.seg hE [10, 11] [] [6] (Lo := [(6, .bool (t_1 == t_2))]) (obs := []) (by kernel_rfl) (by kernel_rfl) trivial fun a hE => ?_
    refine WQ.done (by kernel_rfl) ?_
    replace H := thicketlaw9_world.shut (thicketlaw9_world.A.mk al_w_.a__p (arena_Arena.A.mk al_w_.a__a.l_b al_w_.a__a.l_c z z1 al_w_.a__a.m__p) al_w_.has0_b al_w_.has0_c al_w_.has1_b al_w_.has1_c) (thicketlaw9_world.mk t_.2.2 w_.root0 w_.root1 w_.has0 w_.has1 w_.next w_.spent w_.most) H.t3.t3.t2.t3
    refine Runs.ret hE Tryz.func28 rfl rfl ?_
    cases hm
    exact ⟨arena_Arena.A.mk al_w_.a__a.l_b al_w_.a__a.l_c z z1 al_w_.a__a.m__p, al_w_.has0_b, al_w_.has0_c, rfl, H⟩
  · replace hm := cond_f c hm
    refine Runs.skip ?_
    refine Runs.seq ?_
    refine Runs.drawn mixed (by kernel_rfl) ?_
    replace H := H.drew
    refine WQ.seg hE [0, 1, 2, 3, 5, 6, 7, 8] [.pointer (some ⟨al_w_.a__p, 0, none⟩), .pointer (some ⟨al_w_.a__p, 0, none⟩)] [0, 1, 2, 7, 42, 47] (Lo := [(0, .pointer (some ⟨p_w_, 0, none⟩)), (1, .int .i64 0), (2, .int .i64 key), (7, .int .i64 t_.1), (42, .pointer (some ⟨al_w_.a__p, 0, none⟩)), (47, .pointer (some ⟨al_w_.a__p, 0, none⟩))]) (obs := [.cell ⟨p_w_, 0, none⟩ (.pointer (some ⟨al_w_.a__p, 0, none⟩)), .cell ⟨p_w_, 0, none⟩ (.pointer (some ⟨al_w_.a__p, 0, none⟩))]) (by kernel_rfl) (by kernel_rfl) ⟨H.cell 1 rfl rfl, H.cell 1 rfl rfl, trivial⟩ fun a hE => ?_
    obtain ⟨t_3, et_3, hm⟩ := bind_some hm
    refine WQ.eff (j := 4) (obs := [.cell ⟨p_w_, 0, none⟩ (.pointer (some ⟨al_w_.a__p, 0, none⟩))]) hE (by kernel_rfl) rfl rfl rfl rfl (by kernel_rfl) (OpTo.fn hE rfl rfl Tryz.call26 (arena_Arena_Len_ok et_3 H)) ?_
    rintro _ w ⟨rfl, H⟩
    refine ⟨⟨H.cell 1 rfl rfl, trivial⟩, fun a hE => ?_⟩
    obtain ⟨t_4, et_4, hm⟩ := bind_some hm
    refine WQ.eff (j := 9) (obs := []) hE (by kernel_rfl) rfl rfl rfl rfl (by kernel_rfl) (OpTo.fn hE rfl rfl Tryz.call63 (arena_Arena_Cells_ok et_4 H)) ?_
    rintro _ w ⟨rfl, H⟩
    refine ⟨trivial, fun a hE => ?_⟩
    refine WQ.seg hE [10, 11] [] [0, 1, 2, 7, 9] (Lo := [(0, .pointer (some ⟨p_w_, 0, none⟩)), (1, .int .i64 0), (2, .int .i64 key), (7, .int .i64 t_.1), (9, .bool (decide (t_3 < t_4)))]) (obs := []) (by kernel_rfl) (by kernel_rfl) trivial fun a hE => ?_
    refine WQ.done (by kernel_rfl) ?_
    refine Runs.seq ?_
    refine Runs.region ?_
    refine WR.seg hE 4 [.pointer (some ⟨al_w_.a__p, 0, none⟩)] [0, 1, 2, 7, 9, 53] (Lo := [(0, .pointer (some ⟨p_w_, 0, none⟩)), (1, .int .i64 0), (2, .int .i64 key), (7, .int .i64 t_.1), (9, .bool (decide (t_3 < t_4))), (53, .pointer (some ⟨al_w_.a__p, 0, none⟩))]) (obs := [.cell ⟨p_w_, 0, none⟩ (.pointer (some ⟨al_w_.a__p, 0, none⟩))]) rfl (by kernel_rfl) ⟨H.cell 1 rfl rfl, trivial⟩ fun a hE => ?_
    obtain ⟨t_5, et_5, hm⟩ := bind_some hm
    refine WR.eff hE rfl rfl rfl rfl (OpTo.fn hE rfl rfl Tryz.call18 (arena_Arena_Meter_ok et_5 H)) ?_
    rintro _ w ⟨rfl, H⟩ a hE
    replace H := arena_Arena.open H
    try dsimp only at H
    obtain ⟨t_6, et_6, hm⟩ := bind_some hm
    refine WR.eff hE rfl rfl rfl rfl (OpTo.fn hE rfl rfl Tryz.call19 (meter_Meter_Steps_ok et_6 H.t3)) ?_
    rintro _ w ⟨rfl, H⟩ a hE
    refine WR.seg hE 7 [] [0, 1, 2, 7, 9, 10] (Lo := [(0, .pointer (some ⟨p_w_, 0, none⟩)), (1, .int .i64 0), (2, .int .i64 key), (7, .int .i64 t_.1), (9, .bool (decide (t_3 < t_4))), (10, .int .i64 t_6)]) (obs := []) rfl (by kernel_rfl) trivial fun a hE => ?_
    refine WR.done rfl ?_
    refine Runs.seq ?_
    refine Runs.drawn mixed (by kernel_rfl) ?_
    replace H := H.drew
    refine WQ.seg hE [0, 1, 2, 3, 4, 5, 6, 7, 8, 9, 10] [.pointer (some ⟨al_w_.a__p, 0, none⟩), .int .i64 w_.root0] [0, 1, 2, 7, 9, 10, 60, 66, 67] (Lo := [(0, .pointer (some ⟨p_w_, 0, none⟩)), (1, .int .i64 0), (2, .int .i64 key), (7, .int .i64 t_.1), (9, .bool (decide (t_3 < t_4))), (10, .int .i64 t_6), (60, .pointer (some ⟨al_w_.a__p, 0, none⟩)), (66, .int .i64 w_.root0), (67, .int .i64 t_.1)]) (obs := [.cell ⟨p_w_, 0, none⟩ (.pointer (some ⟨al_w_.a__p, 0, none⟩)), .p (0 ≤ (0 : Int) ∧ (0 : Int) < ((2 : Nat) : Int)), .cell ⟨p_w_, 1, none⟩ (.int .i64 w_.root0)]) (by kernel_rfl) (by kernel_rfl) ⟨H.cell 4 rfl rfl, ⟨by decide, by decide⟩, H.cell 4 rfl rfl, trivial⟩ fun a hE => ?_
    replace H := arena_Arena.shut (arena_Arena.A.mk al_w_.a__a.l_b al_w_.a__a.l_c z z1 al_w_.a__a.m__p) (t_.2.2) H.t3.t3.t3
    obtain ⟨t_7, et_7, hm⟩ := bind_some hm
    refine WQ.eff (j := 11) (obs := []) hE (by kernel_rfl) rfl rfl rfl rfl (by kernel_rfl) (OpTo.fn hE rfl rfl Tryz.call20 (binomial_Push_ok et_7 H)) ?_
    rintro _ w ⟨z2, z3, rfl, H⟩
    refine ⟨trivial, fun a hE => ?_⟩
    refine WQ.seg hE [12, 13, 14, 15, 16] [] [0, 1, 2, 7, 9, 10, 11, 12] (Lo := [(0, .pointer (some ⟨p_w_, 0, none⟩)), (1, .int .i64 0), (2, .int .i64 key), (7, .int .i64 t_.1), (9, .bool (decide (t_3 < t_4))), (10, .int .i64 t_6), (11, .int .i64 t_7.1), (12, .bool t_7.2.1)]) (obs := []) (by kernel_rfl) (by kernel_rfl) trivial fun a hE => ?_
    refine WQ.done (by kernel_rfl) ?_
    refine Runs.seq ?_
    refine Runs.seq ?_
    replace H := thicketlaw9_world.shut (thicketlaw9_world.A.mk al_w_.a__p (arena_Arena.A.mk al_w_.a__a.l_b al_w_.a__a.l_c z2 z3 al_w_.a__a.m__p) al_w_.has0_b al_w_.has0_c al_w_.has1_b al_w_.has1_c) (thicketlaw9_world.mk t_7.2.2 w_.root0 w_.root1 w_.has0 w_.has1 w_.next w_.spent w_.most) H.t3.t3.t2.t3
    obtain ⟨s, es, hm⟩ := bind_some hm
    refine Runs.join (fun a w => EnvOk 142 a [(0, .pointer (some ⟨p_w_, 0, none⟩)), (1, .int .i64 0), (2, .int .i64 key), (7, .int .i64 t_.1), (11, .int .i64 t_7.1), (12, .bool t_7.2.1), (87, .bool s.1)] ∧ St w0 (thicketlaw9_world.R p_w_ (thicketlaw9_world.A.mk al_w_.a__p (arena_Arena.A.mk al_w_.a__a.l_b al_w_.a__a.l_c z2 z3 al_w_.a__a.m__p) al_w_.has0_b al_w_.has0_c al_w_.has1_b al_w_.has1_c) s.2 :: As) w) (fun hk => ?_) ?_
    · replace hm := es; clear es
      refine Runs.region ?_
      replace H := thicketlaw9_world.open H
      try dsimp only at H
      refine WR.seg hE 10 [.slice al_w_.has0_b w_.has0.length al_w_.has0_c] [0, 1, 2, 7, 9, 11, 12, 71, 72, 80] (Lo := [(0, .pointer (some ⟨p_w_, 0, none⟩)), (1, .int .i64 0), (2, .int .i64 key), (7, .int .i64 t_.1), (9, .bool (decide (t_3 < t_4))), (11, .int .i64 t_7.1), (12, .bool t_7.2.1), (71, .pointer (some ⟨p_w_, 0, none⟩)), (72, .int .i64 t_6), (80, .int .i64 (w64 ((w_.has0.length : Int) + 1)))]) (obs := [.p (0 ≤ (0 : Int) ∧ (0 : Int) < ((2 : Nat) : Int)), .cell ⟨p_w_, 3, none⟩ (.slice al_w_.has0_b w_.has0.length al_w_.has0_c)]) rfl (by kernel_rfl) ⟨⟨by decide, by decide⟩, H.cell 0 rfl rfl, trivial⟩ fun a hE => ?_
      replace H := thicketlaw9_world.shut (thicketlaw9_world.A.mk al_w_.a__p (arena_Arena.A.mk al_w_.a__a.l_b al_w_.a__a.l_c z2 z3 al_w_.a__a.m__p) al_w_.has0_b al_w_.has0_c al_w_.has1_b al_w_.has1_c) (thicketlaw9_world.mk t_7.2.2 w_.root0 w_.root1 w_.has0 w_.has1 w_.next w_.spent w_.most) H.t3.t3.t3.t3
      obtain ⟨t_8, et_8, hm⟩ := bind_some hm
      refine WR.eff hE rfl rfl rfl rfl (OpTo.fn hE rfl rfl Tryz.call21 (thicketlaw9_world_cost_ok et_8 H)) ?_
      rintro _ w ⟨rfl, hf, hf1, H⟩ a hE
      refine WR.seg hE 13 [] [0, 1, 2, 7, 9, 11, 12, 83] (Lo := [(0, .pointer (some ⟨p_w_, 0, none⟩)), (1, .int .i64 0), (2, .int .i64 key), (7, .int .i64 t_.1), (9, .bool (decide (t_3 < t_4))), (11, .int .i64 t_7.1), (12, .bool t_7.2.1), (83, .bool (!t_8.1))]) (obs := []) rfl (by kernel_rfl) trivial fun a hE => ?_
      rcases Bool.eq_false_or_eq_true (!t_8.1) with c | c
      · replace hE := hE.dec 83 c (by kernel_rfl)
        replace hm := cond_t c hm
        have c_ := c
        refine WR.seg hE 17 [] [0, 1, 2, 7, 11, 12, 87] (Lo := [(0, .pointer (some ⟨p_w_, 0, none⟩)), (1, .int .i64 0), (2, .int .i64 key), (7, .int .i64 t_.1), (11, .int .i64 t_7.1), (12, .bool t_7.2.1), (87, .bool true)]) (obs := []) rfl (by kernel_rfl) trivial fun a hE => ?_
        refine WR.done rfl ?_
        cases hm
        exact hk _ _ ⟨hE.sel [0, 1, 2, 7, 11, 12, 87] (by kernel_rfl), H⟩
      · replace hE := hE.dec 83 c (by kernel_rfl)
        replace hm := cond_f c hm
        have c_1 := c
        refine WR.seg hE 17 [] [0, 1, 2, 7, 11, 12, 87] (Lo := [(0, .pointer (some ⟨p_w_, 0, none⟩)), (1, .int .i64 0), (2, .int .i64 key), (7, .int .i64 t_.1), (11, .int .i64 t_7.1), (12, .bool t_7.2.1), (87, .bool (!(t_7.2.1 == (decide (t_3 < t_4)))))]) (obs := []) rfl (by kernel_rfl) trivial fun a hE => ?_
        refine WR.done rfl ?_
        cases hm
        exact hk _ _ ⟨hE.sel [0, 1, 2, 7, 11, 12, 87] (by kernel_rfl), H⟩
    rintro a w ⟨hE, H⟩
    refine Runs.cond hE rfl (fun c => ?_) (fun c => ?_)
    · replace hm := cond_t c hm
      refine Runs.seq ?_
      refine Runs.region ?_
      refine WR.seg hE 1 [] [6] (Lo := [(6, .bool false)]) (obs := []) rfl (by kernel_rfl) trivial fun a hE => ?_
      refine WR.done rfl ?_
      refine Runs.ret hE Tryz.func28 rfl rfl ?_
      cases hm
      exact ⟨arena_Arena.A.mk al_w_.a__a.l_b al_w_.a__a.l_c z2 z3 al_w_.a__a.m__p, al_w_.has0_b, al_w_.has0_c, rfl, H⟩
    · replace hm := cond_f c hm
      refine Runs.skip ?_
      refine Runs.seq ?_
      refine Runs.seq ?_
      refine Runs.region ?_
      refine WR.seg hE 2 [] [0, 1, 2, 7, 11, 89] (Lo := [(0, .pointer (some ⟨p_w_, 0, none⟩)), (1, .int .i64 0), (2, .int .i64 key), (7, .int .i64 t_.1), (11, .int .i64 t_7.1), (89, .bool (!t_7.2.1))]) (obs := []) rfl (by kernel_rfl) trivial fun a hE => ?_
      refine WR.done rfl ?_
      refine Runs.cond hE rfl (fun c => ?_) (fun c => ?_)
      · replace hm := cond_t c hm
        refine Runs.seq ?_
        obtain ⟨s1, es1, hm⟩ := bind_some hm
        refine Runs.join (fun a w => ∃ (z4 : arena_Arena.A), EnvOk 142 a [(6, .bool s1.1)] ∧ St w0 (thicketlaw9_world.R p_w_ (thicketlaw9_world.A.mk al_w_.a__p z4 al_w_.has0_b al_w_.has0_c al_w_.has1_b al_w_.has1_c) s1.2 :: As) w) (fun hk => ?_) ?_
        · replace hm := es1; clear es1
          refine Runs.region ?_
          replace H := thicketlaw9_world.open H
          try dsimp only at H
          refine WR.seg hE 9 [.int .i64 s.2.root0] [0, 7, 98] (Lo := [(0, .pointer (some ⟨p_w_, 0, none⟩)), (7, .int .i64 t_.1), (98, .bool (t_7.1 == s.2.root0))]) (obs := [.p (0 ≤ (0 : Int) ∧ (0 : Int) < ((2 : Nat) : Int)), .cell ⟨p_w_, 1, none⟩ (.int .i64 s.2.root0)]) rfl (by kernel_rfl) ⟨⟨by decide, by decide⟩, H.cell 0 rfl rfl, trivial⟩ fun a hE => ?_
          rcases Bool.eq_false_or_eq_true (t_7.1 == s.2.root0) with c | c
          · replace hE := hE.dec 98 c (by kernel_rfl)
            replace hm := cond_t c hm
            have c_2 := c
            refine WR.seg hE 14 [.pointer (some ⟨al_w_.a__p, 0, none⟩)] [98, 102, 103] (Lo := [(98, .bool true), (102, .pointer (some ⟨al_w_.a__p, 0, none⟩)), (103, .int .i64 t_.1)]) (obs := [.cell ⟨p_w_, 0, none⟩ (.pointer (some ⟨al_w_.a__p, 0, none⟩))]) rfl (by kernel_rfl) ⟨H.cell 0 rfl rfl, trivial⟩ fun a hE => ?_
            obtain ⟨t_9, et_9, hm⟩ := bind_some hm
            refine WR.eff hE rfl rfl rfl rfl (OpTo.fn hE rfl rfl Tryz.call25 (arena_Arena_Give_ok et_9 H.t1)) ?_
            rintro _ w ⟨z5, z6, rfl, H⟩ a hE
            refine WR.seg hE 17 [] [6] (Lo := [(6, .bool t_9.1)]) (obs := []) rfl (by kernel_rfl) trivial fun a hE => ?_
            refine WR.done rfl ?_
            replace H := thicketlaw9_world.shut (thicketlaw9_world.A.mk al_w_.a__p (arena_Arena.A.mk ((arena_Arena.A.mk al_w_.a__a.l_b al_w_.a__a.l_c z2 z3 al_w_.a__a.m__p).l_b) ((arena_Arena.A.mk al_w_.a__a.l_b al_w_.a__a.l_c z2 z3 al_w_.a__a.m__p).l_c) z5 z6 ((arena_Arena.A.mk al_w_.a__a.l_b al_w_.a__a.l_c z2 z3 al_w_.a__a.m__p).m__p)) al_w_.has0_b al_w_.has0_c al_w_.has1_b al_w_.has1_c) (thicketlaw9_world.mk t_9.2 s.2.root0 s.2.root1 s.2.has0 s.2.has1 s.2.next s.2.spent s.2.most) H.t3.t3.t2.t3
            cases hm
            exact hk _ _ ⟨arena_Arena.A.mk ((arena_Arena.A.mk al_w_.a__a.l_b al_w_.a__a.l_c z2 z3 al_w_.a__a.m__p).l_b) ((arena_Arena.A.mk al_w_.a__a.l_b al_w_.a__a.l_c z2 z3 al_w_.a__a.m__p).l_c) z5 z6 ((arena_Arena.A.mk al_w_.a__a.l_b al_w_.a__a.l_c z2 z3 al_w_.a__a.m__p).m__p), hE.sel [6] (by kernel_rfl), H⟩
          · replace hE := hE.dec 98 c (by kernel_rfl)
            replace hm := cond_f c hm
            have c_3 := c
            refine WR.seg hE 17 [] [6] (Lo := [(6, .bool false)]) (obs := []) rfl (by kernel_rfl) trivial fun a hE => ?_
            refine WR.done rfl ?_
            replace H := thicketlaw9_world.shut (thicketlaw9_world.A.mk al_w_.a__p (arena_Arena.A.mk al_w_.a__a.l_b al_w_.a__a.l_c z2 z3 al_w_.a__a.m__p) al_w_.has0_b al_w_.has0_c al_w_.has1_b al_w_.has1_c) (s.2) H.t3.t3.t3.t3
            cases hm
            exact hk _ _ ⟨arena_Arena.A.mk al_w_.a__a.l_b al_w_.a__a.l_c z2 z3 al_w_.a__a.m__p, hE.sel [6] (by kernel_rfl), H⟩
        rintro a w ⟨z4, hE, H⟩
        refine Runs.ret hE Tryz.func28 rfl rfl ?_
        cases hm
        exact ⟨z4, al_w_.has0_b, al_w_.has0_c, rfl, H⟩
      · replace hm := cond_f c hm
        refine Runs.skip ?_
        refine Runs.seq ?_
        refine Runs.region ?_
        refine WR.seg hE 6 [] [0, 1, 2, 7, 108, 111] (Lo := [(0, .pointer (some ⟨p_w_, 0, none⟩)), (1, .int .i64 0), (2, .int .i64 key), (7, .int .i64 t_.1), (108, .int .i64 t_7.1), (111, .pointer (some ⟨p_w_, 1, none⟩))]) (obs := [.p (0 ≤ (0 : Int) ∧ (0 : Int) < ((2 : Nat) : Int))]) rfl (by kernel_rfl) ⟨⟨by decide, by decide⟩, trivial⟩ fun a hE => ?_
        replace H := thicketlaw9_world.open H
        try dsimp only at H
        refine WR.eff0 hE rfl rfl rfl (OpTo.store hE H rfl rfl rfl rfl rfl rfl (Nat.le_of_ble_eq_true rfl)) ?_
        rintro _ w H a hE
        refine WR.done rfl ?_
        refine Runs.seq ?_
        replace H := thicketlaw9_world.shut (thicketlaw9_world.A.mk al_w_.a__p (arena_Arena.A.mk al_w_.a__a.l_b al_w_.a__a.l_c z2 z3 al_w_.a__a.m__p) al_w_.has0_b al_w_.has0_c al_w_.has1_b al_w_.has1_c) (thicketlaw9_world.mk s.2.a_ t_7.1 s.2.root1 s.2.has0 s.2.has1 s.2.next s.2.spent s.2.most) H.t3.t3.t3.t3
        obtain ⟨l, el, hm⟩ := bind_some hm
        obtain ⟨l1, el1, hm⟩ := bind_some hm
        refine Runs.join (fun a w => ∃ (z7 : Option Addr), ∃ (z8 : Nat), EnvOk 142 a [(0, .pointer (some ⟨p_w_, 0, none⟩))] ∧ St w0 (thicketlaw9_world.R p_w_ (thicketlaw9_world.A.mk al_w_.a__p (arena_Arena.A.mk al_w_.a__a.l_b al_w_.a__a.l_c z2 z3 al_w_.a__a.m__p) z7 z8 al_w_.has1_b al_w_.has1_c) (thicketlaw9_world.mk s.2.a_ t_7.1 s.2.root1 l1 s.2.has1 s.2.next s.2.spent s.2.most) :: As) w) (fun hk => ?_) ?_
        ·
          refine Runs.drawn mixed (by kernel_rfl) ?_
          replace H := H.drew
          replace H := thicketlaw9_world.open H
          try dsimp only at H
          refine WQ.seg hE [0, 1, 3, 4, 5, 6, 7, 8, 10, 11, 12, 13, 14, 15, 16, 17, 20, 21] [.slice al_w_.has0_b s.2.has0.length al_w_.has0_c, .int .i64 s.2.next] [0, 113, 120, 129, 133] (Lo := [(0, .pointer (some ⟨p_w_, 0, none⟩)), (113, .int .i64 0), (120, .slice al_w_.has0_b s.2.has0.length al_w_.has0_c), (129, .agg #[.int .i64 t_.1, .int .i64 key, .int .i64 s.2.next]), (133, .pointer (some ⟨p_w_, 3, none⟩))]) (obs := [.p (0 ≤ (0 : Int) ∧ (0 : Int) < ((2 : Nat) : Int)), .cell ⟨p_w_, 3, none⟩ (.slice al_w_.has0_b s.2.has0.length al_w_.has0_c), .cell ⟨p_w_, 5, none⟩ (.int .i64 s.2.next)]) (by kernel_rfl) (by kernel_rfl) ⟨⟨by decide, by decide⟩, H.cell 0 rfl rfl, H.cell 0 rfl rfl, trivial⟩ fun a hE => ?_
          refine WQ.act2 2 18 (by kernel_rfl) ?_ ?_
          ·
            refine AQ.eff (j := 2) (obs := [.cell ⟨p_w_, 5, none⟩ (.int .i64 s.2.next), .cell ⟨p_w_, 3, none⟩ (.slice al_w_.has0_b s.2.has0.length al_w_.has0_c), .p (0 ≤ (0 : Int) ∧ (0 : Int) < ((2 : Nat) : Int))]) hE rfl rfl rfl rfl (by kernel_rfl) (OpTo.buildSl (T := 58) hE H thicketlaw9_held.enc_ok ([] : List thicketlaw9_held) rfl (fun _ => by kernel_rfl) rfl rfl rfl) ?_
            rintro _ w ⟨r2, rfl, H⟩
            refine ⟨⟨H.cell 1 rfl rfl, H.cell 1 rfl rfl, ⟨by decide, by decide⟩, trivial⟩, fun a hE => ?_⟩
            refine WQ.act2 9 18 (by kernel_rfl) ?_ ?_
            ·
              refine AQ.eff (j := 9) (obs := [.cell ⟨p_w_, 5, none⟩ (.int .i64 s.2.next)]) hE rfl rfl rfl rfl (by kernel_rfl) (OpTo.appendM el hE H thicketlaw9_held.enc_ok rfl rfl rfl rfl rfl rfl rfl rfl rfl rfl (SlRd.all (sl_rd 58 thicketlaw9_held.enc 3 _ _ _) thicketlaw9_held.enc_ok H 3 rfl) rfl) ?_
              rintro _ w ⟨sb2, sc2, rfl, H⟩
              refine ⟨⟨H.cell 1 rfl rfl, trivial⟩, fun a hE => ?_⟩
              refine WQ.eff (j := 18) (obs := []) hE (by kernel_rfl) rfl rfl rfl rfl (by kernel_rfl) (OpTo.buildSl (T := 58) hE H thicketlaw9_held.enc_ok ([thicketlaw9_held.mk t_.1 (api_Entry.mk key s.2.next)] : List thicketlaw9_held) rfl (fun _ => by kernel_rfl) rfl rfl rfl) ?_
              rintro _ w ⟨r3, rfl, H⟩
              refine ⟨trivial, fun a hE => ?_⟩
              replace H := H.t1
              refine WQ.eff (j := 19) (obs := []) hE (by kernel_rfl) rfl rfl rfl rfl (by kernel_rfl) (OpTo.appendM el1 hE H thicketlaw9_held.enc_ok rfl rfl rfl rfl rfl rfl rfl rfl rfl rfl (SlRd.all (sl_rd 58 thicketlaw9_held.enc 3 _ _ _) thicketlaw9_held.enc_ok H 1 rfl) rfl) ?_
              rintro _ w ⟨sb3, sc3, rfl, H⟩
              refine ⟨trivial, fun a hE => ?_⟩
              refine WQ.seg hE [22] [] [0, 131, 134] (Lo := [(0, .pointer (some ⟨p_w_, 0, none⟩)), (131, .slice sb3 l1.length sc3), (134, .pointer (some ⟨p_w_, 3, none⟩))]) (obs := [.p (0 ≤ (0 : Int) ∧ (0 : Int) < ((2 : Nat) : Int))]) (by kernel_rfl) (by kernel_rfl) ⟨⟨by decide, by decide⟩, trivial⟩ fun a hE => ?_
              refine WQ.eff0 (j := 23) (obs := []) hE (by kernel_rfl) rfl rfl rfl (by kernel_rfl) (OpTo.store hE H.t2 rfl rfl rfl rfl rfl rfl (Nat.le_of_ble_eq_true rfl)) ?_
              rintro _ w H
              refine ⟨trivial, fun a hE => ?_⟩
              refine WQ.done (by kernel_rfl) ?_
              replace H := thicketlaw9_world.shut (thicketlaw9_world.A.mk al_w_.a__p (arena_Arena.A.mk al_w_.a__a.l_b al_w_.a__a.l_c z2 z3 al_w_.a__a.m__p) sb3 sc3 al_w_.has1_b al_w_.has1_c) (thicketlaw9_world.mk s.2.a_ t_7.1 s.2.root1 l1 s.2.has1 s.2.next s.2.spent s.2.most) H.t5.t2.t4.t3
              exact hk _ _ ⟨sb3, sc3, hE.sel [0] (by kernel_rfl), H.x2.x1⟩
            ·
              refine AQ.eff (j := 18) (obs := [.cell ⟨p_w_, 3, none⟩ (.slice al_w_.has0_b s.2.has0.length al_w_.has0_c), .p (0 ≤ (0 : Int) ∧ (0 : Int) < ((2 : Nat) : Int))]) hE rfl rfl rfl rfl (by kernel_rfl) (OpTo.buildSl (T := 58) hE H thicketlaw9_held.enc_ok ([thicketlaw9_held.mk t_.1 (api_Entry.mk key s.2.next)] : List thicketlaw9_held) rfl (fun _ => by kernel_rfl) rfl rfl rfl) ?_
              rintro _ w ⟨r4, rfl, H⟩
              refine ⟨⟨H.cell 2 rfl rfl, ⟨by decide, by decide⟩, trivial⟩, fun a hE => ?_⟩
              replace H := H.t1
              refine WQ.eff (j := 9) (obs := []) hE (by kernel_rfl) rfl rfl rfl rfl (by kernel_rfl) (OpTo.appendM el hE H thicketlaw9_held.enc_ok rfl rfl rfl rfl rfl rfl rfl rfl rfl rfl (SlRd.all (sl_rd 58 thicketlaw9_held.enc 3 _ _ _) thicketlaw9_held.enc_ok H 4 rfl) rfl) ?_
              rintro _ w ⟨sb4, sc4, rfl, H⟩
              refine ⟨trivial, fun a hE => ?_⟩
              refine WQ.eff (j := 19) (obs := []) hE (by kernel_rfl) rfl rfl rfl rfl (by kernel_rfl) (OpTo.appendM el1 hE H thicketlaw9_held.enc_ok rfl rfl rfl rfl rfl rfl rfl rfl rfl rfl (SlRd.all (sl_rd 58 thicketlaw9_held.enc 3 _ _ _) thicketlaw9_held.enc_ok H 1 rfl) rfl) ?_
              rintro _ w ⟨sb5, sc5, rfl, H⟩
              refine ⟨trivial, fun a hE => ?_⟩
              refine WQ.seg hE [22] [] [0, 131, 134] (Lo := [(0, .pointer (some ⟨p_w_, 0, none⟩)), (131, .slice sb5 l1.length sc5), (134, .pointer (some ⟨p_w_, 3, none⟩))]) (obs := [.p (0 ≤ (0 : Int) ∧ (0 : Int) < ((2 : Nat) : Int))]) (by kernel_rfl) (by kernel_rfl) ⟨⟨by decide, by decide⟩, trivial⟩ fun a hE => ?_
              refine WQ.eff0 (j := 23) (obs := []) hE (by kernel_rfl) rfl rfl rfl (by kernel_rfl) (OpTo.store hE H.t2 rfl rfl rfl rfl rfl rfl (Nat.le_of_ble_eq_true rfl)) ?_
              rintro _ w H
              refine ⟨trivial, fun a hE => ?_⟩
              refine WQ.done (by kernel_rfl) ?_
              replace H := thicketlaw9_world.shut (thicketlaw9_world.A.mk al_w_.a__p (arena_Arena.A.mk al_w_.a__a.l_b al_w_.a__a.l_c z2 z3 al_w_.a__a.m__p) sb5 sc5 al_w_.has1_b al_w_.has1_c) (thicketlaw9_world.mk s.2.a_ t_7.1 s.2.root1 l1 s.2.has1 s.2.next s.2.spent s.2.most) H.t5.t2.t4.t3
              exact hk _ _ ⟨sb5, sc5, hE.sel [0] (by kernel_rfl), H.x2.x1⟩
          ·
            refine AQ.eff (j := 18) (obs := [.cell ⟨p_w_, 3, none⟩ (.slice al_w_.has0_b s.2.has0.length al_w_.has0_c), .p (0 ≤ (0 : Int) ∧ (0 : Int) < ((2 : Nat) : Int))]) hE rfl rfl rfl rfl (by kernel_rfl) (OpTo.buildSl (T := 58) hE H thicketlaw9_held.enc_ok ([thicketlaw9_held.mk t_.1 (api_Entry.mk key s.2.next)] : List thicketlaw9_held) rfl (fun _ => by kernel_rfl) rfl rfl rfl) ?_
            rintro _ w ⟨r5, rfl, H⟩
            refine ⟨⟨H.cell 1 rfl rfl, ⟨by decide, by decide⟩, trivial⟩, fun a hE => ?_⟩
            refine WQ.eff (j := 2) (obs := [.cell ⟨p_w_, 3, none⟩ (.slice al_w_.has0_b s.2.has0.length al_w_.has0_c), .p (0 ≤ (0 : Int) ∧ (0 : Int) < ((2 : Nat) : Int))]) hE (by kernel_rfl) rfl rfl rfl rfl (by kernel_rfl) (OpTo.buildSl (T := 58) hE H thicketlaw9_held.enc_ok ([] : List thicketlaw9_held) rfl (fun _ => by kernel_rfl) rfl rfl rfl) ?_
            rintro _ w ⟨r6, rfl, H⟩
            refine ⟨⟨H.cell 2 rfl rfl, ⟨by decide, by decide⟩, trivial⟩, fun a hE => ?_⟩
            refine WQ.eff (j := 9) (obs := []) hE (by kernel_rfl) rfl rfl rfl rfl (by kernel_rfl) (OpTo.appendM el hE H thicketlaw9_held.enc_ok rfl rfl rfl rfl rfl rfl rfl rfl rfl rfl (SlRd.all (sl_rd 58 thicketlaw9_held.enc 3 _ _ _) thicketlaw9_held.enc_ok H 4 rfl) rfl) ?_
            rintro _ w ⟨sb6, sc6, rfl, H⟩
            refine ⟨trivial, fun a hE => ?_⟩
            refine WQ.eff (j := 19) (obs := []) hE (by kernel_rfl) rfl rfl rfl rfl (by kernel_rfl) (OpTo.appendM el1 hE H thicketlaw9_held.enc_ok rfl rfl rfl rfl rfl rfl rfl rfl rfl rfl (SlRd.all (sl_rd 58 thicketlaw9_held.enc 3 _ _ _) thicketlaw9_held.enc_ok H 1 rfl) rfl) ?_
            rintro _ w ⟨sb7, sc7, rfl, H⟩
            refine ⟨trivial, fun a hE => ?_⟩
            refine WQ.seg hE [22] [] [0, 131, 134] (Lo := [(0, .pointer (some ⟨p_w_, 0, none⟩)), (131, .slice sb7 l1.length sc7), (134, .pointer (some ⟨p_w_, 3, none⟩))]) (obs := [.p (0 ≤ (0 : Int) ∧ (0 : Int) < ((2 : Nat) : Int))]) (by kernel_rfl) (by kernel_rfl) ⟨⟨by decide, by decide⟩, trivial⟩ fun a hE => ?_
            refine WQ.eff0 (j := 23) (obs := []) hE (by kernel_rfl) rfl rfl rfl (by kernel_rfl) (OpTo.store hE H.t2 rfl rfl rfl rfl rfl rfl (Nat.le_of_ble_eq_true rfl)) ?_
            rintro _ w H
            refine ⟨trivial, fun a hE => ?_⟩
            refine WQ.done (by kernel_rfl) ?_
            replace H := thicketlaw9_world.shut (thicketlaw9_world.A.mk al_w_.a__p (arena_Arena.A.mk al_w_.a__a.l_b al_w_.a__a.l_c z2 z3 al_w_.a__a.m__p) sb7 sc7 al_w_.has1_b al_w_.has1_c) (thicketlaw9_world.mk s.2.a_ t_7.1 s.2.root1 l1 s.2.has1 s.2.next s.2.spent s.2.most) H.t5.t2.t4.t3
            exact hk _ _ ⟨sb7, sc7, hE.sel [0] (by kernel_rfl), H.x2.x1⟩
        rintro a w ⟨z7, z8, hE, H⟩
        refine Runs.seq ?_
        refine Runs.region ?_
        replace H := thicketlaw9_world.open H
        try dsimp only at H
        refine WR.seg hE 7 [.int .i64 ((thicketlaw9_world.mk s.2.a_ t_7.1 s.2.root1 l1 s.2.has1 s.2.next s.2.spent s.2.most).next)] [139, 141] (Lo := [(139, .int .i64 (w64 (((thicketlaw9_world.mk s.2.a_ t_7.1 s.2.root1 l1 s.2.has1 s.2.next s.2.spent s.2.most).next) + 1))), (141, .pointer (some ⟨p_w_, 5, none⟩))]) (obs := [.cell ⟨p_w_, 5, none⟩ (.int .i64 ((thicketlaw9_world.mk s.2.a_ t_7.1 s.2.root1 l1 s.2.has1 s.2.next s.2.spent s.2.most).next))]) rfl (by kernel_rfl) ⟨H.cell 0 rfl rfl, trivial⟩ fun a hE => ?_
        refine WR.eff0 hE rfl rfl rfl (OpTo.store hE H rfl rfl rfl rfl rfl rfl (Nat.le_of_ble_eq_true rfl)) ?_
        rintro _ w H a hE
        refine WR.done rfl ?_
        refine Runs.seq ?_
        refine Runs.region ?_
        refine WR.seg hE 1 [] [6] (Lo := [(6, .bool true)]) (obs := []) rfl (by kernel_rfl) trivial fun a hE => ?_
        refine WR.done rfl ?_
        replace H := thicketlaw9_world.shut (thicketlaw9_world.A.mk al_w_.a__p (arena_Arena.A.mk al_w_.a__a.l_b al_w_.a__a.l_c z2 z3 al_w_.a__a.m__p) z7 z8 al_w_.has1_b al_w_.has1_c) (thicketlaw9_world.mk ((thicketlaw9_world.mk s.2.a_ t_7.1 s.2.root1 l1 s.2.has1 s.2.next s.2.spent s.2.most).a_) ((thicketlaw9_world.mk s.2.a_ t_7.1 s.2.root1 l1 s.2.has1 s.2.next s.2.spent s.2.most).root0) ((thicketlaw9_world.mk s.2.a_ t_7.1 s.2.root1 l1 s.2.has1 s.2.next s.2.spent s.2.most).root1) ((thicketlaw9_world.mk s.2.a_ t_7.1 s.2.root1 l1 s.2.has1 s.2.next s.2.spent s.2.most).has0) ((thicketlaw9_world.mk s.2.a_ t_7.1 s.2.root1 l1 s.2.has1 s.2.next s.2.spent s.2.most).has1) (w64 (((thicketlaw9_world.mk s.2.a_ t_7.1 s.2.root1 l1 s.2.has1 s.2.next s.2.spent s.2.most).next) + 1)) ((thicketlaw9_world.mk s.2.a_ t_7.1 s.2.root1 l1 s.2.has1 s.2.next s.2.spent s.2.most).spent) ((thicketlaw9_world.mk s.2.a_ t_7.1 s.2.root1 l1 s.2.has1 s.2.next s.2.spent s.2.most).most)) H.t3.t3.t3.t3
        refine Runs.ret hE Tryz.func28 rfl rfl ?_
        cases hm
        exact ⟨arena_Arena.A.mk al_w_.a__a.l_b al_w_.a__a.l_c z2 z3 al_w_.a__a.m__p, z7, z8, rfl, H⟩

theorem thicketlaw9_world_push_at1_ok {w0 w : World} {As : List HP} {k : Nat} {p_w_ : Nat} {al_w_ : thicketlaw9_world.A} {w_ : thicketlaw9_world} {key : Int} {t : Bool × thicketlaw9_world}  (hm : thicketlaw9_world_push_at1 k w_ key = some t) (H : St w0 (thicketlaw9_world.R p_w_ al_w_ w_ :: As) w) :
    CallsR Tryz.prog 28 #[.pointer (some ⟨p_w_, 0, none⟩), .int .i64 1, .int .i64 key] w fun v w' => ∃ (z_w__a__a : arena_Arena.A), ∃ (z_w__has1_b : Option Addr), ∃ (z_w__has1_c : Nat), v = .bool t.1 ∧ St w0 (thicketlaw9_world.R p_w_ (thicketlaw9_world.A.mk al_w_.a__p z_w__a__a al_w_.has0_b al_w_.has0_c z_w__has1_b z_w__has1_c) t.2 :: As) w' := by
  rw [thicketlaw9_world_push_at1] at hm
  refine enter (args := [.pointer (some ⟨p_w_, 0, none⟩), .int .i64 1, .int .i64 key]) Tryz.func28 rfl rfl rfl fun a hE => ?_
  refine Runs.seq ?_
  refine Runs.region ?_
  refine WR.seg hE 1 [] [0, 1, 2] (Lo := [(0, .pointer (some ⟨p_w_, 0, none⟩)), (1, .int .i64 1), (2, .int .i64 key)]) (obs := []) rfl (by kernel_rfl) trivial fun a hE => ?_
  refine WR.done rfl ?_
  refine Runs.seq ?_
  refine Runs.drawn mixed (by kernel_rfl) ?_
  replace H := H.drew
  replace H := thicketlaw9_world.open H
  refine WQ.seg hE [0, 1, 2, 3, 4, 5, 6, 7, 8] [.pointer (some ⟨al_w_.a__p, 0, none⟩), .int .i64 w_.next] [0, 1, 2, 17, 18, 22] (Lo := [(0, .pointer (some ⟨p_w_, 0, none⟩)), (1, .int .i64 1), (2, .int .i64 key), (17, .pointer (some ⟨al_w_.a__p, 0, none⟩)), (18, .int .i64 key), (22, .int .i64 w_.next)]) (obs := [.cell ⟨p_w_, 0, none⟩ (.pointer (some ⟨al_w_.a__p, 0, none⟩)), .cell ⟨p_w_, 5, none⟩ (.int .i64 w_.next)]) (by kernel_rfl) (by kernel_rfl) ⟨H.cell 0 rfl rfl, H.cell 0 rfl rfl, trivial⟩ fun a hE => ?_
  obtain ⟨t_, et_, hm⟩ := bind_some hm
  refine WQ.eff (j := 9) (obs := []) hE (by kernel_rfl) rfl rfl rfl rfl (by kernel_rfl) (OpTo.fn hE rfl rfl Tryz.call17 (item_New_ok et_ H.t1)) ?_
  rintro _ w ⟨z, z1, rfl, H⟩
  refine ⟨trivial, fun a hE => ?_⟩
  refine WQ.seg hE [10, 11, 12, 13, 14] [] [0, 1, 2, 7, 8] (Lo := [(0, .pointer (some ⟨p_w_, 0, none⟩)), (1, .int .i64 1), (2, .int .i64 key), (7, .int .i64 t_.1), (8, .bool t_.2.1)]) (obs := []) (by kernel_rfl) (by kernel_rfl) trivial fun a hE => ?_
  refine WQ.done (by kernel_rfl) ?_
  refine Runs.seq ?_
  refine Runs.seq ?_
  refine Runs.region ?_
  refine WR.seg hE 2 [] [0, 1, 2, 7, 27] (Lo := [(0, .pointer (some ⟨p_w_, 0, none⟩)), (1, .int .i64 1), (2, .int .i64 key), (7, .int .i64 t_.1), (27, .bool (!t_.2.1))]) (obs := []) rfl (by kernel_rfl) trivial fun a hE => ?_
  refine WR.done rfl ?_
  refine Runs.cond hE rfl (fun c => ?_) (fun c => ?_)
  · replace hm := cond_t c hm
    refine Runs.seq ?_
    refine Runs.drawn mixed (by kernel_rfl) ?_
    replace H := H.drew
    refine WQ.seg hE [0, 1, 2, 3, 5, 6, 7, 8] [.pointer (some ⟨al_w_.a__p, 0, none⟩), .pointer (some ⟨al_w_.a__p, 0, none⟩)] [31, 36] (Lo := [(31, .pointer (some ⟨al_w_.a__p, 0, none⟩)), (36, .pointer (some ⟨al_w_.a__p, 0, none⟩))]) (obs := [.cell ⟨p_w_, 0, none⟩ (.pointer (some ⟨al_w_.a__p, 0, none⟩)), .cell ⟨p_w_, 0, none⟩ (.pointer (some ⟨al_w_.a__p, 0, none⟩))]) (by kernel_rfl) (by kernel_rfl) ⟨H.cell 1 rfl rfl, H.cell 1 rfl rfl, trivial⟩ fun a hE => ?_
    obtain ⟨t_1, et_1, hm⟩ := bind_some hm
    refine WQ.eff (j := 4) (obs := [.cell ⟨p_w_, 0, none⟩ (.pointer (some ⟨al_w_.a__p, 0, none⟩))]) hE (by kernel_rfl) rfl rfl rfl rfl (by kernel_rfl) (OpTo.fn hE rfl rfl Tryz.call26 (arena_Arena_Len_ok et_1 H)) ?_
    rintro _ w ⟨rfl, H⟩
    refine ⟨⟨H.cell 1 rfl rfl, trivial⟩, fun a hE => ?_⟩
    obtain ⟨t_2, et_2, hm⟩ := bind_some hm
    refine WQ.eff (j := 9) (obs := []) hE (by kernel_rfl) rfl rfl rfl rfl (by kernel_rfl) (OpTo.fn hE rfl rfl Tryz.call63 (arena_Arena_Cells_ok et_2 H)) ?_
    rintro _ w ⟨rfl, H⟩
    refine ⟨trivial, fun a hE => ?_⟩
    refine WQ.seg hE [10, 11] [] [6] (Lo := [(6, .bool (t_1 == t_2))]) (obs := []) (by kernel_rfl) (by kernel_rfl) trivial fun a hE => ?_
    refine WQ.done (by kernel_rfl) ?_
    replace H := thicketlaw9_world.shut (thicketlaw9_world.A.mk al_w_.a__p (arena_Arena.A.mk al_w_.a__a.l_b al_w_.a__a.l_c z z1 al_w_.a__a.m__p) al_w_.has0_b al_w_.has0_c al_w_.has1_b al_w_.has1_c) (thicketlaw9_world.mk t_.2.2 w_.root0 w_.root1 w_.has0 w_.has1 w_.next w_.spent w_.most) H.t3.t3.t2.t3
    refine Runs.ret hE Tryz.func28 rfl rfl ?_
    cases hm
    exact ⟨arena_Arena.A.mk al_w_.a__a.l_b al_w_.a__a.l_c z z1 al_w_.a__a.m__p, al_w_.has1_b, al_w_.has1_c, rfl, H⟩
  · replace hm := cond_f c hm
    refine Runs.skip ?_
    refine Runs.seq ?_
    refine Runs.drawn mixed (by kernel_rfl) ?_
    replace H := H.drew
    refine WQ.seg hE [0, 1, 2, 3, 5, 6, 7, 8] [.pointer (some ⟨al_w_.a__p, 0, none⟩), .pointer (some ⟨al_w_.a__p, 0, none⟩)] [0, 1, 2, 7, 42, 47] (Lo := [(0, .pointer (some ⟨p_w_, 0, none⟩)), (1, .int .i64 1), (2, .int .i64 key), (7, .int .i64 t_.1), (42, .pointer (some ⟨al_w_.a__p, 0, none⟩)), (47, .pointer (some ⟨al_w_.a__p, 0, none⟩))]) (obs := [.cell ⟨p_w_, 0, none⟩ (.pointer (some ⟨al_w_.a__p, 0, none⟩)), .cell ⟨p_w_, 0, none⟩ (.pointer (some ⟨al_w_.a__p, 0, none⟩))]) (by kernel_rfl) (by kernel_rfl) ⟨H.cell 1 rfl rfl, H.cell 1 rfl rfl, trivial⟩ fun a hE => ?_
    obtain ⟨t_3, et_3, hm⟩ := bind_some hm
    refine WQ.eff (j := 4) (obs := [.cell ⟨p_w_, 0, none⟩ (.pointer (some ⟨al_w_.a__p, 0, none⟩))]) hE (by kernel_rfl) rfl rfl rfl rfl (by kernel_rfl) (OpTo.fn hE rfl rfl Tryz.call26 (arena_Arena_Len_ok et_3 H)) ?_
    rintro _ w ⟨rfl, H⟩
    refine ⟨⟨H.cell 1 rfl rfl, trivial⟩, fun a hE => ?_⟩
    obtain ⟨t_4, et_4, hm⟩ := bind_some hm
    refine WQ.eff (j := 9) (obs := []) hE (by kernel_rfl) rfl rfl rfl rfl (by kernel_rfl) (OpTo.fn hE rfl rfl Tryz.call63 (arena_Arena_Cells_ok et_4 H)) ?_
    rintro _ w ⟨rfl, H⟩
    refine ⟨trivial, fun a hE => ?_⟩
    refine WQ.seg hE [10, 11] [] [0, 1, 2, 7, 9] (Lo := [(0, .pointer (some ⟨p_w_, 0, none⟩)), (1, .int .i64 1), (2, .int .i64 key), (7, .int .i64 t_.1), (9, .bool (decide (t_3 < t_4)))]) (obs := []) (by kernel_rfl) (by kernel_rfl) trivial fun a hE => ?_
    refine WQ.done (by kernel_rfl) ?_
    refine Runs.seq ?_
    refine Runs.region ?_
    refine WR.seg hE 4 [.pointer (some ⟨al_w_.a__p, 0, none⟩)] [0, 1, 2, 7, 9, 53] (Lo := [(0, .pointer (some ⟨p_w_, 0, none⟩)), (1, .int .i64 1), (2, .int .i64 key), (7, .int .i64 t_.1), (9, .bool (decide (t_3 < t_4))), (53, .pointer (some ⟨al_w_.a__p, 0, none⟩))]) (obs := [.cell ⟨p_w_, 0, none⟩ (.pointer (some ⟨al_w_.a__p, 0, none⟩))]) rfl (by kernel_rfl) ⟨H.cell 1 rfl rfl, trivial⟩ fun a hE => ?_
    obtain ⟨t_5, et_5, hm⟩ := bind_some hm
    refine WR.eff hE rfl rfl rfl rfl (OpTo.fn hE rfl rfl Tryz.call18 (arena_Arena_Meter_ok et_5 H)) ?_
    rintro _ w ⟨rfl, H⟩ a hE
    replace H := arena_Arena.open H
    try dsimp only at H
    obtain ⟨t_6, et_6, hm⟩ := bind_some hm
    refine WR.eff hE rfl rfl rfl rfl (OpTo.fn hE rfl rfl Tryz.call19 (meter_Meter_Steps_ok et_6 H.t3)) ?_
    rintro _ w ⟨rfl, H⟩ a hE
    refine WR.seg hE 7 [] [0, 1, 2, 7, 9, 10] (Lo := [(0, .pointer (some ⟨p_w_, 0, none⟩)), (1, .int .i64 1), (2, .int .i64 key), (7, .int .i64 t_.1), (9, .bool (decide (t_3 < t_4))), (10, .int .i64 t_6)]) (obs := []) rfl (by kernel_rfl) trivial fun a hE => ?_
    refine WR.done rfl ?_
    refine Runs.seq ?_
    refine Runs.drawn mixed (by kernel_rfl) ?_
    replace H := H.drew
    refine WQ.seg hE [0, 1, 2, 3, 4, 5, 6, 7, 8, 9, 10] [.pointer (some ⟨al_w_.a__p, 0, none⟩), .int .i64 w_.root1] [0, 1, 2, 7, 9, 10, 60, 66, 67] (Lo := [(0, .pointer (some ⟨p_w_, 0, none⟩)), (1, .int .i64 1), (2, .int .i64 key), (7, .int .i64 t_.1), (9, .bool (decide (t_3 < t_4))), (10, .int .i64 t_6), (60, .pointer (some ⟨al_w_.a__p, 0, none⟩)), (66, .int .i64 w_.root1), (67, .int .i64 t_.1)]) (obs := [.cell ⟨p_w_, 0, none⟩ (.pointer (some ⟨al_w_.a__p, 0, none⟩)), .p (0 ≤ (1 : Int) ∧ (1 : Int) < ((2 : Nat) : Int)), .cell ⟨p_w_, 2, none⟩ (.int .i64 w_.root1)]) (by kernel_rfl) (by kernel_rfl) ⟨H.cell 4 rfl rfl, ⟨by decide, by decide⟩, H.cell 4 rfl rfl, trivial⟩ fun a hE => ?_
    replace H := arena_Arena.shut (arena_Arena.A.mk al_w_.a__a.l_b al_w_.a__a.l_c z z1 al_w_.a__a.m__p) (t_.2.2) H.t3.t3.t3
    obtain ⟨t_7, et_7, hm⟩ := bind_some hm
    refine WQ.eff (j := 11) (obs := []) hE (by kernel_rfl) rfl rfl rfl rfl (by kernel_rfl) (OpTo.fn hE rfl rfl Tryz.call20 (binomial_Push_ok et_7 H)) ?_
    rintro _ w ⟨z2, z3, rfl, H⟩
    refine ⟨trivial, fun a hE => ?_⟩
    refine WQ.seg hE [12, 13, 14, 15, 16] [] [0, 1, 2, 7, 9, 10, 11, 12] (Lo := [(0, .pointer (some ⟨p_w_, 0, none⟩)), (1, .int .i64 1), (2, .int .i64 key), (7, .int .i64 t_.1), (9, .bool (decide (t_3 < t_4))), (10, .int .i64 t_6), (11, .int .i64 t_7.1), (12, .bool t_7.2.1)]) (obs := []) (by kernel_rfl) (by kernel_rfl) trivial fun a hE => ?_
    refine WQ.done (by kernel_rfl) ?_
    refine Runs.seq ?_
    refine Runs.seq ?_
    replace H := thicketlaw9_world.shut (thicketlaw9_world.A.mk al_w_.a__p (arena_Arena.A.mk al_w_.a__a.l_b al_w_.a__a.l_c z2 z3 al_w_.a__a.m__p) al_w_.has0_b al_w_.has0_c al_w_.has1_b al_w_.has1_c) (thicketlaw9_world.mk t_7.2.2 w_.root0 w_.root1 w_.has0 w_.has1 w_.next w_.spent w_.most) H.t3.t3.t2.t3
    obtain ⟨s, es, hm⟩ := bind_some hm
    refine Runs.join (fun a w => EnvOk 142 a [(0, .pointer (some ⟨p_w_, 0, none⟩)), (1, .int .i64 1), (2, .int .i64 key), (7, .int .i64 t_.1), (11, .int .i64 t_7.1), (12, .bool t_7.2.1), (87, .bool s.1)] ∧ St w0 (thicketlaw9_world.R p_w_ (thicketlaw9_world.A.mk al_w_.a__p (arena_Arena.A.mk al_w_.a__a.l_b al_w_.a__a.l_c z2 z3 al_w_.a__a.m__p) al_w_.has0_b al_w_.has0_c al_w_.has1_b al_w_.has1_c) s.2 :: As) w) (fun hk => ?_) ?_
    · replace hm := es; clear es
      refine Runs.region ?_
      replace H := thicketlaw9_world.open H
      try dsimp only at H
      refine WR.seg hE 10 [.slice al_w_.has1_b w_.has1.length al_w_.has1_c] [0, 1, 2, 7, 9, 11, 12, 71, 72, 80] (Lo := [(0, .pointer (some ⟨p_w_, 0, none⟩)), (1, .int .i64 1), (2, .int .i64 key), (7, .int .i64 t_.1), (9, .bool (decide (t_3 < t_4))), (11, .int .i64 t_7.1), (12, .bool t_7.2.1), (71, .pointer (some ⟨p_w_, 0, none⟩)), (72, .int .i64 t_6), (80, .int .i64 (w64 ((w_.has1.length : Int) + 1)))]) (obs := [.p (0 ≤ (1 : Int) ∧ (1 : Int) < ((2 : Nat) : Int)), .cell ⟨p_w_, 4, none⟩ (.slice al_w_.has1_b w_.has1.length al_w_.has1_c)]) rfl (by kernel_rfl) ⟨⟨by decide, by decide⟩, H.cell 0 rfl rfl, trivial⟩ fun a hE => ?_
      replace H := thicketlaw9_world.shut (thicketlaw9_world.A.mk al_w_.a__p (arena_Arena.A.mk al_w_.a__a.l_b al_w_.a__a.l_c z2 z3 al_w_.a__a.m__p) al_w_.has0_b al_w_.has0_c al_w_.has1_b al_w_.has1_c) (thicketlaw9_world.mk t_7.2.2 w_.root0 w_.root1 w_.has0 w_.has1 w_.next w_.spent w_.most) H.t3.t3.t3.t3
      obtain ⟨t_8, et_8, hm⟩ := bind_some hm
      refine WR.eff hE rfl rfl rfl rfl (OpTo.fn hE rfl rfl Tryz.call21 (thicketlaw9_world_cost_ok et_8 H)) ?_
      rintro _ w ⟨rfl, hf, hf1, H⟩ a hE
      refine WR.seg hE 13 [] [0, 1, 2, 7, 9, 11, 12, 83] (Lo := [(0, .pointer (some ⟨p_w_, 0, none⟩)), (1, .int .i64 1), (2, .int .i64 key), (7, .int .i64 t_.1), (9, .bool (decide (t_3 < t_4))), (11, .int .i64 t_7.1), (12, .bool t_7.2.1), (83, .bool (!t_8.1))]) (obs := []) rfl (by kernel_rfl) trivial fun a hE => ?_
      rcases Bool.eq_false_or_eq_true (!t_8.1) with c | c
      · replace hE := hE.dec 83 c (by kernel_rfl)
        replace hm := cond_t c hm
        have c_ := c
        refine WR.seg hE 17 [] [0, 1, 2, 7, 11, 12, 87] (Lo := [(0, .pointer (some ⟨p_w_, 0, none⟩)), (1, .int .i64 1), (2, .int .i64 key), (7, .int .i64 t_.1), (11, .int .i64 t_7.1), (12, .bool t_7.2.1), (87, .bool true)]) (obs := []) rfl (by kernel_rfl) trivial fun a hE => ?_
        refine WR.done rfl ?_
        cases hm
        exact hk _ _ ⟨hE.sel [0, 1, 2, 7, 11, 12, 87] (by kernel_rfl), H⟩
      · replace hE := hE.dec 83 c (by kernel_rfl)
        replace hm := cond_f c hm
        have c_1 := c
        refine WR.seg hE 17 [] [0, 1, 2, 7, 11, 12, 87] (Lo := [(0, .pointer (some ⟨p_w_, 0, none⟩)), (1, .int .i64 1), (2, .int .i64 key), (7, .int .i64 t_.1), (11, .int .i64 t_7.1), (12, .bool t_7.2.1), (87, .bool (!(t_7.2.1 == (decide (t_3 < t_4)))))]) (obs := []) rfl (by kernel_rfl) trivial fun a hE => ?_
        refine WR.done rfl ?_
        cases hm
        exact hk _ _ ⟨hE.sel [0, 1, 2, 7, 11, 12, 87] (by kernel_rfl), H⟩
    rintro a w ⟨hE, H⟩
    refine Runs.cond hE rfl (fun c => ?_) (fun c => ?_)
    · replace hm := cond_t c hm
      refine Runs.seq ?_
      refine Runs.region ?_
      refine WR.seg hE 1 [] [6] (Lo := [(6, .bool false)]) (obs := []) rfl (by kernel_rfl) trivial fun a hE => ?_
      refine WR.done rfl ?_
      refine Runs.ret hE Tryz.func28 rfl rfl ?_
      cases hm
      exact ⟨arena_Arena.A.mk al_w_.a__a.l_b al_w_.a__a.l_c z2 z3 al_w_.a__a.m__p, al_w_.has1_b, al_w_.has1_c, rfl, H⟩
    · replace hm := cond_f c hm
      refine Runs.skip ?_
      refine Runs.seq ?_
      refine Runs.seq ?_
      refine Runs.region ?_
      refine WR.seg hE 2 [] [0, 1, 2, 7, 11, 89] (Lo := [(0, .pointer (some ⟨p_w_, 0, none⟩)), (1, .int .i64 1), (2, .int .i64 key), (7, .int .i64 t_.1), (11, .int .i64 t_7.1), (89, .bool (!t_7.2.1))]) (obs := []) rfl (by kernel_rfl) trivial fun a hE => ?_
      refine WR.done rfl ?_
      refine Runs.cond hE rfl (fun c => ?_) (fun c => ?_)
      · replace hm := cond_t c hm
        refine Runs.seq ?_
        obtain ⟨s1, es1, hm⟩ := bind_some hm
        refine Runs.join (fun a w => ∃ (z4 : arena_Arena.A), EnvOk 142 a [(6, .bool s1.1)] ∧ St w0 (thicketlaw9_world.R p_w_ (thicketlaw9_world.A.mk al_w_.a__p z4 al_w_.has0_b al_w_.has0_c al_w_.has1_b al_w_.has1_c) s1.2 :: As) w) (fun hk => ?_) ?_
        · replace hm := es1; clear es1
          refine Runs.region ?_
          replace H := thicketlaw9_world.open H
          try dsimp only at H
          refine WR.seg hE 9 [.int .i64 s.2.root1] [0, 7, 98] (Lo := [(0, .pointer (some ⟨p_w_, 0, none⟩)), (7, .int .i64 t_.1), (98, .bool (t_7.1 == s.2.root1))]) (obs := [.p (0 ≤ (1 : Int) ∧ (1 : Int) < ((2 : Nat) : Int)), .cell ⟨p_w_, 2, none⟩ (.int .i64 s.2.root1)]) rfl (by kernel_rfl) ⟨⟨by decide, by decide⟩, H.cell 0 rfl rfl, trivial⟩ fun a hE => ?_
          rcases Bool.eq_false_or_eq_true (t_7.1 == s.2.root1) with c | c
          · replace hE := hE.dec 98 c (by kernel_rfl)
            replace hm := cond_t c hm
            have c_2 := c
            refine WR.seg hE 14 [.pointer (some ⟨al_w_.a__p, 0, none⟩)] [98, 102, 103] (Lo := [(98, .bool true), (102, .pointer (some ⟨al_w_.a__p, 0, none⟩)), (103, .int .i64 t_.1)]) (obs := [.cell ⟨p_w_, 0, none⟩ (.pointer (some ⟨al_w_.a__p, 0, none⟩))]) rfl (by kernel_rfl) ⟨H.cell 0 rfl rfl, trivial⟩ fun a hE => ?_
            obtain ⟨t_9, et_9, hm⟩ := bind_some hm
            refine WR.eff hE rfl rfl rfl rfl (OpTo.fn hE rfl rfl Tryz.call25 (arena_Arena_Give_ok et_9 H.t1)) ?_
            rintro _ w ⟨z5, z6, rfl, H⟩ a hE
            refine WR.seg hE 17 [] [6] (Lo := [(6, .bool t_9.1)]) (obs := []) rfl (by kernel_rfl) trivial fun a hE => ?_
            refine WR.done rfl ?_
            replace H := thicketlaw9_world.shut (thicketlaw9_world.A.mk al_w_.a__p (arena_Arena.A.mk ((arena_Arena.A.mk al_w_.a__a.l_b al_w_.a__a.l_c z2 z3 al_w_.a__a.m__p).l_b) ((arena_Arena.A.mk al_w_.a__a.l_b al_w_.a__a.l_c z2 z3 al_w_.a__a.m__p).l_c) z5 z6 ((arena_Arena.A.mk al_w_.a__a.l_b al_w_.a__a.l_c z2 z3 al_w_.a__a.m__p).m__p)) al_w_.has0_b al_w_.has0_c al_w_.has1_b al_w_.has1_c) (thicketlaw9_world.mk t_9.2 s.2.root0 s.2.root1 s.2.has0 s.2.has1 s.2.next s.2.spent s.2.most) H.t3.t3.t2.t3
            cases hm
            exact hk _ _ ⟨arena_Arena.A.mk ((arena_Arena.A.mk al_w_.a__a.l_b al_w_.a__a.l_c z2 z3 al_w_.a__a.m__p).l_b) ((arena_Arena.A.mk al_w_.a__a.l_b al_w_.a__a.l_c z2 z3 al_w_.a__a.m__p).l_c) z5 z6 ((arena_Arena.A.mk al_w_.a__a.l_b al_w_.a__a.l_c z2 z3 al_w_.a__a.m__p).m__p), hE.sel [6] (by kernel_rfl), H⟩
          · replace hE := hE.dec 98 c (by kernel_rfl)
            replace hm := cond_f c hm
            have c_3 := c
            refine WR.seg hE 17 [] [6] (Lo := [(6, .bool false)]) (obs := []) rfl (by kernel_rfl) trivial fun a hE => ?_
            refine WR.done rfl ?_
            replace H := thicketlaw9_world.shut (thicketlaw9_world.A.mk al_w_.a__p (arena_Arena.A.mk al_w_.a__a.l_b al_w_.a__a.l_c z2 z3 al_w_.a__a.m__p) al_w_.has0_b al_w_.has0_c al_w_.has1_b al_w_.has1_c) (s.2) H.t3.t3.t3.t3
            cases hm
            exact hk _ _ ⟨arena_Arena.A.mk al_w_.a__a.l_b al_w_.a__a.l_c z2 z3 al_w_.a__a.m__p, hE.sel [6] (by kernel_rfl), H⟩
        rintro a w ⟨z4, hE, H⟩
        refine Runs.ret hE Tryz.func28 rfl rfl ?_
        cases hm
        exact ⟨z4, al_w_.has1_b, al_w_.has1_c, rfl, H⟩
      · replace hm := cond_f c hm
        refine Runs.skip ?_
        refine Runs.seq ?_
        refine Runs.region ?_
        refine WR.seg hE 6 [] [0, 1, 2, 7, 108, 111] (Lo := [(0, .pointer (some ⟨p_w_, 0, none⟩)), (1, .int .i64 1), (2, .int .i64 key), (7, .int .i64 t_.1), (108, .int .i64 t_7.1), (111, .pointer (some ⟨p_w_, 2, none⟩))]) (obs := [.p (0 ≤ (1 : Int) ∧ (1 : Int) < ((2 : Nat) : Int))]) rfl (by kernel_rfl) ⟨⟨by decide, by decide⟩, trivial⟩ fun a hE => ?_
        replace H := thicketlaw9_world.open H
        try dsimp only at H
        refine WR.eff0 hE rfl rfl rfl (OpTo.store hE H rfl rfl rfl rfl rfl rfl (Nat.le_of_ble_eq_true rfl)) ?_
        rintro _ w H a hE
        refine WR.done rfl ?_
        refine Runs.seq ?_
        replace H := thicketlaw9_world.shut (thicketlaw9_world.A.mk al_w_.a__p (arena_Arena.A.mk al_w_.a__a.l_b al_w_.a__a.l_c z2 z3 al_w_.a__a.m__p) al_w_.has0_b al_w_.has0_c al_w_.has1_b al_w_.has1_c) (thicketlaw9_world.mk s.2.a_ s.2.root0 t_7.1 s.2.has0 s.2.has1 s.2.next s.2.spent s.2.most) H.t3.t3.t3.t3
        obtain ⟨l, el, hm⟩ := bind_some hm
        obtain ⟨l1, el1, hm⟩ := bind_some hm
        refine Runs.join (fun a w => ∃ (z7 : Option Addr), ∃ (z8 : Nat), EnvOk 142 a [(0, .pointer (some ⟨p_w_, 0, none⟩))] ∧ St w0 (thicketlaw9_world.R p_w_ (thicketlaw9_world.A.mk al_w_.a__p (arena_Arena.A.mk al_w_.a__a.l_b al_w_.a__a.l_c z2 z3 al_w_.a__a.m__p) al_w_.has0_b al_w_.has0_c z7 z8) (thicketlaw9_world.mk s.2.a_ s.2.root0 t_7.1 s.2.has0 l1 s.2.next s.2.spent s.2.most) :: As) w) (fun hk => ?_) ?_
        ·
          refine Runs.drawn mixed (by kernel_rfl) ?_
          replace H := H.drew
          replace H := thicketlaw9_world.open H
          try dsimp only at H
          refine WQ.seg hE [0, 1, 3, 4, 5, 6, 7, 8, 10, 11, 12, 13, 14, 15, 16, 17, 20, 21] [.slice al_w_.has1_b s.2.has1.length al_w_.has1_c, .int .i64 s.2.next] [0, 113, 120, 129, 133] (Lo := [(0, .pointer (some ⟨p_w_, 0, none⟩)), (113, .int .i64 1), (120, .slice al_w_.has1_b s.2.has1.length al_w_.has1_c), (129, .agg #[.int .i64 t_.1, .int .i64 key, .int .i64 s.2.next]), (133, .pointer (some ⟨p_w_, 3, none⟩))]) (obs := [.p (0 ≤ (1 : Int) ∧ (1 : Int) < ((2 : Nat) : Int)), .cell ⟨p_w_, 4, none⟩ (.slice al_w_.has1_b s.2.has1.length al_w_.has1_c), .cell ⟨p_w_, 5, none⟩ (.int .i64 s.2.next)]) (by kernel_rfl) (by kernel_rfl) ⟨⟨by decide, by decide⟩, H.cell 0 rfl rfl, H.cell 0 rfl rfl, trivial⟩ fun a hE => ?_
          refine WQ.act2 2 18 (by kernel_rfl) ?_ ?_
          ·
            refine AQ.eff (j := 2) (obs := [.cell ⟨p_w_, 5, none⟩ (.int .i64 s.2.next), .cell ⟨p_w_, 4, none⟩ (.slice al_w_.has1_b s.2.has1.length al_w_.has1_c), .p (0 ≤ (1 : Int) ∧ (1 : Int) < ((2 : Nat) : Int))]) hE rfl rfl rfl rfl (by kernel_rfl) (OpTo.buildSl (T := 58) hE H thicketlaw9_held.enc_ok ([] : List thicketlaw9_held) rfl (fun _ => by kernel_rfl) rfl rfl rfl) ?_
            rintro _ w ⟨r2, rfl, H⟩
            refine ⟨⟨H.cell 1 rfl rfl, H.cell 1 rfl rfl, ⟨by decide, by decide⟩, trivial⟩, fun a hE => ?_⟩
            refine WQ.act2 9 18 (by kernel_rfl) ?_ ?_
            ·
              refine AQ.eff (j := 9) (obs := [.cell ⟨p_w_, 5, none⟩ (.int .i64 s.2.next)]) hE rfl rfl rfl rfl (by kernel_rfl) (OpTo.appendM el hE H thicketlaw9_held.enc_ok rfl rfl rfl rfl rfl rfl rfl rfl rfl rfl (SlRd.all (sl_rd 58 thicketlaw9_held.enc 3 _ _ _) thicketlaw9_held.enc_ok H 4 rfl) rfl) ?_
              rintro _ w ⟨sb2, sc2, rfl, H⟩
              refine ⟨⟨H.cell 1 rfl rfl, trivial⟩, fun a hE => ?_⟩
              refine WQ.eff (j := 18) (obs := []) hE (by kernel_rfl) rfl rfl rfl rfl (by kernel_rfl) (OpTo.buildSl (T := 58) hE H thicketlaw9_held.enc_ok ([thicketlaw9_held.mk t_.1 (api_Entry.mk key s.2.next)] : List thicketlaw9_held) rfl (fun _ => by kernel_rfl) rfl rfl rfl) ?_
              rintro _ w ⟨r3, rfl, H⟩
              refine ⟨trivial, fun a hE => ?_⟩
              replace H := H.t1
              refine WQ.eff (j := 19) (obs := []) hE (by kernel_rfl) rfl rfl rfl rfl (by kernel_rfl) (OpTo.appendM el1 hE H thicketlaw9_held.enc_ok rfl rfl rfl rfl rfl rfl rfl rfl rfl rfl (SlRd.all (sl_rd 58 thicketlaw9_held.enc 3 _ _ _) thicketlaw9_held.enc_ok H 1 rfl) rfl) ?_
              rintro _ w ⟨sb3, sc3, rfl, H⟩
              refine ⟨trivial, fun a hE => ?_⟩
              refine WQ.seg hE [22] [] [0, 131, 134] (Lo := [(0, .pointer (some ⟨p_w_, 0, none⟩)), (131, .slice sb3 l1.length sc3), (134, .pointer (some ⟨p_w_, 4, none⟩))]) (obs := [.p (0 ≤ (1 : Int) ∧ (1 : Int) < ((2 : Nat) : Int))]) (by kernel_rfl) (by kernel_rfl) ⟨⟨by decide, by decide⟩, trivial⟩ fun a hE => ?_
              refine WQ.eff0 (j := 23) (obs := []) hE (by kernel_rfl) rfl rfl rfl (by kernel_rfl) (OpTo.store hE H.t2 rfl rfl rfl rfl rfl rfl (Nat.le_of_ble_eq_true rfl)) ?_
              rintro _ w H
              refine ⟨trivial, fun a hE => ?_⟩
              refine WQ.done (by kernel_rfl) ?_
              replace H := thicketlaw9_world.shut (thicketlaw9_world.A.mk al_w_.a__p (arena_Arena.A.mk al_w_.a__a.l_b al_w_.a__a.l_c z2 z3 al_w_.a__a.m__p) al_w_.has0_b al_w_.has0_c sb3 sc3) (thicketlaw9_world.mk s.2.a_ s.2.root0 t_7.1 s.2.has0 l1 s.2.next s.2.spent s.2.most) H.t1.t4.t4.t3
              exact hk _ _ ⟨sb3, sc3, hE.sel [0] (by kernel_rfl), H.x2.x1⟩
            ·
              refine AQ.eff (j := 18) (obs := [.cell ⟨p_w_, 4, none⟩ (.slice al_w_.has1_b s.2.has1.length al_w_.has1_c), .p (0 ≤ (1 : Int) ∧ (1 : Int) < ((2 : Nat) : Int))]) hE rfl rfl rfl rfl (by kernel_rfl) (OpTo.buildSl (T := 58) hE H thicketlaw9_held.enc_ok ([thicketlaw9_held.mk t_.1 (api_Entry.mk key s.2.next)] : List thicketlaw9_held) rfl (fun _ => by kernel_rfl) rfl rfl rfl) ?_
              rintro _ w ⟨r4, rfl, H⟩
              refine ⟨⟨H.cell 2 rfl rfl, ⟨by decide, by decide⟩, trivial⟩, fun a hE => ?_⟩
              replace H := H.t1
              refine WQ.eff (j := 9) (obs := []) hE (by kernel_rfl) rfl rfl rfl rfl (by kernel_rfl) (OpTo.appendM el hE H thicketlaw9_held.enc_ok rfl rfl rfl rfl rfl rfl rfl rfl rfl rfl (SlRd.all (sl_rd 58 thicketlaw9_held.enc 3 _ _ _) thicketlaw9_held.enc_ok H 5 rfl) rfl) ?_
              rintro _ w ⟨sb4, sc4, rfl, H⟩
              refine ⟨trivial, fun a hE => ?_⟩
              refine WQ.eff (j := 19) (obs := []) hE (by kernel_rfl) rfl rfl rfl rfl (by kernel_rfl) (OpTo.appendM el1 hE H thicketlaw9_held.enc_ok rfl rfl rfl rfl rfl rfl rfl rfl rfl rfl (SlRd.all (sl_rd 58 thicketlaw9_held.enc 3 _ _ _) thicketlaw9_held.enc_ok H 1 rfl) rfl) ?_
              rintro _ w ⟨sb5, sc5, rfl, H⟩
              refine ⟨trivial, fun a hE => ?_⟩
              refine WQ.seg hE [22] [] [0, 131, 134] (Lo := [(0, .pointer (some ⟨p_w_, 0, none⟩)), (131, .slice sb5 l1.length sc5), (134, .pointer (some ⟨p_w_, 4, none⟩))]) (obs := [.p (0 ≤ (1 : Int) ∧ (1 : Int) < ((2 : Nat) : Int))]) (by kernel_rfl) (by kernel_rfl) ⟨⟨by decide, by decide⟩, trivial⟩ fun a hE => ?_
              refine WQ.eff0 (j := 23) (obs := []) hE (by kernel_rfl) rfl rfl rfl (by kernel_rfl) (OpTo.store hE H.t2 rfl rfl rfl rfl rfl rfl (Nat.le_of_ble_eq_true rfl)) ?_
              rintro _ w H
              refine ⟨trivial, fun a hE => ?_⟩
              refine WQ.done (by kernel_rfl) ?_
              replace H := thicketlaw9_world.shut (thicketlaw9_world.A.mk al_w_.a__p (arena_Arena.A.mk al_w_.a__a.l_b al_w_.a__a.l_c z2 z3 al_w_.a__a.m__p) al_w_.has0_b al_w_.has0_c sb5 sc5) (thicketlaw9_world.mk s.2.a_ s.2.root0 t_7.1 s.2.has0 l1 s.2.next s.2.spent s.2.most) H.t1.t4.t4.t3
              exact hk _ _ ⟨sb5, sc5, hE.sel [0] (by kernel_rfl), H.x2.x1⟩
          ·
            refine AQ.eff (j := 18) (obs := [.cell ⟨p_w_, 4, none⟩ (.slice al_w_.has1_b s.2.has1.length al_w_.has1_c), .p (0 ≤ (1 : Int) ∧ (1 : Int) < ((2 : Nat) : Int))]) hE rfl rfl rfl rfl (by kernel_rfl) (OpTo.buildSl (T := 58) hE H thicketlaw9_held.enc_ok ([thicketlaw9_held.mk t_.1 (api_Entry.mk key s.2.next)] : List thicketlaw9_held) rfl (fun _ => by kernel_rfl) rfl rfl rfl) ?_
            rintro _ w ⟨r5, rfl, H⟩
            refine ⟨⟨H.cell 1 rfl rfl, ⟨by decide, by decide⟩, trivial⟩, fun a hE => ?_⟩
            refine WQ.eff (j := 2) (obs := [.cell ⟨p_w_, 4, none⟩ (.slice al_w_.has1_b s.2.has1.length al_w_.has1_c), .p (0 ≤ (1 : Int) ∧ (1 : Int) < ((2 : Nat) : Int))]) hE (by kernel_rfl) rfl rfl rfl rfl (by kernel_rfl) (OpTo.buildSl (T := 58) hE H thicketlaw9_held.enc_ok ([] : List thicketlaw9_held) rfl (fun _ => by kernel_rfl) rfl rfl rfl) ?_
            rintro _ w ⟨r6, rfl, H⟩
            refine ⟨⟨H.cell 2 rfl rfl, ⟨by decide, by decide⟩, trivial⟩, fun a hE => ?_⟩
            refine WQ.eff (j := 9) (obs := []) hE (by kernel_rfl) rfl rfl rfl rfl (by kernel_rfl) (OpTo.appendM el hE H thicketlaw9_held.enc_ok rfl rfl rfl rfl rfl rfl rfl rfl rfl rfl (SlRd.all (sl_rd 58 thicketlaw9_held.enc 3 _ _ _) thicketlaw9_held.enc_ok H 5 rfl) rfl) ?_
            rintro _ w ⟨sb6, sc6, rfl, H⟩
            refine ⟨trivial, fun a hE => ?_⟩
            refine WQ.eff (j := 19) (obs := []) hE (by kernel_rfl) rfl rfl rfl rfl (by kernel_rfl) (OpTo.appendM el1 hE H thicketlaw9_held.enc_ok rfl rfl rfl rfl rfl rfl rfl rfl rfl rfl (SlRd.all (sl_rd 58 thicketlaw9_held.enc 3 _ _ _) thicketlaw9_held.enc_ok H 1 rfl) rfl) ?_
            rintro _ w ⟨sb7, sc7, rfl, H⟩
            refine ⟨trivial, fun a hE => ?_⟩
            refine WQ.seg hE [22] [] [0, 131, 134] (Lo := [(0, .pointer (some ⟨p_w_, 0, none⟩)), (131, .slice sb7 l1.length sc7), (134, .pointer (some ⟨p_w_, 4, none⟩))]) (obs := [.p (0 ≤ (1 : Int) ∧ (1 : Int) < ((2 : Nat) : Int))]) (by kernel_rfl) (by kernel_rfl) ⟨⟨by decide, by decide⟩, trivial⟩ fun a hE => ?_
            refine WQ.eff0 (j := 23) (obs := []) hE (by kernel_rfl) rfl rfl rfl (by kernel_rfl) (OpTo.store hE H.t2 rfl rfl rfl rfl rfl rfl (Nat.le_of_ble_eq_true rfl)) ?_
            rintro _ w H
            refine ⟨trivial, fun a hE => ?_⟩
            refine WQ.done (by kernel_rfl) ?_
            replace H := thicketlaw9_world.shut (thicketlaw9_world.A.mk al_w_.a__p (arena_Arena.A.mk al_w_.a__a.l_b al_w_.a__a.l_c z2 z3 al_w_.a__a.m__p) al_w_.has0_b al_w_.has0_c sb7 sc7) (thicketlaw9_world.mk s.2.a_ s.2.root0 t_7.1 s.2.has0 l1 s.2.next s.2.spent s.2.most) H.t1.t4.t4.t3
            exact hk _ _ ⟨sb7, sc7, hE.sel [0] (by kernel_rfl), H.x2.x1⟩
        rintro a w ⟨z7, z8, hE, H⟩
        refine Runs.seq ?_
        refine Runs.region ?_
        replace H := thicketlaw9_world.open H
        try dsimp only at H
        refine WR.seg hE 7 [.int .i64 ((thicketlaw9_world.mk s.2.a_ s.2.root0 t_7.1 s.2.has0 l1 s.2.next s.2.spent s.2.most).next)] [139, 141] (Lo := [(139, .int .i64 (w64 (((thicketlaw9_world.mk s.2.a_ s.2.root0 t_7.1 s.2.has0 l1 s.2.next s.2.spent s.2.most).next) + 1))), (141, .pointer (some ⟨p_w_, 5, none⟩))]) (obs := [.cell ⟨p_w_, 5, none⟩ (.int .i64 ((thicketlaw9_world.mk s.2.a_ s.2.root0 t_7.1 s.2.has0 l1 s.2.next s.2.spent s.2.most).next))]) rfl (by kernel_rfl) ⟨H.cell 0 rfl rfl, trivial⟩ fun a hE => ?_
        refine WR.eff0 hE rfl rfl rfl (OpTo.store hE H rfl rfl rfl rfl rfl rfl (Nat.le_of_ble_eq_true rfl)) ?_
        rintro _ w H a hE
        refine WR.done rfl ?_
        refine Runs.seq ?_
        refine Runs.region ?_
        refine WR.seg hE 1 [] [6] (Lo := [(6, .bool true)]) (obs := []) rfl (by kernel_rfl) trivial fun a hE => ?_
        refine WR.done rfl ?_
        replace H := thicketlaw9_world.shut (thicketlaw9_world.A.mk al_w_.a__p (arena_Arena.A.mk al_w_.a__a.l_b al_w_.a__a.l_c z2 z3 al_w_.a__a.m__p) al_w_.has0_b al_w_.has0_c z7 z8) (thicketlaw9_world.mk ((thicketlaw9_world.mk s.2.a_ s.2.root0 t_7.1 s.2.has0 l1 s.2.next s.2.spent s.2.most).a_) ((thicketlaw9_world.mk s.2.a_ s.2.root0 t_7.1 s.2.has0 l1 s.2.next s.2.spent s.2.most).root0) ((thicketlaw9_world.mk s.2.a_ s.2.root0 t_7.1 s.2.has0 l1 s.2.next s.2.spent s.2.most).root1) ((thicketlaw9_world.mk s.2.a_ s.2.root0 t_7.1 s.2.has0 l1 s.2.next s.2.spent s.2.most).has0) ((thicketlaw9_world.mk s.2.a_ s.2.root0 t_7.1 s.2.has0 l1 s.2.next s.2.spent s.2.most).has1) (w64 (((thicketlaw9_world.mk s.2.a_ s.2.root0 t_7.1 s.2.has0 l1 s.2.next s.2.spent s.2.most).next) + 1)) ((thicketlaw9_world.mk s.2.a_ s.2.root0 t_7.1 s.2.has0 l1 s.2.next s.2.spent s.2.most).spent) ((thicketlaw9_world.mk s.2.a_ s.2.root0 t_7.1 s.2.has0 l1 s.2.next s.2.spent s.2.most).most)) H.t3.t3.t3.t3
        refine Runs.ret hE Tryz.func28 rfl rfl ?_
        cases hm
        exact ⟨arena_Arena.A.mk al_w_.a__a.l_b al_w_.a__a.l_c z2 z3 al_w_.a__a.m__p, z7, z8, rfl, H⟩

theorem thicketlaw9_world_push_ok {w0 w : World} {As : List HP} {k : Nat} {p_w_ : Nat} {al_w_ : thicketlaw9_world.A} {w_ : thicketlaw9_world} {key : Int} {h_ : Int} {t : Bool × thicketlaw9_world}  (hm : thicketlaw9_world_push k w_ h_ key = some t) (H : St w0 (thicketlaw9_world.R p_w_ al_w_ w_ :: As) w) :
    CallsR Tryz.prog 28 #[.pointer (some ⟨p_w_, 0, none⟩), .int .i64 h_, .int .i64 key] w fun v w' => ∃ (z_w__a__a : arena_Arena.A), ∃ (z_w__has0_b : Option Addr), ∃ (z_w__has0_c : Nat), ∃ (z_w__has1_b : Option Addr), ∃ (z_w__has1_c : Nat), v = .bool t.1 ∧ St w0 (thicketlaw9_world.R p_w_ (thicketlaw9_world.A.mk al_w_.a__p z_w__a__a z_w__has0_b z_w__has0_c z_w__has1_b z_w__has1_c) t.2 :: As) w' := by
  rw [thicketlaw9_world_push] at hm
  by_cases h0 : h_ = 0
  · subst h0; simp only [if_pos] at hm
    refine (thicketlaw9_world_push_at0_ok hm H).mono ?_
    rintro v w' ⟨y_0, y_1, y_2, hv, H⟩; exact ⟨y_0, y_1, y_2, al_w_.has1_b, al_w_.has1_c, hv, H⟩
  rw [if_neg h0] at hm
  by_cases h1 : h_ = 1
  · subst h1; simp only [if_pos] at hm
    refine (thicketlaw9_world_push_at1_ok hm H).mono ?_
    rintro v w' ⟨y_0, y_1, y_2, hv, H⟩; exact ⟨y_0, al_w_.has0_b, al_w_.has0_c, y_1, y_2, hv, H⟩
  rw [if_neg h1] at hm
  cases hm

theorem trees_Best_ok {w0 w : World} {As : List HP} {k : Nat} {p_a_ : Nat} {al_a_ : arena_Arena.A} {a_ : arena_Arena} {sb_l : Option Addr} {sc_l : Nat} {l : List Int} {X_l : HP} {t : Int × arena_Arena} (hX_l : SlRd X_l ecI 1 sb_l l) (hC_l : l.length ≤ sc_l) (hm : trees_Best k a_ l = some t) (H : St w0 (arena_Arena.R p_a_ al_a_ a_ :: X_l :: As) w) :
    CallsR Tryz.prog 60 #[.pointer (some ⟨p_a_, 0, none⟩), .slice sb_l l.length sc_l] w fun v w' => v = .int .i64 t.1 ∧ St w0 (arena_Arena.R p_a_ al_a_ t.2 :: X_l :: As) w' := by
  rw [trees_Best] at hm
  refine enter (args := [.pointer (some ⟨p_a_, 0, none⟩), .slice sb_l l.length sc_l]) Tryz.func60 rfl rfl rfl fun a hE => ?_
  refine Runs.seq ?_
  refine Runs.region ?_
  refine WR.seg hE 1 [] [0, 1] (Lo := [(0, .pointer (some ⟨p_a_, 0, none⟩)), (1, .slice sb_l l.length sc_l)]) (obs := []) rfl (by kernel_rfl) trivial fun a hE => ?_
  refine WR.done rfl ?_
  refine Runs.seq ?_
  refine Runs.region ?_
  refine WR.seg hE 1 [] [0, 1, 5] (Lo := [(0, .pointer (some ⟨p_a_, 0, none⟩)), (1, .slice sb_l l.length sc_l), (5, .int .i64 (-1))]) (obs := []) rfl (by kernel_rfl) trivial fun a hE => ?_
  refine WR.done rfl ?_
  refine Runs.seq ?_
  refine Runs.seq ?_
  refine Runs.region ?_
  refine WR.seg hE 3 [] [0, 5, 8, 9, 10] (Lo := [(0, .pointer (some ⟨p_a_, 0, none⟩)), (5, .int .i64 (-1)), (8, .slice sb_l l.length sc_l), (9, .int .i64 (l.length : Int)), (10, .int .i64 0)]) (obs := []) rfl (by kernel_rfl) trivial fun a hE => ?_
  refine WR.done rfl ?_
  obtain ⟨s, es, hm⟩ := bind_some hm
  refine Runs.join (fun a w => EnvOk 25 a [(5, .int .i64 s.1)] ∧ St w0 (arena_Arena.R p_a_ al_a_ s.2 :: X_l :: As) w) (fun hk => ?_) ?_
  · replace hm := es; clear es
    refine Runs.block ?_
    refine Runs.loop (fun m a w => ∃ (best : Int), ∃ (x : Int), ∃ (m_ : arena_Arena), EnvOk 25 a [(0, .pointer (some ⟨p_a_, 0, none⟩)), (5, .int .i64 best), (8, .slice sb_l l.length sc_l), (9, .int .i64 (l.length : Int)), (10, .int .i64 x)] ∧ St w0 (arena_Arena.R p_a_ al_a_ m_ :: X_l :: As) w ∧ trees_Best_l0 (l.length : Int) l m best x m_ = some s) k ⟨(-1), 0, a_, hE.sel [0, 5, 8, 9, 10] (by kernel_rfl), H.t1.t1, hm⟩ ?_
    rintro m ih a w ⟨best, x, m_, hE, H, hm⟩
    cases m with
    | zero => simp [trees_Best_l0] at hm
    | succ m =>
      rw [trees_Best_l0] at hm
      refine Runs.seq ?_
      refine Runs.region ?_
      refine WR.seg hE 1 [] [0, 5, 8, 9, 10, 11] (Lo := [(0, .pointer (some ⟨p_a_, 0, none⟩)), (5, .int .i64 best), (8, .slice sb_l l.length sc_l), (9, .int .i64 (l.length : Int)), (10, .int .i64 x), (11, .bool (decide (x < (l.length : Int))))]) (obs := []) rfl (by kernel_rfl) trivial fun a hE => ?_
      refine WR.done rfl ?_
      refine Runs.seq ?_
      refine Runs.cond hE rfl (fun c => ?_) (fun c => ?_)
      · replace hm := cond_t c hm
        refine Runs.skip ?_
        refine Runs.seq ?_
        obtain ⟨s1, es1, hm⟩ := bind_some hm
        refine Runs.join (fun a w => EnvOk 25 a [(0, .pointer (some ⟨p_a_, 0, none⟩)), (5, .int .i64 s1.1), (8, .slice sb_l l.length sc_l), (9, .int .i64 (l.length : Int)), (10, .int .i64 x)] ∧ St w0 (arena_Arena.R p_a_ al_a_ s1.2 :: X_l :: As) w) (fun hk => ?_) ?_
        · replace hm := es1; clear es1
          refine Runs.block ?_
          refine Runs.seq ?_
          refine Runs.region ?_
          obtain ⟨x2, ex2, hm⟩ := bind_some hm
          obtain ⟨b, o, hs, hb⟩ := SlRd.base hX_l ecI_ok H 1 rfl ex2
          refine WR.seg hE 3 [.pointer (some ⟨b, o, none⟩), .int .i64 x2] [0, 5, 7, 8, 9, 10] (Lo := [(0, .pointer (some ⟨p_a_, 0, none⟩)), (5, .int .i64 best), (7, .int .i64 x2), (8, .slice sb_l l.length sc_l), (9, .int .i64 (l.length : Int)), (10, .int .i64 x)]) (obs := [.p ((sb_l : Option Addr) = some ⟨b, o, none⟩), .p (0 ≤ (x : Int) ∧ (x : Int) < ((l.length : Nat) : Int)), .cell ⟨b, o + (Int.toNat x) * 1, none⟩ (.int .i64 x2)]) rfl (by kernel_rfl) ⟨hs, hb, SlRd.cells hX_l ecI_ok H 1 rfl hs ex2 0 _ rfl, trivial⟩ fun a hE => ?_
          refine WR.done rfl ?_
          refine Runs.seq ?_
          obtain ⟨s2, es2, hm⟩ := bind_some hm
          refine Runs.join (fun a w => EnvOk 25 a [(0, .pointer (some ⟨p_a_, 0, none⟩)), (5, .int .i64 best), (7, .int .i64 x2), (8, .slice sb_l l.length sc_l), (9, .int .i64 (l.length : Int)), (10, .int .i64 x), (21, .bool s2.1)] ∧ St w0 (arena_Arena.R p_a_ al_a_ s2.2 :: X_l :: As) w) (fun hk => ?_) ?_
          · replace hm := es2; clear es2
            refine Runs.region ?_
            refine WR.seg hE 3 [] [0, 5, 7, 8, 9, 10, 16] (Lo := [(0, .pointer (some ⟨p_a_, 0, none⟩)), (5, .int .i64 best), (7, .int .i64 x2), (8, .slice sb_l l.length sc_l), (9, .int .i64 (l.length : Int)), (10, .int .i64 x), (16, .bool (best == (-1)))]) (obs := []) rfl (by kernel_rfl) trivial fun a hE => ?_
            rcases Bool.eq_false_or_eq_true (best == (-1)) with c | c
            · replace hE := hE.dec 16 c (by kernel_rfl)
              replace hm := cond_t c hm
              have c_ := c
              refine WR.seg hE 8 [] [0, 5, 7, 8, 9, 10, 21] (Lo := [(0, .pointer (some ⟨p_a_, 0, none⟩)), (5, .int .i64 best), (7, .int .i64 x2), (8, .slice sb_l l.length sc_l), (9, .int .i64 (l.length : Int)), (10, .int .i64 x), (21, .bool true)]) (obs := []) rfl (by kernel_rfl) trivial fun a hE => ?_
              refine WR.done rfl ?_
              cases hm
              exact hk _ _ ⟨hE.sel [0, 5, 7, 8, 9, 10, 21] (by kernel_rfl), H.t1.t1⟩
            · replace hE := hE.dec 16 c (by kernel_rfl)
              replace hm := cond_f c hm
              have c_1 := c
              refine WR.seg hE 6 [] [0, 5, 7, 8, 9, 10, 16, 17, 18, 19] (Lo := [(0, .pointer (some ⟨p_a_, 0, none⟩)), (5, .int .i64 best), (7, .int .i64 x2), (8, .slice sb_l l.length sc_l), (9, .int .i64 (l.length : Int)), (10, .int .i64 x), (16, .bool false), (17, .pointer (some ⟨p_a_, 0, none⟩)), (18, .int .i64 x2), (19, .int .i64 best)]) (obs := []) rfl (by kernel_rfl) trivial fun a hE => ?_
              obtain ⟨t_, et_, hm⟩ := bind_some hm
              refine WR.eff hE rfl rfl rfl rfl (OpTo.fn hE rfl rfl Tryz.call124 (node_Before_ok et_ H)) ?_
              rintro _ w ⟨rfl, H⟩ a hE
              refine WR.seg hE 8 [] [0, 5, 7, 8, 9, 10, 21] (Lo := [(0, .pointer (some ⟨p_a_, 0, none⟩)), (5, .int .i64 best), (7, .int .i64 x2), (8, .slice sb_l l.length sc_l), (9, .int .i64 (l.length : Int)), (10, .int .i64 x), (21, .bool t_.1)]) (obs := []) rfl (by kernel_rfl) trivial fun a hE => ?_
              refine WR.done rfl ?_
              cases hm
              exact hk _ _ ⟨hE.sel [0, 5, 7, 8, 9, 10, 21] (by kernel_rfl), H.t1.t1⟩
          rintro a w ⟨hE, H⟩
          refine Runs.cond hE rfl (fun c => ?_) (fun c => ?_)
          · replace hm := cond_t c hm
            refine Runs.region ?_
            refine WR.seg hE 2 [] [0, 5, 8, 9, 10] (Lo := [(0, .pointer (some ⟨p_a_, 0, none⟩)), (5, .int .i64 x2), (8, .slice sb_l l.length sc_l), (9, .int .i64 (l.length : Int)), (10, .int .i64 x)]) (obs := []) rfl (by kernel_rfl) trivial fun a hE => ?_
            refine WR.done rfl ?_
            refine Runs.inBlock ?_
            cases hm
            exact hk _ _ ⟨hE.sel [0, 5, 8, 9, 10] (by kernel_rfl), H.t1.t1⟩
          · replace hm := cond_f c hm
            refine Runs.skip ?_
            refine Runs.inBlock ?_
            cases hm
            exact hk _ _ ⟨hE.sel [0, 5, 8, 9, 10] (by kernel_rfl), H.t1.t1⟩
        rintro a w ⟨hE, H⟩
        refine Runs.region ?_
        refine WR.seg hE 2 [] [0, 5, 8, 9, 10] (Lo := [(0, .pointer (some ⟨p_a_, 0, none⟩)), (5, .int .i64 s1.1), (8, .slice sb_l l.length sc_l), (9, .int .i64 (l.length : Int)), (10, .int .i64 (w64 (x + 1)))]) (obs := []) rfl (by kernel_rfl) trivial fun a hE => ?_
        refine WR.done rfl ?_
        exact ih m (Nat.lt_succ_self m) _ _ ⟨s1.1, w64 (x + 1), s1.2, hE.sel [0, 5, 8, 9, 10] (by kernel_rfl), H.t1.t1, hm⟩
      · replace hm := cond_f c hm
        refine Runs.exit rfl ?_
        cases hm
        exact hk _ _ ⟨hE.sel [5] (by kernel_rfl), H.t1.t1⟩
  rintro a w ⟨hE, H⟩
  refine Runs.seq ?_
  refine Runs.region ?_
  refine WR.seg hE 2 [] [4] (Lo := [(4, .int .i64 s.1)]) (obs := []) rfl (by kernel_rfl) trivial fun a hE => ?_
  refine WR.done rfl ?_
  refine Runs.ret hE Tryz.func60 rfl rfl ?_
  cases hm
  exact ⟨rfl, H.t1.t1⟩

theorem binomial_Min_ok {w0 w : World} {As : List HP} {k : Nat} {p_a_ : Nat} {al_a_ : arena_Arena.A} {a_ : arena_Arena} {r : Int} {t : Int × arena_Arena}  (hm : binomial_Min k a_ r = some t) (H : St w0 (arena_Arena.R p_a_ al_a_ a_ :: As) w) :
    CallsR Tryz.prog 33 #[.pointer (some ⟨p_a_, 0, none⟩), .int .i64 r] w fun v w' => v = .int .i64 t.1 ∧ St w0 (arena_Arena.R p_a_ al_a_ t.2 :: As) w' := by
  rw [binomial_Min] at hm
  refine enter (args := [.pointer (some ⟨p_a_, 0, none⟩), .int .i64 r]) Tryz.func33 rfl rfl rfl fun a hE => ?_
  refine Runs.seq ?_
  refine Runs.region ?_
  refine WR.seg hE 1 [] [0, 1] (Lo := [(0, .pointer (some ⟨p_a_, 0, none⟩)), (1, .int .i64 r)]) (obs := []) rfl (by kernel_rfl) trivial fun a hE => ?_
  refine WR.done rfl ?_
  refine Runs.seq ?_
  refine Runs.seq ?_
  refine Runs.region ?_
  refine WR.seg hE 2 [] [0, 1, 6] (Lo := [(0, .pointer (some ⟨p_a_, 0, none⟩)), (1, .int .i64 r), (6, .bool false)]) (obs := []) rfl (by kernel_rfl) trivial fun a hE => ?_
  refine WR.done rfl ?_
  refine Runs.condF hE rfl ?_
  refine Runs.skip ?_
  refine Runs.seq ?_
  refine Runs.region ?_
  refine WR.seg hE 4 [] [7, 8, 9, 10] (Lo := [(7, .pointer (some ⟨p_a_, 0, none⟩)), (8, .pointer (some ⟨p_a_, 0, none⟩)), (9, .pointer (some ⟨p_a_, 0, none⟩)), (10, .int .i64 r)]) (obs := []) rfl (by kernel_rfl) trivial fun a hE => ?_
  obtain ⟨t_, et_, hm⟩ := bind_some hm
  refine WR.eff hE rfl rfl rfl rfl (OpTo.fn hE rfl rfl Tryz.call56 (trees_List_ok et_ H)) ?_
  rintro _ w ⟨sb, sc, rfl, H⟩ a hE
  obtain ⟨t_1, et_1, hm⟩ := bind_some hm
  replace H := H.t1
  refine WR.eff hE rfl rfl rfl rfl (OpTo.fn hE rfl rfl Tryz.call60 (trees_Best_ok (hX_l := (sl_rd 3 ecI 1 _ _ _)) (hC_l := (H.slCap 1 rfl).1) et_1 H)) ?_
  rintro _ w ⟨rfl, H⟩ a hE
  obtain ⟨t_2, et_2, hm⟩ := bind_some hm
  refine WR.eff hE rfl rfl rfl rfl (OpTo.fn hE rfl rfl Tryz.call73 (arena_Arena_Cell_ok et_2 H)) ?_
  rintro _ w ⟨rfl, H⟩ a hE
  refine WR.seg hE 8 [] [4] (Lo := [(4, .int .i64 t_2.1)]) (obs := []) rfl (by kernel_rfl) trivial fun a hE => ?_
  refine WR.done rfl ?_
  refine Runs.ret hE Tryz.func33 rfl rfl ?_
  cases hm
  exact ⟨rfl, H.x1⟩

theorem thicketref1_Before_ok {w0 w : World} {As : List HP} {a_ : api_Entry} {b : api_Entry} {t : Bool}  (hm : thicketref1_Before a_ b = some t) (H : St w0 (As) w) :
    CallsR Tryz.prog 24 #[.agg #[.int .i64 a_.Key, .int .i64 a_.Serial], .agg #[.int .i64 b.Key, .int .i64 b.Serial]] w fun v w' => v = .bool t ∧ St w0 (As) w' := by
  rw [thicketref1_Before] at hm
  refine enter (args := [.agg #[.int .i64 a_.Key, .int .i64 a_.Serial], .agg #[.int .i64 b.Key, .int .i64 b.Serial]]) Tryz.func24 rfl rfl rfl fun a hE => ?_
  refine Runs.seq ?_
  refine Runs.region ?_
  refine WR.eff hE rfl rfl rfl rfl (OpTo.new hE H [] (.cells #[.int .i64 a_.Key, .int .i64 a_.Serial] 40 (0, 0)) (fun r => .pointer (some ⟨r, 0, none⟩)) (obs := []) rfl (fun _ => by kernel_rfl) trivial) ?_
  rintro _ w ⟨r, rfl, H⟩ a hE
  refine WR.eff hE rfl rfl rfl rfl (OpTo.new hE H [] (.cells #[.int .i64 b.Key, .int .i64 b.Serial] 40 (0, 0)) (fun r => .pointer (some ⟨r, 0, none⟩)) (obs := []) rfl (fun _ => by kernel_rfl) trivial) ?_
  rintro _ w ⟨r1, rfl, H⟩ a hE
  refine WR.seg hE 3 [] [2, 3] (Lo := [(2, .pointer (some ⟨r, 0, none⟩)), (3, .pointer (some ⟨r1, 0, none⟩))]) (obs := []) rfl (by kernel_rfl) trivial fun a hE => ?_
  refine WR.done rfl ?_
  refine Runs.seq ?_
  refine Runs.join (fun a w => EnvOk 24 a [(4, .bool ((decide (a_.Key < b.Key)) || ((a_.Key == b.Key) && (decide (a_.Serial < b.Serial)))))] ∧ St w0 (Blk r1 40 [.int .i64 b.Key, .int .i64 b.Serial] :: Blk r 40 [.int .i64 a_.Key, .int .i64 a_.Serial] :: As) w) (fun hk => ?_) ?_
  · clear hm
    refine Runs.region ?_
    refine WR.seg hE 6 [.int .i64 a_.Key, .int .i64 b.Key] [2, 3, 10] (Lo := [(2, .pointer (some ⟨r, 0, none⟩)), (3, .pointer (some ⟨r1, 0, none⟩)), (10, .bool (decide (a_.Key < b.Key)))]) (obs := [.cell ⟨r, 0, none⟩ (.int .i64 a_.Key), .cell ⟨r1, 0, none⟩ (.int .i64 b.Key)]) rfl (by kernel_rfl) ⟨H.cell 1 rfl rfl, H.cell 0 rfl rfl, trivial⟩ fun a hE => ?_
    rcases Bool.eq_false_or_eq_true (decide (a_.Key < b.Key)) with c | c
    · replace hE := hE.dec 10 c (by kernel_rfl)
      have c_ := c
      refine WR.seg hE 20 [] [4] (Lo := [(4, .bool true)]) (obs := []) rfl (by kernel_rfl) trivial fun a hE => ?_
      refine WR.done rfl ?_
      refine hk _ _ ⟨?_, H.t1.t1⟩
      try rw [c_] at hE
      try rw [c_]
      exact hE.sel [4] (by kernel_rfl)
    · replace hE := hE.dec 10 c (by kernel_rfl)
      have c_1 := c
      refine WR.seg hE 12 [.int .i64 a_.Key, .int .i64 b.Key] [2, 3, 10, 16] (Lo := [(2, .pointer (some ⟨r, 0, none⟩)), (3, .pointer (some ⟨r1, 0, none⟩)), (10, .bool false), (16, .bool (a_.Key == b.Key))]) (obs := [.cell ⟨r, 0, none⟩ (.int .i64 a_.Key), .cell ⟨r1, 0, none⟩ (.int .i64 b.Key)]) rfl (by kernel_rfl) ⟨H.cell 1 rfl rfl, H.cell 0 rfl rfl, trivial⟩ fun a hE => ?_
      rcases Bool.eq_false_or_eq_true (a_.Key == b.Key) with c | c
      · replace hE := hE.dec 16 c (by kernel_rfl)
        have c_2 := c
        refine WR.seg hE 20 [.int .i64 a_.Serial, .int .i64 b.Serial] [4] (Lo := [(4, .bool (decide (a_.Serial < b.Serial)))]) (obs := [.cell ⟨r, 1, none⟩ (.int .i64 a_.Serial), .cell ⟨r1, 1, none⟩ (.int .i64 b.Serial)]) rfl (by kernel_rfl) ⟨H.cell 1 rfl rfl, H.cell 0 rfl rfl, trivial⟩ fun a hE => ?_
        refine WR.done rfl ?_
        refine hk _ _ ⟨?_, H.t1.t1⟩
        try rw [c_1] at hE
        try rw [c_1]
        try rw [c_2] at hE
        try rw [c_2]
        exact hE.sel [4] (by kernel_rfl)
      · replace hE := hE.dec 16 c (by kernel_rfl)
        have c_3 := c
        refine WR.seg hE 20 [] [4] (Lo := [(4, .bool false)]) (obs := []) rfl (by kernel_rfl) trivial fun a hE => ?_
        refine WR.done rfl ?_
        refine hk _ _ ⟨?_, H.t1.t1⟩
        try rw [c_1] at hE
        try rw [c_1]
        try rw [c_3] at hE
        try rw [c_3]
        exact hE.sel [4] (by kernel_rfl)
  rintro a w ⟨hE, H⟩
  refine Runs.ret hE Tryz.func24 rfl rfl ?_
  cases hm
  exact ⟨rfl, H.x1.x0⟩

theorem thicketlaw9_before_ok {w0 w : World} {As : List HP} {x : thicketlaw9_held} {y : thicketlaw9_held} {t : Bool}  (hm : thicketlaw9_before x y = some t) (H : St w0 (As) w) :
    CallsR Tryz.prog 126 #[.agg #[.int .i64 x.cell, .int .i64 x.e.Key, .int .i64 x.e.Serial], .agg #[.int .i64 y.cell, .int .i64 y.e.Key, .int .i64 y.e.Serial]] w fun v w' => v = .bool t ∧ St w0 (As) w' := by
  rw [thicketlaw9_before] at hm
  refine enter (args := [.agg #[.int .i64 x.cell, .int .i64 x.e.Key, .int .i64 x.e.Serial], .agg #[.int .i64 y.cell, .int .i64 y.e.Key, .int .i64 y.e.Serial]]) Tryz.func126 rfl rfl rfl fun a hE => ?_
  refine Runs.seq ?_
  refine Runs.region ?_
  refine WR.eff hE rfl rfl rfl rfl (OpTo.new hE H [] (.cells #[.int .i64 x.cell, .int .i64 x.e.Key, .int .i64 x.e.Serial] 58 (0, 0)) (fun r => .pointer (some ⟨r, 0, none⟩)) (obs := []) rfl (fun _ => by kernel_rfl) trivial) ?_
  rintro _ w ⟨r, rfl, H⟩ a hE
  refine WR.eff hE rfl rfl rfl rfl (OpTo.new hE H [] (.cells #[.int .i64 y.cell, .int .i64 y.e.Key, .int .i64 y.e.Serial] 58 (0, 0)) (fun r => .pointer (some ⟨r, 0, none⟩)) (obs := []) rfl (fun _ => by kernel_rfl) trivial) ?_
  rintro _ w ⟨r1, rfl, H⟩ a hE
  refine WR.seg hE 3 [] [2, 3] (Lo := [(2, .pointer (some ⟨r, 0, none⟩)), (3, .pointer (some ⟨r1, 0, none⟩))]) (obs := []) rfl (by kernel_rfl) trivial fun a hE => ?_
  refine WR.done rfl ?_
  refine Runs.seq ?_
  obtain ⟨s, es, hm⟩ := bind_some hm
  refine Runs.join (fun a w => EnvOk 24 a [(4, .bool s)] ∧ St w0 (As) w) (fun hk => ?_) ?_
  · replace hm := es; clear es
    refine Runs.region ?_
    refine WR.seg hE 4 [.int .i64 x.e.Key, .int .i64 x.e.Serial, .int .i64 y.e.Key, .int .i64 y.e.Serial] [2, 3, 6, 8] (Lo := [(2, .pointer (some ⟨r, 0, none⟩)), (3, .pointer (some ⟨r1, 0, none⟩)), (6, .agg #[.int .i64 x.e.Key, .int .i64 x.e.Serial]), (8, .agg #[.int .i64 y.e.Key, .int .i64 y.e.Serial])]) (obs := [.cell ⟨r, 1, none⟩ (.int .i64 x.e.Key), .cell ⟨r, 2, none⟩ (.int .i64 x.e.Serial), .cell ⟨r1, 1, none⟩ (.int .i64 y.e.Key), .cell ⟨r1, 2, none⟩ (.int .i64 y.e.Serial)]) rfl (by kernel_rfl) ⟨H.cell 1 rfl rfl, H.cell 1 rfl rfl, H.cell 0 rfl rfl, H.cell 0 rfl rfl, trivial⟩ fun a hE => ?_
    obtain ⟨t_, et_, hm⟩ := bind_some hm
    refine WR.eff hE rfl rfl rfl rfl (OpTo.fn hE rfl rfl Tryz.call24 (thicketref1_Before_ok et_ H)) ?_
    rintro _ w ⟨rfl, H⟩ a hE
    refine WR.seg hE 6 [] [2, 3, 10] (Lo := [(2, .pointer (some ⟨r, 0, none⟩)), (3, .pointer (some ⟨r1, 0, none⟩)), (10, .bool t_)]) (obs := []) rfl (by kernel_rfl) trivial fun a hE => ?_
    rcases Bool.eq_false_or_eq_true t_ with c | c
    · replace hE := hE.dec 10 c (by kernel_rfl)
      replace hm := cond_t c hm
      have c_ := c
      refine WR.seg hE 20 [] [4] (Lo := [(4, .bool true)]) (obs := []) rfl (by kernel_rfl) trivial fun a hE => ?_
      refine WR.done rfl ?_
      cases hm
      exact hk _ _ ⟨hE.sel [4] (by kernel_rfl), H.x1.x0⟩
    · replace hE := hE.dec 10 c (by kernel_rfl)
      replace hm := cond_f c hm
      have c_1 := c
      refine WR.seg hE 10 [.int .i64 x.e.Key, .int .i64 x.e.Serial, .int .i64 y.e.Key, .int .i64 y.e.Serial] [2, 3, 10, 12, 14] (Lo := [(2, .pointer (some ⟨r, 0, none⟩)), (3, .pointer (some ⟨r1, 0, none⟩)), (10, .bool false), (12, .agg #[.int .i64 x.e.Key, .int .i64 x.e.Serial]), (14, .agg #[.int .i64 y.e.Key, .int .i64 y.e.Serial])]) (obs := [.cell ⟨r, 1, none⟩ (.int .i64 x.e.Key), .cell ⟨r, 2, none⟩ (.int .i64 x.e.Serial), .cell ⟨r1, 1, none⟩ (.int .i64 y.e.Key), .cell ⟨r1, 2, none⟩ (.int .i64 y.e.Serial)]) rfl (by kernel_rfl) ⟨H.cell 1 rfl rfl, H.cell 1 rfl rfl, H.cell 0 rfl rfl, H.cell 0 rfl rfl, trivial⟩ fun a hE => ?_
      refine WR.eff hE rfl rfl rfl rfl (OpTo.eqS hE rfl rfl rfl (by kernel_rfl) (api_Entry.eq_run x.e y.e)) ?_
      rintro _ _ ⟨rfl, rfl⟩ a hE
      refine WR.seg hE 12 [] [2, 3, 10, 16] (Lo := [(2, .pointer (some ⟨r, 0, none⟩)), (3, .pointer (some ⟨r1, 0, none⟩)), (10, .bool false), (16, .bool (api_Entry.eq x.e y.e))]) (obs := []) rfl (by kernel_rfl) trivial fun a hE => ?_
      rcases Bool.eq_false_or_eq_true (api_Entry.eq x.e y.e) with c | c
      · replace hE := hE.dec 16 c (by kernel_rfl)
        replace hm := cond_t c hm
        have c_2 := c
        refine WR.seg hE 20 [.int .i64 x.cell, .int .i64 y.cell] [4] (Lo := [(4, .bool (decide (x.cell < y.cell)))]) (obs := [.cell ⟨r, 0, none⟩ (.int .i64 x.cell), .cell ⟨r1, 0, none⟩ (.int .i64 y.cell)]) rfl (by kernel_rfl) ⟨H.cell 1 rfl rfl, H.cell 0 rfl rfl, trivial⟩ fun a hE => ?_
        refine WR.done rfl ?_
        cases hm
        exact hk _ _ ⟨hE.sel [4] (by kernel_rfl), H.x1.x0⟩
      · replace hE := hE.dec 16 c (by kernel_rfl)
        replace hm := cond_f c hm
        have c_3 := c
        refine WR.seg hE 20 [] [4] (Lo := [(4, .bool false)]) (obs := []) rfl (by kernel_rfl) trivial fun a hE => ?_
        refine WR.done rfl ?_
        cases hm
        exact hk _ _ ⟨hE.sel [4] (by kernel_rfl), H.x1.x0⟩
  rintro a w ⟨hE, H⟩
  refine Runs.ret hE Tryz.func126 rfl rfl ?_
  cases hm
  exact ⟨rfl, H⟩

theorem thicketlaw9_least_ok {w0 w : World} {As : List HP} {k : Nat} {sb_l : Option Addr} {sc_l : Nat} {l : List thicketlaw9_held} {X_l : HP} {t : Int} (hX_l : SlRd X_l thicketlaw9_held.enc 3 sb_l l) (hC_l : l.length ≤ sc_l) (hm : thicketlaw9_least k l = some t) (H : St w0 (X_l :: As) w) :
    CallsR Tryz.prog 64 #[.slice sb_l l.length sc_l] w fun v w' => v = .int .i64 t ∧ St w0 (X_l :: As) w' := by
  rw [thicketlaw9_least] at hm
  refine enter (args := [.slice sb_l l.length sc_l]) Tryz.func64 rfl rfl rfl fun a hE => ?_
  refine Runs.seq ?_
  refine Runs.region ?_
  refine WR.seg hE 1 [] [0] (Lo := [(0, .slice sb_l l.length sc_l)]) (obs := []) rfl (by kernel_rfl) trivial fun a hE => ?_
  refine WR.done rfl ?_
  refine Runs.seq ?_
  refine Runs.region ?_
  refine WR.seg hE 1 [] [0, 3] (Lo := [(0, .slice sb_l l.length sc_l), (3, .int .i64 0)]) (obs := []) rfl (by kernel_rfl) trivial fun a hE => ?_
  refine WR.done rfl ?_
  refine Runs.seq ?_
  refine Runs.seq ?_
  refine Runs.region ?_
  refine WR.seg hE 1 [] [0, 3, 4] (Lo := [(0, .slice sb_l l.length sc_l), (3, .int .i64 0), (4, .int .i64 1)]) (obs := []) rfl (by kernel_rfl) trivial fun a hE => ?_
  refine WR.done rfl ?_
  obtain ⟨s, es, hm⟩ := bind_some hm
  refine Runs.join (fun a w => EnvOk 22 a [(3, .int .i64 s)] ∧ St w0 (X_l :: As) w) (fun hk => ?_) ?_
  · replace hm := es; clear es
    refine Runs.block ?_
    refine Runs.loop (fun m a w => ∃ (k_ : Int), ∃ (i : Int), EnvOk 22 a [(0, .slice sb_l l.length sc_l), (3, .int .i64 k_), (4, .int .i64 i)] ∧ St w0 (X_l :: As) w ∧ thicketlaw9_least_l0 l m k_ i = some s) k ⟨0, 1, hE.sel [0, 3, 4] (by kernel_rfl), H, hm⟩ ?_
    rintro m ih a w ⟨k_, i, hE, H, hm⟩
    cases m with
    | zero => simp [thicketlaw9_least_l0] at hm
    | succ m =>
      rw [thicketlaw9_least_l0] at hm
      refine Runs.seq ?_
      refine Runs.seq ?_
      refine Runs.region ?_
      refine WR.seg hE 4 [] [0, 3, 4, 8] (Lo := [(0, .slice sb_l l.length sc_l), (3, .int .i64 k_), (4, .int .i64 i), (8, .bool (decide (i < (l.length : Int))))]) (obs := []) rfl (by kernel_rfl) trivial fun a hE => ?_
      refine WR.done rfl ?_
      refine Runs.cond hE rfl (fun c => ?_) (fun c => ?_)
      · replace hm := cond_t c hm
        refine Runs.skip ?_
        refine Runs.seq ?_
        obtain ⟨s1, es1, hm⟩ := bind_some hm
        refine Runs.join (fun a w => EnvOk 22 a [(0, .slice sb_l l.length sc_l), (3, .int .i64 s1), (4, .int .i64 i)] ∧ St w0 (X_l :: As) w) (fun hk => ?_) ?_
        · replace hm := es1; clear es1
          refine Runs.block ?_
          refine Runs.seq ?_
          refine Runs.drawn mixed (by kernel_rfl) ?_
          replace H := H.drew
          obtain ⟨x, ex, hm⟩ := bind_some hm
          obtain ⟨b, o, hs, hb⟩ := SlRd.base hX_l thicketlaw9_held.enc_ok H 0 rfl ex
          obtain ⟨x1, ex1, hm⟩ := bind_some hm
          obtain ⟨b1, o1, hs1, hb1⟩ := SlRd.base hX_l thicketlaw9_held.enc_ok H 0 rfl ex1
          refine WQ.seg hE [0, 1, 2, 3, 4, 5, 6, 7] [.pointer (some ⟨b, o, none⟩), .int .i64 x.cell, .int .i64 x.e.Key, .int .i64 x.e.Serial, .pointer (some ⟨b1, o1, none⟩), .int .i64 x1.cell, .int .i64 x1.e.Key, .int .i64 x1.e.Serial] [0, 3, 4, 14, 18] (Lo := [(0, .slice sb_l l.length sc_l), (3, .int .i64 k_), (4, .int .i64 i), (14, .agg #[.int .i64 x.cell, .int .i64 x.e.Key, .int .i64 x.e.Serial]), (18, .agg #[.int .i64 x1.cell, .int .i64 x1.e.Key, .int .i64 x1.e.Serial])]) (obs := [.p ((sb_l : Option Addr) = some ⟨b, o, none⟩), .p (0 ≤ (i : Int) ∧ (i : Int) < ((l.length : Nat) : Int)), .cell ⟨b, o + (Int.toNat i) * 3, none⟩ (.int .i64 x.cell), .cell ⟨b, o + (Int.toNat i) * 3 + 1, none⟩ (.int .i64 x.e.Key), .cell ⟨b, o + (Int.toNat i) * 3 + 2, none⟩ (.int .i64 x.e.Serial), .p ((sb_l : Option Addr) = some ⟨b1, o1, none⟩), .p (0 ≤ (k_ : Int) ∧ (k_ : Int) < ((l.length : Nat) : Int)), .cell ⟨b1, o1 + (Int.toNat k_) * 3, none⟩ (.int .i64 x1.cell), .cell ⟨b1, o1 + (Int.toNat k_) * 3 + 1, none⟩ (.int .i64 x1.e.Key), .cell ⟨b1, o1 + (Int.toNat k_) * 3 + 2, none⟩ (.int .i64 x1.e.Serial)]) (by kernel_rfl) (by kernel_rfl) ⟨hs, hb, SlRd.cells hX_l thicketlaw9_held.enc_ok H 0 rfl hs ex 0 _ rfl, SlRd.cells hX_l thicketlaw9_held.enc_ok H 0 rfl hs ex 1 _ rfl, SlRd.cells hX_l thicketlaw9_held.enc_ok H 0 rfl hs ex 2 _ rfl, hs1, hb1, SlRd.cells hX_l thicketlaw9_held.enc_ok H 0 rfl hs1 ex1 0 _ rfl, SlRd.cells hX_l thicketlaw9_held.enc_ok H 0 rfl hs1 ex1 1 _ rfl, SlRd.cells hX_l thicketlaw9_held.enc_ok H 0 rfl hs1 ex1 2 _ rfl, trivial⟩ fun a hE => ?_
          obtain ⟨t_, et_, hm⟩ := bind_some hm
          refine WQ.eff (j := 8) (obs := []) hE (by kernel_rfl) rfl rfl rfl rfl (by kernel_rfl) (OpTo.fn hE rfl rfl Tryz.call126 (thicketlaw9_before_ok et_ H)) ?_
          rintro _ w ⟨rfl, H⟩
          refine ⟨trivial, fun a hE => ?_⟩
          refine WQ.done (by kernel_rfl) ?_
          refine Runs.cond hE rfl (fun c => ?_) (fun c => ?_)
          · replace hm := cond_t c hm
            refine Runs.region ?_
            refine WR.seg hE 2 [] [0, 3, 4] (Lo := [(0, .slice sb_l l.length sc_l), (3, .int .i64 i), (4, .int .i64 i)]) (obs := []) rfl (by kernel_rfl) trivial fun a hE => ?_
            refine WR.done rfl ?_
            refine Runs.inBlock ?_
            cases hm
            exact hk _ _ ⟨hE.sel [0, 3, 4] (by kernel_rfl), H⟩
          · replace hm := cond_f c hm
            refine Runs.skip ?_
            refine Runs.inBlock ?_
            cases hm
            exact hk _ _ ⟨hE.sel [0, 3, 4] (by kernel_rfl), H⟩
        rintro a w ⟨hE, H⟩
        refine Runs.region ?_
        refine WR.seg hE 3 [] [0, 3, 4] (Lo := [(0, .slice sb_l l.length sc_l), (3, .int .i64 s1), (4, .int .i64 (w64 (i + 1)))]) (obs := []) rfl (by kernel_rfl) trivial fun a hE => ?_
        refine WR.done rfl ?_
        exact ih m (Nat.lt_succ_self m) _ _ ⟨s1, w64 (i + 1), hE.sel [0, 3, 4] (by kernel_rfl), H, hm⟩
      · replace hm := cond_f c hm
        refine Runs.exit rfl ?_
        cases hm
        exact hk _ _ ⟨hE.sel [3] (by kernel_rfl), H⟩
  rintro a w ⟨hE, H⟩
  refine Runs.seq ?_
  refine Runs.region ?_
  refine WR.seg hE 2 [] [2] (Lo := [(2, .int .i64 s)]) (obs := []) rfl (by kernel_rfl) trivial fun a hE => ?_
  refine WR.done rfl ?_
  refine Runs.ret hE Tryz.func64 rfl rfl ?_
  cases hm
  exact ⟨rfl, H⟩

theorem slices_Clone_int_ok {w0 w : World} {As : List HP} {sb_s : Option Addr} {sc_s : Nat} {s : List Int} {X_s : HP} {t : List Int} (hX_s : SlRd X_s ecI 1 sb_s s) (hC_s : s.length ≤ sc_s) (hm : lClone s = some t) (H : St w0 (X_s :: As) w) :
    CallsR Tryz.prog 181 #[.slice sb_s s.length sc_s] w fun v w' => ∃ (sb0 : Option Addr) (sc0 : Nat), v = .slice sb0 t.length sc0 ∧ St w0 (Sl 3 ecI 1 sb0 sc0 t :: X_s :: As) w' := by
  unfold lClone at hm
  split at hm
  · rename_i hmx
    cases hm
    have he := ecI_ok
    refine enter (args := [.slice sb_s s.length sc_s]) Tryz.func181 rfl rfl rfl fun a hE => ?_
    refine Runs.seq ?_
    refine Runs.region ?_
    refine WR.seg hE 1 [] [0] (Lo := [(0, .slice sb_s s.length sc_s)]) (obs := []) rfl (by kernel_rfl) trivial fun a hE => ?_
    refine WR.done rfl ?_
    refine Runs.seq ?_
    refine Runs.seq ?_
    refine Runs.region ?_
    cases sb_s with
    | none =>
      have hs : s = [] := by
        obtain ⟨h1, _, h⟩ := H.at 0 rfl
        rcases hX_s h1 h with h | ⟨b, off, cs, T, fr, h, _⟩
        · exact h
        · cases h
      subst hs
      refine WR.seg hE 2 [] [4] (Lo := [(4, .bool true)]) (obs := []) rfl (by kernel_rfl) trivial fun a hE => ?_
      refine WR.done rfl ?_
      refine Runs.condT hE rfl ?_
      refine Runs.seq ?_
      refine Runs.region ?_
      refine WR.seg hE 1 [] [2] (Lo := [(2, .slice none 0 0)]) (obs := []) rfl (by kernel_rfl) trivial fun a hE => ?_
      refine WR.done rfl ?_
      refine Runs.ret hE Tryz.func181 rfl rfl ?_
      exact ⟨none, 0, rfl, H.slNil 3 ecI 1⟩
    | some ad =>
      refine WR.seg hE 2 [] [0, 4] (Lo := [(0, .slice (some ad) s.length sc_s), (4, .bool false)]) (obs := []) rfl (by kernel_rfl) trivial fun a hE => ?_
      refine WR.done rfl ?_
      refine Runs.condF hE rfl ?_
      refine Runs.skip ?_
      refine Runs.seq ?_
      refine Runs.region ?_
      refine WR.eff hE rfl rfl rfl rfl (OpTo.buildSl (T := 3) hE H he ([] : List Int) rfl (fun _ => by kernel_rfl) rfl rfl rfl) ?_
      rintro _ w ⟨r, rfl, H⟩ a hE
      refine WR.seg hE 2 [] [5, 6] (Lo := [(5, .slice (some ⟨r, 0, none⟩) ([] : List Int).length 0), (6, .slice (some ad) s.length sc_s)]) (obs := []) rfl (by kernel_rfl) trivial fun a hE => ?_
      have happ : mApp ([] : List Int) s = some s := by unfold mApp; rw [if_pos (by simpa using hmx)]; simp
      refine WR.eff hE rfl rfl rfl rfl (OpTo.appendM happ hE H he rfl rfl rfl rfl rfl rfl rfl rfl rfl rfl (SlRd.all hX_s he H 1 rfl) rfl) ?_
      rintro _ w ⟨sb, sc, rfl, H⟩ a hE
      refine WR.seg hE 4 [] [2] (Lo := [(2, .slice sb s.length sc)]) (obs := []) rfl (by kernel_rfl) trivial fun a hE => ?_
      refine WR.done rfl ?_
      refine Runs.ret hE Tryz.func181 rfl rfl ?_
      exact ⟨sb, sc, rfl, H⟩
  · cases hm

theorem trees_Kids_ok {w0 w : World} {As : List HP} {k : Nat} {p_a_ : Nat} {al_a_ : arena_Arena.A} {a_ : arena_Arena} {n : Int} {t : (List Int) × arena_Arena}  (hm : trees_Kids k a_ n = some t) (H : St w0 (arena_Arena.R p_a_ al_a_ a_ :: As) w) :
    CallsR Tryz.prog 122 #[.pointer (some ⟨p_a_, 0, none⟩), .int .i64 n] w fun v w' => ∃ (sb0 : Option Addr), ∃ (sc0 : Nat), v = .slice sb0 t.1.length sc0 ∧ St w0 (Sl 3 ecI 1 sb0 sc0 t.1 :: arena_Arena.R p_a_ al_a_ t.2 :: As) w' := by
  rw [trees_Kids] at hm
  refine enter (args := [.pointer (some ⟨p_a_, 0, none⟩), .int .i64 n]) Tryz.func122 rfl rfl rfl fun a hE => ?_
  refine Runs.seq ?_
  refine Runs.region ?_
  refine WR.seg hE 1 [] [0, 1] (Lo := [(0, .pointer (some ⟨p_a_, 0, none⟩)), (1, .int .i64 n)]) (obs := []) rfl (by kernel_rfl) trivial fun a hE => ?_
  refine WR.done rfl ?_
  refine Runs.seq ?_
  refine Runs.region ?_
  refine WR.seg hE 3 [] [5, 6, 7] (Lo := [(5, .pointer (some ⟨p_a_, 0, none⟩)), (6, .pointer (some ⟨p_a_, 0, none⟩)), (7, .int .i64 n)]) (obs := []) rfl (by kernel_rfl) trivial fun a hE => ?_
  obtain ⟨t_, et_, hm⟩ := bind_some hm
  refine WR.eff hE rfl rfl rfl rfl (OpTo.fn hE rfl rfl Tryz.call73 (arena_Arena_Cell_ok et_ H)) ?_
  rintro _ w ⟨rfl, H⟩ a hE
  obtain ⟨t_1, et_1, hm⟩ := bind_some hm
  refine WR.eff hE rfl rfl rfl rfl (OpTo.fn hE rfl rfl Tryz.call117 (node_Row_ok et_1 H)) ?_
  rintro _ w ⟨sb, sc, rfl, H⟩ a hE
  refine WR.seg hE 6 [] [4] (Lo := [(4, .slice sb t_1.1.length sc)]) (obs := []) rfl (by kernel_rfl) trivial fun a hE => ?_
  refine WR.done rfl ?_
  refine Runs.ret hE Tryz.func122 rfl rfl ?_
  cases hm
  exact ⟨sb, sc, rfl, H.t1.t1⟩

theorem trees_Nodes_f1_ok {w0 w : World} {As : List HP} {k : Nat} {n : Int} {r : Nat} {p_a_ : Nat} {al_a_ : arena_Arena.A} {a_ : arena_Arena} {t : (List Int) × arena_Arena}  (hm : trees_Nodes_f1 k n a_ = some t) (H : St w0 (Blk r 28 [.pointer (some ⟨p_a_, 0, none⟩)] :: arena_Arena.R p_a_ al_a_ a_ :: As) w) :
    CallsR Tryz.prog 158 #[.int .i64 n, .pointer (some ⟨r, 0, none⟩)] w fun v w' => ∃ (sb0 : Option Addr), ∃ (sc0 : Nat), v = .slice sb0 t.1.length sc0 ∧ St w0 (Sl 3 ecI 1 sb0 sc0 t.1 :: Blk r 28 [.pointer (some ⟨p_a_, 0, none⟩)] :: arena_Arena.R p_a_ al_a_ t.2 :: As) w' := by
  rw [trees_Nodes_f1] at hm
  refine enter (args := [.int .i64 n, .pointer (some ⟨r, 0, none⟩)]) Tryz.func158 rfl rfl rfl fun a hE => ?_
  refine Runs.seq ?_
  refine Runs.region ?_
  refine WR.seg hE 1 [] [0, 1] (Lo := [(0, .int .i64 n), (1, .pointer (some ⟨r, 0, none⟩))]) (obs := []) rfl (by kernel_rfl) trivial fun a hE => ?_
  refine WR.done rfl ?_
  refine Runs.seq ?_
  refine Runs.region ?_
  refine WR.seg hE 2 [.pointer (some ⟨p_a_, 0, none⟩)] [4, 5] (Lo := [(4, .pointer (some ⟨p_a_, 0, none⟩)), (5, .int .i64 n)]) (obs := [.cell ⟨r, 0, none⟩ (.pointer (some ⟨p_a_, 0, none⟩))]) rfl (by kernel_rfl) ⟨H.cell 0 rfl rfl, trivial⟩ fun a hE => ?_
  obtain ⟨t_, et_, hm⟩ := bind_some hm
  refine WR.eff hE rfl rfl rfl rfl (OpTo.fn hE rfl rfl Tryz.call122 (trees_Kids_ok et_ H.t1)) ?_
  rintro _ w ⟨sb, sc, rfl, H⟩ a hE
  refine WR.seg hE 4 [] [3] (Lo := [(3, .slice sb t_.1.length sc)]) (obs := []) rfl (by kernel_rfl) trivial fun a hE => ?_
  refine WR.done rfl ?_
  refine Runs.ret hE Tryz.func158 rfl rfl ?_
  cases hm
  exact ⟨sb, sc, rfl, H.t1.t2.t2⟩

theorem node_Below_g158_ok {w0 w : World} {As : List HP} {k : Nat} {p_a_ : Nat} {al_a_ : arena_Arena.A} {a_ : arena_Arena} {sb_first : Option Addr} {sc_first : Nat} {first : List Int} {X_first : HP} {r : Nat} {t : (List Int) × arena_Arena} (hX_first : SlRd X_first ecI 1 sb_first first) (hC_first : first.length ≤ sc_first) (hm : node_Below_g158 k a_ first = some t) (H : St w0 (arena_Arena.R p_a_ al_a_ a_ :: X_first :: Blk r 28 [.pointer (some ⟨p_a_, 0, none⟩)] :: As) w) :
    CallsR Tryz.prog 157 #[.pointer (some ⟨p_a_, 0, none⟩), .slice sb_first first.length sc_first, .func (.func 158) #[] #[.pointer (some ⟨r, 0, none⟩)]] w fun v w' => ∃ (sb0 : Option Addr), ∃ (sc0 : Nat), v = .slice sb0 t.1.length sc0 ∧ St w0 (Sl 3 ecI 1 sb0 sc0 t.1 :: arena_Arena.R p_a_ al_a_ t.2 :: X_first :: Blk r 28 [.pointer (some ⟨p_a_, 0, none⟩)] :: As) w' := by
  rw [node_Below_g158] at hm
  refine enter (args := [.pointer (some ⟨p_a_, 0, none⟩), .slice sb_first first.length sc_first, .func (.func 158) #[] #[.pointer (some ⟨r, 0, none⟩)]]) Tryz.func157 rfl rfl rfl fun a hE => ?_
  refine Runs.seq ?_
  refine Runs.region ?_
  refine WR.seg hE 1 [] [0, 1, 2] (Lo := [(0, .pointer (some ⟨p_a_, 0, none⟩)), (1, .slice sb_first first.length sc_first), (2, .func (.func 158) #[] #[.pointer (some ⟨r, 0, none⟩)])]) (obs := []) rfl (by kernel_rfl) trivial fun a hE => ?_
  refine WR.done rfl ?_
  refine Runs.seq ?_
  refine Runs.region ?_
  refine WR.seg hE 1 [] [0, 1, 2, 11] (Lo := [(0, .pointer (some ⟨p_a_, 0, none⟩)), (1, .slice sb_first first.length sc_first), (2, .func (.func 158) #[] #[.pointer (some ⟨r, 0, none⟩)]), (11, .pointer (some ⟨p_a_, 0, none⟩))]) (obs := []) rfl (by kernel_rfl) trivial fun a hE => ?_
  obtain ⟨t_, et_, hm⟩ := bind_some hm
  refine WR.eff hE rfl rfl rfl rfl (OpTo.fn hE rfl rfl Tryz.call63 (arena_Arena_Cells_ok et_ H)) ?_
  rintro _ w ⟨rfl, H⟩ a hE
  obtain ⟨l, el, hm⟩ := bind_some hm
  refine WR.eff hE rfl rfl rfl rfl (OpTo.make el hE H ecB_ok rfl rfl rfl rfl rfl rfl rfl rfl) ?_
  rintro _ w ⟨r1, rfl, H⟩ a hE
  refine WR.seg hE 4 [] [0, 1, 2, 7] (Lo := [(0, .pointer (some ⟨p_a_, 0, none⟩)), (1, .slice sb_first first.length sc_first), (2, .func (.func 158) #[] #[.pointer (some ⟨r, 0, none⟩)]), (7, .slice (some ⟨r1, 0, none⟩) l.length l.length)]) (obs := []) rfl (by kernel_rfl) trivial fun a hE => ?_
  refine WR.done rfl ?_
  refine Runs.seq ?_
  refine Runs.region ?_
  refine WR.seg hE 1 [] [0, 1, 2, 7, 8] (Lo := [(0, .pointer (some ⟨p_a_, 0, none⟩)), (1, .slice sb_first first.length sc_first), (2, .func (.func 158) #[] #[.pointer (some ⟨r, 0, none⟩)]), (7, .slice (some ⟨r1, 0, none⟩) l.length l.length), (8, .slice none 0 0)]) (obs := []) rfl (by kernel_rfl) trivial fun a hE => ?_
  refine WR.done rfl ?_
  refine Runs.seq ?_
  refine Runs.region ?_
  refine WR.seg hE 1 [] [0, 2, 7, 8, 14] (Lo := [(0, .pointer (some ⟨p_a_, 0, none⟩)), (2, .func (.func 158) #[] #[.pointer (some ⟨r, 0, none⟩)]), (7, .slice (some ⟨r1, 0, none⟩) l.length l.length), (8, .slice none 0 0), (14, .slice sb_first first.length sc_first)]) (obs := []) rfl (by kernel_rfl) trivial fun a hE => ?_
  obtain ⟨t_1, et_1, hm⟩ := bind_some hm
  replace H := H.t2
  refine WR.eff hE rfl rfl rfl rfl (OpTo.fn hE rfl rfl Tryz.call181 (slices_Clone_int_ok (hX_s := hX_first) (hC_s := hC_first) et_1 H)) ?_
  rintro _ w ⟨sb, sc, rfl, H⟩ a hE
  refine WR.seg hE 3 [] [0, 2, 7, 8, 9] (Lo := [(0, .pointer (some ⟨p_a_, 0, none⟩)), (2, .func (.func 158) #[] #[.pointer (some ⟨r, 0, none⟩)]), (7, .slice (some ⟨r1, 0, none⟩) l.length l.length), (8, .slice none 0 0), (9, .slice sb t_1.length sc)]) (obs := []) rfl (by kernel_rfl) trivial fun a hE => ?_
  refine WR.done rfl ?_
  refine Runs.seq ?_
  obtain ⟨s, es, hm⟩ := bind_some hm
  refine Runs.join (fun a w => ∃ (sb3 : Option Addr), ∃ (sc3 : Nat), EnvOk 53 a [(8, .slice sb3 s.1.length sc3)] ∧ St w0 (Sl 3 ecI 1 sb3 sc3 s.1 :: X_first :: arena_Arena.R p_a_ al_a_ s.2 :: Blk r 28 [.pointer (some ⟨p_a_, 0, none⟩)] :: As) w) (fun hk => ?_) ?_
  · replace hm := es; clear es
    replace H := H.slNil 3 ecI 1
    refine Runs.block ?_
    refine Runs.loop (fun m a w => ∃ (out : List Int), ∃ (wait : List Int), ∃ (m_ : List Bool), ∃ (m_1 : arena_Arena), ∃ (sb4 : Option Addr), ∃ (sc4 : Nat), ∃ (sb5 : Option Addr), ∃ (sc5 : Nat), EnvOk 53 a [(0, .pointer (some ⟨p_a_, 0, none⟩)), (2, .func (.func 158) #[] #[.pointer (some ⟨r, 0, none⟩)]), (7, .slice (some ⟨r1, 0, none⟩) m_.length l.length), (8, .slice sb4 out.length sc4), (9, .slice sb5 wait.length sc5)] ∧ St w0 (Sl 3 ecI 1 sb4 sc4 out :: Sl 3 ecI 1 sb5 sc5 wait :: X_first :: Sl 4 ecB 1 (some ⟨r1, 0, none⟩) l.length m_ :: arena_Arena.R p_a_ al_a_ m_1 :: Blk r 28 [.pointer (some ⟨p_a_, 0, none⟩)] :: As) w ∧ node_Below_g158_l0 first m out wait m_ m_1 = some s) k ⟨([] : List Int), t_1, l, a_, none, 0, sb, sc, hE.sel [0, 2, 7, 8, 9] (by kernel_rfl), H.t5.t5.t5.t5.t5.t5, hm⟩ ?_
    rintro m ih a w ⟨out, wait, m_, m_1, sb4, sc4, sb5, sc5, hE, H, hm⟩
    cases m with
    | zero => simp [node_Below_g158_l0] at hm
    | succ m =>
      rw [node_Below_g158_l0] at hm
      refine Runs.seq ?_
      refine Runs.seq ?_
      refine Runs.region ?_
      refine WR.seg hE 3 [] [0, 2, 7, 8, 9, 18] (Lo := [(0, .pointer (some ⟨p_a_, 0, none⟩)), (2, .func (.func 158) #[] #[.pointer (some ⟨r, 0, none⟩)]), (7, .slice (some ⟨r1, 0, none⟩) m_.length l.length), (8, .slice sb4 out.length sc4), (9, .slice sb5 wait.length sc5), (18, .bool (decide ((wait.length : Int) > 0)))]) (obs := []) rfl (by kernel_rfl) trivial fun a hE => ?_
      refine WR.done rfl ?_
      refine Runs.cond hE rfl (fun c => ?_) (fun c => ?_)
      · replace hm := cond_t c hm
        refine Runs.skip ?_
        refine Runs.block ?_
        refine Runs.seq ?_
        refine Runs.region ?_
        obtain ⟨x, ex, hm⟩ := bind_some hm
        obtain ⟨b, o, hs, hb⟩ := SlRd.base (sl_rd 3 ecI 1 _ _ _) ecI_ok H 1 rfl ex
        refine WR.seg hE 7 [.pointer (some ⟨b, o, none⟩), .int .i64 x] [0, 2, 7, 8, 9, 10] (Lo := [(0, .pointer (some ⟨p_a_, 0, none⟩)), (2, .func (.func 158) #[] #[.pointer (some ⟨r, 0, none⟩)]), (7, .slice (some ⟨r1, 0, none⟩) m_.length l.length), (8, .slice sb4 out.length sc4), (9, .slice sb5 wait.length sc5), (10, .int .i64 x)]) (obs := [.p ((sb5 : Option Addr) = some ⟨b, o, none⟩), .p (0 ≤ ((w64 ((wait.length : Int) - 1)) : Int) ∧ ((w64 ((wait.length : Int) - 1)) : Int) < ((wait.length : Nat) : Int)), .cell ⟨b, o + (Int.toNat (w64 ((wait.length : Int) - 1))) * 1, none⟩ (.int .i64 x)]) rfl (by kernel_rfl) ⟨hs, hb, SlRd.cells (sl_rd 3 ecI 1 _ _ _) ecI_ok H 1 rfl hs ex 0 _ rfl, trivial⟩ fun a hE => ?_
        refine WR.done rfl ?_
        refine Runs.seq ?_
        refine Runs.region ?_
        obtain ⟨l2, el2, hm⟩ := bind_some hm
        obtain ⟨sb6, q⟩ : ∃ z, rebase sb5 sc5 (Int.toNat 0) 1 = z := ⟨_, rfl⟩
        obtain ⟨sc6, q1⟩ : ∃ z, sc5 - (Int.toNat 0) = z := ⟨_, rfl⟩
        refine WR.seg hE 6 [.slice sb6 l2.length sc6] [0, 2, 7, 8, 9, 10] (Lo := [(0, .pointer (some ⟨p_a_, 0, none⟩)), (2, .func (.func 158) #[] #[.pointer (some ⟨r, 0, none⟩)]), (7, .slice (some ⟨r1, 0, none⟩) m_.length l.length), (8, .slice sb4 out.length sc4), (9, .slice sb6 l2.length sc6), (10, .int .i64 x)]) (obs := [.p (rebase sb5 sc5 0 1 = sb6), .p ((Int.toNat (w64 ((wait.length : Int) - 1))) - 0 = l2.length), .p (sc5 - 0 = sc6), .p (0 ≤ ((w64 ((wait.length : Int) - 1)) : Int) ∧ ((w64 ((wait.length : Int) - 1)) : Int) ≤ ((sc5 : Nat) : Int))]) rfl (by kernel_rfl) ⟨q, cut_len el2, q1, cut_cap el2 (H.slCap 1 rfl).1, trivial⟩ fun a hE => ?_
        refine WR.done rfl ?_
        refine Runs.seq ?_
        refine Runs.seq ?_
        obtain ⟨s1, es1, hm⟩ := bind_some hm
        refine Runs.join (fun a w => EnvOk 53 a [(0, .pointer (some ⟨p_a_, 0, none⟩)), (2, .func (.func 158) #[] #[.pointer (some ⟨r, 0, none⟩)]), (7, .slice (some ⟨r1, 0, none⟩) m_.length l.length), (8, .slice sb4 out.length sc4), (9, .slice sb6 l2.length sc6), (10, .int .i64 x), (39, .bool s1)] ∧ St w0 (Sl 3 ecI 1 sb4 sc4 out :: Sl 3 ecI 1 sb5 sc5 wait :: X_first :: Sl 4 ecB 1 (some ⟨r1, 0, none⟩) l.length m_ :: arena_Arena.R p_a_ al_a_ m_1 :: Blk r 28 [.pointer (some ⟨p_a_, 0, none⟩)] :: As) w) (fun hk => ?_) ?_
        · replace hm := es1; clear es1
          refine Runs.region ?_
          refine WR.seg hE 2 [] [0, 2, 7, 8, 9, 10, 30, 31] (Lo := [(0, .pointer (some ⟨p_a_, 0, none⟩)), (2, .func (.func 158) #[] #[.pointer (some ⟨r, 0, none⟩)]), (7, .slice (some ⟨r1, 0, none⟩) m_.length l.length), (8, .slice sb4 out.length sc4), (9, .slice sb6 l2.length sc6), (10, .int .i64 x), (30, .pointer (some ⟨p_a_, 0, none⟩)), (31, .int .i64 x)]) (obs := []) rfl (by kernel_rfl) trivial fun a hE => ?_
          obtain ⟨t_2, et_2, hm⟩ := bind_some hm
          refine WR.eff hE rfl rfl rfl rfl (OpTo.fn hE rfl rfl Tryz.call58 (arena_Arena_Live_ok et_2 H.t4)) ?_
          rintro _ w ⟨rfl, H⟩ a hE
          refine WR.seg hE 5 [] [0, 2, 7, 8, 9, 10, 34] (Lo := [(0, .pointer (some ⟨p_a_, 0, none⟩)), (2, .func (.func 158) #[] #[.pointer (some ⟨r, 0, none⟩)]), (7, .slice (some ⟨r1, 0, none⟩) m_.length l.length), (8, .slice sb4 out.length sc4), (9, .slice sb6 l2.length sc6), (10, .int .i64 x), (34, .bool (!t_2))]) (obs := []) rfl (by kernel_rfl) trivial fun a hE => ?_
          rcases Bool.eq_false_or_eq_true (!t_2) with c | c
          · replace hE := hE.dec 34 c (by kernel_rfl)
            replace hm := cond_t c hm
            have c_ := c
            refine WR.seg hE 10 [] [0, 2, 7, 8, 9, 10, 39] (Lo := [(0, .pointer (some ⟨p_a_, 0, none⟩)), (2, .func (.func 158) #[] #[.pointer (some ⟨r, 0, none⟩)]), (7, .slice (some ⟨r1, 0, none⟩) m_.length l.length), (8, .slice sb4 out.length sc4), (9, .slice sb6 l2.length sc6), (10, .int .i64 x), (39, .bool true)]) (obs := []) rfl (by kernel_rfl) trivial fun a hE => ?_
            refine WR.done rfl ?_
            cases hm
            exact hk _ _ ⟨hE.sel [0, 2, 7, 8, 9, 10, 39] (by kernel_rfl), H.t5.t1.t5.t5.t5.t5⟩
          · replace hE := hE.dec 34 c (by kernel_rfl)
            replace hm := cond_f c hm
            have c_1 := c
            obtain ⟨x1, ex1, hm⟩ := bind_some hm
            obtain ⟨b1, o1, hs1, hb1⟩ := SlRd.base (sl_rd 4 ecB 1 _ _ _) ecB_ok H 4 rfl ex1
            refine WR.seg hE 10 [.pointer (some ⟨b1, o1, none⟩), .bool x1] [0, 2, 7, 8, 9, 10, 39] (Lo := [(0, .pointer (some ⟨p_a_, 0, none⟩)), (2, .func (.func 158) #[] #[.pointer (some ⟨r, 0, none⟩)]), (7, .slice (some ⟨r1, 0, none⟩) m_.length l.length), (8, .slice sb4 out.length sc4), (9, .slice sb6 l2.length sc6), (10, .int .i64 x), (39, .bool x1)]) (obs := [.p (((some ⟨r1, 0, none⟩) : Option Addr) = some ⟨b1, o1, none⟩), .p (0 ≤ (x : Int) ∧ (x : Int) < ((m_.length : Nat) : Int)), .cell ⟨b1, o1 + (Int.toNat x) * 1, none⟩ (.bool x1)]) rfl (by kernel_rfl) ⟨hs1, hb1, SlRd.cells (sl_rd 4 ecB 1 _ _ _) ecB_ok H 4 rfl hs1 ex1 0 _ rfl, trivial⟩ fun a hE => ?_
            refine WR.done rfl ?_
            cases hm
            exact hk _ _ ⟨hE.sel [0, 2, 7, 8, 9, 10, 39] (by kernel_rfl), H.t5.t1.t5.t5.t5.t5⟩
        rintro a w ⟨hE, H⟩
        refine Runs.cond hE rfl (fun c => ?_) (fun c => ?_)
        · replace hm := cond_t c hm
          refine Runs.exit rfl ?_
          replace H := H.t1.slCut' ecI_ok el2 q q1
          exact ih m (Nat.lt_succ_self m) _ _ ⟨out, l2, m_, m_1, sb4, sc4, sb6, sc6, hE.sel [0, 2, 7, 8, 9] (by kernel_rfl), H.t5.t5.t5.t5.t4.t5, hm⟩
        · replace hm := cond_f c hm
          refine Runs.skip ?_
          refine Runs.seq ?_
          refine Runs.region ?_
          obtain ⟨x2, ex2, hm⟩ := bind_some hm
          obtain ⟨b2, o2, hs2, hb2⟩ := SlRd.base (sl_rd 4 ecB 1 _ _ _) ecB_ok H 3 rfl ex2
          refine WR.seg hE 3 [.pointer (some ⟨b2, o2, none⟩)] [0, 2, 7, 8, 9, 10, 42] (Lo := [(0, .pointer (some ⟨p_a_, 0, none⟩)), (2, .func (.func 158) #[] #[.pointer (some ⟨r, 0, none⟩)]), (7, .slice (some ⟨r1, 0, none⟩) m_.length l.length), (8, .slice sb4 out.length sc4), (9, .slice sb6 l2.length sc6), (10, .int .i64 x), (42, .pointer (some ⟨b2, o2 + (Int.toNat x) * 1, none⟩))]) (obs := [.p (((some ⟨r1, 0, none⟩) : Option Addr) = some ⟨b2, o2, none⟩), .p (0 ≤ (x : Int) ∧ (x : Int) < ((m_.length : Nat) : Int))]) rfl (by kernel_rfl) ⟨hs2, hb2, trivial⟩ fun a hE => ?_
          refine WR.eff0 hE rfl rfl rfl (OpTo.storeSl (q := 0) (x' := true) hE H.t3 ecB_ok rfl hs2 ex2 rfl rfl rfl rfl rfl (Nat.le_of_ble_eq_true rfl) rfl) ?_
          rintro _ w H a hE
          try rw [← mSet_len m_ x true] at hE
          refine WR.done rfl ?_
          refine Runs.seq ?_
          refine Runs.region ?_
          refine WR.seg hE 2 [] [0, 2, 7, 8, 9, 10, 43, 44] (Lo := [(0, .pointer (some ⟨p_a_, 0, none⟩)), (2, .func (.func 158) #[] #[.pointer (some ⟨r, 0, none⟩)]), (7, .slice (some ⟨r1, 0, none⟩) ((mSet m_ x true).length) l.length), (8, .slice sb4 out.length sc4), (9, .slice sb6 l2.length sc6), (10, .int .i64 x), (43, .slice sb4 out.length sc4), (44, .int .i64 x)]) (obs := []) rfl (by kernel_rfl) trivial fun a hE => ?_
          refine WR.eff hE rfl rfl rfl rfl (OpTo.buildSl (T := 3) hE H ecI_ok ([x] : List Int) rfl (fun _ => by kernel_rfl) rfl rfl rfl) ?_
          rintro _ w ⟨r2, rfl, H⟩ a hE
          obtain ⟨l3, el3, hm⟩ := bind_some hm
          replace H := H.t2
          refine WR.eff hE rfl rfl rfl rfl (OpTo.appendM el3 hE H ecI_ok rfl rfl rfl rfl rfl rfl rfl rfl rfl rfl (SlRd.all (sl_rd 3 ecI 1 _ _ _) ecI_ok H 1 rfl) rfl) ?_
          rintro _ w ⟨sb7, sc7, rfl, H⟩ a hE
          refine WR.seg hE 5 [] [0, 2, 7, 8, 9, 10] (Lo := [(0, .pointer (some ⟨p_a_, 0, none⟩)), (2, .func (.func 158) #[] #[.pointer (some ⟨r, 0, none⟩)]), (7, .slice (some ⟨r1, 0, none⟩) ((mSet m_ x true).length) l.length), (8, .slice sb7 l3.length sc7), (9, .slice sb6 l2.length sc6), (10, .int .i64 x)]) (obs := []) rfl (by kernel_rfl) trivial fun a hE => ?_
          refine WR.done rfl ?_
          refine Runs.region ?_
          refine WR.seg hE 3 [] [0, 2, 7, 8, 9, 47, 48, 49] (Lo := [(0, .pointer (some ⟨p_a_, 0, none⟩)), (2, .func (.func 158) #[] #[.pointer (some ⟨r, 0, none⟩)]), (7, .slice (some ⟨r1, 0, none⟩) ((mSet m_ x true).length) l.length), (8, .slice sb7 l3.length sc7), (9, .slice sb6 l2.length sc6), (47, .slice sb6 l2.length sc6), (48, .func (.func 158) #[] #[.pointer (some ⟨r, 0, none⟩)]), (49, .int .i64 x)]) (obs := []) rfl (by kernel_rfl) trivial fun a hE => ?_
          obtain ⟨t_3, et_3, hm⟩ := bind_some hm
          refine WR.eff hE rfl rfl rfl rfl (OpTo.fv hE rfl rfl rfl Tryz.call158 (trees_Nodes_f1_ok et_3 H.t5.t6)) ?_
          rintro _ w ⟨sb8, sc8, rfl, H⟩ a hE
          replace H := H.t6.slCut' ecI_ok el2 q q1
          obtain ⟨l4, el4, hm⟩ := bind_some hm
          refine WR.eff hE rfl rfl rfl rfl (OpTo.appendM el4 hE H ecI_ok rfl rfl rfl rfl rfl rfl rfl rfl rfl rfl (SlRd.all (sl_rd 3 ecI 1 _ _ _) ecI_ok H 1 rfl) rfl) ?_
          rintro _ w ⟨sb9, sc9, rfl, H⟩ a hE
          refine WR.seg hE 6 [] [0, 2, 7, 8, 9] (Lo := [(0, .pointer (some ⟨p_a_, 0, none⟩)), (2, .func (.func 158) #[] #[.pointer (some ⟨r, 0, none⟩)]), (7, .slice (some ⟨r1, 0, none⟩) ((mSet m_ x true).length) l.length), (8, .slice sb7 l3.length sc7), (9, .slice sb9 l4.length sc9)]) (obs := []) rfl (by kernel_rfl) trivial fun a hE => ?_
          refine WR.done rfl ?_
          refine Runs.inBlock ?_
          exact ih m (Nat.lt_succ_self m) _ _ ⟨l3, l4, mSet m_ x true, t_3.2, sb7, sc7, sb9, sc9, hE.sel [0, 2, 7, 8, 9] (by kernel_rfl), H.x5.x1.t1.t2.t4.t5.t4.t5, hm⟩
      · replace hm := cond_f c hm
        refine Runs.exit rfl ?_
        cases hm
        exact hk _ _ ⟨sb4, sc4, hE.sel [8] (by kernel_rfl), H.x3.x1.t3.t3.t3.t3⟩
  rintro a w ⟨sb3, sc3, hE, H⟩
  refine Runs.seq ?_
  refine Runs.region ?_
  refine WR.seg hE 2 [] [6] (Lo := [(6, .slice sb3 s.1.length sc3)]) (obs := []) rfl (by kernel_rfl) trivial fun a hE => ?_
  refine WR.done rfl ?_
  refine Runs.ret hE Tryz.func157 rfl rfl ?_
  cases hm
  exact ⟨sb3, sc3, rfl, H.t3.t2.t3.t3⟩

theorem trees_Nodes_ok {w0 w : World} {As : List HP} {k : Nat} {p_a_ : Nat} {al_a_ : arena_Arena.A} {a_ : arena_Arena} {r : Int} {t : (List Int) × arena_Arena}  (hm : trees_Nodes k a_ r = some t) (H : St w0 (arena_Arena.R p_a_ al_a_ a_ :: As) w) :
    CallsR Tryz.prog 128 #[.pointer (some ⟨p_a_, 0, none⟩), .int .i64 r] w fun v w' => ∃ (sb0 : Option Addr), ∃ (sc0 : Nat), v = .slice sb0 t.1.length sc0 ∧ St w0 (Sl 3 ecI 1 sb0 sc0 t.1 :: arena_Arena.R p_a_ al_a_ t.2 :: As) w' := by
  rw [trees_Nodes] at hm
  refine enter (args := [.pointer (some ⟨p_a_, 0, none⟩), .int .i64 r]) Tryz.func128 rfl rfl rfl fun a hE => ?_
  refine Runs.seq ?_
  refine Runs.region ?_
  refine WR.eff hE rfl rfl rfl rfl (OpTo.new hE H [] (.cells #[.pointer (some ⟨p_a_, 0, none⟩)] 28 (0, 0)) (fun r => .pointer (some ⟨r, 0, none⟩)) (obs := []) rfl (fun _ => by kernel_rfl) trivial) ?_
  rintro _ w ⟨r1, rfl, H⟩ a hE
  refine WR.seg hE 2 [] [1, 2] (Lo := [(1, .int .i64 r), (2, .pointer (some ⟨r1, 0, none⟩))]) (obs := []) rfl (by kernel_rfl) trivial fun a hE => ?_
  refine WR.done rfl ?_
  refine Runs.seq ?_
  refine Runs.drawn mixed (by kernel_rfl) ?_
  replace H := H.drew
  refine WQ.seg hE [0, 1, 2, 4] [.pointer (some ⟨p_a_, 0, none⟩), .pointer (some ⟨p_a_, 0, none⟩)] [5, 6, 7, 9] (Lo := [(5, .pointer (some ⟨p_a_, 0, none⟩)), (6, .pointer (some ⟨p_a_, 0, none⟩)), (7, .int .i64 r), (9, .func (.func 158) #[] #[.pointer (some ⟨r1, 0, none⟩)])]) (obs := [.cell ⟨r1, 0, none⟩ (.pointer (some ⟨p_a_, 0, none⟩)), .cell ⟨r1, 0, none⟩ (.pointer (some ⟨p_a_, 0, none⟩))]) (by kernel_rfl) (by kernel_rfl) ⟨H.cell 0 rfl rfl, H.cell 0 rfl rfl, trivial⟩ fun a hE => ?_
  obtain ⟨t_, et_, hm⟩ := bind_some hm
  refine WQ.eff (j := 3) (obs := [.cell ⟨r1, 0, none⟩ (.pointer (some ⟨p_a_, 0, none⟩))]) hE (by kernel_rfl) rfl rfl rfl rfl (by kernel_rfl) (OpTo.fn hE rfl rfl Tryz.call56 (trees_List_ok et_ H.t1)) ?_
  rintro _ w ⟨sb, sc, rfl, H⟩
  refine ⟨⟨H.cell 2 rfl rfl, trivial⟩, fun a hE => ?_⟩
  obtain ⟨t_1, et_1, hm⟩ := bind_some hm
  replace H := H.t2.t1.t2
  refine WQ.eff (j := 5) (obs := []) hE (by kernel_rfl) rfl rfl rfl rfl (by kernel_rfl) (OpTo.fn hE rfl rfl Tryz.call157 (node_Below_g158_ok (hX_first := (sl_rd 3 ecI 1 _ _ _)) (hC_first := (H.slCap 1 rfl).1) et_1 H)) ?_
  rintro _ w ⟨sb1, sc1, rfl, H⟩
  refine ⟨trivial, fun a hE => ?_⟩
  refine WQ.seg hE [6] [] [4] (Lo := [(4, .slice sb1 t_1.1.length sc1)]) (obs := []) (by kernel_rfl) (by kernel_rfl) trivial fun a hE => ?_
  refine WQ.done (by kernel_rfl) ?_
  refine Runs.ret hE Tryz.func128 rfl rfl ?_
  cases hm
  exact ⟨sb1, sc1, rfl, H.x3.x2.t1.t1⟩

theorem slices_Sort_int_ok {w0 w : World} {As : List HP} {sb_s : Option Addr} {sc_s : Nat} {s t : List Int}  (hm : lSort s = some t) (H : St w0 (Sl 3 ecI 1 sb_s sc_s s :: As) w) :
    CallsR Tryz.prog 156 #[.slice sb_s s.length sc_s] w fun v w' => v = .tuple #[] ∧ t.length = s.length ∧ St w0 (Sl 3 ecI 1 sb_s sc_s t :: As) w' := by
  unfold lSort at hm
  split at hm
  case isFalse => cases hm
  rename_i hmx
  cases hm
  have hl : (iSort s).length = s.length := (iSort_perm s).length_eq
  by_cases hs : s.length = 0
  · have e : s = [] := List.eq_nil_of_length_eq_zero hs
    subst e
    refine Calls.mono (Tryz.slices_Sort_int_none sb_s sc_s w) ?_
    rintro e w' ⟨rfl, rfl⟩
    exact ⟨_, rfl, rfl, hl, H⟩
  · obtain ⟨b, off, rfl, hH, hb, hk⟩ := H.sorted hl (by omega)
    have hc := Tryz.slices_Sort_int b off sc_s s w hH hb (by omega)
    refine Calls.mono hc ?_
    rintro e w' ⟨rfl, n, os, rfl⟩
    refine ⟨_, rfl, rfl, hl, ?_⟩
    rw [iSort_merge]
    exact hk n os

theorem node_Items_ok {w0 w : World} {As : List HP} {k : Nat} {p_a_ : Nat} {al_a_ : arena_Arena.A} {a_ : arena_Arena} {sb_l : Option Addr} {sc_l : Nat} {l : List Int} {X_l : HP} {t : (List Int) × arena_Arena} (hX_l : SlRd X_l ecI 1 sb_l l) (hC_l : l.length ≤ sc_l) (hm : node_Items k a_ l = some t) (H : St w0 (arena_Arena.R p_a_ al_a_ a_ :: X_l :: As) w) :
    CallsR Tryz.prog 127 #[.pointer (some ⟨p_a_, 0, none⟩), .slice sb_l l.length sc_l] w fun v w' => ∃ (sb0 : Option Addr), ∃ (sc0 : Nat), v = .slice sb0 t.1.length sc0 ∧ St w0 (Sl 3 ecI 1 sb0 sc0 t.1 :: arena_Arena.R p_a_ al_a_ t.2 :: X_l :: As) w' := by
  rw [node_Items] at hm
  refine enter (args := [.pointer (some ⟨p_a_, 0, none⟩), .slice sb_l l.length sc_l]) Tryz.func127 rfl rfl rfl fun a hE => ?_
  refine Runs.seq ?_
  refine Runs.region ?_
  refine WR.seg hE 1 [] [0, 1] (Lo := [(0, .pointer (some ⟨p_a_, 0, none⟩)), (1, .slice sb_l l.length sc_l)]) (obs := []) rfl (by kernel_rfl) trivial fun a hE => ?_
  refine WR.done rfl ?_
  refine Runs.seq ?_
  refine Runs.region ?_
  refine WR.seg hE 1 [] [0, 1, 5] (Lo := [(0, .pointer (some ⟨p_a_, 0, none⟩)), (1, .slice sb_l l.length sc_l), (5, .slice none 0 0)]) (obs := []) rfl (by kernel_rfl) trivial fun a hE => ?_
  refine WR.done rfl ?_
  refine Runs.seq ?_
  refine Runs.seq ?_
  refine Runs.region ?_
  refine WR.seg hE 3 [] [0, 5, 9, 10, 11] (Lo := [(0, .pointer (some ⟨p_a_, 0, none⟩)), (5, .slice none 0 0), (9, .slice sb_l l.length sc_l), (10, .int .i64 (l.length : Int)), (11, .int .i64 0)]) (obs := []) rfl (by kernel_rfl) trivial fun a hE => ?_
  refine WR.done rfl ?_
  obtain ⟨s, es, hm⟩ := bind_some hm
  refine Runs.join (fun a w => ∃ (sb1 : Option Addr), ∃ (sc1 : Nat), EnvOk 28 a [(5, .slice sb1 s.1.length sc1)] ∧ St w0 (Sl 3 ecI 1 sb1 sc1 s.1 :: arena_Arena.R p_a_ al_a_ s.2 :: X_l :: As) w) (fun hk => ?_) ?_
  · replace hm := es; clear es
    replace H := H.slNil 3 ecI 1
    refine Runs.block ?_
    refine Runs.loop (fun m a w => ∃ (out : List Int), ∃ (x : Int), ∃ (m_ : arena_Arena), ∃ (sb2 : Option Addr), ∃ (sc2 : Nat), EnvOk 28 a [(0, .pointer (some ⟨p_a_, 0, none⟩)), (5, .slice sb2 out.length sc2), (9, .slice sb_l l.length sc_l), (10, .int .i64 (l.length : Int)), (11, .int .i64 x)] ∧ St w0 (Sl 3 ecI 1 sb2 sc2 out :: arena_Arena.R p_a_ al_a_ m_ :: X_l :: As) w ∧ node_Items_l0 (l.length : Int) l m out x m_ = some s) k ⟨([] : List Int), 0, a_, none, 0, hE.sel [0, 5, 9, 10, 11] (by kernel_rfl), H.t2.t2.t2, hm⟩ ?_
    rintro m ih a w ⟨out, x, m_, sb2, sc2, hE, H, hm⟩
    cases m with
    | zero => simp [node_Items_l0] at hm
    | succ m =>
      rw [node_Items_l0] at hm
      refine Runs.seq ?_
      refine Runs.region ?_
      refine WR.seg hE 1 [] [0, 5, 9, 10, 11, 12] (Lo := [(0, .pointer (some ⟨p_a_, 0, none⟩)), (5, .slice sb2 out.length sc2), (9, .slice sb_l l.length sc_l), (10, .int .i64 (l.length : Int)), (11, .int .i64 x), (12, .bool (decide (x < (l.length : Int))))]) (obs := []) rfl (by kernel_rfl) trivial fun a hE => ?_
      refine WR.done rfl ?_
      refine Runs.seq ?_
      refine Runs.cond hE rfl (fun c => ?_) (fun c => ?_)
      · replace hm := cond_t c hm
        refine Runs.skip ?_
        refine Runs.seq ?_
        obtain ⟨s1, es1, hm⟩ := bind_some hm
        refine Runs.join (fun a w => ∃ (sb3 : Option Addr), ∃ (sc3 : Nat), EnvOk 28 a [(0, .pointer (some ⟨p_a_, 0, none⟩)), (5, .slice sb3 s1.1.length sc3), (9, .slice sb_l l.length sc_l), (10, .int .i64 (l.length : Int)), (11, .int .i64 x)] ∧ St w0 (Sl 3 ecI 1 sb3 sc3 s1.1 :: arena_Arena.R p_a_ al_a_ s1.2 :: X_l :: As) w) (fun hk => ?_) ?_
        · replace hm := es1; clear es1
          refine Runs.block ?_
          refine Runs.seq ?_
          refine Runs.region ?_
          obtain ⟨x2, ex2, hm⟩ := bind_some hm
          obtain ⟨b, o, hs, hb⟩ := SlRd.base hX_l ecI_ok H 2 rfl ex2
          refine WR.seg hE 3 [.pointer (some ⟨b, o, none⟩), .int .i64 x2] [0, 5, 7, 9, 10, 11] (Lo := [(0, .pointer (some ⟨p_a_, 0, none⟩)), (5, .slice sb2 out.length sc2), (7, .int .i64 x2), (9, .slice sb_l l.length sc_l), (10, .int .i64 (l.length : Int)), (11, .int .i64 x)]) (obs := [.p ((sb_l : Option Addr) = some ⟨b, o, none⟩), .p (0 ≤ (x : Int) ∧ (x : Int) < ((l.length : Nat) : Int)), .cell ⟨b, o + (Int.toNat x) * 1, none⟩ (.int .i64 x2)]) rfl (by kernel_rfl) ⟨hs, hb, SlRd.cells hX_l ecI_ok H 2 rfl hs ex2 0 _ rfl, trivial⟩ fun a hE => ?_
          refine WR.done rfl ?_
          refine Runs.seq ?_
          refine Runs.region ?_
          refine WR.seg hE 2 [] [0, 5, 9, 10, 11, 15, 16] (Lo := [(0, .pointer (some ⟨p_a_, 0, none⟩)), (5, .slice sb2 out.length sc2), (9, .slice sb_l l.length sc_l), (10, .int .i64 (l.length : Int)), (11, .int .i64 x), (15, .pointer (some ⟨p_a_, 0, none⟩)), (16, .int .i64 x2)]) (obs := []) rfl (by kernel_rfl) trivial fun a hE => ?_
          obtain ⟨t_, et_, hm⟩ := bind_some hm
          refine WR.eff hE rfl rfl rfl rfl (OpTo.fn hE rfl rfl Tryz.call73 (arena_Arena_Cell_ok et_ H.t1)) ?_
          rintro _ w ⟨rfl, H⟩ a hE
          refine WR.seg hE 4 [] [0, 5, 8, 9, 10, 11] (Lo := [(0, .pointer (some ⟨p_a_, 0, none⟩)), (5, .slice sb2 out.length sc2), (8, .int .i64 t_.1), (9, .slice sb_l l.length sc_l), (10, .int .i64 (l.length : Int)), (11, .int .i64 x)]) (obs := []) rfl (by kernel_rfl) trivial fun a hE => ?_
          refine WR.done rfl ?_
          refine Runs.seq ?_
          refine Runs.region ?_
          refine WR.seg hE 2 [] [0, 5, 8, 9, 10, 11, 19] (Lo := [(0, .pointer (some ⟨p_a_, 0, none⟩)), (5, .slice sb2 out.length sc2), (8, .int .i64 t_.1), (9, .slice sb_l l.length sc_l), (10, .int .i64 (l.length : Int)), (11, .int .i64 x), (19, .bool (t_.1 != (-1)))]) (obs := []) rfl (by kernel_rfl) trivial fun a hE => ?_
          refine WR.done rfl ?_
          refine Runs.cond hE rfl (fun c => ?_) (fun c => ?_)
          · replace hm := cond_t c hm
            refine Runs.region ?_
            refine WR.seg hE 2 [] [0, 5, 9, 10, 11, 20, 21] (Lo := [(0, .pointer (some ⟨p_a_, 0, none⟩)), (5, .slice sb2 out.length sc2), (9, .slice sb_l l.length sc_l), (10, .int .i64 (l.length : Int)), (11, .int .i64 x), (20, .slice sb2 out.length sc2), (21, .int .i64 t_.1)]) (obs := []) rfl (by kernel_rfl) trivial fun a hE => ?_
            refine WR.eff hE rfl rfl rfl rfl (OpTo.buildSl (T := 3) hE H ecI_ok ([t_.1] : List Int) rfl (fun _ => by kernel_rfl) rfl rfl rfl) ?_
            rintro _ w ⟨r, rfl, H⟩ a hE
            obtain ⟨l2, el2, hm⟩ := bind_some hm
            replace H := H.t2
            refine WR.eff hE rfl rfl rfl rfl (OpTo.appendM el2 hE H ecI_ok rfl rfl rfl rfl rfl rfl rfl rfl rfl rfl (SlRd.all (sl_rd 3 ecI 1 _ _ _) ecI_ok H 1 rfl) rfl) ?_
            rintro _ w ⟨sb4, sc4, rfl, H⟩ a hE
            refine WR.seg hE 5 [] [0, 5, 9, 10, 11] (Lo := [(0, .pointer (some ⟨p_a_, 0, none⟩)), (5, .slice sb4 l2.length sc4), (9, .slice sb_l l.length sc_l), (10, .int .i64 (l.length : Int)), (11, .int .i64 x)]) (obs := []) rfl (by kernel_rfl) trivial fun a hE => ?_
            refine WR.done rfl ?_
            refine Runs.inBlock ?_
            cases hm
            exact hk _ _ ⟨sb4, sc4, hE.sel [0, 5, 9, 10, 11] (by kernel_rfl), H.x1.t2.t2.t2⟩
          · replace hm := cond_f c hm
            refine Runs.skip ?_
            refine Runs.inBlock ?_
            cases hm
            exact hk _ _ ⟨sb2, sc2, hE.sel [0, 5, 9, 10, 11] (by kernel_rfl), H.t2.t1.t2⟩
        rintro a w ⟨sb3, sc3, hE, H⟩
        refine Runs.region ?_
        refine WR.seg hE 2 [] [0, 5, 9, 10, 11] (Lo := [(0, .pointer (some ⟨p_a_, 0, none⟩)), (5, .slice sb3 s1.1.length sc3), (9, .slice sb_l l.length sc_l), (10, .int .i64 (l.length : Int)), (11, .int .i64 (w64 (x + 1)))]) (obs := []) rfl (by kernel_rfl) trivial fun a hE => ?_
        refine WR.done rfl ?_
        exact ih m (Nat.lt_succ_self m) _ _ ⟨s1.1, w64 (x + 1), s1.2, sb3, sc3, hE.sel [0, 5, 9, 10, 11] (by kernel_rfl), H.t2.t2.t2, hm⟩
      · replace hm := cond_f c hm
        refine Runs.exit rfl ?_
        cases hm
        exact hk _ _ ⟨sb2, sc2, hE.sel [5] (by kernel_rfl), H.t2.t2.t2⟩
  rintro a w ⟨sb1, sc1, hE, H⟩
  refine Runs.seq ?_
  refine Runs.region ?_
  refine WR.seg hE 1 [] [5, 25] (Lo := [(5, .slice sb1 s.1.length sc1), (25, .slice sb1 s.1.length sc1)]) (obs := []) rfl (by kernel_rfl) trivial fun a hE => ?_
  obtain ⟨t_1, et_1, hm⟩ := bind_some hm
  refine WR.eff hE rfl rfl rfl rfl (OpTo.fn hE rfl rfl Tryz.call156 (slices_Sort_int_ok et_1 H)) ?_
  rintro _ w ⟨rfl, hl0, H⟩ a hE
  try rw [← hl0] at hE
  refine WR.done rfl ?_
  refine Runs.seq ?_
  refine Runs.region ?_
  refine WR.seg hE 2 [] [4] (Lo := [(4, .slice sb1 t_1.length sc1)]) (obs := []) rfl (by kernel_rfl) trivial fun a hE => ?_
  refine WR.done rfl ?_
  refine Runs.ret hE Tryz.func127 rfl rfl ?_
  cases hm
  exact ⟨sb1, sc1, rfl, H.t2.t2.t2⟩

theorem binomial_All_ok {w0 w : World} {As : List HP} {k : Nat} {p_a_ : Nat} {al_a_ : arena_Arena.A} {a_ : arena_Arena} {r : Int} {t : (List Int) × arena_Arena}  (hm : binomial_All k a_ r = some t) (H : St w0 (arena_Arena.R p_a_ al_a_ a_ :: As) w) :
    CallsR Tryz.prog 67 #[.pointer (some ⟨p_a_, 0, none⟩), .int .i64 r] w fun v w' => ∃ (sb0 : Option Addr), ∃ (sc0 : Nat), v = .slice sb0 t.1.length sc0 ∧ St w0 (Sl 3 ecI 1 sb0 sc0 t.1 :: arena_Arena.R p_a_ al_a_ t.2 :: As) w' := by
  rw [binomial_All] at hm
  refine enter (args := [.pointer (some ⟨p_a_, 0, none⟩), .int .i64 r]) Tryz.func67 rfl rfl rfl fun a hE => ?_
  refine Runs.seq ?_
  refine Runs.region ?_
  refine WR.seg hE 1 [] [0, 1] (Lo := [(0, .pointer (some ⟨p_a_, 0, none⟩)), (1, .int .i64 r)]) (obs := []) rfl (by kernel_rfl) trivial fun a hE => ?_
  refine WR.done rfl ?_
  refine Runs.seq ?_
  refine Runs.seq ?_
  refine Runs.region ?_
  refine WR.seg hE 2 [] [0, 1, 6] (Lo := [(0, .pointer (some ⟨p_a_, 0, none⟩)), (1, .int .i64 r), (6, .bool false)]) (obs := []) rfl (by kernel_rfl) trivial fun a hE => ?_
  refine WR.done rfl ?_
  refine Runs.condF hE rfl ?_
  refine Runs.skip ?_
  refine Runs.seq ?_
  refine Runs.region ?_
  refine WR.seg hE 3 [] [7, 8, 9] (Lo := [(7, .pointer (some ⟨p_a_, 0, none⟩)), (8, .pointer (some ⟨p_a_, 0, none⟩)), (9, .int .i64 r)]) (obs := []) rfl (by kernel_rfl) trivial fun a hE => ?_
  obtain ⟨t_, et_, hm⟩ := bind_some hm
  refine WR.eff hE rfl rfl rfl rfl (OpTo.fn hE rfl rfl Tryz.call128 (trees_Nodes_ok et_ H)) ?_
  rintro _ w ⟨sb, sc, rfl, H⟩ a hE
  obtain ⟨t_1, et_1, hm⟩ := bind_some hm
  replace H := H.t1
  refine WR.eff hE rfl rfl rfl rfl (OpTo.fn hE rfl rfl Tryz.call127 (node_Items_ok (hX_l := (sl_rd 3 ecI 1 _ _ _)) (hC_l := (H.slCap 1 rfl).1) et_1 H)) ?_
  rintro _ w ⟨sb1, sc1, rfl, H⟩ a hE
  refine WR.seg hE 6 [] [4] (Lo := [(4, .slice sb1 t_1.1.length sc1)]) (obs := []) rfl (by kernel_rfl) trivial fun a hE => ?_
  refine WR.done rfl ?_
  refine Runs.ret hE Tryz.func67 rfl rfl ?_
  cases hm
  exact ⟨sb1, sc1, rfl, H.x2.t1.t1⟩

theorem thicketlaw9_cells_ok {w0 w : World} {As : List HP} {k : Nat} {sb_l : Option Addr} {sc_l : Nat} {l : List thicketlaw9_held} {X_l : HP} {t : (List Int)} (hX_l : SlRd X_l thicketlaw9_held.enc 3 sb_l l) (hC_l : l.length ≤ sc_l) (hm : thicketlaw9_cells k l = some t) (H : St w0 (X_l :: As) w) :
    CallsR Tryz.prog 68 #[.slice sb_l l.length sc_l] w fun v w' => ∃ (sb0 : Option Addr), ∃ (sc0 : Nat), v = .slice sb0 t.length sc0 ∧ St w0 (Sl 3 ecI 1 sb0 sc0 t :: X_l :: As) w' := by
  rw [thicketlaw9_cells] at hm
  refine enter (args := [.slice sb_l l.length sc_l]) Tryz.func68 rfl rfl rfl fun a hE => ?_
  refine Runs.seq ?_
  refine Runs.region ?_
  refine WR.seg hE 1 [] [0] (Lo := [(0, .slice sb_l l.length sc_l)]) (obs := []) rfl (by kernel_rfl) trivial fun a hE => ?_
  refine WR.done rfl ?_
  refine Runs.seq ?_
  refine Runs.region ?_
  refine WR.seg hE 1 [] [0, 3] (Lo := [(0, .slice sb_l l.length sc_l), (3, .slice none 0 0)]) (obs := []) rfl (by kernel_rfl) trivial fun a hE => ?_
  refine WR.done rfl ?_
  refine Runs.seq ?_
  refine Runs.seq ?_
  refine Runs.region ?_
  refine WR.seg hE 1 [] [0, 3, 4] (Lo := [(0, .slice sb_l l.length sc_l), (3, .slice none 0 0), (4, .int .i64 0)]) (obs := []) rfl (by kernel_rfl) trivial fun a hE => ?_
  refine WR.done rfl ?_
  obtain ⟨s, es, hm⟩ := bind_some hm
  refine Runs.join (fun a w => ∃ (sb1 : Option Addr), ∃ (sc1 : Nat), EnvOk 48 a [(3, .slice sb1 s.length sc1)] ∧ St w0 (Sl 3 ecI 1 sb1 sc1 s :: X_l :: As) w) (fun hk => ?_) ?_
  · replace hm := es; clear es
    replace H := H.slNil 3 ecI 1
    refine Runs.block ?_
    refine Runs.loop (fun m a w => ∃ (out : List Int), ∃ (i : Int), ∃ (sb2 : Option Addr), ∃ (sc2 : Nat), EnvOk 48 a [(0, .slice sb_l l.length sc_l), (3, .slice sb2 out.length sc2), (4, .int .i64 i)] ∧ St w0 (Sl 3 ecI 1 sb2 sc2 out :: X_l :: As) w ∧ thicketlaw9_cells_l0 l m out i = some s) k ⟨([] : List Int), 0, none, 0, hE.sel [0, 3, 4] (by kernel_rfl), H.t1.t1, hm⟩ ?_
    rintro m ih a w ⟨out, i, sb2, sc2, hE, H, hm⟩
    cases m with
    | zero => simp [thicketlaw9_cells_l0] at hm
    | succ m =>
      rw [thicketlaw9_cells_l0] at hm
      refine Runs.seq ?_
      refine Runs.seq ?_
      refine Runs.region ?_
      refine WR.seg hE 4 [] [0, 3, 4, 9] (Lo := [(0, .slice sb_l l.length sc_l), (3, .slice sb2 out.length sc2), (4, .int .i64 i), (9, .bool (decide (i < (l.length : Int))))]) (obs := []) rfl (by kernel_rfl) trivial fun a hE => ?_
      refine WR.done rfl ?_
      refine Runs.cond hE rfl (fun c => ?_) (fun c => ?_)
      · replace hm := cond_t c hm
        refine Runs.skip ?_
        refine Runs.seq ?_
        refine Runs.block ?_
        refine Runs.seq ?_
        refine Runs.region ?_
        refine WR.seg hE 3 [] [0, 3, 4, 5] (Lo := [(0, .slice sb_l l.length sc_l), (3, .slice sb2 out.length sc2), (4, .int .i64 i), (5, .int .i64 (out.length : Int))]) (obs := []) rfl (by kernel_rfl) trivial fun a hE => ?_
        refine WR.done rfl ?_
        refine Runs.seq ?_
        obtain ⟨s1, es1, hm⟩ := bind_some hm
        refine Runs.join (fun a w => EnvOk 48 a [(0, .slice sb_l l.length sc_l), (3, .slice sb2 out.length sc2), (4, .int .i64 i), (5, .int .i64 s1)] ∧ St w0 (Sl 3 ecI 1 sb2 sc2 out :: X_l :: As) w) (fun hk => ?_) ?_
        · replace hm := es1; clear es1
          refine Runs.block ?_
          refine Runs.loop (fun m a w => ∃ (k_ : Int), EnvOk 48 a [(0, .slice sb_l l.length sc_l), (3, .slice sb2 out.length sc2), (4, .int .i64 i), (5, .int .i64 k_)] ∧ St w0 (Sl 3 ecI 1 sb2 sc2 out :: X_l :: As) w ∧ thicketlaw9_cells_l1 i out l m k_ = some s1) m ⟨(out.length : Int), hE.sel [0, 3, 4, 5] (by kernel_rfl), H.t1.t1, hm⟩ ?_
          rintro m ih a w ⟨k_, hE, H, hm⟩
          cases m with
          | zero => simp [thicketlaw9_cells_l1] at hm
          | succ m =>
            rw [thicketlaw9_cells_l1] at hm
            refine Runs.seq ?_
            refine Runs.seq ?_
            obtain ⟨s2, es2, hm⟩ := bind_some hm
            refine Runs.join (fun a w => EnvOk 48 a [(0, .slice sb_l l.length sc_l), (3, .slice sb2 out.length sc2), (4, .int .i64 i), (5, .int .i64 k_), (28, .bool s2)] ∧ St w0 (Sl 3 ecI 1 sb2 sc2 out :: X_l :: As) w) (fun hk => ?_) ?_
            · replace hm := es2; clear es2
              refine Runs.drawn mixed (by kernel_rfl) ?_
              replace H := H.drew
              refine WQ.seg hE [0, 1, 2] [] [0, 3, 4, 5, 16] (Lo := [(0, .slice sb_l l.length sc_l), (3, .slice sb2 out.length sc2), (4, .int .i64 i), (5, .int .i64 k_), (16, .bool (decide (k_ > 0)))]) (obs := []) (by kernel_rfl) (by kernel_rfl) trivial fun a hE => ?_
              rcases Bool.eq_false_or_eq_true (decide (k_ > 0)) with c | c
              · replace hE := hE.dec 16 c (by kernel_rfl)
                replace hm := cond_t c hm
                have c_ := c
                obtain ⟨x1, ex1, hm⟩ := bind_some hm
                obtain ⟨b1, o1, hs1, hb1⟩ := SlRd.base (sl_rd 3 ecI 1 _ _ _) ecI_ok H 0 rfl ex1
                obtain ⟨x2, ex2, hm⟩ := bind_some hm
                obtain ⟨b2, o2, hs2, hb2⟩ := SlRd.base hX_l thicketlaw9_held.enc_ok H 1 rfl ex2
                refine WQ.seg hE [3, 4, 5, 6, 7, 8, 9, 10, 11, 12, 13, 14] [.pointer (some ⟨b1, o1, none⟩), .int .i64 x1, .pointer (some ⟨b2, o2, none⟩), .int .i64 x2.cell] [0, 3, 4, 5, 28] (Lo := [(0, .slice sb_l l.length sc_l), (3, .slice sb2 out.length sc2), (4, .int .i64 i), (5, .int .i64 k_), (28, .bool (decide (x1 > x2.cell)))]) (obs := [.p ((sb2 : Option Addr) = some ⟨b1, o1, none⟩), .p (0 ≤ ((w64 (k_ - 1)) : Int) ∧ ((w64 (k_ - 1)) : Int) < ((out.length : Nat) : Int)), .cell ⟨b1, o1 + (Int.toNat (w64 (k_ - 1))) * 1, none⟩ (.int .i64 x1), .p ((sb_l : Option Addr) = some ⟨b2, o2, none⟩), .p (0 ≤ (i : Int) ∧ (i : Int) < ((l.length : Nat) : Int)), .cell ⟨b2, o2 + (Int.toNat i) * 3, none⟩ (.int .i64 x2.cell)]) (by kernel_rfl) (by kernel_rfl) ⟨hs1, hb1, SlRd.cells (sl_rd 3 ecI 1 _ _ _) ecI_ok H 0 rfl hs1 ex1 0 _ rfl, hs2, hb2, SlRd.cells hX_l thicketlaw9_held.enc_ok H 1 rfl hs2 ex2 0 _ rfl, trivial⟩ fun a hE => ?_
                refine WQ.done (by kernel_rfl) ?_
                cases hm
                exact hk _ _ ⟨hE.sel [0, 3, 4, 5, 28] (by kernel_rfl), H.t1.t1⟩
              · replace hE := hE.dec 16 c (by kernel_rfl)
                replace hm := cond_f c hm
                have c_1 := c
                refine WQ.seg hE [3, 4, 5, 6, 7, 8, 9, 10, 11, 12, 13, 14] [] [0, 3, 4, 5, 28] (Lo := [(0, .slice sb_l l.length sc_l), (3, .slice sb2 out.length sc2), (4, .int .i64 i), (5, .int .i64 k_), (28, .bool false)]) (obs := []) (by kernel_rfl) (by kernel_rfl) trivial fun a hE => ?_
                refine WQ.done (by kernel_rfl) ?_
                cases hm
                exact hk _ _ ⟨hE.sel [0, 3, 4, 5, 28] (by kernel_rfl), H.t1.t1⟩
            rintro a w ⟨hE, H⟩
            refine Runs.cond hE rfl (fun c => ?_) (fun c => ?_)
            · replace hm := cond_t c hm
              refine Runs.skip ?_
              refine Runs.block ?_
              refine Runs.region ?_
              refine WR.seg hE 3 [] [0, 3, 4, 5] (Lo := [(0, .slice sb_l l.length sc_l), (3, .slice sb2 out.length sc2), (4, .int .i64 i), (5, .int .i64 (w64 (k_ - 1)))]) (obs := []) rfl (by kernel_rfl) trivial fun a hE => ?_
              refine WR.done rfl ?_
              refine Runs.inBlock ?_
              exact ih m (Nat.lt_succ_self m) _ _ ⟨w64 (k_ - 1), hE.sel [0, 3, 4, 5] (by kernel_rfl), H.t1.t1, hm⟩
            · replace hm := cond_f c hm
              refine Runs.exit rfl ?_
              cases hm
              exact hk _ _ ⟨hE.sel [0, 3, 4, 5] (by kernel_rfl), H.t1.t1⟩
        rintro a w ⟨hE, H⟩
        obtain ⟨l4, el4, hm⟩ := bind_some hm
        obtain ⟨x3, ex3, hm⟩ := bind_some hm
        obtain ⟨l5, el5, hm⟩ := bind_some hm
        obtain ⟨l6, el6, hm⟩ := bind_some hm
        obtain ⟨l7, el7, hm⟩ := bind_some hm
        obtain ⟨l8, el8, hm⟩ := bind_some hm
        refine Runs.join (fun a w => ∃ (sb8 : Option Addr), ∃ (sc8 : Nat), EnvOk 48 a [(0, .slice sb_l l.length sc_l), (3, .slice sb8 l8.length sc8), (4, .int .i64 i)] ∧ St w0 (Sl 3 ecI 1 sb8 sc8 l8 :: X_l :: As) w) (fun hk => ?_) ?_
        ·
          refine Runs.drawn mixed (by kernel_rfl) ?_
          replace H := H.drew
          obtain ⟨sb9, q7⟩ : ∃ z, rebase sb2 sc2 (Int.toNat 0) 1 = z := ⟨_, rfl⟩
          obtain ⟨sc9, q8⟩ : ∃ z, sc2 - (Int.toNat 0) = z := ⟨_, rfl⟩
          obtain ⟨b4, o4, hs4, hb4⟩ := SlRd.base hX_l thicketlaw9_held.enc_ok H 1 rfl ex3
          obtain ⟨sb10, q9⟩ : ∃ z, rebase sb2 sc2 (Int.toNat s1) 1 = z := ⟨_, rfl⟩
          obtain ⟨sc10, q10⟩ : ∃ z, sc2 - (Int.toNat s1) = z := ⟨_, rfl⟩
          refine WQ.seg hE [1, 2, 3, 5, 6, 7, 8, 9, 12, 13, 14] [.slice sb9 l4.length sc9, .pointer (some ⟨b4, o4, none⟩), .int .i64 x3.cell, .slice sb10 l5.length sc10] [0, 3, 4, 34, 40, 45] (Lo := [(0, .slice sb_l l.length sc_l), (3, .slice sb2 out.length sc2), (4, .int .i64 i), (34, .slice sb9 l4.length sc9), (40, .int .i64 x3.cell), (45, .slice sb10 l5.length sc10)]) (obs := [.p (rebase sb2 sc2 0 1 = sb9), .p ((Int.toNat s1) - 0 = l4.length), .p (sc2 - 0 = sc9), .p (0 ≤ (s1 : Int) ∧ (s1 : Int) ≤ ((sc2 : Nat) : Int)), .p ((sb_l : Option Addr) = some ⟨b4, o4, none⟩), .p (0 ≤ (i : Int) ∧ (i : Int) < ((l.length : Nat) : Int)), .cell ⟨b4, o4 + (Int.toNat i) * 3, none⟩ (.int .i64 x3.cell), .p (rebase sb2 sc2 (Int.toNat s1) 1 = sb10), .p (out.length - (Int.toNat s1) = l5.length), .p (sc2 - (Int.toNat s1) = sc10), .p (0 ≤ (s1 : Int) ∧ (s1 : Int) ≤ ((out.length : Nat) : Int))]) (by kernel_rfl) (by kernel_rfl) ⟨q7, cut_len el4, q8, cut_cap el4 (H.slCap 0 rfl).1, hs4, hb4, SlRd.cells hX_l thicketlaw9_held.enc_ok H 1 rfl hs4 ex3 0 _ rfl, q9, cut_len el5, q10, cut_bd0 el5, trivial⟩ fun a hE => ?_
          refine WQ.act2 0 10 (by kernel_rfl) ?_ ?_
          ·
            refine AQ.eff (j := 0) (obs := [.p (rebase sb2 sc2 (Int.toNat s1) 1 = sb10), .p (out.length - (Int.toNat s1) = l5.length), .p (sc2 - (Int.toNat s1) = sc10), .p (0 ≤ (s1 : Int) ∧ (s1 : Int) ≤ ((out.length : Nat) : Int)), .cell ⟨b4, o4 + (Int.toNat i) * 3, none⟩ (.int .i64 x3.cell), .p ((sb_l : Option Addr) = some ⟨b4, o4, none⟩), .p (0 ≤ (i : Int) ∧ (i : Int) < ((l.length : Nat) : Int)), .p (rebase sb2 sc2 0 1 = sb9), .p ((Int.toNat s1) - 0 = l4.length), .p (sc2 - 0 = sc9), .p (0 ≤ (s1 : Int) ∧ (s1 : Int) ≤ ((sc2 : Nat) : Int))]) hE rfl rfl rfl rfl (by kernel_rfl) (OpTo.buildSl (T := 3) hE H ecI_ok ([] : List Int) rfl (fun _ => by kernel_rfl) rfl rfl rfl) ?_
            rintro _ w ⟨r2, rfl, H⟩
            refine ⟨⟨q9, cut_len el5, q10, cut_bd0 el5, SlRd.cells hX_l thicketlaw9_held.enc_ok H 2 rfl hs4 ex3 0 _ rfl, hs4, hb4, q7, cut_len el4, q8, cut_cap el4 (H.slCap 1 rfl).1, trivial⟩, fun a hE => ?_⟩
            refine WQ.act2 4 10 (by kernel_rfl) ?_ ?_
            ·
              refine AQ.eff (j := 4) (obs := [.p (rebase sb2 sc2 (Int.toNat s1) 1 = sb10), .p (out.length - (Int.toNat s1) = l5.length), .p (sc2 - (Int.toNat s1) = sc10), .p (0 ≤ (s1 : Int) ∧ (s1 : Int) ≤ ((out.length : Nat) : Int)), .cell ⟨b4, o4 + (Int.toNat i) * 3, none⟩ (.int .i64 x3.cell), .p ((sb_l : Option Addr) = some ⟨b4, o4, none⟩), .p (0 ≤ (i : Int) ∧ (i : Int) < ((l.length : Nat) : Int))]) hE rfl rfl rfl rfl (by kernel_rfl) (OpTo.appendM el6 hE H ecI_ok rfl rfl rfl rfl rfl rfl rfl rfl rfl rfl (SlRd.all ((sl_rd 3 ecI 1 _ _ _).cut' ecI_ok el4 ((H.slCap 1 rfl).1) q7) ecI_ok H 1 rfl) rfl) ?_
              rintro _ w ⟨sb11, sc11, rfl, H⟩
              refine ⟨⟨q9, cut_len el5, q10, cut_bd0 el5, SlRd.cells hX_l thicketlaw9_held.enc_ok H 2 rfl hs4 ex3 0 _ rfl, hs4, hb4, trivial⟩, fun a hE => ?_⟩
              refine WQ.eff (j := 10) (obs := [.p (rebase sb2 sc2 (Int.toNat s1) 1 = sb10), .p (out.length - (Int.toNat s1) = l5.length), .p (sc2 - (Int.toNat s1) = sc10), .p (0 ≤ (s1 : Int) ∧ (s1 : Int) ≤ ((out.length : Nat) : Int))]) hE (by kernel_rfl) rfl rfl rfl rfl (by kernel_rfl) (OpTo.buildSl (T := 3) hE H ecI_ok ([x3.cell] : List Int) rfl (fun _ => by kernel_rfl) rfl rfl rfl) ?_
              rintro _ w ⟨r3, rfl, H⟩
              refine ⟨⟨q9, cut_len el5, q10, cut_bd0 el5, trivial⟩, fun a hE => ?_⟩
              replace H := H.t1
              refine WQ.eff (j := 11) (obs := [.p (rebase sb2 sc2 (Int.toNat s1) 1 = sb10), .p (out.length - (Int.toNat s1) = l5.length), .p (sc2 - (Int.toNat s1) = sc10), .p (0 ≤ (s1 : Int) ∧ (s1 : Int) ≤ ((out.length : Nat) : Int))]) hE (by kernel_rfl) rfl rfl rfl rfl (by kernel_rfl) (OpTo.appendM el7 hE H ecI_ok rfl rfl rfl rfl rfl rfl rfl rfl rfl rfl (SlRd.all (sl_rd 3 ecI 1 _ _ _) ecI_ok H 1 rfl) rfl) ?_
              rintro _ w ⟨sb12, sc12, rfl, H⟩
              refine ⟨⟨q9, cut_len el5, q10, cut_bd0 el5, trivial⟩, fun a hE => ?_⟩
              refine WQ.eff (j := 15) (obs := []) hE (by kernel_rfl) rfl rfl rfl rfl (by kernel_rfl) (OpTo.appendM el8 hE H ecI_ok rfl rfl rfl rfl rfl rfl rfl rfl rfl rfl (SlRd.all ((sl_rd 3 ecI 1 _ _ _).cut' ecI_ok el5 ((H.slCap 2 rfl).1) q9) ecI_ok H 2 rfl) rfl) ?_
              rintro _ w ⟨sb13, sc13, rfl, H⟩
              refine ⟨trivial, fun a hE => ?_⟩
              refine WQ.seg hE [16] [] [0, 3, 4] (Lo := [(0, .slice sb_l l.length sc_l), (3, .slice sb13 l8.length sc13), (4, .int .i64 i)]) (obs := []) (by kernel_rfl) (by kernel_rfl) trivial fun a hE => ?_
              refine WQ.done (by kernel_rfl) ?_
              exact hk _ _ ⟨sb13, sc13, hE.sel [0, 3, 4] (by kernel_rfl), H.x2.x1.t1.t1⟩
            ·
              refine AQ.eff (j := 10) (obs := [.p (rebase sb2 sc2 (Int.toNat s1) 1 = sb10), .p (out.length - (Int.toNat s1) = l5.length), .p (sc2 - (Int.toNat s1) = sc10), .p (0 ≤ (s1 : Int) ∧ (s1 : Int) ≤ ((out.length : Nat) : Int)), .p (rebase sb2 sc2 0 1 = sb9), .p ((Int.toNat s1) - 0 = l4.length), .p (sc2 - 0 = sc9), .p (0 ≤ (s1 : Int) ∧ (s1 : Int) ≤ ((sc2 : Nat) : Int))]) hE rfl rfl rfl rfl (by kernel_rfl) (OpTo.buildSl (T := 3) hE H ecI_ok ([x3.cell] : List Int) rfl (fun _ => by kernel_rfl) rfl rfl rfl) ?_
              rintro _ w ⟨r4, rfl, H⟩
              refine ⟨⟨q9, cut_len el5, q10, cut_bd0 el5, q7, cut_len el4, q8, cut_cap el4 (H.slCap 2 rfl).1, trivial⟩, fun a hE => ?_⟩
              replace H := H.t1
              refine WQ.eff (j := 4) (obs := [.p (rebase sb2 sc2 (Int.toNat s1) 1 = sb10), .p (out.length - (Int.toNat s1) = l5.length), .p (sc2 - (Int.toNat s1) = sc10), .p (0 ≤ (s1 : Int) ∧ (s1 : Int) ≤ ((out.length : Nat) : Int))]) hE (by kernel_rfl) rfl rfl rfl rfl (by kernel_rfl) (OpTo.appendM el6 hE H ecI_ok rfl rfl rfl rfl rfl rfl rfl rfl rfl rfl (SlRd.all ((sl_rd 3 ecI 1 _ _ _).cut' ecI_ok el4 ((H.slCap 2 rfl).1) q7) ecI_ok H 2 rfl) rfl) ?_
              rintro _ w ⟨sb14, sc14, rfl, H⟩
              refine ⟨⟨q9, cut_len el5, q10, cut_bd0 el5, trivial⟩, fun a hE => ?_⟩
              refine WQ.eff (j := 11) (obs := [.p (rebase sb2 sc2 (Int.toNat s1) 1 = sb10), .p (out.length - (Int.toNat s1) = l5.length), .p (sc2 - (Int.toNat s1) = sc10), .p (0 ≤ (s1 : Int) ∧ (s1 : Int) ≤ ((out.length : Nat) : Int))]) hE (by kernel_rfl) rfl rfl rfl rfl (by kernel_rfl) (OpTo.appendM el7 hE H ecI_ok rfl rfl rfl rfl rfl rfl rfl rfl rfl rfl (SlRd.all (sl_rd 3 ecI 1 _ _ _) ecI_ok H 1 rfl) rfl) ?_
              rintro _ w ⟨sb15, sc15, rfl, H⟩
              refine ⟨⟨q9, cut_len el5, q10, cut_bd0 el5, trivial⟩, fun a hE => ?_⟩
              refine WQ.eff (j := 15) (obs := []) hE (by kernel_rfl) rfl rfl rfl rfl (by kernel_rfl) (OpTo.appendM el8 hE H ecI_ok rfl rfl rfl rfl rfl rfl rfl rfl rfl rfl (SlRd.all ((sl_rd 3 ecI 1 _ _ _).cut' ecI_ok el5 ((H.slCap 2 rfl).1) q9) ecI_ok H 2 rfl) rfl) ?_
              rintro _ w ⟨sb16, sc16, rfl, H⟩
              refine ⟨trivial, fun a hE => ?_⟩
              refine WQ.seg hE [16] [] [0, 3, 4] (Lo := [(0, .slice sb_l l.length sc_l), (3, .slice sb16 l8.length sc16), (4, .int .i64 i)]) (obs := []) (by kernel_rfl) (by kernel_rfl) trivial fun a hE => ?_
              refine WQ.done (by kernel_rfl) ?_
              exact hk _ _ ⟨sb16, sc16, hE.sel [0, 3, 4] (by kernel_rfl), H.x2.x1.t1.t1⟩
          ·
            refine AQ.eff (j := 10) (obs := [.p (rebase sb2 sc2 (Int.toNat s1) 1 = sb10), .p (out.length - (Int.toNat s1) = l5.length), .p (sc2 - (Int.toNat s1) = sc10), .p (0 ≤ (s1 : Int) ∧ (s1 : Int) ≤ ((out.length : Nat) : Int)), .p (rebase sb2 sc2 0 1 = sb9), .p ((Int.toNat s1) - 0 = l4.length), .p (sc2 - 0 = sc9), .p (0 ≤ (s1 : Int) ∧ (s1 : Int) ≤ ((sc2 : Nat) : Int))]) hE rfl rfl rfl rfl (by kernel_rfl) (OpTo.buildSl (T := 3) hE H ecI_ok ([x3.cell] : List Int) rfl (fun _ => by kernel_rfl) rfl rfl rfl) ?_
            rintro _ w ⟨r5, rfl, H⟩
            refine ⟨⟨q9, cut_len el5, q10, cut_bd0 el5, q7, cut_len el4, q8, cut_cap el4 (H.slCap 1 rfl).1, trivial⟩, fun a hE => ?_⟩
            refine WQ.eff (j := 0) (obs := [.p (rebase sb2 sc2 (Int.toNat s1) 1 = sb10), .p (out.length - (Int.toNat s1) = l5.length), .p (sc2 - (Int.toNat s1) = sc10), .p (0 ≤ (s1 : Int) ∧ (s1 : Int) ≤ ((out.length : Nat) : Int)), .p (rebase sb2 sc2 0 1 = sb9), .p ((Int.toNat s1) - 0 = l4.length), .p (sc2 - 0 = sc9), .p (0 ≤ (s1 : Int) ∧ (s1 : Int) ≤ ((sc2 : Nat) : Int))]) hE (by kernel_rfl) rfl rfl rfl rfl (by kernel_rfl) (OpTo.buildSl (T := 3) hE H ecI_ok ([] : List Int) rfl (fun _ => by kernel_rfl) rfl rfl rfl) ?_
            rintro _ w ⟨r6, rfl, H⟩
            refine ⟨⟨q9, cut_len el5, q10, cut_bd0 el5, q7, cut_len el4, q8, cut_cap el4 (H.slCap 2 rfl).1, trivial⟩, fun a hE => ?_⟩
            refine WQ.eff (j := 4) (obs := [.p (rebase sb2 sc2 (Int.toNat s1) 1 = sb10), .p (out.length - (Int.toNat s1) = l5.length), .p (sc2 - (Int.toNat s1) = sc10), .p (0 ≤ (s1 : Int) ∧ (s1 : Int) ≤ ((out.length : Nat) : Int))]) hE (by kernel_rfl) rfl rfl rfl rfl (by kernel_rfl) (OpTo.appendM el6 hE H ecI_ok rfl rfl rfl rfl rfl rfl rfl rfl rfl rfl (SlRd.all ((sl_rd 3 ecI 1 _ _ _).cut' ecI_ok el4 ((H.slCap 2 rfl).1) q7) ecI_ok H 2 rfl) rfl) ?_
            rintro _ w ⟨sb17, sc17, rfl, H⟩
            refine ⟨⟨q9, cut_len el5, q10, cut_bd0 el5, trivial⟩, fun a hE => ?_⟩
            refine WQ.eff (j := 11) (obs := [.p (rebase sb2 sc2 (Int.toNat s1) 1 = sb10), .p (out.length - (Int.toNat s1) = l5.length), .p (sc2 - (Int.toNat s1) = sc10), .p (0 ≤ (s1 : Int) ∧ (s1 : Int) ≤ ((out.length : Nat) : Int))]) hE (by kernel_rfl) rfl rfl rfl rfl (by kernel_rfl) (OpTo.appendM el7 hE H ecI_ok rfl rfl rfl rfl rfl rfl rfl rfl rfl rfl (SlRd.all (sl_rd 3 ecI 1 _ _ _) ecI_ok H 1 rfl) rfl) ?_
            rintro _ w ⟨sb18, sc18, rfl, H⟩
            refine ⟨⟨q9, cut_len el5, q10, cut_bd0 el5, trivial⟩, fun a hE => ?_⟩
            refine WQ.eff (j := 15) (obs := []) hE (by kernel_rfl) rfl rfl rfl rfl (by kernel_rfl) (OpTo.appendM el8 hE H ecI_ok rfl rfl rfl rfl rfl rfl rfl rfl rfl rfl (SlRd.all ((sl_rd 3 ecI 1 _ _ _).cut' ecI_ok el5 ((H.slCap 2 rfl).1) q9) ecI_ok H 2 rfl) rfl) ?_
            rintro _ w ⟨sb19, sc19, rfl, H⟩
            refine ⟨trivial, fun a hE => ?_⟩
            refine WQ.seg hE [16] [] [0, 3, 4] (Lo := [(0, .slice sb_l l.length sc_l), (3, .slice sb19 l8.length sc19), (4, .int .i64 i)]) (obs := []) (by kernel_rfl) (by kernel_rfl) trivial fun a hE => ?_
            refine WQ.done (by kernel_rfl) ?_
            exact hk _ _ ⟨sb19, sc19, hE.sel [0, 3, 4] (by kernel_rfl), H.x2.x1.t1.t1⟩
        rintro a w ⟨sb8, sc8, hE, H⟩
        refine Runs.inBlock ?_
        refine Runs.region ?_
        refine WR.seg hE 3 [] [0, 3, 4] (Lo := [(0, .slice sb_l l.length sc_l), (3, .slice sb8 l8.length sc8), (4, .int .i64 (w64 (i + 1)))]) (obs := []) rfl (by kernel_rfl) trivial fun a hE => ?_
        refine WR.done rfl ?_
        exact ih m (Nat.lt_succ_self m) _ _ ⟨l8, w64 (i + 1), sb8, sc8, hE.sel [0, 3, 4] (by kernel_rfl), H.t1.t1, hm⟩
      · replace hm := cond_f c hm
        refine Runs.exit rfl ?_
        cases hm
        exact hk _ _ ⟨sb2, sc2, hE.sel [3] (by kernel_rfl), H.t1.t1⟩
  rintro a w ⟨sb1, sc1, hE, H⟩
  refine Runs.seq ?_
  refine Runs.region ?_
  refine WR.seg hE 2 [] [2] (Lo := [(2, .slice sb1 s.length sc1)]) (obs := []) rfl (by kernel_rfl) trivial fun a hE => ?_
  refine WR.done rfl ?_
  refine Runs.ret hE Tryz.func68 rfl rfl ?_
  cases hm
  exact ⟨sb1, sc1, rfl, H.t1.t1⟩

theorem thicketbook_Same_int_ok {w0 w : World} {As : List HP} {k : Nat} {sb_a_ : Option Addr} {sc_a_ : Nat} {a_ : List Int} {X_a_ : HP} {sb_b : Option Addr} {sc_b : Nat} {b : List Int} {X_b : HP} {t : Bool} (hX_a_ : SlRd X_a_ ecI 1 sb_a_ a_) (hC_a_ : a_.length ≤ sc_a_) (hX_b : SlRd X_b ecI 1 sb_b b) (hC_b : b.length ≤ sc_b) (hm : thicketbook_Same_int k a_ b = some t) (H : St w0 (X_a_ :: X_b :: As) w) :
    CallsR Tryz.prog 51 #[.slice sb_a_ a_.length sc_a_, .slice sb_b b.length sc_b] w fun v w' => v = .bool t ∧ St w0 (X_a_ :: X_b :: As) w' := by
  rw [thicketbook_Same_int] at hm
  refine enter (args := [.slice sb_a_ a_.length sc_a_, .slice sb_b b.length sc_b]) Tryz.func51 rfl rfl rfl fun a hE => ?_
  refine Runs.seq ?_
  refine Runs.region ?_
  refine WR.seg hE 1 [] [0, 1] (Lo := [(0, .slice sb_a_ a_.length sc_a_), (1, .slice sb_b b.length sc_b)]) (obs := []) rfl (by kernel_rfl) trivial fun a hE => ?_
  refine WR.done rfl ?_
  refine Runs.seq ?_
  refine Runs.seq ?_
  refine Runs.region ?_
  refine WR.seg hE 5 [] [0, 1, 10] (Lo := [(0, .slice sb_a_ a_.length sc_a_), (1, .slice sb_b b.length sc_b), (10, .bool ((a_.length : Int) != (b.length : Int)))]) (obs := []) rfl (by kernel_rfl) trivial fun a hE => ?_
  refine WR.done rfl ?_
  refine Runs.cond hE rfl (fun c => ?_) (fun c => ?_)
  · replace hm := cond_t c hm
    refine Runs.seq ?_
    refine Runs.region ?_
    refine WR.seg hE 1 [] [4] (Lo := [(4, .bool false)]) (obs := []) rfl (by kernel_rfl) trivial fun a hE => ?_
    refine WR.done rfl ?_
    refine Runs.ret hE Tryz.func51 rfl rfl ?_
    cases hm
    exact ⟨rfl, H.t1.t1⟩
  · replace hm := cond_f c hm
    refine Runs.skip ?_
    refine Runs.seq ?_
    refine Runs.seq ?_
    refine Runs.region ?_
    refine WR.seg hE 1 [] [0, 1, 5] (Lo := [(0, .slice sb_a_ a_.length sc_a_), (1, .slice sb_b b.length sc_b), (5, .int .i64 0)]) (obs := []) rfl (by kernel_rfl) trivial fun a hE => ?_
    refine WR.done rfl ?_
    obtain ⟨s, es, hR⟩ := bind_some hm
    refine Runs.join (fun a w => ∃ s1, s = Sum.inr s1 ∧ EnvOk 26 a [] ∧ St w0 (X_a_ :: X_b :: As) w) (fun hk => ?_) ?_
    · replace hm := es; clear es
      refine Runs.block ?_
      refine Runs.loop (fun m a w => ∃ (i : Int), EnvOk 26 a [(0, .slice sb_a_ a_.length sc_a_), (1, .slice sb_b b.length sc_b), (5, .int .i64 i)] ∧ St w0 (X_a_ :: X_b :: As) w ∧ thicketbook_Same_int_l0 a_ b m i = some s) k ⟨0, hE.sel [0, 1, 5] (by kernel_rfl), H.t1.t1, hm⟩ ?_
      rintro m ih a w ⟨i, hE, H, hm⟩
      cases m with
      | zero => simp [thicketbook_Same_int_l0] at hm
      | succ m =>
        rw [thicketbook_Same_int_l0] at hm
        refine Runs.seq ?_
        refine Runs.seq ?_
        refine Runs.region ?_
        refine WR.seg hE 4 [] [0, 1, 5, 14] (Lo := [(0, .slice sb_a_ a_.length sc_a_), (1, .slice sb_b b.length sc_b), (5, .int .i64 i), (14, .bool (decide (i < (a_.length : Int))))]) (obs := []) rfl (by kernel_rfl) trivial fun a hE => ?_
        refine WR.done rfl ?_
        refine Runs.cond hE rfl (fun c => ?_) (fun c => ?_)
        · replace hm := cond_t c hm
          refine Runs.skip ?_
          refine Runs.seq ?_
          refine Runs.block ?_
          refine Runs.seq ?_
          refine Runs.drawn mixed (by kernel_rfl) ?_
          replace H := H.drew
          obtain ⟨x, ex, hm⟩ := bind_some hm
          obtain ⟨b1, o, hs, hb⟩ := SlRd.base hX_a_ ecI_ok H 0 rfl ex
          obtain ⟨x1, ex1, hm⟩ := bind_some hm
          obtain ⟨b2, o1, hs1, hb1⟩ := SlRd.base hX_b ecI_ok H 1 rfl ex1
          refine WQ.seg hE [0, 1, 2, 3, 4, 5, 6, 7, 8] [.pointer (some ⟨b1, o, none⟩), .int .i64 x, .pointer (some ⟨b2, o1, none⟩), .int .i64 x1] [0, 1, 5, 25] (Lo := [(0, .slice sb_a_ a_.length sc_a_), (1, .slice sb_b b.length sc_b), (5, .int .i64 i), (25, .bool (x != x1))]) (obs := [.p ((sb_a_ : Option Addr) = some ⟨b1, o, none⟩), .p (0 ≤ (i : Int) ∧ (i : Int) < ((a_.length : Nat) : Int)), .cell ⟨b1, o + (Int.toNat i) * 1, none⟩ (.int .i64 x), .p ((sb_b : Option Addr) = some ⟨b2, o1, none⟩), .p (0 ≤ (i : Int) ∧ (i : Int) < ((b.length : Nat) : Int)), .cell ⟨b2, o1 + (Int.toNat i) * 1, none⟩ (.int .i64 x1)]) (by kernel_rfl) (by kernel_rfl) ⟨hs, hb, SlRd.cells hX_a_ ecI_ok H 0 rfl hs ex 0 _ rfl, hs1, hb1, SlRd.cells hX_b ecI_ok H 1 rfl hs1 ex1 0 _ rfl, trivial⟩ fun a hE => ?_
          refine WQ.done (by kernel_rfl) ?_
          refine Runs.cond hE rfl (fun c => ?_) (fun c => ?_)
          · replace hm := cond_t c hm
            refine Runs.seq ?_
            refine Runs.region ?_
            refine WR.seg hE 1 [] [4] (Lo := [(4, .bool false)]) (obs := []) rfl (by kernel_rfl) trivial fun a hE => ?_
            refine WR.done rfl ?_
            refine Runs.ret hE Tryz.func51 rfl rfl ?_
            cases hm
            dsimp only at hR; cases hR
            exact ⟨rfl, H.t1.t1⟩
          · replace hm := cond_f c hm
            refine Runs.skip ?_
            refine Runs.inBlock ?_
            refine Runs.region ?_
            refine WR.seg hE 3 [] [0, 1, 5] (Lo := [(0, .slice sb_a_ a_.length sc_a_), (1, .slice sb_b b.length sc_b), (5, .int .i64 (w64 (i + 1)))]) (obs := []) rfl (by kernel_rfl) trivial fun a hE => ?_
            refine WR.done rfl ?_
            exact ih m (Nat.lt_succ_self m) _ _ ⟨w64 (i + 1), hE.sel [0, 1, 5] (by kernel_rfl), H.t1.t1, hm⟩
        · replace hm := cond_f c hm
          refine Runs.exit rfl ?_
          cases hm
          exact hk _ _ ⟨_, rfl, hE.sel [] (by kernel_rfl), H.t1.t1⟩
    rintro a w ⟨s1, rfl, hE, H⟩
    replace hm := hR; dsimp only at hm
    refine Runs.seq ?_
    refine Runs.region ?_
    refine WR.seg hE 1 [] [4] (Lo := [(4, .bool true)]) (obs := []) rfl (by kernel_rfl) trivial fun a hE => ?_
    refine WR.done rfl ?_
    refine Runs.ret hE Tryz.func51 rfl rfl ?_
    cases hm
    exact ⟨rfl, H.t1.t1⟩

theorem thicketlaw9_world_node_at0_ok {w0 w : World} {As : List HP} {k : Nat} {p_w_ : Nat} {al_w_ : thicketlaw9_world.A} {w_ : thicketlaw9_world} {n : Int} {t : thicketlaw9_held × Bool × thicketlaw9_world}  (hm : thicketlaw9_world_node_at0 k w_ n = some t) (H : St w0 (thicketlaw9_world.R p_w_ al_w_ w_ :: As) w) :
    CallsR Tryz.prog 159 #[.pointer (some ⟨p_w_, 0, none⟩), .int .i64 0, .int .i64 n] w fun v w' => v = .tuple #[.agg #[.int .i64 t.1.cell, .int .i64 t.1.e.Key, .int .i64 t.1.e.Serial], .bool t.2.1] ∧ St w0 (thicketlaw9_world.R p_w_ al_w_ t.2.2 :: As) w' := by
  rw [thicketlaw9_world_node_at0] at hm
  refine enter (args := [.pointer (some ⟨p_w_, 0, none⟩), .int .i64 0, .int .i64 n]) Tryz.func159 rfl rfl rfl fun a hE => ?_
  refine Runs.seq ?_
  refine Runs.region ?_
  refine WR.eff hE rfl rfl rfl rfl (OpTo.new hE H [] (.cells #[.int .i64 0, .int .i64 0, .int .i64 0] 58 (0, 0)) (fun r => .pointer (some ⟨r, 0, none⟩)) (obs := []) rfl (fun _ => by kernel_rfl) trivial) ?_
  rintro _ w ⟨r, rfl, H⟩ a hE
  refine WR.seg hE 2 [] [0, 1, 2, 6] (Lo := [(0, .pointer (some ⟨p_w_, 0, none⟩)), (1, .int .i64 0), (2, .int .i64 n), (6, .pointer (some ⟨r, 0, none⟩))]) (obs := []) rfl (by kernel_rfl) trivial fun a hE => ?_
  refine WR.done rfl ?_
  refine Runs.seq ?_
  refine Runs.region ?_
  replace H := thicketlaw9_world.open H.t1
  refine WR.seg hE 5 [.pointer (some ⟨al_w_.a__p, 0, none⟩)] [0, 1, 2, 6, 14, 15] (Lo := [(0, .pointer (some ⟨p_w_, 0, none⟩)), (1, .int .i64 0), (2, .int .i64 n), (6, .pointer (some ⟨r, 0, none⟩)), (14, .pointer (some ⟨al_w_.a__p, 0, none⟩)), (15, .int .i64 n)]) (obs := [.cell ⟨p_w_, 0, none⟩ (.pointer (some ⟨al_w_.a__p, 0, none⟩))]) rfl (by kernel_rfl) ⟨H.cell 0 rfl rfl, trivial⟩ fun a hE => ?_
  obtain ⟨t_, et_, hm⟩ := bind_some hm
  refine WR.eff hE rfl rfl rfl rfl (OpTo.fn hE rfl rfl Tryz.call73 (arena_Arena_Cell_ok et_ H.t1)) ?_
  rintro _ w ⟨rfl, H⟩ a hE
  refine WR.seg hE 7 [] [0, 1, 2, 6, 8] (Lo := [(0, .pointer (some ⟨p_w_, 0, none⟩)), (1, .int .i64 0), (2, .int .i64 n), (6, .pointer (some ⟨r, 0, none⟩)), (8, .int .i64 t_.1)]) (obs := []) rfl (by kernel_rfl) trivial fun a hE => ?_
  refine WR.done rfl ?_
  refine Runs.seq ?_
  refine Runs.seq ?_
  refine Runs.region ?_
  refine WR.seg hE 1 [] [0, 1, 2, 6, 8, 9] (Lo := [(0, .pointer (some ⟨p_w_, 0, none⟩)), (1, .int .i64 0), (2, .int .i64 n), (6, .pointer (some ⟨r, 0, none⟩)), (8, .int .i64 t_.1), (9, .int .i64 0)]) (obs := []) rfl (by kernel_rfl) trivial fun a hE => ?_
  refine WR.done rfl ?_
  replace H := thicketlaw9_world.shut al_w_ (thicketlaw9_world.mk t_.2 w_.root0 w_.root1 w_.has0 w_.has1 w_.next w_.spent w_.most) H.t3.t3.t2.t3
  obtain ⟨s, es, hR⟩ := bind_some hm
  refine Runs.join (fun a w => ∃ s1, s = Sum.inr s1 ∧ EnvOk 62 a [(6, .pointer (some ⟨r, 0, none⟩))] ∧ St w0 (thicketlaw9_world.R p_w_ al_w_ (thicketlaw9_world.mk t_.2 w_.root0 w_.root1 w_.has0 w_.has1 w_.next w_.spent w_.most) :: Blk r 58 [.int .i64 0, .int .i64 0, .int .i64 0] :: As) w) (fun hk => ?_) ?_
  · replace hm := es; clear es
    refine Runs.block ?_
    refine Runs.loop (fun m a w => ∃ (k_ : Int), EnvOk 62 a [(0, .pointer (some ⟨p_w_, 0, none⟩)), (1, .int .i64 0), (2, .int .i64 n), (6, .pointer (some ⟨r, 0, none⟩)), (8, .int .i64 t_.1), (9, .int .i64 k_)] ∧ St w0 (thicketlaw9_world.R p_w_ al_w_ (thicketlaw9_world.mk t_.2 w_.root0 w_.root1 w_.has0 w_.has1 w_.next w_.spent w_.most) :: Blk r 58 [.int .i64 0, .int .i64 0, .int .i64 0] :: As) w ∧ thicketlaw9_world_node_at0_l0 n t_.1 (thicketlaw9_world.mk t_.2 w_.root0 w_.root1 w_.has0 w_.has1 w_.next w_.spent w_.most) m k_ = some s) k ⟨0, hE.sel [0, 1, 2, 6, 8, 9] (by kernel_rfl), H.t1.t1, hm⟩ ?_
    rintro m ih a w ⟨k_, hE, H, hm⟩
    cases m with
    | zero => simp [thicketlaw9_world_node_at0_l0] at hm
    | succ m =>
      rw [thicketlaw9_world_node_at0_l0] at hm
      refine Runs.seq ?_
      refine Runs.seq ?_
      refine Runs.region ?_
      replace H := thicketlaw9_world.open H
      try dsimp only at H
      refine WR.seg hE 9 [.slice al_w_.has0_b w_.has0.length al_w_.has0_c] [0, 1, 2, 6, 8, 9, 25] (Lo := [(0, .pointer (some ⟨p_w_, 0, none⟩)), (1, .int .i64 0), (2, .int .i64 n), (6, .pointer (some ⟨r, 0, none⟩)), (8, .int .i64 t_.1), (9, .int .i64 k_), (25, .bool (decide (k_ < (w_.has0.length : Int))))]) (obs := [.p (0 ≤ (0 : Int) ∧ (0 : Int) < ((2 : Nat) : Int)), .cell ⟨p_w_, 3, none⟩ (.slice al_w_.has0_b w_.has0.length al_w_.has0_c)]) rfl (by kernel_rfl) ⟨⟨by decide, by decide⟩, H.cell 0 rfl rfl, trivial⟩ fun a hE => ?_
      refine WR.done rfl ?_
      refine Runs.cond hE rfl (fun c => ?_) (fun c => ?_)
      · replace hm := cond_t c hm
        refine Runs.skip ?_
        refine Runs.seq ?_
        refine Runs.block ?_
        refine Runs.seq ?_
        refine Runs.region ?_
        obtain ⟨x, ex, hm⟩ := bind_some hm
        obtain ⟨b, o, hs, hb⟩ := SlRd.base (sl_rd 58 thicketlaw9_held.enc 3 _ _ _) thicketlaw9_held.enc_ok H 2 rfl ex
        refine WR.seg hE 9 [.slice al_w_.has0_b w_.has0.length al_w_.has0_c, .pointer (some ⟨b, o, none⟩), .int .i64 x.cell, .int .i64 x.e.Key, .int .i64 x.e.Serial] [0, 1, 2, 6, 8, 9, 36] (Lo := [(0, .pointer (some ⟨p_w_, 0, none⟩)), (1, .int .i64 0), (2, .int .i64 n), (6, .pointer (some ⟨r, 0, none⟩)), (8, .int .i64 t_.1), (9, .int .i64 k_), (36, .agg #[.int .i64 x.cell, .int .i64 x.e.Key, .int .i64 x.e.Serial])]) (obs := [.p (0 ≤ (0 : Int) ∧ (0 : Int) < ((2 : Nat) : Int)), .cell ⟨p_w_, 3, none⟩ (.slice al_w_.has0_b w_.has0.length al_w_.has0_c), .p ((al_w_.has0_b : Option Addr) = some ⟨b, o, none⟩), .p (0 ≤ (k_ : Int) ∧ (k_ : Int) < ((w_.has0.length : Nat) : Int)), .cell ⟨b, o + (Int.toNat k_) * 3, none⟩ (.int .i64 x.cell), .cell ⟨b, o + (Int.toNat k_) * 3 + 1, none⟩ (.int .i64 x.e.Key), .cell ⟨b, o + (Int.toNat k_) * 3 + 2, none⟩ (.int .i64 x.e.Serial)]) rfl (by kernel_rfl) ⟨⟨by decide, by decide⟩, H.cell 0 rfl rfl, hs, hb, SlRd.cells (sl_rd 58 thicketlaw9_held.enc 3 _ _ _) thicketlaw9_held.enc_ok H 2 rfl hs ex 0 _ rfl, SlRd.cells (sl_rd 58 thicketlaw9_held.enc 3 _ _ _) thicketlaw9_held.enc_ok H 2 rfl hs ex 1 _ rfl, SlRd.cells (sl_rd 58 thicketlaw9_held.enc 3 _ _ _) thicketlaw9_held.enc_ok H 2 rfl hs ex 2 _ rfl, trivial⟩ fun a hE => ?_
        refine WR.eff hE rfl rfl rfl rfl (OpTo.new hE H [] (.cells #[.int .i64 0, .int .i64 0, .int .i64 0] 58 (0, 0)) (fun r => .pointer (some ⟨r, 0, none⟩)) (obs := []) rfl (fun _ => by kernel_rfl) trivial) ?_
        rintro _ w ⟨r1, rfl, H⟩ a hE
        refine WR.eff0 hE rfl rfl rfl (OpTo.store hE H rfl rfl rfl rfl rfl rfl (Nat.le_of_ble_eq_true rfl)) ?_
        rintro _ w H a hE
        refine WR.done rfl ?_
        refine Runs.seq ?_
        refine Runs.region ?_
        refine WR.seg hE 4 [.int .i64 x.cell] [0, 1, 2, 6, 8, 9, 10, 40] (Lo := [(0, .pointer (some ⟨p_w_, 0, none⟩)), (1, .int .i64 0), (2, .int .i64 n), (6, .pointer (some ⟨r, 0, none⟩)), (8, .int .i64 t_.1), (9, .int .i64 k_), (10, .pointer (some ⟨r1, 0, none⟩)), (40, .bool (x.cell == t_.1))]) (obs := [.cell ⟨r1, 0, none⟩ (.int .i64 x.cell)]) rfl (by kernel_rfl) ⟨H.cell 0 rfl rfl, trivial⟩ fun a hE => ?_
        refine WR.done rfl ?_
        refine Runs.cond hE rfl (fun c => ?_) (fun c => ?_)
        · replace hm := cond_t c hm
          refine Runs.seq ?_
          replace H := thicketlaw9_world.shut al_w_ (thicketlaw9_world.mk t_.2 w_.root0 w_.root1 w_.has0 w_.has1 w_.next w_.spent w_.most) H.t4.t4.t4.t4
          obtain ⟨s2, es2, hm⟩ := bind_some hm
          refine Runs.join (fun a w => EnvOk 62 a [(6, .pointer (some ⟨r, 0, none⟩)), (7, .bool s2.1)] ∧ St w0 (thicketlaw9_world.R p_w_ al_w_ s2.2.1 :: Blk r 58 [.int .i64 s2.2.2.1, .int .i64 s2.2.2.2.1, .int .i64 s2.2.2.2.2] :: As) w) (fun hk => ?_) ?_
          · replace hm := es2; clear es2
            refine Runs.drawn mixed (by kernel_rfl) ?_
            replace H := H.drew
            replace H := thicketlaw9_world.open H
            try dsimp only at H
            refine WQ.seg hE [0, 1, 2, 3, 4, 5, 7] [.int .i64 x.cell, .int .i64 x.e.Key, .int .i64 x.e.Serial, .pointer (some ⟨al_w_.a__p, 0, none⟩)] [0, 6, 8, 10, 41, 45, 46, 48] (Lo := [(0, .pointer (some ⟨p_w_, 0, none⟩)), (6, .pointer (some ⟨r, 0, none⟩)), (8, .int .i64 t_.1), (10, .pointer (some ⟨r1, 0, none⟩)), (41, .agg #[.int .i64 x.cell, .int .i64 x.e.Key, .int .i64 x.e.Serial]), (45, .pointer (some ⟨al_w_.a__p, 0, none⟩)), (46, .int .i64 t_.1), (48, .int .i64 n)]) (obs := [.cell ⟨r1, 0, none⟩ (.int .i64 x.cell), .cell ⟨r1, 1, none⟩ (.int .i64 x.e.Key), .cell ⟨r1, 2, none⟩ (.int .i64 x.e.Serial), .cell ⟨p_w_, 0, none⟩ (.pointer (some ⟨al_w_.a__p, 0, none⟩))]) (by kernel_rfl) (by kernel_rfl) ⟨H.cell 4 rfl rfl, H.cell 4 rfl rfl, H.cell 4 rfl rfl, H.cell 0 rfl rfl, trivial⟩ fun a hE => ?_
            obtain ⟨t_1, et_1, hm⟩ := bind_some hm
            refine WQ.eff (j := 6) (obs := [.cell ⟨r1, 0, none⟩ (.int .i64 x.cell), .cell ⟨r1, 1, none⟩ (.int .i64 x.e.Key), .cell ⟨r1, 2, none⟩ (.int .i64 x.e.Serial)]) hE (by kernel_rfl) rfl rfl rfl rfl (by kernel_rfl) (OpTo.fn hE rfl rfl Tryz.call73 (arena_Arena_Cell_ok et_1 H.t1)) ?_
            rintro _ w ⟨rfl, H⟩
            refine ⟨⟨H.cell 4 rfl rfl, H.cell 4 rfl rfl, H.cell 4 rfl rfl, trivial⟩, fun a hE => ?_⟩
            refine WQ.seg hE [8, 9] [] [0, 6, 8, 10, 41, 50] (Lo := [(0, .pointer (some ⟨p_w_, 0, none⟩)), (6, .pointer (some ⟨r, 0, none⟩)), (8, .int .i64 t_.1), (10, .pointer (some ⟨r1, 0, none⟩)), (41, .agg #[.int .i64 x.cell, .int .i64 x.e.Key, .int .i64 x.e.Serial]), (50, .bool (t_1.1 == n))]) (obs := []) (by kernel_rfl) (by kernel_rfl) trivial fun a hE => ?_
            rcases Bool.eq_false_or_eq_true (t_1.1 == n) with c | c
            · replace hE := hE.dec 50 c (by kernel_rfl)
              replace hm := cond_t c hm
              have c_ := c
              refine WQ.seg hE [10, 11, 12, 13, 14, 16, 17] [.pointer (some ⟨al_w_.a__p, 0, none⟩), .int .i64 x.e.Key, .int .i64 x.e.Serial] [6, 41, 50, 54, 55, 58] (Lo := [(6, .pointer (some ⟨r, 0, none⟩)), (41, .agg #[.int .i64 x.cell, .int .i64 x.e.Key, .int .i64 x.e.Serial]), (50, .bool true), (54, .pointer (some ⟨al_w_.a__p, 0, none⟩)), (55, .int .i64 t_.1), (58, .agg #[.int .i64 x.e.Key, .int .i64 x.e.Serial])]) (obs := [.cell ⟨p_w_, 0, none⟩ (.pointer (some ⟨al_w_.a__p, 0, none⟩)), .cell ⟨r1, 1, none⟩ (.int .i64 x.e.Key), .cell ⟨r1, 2, none⟩ (.int .i64 x.e.Serial)]) (by kernel_rfl) (by kernel_rfl) ⟨H.cell 1 rfl rfl, H.cell 4 rfl rfl, H.cell 4 rfl rfl, trivial⟩ fun a hE => ?_
              obtain ⟨t_2, et_2, hm⟩ := bind_some hm
              refine WQ.eff (j := 15) (obs := [.cell ⟨r1, 1, none⟩ (.int .i64 x.e.Key), .cell ⟨r1, 2, none⟩ (.int .i64 x.e.Serial), .cell ⟨r1, 0, none⟩ (.int .i64 x.cell), .cell ⟨r1, 1, none⟩ (.int .i64 x.e.Key), .cell ⟨r1, 2, none⟩ (.int .i64 x.e.Serial)]) hE (by kernel_rfl) rfl rfl rfl rfl (by kernel_rfl) (OpTo.fn hE rfl rfl Tryz.call23 (item_Entry_ok et_2 H)) ?_
              rintro _ w ⟨rfl, hf1, hf, H⟩
              refine ⟨⟨H.cell 4 rfl rfl, H.cell 4 rfl rfl, H.cell 4 rfl rfl, H.cell 4 rfl rfl, H.cell 4 rfl rfl, trivial⟩, fun a hE => ?_⟩
              refine WQ.act2 18 20 (by kernel_rfl) ?_ ?_
              ·
                refine AQ.eff (j := 18) (obs := [.cell ⟨r1, 0, none⟩ (.int .i64 x.cell), .cell ⟨r1, 1, none⟩ (.int .i64 x.e.Key), .cell ⟨r1, 2, none⟩ (.int .i64 x.e.Serial)]) hE rfl rfl rfl rfl (by kernel_rfl) (OpTo.eqS hE rfl rfl rfl (by kernel_rfl) (api_Entry.eq_run t_2.1 x.e)) ?_
                rintro _ _ ⟨rfl, rfl⟩
                refine ⟨⟨H.cell 4 rfl rfl, H.cell 4 rfl rfl, H.cell 4 rfl rfl, trivial⟩, fun a hE => ?_⟩
                refine WQ.seg hE [19] [] [6, 41, 60] (Lo := [(6, .pointer (some ⟨r, 0, none⟩)), (41, .agg #[.int .i64 x.cell, .int .i64 x.e.Key, .int .i64 x.e.Serial]), (60, .bool (api_Entry.eq t_2.1 x.e))]) (obs := []) (by kernel_rfl) (by kernel_rfl) trivial fun a hE => ?_
                refine WQ.eff0 (j := 20) (obs := []) hE (by kernel_rfl) rfl rfl rfl (by kernel_rfl) (OpTo.store hE H.t5 rfl rfl rfl rfl rfl rfl (Nat.le_of_ble_eq_true rfl)) ?_
                rintro _ w H
                refine ⟨trivial, fun a hE => ?_⟩
                refine WQ.seg hE [21] [] [6, 7] (Lo := [(6, .pointer (some ⟨r, 0, none⟩)), (7, .bool (api_Entry.eq t_2.1 x.e))]) (obs := []) (by kernel_rfl) (by kernel_rfl) trivial fun a hE => ?_
                refine WQ.done (by kernel_rfl) ?_
                replace H := thicketlaw9_world.shut al_w_ (thicketlaw9_world.mk t_2.2 w_.root0 w_.root1 w_.has0 w_.has1 w_.next w_.spent w_.most) H.t4.t4.t3.t4
                cases hm
                exact hk _ _ ⟨hE.sel [6, 7] (by kernel_rfl), H.x2.t1.t1⟩
              ·
                refine AQ.eff0 (j := 20) (obs := [.cell ⟨r1, 1, none⟩ (.int .i64 x.e.Key), .cell ⟨r1, 2, none⟩ (.int .i64 x.e.Serial)]) hE rfl rfl rfl (by kernel_rfl) (OpTo.store hE H.t5 rfl rfl rfl rfl rfl rfl (Nat.le_of_ble_eq_true rfl)) ?_
                rintro _ w H
                refine ⟨⟨H.cell 5 rfl rfl, H.cell 5 rfl rfl, trivial⟩, fun a hE => ?_⟩
                refine WQ.eff (j := 18) (obs := []) hE (by kernel_rfl) rfl rfl rfl rfl (by kernel_rfl) (OpTo.eqS hE rfl rfl rfl (by kernel_rfl) (api_Entry.eq_run t_2.1 x.e)) ?_
                rintro _ _ ⟨rfl, rfl⟩
                refine ⟨trivial, fun a hE => ?_⟩
                refine WQ.seg hE [19, 21] [] [6, 7] (Lo := [(6, .pointer (some ⟨r, 0, none⟩)), (7, .bool (api_Entry.eq t_2.1 x.e))]) (obs := []) (by kernel_rfl) (by kernel_rfl) trivial fun a hE => ?_
                refine WQ.done (by kernel_rfl) ?_
                replace H := thicketlaw9_world.shut al_w_ (thicketlaw9_world.mk t_2.2 w_.root0 w_.root1 w_.has0 w_.has1 w_.next w_.spent w_.most) H.t4.t4.t3.t4
                cases hm
                exact hk _ _ ⟨hE.sel [6, 7] (by kernel_rfl), H.x2.t1.t1⟩
            · replace hE := hE.dec 50 c (by kernel_rfl)
              replace hm := cond_f c hm
              have c_1 := c
              refine WQ.seg hE [10, 11, 12, 13, 14, 15, 16, 17, 18, 19] [] [6, 41, 60] (Lo := [(6, .pointer (some ⟨r, 0, none⟩)), (41, .agg #[.int .i64 x.cell, .int .i64 x.e.Key, .int .i64 x.e.Serial]), (60, .bool false)]) (obs := []) (by kernel_rfl) (by kernel_rfl) trivial fun a hE => ?_
              refine WQ.eff0 (j := 20) (obs := []) hE (by kernel_rfl) rfl rfl rfl (by kernel_rfl) (OpTo.store hE H.t5 rfl rfl rfl rfl rfl rfl (Nat.le_of_ble_eq_true rfl)) ?_
              rintro _ w H
              refine ⟨trivial, fun a hE => ?_⟩
              refine WQ.seg hE [21] [] [6, 7] (Lo := [(6, .pointer (some ⟨r, 0, none⟩)), (7, .bool false)]) (obs := []) (by kernel_rfl) (by kernel_rfl) trivial fun a hE => ?_
              refine WQ.done (by kernel_rfl) ?_
              replace H := thicketlaw9_world.shut al_w_ (thicketlaw9_world.mk t_1.2 w_.root0 w_.root1 w_.has0 w_.has1 w_.next w_.spent w_.most) H.t4.t4.t3.t4
              cases hm
              exact hk _ _ ⟨hE.sel [6, 7] (by kernel_rfl), H.x2.t1.t1⟩
          rintro a w ⟨hE, H⟩
          refine Runs.retO (vs := [.agg #[.int .i64 s2.2.2.1, .int .i64 s2.2.2.2.1, .int .i64 s2.2.2.2.2], .bool s2.1]) (obs := [.cell ⟨r, 0, none⟩ (.int .i64 s2.2.2.1), .cell ⟨r, 1, none⟩ (.int .i64 s2.2.2.2.1), .cell ⟨r, 2, none⟩ (.int .i64 s2.2.2.2.2)]) hE Tryz.func159 rfl [.int .i64 s2.2.2.1, .int .i64 s2.2.2.2.1, .int .i64 s2.2.2.2.2] (by kernel_rfl) ⟨H.cell 1 rfl rfl, H.cell 1 rfl rfl, H.cell 1 rfl rfl, trivial⟩ ?_
          cases hm
          dsimp only at hR; cases hR
          exact ⟨rfl, H.x1⟩
        · replace hm := cond_f c hm
          refine Runs.skip ?_
          refine Runs.inBlock ?_
          refine Runs.region ?_
          refine WR.seg hE 3 [] [0, 1, 2, 6, 8, 9] (Lo := [(0, .pointer (some ⟨p_w_, 0, none⟩)), (1, .int .i64 0), (2, .int .i64 n), (6, .pointer (some ⟨r, 0, none⟩)), (8, .int .i64 t_.1), (9, .int .i64 (w64 (k_ + 1)))]) (obs := []) rfl (by kernel_rfl) trivial fun a hE => ?_
          refine WR.done rfl ?_
          replace H := thicketlaw9_world.shut al_w_ (thicketlaw9_world.mk t_.2 w_.root0 w_.root1 w_.has0 w_.has1 w_.next w_.spent w_.most) H.t4.t4.t4.t4
          exact ih m (Nat.lt_succ_self m) _ _ ⟨w64 (k_ + 1), hE.sel [0, 1, 2, 6, 8, 9] (by kernel_rfl), H.x1.t1.t1, hm⟩
      · replace hm := cond_f c hm
        refine Runs.exit rfl ?_
        replace H := thicketlaw9_world.shut al_w_ (thicketlaw9_world.mk t_.2 w_.root0 w_.root1 w_.has0 w_.has1 w_.next w_.spent w_.most) H.t3.t3.t3.t3
        cases hm
        exact hk _ _ ⟨_, rfl, hE.sel [6] (by kernel_rfl), H.t1.t1⟩
  rintro a w ⟨s1, rfl, hE, H⟩
  replace hm := hR; dsimp only at hm
  refine Runs.seq ?_
  refine Runs.region ?_
  refine WR.seg hE 1 [] [6, 61] (Lo := [(6, .pointer (some ⟨r, 0, none⟩)), (61, .agg #[.int .i64 0, .int .i64 0, .int .i64 0])]) (obs := []) rfl (by kernel_rfl) trivial fun a hE => ?_
  refine WR.eff0 hE rfl rfl rfl (OpTo.store hE H.t1 rfl rfl rfl rfl rfl rfl (Nat.le_of_ble_eq_true rfl)) ?_
  rintro _ w H a hE
  refine WR.seg hE 3 [] [6, 7] (Lo := [(6, .pointer (some ⟨r, 0, none⟩)), (7, .bool false)]) (obs := []) rfl (by kernel_rfl) trivial fun a hE => ?_
  refine WR.done rfl ?_
  refine Runs.retO (vs := [.agg #[.int .i64 0, .int .i64 0, .int .i64 0], .bool false]) (obs := [.cell ⟨r, 0, none⟩ (.int .i64 0), .cell ⟨r, 1, none⟩ (.int .i64 0), .cell ⟨r, 2, none⟩ (.int .i64 0)]) hE Tryz.func159 rfl [.int .i64 0, .int .i64 0, .int .i64 0] (by kernel_rfl) ⟨H.cell 0 rfl rfl, H.cell 0 rfl rfl, H.cell 0 rfl rfl, trivial⟩ ?_
  cases hm
  exact ⟨rfl, H.x0⟩

theorem thicketlaw9_world_node_at1_ok {w0 w : World} {As : List HP} {k : Nat} {p_w_ : Nat} {al_w_ : thicketlaw9_world.A} {w_ : thicketlaw9_world} {n : Int} {t : thicketlaw9_held × Bool × thicketlaw9_world}  (hm : thicketlaw9_world_node_at1 k w_ n = some t) (H : St w0 (thicketlaw9_world.R p_w_ al_w_ w_ :: As) w) :
    CallsR Tryz.prog 159 #[.pointer (some ⟨p_w_, 0, none⟩), .int .i64 1, .int .i64 n] w fun v w' => v = .tuple #[.agg #[.int .i64 t.1.cell, .int .i64 t.1.e.Key, .int .i64 t.1.e.Serial], .bool t.2.1] ∧ St w0 (thicketlaw9_world.R p_w_ al_w_ t.2.2 :: As) w' := by
  rw [thicketlaw9_world_node_at1] at hm
  refine enter (args := [.pointer (some ⟨p_w_, 0, none⟩), .int .i64 1, .int .i64 n]) Tryz.func159 rfl rfl rfl fun a hE => ?_
  refine Runs.seq ?_
  refine Runs.region ?_
  refine WR.eff hE rfl rfl rfl rfl (OpTo.new hE H [] (.cells #[.int .i64 0, .int .i64 0, .int .i64 0] 58 (0, 0)) (fun r => .pointer (some ⟨r, 0, none⟩)) (obs := []) rfl (fun _ => by kernel_rfl) trivial) ?_
  rintro _ w ⟨r, rfl, H⟩ a hE
  refine WR.seg hE 2 [] [0, 1, 2, 6] (Lo := [(0, .pointer (some ⟨p_w_, 0, none⟩)), (1, .int .i64 1), (2, .int .i64 n), (6, .pointer (some ⟨r, 0, none⟩))]) (obs := []) rfl (by kernel_rfl) trivial fun a hE => ?_
  refine WR.done rfl ?_
  refine Runs.seq ?_
  refine Runs.region ?_
  replace H := thicketlaw9_world.open H.t1
  refine WR.seg hE 5 [.pointer (some ⟨al_w_.a__p, 0, none⟩)] [0, 1, 2, 6, 14, 15] (Lo := [(0, .pointer (some ⟨p_w_, 0, none⟩)), (1, .int .i64 1), (2, .int .i64 n), (6, .pointer (some ⟨r, 0, none⟩)), (14, .pointer (some ⟨al_w_.a__p, 0, none⟩)), (15, .int .i64 n)]) (obs := [.cell ⟨p_w_, 0, none⟩ (.pointer (some ⟨al_w_.a__p, 0, none⟩))]) rfl (by kernel_rfl) ⟨H.cell 0 rfl rfl, trivial⟩ fun a hE => ?_
  obtain ⟨t_, et_, hm⟩ := bind_some hm
  refine WR.eff hE rfl rfl rfl rfl (OpTo.fn hE rfl rfl Tryz.call73 (arena_Arena_Cell_ok et_ H.t1)) ?_
  rintro _ w ⟨rfl, H⟩ a hE
  refine WR.seg hE 7 [] [0, 1, 2, 6, 8] (Lo := [(0, .pointer (some ⟨p_w_, 0, none⟩)), (1, .int .i64 1), (2, .int .i64 n), (6, .pointer (some ⟨r, 0, none⟩)), (8, .int .i64 t_.1)]) (obs := []) rfl (by kernel_rfl) trivial fun a hE => ?_
  refine WR.done rfl ?_
  refine Runs.seq ?_
  refine Runs.seq ?_
  refine Runs.region ?_
  refine WR.seg hE 1 [] [0, 1, 2, 6, 8, 9] (Lo := [(0, .pointer (some ⟨p_w_, 0, none⟩)), (1, .int .i64 1), (2, .int .i64 n), (6, .pointer (some ⟨r, 0, none⟩)), (8, .int .i64 t_.1), (9, .int .i64 0)]) (obs := []) rfl (by kernel_rfl) trivial fun a hE => ?_
  refine WR.done rfl ?_
  replace H := thicketlaw9_world.shut al_w_ (thicketlaw9_world.mk t_.2 w_.root0 w_.root1 w_.has0 w_.has1 w_.next w_.spent w_.most) H.t3.t3.t2.t3
  obtain ⟨s, es, hR⟩ := bind_some hm
  refine Runs.join (fun a w => ∃ s1, s = Sum.inr s1 ∧ EnvOk 62 a [(6, .pointer (some ⟨r, 0, none⟩))] ∧ St w0 (thicketlaw9_world.R p_w_ al_w_ (thicketlaw9_world.mk t_.2 w_.root0 w_.root1 w_.has0 w_.has1 w_.next w_.spent w_.most) :: Blk r 58 [.int .i64 0, .int .i64 0, .int .i64 0] :: As) w) (fun hk => ?_) ?_
  · replace hm := es; clear es
    refine Runs.block ?_
    refine Runs.loop (fun m a w => ∃ (k_ : Int), EnvOk 62 a [(0, .pointer (some ⟨p_w_, 0, none⟩)), (1, .int .i64 1), (2, .int .i64 n), (6, .pointer (some ⟨r, 0, none⟩)), (8, .int .i64 t_.1), (9, .int .i64 k_)] ∧ St w0 (thicketlaw9_world.R p_w_ al_w_ (thicketlaw9_world.mk t_.2 w_.root0 w_.root1 w_.has0 w_.has1 w_.next w_.spent w_.most) :: Blk r 58 [.int .i64 0, .int .i64 0, .int .i64 0] :: As) w ∧ thicketlaw9_world_node_at1_l0 n t_.1 (thicketlaw9_world.mk t_.2 w_.root0 w_.root1 w_.has0 w_.has1 w_.next w_.spent w_.most) m k_ = some s) k ⟨0, hE.sel [0, 1, 2, 6, 8, 9] (by kernel_rfl), H.t1.t1, hm⟩ ?_
    rintro m ih a w ⟨k_, hE, H, hm⟩
    cases m with
    | zero => simp [thicketlaw9_world_node_at1_l0] at hm
    | succ m =>
      rw [thicketlaw9_world_node_at1_l0] at hm
      refine Runs.seq ?_
      refine Runs.seq ?_
      refine Runs.region ?_
      replace H := thicketlaw9_world.open H
      try dsimp only at H
      refine WR.seg hE 9 [.slice al_w_.has1_b w_.has1.length al_w_.has1_c] [0, 1, 2, 6, 8, 9, 25] (Lo := [(0, .pointer (some ⟨p_w_, 0, none⟩)), (1, .int .i64 1), (2, .int .i64 n), (6, .pointer (some ⟨r, 0, none⟩)), (8, .int .i64 t_.1), (9, .int .i64 k_), (25, .bool (decide (k_ < (w_.has1.length : Int))))]) (obs := [.p (0 ≤ (1 : Int) ∧ (1 : Int) < ((2 : Nat) : Int)), .cell ⟨p_w_, 4, none⟩ (.slice al_w_.has1_b w_.has1.length al_w_.has1_c)]) rfl (by kernel_rfl) ⟨⟨by decide, by decide⟩, H.cell 0 rfl rfl, trivial⟩ fun a hE => ?_
      refine WR.done rfl ?_
      refine Runs.cond hE rfl (fun c => ?_) (fun c => ?_)
      · replace hm := cond_t c hm
        refine Runs.skip ?_
        refine Runs.seq ?_
        refine Runs.block ?_
        refine Runs.seq ?_
        refine Runs.region ?_
        obtain ⟨x, ex, hm⟩ := bind_some hm
        obtain ⟨b, o, hs, hb⟩ := SlRd.base (sl_rd 58 thicketlaw9_held.enc 3 _ _ _) thicketlaw9_held.enc_ok H 3 rfl ex
        refine WR.seg hE 9 [.slice al_w_.has1_b w_.has1.length al_w_.has1_c, .pointer (some ⟨b, o, none⟩), .int .i64 x.cell, .int .i64 x.e.Key, .int .i64 x.e.Serial] [0, 1, 2, 6, 8, 9, 36] (Lo := [(0, .pointer (some ⟨p_w_, 0, none⟩)), (1, .int .i64 1), (2, .int .i64 n), (6, .pointer (some ⟨r, 0, none⟩)), (8, .int .i64 t_.1), (9, .int .i64 k_), (36, .agg #[.int .i64 x.cell, .int .i64 x.e.Key, .int .i64 x.e.Serial])]) (obs := [.p (0 ≤ (1 : Int) ∧ (1 : Int) < ((2 : Nat) : Int)), .cell ⟨p_w_, 4, none⟩ (.slice al_w_.has1_b w_.has1.length al_w_.has1_c), .p ((al_w_.has1_b : Option Addr) = some ⟨b, o, none⟩), .p (0 ≤ (k_ : Int) ∧ (k_ : Int) < ((w_.has1.length : Nat) : Int)), .cell ⟨b, o + (Int.toNat k_) * 3, none⟩ (.int .i64 x.cell), .cell ⟨b, o + (Int.toNat k_) * 3 + 1, none⟩ (.int .i64 x.e.Key), .cell ⟨b, o + (Int.toNat k_) * 3 + 2, none⟩ (.int .i64 x.e.Serial)]) rfl (by kernel_rfl) ⟨⟨by decide, by decide⟩, H.cell 0 rfl rfl, hs, hb, SlRd.cells (sl_rd 58 thicketlaw9_held.enc 3 _ _ _) thicketlaw9_held.enc_ok H 3 rfl hs ex 0 _ rfl, SlRd.cells (sl_rd 58 thicketlaw9_held.enc 3 _ _ _) thicketlaw9_held.enc_ok H 3 rfl hs ex 1 _ rfl, SlRd.cells (sl_rd 58 thicketlaw9_held.enc 3 _ _ _) thicketlaw9_held.enc_ok H 3 rfl hs ex 2 _ rfl, trivial⟩ fun a hE => ?_
        refine WR.eff hE rfl rfl rfl rfl (OpTo.new hE H [] (.cells #[.int .i64 0, .int .i64 0, .int .i64 0] 58 (0, 0)) (fun r => .pointer (some ⟨r, 0, none⟩)) (obs := []) rfl (fun _ => by kernel_rfl) trivial) ?_
        rintro _ w ⟨r1, rfl, H⟩ a hE
        refine WR.eff0 hE rfl rfl rfl (OpTo.store hE H rfl rfl rfl rfl rfl rfl (Nat.le_of_ble_eq_true rfl)) ?_
        rintro _ w H a hE
        refine WR.done rfl ?_
        refine Runs.seq ?_
        refine Runs.region ?_
        refine WR.seg hE 4 [.int .i64 x.cell] [0, 1, 2, 6, 8, 9, 10, 40] (Lo := [(0, .pointer (some ⟨p_w_, 0, none⟩)), (1, .int .i64 1), (2, .int .i64 n), (6, .pointer (some ⟨r, 0, none⟩)), (8, .int .i64 t_.1), (9, .int .i64 k_), (10, .pointer (some ⟨r1, 0, none⟩)), (40, .bool (x.cell == t_.1))]) (obs := [.cell ⟨r1, 0, none⟩ (.int .i64 x.cell)]) rfl (by kernel_rfl) ⟨H.cell 0 rfl rfl, trivial⟩ fun a hE => ?_
        refine WR.done rfl ?_
        refine Runs.cond hE rfl (fun c => ?_) (fun c => ?_)
        · replace hm := cond_t c hm
          refine Runs.seq ?_
          replace H := thicketlaw9_world.shut al_w_ (thicketlaw9_world.mk t_.2 w_.root0 w_.root1 w_.has0 w_.has1 w_.next w_.spent w_.most) H.t4.t4.t4.t4
          obtain ⟨s2, es2, hm⟩ := bind_some hm
          refine Runs.join (fun a w => EnvOk 62 a [(6, .pointer (some ⟨r, 0, none⟩)), (7, .bool s2.1)] ∧ St w0 (thicketlaw9_world.R p_w_ al_w_ s2.2.1 :: Blk r 58 [.int .i64 s2.2.2.1, .int .i64 s2.2.2.2.1, .int .i64 s2.2.2.2.2] :: As) w) (fun hk => ?_) ?_
          · replace hm := es2; clear es2
            refine Runs.drawn mixed (by kernel_rfl) ?_
            replace H := H.drew
            replace H := thicketlaw9_world.open H
            try dsimp only at H
            refine WQ.seg hE [0, 1, 2, 3, 4, 5, 7] [.int .i64 x.cell, .int .i64 x.e.Key, .int .i64 x.e.Serial, .pointer (some ⟨al_w_.a__p, 0, none⟩)] [0, 6, 8, 10, 41, 45, 46, 48] (Lo := [(0, .pointer (some ⟨p_w_, 0, none⟩)), (6, .pointer (some ⟨r, 0, none⟩)), (8, .int .i64 t_.1), (10, .pointer (some ⟨r1, 0, none⟩)), (41, .agg #[.int .i64 x.cell, .int .i64 x.e.Key, .int .i64 x.e.Serial]), (45, .pointer (some ⟨al_w_.a__p, 0, none⟩)), (46, .int .i64 t_.1), (48, .int .i64 n)]) (obs := [.cell ⟨r1, 0, none⟩ (.int .i64 x.cell), .cell ⟨r1, 1, none⟩ (.int .i64 x.e.Key), .cell ⟨r1, 2, none⟩ (.int .i64 x.e.Serial), .cell ⟨p_w_, 0, none⟩ (.pointer (some ⟨al_w_.a__p, 0, none⟩))]) (by kernel_rfl) (by kernel_rfl) ⟨H.cell 4 rfl rfl, H.cell 4 rfl rfl, H.cell 4 rfl rfl, H.cell 0 rfl rfl, trivial⟩ fun a hE => ?_
            obtain ⟨t_1, et_1, hm⟩ := bind_some hm
            refine WQ.eff (j := 6) (obs := [.cell ⟨r1, 0, none⟩ (.int .i64 x.cell), .cell ⟨r1, 1, none⟩ (.int .i64 x.e.Key), .cell ⟨r1, 2, none⟩ (.int .i64 x.e.Serial)]) hE (by kernel_rfl) rfl rfl rfl rfl (by kernel_rfl) (OpTo.fn hE rfl rfl Tryz.call73 (arena_Arena_Cell_ok et_1 H.t1)) ?_
            rintro _ w ⟨rfl, H⟩
            refine ⟨⟨H.cell 4 rfl rfl, H.cell 4 rfl rfl, H.cell 4 rfl rfl, trivial⟩, fun a hE => ?_⟩
            refine WQ.seg hE [8, 9] [] [0, 6, 8, 10, 41, 50] (Lo := [(0, .pointer (some ⟨p_w_, 0, none⟩)), (6, .pointer (some ⟨r, 0, none⟩)), (8, .int .i64 t_.1), (10, .pointer (some ⟨r1, 0, none⟩)), (41, .agg #[.int .i64 x.cell, .int .i64 x.e.Key, .int .i64 x.e.Serial]), (50, .bool (t_1.1 == n))]) (obs := []) (by kernel_rfl) (by kernel_rfl) trivial fun a hE => ?_
            rcases Bool.eq_false_or_eq_true (t_1.1 == n) with c | c
            · replace hE := hE.dec 50 c (by kernel_rfl)
              replace hm := cond_t c hm
              have c_ := c
              refine WQ.seg hE [10, 11, 12, 13, 14, 16, 17] [.pointer (some ⟨al_w_.a__p, 0, none⟩), .int .i64 x.e.Key, .int .i64 x.e.Serial] [6, 41, 50, 54, 55, 58] (Lo := [(6, .pointer (some ⟨r, 0, none⟩)), (41, .agg #[.int .i64 x.cell, .int .i64 x.e.Key, .int .i64 x.e.Serial]), (50, .bool true), (54, .pointer (some ⟨al_w_.a__p, 0, none⟩)), (55, .int .i64 t_.1), (58, .agg #[.int .i64 x.e.Key, .int .i64 x.e.Serial])]) (obs := [.cell ⟨p_w_, 0, none⟩ (.pointer (some ⟨al_w_.a__p, 0, none⟩)), .cell ⟨r1, 1, none⟩ (.int .i64 x.e.Key), .cell ⟨r1, 2, none⟩ (.int .i64 x.e.Serial)]) (by kernel_rfl) (by kernel_rfl) ⟨H.cell 1 rfl rfl, H.cell 4 rfl rfl, H.cell 4 rfl rfl, trivial⟩ fun a hE => ?_
              obtain ⟨t_2, et_2, hm⟩ := bind_some hm
              refine WQ.eff (j := 15) (obs := [.cell ⟨r1, 1, none⟩ (.int .i64 x.e.Key), .cell ⟨r1, 2, none⟩ (.int .i64 x.e.Serial), .cell ⟨r1, 0, none⟩ (.int .i64 x.cell), .cell ⟨r1, 1, none⟩ (.int .i64 x.e.Key), .cell ⟨r1, 2, none⟩ (.int .i64 x.e.Serial)]) hE (by kernel_rfl) rfl rfl rfl rfl (by kernel_rfl) (OpTo.fn hE rfl rfl Tryz.call23 (item_Entry_ok et_2 H)) ?_
              rintro _ w ⟨rfl, hf1, hf, H⟩
              refine ⟨⟨H.cell 4 rfl rfl, H.cell 4 rfl rfl, H.cell 4 rfl rfl, H.cell 4 rfl rfl, H.cell 4 rfl rfl, trivial⟩, fun a hE => ?_⟩
              refine WQ.act2 18 20 (by kernel_rfl) ?_ ?_
              ·
                refine AQ.eff (j := 18) (obs := [.cell ⟨r1, 0, none⟩ (.int .i64 x.cell), .cell ⟨r1, 1, none⟩ (.int .i64 x.e.Key), .cell ⟨r1, 2, none⟩ (.int .i64 x.e.Serial)]) hE rfl rfl rfl rfl (by kernel_rfl) (OpTo.eqS hE rfl rfl rfl (by kernel_rfl) (api_Entry.eq_run t_2.1 x.e)) ?_
                rintro _ _ ⟨rfl, rfl⟩
                refine ⟨⟨H.cell 4 rfl rfl, H.cell 4 rfl rfl, H.cell 4 rfl rfl, trivial⟩, fun a hE => ?_⟩
                refine WQ.seg hE [19] [] [6, 41, 60] (Lo := [(6, .pointer (some ⟨r, 0, none⟩)), (41, .agg #[.int .i64 x.cell, .int .i64 x.e.Key, .int .i64 x.e.Serial]), (60, .bool (api_Entry.eq t_2.1 x.e))]) (obs := []) (by kernel_rfl) (by kernel_rfl) trivial fun a hE => ?_
                refine WQ.eff0 (j := 20) (obs := []) hE (by kernel_rfl) rfl rfl rfl (by kernel_rfl) (OpTo.store hE H.t5 rfl rfl rfl rfl rfl rfl (Nat.le_of_ble_eq_true rfl)) ?_
                rintro _ w H
                refine ⟨trivial, fun a hE => ?_⟩
                refine WQ.seg hE [21] [] [6, 7] (Lo := [(6, .pointer (some ⟨r, 0, none⟩)), (7, .bool (api_Entry.eq t_2.1 x.e))]) (obs := []) (by kernel_rfl) (by kernel_rfl) trivial fun a hE => ?_
                refine WQ.done (by kernel_rfl) ?_
                replace H := thicketlaw9_world.shut al_w_ (thicketlaw9_world.mk t_2.2 w_.root0 w_.root1 w_.has0 w_.has1 w_.next w_.spent w_.most) H.t4.t4.t3.t4
                cases hm
                exact hk _ _ ⟨hE.sel [6, 7] (by kernel_rfl), H.x2.t1.t1⟩
              ·
                refine AQ.eff0 (j := 20) (obs := [.cell ⟨r1, 1, none⟩ (.int .i64 x.e.Key), .cell ⟨r1, 2, none⟩ (.int .i64 x.e.Serial)]) hE rfl rfl rfl (by kernel_rfl) (OpTo.store hE H.t5 rfl rfl rfl rfl rfl rfl (Nat.le_of_ble_eq_true rfl)) ?_
                rintro _ w H
                refine ⟨⟨H.cell 5 rfl rfl, H.cell 5 rfl rfl, trivial⟩, fun a hE => ?_⟩
                refine WQ.eff (j := 18) (obs := []) hE (by kernel_rfl) rfl rfl rfl rfl (by kernel_rfl) (OpTo.eqS hE rfl rfl rfl (by kernel_rfl) (api_Entry.eq_run t_2.1 x.e)) ?_
                rintro _ _ ⟨rfl, rfl⟩
                refine ⟨trivial, fun a hE => ?_⟩
                refine WQ.seg hE [19, 21] [] [6, 7] (Lo := [(6, .pointer (some ⟨r, 0, none⟩)), (7, .bool (api_Entry.eq t_2.1 x.e))]) (obs := []) (by kernel_rfl) (by kernel_rfl) trivial fun a hE => ?_
                refine WQ.done (by kernel_rfl) ?_
                replace H := thicketlaw9_world.shut al_w_ (thicketlaw9_world.mk t_2.2 w_.root0 w_.root1 w_.has0 w_.has1 w_.next w_.spent w_.most) H.t4.t4.t3.t4
                cases hm
                exact hk _ _ ⟨hE.sel [6, 7] (by kernel_rfl), H.x2.t1.t1⟩
            · replace hE := hE.dec 50 c (by kernel_rfl)
              replace hm := cond_f c hm
              have c_1 := c
              refine WQ.seg hE [10, 11, 12, 13, 14, 15, 16, 17, 18, 19] [] [6, 41, 60] (Lo := [(6, .pointer (some ⟨r, 0, none⟩)), (41, .agg #[.int .i64 x.cell, .int .i64 x.e.Key, .int .i64 x.e.Serial]), (60, .bool false)]) (obs := []) (by kernel_rfl) (by kernel_rfl) trivial fun a hE => ?_
              refine WQ.eff0 (j := 20) (obs := []) hE (by kernel_rfl) rfl rfl rfl (by kernel_rfl) (OpTo.store hE H.t5 rfl rfl rfl rfl rfl rfl (Nat.le_of_ble_eq_true rfl)) ?_
              rintro _ w H
              refine ⟨trivial, fun a hE => ?_⟩
              refine WQ.seg hE [21] [] [6, 7] (Lo := [(6, .pointer (some ⟨r, 0, none⟩)), (7, .bool false)]) (obs := []) (by kernel_rfl) (by kernel_rfl) trivial fun a hE => ?_
              refine WQ.done (by kernel_rfl) ?_
              replace H := thicketlaw9_world.shut al_w_ (thicketlaw9_world.mk t_1.2 w_.root0 w_.root1 w_.has0 w_.has1 w_.next w_.spent w_.most) H.t4.t4.t3.t4
              cases hm
              exact hk _ _ ⟨hE.sel [6, 7] (by kernel_rfl), H.x2.t1.t1⟩
          rintro a w ⟨hE, H⟩
          refine Runs.retO (vs := [.agg #[.int .i64 s2.2.2.1, .int .i64 s2.2.2.2.1, .int .i64 s2.2.2.2.2], .bool s2.1]) (obs := [.cell ⟨r, 0, none⟩ (.int .i64 s2.2.2.1), .cell ⟨r, 1, none⟩ (.int .i64 s2.2.2.2.1), .cell ⟨r, 2, none⟩ (.int .i64 s2.2.2.2.2)]) hE Tryz.func159 rfl [.int .i64 s2.2.2.1, .int .i64 s2.2.2.2.1, .int .i64 s2.2.2.2.2] (by kernel_rfl) ⟨H.cell 1 rfl rfl, H.cell 1 rfl rfl, H.cell 1 rfl rfl, trivial⟩ ?_
          cases hm
          dsimp only at hR; cases hR
          exact ⟨rfl, H.x1⟩
        · replace hm := cond_f c hm
          refine Runs.skip ?_
          refine Runs.inBlock ?_
          refine Runs.region ?_
          refine WR.seg hE 3 [] [0, 1, 2, 6, 8, 9] (Lo := [(0, .pointer (some ⟨p_w_, 0, none⟩)), (1, .int .i64 1), (2, .int .i64 n), (6, .pointer (some ⟨r, 0, none⟩)), (8, .int .i64 t_.1), (9, .int .i64 (w64 (k_ + 1)))]) (obs := []) rfl (by kernel_rfl) trivial fun a hE => ?_
          refine WR.done rfl ?_
          replace H := thicketlaw9_world.shut al_w_ (thicketlaw9_world.mk t_.2 w_.root0 w_.root1 w_.has0 w_.has1 w_.next w_.spent w_.most) H.t4.t4.t4.t4
          exact ih m (Nat.lt_succ_self m) _ _ ⟨w64 (k_ + 1), hE.sel [0, 1, 2, 6, 8, 9] (by kernel_rfl), H.x1.t1.t1, hm⟩
      · replace hm := cond_f c hm
        refine Runs.exit rfl ?_
        replace H := thicketlaw9_world.shut al_w_ (thicketlaw9_world.mk t_.2 w_.root0 w_.root1 w_.has0 w_.has1 w_.next w_.spent w_.most) H.t3.t3.t3.t3
        cases hm
        exact hk _ _ ⟨_, rfl, hE.sel [6] (by kernel_rfl), H.t1.t1⟩
  rintro a w ⟨s1, rfl, hE, H⟩
  replace hm := hR; dsimp only at hm
  refine Runs.seq ?_
  refine Runs.region ?_
  refine WR.seg hE 1 [] [6, 61] (Lo := [(6, .pointer (some ⟨r, 0, none⟩)), (61, .agg #[.int .i64 0, .int .i64 0, .int .i64 0])]) (obs := []) rfl (by kernel_rfl) trivial fun a hE => ?_
  refine WR.eff0 hE rfl rfl rfl (OpTo.store hE H.t1 rfl rfl rfl rfl rfl rfl (Nat.le_of_ble_eq_true rfl)) ?_
  rintro _ w H a hE
  refine WR.seg hE 3 [] [6, 7] (Lo := [(6, .pointer (some ⟨r, 0, none⟩)), (7, .bool false)]) (obs := []) rfl (by kernel_rfl) trivial fun a hE => ?_
  refine WR.done rfl ?_
  refine Runs.retO (vs := [.agg #[.int .i64 0, .int .i64 0, .int .i64 0], .bool false]) (obs := [.cell ⟨r, 0, none⟩ (.int .i64 0), .cell ⟨r, 1, none⟩ (.int .i64 0), .cell ⟨r, 2, none⟩ (.int .i64 0)]) hE Tryz.func159 rfl [.int .i64 0, .int .i64 0, .int .i64 0] (by kernel_rfl) ⟨H.cell 0 rfl rfl, H.cell 0 rfl rfl, H.cell 0 rfl rfl, trivial⟩ ?_
  cases hm
  exact ⟨rfl, H.x0⟩

theorem thicketlaw9_world_node_ok {w0 w : World} {As : List HP} {k : Nat} {p_w_ : Nat} {al_w_ : thicketlaw9_world.A} {w_ : thicketlaw9_world} {n : Int} {h_ : Int} {t : thicketlaw9_held × Bool × thicketlaw9_world}  (hm : thicketlaw9_world_node k w_ h_ n = some t) (H : St w0 (thicketlaw9_world.R p_w_ al_w_ w_ :: As) w) :
    CallsR Tryz.prog 159 #[.pointer (some ⟨p_w_, 0, none⟩), .int .i64 h_, .int .i64 n] w fun v w' => v = .tuple #[.agg #[.int .i64 t.1.cell, .int .i64 t.1.e.Key, .int .i64 t.1.e.Serial], .bool t.2.1] ∧ St w0 (thicketlaw9_world.R p_w_ al_w_ t.2.2 :: As) w' := by
  rw [thicketlaw9_world_node] at hm
  by_cases h0 : h_ = 0
  · subst h0; simp only [if_pos] at hm
    refine (thicketlaw9_world_node_at0_ok hm H).mono ?_
    rintro v w' ⟨hv, H⟩; exact ⟨hv, H⟩
  rw [if_neg h0] at hm
  by_cases h1 : h_ = 1
  · subst h1; simp only [if_pos] at hm
    refine (thicketlaw9_world_node_at1_ok hm H).mono ?_
    rintro v w' ⟨hv, H⟩; exact ⟨hv, H⟩
  rw [if_neg h1] at hm
  cases hm

theorem thicketlaw9_world_tree_ok {w0 : World} {k : Nat} : ∀ {w : World} {As : List HP} {p_w_ : Nat} {al_w_ : thicketlaw9_world.A} {w_ : thicketlaw9_world} {h_ : Int} {n : Int} {rank : Int} {up : Int} {above : thicketlaw9_held} {top : Bool} {t : Bool × thicketlaw9_world}  (hm : thicketlaw9_world_tree k w_ h_ n rank up above top = some t) (H : St w0 (thicketlaw9_world.R p_w_ al_w_ w_ :: As) w),
    CallsR Tryz.prog 129 #[.pointer (some ⟨p_w_, 0, none⟩), .int .i64 h_, .int .i64 n, .int .i64 rank, .int .i64 up, .agg #[.int .i64 above.cell, .int .i64 above.e.Key, .int .i64 above.e.Serial], .bool top] w fun v w' => v = .bool t.1 ∧ St w0 (thicketlaw9_world.R p_w_ al_w_ t.2 :: As) w' := by
  induction k with
  | zero => intro w As p_w_ al_w_ w_ h_ n rank up above top t hm H; simp [thicketlaw9_world_tree] at hm
  | succ k ihf =>
    intro w As p_w_ al_w_ w_ h_ n rank up above top t hm H
    rw [thicketlaw9_world_tree] at hm
    refine enter (args := [.pointer (some ⟨p_w_, 0, none⟩), .int .i64 h_, .int .i64 n, .int .i64 rank, .int .i64 up, .agg #[.int .i64 above.cell, .int .i64 above.e.Key, .int .i64 above.e.Serial], .bool top]) Tryz.func129 rfl rfl rfl fun a hE => ?_
    refine Runs.seq ?_
    refine Runs.region ?_
    refine WR.eff hE rfl rfl rfl rfl (OpTo.new hE H [] (.cells #[.int .i64 above.cell, .int .i64 above.e.Key, .int .i64 above.e.Serial] 58 (0, 0)) (fun r => .pointer (some ⟨r, 0, none⟩)) (obs := []) rfl (fun _ => by kernel_rfl) trivial) ?_
    rintro _ w ⟨r, rfl, H⟩ a hE
    refine WR.seg hE 2 [] [0, 1, 2, 3, 4, 6, 12] (Lo := [(0, .pointer (some ⟨p_w_, 0, none⟩)), (1, .int .i64 h_), (2, .int .i64 n), (3, .int .i64 rank), (4, .int .i64 up), (6, .bool top), (12, .pointer (some ⟨r, 0, none⟩))]) (obs := []) rfl (by kernel_rfl) trivial fun a hE => ?_
    refine WR.done rfl ?_
    refine Runs.seq ?_
    refine Runs.region ?_
    refine WR.seg hE 3 [] [0, 1, 2, 3, 4, 6, 12, 20, 21, 22] (Lo := [(0, .pointer (some ⟨p_w_, 0, none⟩)), (1, .int .i64 h_), (2, .int .i64 n), (3, .int .i64 rank), (4, .int .i64 up), (6, .bool top), (12, .pointer (some ⟨r, 0, none⟩)), (20, .pointer (some ⟨p_w_, 0, none⟩)), (21, .int .i64 h_), (22, .int .i64 n)]) (obs := []) rfl (by kernel_rfl) trivial fun a hE => ?_
    obtain ⟨t_, et_, hm⟩ := bind_some hm
    refine WR.eff hE rfl rfl rfl rfl (OpTo.fn hE rfl rfl Tryz.call159 (thicketlaw9_world_node_ok et_ H.t1)) ?_
    rintro _ w ⟨rfl, H⟩ a hE
    refine WR.seg hE 7 [] [0, 1, 2, 3, 4, 6, 12, 24, 25] (Lo := [(0, .pointer (some ⟨p_w_, 0, none⟩)), (1, .int .i64 h_), (2, .int .i64 n), (3, .int .i64 rank), (4, .int .i64 up), (6, .bool top), (12, .pointer (some ⟨r, 0, none⟩)), (24, .agg #[.int .i64 t_.1.cell, .int .i64 t_.1.e.Key, .int .i64 t_.1.e.Serial]), (25, .bool t_.2.1)]) (obs := []) rfl (by kernel_rfl) trivial fun a hE => ?_
    refine WR.eff hE rfl rfl rfl rfl (OpTo.new hE H [] (.cells #[.int .i64 0, .int .i64 0, .int .i64 0] 58 (0, 0)) (fun r => .pointer (some ⟨r, 0, none⟩)) (obs := []) rfl (fun _ => by kernel_rfl) trivial) ?_
    rintro _ w ⟨r1, rfl, H⟩ a hE
    refine WR.eff0 hE rfl rfl rfl (OpTo.store hE H rfl rfl rfl rfl rfl rfl (Nat.le_of_ble_eq_true rfl)) ?_
    rintro _ w H a hE
    refine WR.seg hE 10 [] [0, 1, 2, 3, 4, 6, 12, 15, 16] (Lo := [(0, .pointer (some ⟨p_w_, 0, none⟩)), (1, .int .i64 h_), (2, .int .i64 n), (3, .int .i64 rank), (4, .int .i64 up), (6, .bool top), (12, .pointer (some ⟨r, 0, none⟩)), (15, .pointer (some ⟨r1, 0, none⟩)), (16, .bool t_.2.1)]) (obs := []) rfl (by kernel_rfl) trivial fun a hE => ?_
    refine WR.done rfl ?_
    refine Runs.seq ?_
    refine Runs.seq ?_
    obtain ⟨s, es, hm⟩ := bind_some hm
    refine Runs.join (fun a w => EnvOk 98 a [(0, .pointer (some ⟨p_w_, 0, none⟩)), (1, .int .i64 h_), (2, .int .i64 n), (3, .int .i64 rank), (15, .pointer (some ⟨r1, 0, none⟩)), (65, .bool s.1)] ∧ St w0 (Blk r1 58 [.int .i64 t_.1.cell, .int .i64 t_.1.e.Key, .int .i64 t_.1.e.Serial] :: thicketlaw9_world.R p_w_ al_w_ s.2 :: As) w) (fun hk => ?_) ?_
    · replace hm := es; clear es
      refine Runs.region ?_
      refine WR.seg hE 3 [] [0, 1, 2, 3, 4, 6, 12, 15, 28] (Lo := [(0, .pointer (some ⟨p_w_, 0, none⟩)), (1, .int .i64 h_), (2, .int .i64 n), (3, .int .i64 rank), (4, .int .i64 up), (6, .bool top), (12, .pointer (some ⟨r, 0, none⟩)), (15, .pointer (some ⟨r1, 0, none⟩)), (28, .bool (!t_.2.1))]) (obs := []) rfl (by kernel_rfl) trivial fun a hE => ?_
      rcases Bool.eq_false_or_eq_true (!t_.2.1) with c | c
      · replace hE := hE.dec 28 c (by kernel_rfl)
        replace hm := cond_t c hm
        have c_ := c
        refine WR.seg hE 40 [] [0, 1, 2, 3, 15, 65] (Lo := [(0, .pointer (some ⟨p_w_, 0, none⟩)), (1, .int .i64 h_), (2, .int .i64 n), (3, .int .i64 rank), (15, .pointer (some ⟨r1, 0, none⟩)), (65, .bool true)]) (obs := []) rfl (by kernel_rfl) trivial fun a hE => ?_
        refine WR.done rfl ?_
        cases hm
        exact hk _ _ ⟨hE.sel [0, 1, 2, 3, 15, 65] (by kernel_rfl), H.x2.t1.t1⟩
      · replace hE := hE.dec 28 c (by kernel_rfl)
        replace hm := cond_f c hm
        have c_1 := c
        replace H := thicketlaw9_world.open H.t1
        refine WR.seg hE 8 [.pointer (some ⟨al_w_.a__p, 0, none⟩)] [0, 1, 2, 3, 4, 6, 12, 15, 28, 32, 33] (Lo := [(0, .pointer (some ⟨p_w_, 0, none⟩)), (1, .int .i64 h_), (2, .int .i64 n), (3, .int .i64 rank), (4, .int .i64 up), (6, .bool top), (12, .pointer (some ⟨r, 0, none⟩)), (15, .pointer (some ⟨r1, 0, none⟩)), (28, .bool false), (32, .pointer (some ⟨al_w_.a__p, 0, none⟩)), (33, .int .i64 n)]) (obs := [.cell ⟨p_w_, 0, none⟩ (.pointer (some ⟨al_w_.a__p, 0, none⟩))]) rfl (by kernel_rfl) ⟨H.cell 0 rfl rfl, trivial⟩ fun a hE => ?_
        obtain ⟨t_1, et_1, hm⟩ := bind_some hm
        refine WR.eff hE rfl rfl rfl rfl (OpTo.fn hE rfl rfl Tryz.call61 (arena_Arena_Get_ok et_1 H.t1)) ?_
        rintro _ w ⟨rfl, hf1, hf, H⟩ a hE
        refine WR.seg hE 13 [] [0, 1, 2, 3, 4, 6, 12, 15, 38] (Lo := [(0, .pointer (some ⟨p_w_, 0, none⟩)), (1, .int .i64 h_), (2, .int .i64 n), (3, .int .i64 rank), (4, .int .i64 up), (6, .bool top), (12, .pointer (some ⟨r, 0, none⟩)), (15, .pointer (some ⟨r1, 0, none⟩)), (38, .bool (t_1.1 != rank))]) (obs := []) rfl (by kernel_rfl) trivial fun a hE => ?_
        rcases Bool.eq_false_or_eq_true (t_1.1 != rank) with c | c
        · replace hE := hE.dec 38 c (by kernel_rfl)
          replace hm := cond_t c hm
          have c_2 := c
          refine WR.seg hE 40 [] [0, 1, 2, 3, 15, 65] (Lo := [(0, .pointer (some ⟨p_w_, 0, none⟩)), (1, .int .i64 h_), (2, .int .i64 n), (3, .int .i64 rank), (15, .pointer (some ⟨r1, 0, none⟩)), (65, .bool true)]) (obs := []) rfl (by kernel_rfl) trivial fun a hE => ?_
          refine WR.done rfl ?_
          replace H := thicketlaw9_world.shut al_w_ (thicketlaw9_world.mk t_1.2 t_.2.2.root0 t_.2.2.root1 t_.2.2.has0 t_.2.2.has1 t_.2.2.next t_.2.2.spent t_.2.2.most) H.t3.t3.t2.t3
          cases hm
          exact hk _ _ ⟨hE.sel [0, 1, 2, 3, 15, 65] (by kernel_rfl), H.x2.t1⟩
        · replace hE := hE.dec 38 c (by kernel_rfl)
          replace hm := cond_f c hm
          have c_3 := c
          refine WR.seg hE 18 [.pointer (some ⟨al_w_.a__p, 0, none⟩)] [0, 1, 2, 3, 4, 6, 12, 15, 38, 42, 43] (Lo := [(0, .pointer (some ⟨p_w_, 0, none⟩)), (1, .int .i64 h_), (2, .int .i64 n), (3, .int .i64 rank), (4, .int .i64 up), (6, .bool top), (12, .pointer (some ⟨r, 0, none⟩)), (15, .pointer (some ⟨r1, 0, none⟩)), (38, .bool false), (42, .pointer (some ⟨al_w_.a__p, 0, none⟩)), (43, .int .i64 n)]) (obs := [.cell ⟨p_w_, 0, none⟩ (.pointer (some ⟨al_w_.a__p, 0, none⟩))]) rfl (by kernel_rfl) ⟨H.cell 1 rfl rfl, trivial⟩ fun a hE => ?_
          obtain ⟨t_2, et_2, hm⟩ := bind_some hm
          refine WR.eff hE rfl rfl rfl rfl (OpTo.fn hE rfl rfl Tryz.call73 (arena_Arena_Cell_ok et_2 H)) ?_
          rintro _ w ⟨rfl, H⟩ a hE
          refine WR.seg hE 23 [] [0, 1, 2, 3, 6, 12, 15, 48] (Lo := [(0, .pointer (some ⟨p_w_, 0, none⟩)), (1, .int .i64 h_), (2, .int .i64 n), (3, .int .i64 rank), (6, .bool top), (12, .pointer (some ⟨r, 0, none⟩)), (15, .pointer (some ⟨r1, 0, none⟩)), (48, .bool (t_2.1 != up))]) (obs := []) rfl (by kernel_rfl) trivial fun a hE => ?_
          rcases Bool.eq_false_or_eq_true (t_2.1 != up) with c | c
          · replace hE := hE.dec 48 c (by kernel_rfl)
            replace hm := cond_t c hm
            have c_4 := c
            refine WR.seg hE 40 [] [0, 1, 2, 3, 15, 65] (Lo := [(0, .pointer (some ⟨p_w_, 0, none⟩)), (1, .int .i64 h_), (2, .int .i64 n), (3, .int .i64 rank), (15, .pointer (some ⟨r1, 0, none⟩)), (65, .bool true)]) (obs := []) rfl (by kernel_rfl) trivial fun a hE => ?_
            refine WR.done rfl ?_
            replace H := thicketlaw9_world.shut al_w_ (thicketlaw9_world.mk t_2.2 t_.2.2.root0 t_.2.2.root1 t_.2.2.has0 t_.2.2.has1 t_.2.2.next t_.2.2.spent t_.2.2.most) H.t3.t3.t2.t3
            cases hm
            exact hk _ _ ⟨hE.sel [0, 1, 2, 3, 15, 65] (by kernel_rfl), H.x2.t1⟩
          · replace hE := hE.dec 48 c (by kernel_rfl)
            replace hm := cond_f c hm
            have c_5 := c
            refine WR.seg hE 28 [.pointer (some ⟨al_w_.a__p, 0, none⟩)] [0, 1, 2, 3, 6, 12, 15, 48, 52, 53] (Lo := [(0, .pointer (some ⟨p_w_, 0, none⟩)), (1, .int .i64 h_), (2, .int .i64 n), (3, .int .i64 rank), (6, .bool top), (12, .pointer (some ⟨r, 0, none⟩)), (15, .pointer (some ⟨r1, 0, none⟩)), (48, .bool false), (52, .pointer (some ⟨al_w_.a__p, 0, none⟩)), (53, .int .i64 n)]) (obs := [.cell ⟨p_w_, 0, none⟩ (.pointer (some ⟨al_w_.a__p, 0, none⟩))]) rfl (by kernel_rfl) ⟨H.cell 1 rfl rfl, trivial⟩ fun a hE => ?_
            obtain ⟨t_3, et_3, hm⟩ := bind_some hm
            refine WR.eff hE rfl rfl rfl rfl (OpTo.fn hE rfl rfl Tryz.call73 (arena_Arena_Cell_ok et_3 H)) ?_
            rintro _ w ⟨rfl, H⟩ a hE
            refine WR.seg hE 32 [] [0, 1, 2, 3, 6, 12, 15, 57] (Lo := [(0, .pointer (some ⟨p_w_, 0, none⟩)), (1, .int .i64 h_), (2, .int .i64 n), (3, .int .i64 rank), (6, .bool top), (12, .pointer (some ⟨r, 0, none⟩)), (15, .pointer (some ⟨r1, 0, none⟩)), (57, .bool (t_3.1 != (-1)))]) (obs := []) rfl (by kernel_rfl) trivial fun a hE => ?_
            rcases Bool.eq_false_or_eq_true (t_3.1 != (-1)) with c | c
            · replace hE := hE.dec 57 c (by kernel_rfl)
              replace hm := cond_t c hm
              have c_6 := c
              refine WR.seg hE 40 [] [0, 1, 2, 3, 15, 65] (Lo := [(0, .pointer (some ⟨p_w_, 0, none⟩)), (1, .int .i64 h_), (2, .int .i64 n), (3, .int .i64 rank), (15, .pointer (some ⟨r1, 0, none⟩)), (65, .bool true)]) (obs := []) rfl (by kernel_rfl) trivial fun a hE => ?_
              refine WR.done rfl ?_
              replace H := thicketlaw9_world.shut al_w_ (thicketlaw9_world.mk t_3.2 t_.2.2.root0 t_.2.2.root1 t_.2.2.has0 t_.2.2.has1 t_.2.2.next t_.2.2.spent t_.2.2.most) H.t3.t3.t2.t3
              cases hm
              exact hk _ _ ⟨hE.sel [0, 1, 2, 3, 15, 65] (by kernel_rfl), H.x2.t1⟩
            · replace hE := hE.dec 57 c (by kernel_rfl)
              replace hm := cond_f c hm
              have c_7 := c
              refine WR.seg hE 35 [] [0, 1, 2, 3, 12, 15, 57, 60] (Lo := [(0, .pointer (some ⟨p_w_, 0, none⟩)), (1, .int .i64 h_), (2, .int .i64 n), (3, .int .i64 rank), (12, .pointer (some ⟨r, 0, none⟩)), (15, .pointer (some ⟨r1, 0, none⟩)), (57, .bool false), (60, .bool (!top))]) (obs := []) rfl (by kernel_rfl) trivial fun a hE => ?_
              rcases Bool.eq_false_or_eq_true (!top) with c | c
              · replace hE := hE.dec 60 c (by kernel_rfl)
                replace hm := cond_t c hm
                have c_8 := c
                refine WR.seg hE 37 [.int .i64 t_.1.cell, .int .i64 t_.1.e.Key, .int .i64 t_.1.e.Serial, .int .i64 above.cell, .int .i64 above.e.Key, .int .i64 above.e.Serial] [0, 1, 2, 3, 15, 57, 60, 61, 62] (Lo := [(0, .pointer (some ⟨p_w_, 0, none⟩)), (1, .int .i64 h_), (2, .int .i64 n), (3, .int .i64 rank), (15, .pointer (some ⟨r1, 0, none⟩)), (57, .bool false), (60, .bool true), (61, .agg #[.int .i64 t_.1.cell, .int .i64 t_.1.e.Key, .int .i64 t_.1.e.Serial]), (62, .agg #[.int .i64 above.cell, .int .i64 above.e.Key, .int .i64 above.e.Serial])]) (obs := [.cell ⟨r1, 0, none⟩ (.int .i64 t_.1.cell), .cell ⟨r1, 1, none⟩ (.int .i64 t_.1.e.Key), .cell ⟨r1, 2, none⟩ (.int .i64 t_.1.e.Serial), .cell ⟨r, 0, none⟩ (.int .i64 above.cell), .cell ⟨r, 1, none⟩ (.int .i64 above.e.Key), .cell ⟨r, 2, none⟩ (.int .i64 above.e.Serial)]) rfl (by kernel_rfl) ⟨H.cell 4 rfl rfl, H.cell 4 rfl rfl, H.cell 4 rfl rfl, H.cell 5 rfl rfl, H.cell 5 rfl rfl, H.cell 5 rfl rfl, trivial⟩ fun a hE => ?_
                obtain ⟨t_4, et_4, hm⟩ := bind_some hm
                refine WR.eff hE rfl rfl rfl rfl (OpTo.fn hE rfl rfl Tryz.call126 (thicketlaw9_before_ok et_4 H)) ?_
                rintro _ w ⟨rfl, H⟩ a hE
                refine WR.seg hE 40 [] [0, 1, 2, 3, 15, 65] (Lo := [(0, .pointer (some ⟨p_w_, 0, none⟩)), (1, .int .i64 h_), (2, .int .i64 n), (3, .int .i64 rank), (15, .pointer (some ⟨r1, 0, none⟩)), (65, .bool t_4)]) (obs := []) rfl (by kernel_rfl) trivial fun a hE => ?_
                refine WR.done rfl ?_
                replace H := thicketlaw9_world.shut al_w_ (thicketlaw9_world.mk t_3.2 t_.2.2.root0 t_.2.2.root1 t_.2.2.has0 t_.2.2.has1 t_.2.2.next t_.2.2.spent t_.2.2.most) H.t3.t3.t2.t3
                cases hm
                exact hk _ _ ⟨hE.sel [0, 1, 2, 3, 15, 65] (by kernel_rfl), H.x2.t1⟩
              · replace hE := hE.dec 60 c (by kernel_rfl)
                replace hm := cond_f c hm
                have c_9 := c
                refine WR.seg hE 40 [] [0, 1, 2, 3, 15, 65] (Lo := [(0, .pointer (some ⟨p_w_, 0, none⟩)), (1, .int .i64 h_), (2, .int .i64 n), (3, .int .i64 rank), (15, .pointer (some ⟨r1, 0, none⟩)), (65, .bool false)]) (obs := []) rfl (by kernel_rfl) trivial fun a hE => ?_
                refine WR.done rfl ?_
                replace H := thicketlaw9_world.shut al_w_ (thicketlaw9_world.mk t_3.2 t_.2.2.root0 t_.2.2.root1 t_.2.2.has0 t_.2.2.has1 t_.2.2.next t_.2.2.spent t_.2.2.most) H.t3.t3.t2.t3
                cases hm
                exact hk _ _ ⟨hE.sel [0, 1, 2, 3, 15, 65] (by kernel_rfl), H.x2.t1⟩
    rintro a w ⟨hE, H⟩
    refine Runs.cond hE rfl (fun c => ?_) (fun c => ?_)
    · replace hm := cond_t c hm
      refine Runs.seq ?_
      refine Runs.region ?_
      refine WR.seg hE 1 [] [14] (Lo := [(14, .bool false)]) (obs := []) rfl (by kernel_rfl) trivial fun a hE => ?_
      refine WR.done rfl ?_
      refine Runs.ret hE Tryz.func129 rfl rfl ?_
      cases hm
      exact ⟨rfl, H.x0⟩
    · replace hm := cond_f c hm
      refine Runs.skip ?_
      refine Runs.seq ?_
      refine Runs.region ?_
      replace H := thicketlaw9_world.open H.t1
      refine WR.seg hE 5 [.pointer (some ⟨al_w_.a__p, 0, none⟩)] [0, 1, 2, 3, 15, 69, 70] (Lo := [(0, .pointer (some ⟨p_w_, 0, none⟩)), (1, .int .i64 h_), (2, .int .i64 n), (3, .int .i64 rank), (15, .pointer (some ⟨r1, 0, none⟩)), (69, .pointer (some ⟨al_w_.a__p, 0, none⟩)), (70, .int .i64 n)]) (obs := [.cell ⟨p_w_, 0, none⟩ (.pointer (some ⟨al_w_.a__p, 0, none⟩))]) rfl (by kernel_rfl) ⟨H.cell 0 rfl rfl, trivial⟩ fun a hE => ?_
      obtain ⟨t_5, et_5, hm⟩ := bind_some hm
      refine WR.eff hE rfl rfl rfl rfl (OpTo.fn hE rfl rfl Tryz.call73 (arena_Arena_Cell_ok et_5 H.t1)) ?_
      rintro _ w ⟨rfl, H⟩ a hE
      refine WR.seg hE 7 [] [0, 1, 2, 3, 15, 17] (Lo := [(0, .pointer (some ⟨p_w_, 0, none⟩)), (1, .int .i64 h_), (2, .int .i64 n), (3, .int .i64 rank), (15, .pointer (some ⟨r1, 0, none⟩)), (17, .int .i64 t_5.1)]) (obs := []) rfl (by kernel_rfl) trivial fun a hE => ?_
      refine WR.done rfl ?_
      refine Runs.seq ?_
      refine Runs.seq ?_
      refine Runs.region ?_
      refine WR.seg hE 3 [] [0, 1, 2, 15, 17, 18] (Lo := [(0, .pointer (some ⟨p_w_, 0, none⟩)), (1, .int .i64 h_), (2, .int .i64 n), (15, .pointer (some ⟨r1, 0, none⟩)), (17, .int .i64 t_5.1), (18, .int .i64 (w64 (rank - 1)))]) (obs := []) rfl (by kernel_rfl) trivial fun a hE => ?_
      refine WR.done rfl ?_
      replace H := thicketlaw9_world.shut al_w_ (thicketlaw9_world.mk t_5.2 s.2.root0 s.2.root1 s.2.has0 s.2.has1 s.2.next s.2.spent s.2.most) H.t3.t3.t2.t3
      obtain ⟨s1, es1, hR⟩ := bind_some hm
      refine Runs.join (fun a w => ∃ s2, s1 = Sum.inr s2 ∧ EnvOk 98 a [(17, .int .i64 s2.1)] ∧ St w0 (thicketlaw9_world.R p_w_ al_w_ s2.2 :: As) w) (fun hk => ?_) ?_
      · replace hm := es1; clear es1
        refine Runs.block ?_
        refine Runs.loop (fun m a w => ∃ (c_10 : Int), ∃ (k_ : Int), ∃ (m_ : thicketlaw9_world), EnvOk 98 a [(0, .pointer (some ⟨p_w_, 0, none⟩)), (1, .int .i64 h_), (2, .int .i64 n), (15, .pointer (some ⟨r1, 0, none⟩)), (17, .int .i64 c_10), (18, .int .i64 k_)] ∧ St w0 (thicketlaw9_world.R p_w_ al_w_ m_ :: Blk r1 58 [.int .i64 t_.1.cell, .int .i64 t_.1.e.Key, .int .i64 t_.1.e.Serial] :: As) w ∧ thicketlaw9_world_tree_l0 (thicketlaw9_world_tree k) h_ n t_.1.cell t_.1.e.Key t_.1.e.Serial m c_10 k_ m_ = some s1) k ⟨t_5.1, w64 (rank - 1), thicketlaw9_world.mk t_5.2 s.2.root0 s.2.root1 s.2.has0 s.2.has1 s.2.next s.2.spent s.2.most, hE.sel [0, 1, 2, 15, 17, 18] (by kernel_rfl), H.t1.t1, hm⟩ ?_
        rintro m ih a w ⟨c_10, k_, m_, hE, H, hm⟩
        cases m with
        | zero => simp [thicketlaw9_world_tree_l0] at hm
        | succ m =>
          rw [thicketlaw9_world_tree_l0] at hm
          refine Runs.seq ?_
          refine Runs.seq ?_
          refine Runs.region ?_
          refine WR.seg hE 2 [] [0, 1, 2, 15, 17, 18, 75] (Lo := [(0, .pointer (some ⟨p_w_, 0, none⟩)), (1, .int .i64 h_), (2, .int .i64 n), (15, .pointer (some ⟨r1, 0, none⟩)), (17, .int .i64 c_10), (18, .int .i64 k_), (75, .bool (decide (k_ ≥ 0)))]) (obs := []) rfl (by kernel_rfl) trivial fun a hE => ?_
          refine WR.done rfl ?_
          refine Runs.cond hE rfl (fun c => ?_) (fun c => ?_)
          · replace hm := cond_t c hm
            refine Runs.skip ?_
            refine Runs.seq ?_
            refine Runs.block ?_
            refine Runs.seq ?_
            refine Runs.seq ?_
            obtain ⟨s3, es3, hm⟩ := bind_some hm
            refine Runs.join (fun a w => EnvOk 98 a [(0, .pointer (some ⟨p_w_, 0, none⟩)), (1, .int .i64 h_), (2, .int .i64 n), (15, .pointer (some ⟨r1, 0, none⟩)), (17, .int .i64 c_10), (18, .int .i64 k_), (89, .bool s3.1)] ∧ St w0 (thicketlaw9_world.R p_w_ al_w_ s3.2 :: Blk r1 58 [.int .i64 t_.1.cell, .int .i64 t_.1.e.Key, .int .i64 t_.1.e.Serial] :: As) w) (fun hk => ?_) ?_
            · replace hm := es3; clear es3
              refine Runs.region ?_
              refine WR.seg hE 3 [] [0, 1, 2, 15, 17, 18, 80] (Lo := [(0, .pointer (some ⟨p_w_, 0, none⟩)), (1, .int .i64 h_), (2, .int .i64 n), (15, .pointer (some ⟨r1, 0, none⟩)), (17, .int .i64 c_10), (18, .int .i64 k_), (80, .bool (c_10 == (-1)))]) (obs := []) rfl (by kernel_rfl) trivial fun a hE => ?_
              rcases Bool.eq_false_or_eq_true (c_10 == (-1)) with c | c
              · replace hE := hE.dec 80 c (by kernel_rfl)
                replace hm := cond_t c hm
                have c_11 := c
                refine WR.seg hE 12 [] [0, 1, 2, 15, 17, 18, 89] (Lo := [(0, .pointer (some ⟨p_w_, 0, none⟩)), (1, .int .i64 h_), (2, .int .i64 n), (15, .pointer (some ⟨r1, 0, none⟩)), (17, .int .i64 c_10), (18, .int .i64 k_), (89, .bool true)]) (obs := []) rfl (by kernel_rfl) trivial fun a hE => ?_
                refine WR.done rfl ?_
                cases hm
                exact hk _ _ ⟨hE.sel [0, 1, 2, 15, 17, 18, 89] (by kernel_rfl), H.t1.t1⟩
              · replace hE := hE.dec 80 c (by kernel_rfl)
                replace hm := cond_f c hm
                have c_12 := c
                refine WR.seg hE 9 [.int .i64 t_.1.cell, .int .i64 t_.1.e.Key, .int .i64 t_.1.e.Serial] [0, 1, 2, 15, 17, 18, 80, 81, 82, 83, 84, 85, 86] (Lo := [(0, .pointer (some ⟨p_w_, 0, none⟩)), (1, .int .i64 h_), (2, .int .i64 n), (15, .pointer (some ⟨r1, 0, none⟩)), (17, .int .i64 c_10), (18, .int .i64 k_), (80, .bool false), (81, .pointer (some ⟨p_w_, 0, none⟩)), (82, .int .i64 h_), (83, .int .i64 c_10), (84, .int .i64 k_), (85, .int .i64 n), (86, .agg #[.int .i64 t_.1.cell, .int .i64 t_.1.e.Key, .int .i64 t_.1.e.Serial])]) (obs := [.cell ⟨r1, 0, none⟩ (.int .i64 t_.1.cell), .cell ⟨r1, 1, none⟩ (.int .i64 t_.1.e.Key), .cell ⟨r1, 2, none⟩ (.int .i64 t_.1.e.Serial)]) rfl (by kernel_rfl) ⟨H.cell 1 rfl rfl, H.cell 1 rfl rfl, H.cell 1 rfl rfl, trivial⟩ fun a hE => ?_
                obtain ⟨t_6, et_6, hm⟩ := bind_some hm
                refine WR.eff hE rfl rfl rfl rfl (OpTo.fn hE rfl rfl Tryz.call129 (ihf et_6 H)) ?_
                rintro _ w ⟨rfl, H⟩ a hE
                refine WR.seg hE 12 [] [0, 1, 2, 15, 17, 18, 89] (Lo := [(0, .pointer (some ⟨p_w_, 0, none⟩)), (1, .int .i64 h_), (2, .int .i64 n), (15, .pointer (some ⟨r1, 0, none⟩)), (17, .int .i64 c_10), (18, .int .i64 k_), (89, .bool (!t_6.1))]) (obs := []) rfl (by kernel_rfl) trivial fun a hE => ?_
                refine WR.done rfl ?_
                cases hm
                exact hk _ _ ⟨hE.sel [0, 1, 2, 15, 17, 18, 89] (by kernel_rfl), H.t1.t1⟩
            rintro a w ⟨hE, H⟩
            refine Runs.cond hE rfl (fun c => ?_) (fun c => ?_)
            · replace hm := cond_t c hm
              refine Runs.seq ?_
              refine Runs.region ?_
              refine WR.seg hE 1 [] [14] (Lo := [(14, .bool false)]) (obs := []) rfl (by kernel_rfl) trivial fun a hE => ?_
              refine WR.done rfl ?_
              refine Runs.ret hE Tryz.func129 rfl rfl ?_
              cases hm
              dsimp only at hR; cases hR
              exact ⟨rfl, H.x1⟩
            · replace hm := cond_f c hm
              refine Runs.skip ?_
              refine Runs.region ?_
              replace H := thicketlaw9_world.open H
              refine WR.seg hE 5 [.pointer (some ⟨al_w_.a__p, 0, none⟩)] [0, 1, 2, 15, 17, 18, 93, 94] (Lo := [(0, .pointer (some ⟨p_w_, 0, none⟩)), (1, .int .i64 h_), (2, .int .i64 n), (15, .pointer (some ⟨r1, 0, none⟩)), (17, .int .i64 c_10), (18, .int .i64 k_), (93, .pointer (some ⟨al_w_.a__p, 0, none⟩)), (94, .int .i64 c_10)]) (obs := [.cell ⟨p_w_, 0, none⟩ (.pointer (some ⟨al_w_.a__p, 0, none⟩))]) rfl (by kernel_rfl) ⟨H.cell 0 rfl rfl, trivial⟩ fun a hE => ?_
              obtain ⟨t_7, et_7, hm⟩ := bind_some hm
              refine WR.eff hE rfl rfl rfl rfl (OpTo.fn hE rfl rfl Tryz.call73 (arena_Arena_Cell_ok et_7 H.t1)) ?_
              rintro _ w ⟨rfl, H⟩ a hE
              refine WR.seg hE 7 [] [0, 1, 2, 15, 17, 18] (Lo := [(0, .pointer (some ⟨p_w_, 0, none⟩)), (1, .int .i64 h_), (2, .int .i64 n), (15, .pointer (some ⟨r1, 0, none⟩)), (17, .int .i64 t_7.1), (18, .int .i64 k_)]) (obs := []) rfl (by kernel_rfl) trivial fun a hE => ?_
              refine WR.done rfl ?_
              refine Runs.inBlock ?_
              refine Runs.region ?_
              refine WR.seg hE 3 [] [0, 1, 2, 15, 17, 18] (Lo := [(0, .pointer (some ⟨p_w_, 0, none⟩)), (1, .int .i64 h_), (2, .int .i64 n), (15, .pointer (some ⟨r1, 0, none⟩)), (17, .int .i64 t_7.1), (18, .int .i64 (w64 (k_ - 1)))]) (obs := []) rfl (by kernel_rfl) trivial fun a hE => ?_
              refine WR.done rfl ?_
              replace H := thicketlaw9_world.shut al_w_ (thicketlaw9_world.mk t_7.2 s3.2.root0 s3.2.root1 s3.2.has0 s3.2.has1 s3.2.next s3.2.spent s3.2.most) H.t3.t3.t2.t3
              exact ih m (Nat.lt_succ_self m) _ _ ⟨t_7.1, w64 (k_ - 1), thicketlaw9_world.mk t_7.2 s3.2.root0 s3.2.root1 s3.2.has0 s3.2.has1 s3.2.next s3.2.spent s3.2.most, hE.sel [0, 1, 2, 15, 17, 18] (by kernel_rfl), H.t1.t1, hm⟩
          · replace hm := cond_f c hm
            refine Runs.exit rfl ?_
            cases hm
            exact hk _ _ ⟨_, rfl, hE.sel [17] (by kernel_rfl), H.x1⟩
      rintro a w ⟨s2, rfl, hE, H⟩
      replace hm := hR; dsimp only at hm
      refine Runs.seq ?_
      refine Runs.region ?_
      refine WR.seg hE 3 [] [14] (Lo := [(14, .bool (s2.1 == (-1)))]) (obs := []) rfl (by kernel_rfl) trivial fun a hE => ?_
      refine WR.done rfl ?_
      refine Runs.ret hE Tryz.func129 rfl rfl ?_
      cases hm
      exact ⟨rfl, H⟩

theorem thicketlaw9_world_shape_at0_ok {w0 w : World} {As : List HP} {k : Nat} {p_w_ : Nat} {al_w_ : thicketlaw9_world.A} {w_ : thicketlaw9_world} {t : Bool × thicketlaw9_world}  (hm : thicketlaw9_world_shape_at0 k w_ = some t) (H : St w0 (thicketlaw9_world.R p_w_ al_w_ w_ :: As) w) :
    CallsR Tryz.prog 69 #[.pointer (some ⟨p_w_, 0, none⟩), .int .i64 0] w fun v w' => v = .bool t.1 ∧ St w0 (thicketlaw9_world.R p_w_ al_w_ t.2 :: As) w' := by
  rw [thicketlaw9_world_shape_at0] at hm
  refine enter (args := [.pointer (some ⟨p_w_, 0, none⟩), .int .i64 0]) Tryz.func69 rfl rfl rfl fun a hE => ?_
  refine Runs.seq ?_
  refine Runs.region ?_
  refine WR.seg hE 1 [] [0, 1] (Lo := [(0, .pointer (some ⟨p_w_, 0, none⟩)), (1, .int .i64 0)]) (obs := []) rfl (by kernel_rfl) trivial fun a hE => ?_
  refine WR.done rfl ?_
  refine Runs.seq ?_
  refine Runs.region ?_
  replace H := thicketlaw9_world.open H
  refine WR.seg hE 8 [.slice al_w_.has0_b w_.has0.length al_w_.has0_c] [0, 1, 5] (Lo := [(0, .pointer (some ⟨p_w_, 0, none⟩)), (1, .int .i64 0), (5, .int .i64 (w_.has0.length : Int))]) (obs := [.p (0 ≤ (0 : Int) ∧ (0 : Int) < ((2 : Nat) : Int)), .cell ⟨p_w_, 3, none⟩ (.slice al_w_.has0_b w_.has0.length al_w_.has0_c)]) rfl (by kernel_rfl) ⟨⟨by decide, by decide⟩, H.cell 0 rfl rfl, trivial⟩ fun a hE => ?_
  refine WR.done rfl ?_
  refine Runs.seq ?_
  refine Runs.region ?_
  refine WR.seg hE 7 [.int .i64 w_.root0] [0, 1, 5, 6] (Lo := [(0, .pointer (some ⟨p_w_, 0, none⟩)), (1, .int .i64 0), (5, .int .i64 (w_.has0.length : Int)), (6, .int .i64 w_.root0)]) (obs := [.p (0 ≤ (0 : Int) ∧ (0 : Int) < ((2 : Nat) : Int)), .cell ⟨p_w_, 1, none⟩ (.int .i64 w_.root0)]) rfl (by kernel_rfl) ⟨⟨by decide, by decide⟩, H.cell 0 rfl rfl, trivial⟩ fun a hE => ?_
  refine WR.done rfl ?_
  refine Runs.seq ?_
  refine Runs.seq ?_
  refine Runs.region ?_
  refine WR.seg hE 1 [] [0, 1, 5, 6, 7] (Lo := [(0, .pointer (some ⟨p_w_, 0, none⟩)), (1, .int .i64 0), (5, .int .i64 (w_.has0.length : Int)), (6, .int .i64 w_.root0), (7, .int .i64 0)]) (obs := []) rfl (by kernel_rfl) trivial fun a hE => ?_
  refine WR.done rfl ?_
  replace H := thicketlaw9_world.shut al_w_ (w_) H.t3.t3.t3.t3
  obtain ⟨s, es, hR⟩ := bind_some hm
  refine Runs.join (fun a w => ∃ s1, s = Sum.inr s1 ∧ EnvOk 50 a [(6, .int .i64 s1.1)] ∧ St w0 (thicketlaw9_world.R p_w_ al_w_ s1.2 :: As) w) (fun hk => ?_) ?_
  · replace hm := es; clear es
    refine Runs.block ?_
    refine Runs.loop (fun m a w => ∃ (n : Int), ∃ (k_ : Int), ∃ (m_ : thicketlaw9_world), EnvOk 50 a [(0, .pointer (some ⟨p_w_, 0, none⟩)), (1, .int .i64 0), (5, .int .i64 (w_.has0.length : Int)), (6, .int .i64 n), (7, .int .i64 k_)] ∧ St w0 (thicketlaw9_world.R p_w_ al_w_ m_ :: As) w ∧ thicketlaw9_world_shape_at0_l0 (w_.has0.length : Int) m n k_ m_ = some s) k ⟨w_.root0, 0, w_, hE.sel [0, 1, 5, 6, 7] (by kernel_rfl), H, hm⟩ ?_
    rintro m ih a w ⟨n, k_, m_, hE, H, hm⟩
    cases m with
    | zero => simp [thicketlaw9_world_shape_at0_l0] at hm
    | succ m =>
      rw [thicketlaw9_world_shape_at0_l0] at hm
      refine Runs.seq ?_
      refine Runs.seq ?_
      refine Runs.region ?_
      refine WR.seg hE 2 [] [0, 1, 5, 6, 7, 22] (Lo := [(0, .pointer (some ⟨p_w_, 0, none⟩)), (1, .int .i64 0), (5, .int .i64 (w_.has0.length : Int)), (6, .int .i64 n), (7, .int .i64 k_), (22, .bool (decide (k_ < 12)))]) (obs := []) rfl (by kernel_rfl) trivial fun a hE => ?_
      refine WR.done rfl ?_
      refine Runs.cond hE rfl (fun c => ?_) (fun c => ?_)
      · replace hm := cond_t c hm
        refine Runs.skip ?_
        refine Runs.seq ?_
        obtain ⟨s2, es2, hR1⟩ := bind_some hm
        refine Runs.join (fun a w => ∃ s3, s2 = Sum.inr s3 ∧ EnvOk 50 a [(0, .pointer (some ⟨p_w_, 0, none⟩)), (1, .int .i64 0), (5, .int .i64 (w_.has0.length : Int)), (6, .int .i64 s3.1), (7, .int .i64 k_)] ∧ St w0 (thicketlaw9_world.R p_w_ al_w_ s3.2 :: As) w) (fun hk => ?_) ?_
        · replace hm := es2; clear es2
          refine Runs.block ?_
          refine Runs.seq ?_
          refine Runs.seq ?_
          refine Runs.region ?_
          obtain ⟨u, eu, hm⟩ := bind_some hm
          refine WR.seg hE 6 [] [0, 1, 5, 6, 7, 30] (Lo := [(0, .pointer (some ⟨p_w_, 0, none⟩)), (1, .int .i64 0), (5, .int .i64 (w_.has0.length : Int)), (6, .int .i64 n), (7, .int .i64 k_), (30, .bool ((IntKind.wrap .i64 ((BitVec.ofInt 64 (Int.fdiv (w_.has0.length : Int) (2 ^ (min (Int.toNat (IntKind.wrap .u64 (k_))) 64))) &&& BitVec.ofInt 64 1).toNat : Int)) == 0))]) (obs := [.p (0 ≤ IntKind.wrap .u64 (k_))]) rfl (by kernel_rfl) ⟨(nn_spec eu), trivial⟩ fun a hE => ?_
          refine WR.done rfl ?_
          refine Runs.cond hE rfl (fun c => ?_) (fun c => ?_)
          · replace hm := cond_t c hm
            refine Runs.exit rfl ?_
            cases hm
            exact hk _ _ ⟨_, rfl, hE.sel [0, 1, 5, 6, 7] (by kernel_rfl), H⟩
          · replace hm := cond_f c hm
            refine Runs.skip ?_
            refine Runs.seq ?_
            refine Runs.seq ?_
            obtain ⟨s4, es4, hm⟩ := bind_some hm
            refine Runs.join (fun a w => EnvOk 50 a [(0, .pointer (some ⟨p_w_, 0, none⟩)), (1, .int .i64 0), (5, .int .i64 (w_.has0.length : Int)), (6, .int .i64 n), (7, .int .i64 k_), (41, .bool s4.1)] ∧ St w0 (thicketlaw9_world.R p_w_ al_w_ s4.2 :: As) w) (fun hk => ?_) ?_
            · replace hm := es4; clear es4
              refine Runs.region ?_
              refine WR.seg hE 3 [] [0, 1, 5, 6, 7, 33] (Lo := [(0, .pointer (some ⟨p_w_, 0, none⟩)), (1, .int .i64 0), (5, .int .i64 (w_.has0.length : Int)), (6, .int .i64 n), (7, .int .i64 k_), (33, .bool (n == (-1)))]) (obs := []) rfl (by kernel_rfl) trivial fun a hE => ?_
              rcases Bool.eq_false_or_eq_true (n == (-1)) with c | c
              · replace hE := hE.dec 33 c (by kernel_rfl)
                replace hm := cond_t c hm
                have c_ := c
                refine WR.seg hE 11 [] [0, 1, 5, 6, 7, 41] (Lo := [(0, .pointer (some ⟨p_w_, 0, none⟩)), (1, .int .i64 0), (5, .int .i64 (w_.has0.length : Int)), (6, .int .i64 n), (7, .int .i64 k_), (41, .bool true)]) (obs := []) rfl (by kernel_rfl) trivial fun a hE => ?_
                refine WR.done rfl ?_
                cases hm
                exact hk _ _ ⟨hE.sel [0, 1, 5, 6, 7, 41] (by kernel_rfl), H⟩
              · replace hE := hE.dec 33 c (by kernel_rfl)
                replace hm := cond_f c hm
                have c_1 := c
                refine WR.seg hE 8 [] [0, 1, 5, 6, 7, 33, 34, 35, 36, 37, 38] (Lo := [(0, .pointer (some ⟨p_w_, 0, none⟩)), (1, .int .i64 0), (5, .int .i64 (w_.has0.length : Int)), (6, .int .i64 n), (7, .int .i64 k_), (33, .bool false), (34, .pointer (some ⟨p_w_, 0, none⟩)), (35, .int .i64 0), (36, .int .i64 n), (37, .int .i64 k_), (38, .agg #[.int .i64 0, .int .i64 0, .int .i64 0])]) (obs := []) rfl (by kernel_rfl) trivial fun a hE => ?_
                obtain ⟨t_, et_, hm⟩ := bind_some hm
                have hC_ := thicketlaw9_world_tree_ok et_ H
                try dsimp only at hC_
                refine WR.eff hE rfl rfl rfl rfl (OpTo.fn hE rfl rfl Tryz.call129 hC_) ?_
                rintro _ w ⟨rfl, H⟩ a hE
                refine WR.seg hE 11 [] [0, 1, 5, 6, 7, 41] (Lo := [(0, .pointer (some ⟨p_w_, 0, none⟩)), (1, .int .i64 0), (5, .int .i64 (w_.has0.length : Int)), (6, .int .i64 n), (7, .int .i64 k_), (41, .bool (!t_.1))]) (obs := []) rfl (by kernel_rfl) trivial fun a hE => ?_
                refine WR.done rfl ?_
                cases hm
                exact hk _ _ ⟨hE.sel [0, 1, 5, 6, 7, 41] (by kernel_rfl), H⟩
            rintro a w ⟨hE, H⟩
            refine Runs.cond hE rfl (fun c => ?_) (fun c => ?_)
            · replace hm := cond_t c hm
              refine Runs.seq ?_
              refine Runs.region ?_
              refine WR.seg hE 1 [] [4] (Lo := [(4, .bool false)]) (obs := []) rfl (by kernel_rfl) trivial fun a hE => ?_
              refine WR.done rfl ?_
              refine Runs.ret hE Tryz.func69 rfl rfl ?_
              cases hm
              dsimp only at hR1; cases hR1
              dsimp only at hR; cases hR
              exact ⟨rfl, H⟩
            · replace hm := cond_f c hm
              refine Runs.skip ?_
              refine Runs.region ?_
              replace H := thicketlaw9_world.open H
              refine WR.seg hE 5 [.pointer (some ⟨al_w_.a__p, 0, none⟩)] [0, 1, 5, 6, 7, 45, 46] (Lo := [(0, .pointer (some ⟨p_w_, 0, none⟩)), (1, .int .i64 0), (5, .int .i64 (w_.has0.length : Int)), (6, .int .i64 n), (7, .int .i64 k_), (45, .pointer (some ⟨al_w_.a__p, 0, none⟩)), (46, .int .i64 n)]) (obs := [.cell ⟨p_w_, 0, none⟩ (.pointer (some ⟨al_w_.a__p, 0, none⟩))]) rfl (by kernel_rfl) ⟨H.cell 0 rfl rfl, trivial⟩ fun a hE => ?_
              obtain ⟨t_1, et_1, hm⟩ := bind_some hm
              refine WR.eff hE rfl rfl rfl rfl (OpTo.fn hE rfl rfl Tryz.call73 (arena_Arena_Cell_ok et_1 H.t1)) ?_
              rintro _ w ⟨rfl, H⟩ a hE
              refine WR.seg hE 7 [] [0, 1, 5, 6, 7] (Lo := [(0, .pointer (some ⟨p_w_, 0, none⟩)), (1, .int .i64 0), (5, .int .i64 (w_.has0.length : Int)), (6, .int .i64 t_1.1), (7, .int .i64 k_)]) (obs := []) rfl (by kernel_rfl) trivial fun a hE => ?_
              refine WR.done rfl ?_
              refine Runs.inBlock ?_
              replace H := thicketlaw9_world.shut al_w_ (thicketlaw9_world.mk t_1.2 s4.2.root0 s4.2.root1 s4.2.has0 s4.2.has1 s4.2.next s4.2.spent s4.2.most) H.t3.t3.t2.t3
              cases hm
              exact hk _ _ ⟨_, rfl, hE.sel [0, 1, 5, 6, 7] (by kernel_rfl), H⟩
        rintro a w ⟨s3, rfl, hE, H⟩
        replace hm := hR1; dsimp only at hm
        refine Runs.region ?_
        refine WR.seg hE 3 [] [0, 1, 5, 6, 7] (Lo := [(0, .pointer (some ⟨p_w_, 0, none⟩)), (1, .int .i64 0), (5, .int .i64 (w_.has0.length : Int)), (6, .int .i64 s3.1), (7, .int .i64 (w64 (k_ + 1)))]) (obs := []) rfl (by kernel_rfl) trivial fun a hE => ?_
        refine WR.done rfl ?_
        exact ih m (Nat.lt_succ_self m) _ _ ⟨s3.1, w64 (k_ + 1), s3.2, hE.sel [0, 1, 5, 6, 7] (by kernel_rfl), H, hm⟩
      · replace hm := cond_f c hm
        refine Runs.exit rfl ?_
        cases hm
        exact hk _ _ ⟨_, rfl, hE.sel [6] (by kernel_rfl), H⟩
  rintro a w ⟨s1, rfl, hE, H⟩
  replace hm := hR; dsimp only at hm
  refine Runs.seq ?_
  refine Runs.region ?_
  refine WR.seg hE 3 [] [4] (Lo := [(4, .bool (s1.1 == (-1)))]) (obs := []) rfl (by kernel_rfl) trivial fun a hE => ?_
  refine WR.done rfl ?_
  refine Runs.ret hE Tryz.func69 rfl rfl ?_
  cases hm
  exact ⟨rfl, H⟩

theorem thicketlaw9_world_shape_at1_ok {w0 w : World} {As : List HP} {k : Nat} {p_w_ : Nat} {al_w_ : thicketlaw9_world.A} {w_ : thicketlaw9_world} {t : Bool × thicketlaw9_world}  (hm : thicketlaw9_world_shape_at1 k w_ = some t) (H : St w0 (thicketlaw9_world.R p_w_ al_w_ w_ :: As) w) :
    CallsR Tryz.prog 69 #[.pointer (some ⟨p_w_, 0, none⟩), .int .i64 1] w fun v w' => v = .bool t.1 ∧ St w0 (thicketlaw9_world.R p_w_ al_w_ t.2 :: As) w' := by
  rw [thicketlaw9_world_shape_at1] at hm
  refine enter (args := [.pointer (some ⟨p_w_, 0, none⟩), .int .i64 1]) Tryz.func69 rfl rfl rfl fun a hE => ?_
  refine Runs.seq ?_
  refine Runs.region ?_
  refine WR.seg hE 1 [] [0, 1] (Lo := [(0, .pointer (some ⟨p_w_, 0, none⟩)), (1, .int .i64 1)]) (obs := []) rfl (by kernel_rfl) trivial fun a hE => ?_
  refine WR.done rfl ?_
  refine Runs.seq ?_
  refine Runs.region ?_
  replace H := thicketlaw9_world.open H
  refine WR.seg hE 8 [.slice al_w_.has1_b w_.has1.length al_w_.has1_c] [0, 1, 5] (Lo := [(0, .pointer (some ⟨p_w_, 0, none⟩)), (1, .int .i64 1), (5, .int .i64 (w_.has1.length : Int))]) (obs := [.p (0 ≤ (1 : Int) ∧ (1 : Int) < ((2 : Nat) : Int)), .cell ⟨p_w_, 4, none⟩ (.slice al_w_.has1_b w_.has1.length al_w_.has1_c)]) rfl (by kernel_rfl) ⟨⟨by decide, by decide⟩, H.cell 0 rfl rfl, trivial⟩ fun a hE => ?_
  refine WR.done rfl ?_
  refine Runs.seq ?_
  refine Runs.region ?_
  refine WR.seg hE 7 [.int .i64 w_.root1] [0, 1, 5, 6] (Lo := [(0, .pointer (some ⟨p_w_, 0, none⟩)), (1, .int .i64 1), (5, .int .i64 (w_.has1.length : Int)), (6, .int .i64 w_.root1)]) (obs := [.p (0 ≤ (1 : Int) ∧ (1 : Int) < ((2 : Nat) : Int)), .cell ⟨p_w_, 2, none⟩ (.int .i64 w_.root1)]) rfl (by kernel_rfl) ⟨⟨by decide, by decide⟩, H.cell 0 rfl rfl, trivial⟩ fun a hE => ?_
  refine WR.done rfl ?_
  refine Runs.seq ?_
  refine Runs.seq ?_
  refine Runs.region ?_
  refine WR.seg hE 1 [] [0, 1, 5, 6, 7] (Lo := [(0, .pointer (some ⟨p_w_, 0, none⟩)), (1, .int .i64 1), (5, .int .i64 (w_.has1.length : Int)), (6, .int .i64 w_.root1), (7, .int .i64 0)]) (obs := []) rfl (by kernel_rfl) trivial fun a hE => ?_
  refine WR.done rfl ?_
  replace H := thicketlaw9_world.shut al_w_ (w_) H.t3.t3.t3.t3
  obtain ⟨s, es, hR⟩ := bind_some hm
  refine Runs.join (fun a w => ∃ s1, s = Sum.inr s1 ∧ EnvOk 50 a [(6, .int .i64 s1.1)] ∧ St w0 (thicketlaw9_world.R p_w_ al_w_ s1.2 :: As) w) (fun hk => ?_) ?_
  · replace hm := es; clear es
    refine Runs.block ?_
    refine Runs.loop (fun m a w => ∃ (n : Int), ∃ (k_ : Int), ∃ (m_ : thicketlaw9_world), EnvOk 50 a [(0, .pointer (some ⟨p_w_, 0, none⟩)), (1, .int .i64 1), (5, .int .i64 (w_.has1.length : Int)), (6, .int .i64 n), (7, .int .i64 k_)] ∧ St w0 (thicketlaw9_world.R p_w_ al_w_ m_ :: As) w ∧ thicketlaw9_world_shape_at1_l0 (w_.has1.length : Int) m n k_ m_ = some s) k ⟨w_.root1, 0, w_, hE.sel [0, 1, 5, 6, 7] (by kernel_rfl), H, hm⟩ ?_
    rintro m ih a w ⟨n, k_, m_, hE, H, hm⟩
    cases m with
    | zero => simp [thicketlaw9_world_shape_at1_l0] at hm
    | succ m =>
      rw [thicketlaw9_world_shape_at1_l0] at hm
      refine Runs.seq ?_
      refine Runs.seq ?_
      refine Runs.region ?_
      refine WR.seg hE 2 [] [0, 1, 5, 6, 7, 22] (Lo := [(0, .pointer (some ⟨p_w_, 0, none⟩)), (1, .int .i64 1), (5, .int .i64 (w_.has1.length : Int)), (6, .int .i64 n), (7, .int .i64 k_), (22, .bool (decide (k_ < 12)))]) (obs := []) rfl (by kernel_rfl) trivial fun a hE => ?_
      refine WR.done rfl ?_
      refine Runs.cond hE rfl (fun c => ?_) (fun c => ?_)
      · replace hm := cond_t c hm
        refine Runs.skip ?_
        refine Runs.seq ?_
        obtain ⟨s2, es2, hR1⟩ := bind_some hm
        refine Runs.join (fun a w => ∃ s3, s2 = Sum.inr s3 ∧ EnvOk 50 a [(0, .pointer (some ⟨p_w_, 0, none⟩)), (1, .int .i64 1), (5, .int .i64 (w_.has1.length : Int)), (6, .int .i64 s3.1), (7, .int .i64 k_)] ∧ St w0 (thicketlaw9_world.R p_w_ al_w_ s3.2 :: As) w) (fun hk => ?_) ?_
        · replace hm := es2; clear es2
          refine Runs.block ?_
          refine Runs.seq ?_
          refine Runs.seq ?_
          refine Runs.region ?_
          obtain ⟨u, eu, hm⟩ := bind_some hm
          refine WR.seg hE 6 [] [0, 1, 5, 6, 7, 30] (Lo := [(0, .pointer (some ⟨p_w_, 0, none⟩)), (1, .int .i64 1), (5, .int .i64 (w_.has1.length : Int)), (6, .int .i64 n), (7, .int .i64 k_), (30, .bool ((IntKind.wrap .i64 ((BitVec.ofInt 64 (Int.fdiv (w_.has1.length : Int) (2 ^ (min (Int.toNat (IntKind.wrap .u64 (k_))) 64))) &&& BitVec.ofInt 64 1).toNat : Int)) == 0))]) (obs := [.p (0 ≤ IntKind.wrap .u64 (k_))]) rfl (by kernel_rfl) ⟨(nn_spec eu), trivial⟩ fun a hE => ?_
          refine WR.done rfl ?_
          refine Runs.cond hE rfl (fun c => ?_) (fun c => ?_)
          · replace hm := cond_t c hm
            refine Runs.exit rfl ?_
            cases hm
            exact hk _ _ ⟨_, rfl, hE.sel [0, 1, 5, 6, 7] (by kernel_rfl), H⟩
          · replace hm := cond_f c hm
            refine Runs.skip ?_
            refine Runs.seq ?_
            refine Runs.seq ?_
            obtain ⟨s4, es4, hm⟩ := bind_some hm
            refine Runs.join (fun a w => EnvOk 50 a [(0, .pointer (some ⟨p_w_, 0, none⟩)), (1, .int .i64 1), (5, .int .i64 (w_.has1.length : Int)), (6, .int .i64 n), (7, .int .i64 k_), (41, .bool s4.1)] ∧ St w0 (thicketlaw9_world.R p_w_ al_w_ s4.2 :: As) w) (fun hk => ?_) ?_
            · replace hm := es4; clear es4
              refine Runs.region ?_
              refine WR.seg hE 3 [] [0, 1, 5, 6, 7, 33] (Lo := [(0, .pointer (some ⟨p_w_, 0, none⟩)), (1, .int .i64 1), (5, .int .i64 (w_.has1.length : Int)), (6, .int .i64 n), (7, .int .i64 k_), (33, .bool (n == (-1)))]) (obs := []) rfl (by kernel_rfl) trivial fun a hE => ?_
              rcases Bool.eq_false_or_eq_true (n == (-1)) with c | c
              · replace hE := hE.dec 33 c (by kernel_rfl)
                replace hm := cond_t c hm
                have c_ := c
                refine WR.seg hE 11 [] [0, 1, 5, 6, 7, 41] (Lo := [(0, .pointer (some ⟨p_w_, 0, none⟩)), (1, .int .i64 1), (5, .int .i64 (w_.has1.length : Int)), (6, .int .i64 n), (7, .int .i64 k_), (41, .bool true)]) (obs := []) rfl (by kernel_rfl) trivial fun a hE => ?_
                refine WR.done rfl ?_
                cases hm
                exact hk _ _ ⟨hE.sel [0, 1, 5, 6, 7, 41] (by kernel_rfl), H⟩
              · replace hE := hE.dec 33 c (by kernel_rfl)
                replace hm := cond_f c hm
                have c_1 := c
                refine WR.seg hE 8 [] [0, 1, 5, 6, 7, 33, 34, 35, 36, 37, 38] (Lo := [(0, .pointer (some ⟨p_w_, 0, none⟩)), (1, .int .i64 1), (5, .int .i64 (w_.has1.length : Int)), (6, .int .i64 n), (7, .int .i64 k_), (33, .bool false), (34, .pointer (some ⟨p_w_, 0, none⟩)), (35, .int .i64 1), (36, .int .i64 n), (37, .int .i64 k_), (38, .agg #[.int .i64 0, .int .i64 0, .int .i64 0])]) (obs := []) rfl (by kernel_rfl) trivial fun a hE => ?_
                obtain ⟨t_, et_, hm⟩ := bind_some hm
                have hC_ := thicketlaw9_world_tree_ok et_ H
                try dsimp only at hC_
                refine WR.eff hE rfl rfl rfl rfl (OpTo.fn hE rfl rfl Tryz.call129 hC_) ?_
                rintro _ w ⟨rfl, H⟩ a hE
                refine WR.seg hE 11 [] [0, 1, 5, 6, 7, 41] (Lo := [(0, .pointer (some ⟨p_w_, 0, none⟩)), (1, .int .i64 1), (5, .int .i64 (w_.has1.length : Int)), (6, .int .i64 n), (7, .int .i64 k_), (41, .bool (!t_.1))]) (obs := []) rfl (by kernel_rfl) trivial fun a hE => ?_
                refine WR.done rfl ?_
                cases hm
                exact hk _ _ ⟨hE.sel [0, 1, 5, 6, 7, 41] (by kernel_rfl), H⟩
            rintro a w ⟨hE, H⟩
            refine Runs.cond hE rfl (fun c => ?_) (fun c => ?_)
            · replace hm := cond_t c hm
              refine Runs.seq ?_
              refine Runs.region ?_
              refine WR.seg hE 1 [] [4] (Lo := [(4, .bool false)]) (obs := []) rfl (by kernel_rfl) trivial fun a hE => ?_
              refine WR.done rfl ?_
              refine Runs.ret hE Tryz.func69 rfl rfl ?_
              cases hm
              dsimp only at hR1; cases hR1
              dsimp only at hR; cases hR
              exact ⟨rfl, H⟩
            · replace hm := cond_f c hm
              refine Runs.skip ?_
              refine Runs.region ?_
              replace H := thicketlaw9_world.open H
              refine WR.seg hE 5 [.pointer (some ⟨al_w_.a__p, 0, none⟩)] [0, 1, 5, 6, 7, 45, 46] (Lo := [(0, .pointer (some ⟨p_w_, 0, none⟩)), (1, .int .i64 1), (5, .int .i64 (w_.has1.length : Int)), (6, .int .i64 n), (7, .int .i64 k_), (45, .pointer (some ⟨al_w_.a__p, 0, none⟩)), (46, .int .i64 n)]) (obs := [.cell ⟨p_w_, 0, none⟩ (.pointer (some ⟨al_w_.a__p, 0, none⟩))]) rfl (by kernel_rfl) ⟨H.cell 0 rfl rfl, trivial⟩ fun a hE => ?_
              obtain ⟨t_1, et_1, hm⟩ := bind_some hm
              refine WR.eff hE rfl rfl rfl rfl (OpTo.fn hE rfl rfl Tryz.call73 (arena_Arena_Cell_ok et_1 H.t1)) ?_
              rintro _ w ⟨rfl, H⟩ a hE
              refine WR.seg hE 7 [] [0, 1, 5, 6, 7] (Lo := [(0, .pointer (some ⟨p_w_, 0, none⟩)), (1, .int .i64 1), (5, .int .i64 (w_.has1.length : Int)), (6, .int .i64 t_1.1), (7, .int .i64 k_)]) (obs := []) rfl (by kernel_rfl) trivial fun a hE => ?_
              refine WR.done rfl ?_
              refine Runs.inBlock ?_
              replace H := thicketlaw9_world.shut al_w_ (thicketlaw9_world.mk t_1.2 s4.2.root0 s4.2.root1 s4.2.has0 s4.2.has1 s4.2.next s4.2.spent s4.2.most) H.t3.t3.t2.t3
              cases hm
              exact hk _ _ ⟨_, rfl, hE.sel [0, 1, 5, 6, 7] (by kernel_rfl), H⟩
        rintro a w ⟨s3, rfl, hE, H⟩
        replace hm := hR1; dsimp only at hm
        refine Runs.region ?_
        refine WR.seg hE 3 [] [0, 1, 5, 6, 7] (Lo := [(0, .pointer (some ⟨p_w_, 0, none⟩)), (1, .int .i64 1), (5, .int .i64 (w_.has1.length : Int)), (6, .int .i64 s3.1), (7, .int .i64 (w64 (k_ + 1)))]) (obs := []) rfl (by kernel_rfl) trivial fun a hE => ?_
        refine WR.done rfl ?_
        exact ih m (Nat.lt_succ_self m) _ _ ⟨s3.1, w64 (k_ + 1), s3.2, hE.sel [0, 1, 5, 6, 7] (by kernel_rfl), H, hm⟩
      · replace hm := cond_f c hm
        refine Runs.exit rfl ?_
        cases hm
        exact hk _ _ ⟨_, rfl, hE.sel [6] (by kernel_rfl), H⟩
  rintro a w ⟨s1, rfl, hE, H⟩
  replace hm := hR; dsimp only at hm
  refine Runs.seq ?_
  refine Runs.region ?_
  refine WR.seg hE 3 [] [4] (Lo := [(4, .bool (s1.1 == (-1)))]) (obs := []) rfl (by kernel_rfl) trivial fun a hE => ?_
  refine WR.done rfl ?_
  refine Runs.ret hE Tryz.func69 rfl rfl ?_
  cases hm
  exact ⟨rfl, H⟩

theorem thicketlaw9_world_shape_ok {w0 w : World} {As : List HP} {k : Nat} {p_w_ : Nat} {al_w_ : thicketlaw9_world.A} {w_ : thicketlaw9_world} {h_ : Int} {t : Bool × thicketlaw9_world}  (hm : thicketlaw9_world_shape k w_ h_ = some t) (H : St w0 (thicketlaw9_world.R p_w_ al_w_ w_ :: As) w) :
    CallsR Tryz.prog 69 #[.pointer (some ⟨p_w_, 0, none⟩), .int .i64 h_] w fun v w' => v = .bool t.1 ∧ St w0 (thicketlaw9_world.R p_w_ al_w_ t.2 :: As) w' := by
  rw [thicketlaw9_world_shape] at hm
  by_cases h0 : h_ = 0
  · subst h0; simp only [if_pos] at hm
    refine (thicketlaw9_world_shape_at0_ok hm H).mono ?_
    rintro v w' ⟨hv, H⟩; exact ⟨hv, H⟩
  rw [if_neg h0] at hm
  by_cases h1 : h_ = 1
  · subst h1; simp only [if_pos] at hm
    refine (thicketlaw9_world_shape_at1_ok hm H).mono ?_
    rintro v w' ⟨hv, H⟩; exact ⟨hv, H⟩
  rw [if_neg h1] at hm
  cases hm

end Go.Proofs.YthblgkpmefpllaaGreat
