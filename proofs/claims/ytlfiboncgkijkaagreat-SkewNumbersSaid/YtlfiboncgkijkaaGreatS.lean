import Derived.Test.YtlfiboncgkijkaaGreatSp3
set_option linter.unusedVariables false
set_option linter.unusedSimpArgs false
set_option maxRecDepth 10000
set_option maxHeartbeats 4000000
namespace Go.Proofs.YtlfiboncgkijkaaGreat
open Go.Th

theorem skew_without_ok {w0 w : World} {As : List HP} {k : Nat} {p_a_ : Nat} {al_a_ : arena_Arena.A} {a_ : arena_Arena} {sb_l : Option Addr} {sc_l : Nat} {l : List Int} {n : Int} {t : Int × Int × arena_Arena}  (hm : skew_without k a_ l n = some t) (H : St w0 (arena_Arena.R p_a_ al_a_ a_ :: Sl 3 ecI 1 sb_l sc_l l :: As) w) :
    CallsR Tryz.prog 55 #[.pointer (some ⟨p_a_, 0, none⟩), .slice sb_l l.length sc_l, .int .i64 n] w fun v w' => ∃ (z_a__free_b : Option Addr), ∃ (z_a__free_c : Nat), v = .tuple #[.int .i64 t.1, .int .i64 t.2.1] ∧ St w0 (arena_Arena.R p_a_ (arena_Arena.A.mk al_a_.l_b al_a_.l_c z_a__free_b z_a__free_c al_a_.m__p) t.2.2 :: As) w' := by
  rw [skew_without] at hm
  refine enter (args := [.pointer (some ⟨p_a_, 0, none⟩), .slice sb_l l.length sc_l, .int .i64 n]) Tryz.func55 rfl rfl rfl fun a hE => ?_
  refine Runs.seq ?_
  refine Runs.region ?_
  refine WR.eff hE rfl rfl rfl rfl (OpTo.new hE H [] (.cells #[.int .i64 n] 3 (0, 0)) (fun r => .pointer (some ⟨r, 0, none⟩)) (obs := []) rfl (fun _ => by kernel_rfl) trivial) ?_
  rintro _ w ⟨r, rfl, H⟩ a hE
  refine WR.seg hE 3 [] [0, 1, 5] (Lo := [(0, .pointer (some ⟨p_a_, 0, none⟩)), (1, .slice sb_l l.length sc_l), (5, .pointer (some ⟨r, 0, none⟩))]) (obs := []) rfl (by kernel_rfl) trivial fun a hE => ?_
  refine WR.done rfl ?_
  refine Runs.seq ?_
  refine Runs.region ?_
  refine WR.seg hE 2 [] [0, 5, 16, 17] (Lo := [(0, .pointer (some ⟨p_a_, 0, none⟩)), (5, .pointer (some ⟨r, 0, none⟩)), (16, .slice sb_l l.length sc_l), (17, .func (.func 77) #[] #[.pointer (some ⟨r, 0, none⟩)])]) (obs := []) rfl (by kernel_rfl) trivial fun a hE => ?_
  obtain ⟨t_, et_, hm⟩ := bind_some hm
  refine WR.eff hE rfl rfl rfl rfl (OpTo.fn hE rfl rfl Tryz.call76 (slices_DeleteFunc_int_g77_ok et_ H.t2)) ?_
  rintro _ w ⟨sb, sc, rfl, H⟩ a hE
  refine WR.seg hE 4 [] [0, 5, 8] (Lo := [(0, .pointer (some ⟨p_a_, 0, none⟩)), (5, .pointer (some ⟨r, 0, none⟩)), (8, .slice sb t_.length sc)]) (obs := []) rfl (by kernel_rfl) trivial fun a hE => ?_
  refine WR.done rfl ?_
  refine Runs.seq ?_
  refine Runs.region ?_
  refine WR.seg hE 1 [] [0, 5, 8, 9] (Lo := [(0, .pointer (some ⟨p_a_, 0, none⟩)), (5, .pointer (some ⟨r, 0, none⟩)), (8, .slice sb t_.length sc), (9, .slice none 0 0)]) (obs := []) rfl (by kernel_rfl) trivial fun a hE => ?_
  refine WR.done rfl ?_
  refine Runs.seq ?_
  refine Runs.seq ?_
  refine Runs.region ?_
  refine WR.seg hE 2 [.int .i64 n] [0, 5, 8, 9, 19, 20] (Lo := [(0, .pointer (some ⟨p_a_, 0, none⟩)), (5, .pointer (some ⟨r, 0, none⟩)), (8, .slice sb t_.length sc), (9, .slice none 0 0), (19, .pointer (some ⟨p_a_, 0, none⟩)), (20, .int .i64 n)]) (obs := [.cell ⟨r, 0, none⟩ (.int .i64 n)]) rfl (by kernel_rfl) ⟨H.cell 1 rfl rfl, trivial⟩ fun a hE => ?_
  obtain ⟨t_1, et_1, hm⟩ := bind_some hm
  refine WR.eff hE rfl rfl rfl rfl (OpTo.fn hE rfl rfl Tryz.call73 (trees_Kids_ok et_1 H.t2)) ?_
  rintro _ w ⟨sb1, sc1, rfl, H⟩ a hE
  refine WR.seg hE 5 [] [0, 5, 8, 9, 21, 22, 23] (Lo := [(0, .pointer (some ⟨p_a_, 0, none⟩)), (5, .pointer (some ⟨r, 0, none⟩)), (8, .slice sb t_.length sc), (9, .slice none 0 0), (21, .slice sb1 t_1.1.length sc1), (22, .int .i64 (t_1.1.length : Int)), (23, .int .i64 0)]) (obs := []) rfl (by kernel_rfl) trivial fun a hE => ?_
  refine WR.done rfl ?_
  obtain ⟨s, es, hm⟩ := bind_some hm
  refine Runs.join (fun a w => ∃ (sb4 : Option Addr), ∃ (sc4 : Nat), ∃ (sb5 : Option Addr), ∃ (sc5 : Nat), EnvOk 59 a [(0, .pointer (some ⟨p_a_, 0, none⟩)), (5, .pointer (some ⟨r, 0, none⟩)), (8, .slice sb4 s.1.length sc4), (9, .slice sb5 s.2.1.length sc5)] ∧ St w0 (Sl 3 ecI 1 sb4 sc4 s.1 :: Sl 3 ecI 1 sb5 sc5 s.2.1 :: arena_Arena.R p_a_ al_a_ s.2.2 :: Blk r 3 [.int .i64 n] :: As) w) (fun hk => ?_) ?_
  · replace hm := es; clear es
    replace H := H.slNil 3 ecI 1
    refine Runs.block ?_
    refine Runs.loop (fun m a w => ∃ (rest : List Int), ∃ (alone : List Int), ∃ (x : Int), ∃ (m_ : arena_Arena), ∃ (sb6 : Option Addr), ∃ (sc6 : Nat), ∃ (sb7 : Option Addr), ∃ (sc7 : Nat), EnvOk 59 a [(0, .pointer (some ⟨p_a_, 0, none⟩)), (5, .pointer (some ⟨r, 0, none⟩)), (8, .slice sb6 rest.length sc6), (9, .slice sb7 alone.length sc7), (21, .slice sb1 t_1.1.length sc1), (22, .int .i64 (t_1.1.length : Int)), (23, .int .i64 x)] ∧ St w0 (Sl 3 ecI 1 sb6 sc6 rest :: Sl 3 ecI 1 sb7 sc7 alone :: Sl 3 ecI 1 sb1 sc1 t_1.1 :: arena_Arena.R p_a_ al_a_ m_ :: Blk r 3 [.int .i64 n] :: As) w ∧ skew_without_l0 (t_1.1.length : Int) t_1.1 n m rest alone x m_ = some s) k ⟨t_, ([] : List Int), 0, t_1.2, sb, sc, none, 0, hE.sel [0, 5, 8, 9, 21, 22, 23] (by kernel_rfl), H.t4.t3.t3.t3.t4, hm⟩ ?_
    rintro m ih a w ⟨rest, alone, x, m_, sb6, sc6, sb7, sc7, hE, H, hm⟩
    cases m with
    | zero => simp [skew_without_l0] at hm
    | succ m =>
      rw [skew_without_l0] at hm
      refine Runs.seq ?_
      refine Runs.region ?_
      refine WR.seg hE 1 [] [0, 5, 8, 9, 21, 22, 23, 24] (Lo := [(0, .pointer (some ⟨p_a_, 0, none⟩)), (5, .pointer (some ⟨r, 0, none⟩)), (8, .slice sb6 rest.length sc6), (9, .slice sb7 alone.length sc7), (21, .slice sb1 t_1.1.length sc1), (22, .int .i64 (t_1.1.length : Int)), (23, .int .i64 x), (24, .bool (decide (x < (t_1.1.length : Int))))]) (obs := []) rfl (by kernel_rfl) trivial fun a hE => ?_
      refine WR.done rfl ?_
      refine Runs.seq ?_
      refine Runs.cond hE rfl (fun c => ?_) (fun c => ?_)
      · replace hm := cond_t c hm
        refine Runs.skip ?_
        refine Runs.seq ?_
        obtain ⟨s1, es1, hm⟩ := bind_some hm
        refine Runs.join (fun a w => ∃ (sb8 : Option Addr), ∃ (sc8 : Nat), ∃ (sb9 : Option Addr), ∃ (sc9 : Nat), EnvOk 59 a [(0, .pointer (some ⟨p_a_, 0, none⟩)), (5, .pointer (some ⟨r, 0, none⟩)), (8, .slice sb8 s1.1.length sc8), (9, .slice sb9 s1.2.1.length sc9), (21, .slice sb1 t_1.1.length sc1), (22, .int .i64 (t_1.1.length : Int)), (23, .int .i64 x)] ∧ St w0 (Sl 3 ecI 1 sb8 sc8 s1.1 :: Sl 3 ecI 1 sb9 sc9 s1.2.1 :: Sl 3 ecI 1 sb1 sc1 t_1.1 :: arena_Arena.R p_a_ al_a_ s1.2.2 :: Blk r 3 [.int .i64 n] :: As) w) (fun hk => ?_) ?_
        · replace hm := es1; clear es1
          refine Runs.block ?_
          refine Runs.seq ?_
          refine Runs.region ?_
          obtain ⟨x2, ex2, hm⟩ := bind_some hm
          obtain ⟨b, o, hs, hb⟩ := SlRd.base (sl_rd 3 ecI 1 _ _ _) ecI_ok H 2 rfl ex2
          refine WR.seg hE 3 [.pointer (some ⟨b, o, none⟩), .int .i64 x2] [0, 5, 8, 9, 11, 21, 22, 23] (Lo := [(0, .pointer (some ⟨p_a_, 0, none⟩)), (5, .pointer (some ⟨r, 0, none⟩)), (8, .slice sb6 rest.length sc6), (9, .slice sb7 alone.length sc7), (11, .int .i64 x2), (21, .slice sb1 t_1.1.length sc1), (22, .int .i64 (t_1.1.length : Int)), (23, .int .i64 x)]) (obs := [.p ((sb1 : Option Addr) = some ⟨b, o, none⟩), .p (0 ≤ (x : Int) ∧ (x : Int) < ((t_1.1.length : Nat) : Int)), .cell ⟨b, o + (Int.toNat x) * 1, none⟩ (.int .i64 x2)]) rfl (by kernel_rfl) ⟨hs, hb, SlRd.cells (sl_rd 3 ecI 1 _ _ _) ecI_ok H 2 rfl hs ex2 0 _ rfl, trivial⟩ fun a hE => ?_
          refine WR.done rfl ?_
          refine Runs.seq ?_
          refine Runs.region ?_
          refine WR.seg hE 2 [] [0, 5, 8, 9, 11, 21, 22, 23, 27, 28] (Lo := [(0, .pointer (some ⟨p_a_, 0, none⟩)), (5, .pointer (some ⟨r, 0, none⟩)), (8, .slice sb6 rest.length sc6), (9, .slice sb7 alone.length sc7), (11, .int .i64 x2), (21, .slice sb1 t_1.1.length sc1), (22, .int .i64 (t_1.1.length : Int)), (23, .int .i64 x), (27, .pointer (some ⟨p_a_, 0, none⟩)), (28, .int .i64 x2)]) (obs := []) rfl (by kernel_rfl) trivial fun a hE => ?_
          obtain ⟨t_2, et_2, hm⟩ := bind_some hm
          refine WR.eff hE rfl rfl rfl rfl (OpTo.fn hE rfl rfl Tryz.call51 (arena_Arena_Get_ok et_2 H.t3)) ?_
          rintro _ w ⟨rfl, hf1, hf, H⟩ a hE
          refine WR.seg hE 4 [] [0, 5, 8, 9, 11, 21, 22, 23, 30] (Lo := [(0, .pointer (some ⟨p_a_, 0, none⟩)), (5, .pointer (some ⟨r, 0, none⟩)), (8, .slice sb6 rest.length sc6), (9, .slice sb7 alone.length sc7), (11, .int .i64 x2), (21, .slice sb1 t_1.1.length sc1), (22, .int .i64 (t_1.1.length : Int)), (23, .int .i64 x), (30, .bool (t_2.1 == 0))]) (obs := []) rfl (by kernel_rfl) trivial fun a hE => ?_
          refine WR.done rfl ?_
          refine Runs.cond hE rfl (fun c => ?_) (fun c => ?_)
          · replace hm := cond_t c hm
            refine Runs.region ?_
            refine WR.seg hE 2 [] [0, 5, 8, 9, 21, 22, 23, 31, 32] (Lo := [(0, .pointer (some ⟨p_a_, 0, none⟩)), (5, .pointer (some ⟨r, 0, none⟩)), (8, .slice sb6 rest.length sc6), (9, .slice sb7 alone.length sc7), (21, .slice sb1 t_1.1.length sc1), (22, .int .i64 (t_1.1.length : Int)), (23, .int .i64 x), (31, .slice sb7 alone.length sc7), (32, .int .i64 x2)]) (obs := []) rfl (by kernel_rfl) trivial fun a hE => ?_
            refine WR.eff hE rfl rfl rfl rfl (OpTo.buildSl (T := 3) hE H ecI_ok ([x2] : List Int) rfl (fun _ => by kernel_rfl) rfl rfl rfl) ?_
            rintro _ w ⟨r1, rfl, H⟩ a hE
            obtain ⟨l2, el2, hm⟩ := bind_some hm
            replace H := H.t3
            refine WR.eff hE rfl rfl rfl rfl (OpTo.appendM el2 hE H ecI_ok rfl rfl rfl rfl rfl rfl rfl rfl rfl rfl (SlRd.all (sl_rd 3 ecI 1 _ _ _) ecI_ok H 1 rfl) rfl) ?_
            rintro _ w ⟨sb10, sc10, rfl, H⟩ a hE
            refine WR.seg hE 5 [] [0, 5, 8, 9, 21, 22, 23] (Lo := [(0, .pointer (some ⟨p_a_, 0, none⟩)), (5, .pointer (some ⟨r, 0, none⟩)), (8, .slice sb6 rest.length sc6), (9, .slice sb10 l2.length sc10), (21, .slice sb1 t_1.1.length sc1), (22, .int .i64 (t_1.1.length : Int)), (23, .int .i64 x)]) (obs := []) rfl (by kernel_rfl) trivial fun a hE => ?_
            refine WR.done rfl ?_
            refine Runs.inBlock ?_
            cases hm
            exact hk _ _ ⟨sb6, sc6, sb10, sc10, hE.sel [0, 5, 8, 9, 21, 22, 23] (by kernel_rfl), H.x1.t4.t2.t4.t3.t4⟩
          · replace hm := cond_f c hm
            refine Runs.region ?_
            refine WR.seg hE 2 [] [0, 5, 8, 9, 21, 22, 23, 35, 36] (Lo := [(0, .pointer (some ⟨p_a_, 0, none⟩)), (5, .pointer (some ⟨r, 0, none⟩)), (8, .slice sb6 rest.length sc6), (9, .slice sb7 alone.length sc7), (21, .slice sb1 t_1.1.length sc1), (22, .int .i64 (t_1.1.length : Int)), (23, .int .i64 x), (35, .slice sb6 rest.length sc6), (36, .int .i64 x2)]) (obs := []) rfl (by kernel_rfl) trivial fun a hE => ?_
            refine WR.eff hE rfl rfl rfl rfl (OpTo.buildSl (T := 3) hE H ecI_ok ([x2] : List Int) rfl (fun _ => by kernel_rfl) rfl rfl rfl) ?_
            rintro _ w ⟨r2, rfl, H⟩ a hE
            obtain ⟨l3, el3, hm⟩ := bind_some hm
            replace H := H.t2
            refine WR.eff hE rfl rfl rfl rfl (OpTo.appendM el3 hE H ecI_ok rfl rfl rfl rfl rfl rfl rfl rfl rfl rfl (SlRd.all (sl_rd 3 ecI 1 _ _ _) ecI_ok H 1 rfl) rfl) ?_
            rintro _ w ⟨sb11, sc11, rfl, H⟩ a hE
            refine WR.seg hE 5 [] [0, 5, 8, 9, 21, 22, 23] (Lo := [(0, .pointer (some ⟨p_a_, 0, none⟩)), (5, .pointer (some ⟨r, 0, none⟩)), (8, .slice sb11 l3.length sc11), (9, .slice sb7 alone.length sc7), (21, .slice sb1 t_1.1.length sc1), (22, .int .i64 (t_1.1.length : Int)), (23, .int .i64 x)]) (obs := []) rfl (by kernel_rfl) trivial fun a hE => ?_
            refine WR.done rfl ?_
            refine Runs.inBlock ?_
            cases hm
            exact hk _ _ ⟨sb11, sc11, sb7, sc7, hE.sel [0, 5, 8, 9, 21, 22, 23] (by kernel_rfl), H.x1.t4.t2.t4.t4.t4⟩
        rintro a w ⟨sb8, sc8, sb9, sc9, hE, H⟩
        refine Runs.region ?_
        refine WR.seg hE 2 [] [0, 5, 8, 9, 21, 22, 23] (Lo := [(0, .pointer (some ⟨p_a_, 0, none⟩)), (5, .pointer (some ⟨r, 0, none⟩)), (8, .slice sb8 s1.1.length sc8), (9, .slice sb9 s1.2.1.length sc9), (21, .slice sb1 t_1.1.length sc1), (22, .int .i64 (t_1.1.length : Int)), (23, .int .i64 (w64 (x + 1)))]) (obs := []) rfl (by kernel_rfl) trivial fun a hE => ?_
        refine WR.done rfl ?_
        exact ih m (Nat.lt_succ_self m) _ _ ⟨s1.1, s1.2.1, w64 (x + 1), s1.2.2, sb8, sc8, sb9, sc9, hE.sel [0, 5, 8, 9, 21, 22, 23] (by kernel_rfl), H.t4.t4.t4.t4.t4, hm⟩
      · replace hm := cond_f c hm
        refine Runs.exit rfl ?_
        cases hm
        exact hk _ _ ⟨sb6, sc6, sb7, sc7, hE.sel [0, 5, 8, 9] (by kernel_rfl), H.x2.t3.t3.t3.t3⟩
  rintro a w ⟨sb4, sc4, sb5, sc5, hE, H⟩
  refine Runs.seq ?_
  refine Runs.region ?_
  refine WR.seg hE 2 [.int .i64 n] [0, 8, 9, 40, 41] (Lo := [(0, .pointer (some ⟨p_a_, 0, none⟩)), (8, .slice sb4 s.1.length sc4), (9, .slice sb5 s.2.1.length sc5), (40, .pointer (some ⟨p_a_, 0, none⟩)), (41, .int .i64 n)]) (obs := [.cell ⟨r, 0, none⟩ (.int .i64 n)]) rfl (by kernel_rfl) ⟨H.cell 3 rfl rfl, trivial⟩ fun a hE => ?_
  obtain ⟨t_3, et_3, hm⟩ := bind_some hm
  refine WR.eff hE rfl rfl rfl rfl (OpTo.fn hE rfl rfl Tryz.call78 (node_End_ok et_3 H.t2)) ?_
  rintro _ w ⟨z, z1, rfl, H⟩ a hE
  refine WR.seg hE 4 [] [0, 8, 9, 12] (Lo := [(0, .pointer (some ⟨p_a_, 0, none⟩)), (8, .slice sb4 s.1.length sc4), (9, .slice sb5 s.2.1.length sc5), (12, .int .i64 t_3.1)]) (obs := []) rfl (by kernel_rfl) trivial fun a hE => ?_
  refine WR.done rfl ?_
  refine Runs.seq ?_
  refine Runs.region ?_
  refine WR.seg hE 2 [] [0, 9, 12, 43, 44] (Lo := [(0, .pointer (some ⟨p_a_, 0, none⟩)), (9, .slice sb5 s.2.1.length sc5), (12, .int .i64 t_3.1), (43, .pointer (some ⟨p_a_, 0, none⟩)), (44, .slice sb4 s.1.length sc4)]) (obs := []) rfl (by kernel_rfl) trivial fun a hE => ?_
  obtain ⟨t_4, et_4, hm⟩ := bind_some hm
  replace H := H.t1.t1
  refine WR.eff hE rfl rfl rfl rfl (OpTo.fn hE rfl rfl Tryz.call56 (trees_Carry_ok (hX_l := (sl_rd 3 ecI 1 _ _ _)) (hC_l := (H.slCap 1 rfl).1) et_4 H)) ?_
  rintro _ w ⟨rfl, H⟩ a hE
  refine WR.seg hE 4 [] [0, 9, 12, 13] (Lo := [(0, .pointer (some ⟨p_a_, 0, none⟩)), (9, .slice sb5 s.2.1.length sc5), (12, .int .i64 t_3.1), (13, .int .i64 t_4.1)]) (obs := []) rfl (by kernel_rfl) trivial fun a hE => ?_
  refine WR.done rfl ?_
  refine Runs.seq ?_
  refine Runs.seq ?_
  refine Runs.region ?_
  refine WR.seg hE 3 [] [0, 12, 13, 46, 47, 48] (Lo := [(0, .pointer (some ⟨p_a_, 0, none⟩)), (12, .int .i64 t_3.1), (13, .int .i64 t_4.1), (46, .slice sb5 s.2.1.length sc5), (47, .int .i64 (s.2.1.length : Int)), (48, .int .i64 0)]) (obs := []) rfl (by kernel_rfl) trivial fun a hE => ?_
  refine WR.done rfl ?_
  obtain ⟨s2, es2, hm⟩ := bind_some hm
  refine Runs.join (fun a w => EnvOk 59 a [(12, .int .i64 t_3.1), (13, .int .i64 s2.1)] ∧ St w0 (arena_Arena.R p_a_ (arena_Arena.A.mk al_a_.l_b al_a_.l_c z z1 al_a_.m__p) s2.2 :: As) w) (fun hk => ?_) ?_
  · replace hm := es2; clear es2
    refine Runs.block ?_
    refine Runs.loop (fun m a w => ∃ (r3 : Int), ∃ (x3 : Int), ∃ (m_1 : arena_Arena), EnvOk 59 a [(0, .pointer (some ⟨p_a_, 0, none⟩)), (12, .int .i64 t_3.1), (13, .int .i64 r3), (46, .slice sb5 s.2.1.length sc5), (47, .int .i64 (s.2.1.length : Int)), (48, .int .i64 x3)] ∧ St w0 (arena_Arena.R p_a_ (arena_Arena.A.mk al_a_.l_b al_a_.l_c z z1 al_a_.m__p) m_1 :: Sl 3 ecI 1 sb5 sc5 s.2.1 :: As) w ∧ skew_without_l1 t_3.1 (s.2.1.length : Int) s.2.1 m r3 x3 m_1 = some s2) k ⟨t_4.1, 0, t_4.2, hE.sel [0, 12, 13, 46, 47, 48] (by kernel_rfl), H.x3.x1.t1.t1, hm⟩ ?_
    rintro m ih a w ⟨r3, x3, m_1, hE, H, hm⟩
    cases m with
    | zero => simp [skew_without_l1] at hm
    | succ m =>
      rw [skew_without_l1] at hm
      refine Runs.seq ?_
      refine Runs.region ?_
      refine WR.seg hE 1 [] [0, 12, 13, 46, 47, 48, 49] (Lo := [(0, .pointer (some ⟨p_a_, 0, none⟩)), (12, .int .i64 t_3.1), (13, .int .i64 r3), (46, .slice sb5 s.2.1.length sc5), (47, .int .i64 (s.2.1.length : Int)), (48, .int .i64 x3), (49, .bool (decide (x3 < (s.2.1.length : Int))))]) (obs := []) rfl (by kernel_rfl) trivial fun a hE => ?_
      refine WR.done rfl ?_
      refine Runs.seq ?_
      refine Runs.cond hE rfl (fun c => ?_) (fun c => ?_)
      · replace hm := cond_t c hm
        refine Runs.skip ?_
        refine Runs.seq ?_
        refine Runs.block ?_
        refine Runs.seq ?_
        refine Runs.region ?_
        obtain ⟨x5, ex5, hm⟩ := bind_some hm
        obtain ⟨b1, o1, hs1, hb1⟩ := SlRd.base (sl_rd 3 ecI 1 _ _ _) ecI_ok H 1 rfl ex5
        refine WR.seg hE 3 [.pointer (some ⟨b1, o1, none⟩), .int .i64 x5] [0, 12, 13, 15, 46, 47, 48] (Lo := [(0, .pointer (some ⟨p_a_, 0, none⟩)), (12, .int .i64 t_3.1), (13, .int .i64 r3), (15, .int .i64 x5), (46, .slice sb5 s.2.1.length sc5), (47, .int .i64 (s.2.1.length : Int)), (48, .int .i64 x3)]) (obs := [.p ((sb5 : Option Addr) = some ⟨b1, o1, none⟩), .p (0 ≤ (x3 : Int) ∧ (x3 : Int) < ((s.2.1.length : Nat) : Int)), .cell ⟨b1, o1 + (Int.toNat x3) * 1, none⟩ (.int .i64 x5)]) rfl (by kernel_rfl) ⟨hs1, hb1, SlRd.cells (sl_rd 3 ecI 1 _ _ _) ecI_ok H 1 rfl hs1 ex5 0 _ rfl, trivial⟩ fun a hE => ?_
        refine WR.done rfl ?_
        refine Runs.region ?_
        refine WR.seg hE 3 [] [0, 12, 13, 46, 47, 48, 52, 53, 54] (Lo := [(0, .pointer (some ⟨p_a_, 0, none⟩)), (12, .int .i64 t_3.1), (13, .int .i64 r3), (46, .slice sb5 s.2.1.length sc5), (47, .int .i64 (s.2.1.length : Int)), (48, .int .i64 x3), (52, .pointer (some ⟨p_a_, 0, none⟩)), (53, .int .i64 r3), (54, .int .i64 x5)]) (obs := []) rfl (by kernel_rfl) trivial fun a hE => ?_
        obtain ⟨t_5, et_5, hm⟩ := bind_some hm
        refine WR.eff hE rfl rfl rfl rfl (OpTo.fn hE rfl rfl Tryz.call41 (skew_single_ok et_5 H)) ?_
        rintro _ w ⟨rfl, H⟩ a hE
        refine WR.seg hE 5 [] [0, 12, 13, 46, 47, 48] (Lo := [(0, .pointer (some ⟨p_a_, 0, none⟩)), (12, .int .i64 t_3.1), (13, .int .i64 t_5.1), (46, .slice sb5 s.2.1.length sc5), (47, .int .i64 (s.2.1.length : Int)), (48, .int .i64 x3)]) (obs := []) rfl (by kernel_rfl) trivial fun a hE => ?_
        refine WR.done rfl ?_
        refine Runs.inBlock ?_
        refine Runs.region ?_
        refine WR.seg hE 2 [] [0, 12, 13, 46, 47, 48] (Lo := [(0, .pointer (some ⟨p_a_, 0, none⟩)), (12, .int .i64 t_3.1), (13, .int .i64 t_5.1), (46, .slice sb5 s.2.1.length sc5), (47, .int .i64 (s.2.1.length : Int)), (48, .int .i64 (w64 (x3 + 1)))]) (obs := []) rfl (by kernel_rfl) trivial fun a hE => ?_
        refine WR.done rfl ?_
        exact ih m (Nat.lt_succ_self m) _ _ ⟨t_5.1, w64 (x3 + 1), t_5.2, hE.sel [0, 12, 13, 46, 47, 48] (by kernel_rfl), H.t1.t1, hm⟩
      · replace hm := cond_f c hm
        refine Runs.exit rfl ?_
        cases hm
        exact hk _ _ ⟨hE.sel [12, 13] (by kernel_rfl), H.x1⟩
  rintro a w ⟨hE, H⟩
  refine Runs.seq ?_
  refine Runs.region ?_
  refine WR.seg hE 4 [] [6, 7] (Lo := [(6, .int .i64 s2.1), (7, .int .i64 t_3.1)]) (obs := []) rfl (by kernel_rfl) trivial fun a hE => ?_
  refine WR.done rfl ?_
  refine Runs.ret hE Tryz.func55 rfl rfl ?_
  cases hm
  exact ⟨z, z1, rfl, H⟩

theorem skew_Cut_ok {w0 w : World} {As : List HP} {k : Nat} {p_a_ : Nat} {al_a_ : arena_Arena.A} {a_ : arena_Arena} {r : Int} {i : Int} {t : Int × arena_Arena}  (hm : skew_Cut k a_ r i = some t) (H : St w0 (arena_Arena.R p_a_ al_a_ a_ :: As) w) :
    CallsR Tryz.prog 32 #[.pointer (some ⟨p_a_, 0, none⟩), .int .i64 r, .int .i64 i] w fun v w' => ∃ (z_a__free_b : Option Addr), ∃ (z_a__free_c : Nat), v = .int .i64 t.1 ∧ St w0 (arena_Arena.R p_a_ (arena_Arena.A.mk al_a_.l_b al_a_.l_c z_a__free_b z_a__free_c al_a_.m__p) t.2 :: As) w' := by
  rw [skew_Cut] at hm
  refine enter (args := [.pointer (some ⟨p_a_, 0, none⟩), .int .i64 r, .int .i64 i]) Tryz.func32 rfl rfl rfl fun a hE => ?_
  refine Runs.seq ?_
  refine Runs.region ?_
  refine WR.seg hE 1 [] [0, 1, 2] (Lo := [(0, .pointer (some ⟨p_a_, 0, none⟩)), (1, .int .i64 r), (2, .int .i64 i)]) (obs := []) rfl (by kernel_rfl) trivial fun a hE => ?_
  refine WR.done rfl ?_
  refine Runs.seq ?_
  refine Runs.seq ?_
  refine Runs.region ?_
  refine WR.seg hE 2 [] [0, 1, 2, 12] (Lo := [(0, .pointer (some ⟨p_a_, 0, none⟩)), (1, .int .i64 r), (2, .int .i64 i), (12, .bool false)]) (obs := []) rfl (by kernel_rfl) trivial fun a hE => ?_
  refine WR.done rfl ?_
  refine Runs.condF hE rfl ?_
  refine Runs.skip ?_
  refine Runs.seq ?_
  refine Runs.seq ?_
  refine Runs.region ?_
  refine WR.seg hE 2 [] [0, 1, 2, 13, 14] (Lo := [(0, .pointer (some ⟨p_a_, 0, none⟩)), (1, .int .i64 r), (2, .int .i64 i), (13, .pointer (some ⟨p_a_, 0, none⟩)), (14, .int .i64 i)]) (obs := []) rfl (by kernel_rfl) trivial fun a hE => ?_
  obtain ⟨t_, et_, hm⟩ := bind_some hm
  refine WR.eff hE rfl rfl rfl rfl (OpTo.fn hE rfl rfl Tryz.call33 (item_Node_ok et_ H)) ?_
  rintro _ w ⟨rfl, H⟩ a hE
  refine WR.seg hE 4 [] [0, 1, 2, 16] (Lo := [(0, .pointer (some ⟨p_a_, 0, none⟩)), (1, .int .i64 r), (2, .int .i64 i), (16, .bool (t_.1 == (-1)))]) (obs := []) rfl (by kernel_rfl) trivial fun a hE => ?_
  refine WR.done rfl ?_
  refine Runs.cond hE rfl (fun c => ?_) (fun c => ?_)
  · replace hm := cond_t c hm
    refine Runs.seq ?_
    refine Runs.region ?_
    refine WR.seg hE 2 [] [6] (Lo := [(6, .int .i64 r)]) (obs := []) rfl (by kernel_rfl) trivial fun a hE => ?_
    refine WR.done rfl ?_
    refine Runs.ret hE Tryz.func32 rfl rfl ?_
    cases hm
    exact ⟨al_a_.free_b, al_a_.free_c, rfl, H⟩
  · replace hm := cond_f c hm
    refine Runs.skip ?_
    refine Runs.seq ?_
    refine Runs.region ?_
    refine WR.seg hE 2 [] [0, 1, 18, 19] (Lo := [(0, .pointer (some ⟨p_a_, 0, none⟩)), (1, .int .i64 r), (18, .pointer (some ⟨p_a_, 0, none⟩)), (19, .int .i64 i)]) (obs := []) rfl (by kernel_rfl) trivial fun a hE => ?_
    obtain ⟨t_1, et_1, hm⟩ := bind_some hm
    refine WR.eff hE rfl rfl rfl rfl (OpTo.fn hE rfl rfl Tryz.call53 (trees_Rise_ok et_1 H)) ?_
    rintro _ w ⟨rfl, H⟩ a hE
    refine WR.seg hE 4 [] [0, 1, 7] (Lo := [(0, .pointer (some ⟨p_a_, 0, none⟩)), (1, .int .i64 r), (7, .int .i64 t_1.1)]) (obs := []) rfl (by kernel_rfl) trivial fun a hE => ?_
    refine WR.done rfl ?_
    refine Runs.seq ?_
    refine Runs.region ?_
    refine WR.seg hE 2 [] [0, 1, 7, 21, 22] (Lo := [(0, .pointer (some ⟨p_a_, 0, none⟩)), (1, .int .i64 r), (7, .int .i64 t_1.1), (21, .pointer (some ⟨p_a_, 0, none⟩)), (22, .int .i64 r)]) (obs := []) rfl (by kernel_rfl) trivial fun a hE => ?_
    obtain ⟨t_2, et_2, hm⟩ := bind_some hm
    refine WR.eff hE rfl rfl rfl rfl (OpTo.fn hE rfl rfl Tryz.call47 (trees_List_ok et_2 H)) ?_
    rintro _ w ⟨sb, sc, rfl, H⟩ a hE
    refine WR.seg hE 4 [] [0, 1, 7, 8] (Lo := [(0, .pointer (some ⟨p_a_, 0, none⟩)), (1, .int .i64 r), (7, .int .i64 t_1.1), (8, .slice sb t_2.1.length sc)]) (obs := []) rfl (by kernel_rfl) trivial fun a hE => ?_
    refine WR.done rfl ?_
    refine Runs.seq ?_
    refine Runs.seq ?_
    refine Runs.region ?_
    refine WR.seg hE 2 [] [0, 1, 7, 8, 24, 25] (Lo := [(0, .pointer (some ⟨p_a_, 0, none⟩)), (1, .int .i64 r), (7, .int .i64 t_1.1), (8, .slice sb t_2.1.length sc), (24, .slice sb t_2.1.length sc), (25, .int .i64 t_1.1)]) (obs := []) rfl (by kernel_rfl) trivial fun a hE => ?_
    obtain ⟨t_3, et_3, hm⟩ := bind_some hm
    refine WR.eff hE rfl rfl rfl rfl (OpTo.fn hE rfl rfl Tryz.call54 (slices_Contains_int_ok (hX_s := (sl_rd 3 ecI 1 _ _ _)) (hC_s := (H.slCap 0 rfl).1) et_3 H)) ?_
    rintro _ w ⟨rfl, H⟩ a hE
    refine WR.seg hE 4 [] [0, 1, 7, 8, 27] (Lo := [(0, .pointer (some ⟨p_a_, 0, none⟩)), (1, .int .i64 r), (7, .int .i64 t_1.1), (8, .slice sb t_2.1.length sc), (27, .bool (!t_3))]) (obs := []) rfl (by kernel_rfl) trivial fun a hE => ?_
    refine WR.done rfl ?_
    refine Runs.cond hE rfl (fun c => ?_) (fun c => ?_)
    · replace hm := cond_t c hm
      refine Runs.seq ?_
      refine Runs.region ?_
      refine WR.seg hE 2 [] [6] (Lo := [(6, .int .i64 r)]) (obs := []) rfl (by kernel_rfl) trivial fun a hE => ?_
      refine WR.done rfl ?_
      refine Runs.ret hE Tryz.func32 rfl rfl ?_
      cases hm
      exact ⟨al_a_.free_b, al_a_.free_c, rfl, H.x0⟩
    · replace hm := cond_f c hm
      refine Runs.skip ?_
      refine Runs.seq ?_
      refine Runs.region ?_
      refine WR.seg hE 3 [] [30, 31, 32] (Lo := [(30, .pointer (some ⟨p_a_, 0, none⟩)), (31, .slice sb t_2.1.length sc), (32, .int .i64 t_1.1)]) (obs := []) rfl (by kernel_rfl) trivial fun a hE => ?_
      obtain ⟨t_4, et_4, hm⟩ := bind_some hm
      refine WR.eff hE rfl rfl rfl rfl (OpTo.fn hE rfl rfl Tryz.call55 (skew_without_ok et_4 H.t1)) ?_
      rintro _ w ⟨z, z1, rfl, H⟩ a hE
      refine WR.seg hE 9 [] [9] (Lo := [(9, .int .i64 t_4.1)]) (obs := []) rfl (by kernel_rfl) trivial fun a hE => ?_
      refine WR.done rfl ?_
      refine Runs.seq ?_
      refine Runs.region ?_
      refine WR.seg hE 2 [] [6] (Lo := [(6, .int .i64 t_4.1)]) (obs := []) rfl (by kernel_rfl) trivial fun a hE => ?_
      refine WR.done rfl ?_
      refine Runs.ret hE Tryz.func32 rfl rfl ?_
      cases hm
      exact ⟨z, z1, rfl, H⟩

theorem thicketlaw11_world_cut_at0_ok {w0 w : World} {As : List HP} {k : Nat} {p_w_ : Nat} {al_w_ : thicketlaw11_world.A} {w_ : thicketlaw11_world} {at_ : Int} {t : Bool × thicketlaw11_world}  (hm : thicketlaw11_world_cut_at0 k w_ at_ = some t) (H : St w0 (thicketlaw11_world.R p_w_ al_w_ w_ :: As) w) :
    CallsR Tryz.prog 8 #[.pointer (some ⟨p_w_, 0, none⟩), .int .i64 0, .int .i64 at_] w fun v w' => ∃ (z_w__a__a : arena_Arena.A), ∃ (z_w__has0_b : Option Addr), ∃ (z_w__has0_c : Nat), v = .bool t.1 ∧ St w0 (thicketlaw11_world.R p_w_ (thicketlaw11_world.A.mk al_w_.a__p z_w__a__a z_w__has0_b z_w__has0_c al_w_.has1_b al_w_.has1_c) t.2 :: As) w' := by
  rw [thicketlaw11_world_cut_at0] at hm
  refine enter (args := [.pointer (some ⟨p_w_, 0, none⟩), .int .i64 0, .int .i64 at_]) Tryz.func8 rfl rfl rfl fun a hE => ?_
  refine Runs.seq ?_
  refine Runs.region ?_
  refine WR.seg hE 1 [] [0, 1, 2] (Lo := [(0, .pointer (some ⟨p_w_, 0, none⟩)), (1, .int .i64 0), (2, .int .i64 at_)]) (obs := []) rfl (by kernel_rfl) trivial fun a hE => ?_
  refine WR.done rfl ?_
  refine Runs.seq ?_
  refine Runs.seq ?_
  refine Runs.region ?_
  replace H := thicketlaw11_world.open H
  refine WR.seg hE 8 [.slice al_w_.has0_b w_.has0.length al_w_.has0_c] [0, 1, 2, 18] (Lo := [(0, .pointer (some ⟨p_w_, 0, none⟩)), (1, .int .i64 0), (2, .int .i64 at_), (18, .bool ((w_.has0.length : Int) == 0))]) (obs := [.p (0 ≤ (0 : Int) ∧ (0 : Int) < ((2 : Nat) : Int)), .cell ⟨p_w_, 3, none⟩ (.slice al_w_.has0_b w_.has0.length al_w_.has0_c)]) rfl (by kernel_rfl) ⟨⟨by decide, by decide⟩, H.cell 0 rfl rfl, trivial⟩ fun a hE => ?_
  refine WR.done rfl ?_
  refine Runs.cond hE rfl (fun c => ?_) (fun c => ?_)
  · replace hm := cond_t c hm
    refine Runs.seq ?_
    refine Runs.region ?_
    refine WR.seg hE 1 [] [6] (Lo := [(6, .bool true)]) (obs := []) rfl (by kernel_rfl) trivial fun a hE => ?_
    refine WR.done rfl ?_
    replace H := thicketlaw11_world.shut al_w_ (w_) H.t3.t3.t3.t3
    refine Runs.ret hE Tryz.func8 rfl rfl ?_
    cases hm
    exact ⟨al_w_.a__a, al_w_.has0_b, al_w_.has0_c, rfl, H⟩
  · replace hm := cond_f c hm
    refine Runs.skip ?_
    refine Runs.seq ?_
    refine Runs.region ?_
    refine WR.seg hE 9 [.slice al_w_.has0_b w_.has0.length al_w_.has0_c] [0, 1, 19, 27] (Lo := [(0, .pointer (some ⟨p_w_, 0, none⟩)), (1, .int .i64 0), (19, .int .i64 at_), (27, .int .i64 (w64 ((w_.has0.length : Int) - 1)))]) (obs := [.p (0 ≤ (0 : Int) ∧ (0 : Int) < ((2 : Nat) : Int)), .cell ⟨p_w_, 3, none⟩ (.slice al_w_.has0_b w_.has0.length al_w_.has0_c)]) rfl (by kernel_rfl) ⟨⟨by decide, by decide⟩, H.cell 0 rfl rfl, trivial⟩ fun a hE => ?_
    obtain ⟨t_, et_, hm⟩ := bind_some hm
    refine WR.eff hE rfl rfl rfl rfl (OpTo.fn hE rfl rfl Tryz.call28 (thicketbook_Within_ok et_ H)) ?_
    rintro _ w ⟨rfl, H⟩ a hE
    refine WR.seg hE 11 [] [0, 1, 7] (Lo := [(0, .pointer (some ⟨p_w_, 0, none⟩)), (1, .int .i64 0), (7, .int .i64 t_)]) (obs := []) rfl (by kernel_rfl) trivial fun a hE => ?_
    refine WR.done rfl ?_
    refine Runs.seq ?_
    refine Runs.region ?_
    obtain ⟨x, ex, hm⟩ := bind_some hm
    obtain ⟨b, o, hs, hb⟩ := SlRd.base (sl_rd 48 thicketlaw11_held.enc 3 _ _ _) thicketlaw11_held.enc_ok H 2 rfl ex
    refine WR.seg hE 11 [.slice al_w_.has0_b w_.has0.length al_w_.has0_c, .pointer (some ⟨b, o, none⟩), .int .i64 x.cell] [0, 1, 7, 8] (Lo := [(0, .pointer (some ⟨p_w_, 0, none⟩)), (1, .int .i64 0), (7, .int .i64 t_), (8, .int .i64 x.cell)]) (obs := [.p (0 ≤ (0 : Int) ∧ (0 : Int) < ((2 : Nat) : Int)), .cell ⟨p_w_, 3, none⟩ (.slice al_w_.has0_b w_.has0.length al_w_.has0_c), .p ((al_w_.has0_b : Option Addr) = some ⟨b, o, none⟩), .p (0 ≤ (t_ : Int) ∧ (t_ : Int) < ((w_.has0.length : Nat) : Int)), .cell ⟨b, o + (Int.toNat t_) * 3, none⟩ (.int .i64 x.cell)]) rfl (by kernel_rfl) ⟨⟨by decide, by decide⟩, H.cell 0 rfl rfl, hs, hb, SlRd.cells (sl_rd 48 thicketlaw11_held.enc 3 _ _ _) thicketlaw11_held.enc_ok H 2 rfl hs ex 0 _ rfl, trivial⟩ fun a hE => ?_
    refine WR.done rfl ?_
    refine Runs.seq ?_
    refine Runs.region ?_
    refine WR.seg hE 4 [.pointer (some ⟨al_w_.a__p, 0, none⟩)] [0, 1, 7, 8, 42] (Lo := [(0, .pointer (some ⟨p_w_, 0, none⟩)), (1, .int .i64 0), (7, .int .i64 t_), (8, .int .i64 x.cell), (42, .pointer (some ⟨al_w_.a__p, 0, none⟩))]) (obs := [.cell ⟨p_w_, 0, none⟩ (.pointer (some ⟨al_w_.a__p, 0, none⟩))]) rfl (by kernel_rfl) ⟨H.cell 0 rfl rfl, trivial⟩ fun a hE => ?_
    obtain ⟨t_1, et_1, hm⟩ := bind_some hm
    refine WR.eff hE rfl rfl rfl rfl (OpTo.fn hE rfl rfl Tryz.call15 (arena_Arena_Meter_ok et_1 H.t1)) ?_
    rintro _ w ⟨rfl, H⟩ a hE
    replace H := arena_Arena.open H
    obtain ⟨t_2, et_2, hm⟩ := bind_some hm
    refine WR.eff hE rfl rfl rfl rfl (OpTo.fn hE rfl rfl Tryz.call18 (meter_Meter_Steps_ok et_2 H.t3)) ?_
    rintro _ w ⟨rfl, H⟩ a hE
    refine WR.seg hE 7 [] [0, 1, 7, 8, 9] (Lo := [(0, .pointer (some ⟨p_w_, 0, none⟩)), (1, .int .i64 0), (7, .int .i64 t_), (8, .int .i64 x.cell), (9, .int .i64 t_2)]) (obs := []) rfl (by kernel_rfl) trivial fun a hE => ?_
    refine WR.done rfl ?_
    refine Runs.seq ?_
    refine Runs.drawn mixed (by kernel_rfl) ?_
    replace H := H.drew
    refine WQ.seg hE [0, 1, 2, 3, 4, 5, 6, 7, 8, 9, 10] [.pointer (some ⟨al_w_.a__p, 0, none⟩), .int .i64 w_.root0] [0, 1, 7, 8, 9, 48, 54, 55] (Lo := [(0, .pointer (some ⟨p_w_, 0, none⟩)), (1, .int .i64 0), (7, .int .i64 t_), (8, .int .i64 x.cell), (9, .int .i64 t_2), (48, .pointer (some ⟨al_w_.a__p, 0, none⟩)), (54, .int .i64 w_.root0), (55, .int .i64 x.cell)]) (obs := [.cell ⟨p_w_, 0, none⟩ (.pointer (some ⟨al_w_.a__p, 0, none⟩)), .p (0 ≤ (0 : Int) ∧ (0 : Int) < ((2 : Nat) : Int)), .cell ⟨p_w_, 1, none⟩ (.int .i64 w_.root0)]) (by kernel_rfl) (by kernel_rfl) ⟨H.cell 4 rfl rfl, ⟨by decide, by decide⟩, H.cell 4 rfl rfl, trivial⟩ fun a hE => ?_
    replace H := arena_Arena.shut al_w_.a__a (w_.a_) H.t3.t3.t3
    obtain ⟨t_3, et_3, hm⟩ := bind_some hm
    refine WQ.eff (j := 11) (obs := []) hE (by kernel_rfl) rfl rfl rfl rfl (by kernel_rfl) (OpTo.fn hE rfl rfl Tryz.call32 (skew_Cut_ok et_3 H)) ?_
    rintro _ w ⟨z, z1, rfl, H⟩
    refine ⟨trivial, fun a hE => ?_⟩
    refine WQ.seg hE [12] [] [0, 1, 7, 8, 9, 10] (Lo := [(0, .pointer (some ⟨p_w_, 0, none⟩)), (1, .int .i64 0), (7, .int .i64 t_), (8, .int .i64 x.cell), (9, .int .i64 t_2), (10, .int .i64 t_3.1)]) (obs := []) (by kernel_rfl) (by kernel_rfl) trivial fun a hE => ?_
    refine WQ.done (by kernel_rfl) ?_
    refine Runs.seq ?_
    refine Runs.seq ?_
    refine Runs.region ?_
    refine WR.seg hE 9 [.slice al_w_.has0_b w_.has0.length al_w_.has0_c] [0, 1, 7, 8, 10, 57, 58, 65] (Lo := [(0, .pointer (some ⟨p_w_, 0, none⟩)), (1, .int .i64 0), (7, .int .i64 t_), (8, .int .i64 x.cell), (10, .int .i64 t_3.1), (57, .pointer (some ⟨p_w_, 0, none⟩)), (58, .int .i64 t_2), (65, .int .i64 (w_.has0.length : Int))]) (obs := [.p (0 ≤ (0 : Int) ∧ (0 : Int) < ((2 : Nat) : Int)), .cell ⟨p_w_, 3, none⟩ (.slice al_w_.has0_b w_.has0.length al_w_.has0_c)]) rfl (by kernel_rfl) ⟨⟨by decide, by decide⟩, H.cell 1 rfl rfl, trivial⟩ fun a hE => ?_
    replace H := thicketlaw11_world.shut (thicketlaw11_world.A.mk al_w_.a__p (arena_Arena.A.mk al_w_.a__a.l_b al_w_.a__a.l_c z z1 al_w_.a__a.m__p) al_w_.has0_b al_w_.has0_c al_w_.has1_b al_w_.has1_c) (thicketlaw11_world.mk t_3.2 w_.root0 w_.root1 w_.has0 w_.has1 w_.next w_.spent w_.most) H.t3.t3.t2.t3
    obtain ⟨t_4, et_4, hm⟩ := bind_some hm
    refine WR.eff hE rfl rfl rfl rfl (OpTo.fn hE rfl rfl Tryz.call20 (thicketlaw11_world_cost_ok et_4 H)) ?_
    rintro _ w ⟨rfl, hf, hf1, H⟩ a hE
    refine WR.seg hE 11 [] [0, 1, 7, 8, 10, 67] (Lo := [(0, .pointer (some ⟨p_w_, 0, none⟩)), (1, .int .i64 0), (7, .int .i64 t_), (8, .int .i64 x.cell), (10, .int .i64 t_3.1), (67, .bool (!t_4.1))]) (obs := []) rfl (by kernel_rfl) trivial fun a hE => ?_
    refine WR.done rfl ?_
    refine Runs.cond hE rfl (fun c => ?_) (fun c => ?_)
    · replace hm := cond_t c hm
      refine Runs.seq ?_
      refine Runs.region ?_
      refine WR.seg hE 1 [] [6] (Lo := [(6, .bool false)]) (obs := []) rfl (by kernel_rfl) trivial fun a hE => ?_
      refine WR.done rfl ?_
      refine Runs.ret hE Tryz.func8 rfl rfl ?_
      cases hm
      exact ⟨arena_Arena.A.mk al_w_.a__a.l_b al_w_.a__a.l_c z z1 al_w_.a__a.m__p, al_w_.has0_b, al_w_.has0_c, rfl, H⟩
    · replace hm := cond_f c hm
      refine Runs.skip ?_
      refine Runs.seq ?_
      refine Runs.region ?_
      refine WR.seg hE 6 [] [0, 1, 7, 8, 70, 73] (Lo := [(0, .pointer (some ⟨p_w_, 0, none⟩)), (1, .int .i64 0), (7, .int .i64 t_), (8, .int .i64 x.cell), (70, .int .i64 t_3.1), (73, .pointer (some ⟨p_w_, 1, none⟩))]) (obs := [.p (0 ≤ (0 : Int) ∧ (0 : Int) < ((2 : Nat) : Int))]) rfl (by kernel_rfl) ⟨⟨by decide, by decide⟩, trivial⟩ fun a hE => ?_
      replace H := thicketlaw11_world.open H
      try rw [hf] at H
      try rw [hf1] at H
      try dsimp only at H
      refine WR.eff0 hE rfl rfl rfl (OpTo.store hE H rfl rfl rfl rfl rfl rfl (Nat.le_of_ble_eq_true rfl)) ?_
      rintro _ w H a hE
      refine WR.done rfl ?_
      refine Runs.seq ?_
      refine Runs.drawn mixed (by kernel_rfl) ?_
      replace H := H.drew
      refine WQ.seg hE [0, 1, 2, 3, 4, 5, 6, 7, 8, 10, 11] [.slice al_w_.has0_b w_.has0.length al_w_.has0_c] [0, 8, 75, 81, 82, 85] (Lo := [(0, .pointer (some ⟨p_w_, 0, none⟩)), (8, .int .i64 x.cell), (75, .int .i64 0), (81, .slice al_w_.has0_b w_.has0.length al_w_.has0_c), (82, .int .i64 t_), (85, .pointer (some ⟨p_w_, 3, none⟩))]) (obs := [.p (0 ≤ (0 : Int) ∧ (0 : Int) < ((2 : Nat) : Int)), .cell ⟨p_w_, 3, none⟩ (.slice al_w_.has0_b w_.has0.length al_w_.has0_c)]) (by kernel_rfl) (by kernel_rfl) ⟨⟨by decide, by decide⟩, H.cell 0 rfl rfl, trivial⟩ fun a hE => ?_
      obtain ⟨t_5, et_5, hm⟩ := bind_some hm
      replace H := H.t2
      refine WQ.eff (j := 9) (obs := []) hE (by kernel_rfl) rfl rfl rfl rfl (by kernel_rfl) (OpTo.fn hE rfl rfl Tryz.call31 (thicketlaw11_without_ok (hX_l := (sl_rd 48 thicketlaw11_held.enc 3 _ _ _)) (hC_l := (H.slCap 0 rfl).1) et_5 H)) ?_
      rintro _ w ⟨sb, sc, rfl, H⟩
      refine ⟨trivial, fun a hE => ?_⟩
      refine WQ.seg hE [12] [] [0, 8, 83, 86] (Lo := [(0, .pointer (some ⟨p_w_, 0, none⟩)), (8, .int .i64 x.cell), (83, .slice sb t_5.length sc), (86, .pointer (some ⟨p_w_, 3, none⟩))]) (obs := [.p (0 ≤ (0 : Int) ∧ (0 : Int) < ((2 : Nat) : Int))]) (by kernel_rfl) (by kernel_rfl) ⟨⟨by decide, by decide⟩, trivial⟩ fun a hE => ?_
      refine WQ.eff0 (j := 13) (obs := []) hE (by kernel_rfl) rfl rfl rfl (by kernel_rfl) (OpTo.store hE H.t2 rfl rfl rfl rfl rfl rfl (Nat.le_of_ble_eq_true rfl)) ?_
      rintro _ w H
      refine ⟨trivial, fun a hE => ?_⟩
      refine WQ.done (by kernel_rfl) ?_
      refine Runs.seq ?_
      replace H := thicketlaw11_world.shut (thicketlaw11_world.A.mk al_w_.a__p (arena_Arena.A.mk al_w_.a__a.l_b al_w_.a__a.l_c z z1 al_w_.a__a.m__p) sb sc al_w_.has1_b al_w_.has1_c) (thicketlaw11_world.mk t_4.2.a_ t_3.1 t_4.2.root1 t_5 w_.has1 t_4.2.next t_4.2.spent t_4.2.most) H.t4.t2.t4.t3
      obtain ⟨s, es, hm⟩ := bind_some hm
      refine Runs.join (fun a w => ∃ (z2 : arena_Arena.A), EnvOk 102 a [(6, .bool s.1)] ∧ St w0 (thicketlaw11_world.R p_w_ (thicketlaw11_world.A.mk al_w_.a__p z2 sb sc al_w_.has1_b al_w_.has1_c) s.2 :: As) w) (fun hk => ?_) ?_
      · replace hm := es; clear es
        refine Runs.region ?_
        replace H := thicketlaw11_world.open H
        try dsimp only at H
        refine WR.seg hE 5 [.pointer (some ⟨al_w_.a__p, 0, none⟩)] [0, 8, 90, 91] (Lo := [(0, .pointer (some ⟨p_w_, 0, none⟩)), (8, .int .i64 x.cell), (90, .pointer (some ⟨al_w_.a__p, 0, none⟩)), (91, .int .i64 x.cell)]) (obs := [.cell ⟨p_w_, 0, none⟩ (.pointer (some ⟨al_w_.a__p, 0, none⟩))]) rfl (by kernel_rfl) ⟨H.cell 0 rfl rfl, trivial⟩ fun a hE => ?_
        obtain ⟨t_6, et_6, hm⟩ := bind_some hm
        refine WR.eff hE rfl rfl rfl rfl (OpTo.fn hE rfl rfl Tryz.call33 (item_Node_ok et_6 H.t1)) ?_
        rintro _ w ⟨rfl, H⟩ a hE
        refine WR.seg hE 8 [] [0, 8, 94] (Lo := [(0, .pointer (some ⟨p_w_, 0, none⟩)), (8, .int .i64 x.cell), (94, .bool (t_6.1 == (-1)))]) (obs := []) rfl (by kernel_rfl) trivial fun a hE => ?_
        rcases Bool.eq_false_or_eq_true (t_6.1 == (-1)) with c | c
        · replace hE := hE.dec 94 c (by kernel_rfl)
          replace hm := cond_t c hm
          have c_ := c
          refine WR.seg hE 13 [.pointer (some ⟨al_w_.a__p, 0, none⟩)] [94, 98, 99] (Lo := [(94, .bool true), (98, .pointer (some ⟨al_w_.a__p, 0, none⟩)), (99, .int .i64 x.cell)]) (obs := [.cell ⟨p_w_, 0, none⟩ (.pointer (some ⟨al_w_.a__p, 0, none⟩))]) rfl (by kernel_rfl) ⟨H.cell 1 rfl rfl, trivial⟩ fun a hE => ?_
          obtain ⟨t_7, et_7, hm⟩ := bind_some hm
          refine WR.eff hE rfl rfl rfl rfl (OpTo.fn hE rfl rfl Tryz.call21 (arena_Arena_Give_ok et_7 H)) ?_
          rintro _ w ⟨z3, z4, rfl, H⟩ a hE
          refine WR.seg hE 16 [] [6] (Lo := [(6, .bool t_7.1)]) (obs := []) rfl (by kernel_rfl) trivial fun a hE => ?_
          refine WR.done rfl ?_
          replace H := thicketlaw11_world.shut (thicketlaw11_world.A.mk al_w_.a__p (arena_Arena.A.mk ((arena_Arena.A.mk al_w_.a__a.l_b al_w_.a__a.l_c z z1 al_w_.a__a.m__p).l_b) ((arena_Arena.A.mk al_w_.a__a.l_b al_w_.a__a.l_c z z1 al_w_.a__a.m__p).l_c) z3 z4 ((arena_Arena.A.mk al_w_.a__a.l_b al_w_.a__a.l_c z z1 al_w_.a__a.m__p).m__p)) sb sc al_w_.has1_b al_w_.has1_c) (thicketlaw11_world.mk t_7.2 t_3.1 t_4.2.root1 t_5 w_.has1 t_4.2.next t_4.2.spent t_4.2.most) H.t3.t3.t2.t3
          cases hm
          exact hk _ _ ⟨arena_Arena.A.mk ((arena_Arena.A.mk al_w_.a__a.l_b al_w_.a__a.l_c z z1 al_w_.a__a.m__p).l_b) ((arena_Arena.A.mk al_w_.a__a.l_b al_w_.a__a.l_c z z1 al_w_.a__a.m__p).l_c) z3 z4 ((arena_Arena.A.mk al_w_.a__a.l_b al_w_.a__a.l_c z z1 al_w_.a__a.m__p).m__p), hE.sel [6] (by kernel_rfl), H.x1⟩
        · replace hE := hE.dec 94 c (by kernel_rfl)
          replace hm := cond_f c hm
          have c_1 := c
          refine WR.seg hE 16 [] [6] (Lo := [(6, .bool false)]) (obs := []) rfl (by kernel_rfl) trivial fun a hE => ?_
          refine WR.done rfl ?_
          replace H := thicketlaw11_world.shut (thicketlaw11_world.A.mk al_w_.a__p (arena_Arena.A.mk al_w_.a__a.l_b al_w_.a__a.l_c z z1 al_w_.a__a.m__p) sb sc al_w_.has1_b al_w_.has1_c) (thicketlaw11_world.mk t_6.2 t_3.1 t_4.2.root1 t_5 w_.has1 t_4.2.next t_4.2.spent t_4.2.most) H.t3.t3.t2.t3
          cases hm
          exact hk _ _ ⟨arena_Arena.A.mk al_w_.a__a.l_b al_w_.a__a.l_c z z1 al_w_.a__a.m__p, hE.sel [6] (by kernel_rfl), H.x1⟩
      rintro a w ⟨z2, hE, H⟩
      refine Runs.ret hE Tryz.func8 rfl rfl ?_
      cases hm
      exact ⟨z2, sb, sc, rfl, H⟩

theorem thicketlaw11_world_cut_at1_ok {w0 w : World} {As : List HP} {k : Nat} {p_w_ : Nat} {al_w_ : thicketlaw11_world.A} {w_ : thicketlaw11_world} {at_ : Int} {t : Bool × thicketlaw11_world}  (hm : thicketlaw11_world_cut_at1 k w_ at_ = some t) (H : St w0 (thicketlaw11_world.R p_w_ al_w_ w_ :: As) w) :
    CallsR Tryz.prog 8 #[.pointer (some ⟨p_w_, 0, none⟩), .int .i64 1, .int .i64 at_] w fun v w' => ∃ (z_w__a__a : arena_Arena.A), ∃ (z_w__has1_b : Option Addr), ∃ (z_w__has1_c : Nat), v = .bool t.1 ∧ St w0 (thicketlaw11_world.R p_w_ (thicketlaw11_world.A.mk al_w_.a__p z_w__a__a al_w_.has0_b al_w_.has0_c z_w__has1_b z_w__has1_c) t.2 :: As) w' := by
  rw [thicketlaw11_world_cut_at1] at hm
  refine enter (args := [.pointer (some ⟨p_w_, 0, none⟩), .int .i64 1, .int .i64 at_]) Tryz.func8 rfl rfl rfl fun a hE => ?_
  refine Runs.seq ?_
  refine Runs.region ?_
  refine WR.seg hE 1 [] [0, 1, 2] (Lo := [(0, .pointer (some ⟨p_w_, 0, none⟩)), (1, .int .i64 1), (2, .int .i64 at_)]) (obs := []) rfl (by kernel_rfl) trivial fun a hE => ?_
  refine WR.done rfl ?_
  refine Runs.seq ?_
  refine Runs.seq ?_
  refine Runs.region ?_
  replace H := thicketlaw11_world.open H
  refine WR.seg hE 8 [.slice al_w_.has1_b w_.has1.length al_w_.has1_c] [0, 1, 2, 18] (Lo := [(0, .pointer (some ⟨p_w_, 0, none⟩)), (1, .int .i64 1), (2, .int .i64 at_), (18, .bool ((w_.has1.length : Int) == 0))]) (obs := [.p (0 ≤ (1 : Int) ∧ (1 : Int) < ((2 : Nat) : Int)), .cell ⟨p_w_, 4, none⟩ (.slice al_w_.has1_b w_.has1.length al_w_.has1_c)]) rfl (by kernel_rfl) ⟨⟨by decide, by decide⟩, H.cell 0 rfl rfl, trivial⟩ fun a hE => ?_
  refine WR.done rfl ?_
  refine Runs.cond hE rfl (fun c => ?_) (fun c => ?_)
  · replace hm := cond_t c hm
    refine Runs.seq ?_
    refine Runs.region ?_
    refine WR.seg hE 1 [] [6] (Lo := [(6, .bool true)]) (obs := []) rfl (by kernel_rfl) trivial fun a hE => ?_
    refine WR.done rfl ?_
    replace H := thicketlaw11_world.shut al_w_ (w_) H.t3.t3.t3.t3
    refine Runs.ret hE Tryz.func8 rfl rfl ?_
    cases hm
    exact ⟨al_w_.a__a, al_w_.has1_b, al_w_.has1_c, rfl, H⟩
  · replace hm := cond_f c hm
    refine Runs.skip ?_
    refine Runs.seq ?_
    refine Runs.region ?_
    refine WR.seg hE 9 [.slice al_w_.has1_b w_.has1.length al_w_.has1_c] [0, 1, 19, 27] (Lo := [(0, .pointer (some ⟨p_w_, 0, none⟩)), (1, .int .i64 1), (19, .int .i64 at_), (27, .int .i64 (w64 ((w_.has1.length : Int) - 1)))]) (obs := [.p (0 ≤ (1 : Int) ∧ (1 : Int) < ((2 : Nat) : Int)), .cell ⟨p_w_, 4, none⟩ (.slice al_w_.has1_b w_.has1.length al_w_.has1_c)]) rfl (by kernel_rfl) ⟨⟨by decide, by decide⟩, H.cell 0 rfl rfl, trivial⟩ fun a hE => ?_
    obtain ⟨t_, et_, hm⟩ := bind_some hm
    refine WR.eff hE rfl rfl rfl rfl (OpTo.fn hE rfl rfl Tryz.call28 (thicketbook_Within_ok et_ H)) ?_
    rintro _ w ⟨rfl, H⟩ a hE
    refine WR.seg hE 11 [] [0, 1, 7] (Lo := [(0, .pointer (some ⟨p_w_, 0, none⟩)), (1, .int .i64 1), (7, .int .i64 t_)]) (obs := []) rfl (by kernel_rfl) trivial fun a hE => ?_
    refine WR.done rfl ?_
    refine Runs.seq ?_
    refine Runs.region ?_
    obtain ⟨x, ex, hm⟩ := bind_some hm
    obtain ⟨b, o, hs, hb⟩ := SlRd.base (sl_rd 48 thicketlaw11_held.enc 3 _ _ _) thicketlaw11_held.enc_ok H 3 rfl ex
    refine WR.seg hE 11 [.slice al_w_.has1_b w_.has1.length al_w_.has1_c, .pointer (some ⟨b, o, none⟩), .int .i64 x.cell] [0, 1, 7, 8] (Lo := [(0, .pointer (some ⟨p_w_, 0, none⟩)), (1, .int .i64 1), (7, .int .i64 t_), (8, .int .i64 x.cell)]) (obs := [.p (0 ≤ (1 : Int) ∧ (1 : Int) < ((2 : Nat) : Int)), .cell ⟨p_w_, 4, none⟩ (.slice al_w_.has1_b w_.has1.length al_w_.has1_c), .p ((al_w_.has1_b : Option Addr) = some ⟨b, o, none⟩), .p (0 ≤ (t_ : Int) ∧ (t_ : Int) < ((w_.has1.length : Nat) : Int)), .cell ⟨b, o + (Int.toNat t_) * 3, none⟩ (.int .i64 x.cell)]) rfl (by kernel_rfl) ⟨⟨by decide, by decide⟩, H.cell 0 rfl rfl, hs, hb, SlRd.cells (sl_rd 48 thicketlaw11_held.enc 3 _ _ _) thicketlaw11_held.enc_ok H 3 rfl hs ex 0 _ rfl, trivial⟩ fun a hE => ?_
    refine WR.done rfl ?_
    refine Runs.seq ?_
    refine Runs.region ?_
    refine WR.seg hE 4 [.pointer (some ⟨al_w_.a__p, 0, none⟩)] [0, 1, 7, 8, 42] (Lo := [(0, .pointer (some ⟨p_w_, 0, none⟩)), (1, .int .i64 1), (7, .int .i64 t_), (8, .int .i64 x.cell), (42, .pointer (some ⟨al_w_.a__p, 0, none⟩))]) (obs := [.cell ⟨p_w_, 0, none⟩ (.pointer (some ⟨al_w_.a__p, 0, none⟩))]) rfl (by kernel_rfl) ⟨H.cell 0 rfl rfl, trivial⟩ fun a hE => ?_
    obtain ⟨t_1, et_1, hm⟩ := bind_some hm
    refine WR.eff hE rfl rfl rfl rfl (OpTo.fn hE rfl rfl Tryz.call15 (arena_Arena_Meter_ok et_1 H.t1)) ?_
    rintro _ w ⟨rfl, H⟩ a hE
    replace H := arena_Arena.open H
    obtain ⟨t_2, et_2, hm⟩ := bind_some hm
    refine WR.eff hE rfl rfl rfl rfl (OpTo.fn hE rfl rfl Tryz.call18 (meter_Meter_Steps_ok et_2 H.t3)) ?_
    rintro _ w ⟨rfl, H⟩ a hE
    refine WR.seg hE 7 [] [0, 1, 7, 8, 9] (Lo := [(0, .pointer (some ⟨p_w_, 0, none⟩)), (1, .int .i64 1), (7, .int .i64 t_), (8, .int .i64 x.cell), (9, .int .i64 t_2)]) (obs := []) rfl (by kernel_rfl) trivial fun a hE => ?_
    refine WR.done rfl ?_
    refine Runs.seq ?_
    refine Runs.drawn mixed (by kernel_rfl) ?_
    replace H := H.drew
    refine WQ.seg hE [0, 1, 2, 3, 4, 5, 6, 7, 8, 9, 10] [.pointer (some ⟨al_w_.a__p, 0, none⟩), .int .i64 w_.root1] [0, 1, 7, 8, 9, 48, 54, 55] (Lo := [(0, .pointer (some ⟨p_w_, 0, none⟩)), (1, .int .i64 1), (7, .int .i64 t_), (8, .int .i64 x.cell), (9, .int .i64 t_2), (48, .pointer (some ⟨al_w_.a__p, 0, none⟩)), (54, .int .i64 w_.root1), (55, .int .i64 x.cell)]) (obs := [.cell ⟨p_w_, 0, none⟩ (.pointer (some ⟨al_w_.a__p, 0, none⟩)), .p (0 ≤ (1 : Int) ∧ (1 : Int) < ((2 : Nat) : Int)), .cell ⟨p_w_, 2, none⟩ (.int .i64 w_.root1)]) (by kernel_rfl) (by kernel_rfl) ⟨H.cell 4 rfl rfl, ⟨by decide, by decide⟩, H.cell 4 rfl rfl, trivial⟩ fun a hE => ?_
    replace H := arena_Arena.shut al_w_.a__a (w_.a_) H.t3.t3.t3
    obtain ⟨t_3, et_3, hm⟩ := bind_some hm
    refine WQ.eff (j := 11) (obs := []) hE (by kernel_rfl) rfl rfl rfl rfl (by kernel_rfl) (OpTo.fn hE rfl rfl Tryz.call32 (skew_Cut_ok et_3 H)) ?_
    rintro _ w ⟨z, z1, rfl, H⟩
    refine ⟨trivial, fun a hE => ?_⟩
    refine WQ.seg hE [12] [] [0, 1, 7, 8, 9, 10] (Lo := [(0, .pointer (some ⟨p_w_, 0, none⟩)), (1, .int .i64 1), (7, .int .i64 t_), (8, .int .i64 x.cell), (9, .int .i64 t_2), (10, .int .i64 t_3.1)]) (obs := []) (by kernel_rfl) (by kernel_rfl) trivial fun a hE => ?_
    refine WQ.done (by kernel_rfl) ?_
    refine Runs.seq ?_
    refine Runs.seq ?_
    refine Runs.region ?_
    refine WR.seg hE 9 [.slice al_w_.has1_b w_.has1.length al_w_.has1_c] [0, 1, 7, 8, 10, 57, 58, 65] (Lo := [(0, .pointer (some ⟨p_w_, 0, none⟩)), (1, .int .i64 1), (7, .int .i64 t_), (8, .int .i64 x.cell), (10, .int .i64 t_3.1), (57, .pointer (some ⟨p_w_, 0, none⟩)), (58, .int .i64 t_2), (65, .int .i64 (w_.has1.length : Int))]) (obs := [.p (0 ≤ (1 : Int) ∧ (1 : Int) < ((2 : Nat) : Int)), .cell ⟨p_w_, 4, none⟩ (.slice al_w_.has1_b w_.has1.length al_w_.has1_c)]) rfl (by kernel_rfl) ⟨⟨by decide, by decide⟩, H.cell 1 rfl rfl, trivial⟩ fun a hE => ?_
    replace H := thicketlaw11_world.shut (thicketlaw11_world.A.mk al_w_.a__p (arena_Arena.A.mk al_w_.a__a.l_b al_w_.a__a.l_c z z1 al_w_.a__a.m__p) al_w_.has0_b al_w_.has0_c al_w_.has1_b al_w_.has1_c) (thicketlaw11_world.mk t_3.2 w_.root0 w_.root1 w_.has0 w_.has1 w_.next w_.spent w_.most) H.t3.t3.t2.t3
    obtain ⟨t_4, et_4, hm⟩ := bind_some hm
    refine WR.eff hE rfl rfl rfl rfl (OpTo.fn hE rfl rfl Tryz.call20 (thicketlaw11_world_cost_ok et_4 H)) ?_
    rintro _ w ⟨rfl, hf, hf1, H⟩ a hE
    refine WR.seg hE 11 [] [0, 1, 7, 8, 10, 67] (Lo := [(0, .pointer (some ⟨p_w_, 0, none⟩)), (1, .int .i64 1), (7, .int .i64 t_), (8, .int .i64 x.cell), (10, .int .i64 t_3.1), (67, .bool (!t_4.1))]) (obs := []) rfl (by kernel_rfl) trivial fun a hE => ?_
    refine WR.done rfl ?_
    refine Runs.cond hE rfl (fun c => ?_) (fun c => ?_)
    · replace hm := cond_t c hm
      refine Runs.seq ?_
      refine Runs.region ?_
      refine WR.seg hE 1 [] [6] (Lo := [(6, .bool false)]) (obs := []) rfl (by kernel_rfl) trivial fun a hE => ?_
      refine WR.done rfl ?_
      refine Runs.ret hE Tryz.func8 rfl rfl ?_
      cases hm
      exact ⟨arena_Arena.A.mk al_w_.a__a.l_b al_w_.a__a.l_c z z1 al_w_.a__a.m__p, al_w_.has1_b, al_w_.has1_c, rfl, H⟩
    · replace hm := cond_f c hm
      refine Runs.skip ?_
      refine Runs.seq ?_
      refine Runs.region ?_
      refine WR.seg hE 6 [] [0, 1, 7, 8, 70, 73] (Lo := [(0, .pointer (some ⟨p_w_, 0, none⟩)), (1, .int .i64 1), (7, .int .i64 t_), (8, .int .i64 x.cell), (70, .int .i64 t_3.1), (73, .pointer (some ⟨p_w_, 2, none⟩))]) (obs := [.p (0 ≤ (1 : Int) ∧ (1 : Int) < ((2 : Nat) : Int))]) rfl (by kernel_rfl) ⟨⟨by decide, by decide⟩, trivial⟩ fun a hE => ?_
      replace H := thicketlaw11_world.open H
      try rw [hf] at H
      try rw [hf1] at H
      try dsimp only at H
      refine WR.eff0 hE rfl rfl rfl (OpTo.store hE H rfl rfl rfl rfl rfl rfl (Nat.le_of_ble_eq_true rfl)) ?_
      rintro _ w H a hE
      refine WR.done rfl ?_
      refine Runs.seq ?_
      refine Runs.drawn mixed (by kernel_rfl) ?_
      replace H := H.drew
      refine WQ.seg hE [0, 1, 2, 3, 4, 5, 6, 7, 8, 10, 11] [.slice al_w_.has1_b w_.has1.length al_w_.has1_c] [0, 8, 75, 81, 82, 85] (Lo := [(0, .pointer (some ⟨p_w_, 0, none⟩)), (8, .int .i64 x.cell), (75, .int .i64 1), (81, .slice al_w_.has1_b w_.has1.length al_w_.has1_c), (82, .int .i64 t_), (85, .pointer (some ⟨p_w_, 3, none⟩))]) (obs := [.p (0 ≤ (1 : Int) ∧ (1 : Int) < ((2 : Nat) : Int)), .cell ⟨p_w_, 4, none⟩ (.slice al_w_.has1_b w_.has1.length al_w_.has1_c)]) (by kernel_rfl) (by kernel_rfl) ⟨⟨by decide, by decide⟩, H.cell 0 rfl rfl, trivial⟩ fun a hE => ?_
      obtain ⟨t_5, et_5, hm⟩ := bind_some hm
      replace H := H.t3
      refine WQ.eff (j := 9) (obs := []) hE (by kernel_rfl) rfl rfl rfl rfl (by kernel_rfl) (OpTo.fn hE rfl rfl Tryz.call31 (thicketlaw11_without_ok (hX_l := (sl_rd 48 thicketlaw11_held.enc 3 _ _ _)) (hC_l := (H.slCap 0 rfl).1) et_5 H)) ?_
      rintro _ w ⟨sb, sc, rfl, H⟩
      refine ⟨trivial, fun a hE => ?_⟩
      refine WQ.seg hE [12] [] [0, 8, 83, 86] (Lo := [(0, .pointer (some ⟨p_w_, 0, none⟩)), (8, .int .i64 x.cell), (83, .slice sb t_5.length sc), (86, .pointer (some ⟨p_w_, 4, none⟩))]) (obs := [.p (0 ≤ (1 : Int) ∧ (1 : Int) < ((2 : Nat) : Int))]) (by kernel_rfl) (by kernel_rfl) ⟨⟨by decide, by decide⟩, trivial⟩ fun a hE => ?_
      refine WQ.eff0 (j := 13) (obs := []) hE (by kernel_rfl) rfl rfl rfl (by kernel_rfl) (OpTo.store hE H.t2 rfl rfl rfl rfl rfl rfl (Nat.le_of_ble_eq_true rfl)) ?_
      rintro _ w H
      refine ⟨trivial, fun a hE => ?_⟩
      refine WQ.done (by kernel_rfl) ?_
      refine Runs.seq ?_
      replace H := thicketlaw11_world.shut (thicketlaw11_world.A.mk al_w_.a__p (arena_Arena.A.mk al_w_.a__a.l_b al_w_.a__a.l_c z z1 al_w_.a__a.m__p) al_w_.has0_b al_w_.has0_c sb sc) (thicketlaw11_world.mk t_4.2.a_ t_4.2.root0 t_3.1 w_.has0 t_5 t_4.2.next t_4.2.spent t_4.2.most) H.t1.t4.t4.t3
      obtain ⟨s, es, hm⟩ := bind_some hm
      refine Runs.join (fun a w => ∃ (z2 : arena_Arena.A), EnvOk 102 a [(6, .bool s.1)] ∧ St w0 (thicketlaw11_world.R p_w_ (thicketlaw11_world.A.mk al_w_.a__p z2 al_w_.has0_b al_w_.has0_c sb sc) s.2 :: As) w) (fun hk => ?_) ?_
      · replace hm := es; clear es
        refine Runs.region ?_
        replace H := thicketlaw11_world.open H
        try dsimp only at H
        refine WR.seg hE 5 [.pointer (some ⟨al_w_.a__p, 0, none⟩)] [0, 8, 90, 91] (Lo := [(0, .pointer (some ⟨p_w_, 0, none⟩)), (8, .int .i64 x.cell), (90, .pointer (some ⟨al_w_.a__p, 0, none⟩)), (91, .int .i64 x.cell)]) (obs := [.cell ⟨p_w_, 0, none⟩ (.pointer (some ⟨al_w_.a__p, 0, none⟩))]) rfl (by kernel_rfl) ⟨H.cell 0 rfl rfl, trivial⟩ fun a hE => ?_
        obtain ⟨t_6, et_6, hm⟩ := bind_some hm
        refine WR.eff hE rfl rfl rfl rfl (OpTo.fn hE rfl rfl Tryz.call33 (item_Node_ok et_6 H.t1)) ?_
        rintro _ w ⟨rfl, H⟩ a hE
        refine WR.seg hE 8 [] [0, 8, 94] (Lo := [(0, .pointer (some ⟨p_w_, 0, none⟩)), (8, .int .i64 x.cell), (94, .bool (t_6.1 == (-1)))]) (obs := []) rfl (by kernel_rfl) trivial fun a hE => ?_
        rcases Bool.eq_false_or_eq_true (t_6.1 == (-1)) with c | c
        · replace hE := hE.dec 94 c (by kernel_rfl)
          replace hm := cond_t c hm
          have c_ := c
          refine WR.seg hE 13 [.pointer (some ⟨al_w_.a__p, 0, none⟩)] [94, 98, 99] (Lo := [(94, .bool true), (98, .pointer (some ⟨al_w_.a__p, 0, none⟩)), (99, .int .i64 x.cell)]) (obs := [.cell ⟨p_w_, 0, none⟩ (.pointer (some ⟨al_w_.a__p, 0, none⟩))]) rfl (by kernel_rfl) ⟨H.cell 1 rfl rfl, trivial⟩ fun a hE => ?_
          obtain ⟨t_7, et_7, hm⟩ := bind_some hm
          refine WR.eff hE rfl rfl rfl rfl (OpTo.fn hE rfl rfl Tryz.call21 (arena_Arena_Give_ok et_7 H)) ?_
          rintro _ w ⟨z3, z4, rfl, H⟩ a hE
          refine WR.seg hE 16 [] [6] (Lo := [(6, .bool t_7.1)]) (obs := []) rfl (by kernel_rfl) trivial fun a hE => ?_
          refine WR.done rfl ?_
          replace H := thicketlaw11_world.shut (thicketlaw11_world.A.mk al_w_.a__p (arena_Arena.A.mk ((arena_Arena.A.mk al_w_.a__a.l_b al_w_.a__a.l_c z z1 al_w_.a__a.m__p).l_b) ((arena_Arena.A.mk al_w_.a__a.l_b al_w_.a__a.l_c z z1 al_w_.a__a.m__p).l_c) z3 z4 ((arena_Arena.A.mk al_w_.a__a.l_b al_w_.a__a.l_c z z1 al_w_.a__a.m__p).m__p)) al_w_.has0_b al_w_.has0_c sb sc) (thicketlaw11_world.mk t_7.2 t_4.2.root0 t_3.1 w_.has0 t_5 t_4.2.next t_4.2.spent t_4.2.most) H.t3.t3.t2.t3
          cases hm
          exact hk _ _ ⟨arena_Arena.A.mk ((arena_Arena.A.mk al_w_.a__a.l_b al_w_.a__a.l_c z z1 al_w_.a__a.m__p).l_b) ((arena_Arena.A.mk al_w_.a__a.l_b al_w_.a__a.l_c z z1 al_w_.a__a.m__p).l_c) z3 z4 ((arena_Arena.A.mk al_w_.a__a.l_b al_w_.a__a.l_c z z1 al_w_.a__a.m__p).m__p), hE.sel [6] (by kernel_rfl), H.x1⟩
        · replace hE := hE.dec 94 c (by kernel_rfl)
          replace hm := cond_f c hm
          have c_1 := c
          refine WR.seg hE 16 [] [6] (Lo := [(6, .bool false)]) (obs := []) rfl (by kernel_rfl) trivial fun a hE => ?_
          refine WR.done rfl ?_
          replace H := thicketlaw11_world.shut (thicketlaw11_world.A.mk al_w_.a__p (arena_Arena.A.mk al_w_.a__a.l_b al_w_.a__a.l_c z z1 al_w_.a__a.m__p) al_w_.has0_b al_w_.has0_c sb sc) (thicketlaw11_world.mk t_6.2 t_4.2.root0 t_3.1 w_.has0 t_5 t_4.2.next t_4.2.spent t_4.2.most) H.t3.t3.t2.t3
          cases hm
          exact hk _ _ ⟨arena_Arena.A.mk al_w_.a__a.l_b al_w_.a__a.l_c z z1 al_w_.a__a.m__p, hE.sel [6] (by kernel_rfl), H.x1⟩
      rintro a w ⟨z2, hE, H⟩
      refine Runs.ret hE Tryz.func8 rfl rfl ?_
      cases hm
      exact ⟨z2, sb, sc, rfl, H⟩

theorem thicketlaw11_world_cut_ok {w0 w : World} {As : List HP} {k : Nat} {p_w_ : Nat} {al_w_ : thicketlaw11_world.A} {w_ : thicketlaw11_world} {at_ : Int} {h_ : Int} {t : Bool × thicketlaw11_world}  (hm : thicketlaw11_world_cut k w_ h_ at_ = some t) (H : St w0 (thicketlaw11_world.R p_w_ al_w_ w_ :: As) w) :
    CallsR Tryz.prog 8 #[.pointer (some ⟨p_w_, 0, none⟩), .int .i64 h_, .int .i64 at_] w fun v w' => ∃ (z_w__a__a : arena_Arena.A), ∃ (z_w__has0_b : Option Addr), ∃ (z_w__has0_c : Nat), ∃ (z_w__has1_b : Option Addr), ∃ (z_w__has1_c : Nat), v = .bool t.1 ∧ St w0 (thicketlaw11_world.R p_w_ (thicketlaw11_world.A.mk al_w_.a__p z_w__a__a z_w__has0_b z_w__has0_c z_w__has1_b z_w__has1_c) t.2 :: As) w' := by
  rw [thicketlaw11_world_cut] at hm
  by_cases h0 : h_ = 0
  · subst h0; simp only [if_pos] at hm
    refine (thicketlaw11_world_cut_at0_ok hm H).mono ?_
    rintro v w' ⟨y_0, y_1, y_2, hv, H⟩; exact ⟨y_0, y_1, y_2, al_w_.has1_b, al_w_.has1_c, hv, H⟩
  rw [if_neg h0] at hm
  by_cases h1 : h_ = 1
  · subst h1; simp only [if_pos] at hm
    refine (thicketlaw11_world_cut_at1_ok hm H).mono ?_
    rintro v w' ⟨y_0, y_1, y_2, hv, H⟩; exact ⟨y_0, al_w_.has0_b, al_w_.has0_c, y_1, y_2, hv, H⟩
  rw [if_neg h1] at hm
  cases hm

theorem skew_Meld_ok {w0 w : World} {As : List HP} {k : Nat} {p_a_ : Nat} {al_a_ : arena_Arena.A} {a_ : arena_Arena} {r : Int} {s : Int} {t : Int × arena_Arena}  (hm : skew_Meld k a_ r s = some t) (H : St w0 (arena_Arena.R p_a_ al_a_ a_ :: As) w) :
    CallsR Tryz.prog 34 #[.pointer (some ⟨p_a_, 0, none⟩), .int .i64 r, .int .i64 s] w fun v w' => v = .int .i64 t.1 ∧ St w0 (arena_Arena.R p_a_ al_a_ t.2 :: As) w' := by
  rw [skew_Meld] at hm
  refine enter (args := [.pointer (some ⟨p_a_, 0, none⟩), .int .i64 r, .int .i64 s]) Tryz.func34 rfl rfl rfl fun a hE => ?_
  refine Runs.seq ?_
  refine Runs.region ?_
  refine WR.seg hE 1 [] [0, 1, 2] (Lo := [(0, .pointer (some ⟨p_a_, 0, none⟩)), (1, .int .i64 r), (2, .int .i64 s)]) (obs := []) rfl (by kernel_rfl) trivial fun a hE => ?_
  refine WR.done rfl ?_
  refine Runs.seq ?_
  refine Runs.seq ?_
  refine Runs.region ?_
  refine WR.seg hE 2 [] [0, 1, 2, 8] (Lo := [(0, .pointer (some ⟨p_a_, 0, none⟩)), (1, .int .i64 r), (2, .int .i64 s), (8, .bool false)]) (obs := []) rfl (by kernel_rfl) trivial fun a hE => ?_
  refine WR.done rfl ?_
  refine Runs.condF hE rfl ?_
  refine Runs.skip ?_
  refine Runs.seq ?_
  refine Runs.seq ?_
  refine Runs.region ?_
  refine WR.seg hE 3 [] [0, 1, 2, 11] (Lo := [(0, .pointer (some ⟨p_a_, 0, none⟩)), (1, .int .i64 r), (2, .int .i64 s), (11, .bool (r == s))]) (obs := []) rfl (by kernel_rfl) trivial fun a hE => ?_
  refine WR.done rfl ?_
  refine Runs.cond hE rfl (fun c => ?_) (fun c => ?_)
  · replace hm := cond_t c hm
    refine Runs.seq ?_
    refine Runs.region ?_
    refine WR.seg hE 2 [] [6] (Lo := [(6, .int .i64 r)]) (obs := []) rfl (by kernel_rfl) trivial fun a hE => ?_
    refine WR.done rfl ?_
    refine Runs.ret hE Tryz.func34 rfl rfl ?_
    cases hm
    exact ⟨rfl, H⟩
  · replace hm := cond_f c hm
    refine Runs.skip ?_
    refine Runs.seq ?_
    refine Runs.region ?_
    refine WR.seg hE 3 [] [0, 2, 13, 14, 15] (Lo := [(0, .pointer (some ⟨p_a_, 0, none⟩)), (2, .int .i64 s), (13, .pointer (some ⟨p_a_, 0, none⟩)), (14, .pointer (some ⟨p_a_, 0, none⟩)), (15, .int .i64 r)]) (obs := []) rfl (by kernel_rfl) trivial fun a hE => ?_
    obtain ⟨t_, et_, hm⟩ := bind_some hm
    refine WR.eff hE rfl rfl rfl rfl (OpTo.fn hE rfl rfl Tryz.call47 (trees_List_ok et_ H)) ?_
    rintro _ w ⟨sb, sc, rfl, H⟩ a hE
    refine WR.seg hE 6 [] [13, 16, 17, 18] (Lo := [(13, .pointer (some ⟨p_a_, 0, none⟩)), (16, .slice sb t_.1.length sc), (17, .pointer (some ⟨p_a_, 0, none⟩)), (18, .int .i64 s)]) (obs := []) rfl (by kernel_rfl) trivial fun a hE => ?_
    obtain ⟨t_1, et_1, hm⟩ := bind_some hm
    refine WR.eff hE rfl rfl rfl rfl (OpTo.fn hE rfl rfl Tryz.call47 (trees_List_ok et_1 H.t1)) ?_
    rintro _ w ⟨sb1, sc1, rfl, H⟩ a hE
    obtain ⟨l, el, hm⟩ := bind_some hm
    replace H := H.t2
    refine WR.eff hE rfl rfl rfl rfl (OpTo.appendM el hE H ecI_ok rfl rfl rfl rfl rfl rfl rfl rfl rfl rfl (SlRd.all (sl_rd 3 ecI 1 _ _ _) ecI_ok H 1 rfl) rfl) ?_
    rintro _ w ⟨sb2, sc2, rfl, H⟩ a hE
    obtain ⟨t_2, et_2, hm⟩ := bind_some hm
    replace H := H.t2
    refine WR.eff hE rfl rfl rfl rfl (OpTo.fn hE rfl rfl Tryz.call56 (trees_Carry_ok (hX_l := (sl_rd 3 ecI 1 _ _ _)) (hC_l := (H.slCap 1 rfl).1) et_2 H)) ?_
    rintro _ w ⟨rfl, H⟩ a hE
    refine WR.seg hE 10 [] [6] (Lo := [(6, .int .i64 t_2.1)]) (obs := []) rfl (by kernel_rfl) trivial fun a hE => ?_
    refine WR.done rfl ?_
    refine Runs.ret hE Tryz.func34 rfl rfl ?_
    cases hm
    exact ⟨rfl, H.x2.x1⟩

theorem thicketlaw11_world_meld_at0_ok {w0 w : World} {As : List HP} {k : Nat} {p_w_ : Nat} {al_w_ : thicketlaw11_world.A} {w_ : thicketlaw11_world} {t : Bool × thicketlaw11_world}  (hm : thicketlaw11_world_meld_at0 k w_ = some t) (H : St w0 (thicketlaw11_world.R p_w_ al_w_ w_ :: As) w) :
    CallsR Tryz.prog 9 #[.pointer (some ⟨p_w_, 0, none⟩), .int .i64 0] w fun v w' => ∃ (z_w__has0_b : Option Addr), ∃ (z_w__has0_c : Nat), ∃ (z_w__has1_b : Option Addr), ∃ (z_w__has1_c : Nat), v = .bool t.1 ∧ St w0 (thicketlaw11_world.R p_w_ (thicketlaw11_world.A.mk al_w_.a__p al_w_.a__a z_w__has0_b z_w__has0_c z_w__has1_b z_w__has1_c) t.2 :: As) w' := by
  rw [thicketlaw11_world_meld_at0] at hm
  refine enter (args := [.pointer (some ⟨p_w_, 0, none⟩), .int .i64 0]) Tryz.func9 rfl rfl rfl fun a hE => ?_
  refine Runs.seq ?_
  refine Runs.region ?_
  refine WR.seg hE 1 [] [0, 1] (Lo := [(0, .pointer (some ⟨p_w_, 0, none⟩)), (1, .int .i64 0)]) (obs := []) rfl (by kernel_rfl) trivial fun a hE => ?_
  refine WR.done rfl ?_
  refine Runs.seq ?_
  refine Runs.region ?_
  replace H := thicketlaw11_world.open H
  refine WR.seg hE 4 [.pointer (some ⟨al_w_.a__p, 0, none⟩)] [0, 1, 10] (Lo := [(0, .pointer (some ⟨p_w_, 0, none⟩)), (1, .int .i64 0), (10, .pointer (some ⟨al_w_.a__p, 0, none⟩))]) (obs := [.cell ⟨p_w_, 0, none⟩ (.pointer (some ⟨al_w_.a__p, 0, none⟩))]) rfl (by kernel_rfl) ⟨H.cell 0 rfl rfl, trivial⟩ fun a hE => ?_
  obtain ⟨t_, et_, hm⟩ := bind_some hm
  refine WR.eff hE rfl rfl rfl rfl (OpTo.fn hE rfl rfl Tryz.call15 (arena_Arena_Meter_ok et_ H.t1)) ?_
  rintro _ w ⟨rfl, H⟩ a hE
  replace H := arena_Arena.open H
  obtain ⟨t_1, et_1, hm⟩ := bind_some hm
  refine WR.eff hE rfl rfl rfl rfl (OpTo.fn hE rfl rfl Tryz.call18 (meter_Meter_Steps_ok et_1 H.t3)) ?_
  rintro _ w ⟨rfl, H⟩ a hE
  refine WR.seg hE 7 [] [0, 1, 5] (Lo := [(0, .pointer (some ⟨p_w_, 0, none⟩)), (1, .int .i64 0), (5, .int .i64 t_1)]) (obs := []) rfl (by kernel_rfl) trivial fun a hE => ?_
  refine WR.done rfl ?_
  refine Runs.seq ?_
  refine Runs.drawn mixed (by kernel_rfl) ?_
  replace H := H.drew
  refine WQ.seg hE [0, 1, 2, 3, 4, 5, 6, 7, 8, 9, 10, 11, 12, 13, 14, 15, 16] [.pointer (some ⟨al_w_.a__p, 0, none⟩), .int .i64 w_.root0, .int .i64 w_.root1] [0, 1, 5, 16, 22, 29] (Lo := [(0, .pointer (some ⟨p_w_, 0, none⟩)), (1, .int .i64 0), (5, .int .i64 t_1), (16, .pointer (some ⟨al_w_.a__p, 0, none⟩)), (22, .int .i64 w_.root0), (29, .int .i64 w_.root1)]) (obs := [.cell ⟨p_w_, 0, none⟩ (.pointer (some ⟨al_w_.a__p, 0, none⟩)), .p (0 ≤ (0 : Int) ∧ (0 : Int) < ((2 : Nat) : Int)), .cell ⟨p_w_, 1, none⟩ (.int .i64 w_.root0), .p (0 ≤ (1 : Int) ∧ (1 : Int) < ((2 : Nat) : Int)), .cell ⟨p_w_, 2, none⟩ (.int .i64 w_.root1)]) (by kernel_rfl) (by kernel_rfl) ⟨H.cell 4 rfl rfl, ⟨by decide, by decide⟩, H.cell 4 rfl rfl, ⟨by decide, by decide⟩, H.cell 4 rfl rfl, trivial⟩ fun a hE => ?_
  replace H := arena_Arena.shut al_w_.a__a (w_.a_) H.t3.t3.t3
  obtain ⟨t_2, et_2, hm⟩ := bind_some hm
  refine WQ.eff (j := 17) (obs := []) hE (by kernel_rfl) rfl rfl rfl rfl (by kernel_rfl) (OpTo.fn hE rfl rfl Tryz.call34 (skew_Meld_ok et_2 H)) ?_
  rintro _ w ⟨rfl, H⟩
  refine ⟨trivial, fun a hE => ?_⟩
  refine WQ.seg hE [18] [] [0, 1, 5, 6] (Lo := [(0, .pointer (some ⟨p_w_, 0, none⟩)), (1, .int .i64 0), (5, .int .i64 t_1), (6, .int .i64 t_2.1)]) (obs := []) (by kernel_rfl) (by kernel_rfl) trivial fun a hE => ?_
  refine WQ.done (by kernel_rfl) ?_
  refine Runs.seq ?_
  refine Runs.seq ?_
  refine Runs.drawn mixed (by kernel_rfl) ?_
  replace H := H.drew
  refine WQ.seg hE [0, 1, 2, 3, 4, 5, 6, 7, 8, 9, 10, 11, 12, 13, 14] [.slice al_w_.has0_b w_.has0.length al_w_.has0_c, .slice al_w_.has1_b w_.has1.length al_w_.has1_c] [0, 1, 6, 31, 32, 45] (Lo := [(0, .pointer (some ⟨p_w_, 0, none⟩)), (1, .int .i64 0), (6, .int .i64 t_2.1), (31, .pointer (some ⟨p_w_, 0, none⟩)), (32, .int .i64 t_1), (45, .int .i64 (w64 ((w_.has0.length : Int) + (w_.has1.length : Int))))]) (obs := [.p (0 ≤ (0 : Int) ∧ (0 : Int) < ((2 : Nat) : Int)), .cell ⟨p_w_, 3, none⟩ (.slice al_w_.has0_b w_.has0.length al_w_.has0_c), .p (0 ≤ (1 : Int) ∧ (1 : Int) < ((2 : Nat) : Int)), .cell ⟨p_w_, 4, none⟩ (.slice al_w_.has1_b w_.has1.length al_w_.has1_c)]) (by kernel_rfl) (by kernel_rfl) ⟨⟨by decide, by decide⟩, H.cell 1 rfl rfl, ⟨by decide, by decide⟩, H.cell 1 rfl rfl, trivial⟩ fun a hE => ?_
  replace H := thicketlaw11_world.shut al_w_ (thicketlaw11_world.mk t_2.2 w_.root0 w_.root1 w_.has0 w_.has1 w_.next w_.spent w_.most) H.t3.t3.t2.t3
  obtain ⟨t_3, et_3, hm⟩ := bind_some hm
  refine WQ.eff (j := 15) (obs := []) hE (by kernel_rfl) rfl rfl rfl rfl (by kernel_rfl) (OpTo.fn hE rfl rfl Tryz.call20 (thicketlaw11_world_cost_ok et_3 H)) ?_
  rintro _ w ⟨rfl, hf, hf1, H⟩
  refine ⟨trivial, fun a hE => ?_⟩
  refine WQ.seg hE [16] [] [0, 1, 6, 47] (Lo := [(0, .pointer (some ⟨p_w_, 0, none⟩)), (1, .int .i64 0), (6, .int .i64 t_2.1), (47, .bool (!t_3.1))]) (obs := []) (by kernel_rfl) (by kernel_rfl) trivial fun a hE => ?_
  refine WQ.done (by kernel_rfl) ?_
  refine Runs.cond hE rfl (fun c => ?_) (fun c => ?_)
  · replace hm := cond_t c hm
    refine Runs.seq ?_
    refine Runs.region ?_
    refine WR.seg hE 1 [] [4] (Lo := [(4, .bool false)]) (obs := []) rfl (by kernel_rfl) trivial fun a hE => ?_
    refine WR.done rfl ?_
    refine Runs.ret hE Tryz.func9 rfl rfl ?_
    cases hm
    exact ⟨al_w_.has0_b, al_w_.has0_c, al_w_.has1_b, al_w_.has1_c, rfl, H⟩
  · replace hm := cond_f c hm
    refine Runs.skip ?_
    refine Runs.seq ?_
    refine Runs.drawn mixed (by kernel_rfl) ?_
    replace H := H.drew
    refine WQ.seg hE [0, 1, 2, 3, 4, 5, 6, 7, 8, 10, 11] [] [0, 1, 52, 53, 56, 58] (Lo := [(0, .pointer (some ⟨p_w_, 0, none⟩)), (1, .int .i64 0), (52, .int .i64 1), (53, .int .i64 t_2.1), (56, .pointer (some ⟨p_w_, 1, none⟩)), (58, .pointer (some ⟨p_w_, 1, none⟩))]) (obs := [.p (0 ≤ (0 : Int) ∧ (0 : Int) < ((2 : Nat) : Int))]) (by kernel_rfl) (by kernel_rfl) ⟨⟨by decide, by decide⟩, trivial⟩ fun a hE => ?_
    replace H := thicketlaw11_world.open H
    try rw [hf] at H
    try rw [hf1] at H
    try dsimp only at H
    refine WQ.eff0 (j := 9) (obs := []) hE (by kernel_rfl) rfl rfl rfl (by kernel_rfl) (OpTo.store hE H rfl rfl rfl rfl rfl rfl (Nat.le_of_ble_eq_true rfl)) ?_
    rintro _ w H
    refine ⟨trivial, fun a hE => ?_⟩
    refine WQ.seg hE [12] [] [0, 1, 59] (Lo := [(0, .pointer (some ⟨p_w_, 0, none⟩)), (1, .int .i64 0), (59, .pointer (some ⟨p_w_, 2, none⟩))]) (obs := [.p (0 ≤ (1 : Int) ∧ (1 : Int) < ((2 : Nat) : Int))]) (by kernel_rfl) (by kernel_rfl) ⟨⟨by decide, by decide⟩, trivial⟩ fun a hE => ?_
    refine WQ.eff0 (j := 13) (obs := []) hE (by kernel_rfl) rfl rfl rfl (by kernel_rfl) (OpTo.store hE H rfl rfl rfl rfl rfl rfl (Nat.le_of_ble_eq_true rfl)) ?_
    rintro _ w H
    refine ⟨trivial, fun a hE => ?_⟩
    refine WQ.done (by kernel_rfl) ?_
    refine Runs.seq ?_
    refine Runs.drawn mixed (by kernel_rfl) ?_
    replace H := H.drew
    refine WQ.seg hE [0, 1, 2, 3, 4, 6, 7, 8, 9, 10, 11, 13, 14, 15, 16, 17, 18, 19, 21, 22, 25, 26] [.slice al_w_.has0_b w_.has0.length al_w_.has0_c, .slice al_w_.has1_b w_.has1.length al_w_.has1_c] [61, 64, 71, 79, 82, 85] (Lo := [(61, .int .i64 0), (64, .int .i64 1), (71, .slice al_w_.has0_b w_.has0.length al_w_.has0_c), (79, .slice al_w_.has1_b w_.has1.length al_w_.has1_c), (82, .pointer (some ⟨p_w_, 3, none⟩)), (85, .pointer (some ⟨p_w_, 3, none⟩))]) (obs := [.p (0 ≤ (0 : Int) ∧ (0 : Int) < ((2 : Nat) : Int)), .cell ⟨p_w_, 3, none⟩ (.slice al_w_.has0_b w_.has0.length al_w_.has0_c), .p (0 ≤ (1 : Int) ∧ (1 : Int) < ((2 : Nat) : Int)), .cell ⟨p_w_, 4, none⟩ (.slice al_w_.has1_b w_.has1.length al_w_.has1_c)]) (by kernel_rfl) (by kernel_rfl) ⟨⟨by decide, by decide⟩, H.cell 0 rfl rfl, ⟨by decide, by decide⟩, H.cell 0 rfl rfl, trivial⟩ fun a hE => ?_
    refine WQ.eff (j := 5) (obs := [.cell ⟨p_w_, 4, none⟩ (.slice al_w_.has1_b w_.has1.length al_w_.has1_c), .p (0 ≤ (1 : Int) ∧ (1 : Int) < ((2 : Nat) : Int)), .cell ⟨p_w_, 3, none⟩ (.slice al_w_.has0_b w_.has0.length al_w_.has0_c), .p (0 ≤ (0 : Int) ∧ (0 : Int) < ((2 : Nat) : Int))]) hE (by kernel_rfl) rfl rfl rfl rfl (by kernel_rfl) (OpTo.buildSl (T := 48) hE H thicketlaw11_held.enc_ok ([] : List thicketlaw11_held) rfl (fun _ => by kernel_rfl) rfl rfl rfl) ?_
    rintro _ w ⟨r, rfl, H⟩
    refine ⟨⟨H.cell 1 rfl rfl, ⟨by decide, by decide⟩, H.cell 1 rfl rfl, ⟨by decide, by decide⟩, trivial⟩, fun a hE => ?_⟩
    obtain ⟨l, el, hm⟩ := bind_some hm
    refine WQ.eff (j := 12) (obs := [.cell ⟨p_w_, 4, none⟩ (.slice al_w_.has1_b w_.has1.length al_w_.has1_c), .p (0 ≤ (1 : Int) ∧ (1 : Int) < ((2 : Nat) : Int))]) hE (by kernel_rfl) rfl rfl rfl rfl (by kernel_rfl) (OpTo.appendM el hE H thicketlaw11_held.enc_ok rfl rfl rfl rfl rfl rfl rfl rfl rfl rfl (SlRd.all (sl_rd 48 thicketlaw11_held.enc 3 _ _ _) thicketlaw11_held.enc_ok H 3 rfl) rfl) ?_
    rintro _ w ⟨sb, sc, rfl, H⟩
    refine ⟨⟨H.cell 1 rfl rfl, ⟨by decide, by decide⟩, trivial⟩, fun a hE => ?_⟩
    obtain ⟨l1, el1, hm⟩ := bind_some hm
    refine WQ.eff (j := 20) (obs := []) hE (by kernel_rfl) rfl rfl rfl rfl (by kernel_rfl) (OpTo.appendM el1 hE H thicketlaw11_held.enc_ok rfl rfl rfl rfl rfl rfl rfl rfl rfl rfl (SlRd.all (sl_rd 48 thicketlaw11_held.enc 3 _ _ _) thicketlaw11_held.enc_ok H 4 rfl) rfl) ?_
    rintro _ w ⟨sb1, sc1, rfl, H⟩
    refine ⟨trivial, fun a hE => ?_⟩
    refine WQ.seg hE [23] [] [64, 80, 83, 85] (Lo := [(64, .int .i64 1), (80, .slice sb1 l1.length sc1), (83, .pointer (some ⟨p_w_, 3, none⟩)), (85, .pointer (some ⟨p_w_, 3, none⟩))]) (obs := [.p (0 ≤ (0 : Int) ∧ (0 : Int) < ((2 : Nat) : Int))]) (by kernel_rfl) (by kernel_rfl) ⟨⟨by decide, by decide⟩, trivial⟩ fun a hE => ?_
    refine WQ.eff0 (j := 24) (obs := []) hE (by kernel_rfl) rfl rfl rfl (by kernel_rfl) (OpTo.store hE H.t1 rfl rfl rfl rfl rfl rfl (Nat.le_of_ble_eq_true rfl)) ?_
    rintro _ w H
    refine ⟨trivial, fun a hE => ?_⟩
    refine WQ.seg hE [27] [] [86] (Lo := [(86, .pointer (some ⟨p_w_, 4, none⟩))]) (obs := [.p (0 ≤ (1 : Int) ∧ (1 : Int) < ((2 : Nat) : Int))]) (by kernel_rfl) (by kernel_rfl) ⟨⟨by decide, by decide⟩, trivial⟩ fun a hE => ?_
    refine WQ.eff0 (j := 28) (obs := []) hE (by kernel_rfl) rfl rfl rfl (by kernel_rfl) (OpTo.store hE H rfl rfl rfl rfl rfl rfl (Nat.le_of_ble_eq_true rfl)) ?_
    rintro _ w H
    refine ⟨trivial, fun a hE => ?_⟩
    refine WQ.done (by kernel_rfl) ?_
    refine Runs.seq ?_
    refine Runs.region ?_
    refine WR.seg hE 1 [] [4] (Lo := [(4, .bool true)]) (obs := []) rfl (by kernel_rfl) trivial fun a hE => ?_
    refine WR.done rfl ?_
    replace H := H.slNil 48 thicketlaw11_held.enc 3
    replace H := thicketlaw11_world.shut (thicketlaw11_world.A.mk al_w_.a__p al_w_.a__a sb1 sc1 none 0) (thicketlaw11_world.mk t_3.2.a_ t_2.1 (-1) l1 ([] : List thicketlaw11_held) t_3.2.next t_3.2.spent t_3.2.most) H.t2.t3.t3
    refine Runs.ret hE Tryz.func9 rfl rfl ?_
    cases hm
    exact ⟨sb1, sc1, none, 0, rfl, H.x2.x1⟩

theorem thicketlaw11_world_meld_at1_ok {w0 w : World} {As : List HP} {k : Nat} {p_w_ : Nat} {al_w_ : thicketlaw11_world.A} {w_ : thicketlaw11_world} {t : Bool × thicketlaw11_world}  (hm : thicketlaw11_world_meld_at1 k w_ = some t) (H : St w0 (thicketlaw11_world.R p_w_ al_w_ w_ :: As) w) :
    CallsR Tryz.prog 9 #[.pointer (some ⟨p_w_, 0, none⟩), .int .i64 1] w fun v w' => ∃ (z_w__has0_b : Option Addr), ∃ (z_w__has0_c : Nat), ∃ (z_w__has1_b : Option Addr), ∃ (z_w__has1_c : Nat), v = .bool t.1 ∧ St w0 (thicketlaw11_world.R p_w_ (thicketlaw11_world.A.mk al_w_.a__p al_w_.a__a z_w__has0_b z_w__has0_c z_w__has1_b z_w__has1_c) t.2 :: As) w' := by
  rw [thicketlaw11_world_meld_at1] at hm
  refine enter (args := [.pointer (some ⟨p_w_, 0, none⟩), .int .i64 1]) Tryz.func9 rfl rfl rfl fun a hE => ?_
  refine Runs.seq ?_
  refine Runs.region ?_
  refine WR.seg hE 1 [] [0, 1] (Lo := [(0, .pointer (some ⟨p_w_, 0, none⟩)), (1, .int .i64 1)]) (obs := []) rfl (by kernel_rfl) trivial fun a hE => ?_
  refine WR.done rfl ?_
  refine Runs.seq ?_
  refine Runs.region ?_
  replace H := thicketlaw11_world.open H
  refine WR.seg hE 4 [.pointer (some ⟨al_w_.a__p, 0, none⟩)] [0, 1, 10] (Lo := [(0, .pointer (some ⟨p_w_, 0, none⟩)), (1, .int .i64 1), (10, .pointer (some ⟨al_w_.a__p, 0, none⟩))]) (obs := [.cell ⟨p_w_, 0, none⟩ (.pointer (some ⟨al_w_.a__p, 0, none⟩))]) rfl (by kernel_rfl) ⟨H.cell 0 rfl rfl, trivial⟩ fun a hE => ?_
  obtain ⟨t_, et_, hm⟩ := bind_some hm
  refine WR.eff hE rfl rfl rfl rfl (OpTo.fn hE rfl rfl Tryz.call15 (arena_Arena_Meter_ok et_ H.t1)) ?_
  rintro _ w ⟨rfl, H⟩ a hE
  replace H := arena_Arena.open H
  obtain ⟨t_1, et_1, hm⟩ := bind_some hm
  refine WR.eff hE rfl rfl rfl rfl (OpTo.fn hE rfl rfl Tryz.call18 (meter_Meter_Steps_ok et_1 H.t3)) ?_
  rintro _ w ⟨rfl, H⟩ a hE
  refine WR.seg hE 7 [] [0, 1, 5] (Lo := [(0, .pointer (some ⟨p_w_, 0, none⟩)), (1, .int .i64 1), (5, .int .i64 t_1)]) (obs := []) rfl (by kernel_rfl) trivial fun a hE => ?_
  refine WR.done rfl ?_
  refine Runs.seq ?_
  refine Runs.drawn mixed (by kernel_rfl) ?_
  replace H := H.drew
  refine WQ.seg hE [0, 1, 2, 3, 4, 5, 6, 7, 8, 9, 10, 11, 12, 13, 14, 15, 16] [.pointer (some ⟨al_w_.a__p, 0, none⟩), .int .i64 w_.root1, .int .i64 w_.root0] [0, 1, 5, 16, 22, 29] (Lo := [(0, .pointer (some ⟨p_w_, 0, none⟩)), (1, .int .i64 1), (5, .int .i64 t_1), (16, .pointer (some ⟨al_w_.a__p, 0, none⟩)), (22, .int .i64 w_.root1), (29, .int .i64 w_.root0)]) (obs := [.cell ⟨p_w_, 0, none⟩ (.pointer (some ⟨al_w_.a__p, 0, none⟩)), .p (0 ≤ (1 : Int) ∧ (1 : Int) < ((2 : Nat) : Int)), .cell ⟨p_w_, 2, none⟩ (.int .i64 w_.root1), .p (0 ≤ (0 : Int) ∧ (0 : Int) < ((2 : Nat) : Int)), .cell ⟨p_w_, 1, none⟩ (.int .i64 w_.root0)]) (by kernel_rfl) (by kernel_rfl) ⟨H.cell 4 rfl rfl, ⟨by decide, by decide⟩, H.cell 4 rfl rfl, ⟨by decide, by decide⟩, H.cell 4 rfl rfl, trivial⟩ fun a hE => ?_
  replace H := arena_Arena.shut al_w_.a__a (w_.a_) H.t3.t3.t3
  obtain ⟨t_2, et_2, hm⟩ := bind_some hm
  refine WQ.eff (j := 17) (obs := []) hE (by kernel_rfl) rfl rfl rfl rfl (by kernel_rfl) (OpTo.fn hE rfl rfl Tryz.call34 (skew_Meld_ok et_2 H)) ?_
  rintro _ w ⟨rfl, H⟩
  refine ⟨trivial, fun a hE => ?_⟩
  refine WQ.seg hE [18] [] [0, 1, 5, 6] (Lo := [(0, .pointer (some ⟨p_w_, 0, none⟩)), (1, .int .i64 1), (5, .int .i64 t_1), (6, .int .i64 t_2.1)]) (obs := []) (by kernel_rfl) (by kernel_rfl) trivial fun a hE => ?_
  refine WQ.done (by kernel_rfl) ?_
  refine Runs.seq ?_
  refine Runs.seq ?_
  refine Runs.drawn mixed (by kernel_rfl) ?_
  replace H := H.drew
  refine WQ.seg hE [0, 1, 2, 3, 4, 5, 6, 7, 8, 9, 10, 11, 12, 13, 14] [.slice al_w_.has0_b w_.has0.length al_w_.has0_c, .slice al_w_.has1_b w_.has1.length al_w_.has1_c] [0, 1, 6, 31, 32, 45] (Lo := [(0, .pointer (some ⟨p_w_, 0, none⟩)), (1, .int .i64 1), (6, .int .i64 t_2.1), (31, .pointer (some ⟨p_w_, 0, none⟩)), (32, .int .i64 t_1), (45, .int .i64 (w64 ((w_.has0.length : Int) + (w_.has1.length : Int))))]) (obs := [.p (0 ≤ (0 : Int) ∧ (0 : Int) < ((2 : Nat) : Int)), .cell ⟨p_w_, 3, none⟩ (.slice al_w_.has0_b w_.has0.length al_w_.has0_c), .p (0 ≤ (1 : Int) ∧ (1 : Int) < ((2 : Nat) : Int)), .cell ⟨p_w_, 4, none⟩ (.slice al_w_.has1_b w_.has1.length al_w_.has1_c)]) (by kernel_rfl) (by kernel_rfl) ⟨⟨by decide, by decide⟩, H.cell 1 rfl rfl, ⟨by decide, by decide⟩, H.cell 1 rfl rfl, trivial⟩ fun a hE => ?_
  replace H := thicketlaw11_world.shut al_w_ (thicketlaw11_world.mk t_2.2 w_.root0 w_.root1 w_.has0 w_.has1 w_.next w_.spent w_.most) H.t3.t3.t2.t3
  obtain ⟨t_3, et_3, hm⟩ := bind_some hm
  refine WQ.eff (j := 15) (obs := []) hE (by kernel_rfl) rfl rfl rfl rfl (by kernel_rfl) (OpTo.fn hE rfl rfl Tryz.call20 (thicketlaw11_world_cost_ok et_3 H)) ?_
  rintro _ w ⟨rfl, hf, hf1, H⟩
  refine ⟨trivial, fun a hE => ?_⟩
  refine WQ.seg hE [16] [] [0, 1, 6, 47] (Lo := [(0, .pointer (some ⟨p_w_, 0, none⟩)), (1, .int .i64 1), (6, .int .i64 t_2.1), (47, .bool (!t_3.1))]) (obs := []) (by kernel_rfl) (by kernel_rfl) trivial fun a hE => ?_
  refine WQ.done (by kernel_rfl) ?_
  refine Runs.cond hE rfl (fun c => ?_) (fun c => ?_)
  · replace hm := cond_t c hm
    refine Runs.seq ?_
    refine Runs.region ?_
    refine WR.seg hE 1 [] [4] (Lo := [(4, .bool false)]) (obs := []) rfl (by kernel_rfl) trivial fun a hE => ?_
    refine WR.done rfl ?_
    refine Runs.ret hE Tryz.func9 rfl rfl ?_
    cases hm
    exact ⟨al_w_.has0_b, al_w_.has0_c, al_w_.has1_b, al_w_.has1_c, rfl, H⟩
  · replace hm := cond_f c hm
    refine Runs.skip ?_
    refine Runs.seq ?_
    refine Runs.drawn mixed (by kernel_rfl) ?_
    replace H := H.drew
    refine WQ.seg hE [0, 1, 2, 3, 4, 5, 6, 7, 8, 10, 11] [] [0, 1, 52, 53, 56, 58] (Lo := [(0, .pointer (some ⟨p_w_, 0, none⟩)), (1, .int .i64 1), (52, .int .i64 0), (53, .int .i64 t_2.1), (56, .pointer (some ⟨p_w_, 2, none⟩)), (58, .pointer (some ⟨p_w_, 1, none⟩))]) (obs := [.p (0 ≤ (1 : Int) ∧ (1 : Int) < ((2 : Nat) : Int))]) (by kernel_rfl) (by kernel_rfl) ⟨⟨by decide, by decide⟩, trivial⟩ fun a hE => ?_
    replace H := thicketlaw11_world.open H
    try rw [hf] at H
    try rw [hf1] at H
    try dsimp only at H
    refine WQ.eff0 (j := 9) (obs := []) hE (by kernel_rfl) rfl rfl rfl (by kernel_rfl) (OpTo.store hE H rfl rfl rfl rfl rfl rfl (Nat.le_of_ble_eq_true rfl)) ?_
    rintro _ w H
    refine ⟨trivial, fun a hE => ?_⟩
    refine WQ.seg hE [12] [] [0, 1, 59] (Lo := [(0, .pointer (some ⟨p_w_, 0, none⟩)), (1, .int .i64 1), (59, .pointer (some ⟨p_w_, 1, none⟩))]) (obs := [.p (0 ≤ (0 : Int) ∧ (0 : Int) < ((2 : Nat) : Int))]) (by kernel_rfl) (by kernel_rfl) ⟨⟨by decide, by decide⟩, trivial⟩ fun a hE => ?_
    refine WQ.eff0 (j := 13) (obs := []) hE (by kernel_rfl) rfl rfl rfl (by kernel_rfl) (OpTo.store hE H rfl rfl rfl rfl rfl rfl (Nat.le_of_ble_eq_true rfl)) ?_
    rintro _ w H
    refine ⟨trivial, fun a hE => ?_⟩
    refine WQ.done (by kernel_rfl) ?_
    refine Runs.seq ?_
    refine Runs.drawn mixed (by kernel_rfl) ?_
    replace H := H.drew
    refine WQ.seg hE [0, 1, 2, 3, 4, 6, 7, 8, 9, 10, 11, 13, 14, 15, 16, 17, 18, 19, 21, 22, 25, 26] [.slice al_w_.has1_b w_.has1.length al_w_.has1_c, .slice al_w_.has0_b w_.has0.length al_w_.has0_c] [61, 64, 71, 79, 82, 85] (Lo := [(61, .int .i64 1), (64, .int .i64 0), (71, .slice al_w_.has1_b w_.has1.length al_w_.has1_c), (79, .slice al_w_.has0_b w_.has0.length al_w_.has0_c), (82, .pointer (some ⟨p_w_, 3, none⟩)), (85, .pointer (some ⟨p_w_, 3, none⟩))]) (obs := [.p (0 ≤ (1 : Int) ∧ (1 : Int) < ((2 : Nat) : Int)), .cell ⟨p_w_, 4, none⟩ (.slice al_w_.has1_b w_.has1.length al_w_.has1_c), .p (0 ≤ (0 : Int) ∧ (0 : Int) < ((2 : Nat) : Int)), .cell ⟨p_w_, 3, none⟩ (.slice al_w_.has0_b w_.has0.length al_w_.has0_c)]) (by kernel_rfl) (by kernel_rfl) ⟨⟨by decide, by decide⟩, H.cell 0 rfl rfl, ⟨by decide, by decide⟩, H.cell 0 rfl rfl, trivial⟩ fun a hE => ?_
    refine WQ.eff (j := 5) (obs := [.cell ⟨p_w_, 3, none⟩ (.slice al_w_.has0_b w_.has0.length al_w_.has0_c), .p (0 ≤ (0 : Int) ∧ (0 : Int) < ((2 : Nat) : Int)), .cell ⟨p_w_, 4, none⟩ (.slice al_w_.has1_b w_.has1.length al_w_.has1_c), .p (0 ≤ (1 : Int) ∧ (1 : Int) < ((2 : Nat) : Int))]) hE (by kernel_rfl) rfl rfl rfl rfl (by kernel_rfl) (OpTo.buildSl (T := 48) hE H thicketlaw11_held.enc_ok ([] : List thicketlaw11_held) rfl (fun _ => by kernel_rfl) rfl rfl rfl) ?_
    rintro _ w ⟨r, rfl, H⟩
    refine ⟨⟨H.cell 1 rfl rfl, ⟨by decide, by decide⟩, H.cell 1 rfl rfl, ⟨by decide, by decide⟩, trivial⟩, fun a hE => ?_⟩
    obtain ⟨l, el, hm⟩ := bind_some hm
    refine WQ.eff (j := 12) (obs := [.cell ⟨p_w_, 3, none⟩ (.slice al_w_.has0_b w_.has0.length al_w_.has0_c), .p (0 ≤ (0 : Int) ∧ (0 : Int) < ((2 : Nat) : Int))]) hE (by kernel_rfl) rfl rfl rfl rfl (by kernel_rfl) (OpTo.appendM el hE H thicketlaw11_held.enc_ok rfl rfl rfl rfl rfl rfl rfl rfl rfl rfl (SlRd.all (sl_rd 48 thicketlaw11_held.enc 3 _ _ _) thicketlaw11_held.enc_ok H 4 rfl) rfl) ?_
    rintro _ w ⟨sb, sc, rfl, H⟩
    refine ⟨⟨H.cell 1 rfl rfl, ⟨by decide, by decide⟩, trivial⟩, fun a hE => ?_⟩
    obtain ⟨l1, el1, hm⟩ := bind_some hm
    refine WQ.eff (j := 20) (obs := []) hE (by kernel_rfl) rfl rfl rfl rfl (by kernel_rfl) (OpTo.appendM el1 hE H thicketlaw11_held.enc_ok rfl rfl rfl rfl rfl rfl rfl rfl rfl rfl (SlRd.all (sl_rd 48 thicketlaw11_held.enc 3 _ _ _) thicketlaw11_held.enc_ok H 3 rfl) rfl) ?_
    rintro _ w ⟨sb1, sc1, rfl, H⟩
    refine ⟨trivial, fun a hE => ?_⟩
    refine WQ.seg hE [23] [] [64, 80, 83, 85] (Lo := [(64, .int .i64 0), (80, .slice sb1 l1.length sc1), (83, .pointer (some ⟨p_w_, 4, none⟩)), (85, .pointer (some ⟨p_w_, 3, none⟩))]) (obs := [.p (0 ≤ (1 : Int) ∧ (1 : Int) < ((2 : Nat) : Int))]) (by kernel_rfl) (by kernel_rfl) ⟨⟨by decide, by decide⟩, trivial⟩ fun a hE => ?_
    refine WQ.eff0 (j := 24) (obs := []) hE (by kernel_rfl) rfl rfl rfl (by kernel_rfl) (OpTo.store hE H.t1 rfl rfl rfl rfl rfl rfl (Nat.le_of_ble_eq_true rfl)) ?_
    rintro _ w H
    refine ⟨trivial, fun a hE => ?_⟩
    refine WQ.seg hE [27] [] [86] (Lo := [(86, .pointer (some ⟨p_w_, 3, none⟩))]) (obs := [.p (0 ≤ (0 : Int) ∧ (0 : Int) < ((2 : Nat) : Int))]) (by kernel_rfl) (by kernel_rfl) ⟨⟨by decide, by decide⟩, trivial⟩ fun a hE => ?_
    refine WQ.eff0 (j := 28) (obs := []) hE (by kernel_rfl) rfl rfl rfl (by kernel_rfl) (OpTo.store hE H rfl rfl rfl rfl rfl rfl (Nat.le_of_ble_eq_true rfl)) ?_
    rintro _ w H
    refine ⟨trivial, fun a hE => ?_⟩
    refine WQ.done (by kernel_rfl) ?_
    refine Runs.seq ?_
    refine Runs.region ?_
    refine WR.seg hE 1 [] [4] (Lo := [(4, .bool true)]) (obs := []) rfl (by kernel_rfl) trivial fun a hE => ?_
    refine WR.done rfl ?_
    replace H := H.slNil 48 thicketlaw11_held.enc 3
    replace H := thicketlaw11_world.shut (thicketlaw11_world.A.mk al_w_.a__p al_w_.a__a none 0 sb1 sc1) (thicketlaw11_world.mk t_3.2.a_ (-1) t_2.1 ([] : List thicketlaw11_held) l1 t_3.2.next t_3.2.spent t_3.2.most) H.t2.t1.t3.t3
    refine Runs.ret hE Tryz.func9 rfl rfl ?_
    cases hm
    exact ⟨none, 0, sb1, sc1, rfl, H.x2.x1⟩

theorem thicketlaw11_world_meld_ok {w0 w : World} {As : List HP} {k : Nat} {p_w_ : Nat} {al_w_ : thicketlaw11_world.A} {w_ : thicketlaw11_world} {h_ : Int} {t : Bool × thicketlaw11_world}  (hm : thicketlaw11_world_meld k w_ h_ = some t) (H : St w0 (thicketlaw11_world.R p_w_ al_w_ w_ :: As) w) :
    CallsR Tryz.prog 9 #[.pointer (some ⟨p_w_, 0, none⟩), .int .i64 h_] w fun v w' => ∃ (z_w__has0_b : Option Addr), ∃ (z_w__has0_c : Nat), ∃ (z_w__has1_b : Option Addr), ∃ (z_w__has1_c : Nat), v = .bool t.1 ∧ St w0 (thicketlaw11_world.R p_w_ (thicketlaw11_world.A.mk al_w_.a__p al_w_.a__a z_w__has0_b z_w__has0_c z_w__has1_b z_w__has1_c) t.2 :: As) w' := by
  rw [thicketlaw11_world_meld] at hm
  by_cases h0 : h_ = 0
  · subst h0; simp only [if_pos] at hm
    refine (thicketlaw11_world_meld_at0_ok hm H).mono ?_
    rintro v w' ⟨y_0, y_1, y_2, y_3, hv, H⟩; exact ⟨y_0, y_1, y_2, y_3, hv, H⟩
  rw [if_neg h0] at hm
  by_cases h1 : h_ = 1
  · subst h1; simp only [if_pos] at hm
    refine (thicketlaw11_world_meld_at1_ok hm H).mono ?_
    rintro v w' ⟨y_0, y_1, y_2, y_3, hv, H⟩; exact ⟨y_0, y_1, y_2, y_3, hv, H⟩
  rw [if_neg h1] at hm
  cases hm

theorem skew_Pop_ok {w0 w : World} {As : List HP} {k : Nat} {p_a_ : Nat} {al_a_ : arena_Arena.A} {a_ : arena_Arena} {r : Int} {t : Int × Int × arena_Arena}  (hm : skew_Pop k a_ r = some t) (H : St w0 (arena_Arena.R p_a_ al_a_ a_ :: As) w) :
    CallsR Tryz.prog 35 #[.pointer (some ⟨p_a_, 0, none⟩), .int .i64 r] w fun v w' => ∃ (z_a__free_b : Option Addr), ∃ (z_a__free_c : Nat), v = .tuple #[.int .i64 t.1, .int .i64 t.2.1] ∧ St w0 (arena_Arena.R p_a_ (arena_Arena.A.mk al_a_.l_b al_a_.l_c z_a__free_b z_a__free_c al_a_.m__p) t.2.2 :: As) w' := by
  rw [skew_Pop] at hm
  refine enter (args := [.pointer (some ⟨p_a_, 0, none⟩), .int .i64 r]) Tryz.func35 rfl rfl rfl fun a hE => ?_
  refine Runs.seq ?_
  refine Runs.region ?_
  refine WR.seg hE 2 [] [0, 1] (Lo := [(0, .pointer (some ⟨p_a_, 0, none⟩)), (1, .int .i64 r)]) (obs := []) rfl (by kernel_rfl) trivial fun a hE => ?_
  refine WR.done rfl ?_
  refine Runs.seq ?_
  refine Runs.seq ?_
  obtain ⟨s, es, hm⟩ := bind_some hm
  refine Runs.join (fun a w => EnvOk 26 a [(0, .pointer (some ⟨p_a_, 0, none⟩)), (1, .int .i64 r), (14, .bool s)] ∧ St w0 (arena_Arena.R p_a_ al_a_ a_ :: As) w) (fun hk => ?_) ?_
  · replace hm := es; clear es
    refine Runs.region ?_
    refine WR.seg hE 5 [] [0, 1, 9, 10, 11] (Lo := [(0, .pointer (some ⟨p_a_, 0, none⟩)), (1, .int .i64 r), (9, .bool false), (10, .pointer (some ⟨p_a_, 0, none⟩)), (11, .int .i64 r)]) (obs := []) rfl (by kernel_rfl) trivial fun a hE => ?_
    obtain ⟨t_, et_, hm⟩ := bind_some hm
    refine WR.eff hE rfl rfl rfl rfl (OpTo.fn hE rfl rfl Tryz.call44 (arena_Arena_Live_ok et_ H)) ?_
    rintro _ w ⟨rfl, H⟩ a hE
    refine WR.seg hE 8 [] [0, 1, 14] (Lo := [(0, .pointer (some ⟨p_a_, 0, none⟩)), (1, .int .i64 r), (14, .bool (!t_))]) (obs := []) rfl (by kernel_rfl) trivial fun a hE => ?_
    refine WR.done rfl ?_
    cases hm
    exact hk _ _ ⟨hE.sel [0, 1, 14] (by kernel_rfl), H⟩
  rintro a w ⟨hE, H⟩
  refine Runs.cond hE rfl (fun c => ?_) (fun c => ?_)
  · replace hm := cond_t c hm
    refine Runs.seq ?_
    refine Runs.region ?_
    refine WR.seg hE 2 [] [4, 5] (Lo := [(4, .int .i64 (-1)), (5, .int .i64 (-1))]) (obs := []) rfl (by kernel_rfl) trivial fun a hE => ?_
    refine WR.done rfl ?_
    refine Runs.ret hE Tryz.func35 rfl rfl ?_
    cases hm
    exact ⟨al_a_.free_b, al_a_.free_c, rfl, H⟩
  · replace hm := cond_f c hm
    refine Runs.skip ?_
    refine Runs.seq ?_
    refine Runs.region ?_
    refine WR.seg hE 2 [] [0, 15, 16] (Lo := [(0, .pointer (some ⟨p_a_, 0, none⟩)), (15, .pointer (some ⟨p_a_, 0, none⟩)), (16, .int .i64 r)]) (obs := []) rfl (by kernel_rfl) trivial fun a hE => ?_
    obtain ⟨t_1, et_1, hm⟩ := bind_some hm
    refine WR.eff hE rfl rfl rfl rfl (OpTo.fn hE rfl rfl Tryz.call47 (trees_List_ok et_1 H)) ?_
    rintro _ w ⟨sb, sc, rfl, H⟩ a hE
    refine WR.seg hE 4 [] [0, 6] (Lo := [(0, .pointer (some ⟨p_a_, 0, none⟩)), (6, .slice sb t_1.1.length sc)]) (obs := []) rfl (by kernel_rfl) trivial fun a hE => ?_
    refine WR.done rfl ?_
    refine Runs.seq ?_
    refine Runs.region ?_
    refine WR.seg hE 4 [] [18, 19, 20, 21] (Lo := [(18, .pointer (some ⟨p_a_, 0, none⟩)), (19, .slice sb t_1.1.length sc), (20, .pointer (some ⟨p_a_, 0, none⟩)), (21, .slice sb t_1.1.length sc)]) (obs := []) rfl (by kernel_rfl) trivial fun a hE => ?_
    obtain ⟨t_2, et_2, hm⟩ := bind_some hm
    replace H := H.t1
    refine WR.eff hE rfl rfl rfl rfl (OpTo.fn hE rfl rfl Tryz.call46 (trees_Best_ok (hX_l := (sl_rd 3 ecI 1 _ _ _)) (hC_l := (H.slCap 1 rfl).1) et_2 H)) ?_
    rintro _ w ⟨rfl, H⟩ a hE
    obtain ⟨t_3, et_3, hm⟩ := bind_some hm
    refine WR.eff hE rfl rfl rfl rfl (OpTo.fn hE rfl rfl Tryz.call55 (skew_without_ok et_3 H.t1.t1)) ?_
    rintro _ w ⟨z, z1, rfl, H⟩ a hE
    refine WR.seg hE 10 [] [4, 5] (Lo := [(4, .int .i64 t_3.1), (5, .int .i64 t_3.2.1)]) (obs := []) rfl (by kernel_rfl) trivial fun a hE => ?_
    refine WR.done rfl ?_
    refine Runs.ret hE Tryz.func35 rfl rfl ?_
    cases hm
    exact ⟨z, z1, rfl, H⟩

theorem thicketlaw11_world_pop_at0_ok {w0 w : World} {As : List HP} {k : Nat} {p_w_ : Nat} {al_w_ : thicketlaw11_world.A} {w_ : thicketlaw11_world} {t : Bool × thicketlaw11_world}  (hm : thicketlaw11_world_pop_at0 k w_ = some t) (H : St w0 (thicketlaw11_world.R p_w_ al_w_ w_ :: As) w) :
    CallsR Tryz.prog 10 #[.pointer (some ⟨p_w_, 0, none⟩), .int .i64 0] w fun v w' => ∃ (z_w__a__a : arena_Arena.A), ∃ (z_w__has0_b : Option Addr), ∃ (z_w__has0_c : Nat), v = .bool t.1 ∧ St w0 (thicketlaw11_world.R p_w_ (thicketlaw11_world.A.mk al_w_.a__p z_w__a__a z_w__has0_b z_w__has0_c al_w_.has1_b al_w_.has1_c) t.2 :: As) w' := by
  rw [thicketlaw11_world_pop_at0] at hm
  refine enter (args := [.pointer (some ⟨p_w_, 0, none⟩), .int .i64 0]) Tryz.func10 rfl rfl rfl fun a hE => ?_
  refine Runs.seq ?_
  refine Runs.region ?_
  refine WR.seg hE 1 [] [0, 1] (Lo := [(0, .pointer (some ⟨p_w_, 0, none⟩)), (1, .int .i64 0)]) (obs := []) rfl (by kernel_rfl) trivial fun a hE => ?_
  refine WR.done rfl ?_
  refine Runs.seq ?_
  refine Runs.region ?_
  replace H := thicketlaw11_world.open H
  refine WR.seg hE 4 [.pointer (some ⟨al_w_.a__p, 0, none⟩)] [0, 1, 14] (Lo := [(0, .pointer (some ⟨p_w_, 0, none⟩)), (1, .int .i64 0), (14, .pointer (some ⟨al_w_.a__p, 0, none⟩))]) (obs := [.cell ⟨p_w_, 0, none⟩ (.pointer (some ⟨al_w_.a__p, 0, none⟩))]) rfl (by kernel_rfl) ⟨H.cell 0 rfl rfl, trivial⟩ fun a hE => ?_
  obtain ⟨t_, et_, hm⟩ := bind_some hm
  refine WR.eff hE rfl rfl rfl rfl (OpTo.fn hE rfl rfl Tryz.call15 (arena_Arena_Meter_ok et_ H.t1)) ?_
  rintro _ w ⟨rfl, H⟩ a hE
  replace H := arena_Arena.open H
  obtain ⟨t_1, et_1, hm⟩ := bind_some hm
  refine WR.eff hE rfl rfl rfl rfl (OpTo.fn hE rfl rfl Tryz.call18 (meter_Meter_Steps_ok et_1 H.t3)) ?_
  rintro _ w ⟨rfl, H⟩ a hE
  refine WR.seg hE 7 [] [0, 1, 5] (Lo := [(0, .pointer (some ⟨p_w_, 0, none⟩)), (1, .int .i64 0), (5, .int .i64 t_1)]) (obs := []) rfl (by kernel_rfl) trivial fun a hE => ?_
  refine WR.done rfl ?_
  refine Runs.seq ?_
  refine Runs.drawn mixed (by kernel_rfl) ?_
  replace H := H.drew
  refine WQ.seg hE [0, 1, 2, 3, 4, 5, 6, 7, 8, 9] [.pointer (some ⟨al_w_.a__p, 0, none⟩), .int .i64 w_.root0] [0, 1, 5, 21, 27] (Lo := [(0, .pointer (some ⟨p_w_, 0, none⟩)), (1, .int .i64 0), (5, .int .i64 t_1), (21, .pointer (some ⟨al_w_.a__p, 0, none⟩)), (27, .int .i64 w_.root0)]) (obs := [.cell ⟨p_w_, 0, none⟩ (.pointer (some ⟨al_w_.a__p, 0, none⟩)), .p (0 ≤ (0 : Int) ∧ (0 : Int) < ((2 : Nat) : Int)), .cell ⟨p_w_, 1, none⟩ (.int .i64 w_.root0)]) (by kernel_rfl) (by kernel_rfl) ⟨H.cell 4 rfl rfl, ⟨by decide, by decide⟩, H.cell 4 rfl rfl, trivial⟩ fun a hE => ?_
  replace H := arena_Arena.shut al_w_.a__a (w_.a_) H.t3.t3.t3
  obtain ⟨t_2, et_2, hm⟩ := bind_some hm
  refine WQ.eff (j := 10) (obs := []) hE (by kernel_rfl) rfl rfl rfl rfl (by kernel_rfl) (OpTo.fn hE rfl rfl Tryz.call35 (skew_Pop_ok et_2 H)) ?_
  rintro _ w ⟨z, z1, rfl, H⟩
  refine ⟨trivial, fun a hE => ?_⟩
  refine WQ.seg hE [11, 12, 13, 14, 15] [] [0, 1, 5, 6, 7] (Lo := [(0, .pointer (some ⟨p_w_, 0, none⟩)), (1, .int .i64 0), (5, .int .i64 t_1), (6, .int .i64 t_2.1), (7, .int .i64 t_2.2.1)]) (obs := []) (by kernel_rfl) (by kernel_rfl) trivial fun a hE => ?_
  refine WQ.done (by kernel_rfl) ?_
  refine Runs.seq ?_
  refine Runs.region ?_
  refine WR.seg hE 8 [.slice al_w_.has0_b w_.has0.length al_w_.has0_c] [0, 1, 5, 6, 7, 8] (Lo := [(0, .pointer (some ⟨p_w_, 0, none⟩)), (1, .int .i64 0), (5, .int .i64 t_1), (6, .int .i64 t_2.1), (7, .int .i64 t_2.2.1), (8, .int .i64 (w_.has0.length : Int))]) (obs := [.p (0 ≤ (0 : Int) ∧ (0 : Int) < ((2 : Nat) : Int)), .cell ⟨p_w_, 3, none⟩ (.slice al_w_.has0_b w_.has0.length al_w_.has0_c)]) rfl (by kernel_rfl) ⟨⟨by decide, by decide⟩, H.cell 1 rfl rfl, trivial⟩ fun a hE => ?_
  refine WR.done rfl ?_
  refine Runs.seq ?_
  refine Runs.seq ?_
  refine Runs.region ?_
  refine WR.seg hE 3 [] [0, 1, 6, 7, 8, 38, 39, 40] (Lo := [(0, .pointer (some ⟨p_w_, 0, none⟩)), (1, .int .i64 0), (6, .int .i64 t_2.1), (7, .int .i64 t_2.2.1), (8, .int .i64 (w_.has0.length : Int)), (38, .pointer (some ⟨p_w_, 0, none⟩)), (39, .int .i64 t_1), (40, .int .i64 (w_.has0.length : Int))]) (obs := []) rfl (by kernel_rfl) trivial fun a hE => ?_
  replace H := thicketlaw11_world.shut (thicketlaw11_world.A.mk al_w_.a__p (arena_Arena.A.mk al_w_.a__a.l_b al_w_.a__a.l_c z z1 al_w_.a__a.m__p) al_w_.has0_b al_w_.has0_c al_w_.has1_b al_w_.has1_c) (thicketlaw11_world.mk t_2.2.2 w_.root0 w_.root1 w_.has0 w_.has1 w_.next w_.spent w_.most) H.t3.t3.t2.t3
  obtain ⟨t_3, et_3, hm⟩ := bind_some hm
  refine WR.eff hE rfl rfl rfl rfl (OpTo.fn hE rfl rfl Tryz.call20 (thicketlaw11_world_cost_ok et_3 H)) ?_
  rintro _ w ⟨rfl, hf, hf1, H⟩ a hE
  refine WR.seg hE 5 [] [0, 1, 6, 7, 8, 42] (Lo := [(0, .pointer (some ⟨p_w_, 0, none⟩)), (1, .int .i64 0), (6, .int .i64 t_2.1), (7, .int .i64 t_2.2.1), (8, .int .i64 (w_.has0.length : Int)), (42, .bool (!t_3.1))]) (obs := []) rfl (by kernel_rfl) trivial fun a hE => ?_
  refine WR.done rfl ?_
  refine Runs.cond hE rfl (fun c => ?_) (fun c => ?_)
  · replace hm := cond_t c hm
    refine Runs.seq ?_
    refine Runs.region ?_
    refine WR.seg hE 1 [] [4] (Lo := [(4, .bool false)]) (obs := []) rfl (by kernel_rfl) trivial fun a hE => ?_
    refine WR.done rfl ?_
    refine Runs.ret hE Tryz.func10 rfl rfl ?_
    cases hm
    exact ⟨arena_Arena.A.mk al_w_.a__a.l_b al_w_.a__a.l_c z z1 al_w_.a__a.m__p, al_w_.has0_b, al_w_.has0_c, rfl, H⟩
  · replace hm := cond_f c hm
    refine Runs.skip ?_
    refine Runs.seq ?_
    refine Runs.seq ?_
    refine Runs.region ?_
    refine WR.seg hE 2 [] [0, 1, 6, 7, 44] (Lo := [(0, .pointer (some ⟨p_w_, 0, none⟩)), (1, .int .i64 0), (6, .int .i64 t_2.1), (7, .int .i64 t_2.2.1), (44, .bool ((w_.has0.length : Int) == 0))]) (obs := []) rfl (by kernel_rfl) trivial fun a hE => ?_
    refine WR.done rfl ?_
    refine Runs.cond hE rfl (fun c => ?_) (fun c => ?_)
    · replace hm := cond_t c hm
      refine Runs.seq ?_
      refine Runs.join (fun a w => EnvOk 107 a [(4, .bool ((t_2.1 == (-1)) && (t_2.2.1 == (-1))))] ∧ St w0 (thicketlaw11_world.R p_w_ (thicketlaw11_world.A.mk al_w_.a__p (arena_Arena.A.mk al_w_.a__a.l_b al_w_.a__a.l_c z z1 al_w_.a__a.m__p) al_w_.has0_b al_w_.has0_c al_w_.has1_b al_w_.has1_c) t_3.2 :: As) w) (fun hk => ?_) ?_
      · clear hm
        refine Runs.region ?_
        refine WR.seg hE 3 [] [7, 47] (Lo := [(7, .int .i64 t_2.2.1), (47, .bool (t_2.1 == (-1)))]) (obs := []) rfl (by kernel_rfl) trivial fun a hE => ?_
        rcases Bool.eq_false_or_eq_true (t_2.1 == (-1)) with c | c
        · replace hE := hE.dec 47 c (by kernel_rfl)
          have c_ := c
          refine WR.seg hE 7 [] [4] (Lo := [(4, .bool (t_2.2.1 == (-1)))]) (obs := []) rfl (by kernel_rfl) trivial fun a hE => ?_
          refine WR.done rfl ?_
          refine hk _ _ ⟨?_, H⟩
          try rw [c_] at hE
          try rw [c_]
          exact hE.sel [4] (by kernel_rfl)
        · replace hE := hE.dec 47 c (by kernel_rfl)
          have c_1 := c
          refine WR.seg hE 7 [] [4] (Lo := [(4, .bool false)]) (obs := []) rfl (by kernel_rfl) trivial fun a hE => ?_
          refine WR.done rfl ?_
          refine hk _ _ ⟨?_, H⟩
          try rw [c_1] at hE
          try rw [c_1]
          exact hE.sel [4] (by kernel_rfl)
      rintro a w ⟨hE, H⟩
      refine Runs.ret hE Tryz.func10 rfl rfl ?_
      cases hm
      exact ⟨arena_Arena.A.mk al_w_.a__a.l_b al_w_.a__a.l_c z z1 al_w_.a__a.m__p, al_w_.has0_b, al_w_.has0_c, rfl, H⟩
    · replace hm := cond_f c hm
      refine Runs.skip ?_
      refine Runs.seq ?_
      refine Runs.region ?_
      replace H := thicketlaw11_world.open H
      try rw [hf] at H
      try rw [hf1] at H
      try dsimp only at H
      refine WR.seg hE 6 [.slice al_w_.has0_b w_.has0.length al_w_.has0_c] [0, 1, 6, 7, 56] (Lo := [(0, .pointer (some ⟨p_w_, 0, none⟩)), (1, .int .i64 0), (6, .int .i64 t_2.1), (7, .int .i64 t_2.2.1), (56, .slice al_w_.has0_b w_.has0.length al_w_.has0_c)]) (obs := [.p (0 ≤ (0 : Int) ∧ (0 : Int) < ((2 : Nat) : Int)), .cell ⟨p_w_, 3, none⟩ (.slice al_w_.has0_b w_.has0.length al_w_.has0_c)]) rfl (by kernel_rfl) ⟨⟨by decide, by decide⟩, H.cell 0 rfl rfl, trivial⟩ fun a hE => ?_
      obtain ⟨t_4, et_4, hm⟩ := bind_some hm
      replace H := H.t2
      refine WR.eff hE rfl rfl rfl rfl (OpTo.fn hE rfl rfl Tryz.call23 (thicketlaw11_least_ok (hX_l := (sl_rd 48 thicketlaw11_held.enc 3 _ _ _)) (hC_l := (H.slCap 0 rfl).1) et_4 H)) ?_
      rintro _ w ⟨rfl, H⟩ a hE
      refine WR.seg hE 8 [] [0, 1, 6, 7, 9] (Lo := [(0, .pointer (some ⟨p_w_, 0, none⟩)), (1, .int .i64 0), (6, .int .i64 t_2.1), (7, .int .i64 t_2.2.1), (9, .int .i64 t_4)]) (obs := []) rfl (by kernel_rfl) trivial fun a hE => ?_
      refine WR.done rfl ?_
      refine Runs.seq ?_
      refine Runs.region ?_
      refine WR.seg hE 6 [] [0, 1, 7, 9, 60, 63] (Lo := [(0, .pointer (some ⟨p_w_, 0, none⟩)), (1, .int .i64 0), (7, .int .i64 t_2.2.1), (9, .int .i64 t_4), (60, .int .i64 t_2.1), (63, .pointer (some ⟨p_w_, 1, none⟩))]) (obs := [.p (0 ≤ (0 : Int) ∧ (0 : Int) < ((2 : Nat) : Int))]) rfl (by kernel_rfl) ⟨⟨by decide, by decide⟩, trivial⟩ fun a hE => ?_
      refine WR.eff0 hE rfl rfl rfl (OpTo.store hE H.t1 rfl rfl rfl rfl rfl rfl (Nat.le_of_ble_eq_true rfl)) ?_
      rintro _ w H a hE
      refine WR.done rfl ?_
      refine Runs.seq ?_
      replace H := thicketlaw11_world.shut (thicketlaw11_world.A.mk al_w_.a__p (arena_Arena.A.mk al_w_.a__a.l_b al_w_.a__a.l_c z z1 al_w_.a__a.m__p) al_w_.has0_b al_w_.has0_c al_w_.has1_b al_w_.has1_c) (thicketlaw11_world.mk t_3.2.a_ t_2.1 t_3.2.root1 w_.has0 w_.has1 t_3.2.next t_3.2.spent t_3.2.most) H.t3.t2.t3.t3
      obtain ⟨s, es, hm⟩ := bind_some hm
      refine Runs.join (fun a w => EnvOk 107 a [(0, .pointer (some ⟨p_w_, 0, none⟩)), (1, .int .i64 0), (7, .int .i64 t_2.2.1), (9, .int .i64 t_4), (10, .bool s.1)] ∧ St w0 (thicketlaw11_world.R p_w_ (thicketlaw11_world.A.mk al_w_.a__p (arena_Arena.A.mk al_w_.a__a.l_b al_w_.a__a.l_c z z1 al_w_.a__a.m__p) al_w_.has0_b al_w_.has0_c al_w_.has1_b al_w_.has1_c) s.2 :: As) w) (fun hk => ?_) ?_
      · replace hm := es; clear es
        refine Runs.region ?_
        replace H := thicketlaw11_world.open H
        try dsimp only at H
        obtain ⟨x1, ex1, hm⟩ := bind_some hm
        obtain ⟨b1, o1, hs1, hb1⟩ := SlRd.base (sl_rd 48 thicketlaw11_held.enc 3 _ _ _) thicketlaw11_held.enc_ok H 2 rfl ex1
        refine WR.seg hE 13 [.slice al_w_.has0_b w_.has0.length al_w_.has0_c, .pointer (some ⟨b1, o1, none⟩), .int .i64 x1.cell] [0, 1, 7, 9, 76] (Lo := [(0, .pointer (some ⟨p_w_, 0, none⟩)), (1, .int .i64 0), (7, .int .i64 t_2.2.1), (9, .int .i64 t_4), (76, .bool (t_2.2.1 == x1.cell))]) (obs := [.p (0 ≤ (0 : Int) ∧ (0 : Int) < ((2 : Nat) : Int)), .cell ⟨p_w_, 3, none⟩ (.slice al_w_.has0_b w_.has0.length al_w_.has0_c), .p ((al_w_.has0_b : Option Addr) = some ⟨b1, o1, none⟩), .p (0 ≤ (t_4 : Int) ∧ (t_4 : Int) < ((w_.has0.length : Nat) : Int)), .cell ⟨b1, o1 + (Int.toNat t_4) * 3, none⟩ (.int .i64 x1.cell)]) rfl (by kernel_rfl) ⟨⟨by decide, by decide⟩, H.cell 0 rfl rfl, hs1, hb1, SlRd.cells (sl_rd 48 thicketlaw11_held.enc 3 _ _ _) thicketlaw11_held.enc_ok H 2 rfl hs1 ex1 0 _ rfl, trivial⟩ fun a hE => ?_
        rcases Bool.eq_false_or_eq_true (t_2.2.1 == x1.cell) with c | c
        · replace hE := hE.dec 76 c (by kernel_rfl)
          replace hm := cond_t c hm
          have c_2 := c
          refine WR.seg hE 18 [.pointer (some ⟨al_w_.a__p, 0, none⟩)] [0, 1, 7, 9, 76, 80, 81] (Lo := [(0, .pointer (some ⟨p_w_, 0, none⟩)), (1, .int .i64 0), (7, .int .i64 t_2.2.1), (9, .int .i64 t_4), (76, .bool true), (80, .pointer (some ⟨al_w_.a__p, 0, none⟩)), (81, .int .i64 t_2.2.1)]) (obs := [.cell ⟨p_w_, 0, none⟩ (.pointer (some ⟨al_w_.a__p, 0, none⟩))]) rfl (by kernel_rfl) ⟨H.cell 0 rfl rfl, trivial⟩ fun a hE => ?_
          obtain ⟨t_5, et_5, hm⟩ := bind_some hm
          refine WR.eff hE rfl rfl rfl rfl (OpTo.fn hE rfl rfl Tryz.call33 (item_Node_ok et_5 H.t1)) ?_
          rintro _ w ⟨rfl, H⟩ a hE
          refine WR.seg hE 22 [] [0, 1, 7, 9, 10] (Lo := [(0, .pointer (some ⟨p_w_, 0, none⟩)), (1, .int .i64 0), (7, .int .i64 t_2.2.1), (9, .int .i64 t_4), (10, .bool (t_5.1 == (-1)))]) (obs := []) rfl (by kernel_rfl) trivial fun a hE => ?_
          refine WR.done rfl ?_
          replace H := thicketlaw11_world.shut (thicketlaw11_world.A.mk al_w_.a__p (arena_Arena.A.mk al_w_.a__a.l_b al_w_.a__a.l_c z z1 al_w_.a__a.m__p) al_w_.has0_b al_w_.has0_c al_w_.has1_b al_w_.has1_c) (thicketlaw11_world.mk t_5.2 t_2.1 t_3.2.root1 w_.has0 w_.has1 t_3.2.next t_3.2.spent t_3.2.most) H.t3.t3.t2.t3
          cases hm
          exact hk _ _ ⟨hE.sel [0, 1, 7, 9, 10] (by kernel_rfl), H⟩
        · replace hE := hE.dec 76 c (by kernel_rfl)
          replace hm := cond_f c hm
          have c_3 := c
          refine WR.seg hE 22 [] [0, 1, 7, 9, 10] (Lo := [(0, .pointer (some ⟨p_w_, 0, none⟩)), (1, .int .i64 0), (7, .int .i64 t_2.2.1), (9, .int .i64 t_4), (10, .bool false)]) (obs := []) rfl (by kernel_rfl) trivial fun a hE => ?_
          refine WR.done rfl ?_
          replace H := thicketlaw11_world.shut (thicketlaw11_world.A.mk al_w_.a__p (arena_Arena.A.mk al_w_.a__a.l_b al_w_.a__a.l_c z z1 al_w_.a__a.m__p) al_w_.has0_b al_w_.has0_c al_w_.has1_b al_w_.has1_c) (thicketlaw11_world.mk t_3.2.a_ t_2.1 t_3.2.root1 w_.has0 w_.has1 t_3.2.next t_3.2.spent t_3.2.most) H.t3.t3.t3.t3
          cases hm
          exact hk _ _ ⟨hE.sel [0, 1, 7, 9, 10] (by kernel_rfl), H⟩
      rintro a w ⟨hE, H⟩
      refine Runs.seq ?_
      refine Runs.drawn mixed (by kernel_rfl) ?_
      replace H := H.drew
      replace H := thicketlaw11_world.open H
      try dsimp only at H
      refine WQ.seg hE [0, 1, 2, 3, 4, 5, 6, 7, 8, 10, 11] [.slice al_w_.has0_b s.2.has0.length al_w_.has0_c] [0, 7, 10, 86, 92, 93, 96] (Lo := [(0, .pointer (some ⟨p_w_, 0, none⟩)), (7, .int .i64 t_2.2.1), (10, .bool s.1), (86, .int .i64 0), (92, .slice al_w_.has0_b s.2.has0.length al_w_.has0_c), (93, .int .i64 t_4), (96, .pointer (some ⟨p_w_, 3, none⟩))]) (obs := [.p (0 ≤ (0 : Int) ∧ (0 : Int) < ((2 : Nat) : Int)), .cell ⟨p_w_, 3, none⟩ (.slice al_w_.has0_b s.2.has0.length al_w_.has0_c)]) (by kernel_rfl) (by kernel_rfl) ⟨⟨by decide, by decide⟩, H.cell 0 rfl rfl, trivial⟩ fun a hE => ?_
      obtain ⟨t_6, et_6, hm⟩ := bind_some hm
      replace H := H.t2
      refine WQ.eff (j := 9) (obs := []) hE (by kernel_rfl) rfl rfl rfl rfl (by kernel_rfl) (OpTo.fn hE rfl rfl Tryz.call31 (thicketlaw11_without_ok (hX_l := (sl_rd 48 thicketlaw11_held.enc 3 _ _ _)) (hC_l := (H.slCap 0 rfl).1) et_6 H)) ?_
      rintro _ w ⟨sb, sc, rfl, H⟩
      refine ⟨trivial, fun a hE => ?_⟩
      refine WQ.seg hE [12] [] [0, 7, 10, 94, 97] (Lo := [(0, .pointer (some ⟨p_w_, 0, none⟩)), (7, .int .i64 t_2.2.1), (10, .bool s.1), (94, .slice sb t_6.length sc), (97, .pointer (some ⟨p_w_, 3, none⟩))]) (obs := [.p (0 ≤ (0 : Int) ∧ (0 : Int) < ((2 : Nat) : Int))]) (by kernel_rfl) (by kernel_rfl) ⟨⟨by decide, by decide⟩, trivial⟩ fun a hE => ?_
      refine WQ.eff0 (j := 13) (obs := []) hE (by kernel_rfl) rfl rfl rfl (by kernel_rfl) (OpTo.store hE H.t2 rfl rfl rfl rfl rfl rfl (Nat.le_of_ble_eq_true rfl)) ?_
      rintro _ w H
      refine ⟨trivial, fun a hE => ?_⟩
      refine WQ.done (by kernel_rfl) ?_
      refine Runs.seq ?_
      replace H := thicketlaw11_world.shut (thicketlaw11_world.A.mk al_w_.a__p (arena_Arena.A.mk al_w_.a__a.l_b al_w_.a__a.l_c z z1 al_w_.a__a.m__p) sb sc al_w_.has1_b al_w_.has1_c) (thicketlaw11_world.mk s.2.a_ s.2.root0 s.2.root1 t_6 s.2.has1 s.2.next s.2.spent s.2.most) H.t4.t2.t4.t3
      obtain ⟨s1, es1, hm⟩ := bind_some hm
      refine Runs.join (fun a w => ∃ (z2 : arena_Arena.A), EnvOk 107 a [(4, .bool s1.1)] ∧ St w0 (thicketlaw11_world.R p_w_ (thicketlaw11_world.A.mk al_w_.a__p z2 sb sc al_w_.has1_b al_w_.has1_c) s1.2 :: As) w) (fun hk => ?_) ?_
      · replace hm := es1; clear es1
        refine Runs.region ?_
        refine WR.seg hE 2 [] [0, 7, 99] (Lo := [(0, .pointer (some ⟨p_w_, 0, none⟩)), (7, .int .i64 t_2.2.1), (99, .bool s.1)]) (obs := []) rfl (by kernel_rfl) trivial fun a hE => ?_
        rcases Bool.eq_false_or_eq_true s.1 with c | c
        · replace hE := hE.dec 99 c (by kernel_rfl)
          replace hm := cond_t c hm
          have c_4 := c
          replace H := thicketlaw11_world.open H
          try dsimp only at H
          refine WR.seg hE 7 [.pointer (some ⟨al_w_.a__p, 0, none⟩)] [99, 103, 104] (Lo := [(99, .bool true), (103, .pointer (some ⟨al_w_.a__p, 0, none⟩)), (104, .int .i64 t_2.2.1)]) (obs := [.cell ⟨p_w_, 0, none⟩ (.pointer (some ⟨al_w_.a__p, 0, none⟩))]) rfl (by kernel_rfl) ⟨H.cell 0 rfl rfl, trivial⟩ fun a hE => ?_
          obtain ⟨t_7, et_7, hm⟩ := bind_some hm
          refine WR.eff hE rfl rfl rfl rfl (OpTo.fn hE rfl rfl Tryz.call21 (arena_Arena_Give_ok et_7 H.t1)) ?_
          rintro _ w ⟨z3, z4, rfl, H⟩ a hE
          refine WR.seg hE 10 [] [4] (Lo := [(4, .bool t_7.1)]) (obs := []) rfl (by kernel_rfl) trivial fun a hE => ?_
          refine WR.done rfl ?_
          replace H := thicketlaw11_world.shut (thicketlaw11_world.A.mk al_w_.a__p (arena_Arena.A.mk ((arena_Arena.A.mk al_w_.a__a.l_b al_w_.a__a.l_c z z1 al_w_.a__a.m__p).l_b) ((arena_Arena.A.mk al_w_.a__a.l_b al_w_.a__a.l_c z z1 al_w_.a__a.m__p).l_c) z3 z4 ((arena_Arena.A.mk al_w_.a__a.l_b al_w_.a__a.l_c z z1 al_w_.a__a.m__p).m__p)) sb sc al_w_.has1_b al_w_.has1_c) (thicketlaw11_world.mk t_7.2 s.2.root0 s.2.root1 t_6 s.2.has1 s.2.next s.2.spent s.2.most) H.t3.t3.t2.t3
          cases hm
          exact hk _ _ ⟨arena_Arena.A.mk ((arena_Arena.A.mk al_w_.a__a.l_b al_w_.a__a.l_c z z1 al_w_.a__a.m__p).l_b) ((arena_Arena.A.mk al_w_.a__a.l_b al_w_.a__a.l_c z z1 al_w_.a__a.m__p).l_c) z3 z4 ((arena_Arena.A.mk al_w_.a__a.l_b al_w_.a__a.l_c z z1 al_w_.a__a.m__p).m__p), hE.sel [4] (by kernel_rfl), H.x1⟩
        · replace hE := hE.dec 99 c (by kernel_rfl)
          replace hm := cond_f c hm
          have c_5 := c
          refine WR.seg hE 10 [] [4] (Lo := [(4, .bool false)]) (obs := []) rfl (by kernel_rfl) trivial fun a hE => ?_
          refine WR.done rfl ?_
          cases hm
          exact hk _ _ ⟨arena_Arena.A.mk al_w_.a__a.l_b al_w_.a__a.l_c z z1 al_w_.a__a.m__p, hE.sel [4] (by kernel_rfl), H.x1⟩
      rintro a w ⟨z2, hE, H⟩
      refine Runs.ret hE Tryz.func10 rfl rfl ?_
      cases hm
      exact ⟨z2, sb, sc, rfl, H⟩

theorem thicketlaw11_world_pop_at1_ok {w0 w : World} {As : List HP} {k : Nat} {p_w_ : Nat} {al_w_ : thicketlaw11_world.A} {w_ : thicketlaw11_world} {t : Bool × thicketlaw11_world}  (hm : thicketlaw11_world_pop_at1 k w_ = some t) (H : St w0 (thicketlaw11_world.R p_w_ al_w_ w_ :: As) w) :
    CallsR Tryz.prog 10 #[.pointer (some ⟨p_w_, 0, none⟩), .int .i64 1] w fun v w' => ∃ (z_w__a__a : arena_Arena.A), ∃ (z_w__has1_b : Option Addr), ∃ (z_w__has1_c : Nat), v = .bool t.1 ∧ St w0 (thicketlaw11_world.R p_w_ (thicketlaw11_world.A.mk al_w_.a__p z_w__a__a al_w_.has0_b al_w_.has0_c z_w__has1_b z_w__has1_c) t.2 :: As) w' := by
  rw [thicketlaw11_world_pop_at1] at hm
  refine enter (args := [.pointer (some ⟨p_w_, 0, none⟩), .int .i64 1]) Tryz.func10 rfl rfl rfl fun a hE => ?_
  refine Runs.seq ?_
  refine Runs.region ?_
  refine WR.seg hE 1 [] [0, 1] (Lo := [(0, .pointer (some ⟨p_w_, 0, none⟩)), (1, .int .i64 1)]) (obs := []) rfl (by kernel_rfl) trivial fun a hE => ?_
  refine WR.done rfl ?_
  refine Runs.seq ?_
  refine Runs.region ?_
  replace H := thicketlaw11_world.open H
  refine WR.seg hE 4 [.pointer (some ⟨al_w_.a__p, 0, none⟩)] [0, 1, 14] (Lo := [(0, .pointer (some ⟨p_w_, 0, none⟩)), (1, .int .i64 1), (14, .pointer (some ⟨al_w_.a__p, 0, none⟩))]) (obs := [.cell ⟨p_w_, 0, none⟩ (.pointer (some ⟨al_w_.a__p, 0, none⟩))]) rfl (by kernel_rfl) ⟨H.cell 0 rfl rfl, trivial⟩ fun a hE => ?_
  obtain ⟨t_, et_, hm⟩ := bind_some hm
  refine WR.eff hE rfl rfl rfl rfl (OpTo.fn hE rfl rfl Tryz.call15 (arena_Arena_Meter_ok et_ H.t1)) ?_
  rintro _ w ⟨rfl, H⟩ a hE
  replace H := arena_Arena.open H
  obtain ⟨t_1, et_1, hm⟩ := bind_some hm
  refine WR.eff hE rfl rfl rfl rfl (OpTo.fn hE rfl rfl Tryz.call18 (meter_Meter_Steps_ok et_1 H.t3)) ?_
  rintro _ w ⟨rfl, H⟩ a hE
  refine WR.seg hE 7 [] [0, 1, 5] (Lo := [(0, .pointer (some ⟨p_w_, 0, none⟩)), (1, .int .i64 1), (5, .int .i64 t_1)]) (obs := []) rfl (by kernel_rfl) trivial fun a hE => ?_
  refine WR.done rfl ?_
  refine Runs.seq ?_
  refine Runs.drawn mixed (by kernel_rfl) ?_
  replace H := H.drew
  refine WQ.seg hE [0, 1, 2, 3, 4, 5, 6, 7, 8, 9] [.pointer (some ⟨al_w_.a__p, 0, none⟩), .int .i64 w_.root1] [0, 1, 5, 21, 27] (Lo := [(0, .pointer (some ⟨p_w_, 0, none⟩)), (1, .int .i64 1), (5, .int .i64 t_1), (21, .pointer (some ⟨al_w_.a__p, 0, none⟩)), (27, .int .i64 w_.root1)]) (obs := [.cell ⟨p_w_, 0, none⟩ (.pointer (some ⟨al_w_.a__p, 0, none⟩)), .p (0 ≤ (1 : Int) ∧ (1 : Int) < ((2 : Nat) : Int)), .cell ⟨p_w_, 2, none⟩ (.int .i64 w_.root1)]) (by kernel_rfl) (by kernel_rfl) ⟨H.cell 4 rfl rfl, ⟨by decide, by decide⟩, H.cell 4 rfl rfl, trivial⟩ fun a hE => ?_
  replace H := arena_Arena.shut al_w_.a__a (w_.a_) H.t3.t3.t3
  obtain ⟨t_2, et_2, hm⟩ := bind_some hm
  refine WQ.eff (j := 10) (obs := []) hE (by kernel_rfl) rfl rfl rfl rfl (by kernel_rfl) (OpTo.fn hE rfl rfl Tryz.call35 (skew_Pop_ok et_2 H)) ?_
  rintro _ w ⟨z, z1, rfl, H⟩
  refine ⟨trivial, fun a hE => ?_⟩
  refine WQ.seg hE [11, 12, 13, 14, 15] [] [0, 1, 5, 6, 7] (Lo := [(0, .pointer (some ⟨p_w_, 0, none⟩)), (1, .int .i64 1), (5, .int .i64 t_1), (6, .int .i64 t_2.1), (7, .int .i64 t_2.2.1)]) (obs := []) (by kernel_rfl) (by kernel_rfl) trivial fun a hE => ?_
  refine WQ.done (by kernel_rfl) ?_
  refine Runs.seq ?_
  refine Runs.region ?_
  refine WR.seg hE 8 [.slice al_w_.has1_b w_.has1.length al_w_.has1_c] [0, 1, 5, 6, 7, 8] (Lo := [(0, .pointer (some ⟨p_w_, 0, none⟩)), (1, .int .i64 1), (5, .int .i64 t_1), (6, .int .i64 t_2.1), (7, .int .i64 t_2.2.1), (8, .int .i64 (w_.has1.length : Int))]) (obs := [.p (0 ≤ (1 : Int) ∧ (1 : Int) < ((2 : Nat) : Int)), .cell ⟨p_w_, 4, none⟩ (.slice al_w_.has1_b w_.has1.length al_w_.has1_c)]) rfl (by kernel_rfl) ⟨⟨by decide, by decide⟩, H.cell 1 rfl rfl, trivial⟩ fun a hE => ?_
  refine WR.done rfl ?_
  refine Runs.seq ?_
  refine Runs.seq ?_
  refine Runs.region ?_
  refine WR.seg hE 3 [] [0, 1, 6, 7, 8, 38, 39, 40] (Lo := [(0, .pointer (some ⟨p_w_, 0, none⟩)), (1, .int .i64 1), (6, .int .i64 t_2.1), (7, .int .i64 t_2.2.1), (8, .int .i64 (w_.has1.length : Int)), (38, .pointer (some ⟨p_w_, 0, none⟩)), (39, .int .i64 t_1), (40, .int .i64 (w_.has1.length : Int))]) (obs := []) rfl (by kernel_rfl) trivial fun a hE => ?_
  replace H := thicketlaw11_world.shut (thicketlaw11_world.A.mk al_w_.a__p (arena_Arena.A.mk al_w_.a__a.l_b al_w_.a__a.l_c z z1 al_w_.a__a.m__p) al_w_.has0_b al_w_.has0_c al_w_.has1_b al_w_.has1_c) (thicketlaw11_world.mk t_2.2.2 w_.root0 w_.root1 w_.has0 w_.has1 w_.next w_.spent w_.most) H.t3.t3.t2.t3
  obtain ⟨t_3, et_3, hm⟩ := bind_some hm
  refine WR.eff hE rfl rfl rfl rfl (OpTo.fn hE rfl rfl Tryz.call20 (thicketlaw11_world_cost_ok et_3 H)) ?_
  rintro _ w ⟨rfl, hf, hf1, H⟩ a hE
  refine WR.seg hE 5 [] [0, 1, 6, 7, 8, 42] (Lo := [(0, .pointer (some ⟨p_w_, 0, none⟩)), (1, .int .i64 1), (6, .int .i64 t_2.1), (7, .int .i64 t_2.2.1), (8, .int .i64 (w_.has1.length : Int)), (42, .bool (!t_3.1))]) (obs := []) rfl (by kernel_rfl) trivial fun a hE => ?_
  refine WR.done rfl ?_
  refine Runs.cond hE rfl (fun c => ?_) (fun c => ?_)
  · replace hm := cond_t c hm
    refine Runs.seq ?_
    refine Runs.region ?_
    refine WR.seg hE 1 [] [4] (Lo := [(4, .bool false)]) (obs := []) rfl (by kernel_rfl) trivial fun a hE => ?_
    refine WR.done rfl ?_
    refine Runs.ret hE Tryz.func10 rfl rfl ?_
    cases hm
    exact ⟨arena_Arena.A.mk al_w_.a__a.l_b al_w_.a__a.l_c z z1 al_w_.a__a.m__p, al_w_.has1_b, al_w_.has1_c, rfl, H⟩
  · replace hm := cond_f c hm
    refine Runs.skip ?_
    refine Runs.seq ?_
    refine Runs.seq ?_
    refine Runs.region ?_
    refine WR.seg hE 2 [] [0, 1, 6, 7, 44] (Lo := [(0, .pointer (some ⟨p_w_, 0, none⟩)), (1, .int .i64 1), (6, .int .i64 t_2.1), (7, .int .i64 t_2.2.1), (44, .bool ((w_.has1.length : Int) == 0))]) (obs := []) rfl (by kernel_rfl) trivial fun a hE => ?_
    refine WR.done rfl ?_
    refine Runs.cond hE rfl (fun c => ?_) (fun c => ?_)
    · replace hm := cond_t c hm
      refine Runs.seq ?_
      refine Runs.join (fun a w => EnvOk 107 a [(4, .bool ((t_2.1 == (-1)) && (t_2.2.1 == (-1))))] ∧ St w0 (thicketlaw11_world.R p_w_ (thicketlaw11_world.A.mk al_w_.a__p (arena_Arena.A.mk al_w_.a__a.l_b al_w_.a__a.l_c z z1 al_w_.a__a.m__p) al_w_.has0_b al_w_.has0_c al_w_.has1_b al_w_.has1_c) t_3.2 :: As) w) (fun hk => ?_) ?_
      · clear hm
        refine Runs.region ?_
        refine WR.seg hE 3 [] [7, 47] (Lo := [(7, .int .i64 t_2.2.1), (47, .bool (t_2.1 == (-1)))]) (obs := []) rfl (by kernel_rfl) trivial fun a hE => ?_
        rcases Bool.eq_false_or_eq_true (t_2.1 == (-1)) with c | c
        · replace hE := hE.dec 47 c (by kernel_rfl)
          have c_ := c
          refine WR.seg hE 7 [] [4] (Lo := [(4, .bool (t_2.2.1 == (-1)))]) (obs := []) rfl (by kernel_rfl) trivial fun a hE => ?_
          refine WR.done rfl ?_
          refine hk _ _ ⟨?_, H⟩
          try rw [c_] at hE
          try rw [c_]
          exact hE.sel [4] (by kernel_rfl)
        · replace hE := hE.dec 47 c (by kernel_rfl)
          have c_1 := c
          refine WR.seg hE 7 [] [4] (Lo := [(4, .bool false)]) (obs := []) rfl (by kernel_rfl) trivial fun a hE => ?_
          refine WR.done rfl ?_
          refine hk _ _ ⟨?_, H⟩
          try rw [c_1] at hE
          try rw [c_1]
          exact hE.sel [4] (by kernel_rfl)
      rintro a w ⟨hE, H⟩
      refine Runs.ret hE Tryz.func10 rfl rfl ?_
      cases hm
      exact ⟨arena_Arena.A.mk al_w_.a__a.l_b al_w_.a__a.l_c z z1 al_w_.a__a.m__p, al_w_.has1_b, al_w_.has1_c, rfl, H⟩
    · replace hm := cond_f c hm
      refine Runs.skip ?_
      refine Runs.seq ?_
      refine Runs.region ?_
      replace H := thicketlaw11_world.open H
      try rw [hf] at H
      try rw [hf1] at H
      try dsimp only at H
      refine WR.seg hE 6 [.slice al_w_.has1_b w_.has1.length al_w_.has1_c] [0, 1, 6, 7, 56] (Lo := [(0, .pointer (some ⟨p_w_, 0, none⟩)), (1, .int .i64 1), (6, .int .i64 t_2.1), (7, .int .i64 t_2.2.1), (56, .slice al_w_.has1_b w_.has1.length al_w_.has1_c)]) (obs := [.p (0 ≤ (1 : Int) ∧ (1 : Int) < ((2 : Nat) : Int)), .cell ⟨p_w_, 4, none⟩ (.slice al_w_.has1_b w_.has1.length al_w_.has1_c)]) rfl (by kernel_rfl) ⟨⟨by decide, by decide⟩, H.cell 0 rfl rfl, trivial⟩ fun a hE => ?_
      obtain ⟨t_4, et_4, hm⟩ := bind_some hm
      replace H := H.t3
      refine WR.eff hE rfl rfl rfl rfl (OpTo.fn hE rfl rfl Tryz.call23 (thicketlaw11_least_ok (hX_l := (sl_rd 48 thicketlaw11_held.enc 3 _ _ _)) (hC_l := (H.slCap 0 rfl).1) et_4 H)) ?_
      rintro _ w ⟨rfl, H⟩ a hE
      refine WR.seg hE 8 [] [0, 1, 6, 7, 9] (Lo := [(0, .pointer (some ⟨p_w_, 0, none⟩)), (1, .int .i64 1), (6, .int .i64 t_2.1), (7, .int .i64 t_2.2.1), (9, .int .i64 t_4)]) (obs := []) rfl (by kernel_rfl) trivial fun a hE => ?_
      refine WR.done rfl ?_
      refine Runs.seq ?_
      refine Runs.region ?_
      refine WR.seg hE 6 [] [0, 1, 7, 9, 60, 63] (Lo := [(0, .pointer (some ⟨p_w_, 0, none⟩)), (1, .int .i64 1), (7, .int .i64 t_2.2.1), (9, .int .i64 t_4), (60, .int .i64 t_2.1), (63, .pointer (some ⟨p_w_, 2, none⟩))]) (obs := [.p (0 ≤ (1 : Int) ∧ (1 : Int) < ((2 : Nat) : Int))]) rfl (by kernel_rfl) ⟨⟨by decide, by decide⟩, trivial⟩ fun a hE => ?_
      refine WR.eff0 hE rfl rfl rfl (OpTo.store hE H.t1 rfl rfl rfl rfl rfl rfl (Nat.le_of_ble_eq_true rfl)) ?_
      rintro _ w H a hE
      refine WR.done rfl ?_
      refine Runs.seq ?_
      replace H := thicketlaw11_world.shut (thicketlaw11_world.A.mk al_w_.a__p (arena_Arena.A.mk al_w_.a__a.l_b al_w_.a__a.l_c z z1 al_w_.a__a.m__p) al_w_.has0_b al_w_.has0_c al_w_.has1_b al_w_.has1_c) (thicketlaw11_world.mk t_3.2.a_ t_3.2.root0 t_2.1 w_.has0 w_.has1 t_3.2.next t_3.2.spent t_3.2.most) H.t1.t3.t3.t3
      obtain ⟨s, es, hm⟩ := bind_some hm
      refine Runs.join (fun a w => EnvOk 107 a [(0, .pointer (some ⟨p_w_, 0, none⟩)), (1, .int .i64 1), (7, .int .i64 t_2.2.1), (9, .int .i64 t_4), (10, .bool s.1)] ∧ St w0 (thicketlaw11_world.R p_w_ (thicketlaw11_world.A.mk al_w_.a__p (arena_Arena.A.mk al_w_.a__a.l_b al_w_.a__a.l_c z z1 al_w_.a__a.m__p) al_w_.has0_b al_w_.has0_c al_w_.has1_b al_w_.has1_c) s.2 :: As) w) (fun hk => ?_) ?_
      · replace hm := es; clear es
        refine Runs.region ?_
        replace H := thicketlaw11_world.open H
        try dsimp only at H
        obtain ⟨x1, ex1, hm⟩ := bind_some hm
        obtain ⟨b1, o1, hs1, hb1⟩ := SlRd.base (sl_rd 48 thicketlaw11_held.enc 3 _ _ _) thicketlaw11_held.enc_ok H 3 rfl ex1
        refine WR.seg hE 13 [.slice al_w_.has1_b w_.has1.length al_w_.has1_c, .pointer (some ⟨b1, o1, none⟩), .int .i64 x1.cell] [0, 1, 7, 9, 76] (Lo := [(0, .pointer (some ⟨p_w_, 0, none⟩)), (1, .int .i64 1), (7, .int .i64 t_2.2.1), (9, .int .i64 t_4), (76, .bool (t_2.2.1 == x1.cell))]) (obs := [.p (0 ≤ (1 : Int) ∧ (1 : Int) < ((2 : Nat) : Int)), .cell ⟨p_w_, 4, none⟩ (.slice al_w_.has1_b w_.has1.length al_w_.has1_c), .p ((al_w_.has1_b : Option Addr) = some ⟨b1, o1, none⟩), .p (0 ≤ (t_4 : Int) ∧ (t_4 : Int) < ((w_.has1.length : Nat) : Int)), .cell ⟨b1, o1 + (Int.toNat t_4) * 3, none⟩ (.int .i64 x1.cell)]) rfl (by kernel_rfl) ⟨⟨by decide, by decide⟩, H.cell 0 rfl rfl, hs1, hb1, SlRd.cells (sl_rd 48 thicketlaw11_held.enc 3 _ _ _) thicketlaw11_held.enc_ok H 3 rfl hs1 ex1 0 _ rfl, trivial⟩ fun a hE => ?_
        rcases Bool.eq_false_or_eq_true (t_2.2.1 == x1.cell) with c | c
        · replace hE := hE.dec 76 c (by kernel_rfl)
          replace hm := cond_t c hm
          have c_2 := c
          refine WR.seg hE 18 [.pointer (some ⟨al_w_.a__p, 0, none⟩)] [0, 1, 7, 9, 76, 80, 81] (Lo := [(0, .pointer (some ⟨p_w_, 0, none⟩)), (1, .int .i64 1), (7, .int .i64 t_2.2.1), (9, .int .i64 t_4), (76, .bool true), (80, .pointer (some ⟨al_w_.a__p, 0, none⟩)), (81, .int .i64 t_2.2.1)]) (obs := [.cell ⟨p_w_, 0, none⟩ (.pointer (some ⟨al_w_.a__p, 0, none⟩))]) rfl (by kernel_rfl) ⟨H.cell 0 rfl rfl, trivial⟩ fun a hE => ?_
          obtain ⟨t_5, et_5, hm⟩ := bind_some hm
          refine WR.eff hE rfl rfl rfl rfl (OpTo.fn hE rfl rfl Tryz.call33 (item_Node_ok et_5 H.t1)) ?_
          rintro _ w ⟨rfl, H⟩ a hE
          refine WR.seg hE 22 [] [0, 1, 7, 9, 10] (Lo := [(0, .pointer (some ⟨p_w_, 0, none⟩)), (1, .int .i64 1), (7, .int .i64 t_2.2.1), (9, .int .i64 t_4), (10, .bool (t_5.1 == (-1)))]) (obs := []) rfl (by kernel_rfl) trivial fun a hE => ?_
          refine WR.done rfl ?_
          replace H := thicketlaw11_world.shut (thicketlaw11_world.A.mk al_w_.a__p (arena_Arena.A.mk al_w_.a__a.l_b al_w_.a__a.l_c z z1 al_w_.a__a.m__p) al_w_.has0_b al_w_.has0_c al_w_.has1_b al_w_.has1_c) (thicketlaw11_world.mk t_5.2 t_3.2.root0 t_2.1 w_.has0 w_.has1 t_3.2.next t_3.2.spent t_3.2.most) H.t3.t3.t2.t3
          cases hm
          exact hk _ _ ⟨hE.sel [0, 1, 7, 9, 10] (by kernel_rfl), H⟩
        · replace hE := hE.dec 76 c (by kernel_rfl)
          replace hm := cond_f c hm
          have c_3 := c
          refine WR.seg hE 22 [] [0, 1, 7, 9, 10] (Lo := [(0, .pointer (some ⟨p_w_, 0, none⟩)), (1, .int .i64 1), (7, .int .i64 t_2.2.1), (9, .int .i64 t_4), (10, .bool false)]) (obs := []) rfl (by kernel_rfl) trivial fun a hE => ?_
          refine WR.done rfl ?_
          replace H := thicketlaw11_world.shut (thicketlaw11_world.A.mk al_w_.a__p (arena_Arena.A.mk al_w_.a__a.l_b al_w_.a__a.l_c z z1 al_w_.a__a.m__p) al_w_.has0_b al_w_.has0_c al_w_.has1_b al_w_.has1_c) (thicketlaw11_world.mk t_3.2.a_ t_3.2.root0 t_2.1 w_.has0 w_.has1 t_3.2.next t_3.2.spent t_3.2.most) H.t3.t3.t3.t3
          cases hm
          exact hk _ _ ⟨hE.sel [0, 1, 7, 9, 10] (by kernel_rfl), H⟩
      rintro a w ⟨hE, H⟩
      refine Runs.seq ?_
      refine Runs.drawn mixed (by kernel_rfl) ?_
      replace H := H.drew
      replace H := thicketlaw11_world.open H
      try dsimp only at H
      refine WQ.seg hE [0, 1, 2, 3, 4, 5, 6, 7, 8, 10, 11] [.slice al_w_.has1_b s.2.has1.length al_w_.has1_c] [0, 7, 10, 86, 92, 93, 96] (Lo := [(0, .pointer (some ⟨p_w_, 0, none⟩)), (7, .int .i64 t_2.2.1), (10, .bool s.1), (86, .int .i64 1), (92, .slice al_w_.has1_b s.2.has1.length al_w_.has1_c), (93, .int .i64 t_4), (96, .pointer (some ⟨p_w_, 3, none⟩))]) (obs := [.p (0 ≤ (1 : Int) ∧ (1 : Int) < ((2 : Nat) : Int)), .cell ⟨p_w_, 4, none⟩ (.slice al_w_.has1_b s.2.has1.length al_w_.has1_c)]) (by kernel_rfl) (by kernel_rfl) ⟨⟨by decide, by decide⟩, H.cell 0 rfl rfl, trivial⟩ fun a hE => ?_
      obtain ⟨t_6, et_6, hm⟩ := bind_some hm
      replace H := H.t3
      refine WQ.eff (j := 9) (obs := []) hE (by kernel_rfl) rfl rfl rfl rfl (by kernel_rfl) (OpTo.fn hE rfl rfl Tryz.call31 (thicketlaw11_without_ok (hX_l := (sl_rd 48 thicketlaw11_held.enc 3 _ _ _)) (hC_l := (H.slCap 0 rfl).1) et_6 H)) ?_
      rintro _ w ⟨sb, sc, rfl, H⟩
      refine ⟨trivial, fun a hE => ?_⟩
      refine WQ.seg hE [12] [] [0, 7, 10, 94, 97] (Lo := [(0, .pointer (some ⟨p_w_, 0, none⟩)), (7, .int .i64 t_2.2.1), (10, .bool s.1), (94, .slice sb t_6.length sc), (97, .pointer (some ⟨p_w_, 4, none⟩))]) (obs := [.p (0 ≤ (1 : Int) ∧ (1 : Int) < ((2 : Nat) : Int))]) (by kernel_rfl) (by kernel_rfl) ⟨⟨by decide, by decide⟩, trivial⟩ fun a hE => ?_
      refine WQ.eff0 (j := 13) (obs := []) hE (by kernel_rfl) rfl rfl rfl (by kernel_rfl) (OpTo.store hE H.t2 rfl rfl rfl rfl rfl rfl (Nat.le_of_ble_eq_true rfl)) ?_
      rintro _ w H
      refine ⟨trivial, fun a hE => ?_⟩
      refine WQ.done (by kernel_rfl) ?_
      refine Runs.seq ?_
      replace H := thicketlaw11_world.shut (thicketlaw11_world.A.mk al_w_.a__p (arena_Arena.A.mk al_w_.a__a.l_b al_w_.a__a.l_c z z1 al_w_.a__a.m__p) al_w_.has0_b al_w_.has0_c sb sc) (thicketlaw11_world.mk s.2.a_ s.2.root0 s.2.root1 s.2.has0 t_6 s.2.next s.2.spent s.2.most) H.t1.t4.t4.t3
      obtain ⟨s1, es1, hm⟩ := bind_some hm
      refine Runs.join (fun a w => ∃ (z2 : arena_Arena.A), EnvOk 107 a [(4, .bool s1.1)] ∧ St w0 (thicketlaw11_world.R p_w_ (thicketlaw11_world.A.mk al_w_.a__p z2 al_w_.has0_b al_w_.has0_c sb sc) s1.2 :: As) w) (fun hk => ?_) ?_
      · replace hm := es1; clear es1
        refine Runs.region ?_
        refine WR.seg hE 2 [] [0, 7, 99] (Lo := [(0, .pointer (some ⟨p_w_, 0, none⟩)), (7, .int .i64 t_2.2.1), (99, .bool s.1)]) (obs := []) rfl (by kernel_rfl) trivial fun a hE => ?_
        rcases Bool.eq_false_or_eq_true s.1 with c | c
        · replace hE := hE.dec 99 c (by kernel_rfl)
          replace hm := cond_t c hm
          have c_4 := c
          replace H := thicketlaw11_world.open H
          try dsimp only at H
          refine WR.seg hE 7 [.pointer (some ⟨al_w_.a__p, 0, none⟩)] [99, 103, 104] (Lo := [(99, .bool true), (103, .pointer (some ⟨al_w_.a__p, 0, none⟩)), (104, .int .i64 t_2.2.1)]) (obs := [.cell ⟨p_w_, 0, none⟩ (.pointer (some ⟨al_w_.a__p, 0, none⟩))]) rfl (by kernel_rfl) ⟨H.cell 0 rfl rfl, trivial⟩ fun a hE => ?_
          obtain ⟨t_7, et_7, hm⟩ := bind_some hm
          refine WR.eff hE rfl rfl rfl rfl (OpTo.fn hE rfl rfl Tryz.call21 (arena_Arena_Give_ok et_7 H.t1)) ?_
          rintro _ w ⟨z3, z4, rfl, H⟩ a hE
          refine WR.seg hE 10 [] [4] (Lo := [(4, .bool t_7.1)]) (obs := []) rfl (by kernel_rfl) trivial fun a hE => ?_
          refine WR.done rfl ?_
          replace H := thicketlaw11_world.shut (thicketlaw11_world.A.mk al_w_.a__p (arena_Arena.A.mk ((arena_Arena.A.mk al_w_.a__a.l_b al_w_.a__a.l_c z z1 al_w_.a__a.m__p).l_b) ((arena_Arena.A.mk al_w_.a__a.l_b al_w_.a__a.l_c z z1 al_w_.a__a.m__p).l_c) z3 z4 ((arena_Arena.A.mk al_w_.a__a.l_b al_w_.a__a.l_c z z1 al_w_.a__a.m__p).m__p)) al_w_.has0_b al_w_.has0_c sb sc) (thicketlaw11_world.mk t_7.2 s.2.root0 s.2.root1 s.2.has0 t_6 s.2.next s.2.spent s.2.most) H.t3.t3.t2.t3
          cases hm
          exact hk _ _ ⟨arena_Arena.A.mk ((arena_Arena.A.mk al_w_.a__a.l_b al_w_.a__a.l_c z z1 al_w_.a__a.m__p).l_b) ((arena_Arena.A.mk al_w_.a__a.l_b al_w_.a__a.l_c z z1 al_w_.a__a.m__p).l_c) z3 z4 ((arena_Arena.A.mk al_w_.a__a.l_b al_w_.a__a.l_c z z1 al_w_.a__a.m__p).m__p), hE.sel [4] (by kernel_rfl), H.x1⟩
        · replace hE := hE.dec 99 c (by kernel_rfl)
          replace hm := cond_f c hm
          have c_5 := c
          refine WR.seg hE 10 [] [4] (Lo := [(4, .bool false)]) (obs := []) rfl (by kernel_rfl) trivial fun a hE => ?_
          refine WR.done rfl ?_
          cases hm
          exact hk _ _ ⟨arena_Arena.A.mk al_w_.a__a.l_b al_w_.a__a.l_c z z1 al_w_.a__a.m__p, hE.sel [4] (by kernel_rfl), H.x1⟩
      rintro a w ⟨z2, hE, H⟩
      refine Runs.ret hE Tryz.func10 rfl rfl ?_
      cases hm
      exact ⟨z2, sb, sc, rfl, H⟩

theorem thicketlaw11_world_pop_ok {w0 w : World} {As : List HP} {k : Nat} {p_w_ : Nat} {al_w_ : thicketlaw11_world.A} {w_ : thicketlaw11_world} {h_ : Int} {t : Bool × thicketlaw11_world}  (hm : thicketlaw11_world_pop k w_ h_ = some t) (H : St w0 (thicketlaw11_world.R p_w_ al_w_ w_ :: As) w) :
    CallsR Tryz.prog 10 #[.pointer (some ⟨p_w_, 0, none⟩), .int .i64 h_] w fun v w' => ∃ (z_w__a__a : arena_Arena.A), ∃ (z_w__has0_b : Option Addr), ∃ (z_w__has0_c : Nat), ∃ (z_w__has1_b : Option Addr), ∃ (z_w__has1_c : Nat), v = .bool t.1 ∧ St w0 (thicketlaw11_world.R p_w_ (thicketlaw11_world.A.mk al_w_.a__p z_w__a__a z_w__has0_b z_w__has0_c z_w__has1_b z_w__has1_c) t.2 :: As) w' := by
  rw [thicketlaw11_world_pop] at hm
  by_cases h0 : h_ = 0
  · subst h0; simp only [if_pos] at hm
    refine (thicketlaw11_world_pop_at0_ok hm H).mono ?_
    rintro v w' ⟨y_0, y_1, y_2, hv, H⟩; exact ⟨y_0, y_1, y_2, al_w_.has1_b, al_w_.has1_c, hv, H⟩
  rw [if_neg h0] at hm
  by_cases h1 : h_ = 1
  · subst h1; simp only [if_pos] at hm
    refine (thicketlaw11_world_pop_at1_ok hm H).mono ?_
    rintro v w' ⟨y_0, y_1, y_2, hv, H⟩; exact ⟨y_0, al_w_.has0_b, al_w_.has0_c, y_1, y_2, hv, H⟩
  rw [if_neg h1] at hm
  cases hm

theorem node_Drop_ok {w0 w : World} {As : List HP} {k : Nat} {p_a_ : Nat} {al_a_ : arena_Arena.A} {a_ : arena_Arena} {sb_l : Option Addr} {sc_l : Nat} {l : List Int} {X_l : HP} {t : (List Int) × arena_Arena} (hX_l : SlRd X_l ecI 1 sb_l l) (hC_l : l.length ≤ sc_l) (hm : node_Drop k a_ l = some t) (H : St w0 (arena_Arena.R p_a_ al_a_ a_ :: X_l :: As) w) :
    CallsR Tryz.prog 57 #[.pointer (some ⟨p_a_, 0, none⟩), .slice sb_l l.length sc_l] w fun v w' => ∃ (sb0 : Option Addr), ∃ (sc0 : Nat), ∃ (z_a__free_b : Option Addr), ∃ (z_a__free_c : Nat), v = .slice sb0 t.1.length sc0 ∧ St w0 (Sl 3 ecI 1 sb0 sc0 t.1 :: arena_Arena.R p_a_ (arena_Arena.A.mk al_a_.l_b al_a_.l_c z_a__free_b z_a__free_c al_a_.m__p) t.2 :: X_l :: As) w' := by
  rw [node_Drop] at hm
  refine enter (args := [.pointer (some ⟨p_a_, 0, none⟩), .slice sb_l l.length sc_l]) Tryz.func57 rfl rfl rfl fun a hE => ?_
  refine Runs.seq ?_
  refine Runs.region ?_
  refine WR.seg hE 1 [] [0, 1] (Lo := [(0, .pointer (some ⟨p_a_, 0, none⟩)), (1, .slice sb_l l.length sc_l)]) (obs := []) rfl (by kernel_rfl) trivial fun a hE => ?_
  refine WR.done rfl ?_
  refine Runs.seq ?_
  refine Runs.region ?_
  refine WR.seg hE 2 [] [0, 1, 8, 9] (Lo := [(0, .pointer (some ⟨p_a_, 0, none⟩)), (1, .slice sb_l l.length sc_l), (8, .pointer (some ⟨p_a_, 0, none⟩)), (9, .slice sb_l l.length sc_l)]) (obs := []) rfl (by kernel_rfl) trivial fun a hE => ?_
  obtain ⟨t_, et_, hm⟩ := bind_some hm
  replace H := H.t1.t1
  refine WR.eff hE rfl rfl rfl rfl (OpTo.fn hE rfl rfl Tryz.call49 (node_Items_ok (hX_l := hX_l) (hC_l := hC_l) et_ H)) ?_
  rintro _ w ⟨sb, sc, rfl, H⟩ a hE
  refine WR.seg hE 4 [] [0, 1, 5] (Lo := [(0, .pointer (some ⟨p_a_, 0, none⟩)), (1, .slice sb_l l.length sc_l), (5, .slice sb t_.1.length sc)]) (obs := []) rfl (by kernel_rfl) trivial fun a hE => ?_
  refine WR.done rfl ?_
  refine Runs.seq ?_
  refine Runs.seq ?_
  refine Runs.region ?_
  refine WR.seg hE 3 [] [0, 5, 11, 12, 13] (Lo := [(0, .pointer (some ⟨p_a_, 0, none⟩)), (5, .slice sb t_.1.length sc), (11, .slice sb_l l.length sc_l), (12, .int .i64 (l.length : Int)), (13, .int .i64 0)]) (obs := []) rfl (by kernel_rfl) trivial fun a hE => ?_
  refine WR.done rfl ?_
  obtain ⟨s, es, hm⟩ := bind_some hm
  refine Runs.join (fun a w => ∃ (z2 : Option Addr), ∃ (z3 : Nat), EnvOk 22 a [(5, .slice sb t_.1.length sc)] ∧ St w0 (Sl 3 ecI 1 sb sc t_.1 :: arena_Arena.R p_a_ (arena_Arena.A.mk al_a_.l_b al_a_.l_c z2 z3 al_a_.m__p) s :: X_l :: As) w) (fun hk => ?_) ?_
  · replace hm := es; clear es
    refine Runs.block ?_
    refine Runs.loop (fun m a w => ∃ (x : Int), ∃ (m_ : arena_Arena), ∃ (z4 : Option Addr), ∃ (z5 : Nat), EnvOk 22 a [(0, .pointer (some ⟨p_a_, 0, none⟩)), (5, .slice sb t_.1.length sc), (11, .slice sb_l l.length sc_l), (12, .int .i64 (l.length : Int)), (13, .int .i64 x)] ∧ St w0 (Sl 3 ecI 1 sb sc t_.1 :: arena_Arena.R p_a_ (arena_Arena.A.mk al_a_.l_b al_a_.l_c z4 z5 al_a_.m__p) m_ :: X_l :: As) w ∧ node_Drop_l0 (l.length : Int) t_.1 l m x m_ = some s) k ⟨0, t_.2, al_a_.free_b, al_a_.free_c, hE.sel [0, 5, 11, 12, 13] (by kernel_rfl), H.t2.t2.t2, hm⟩ ?_
    rintro m ih a w ⟨x, m_, z4, z5, hE, H, hm⟩
    cases m with
    | zero => simp [node_Drop_l0] at hm
    | succ m =>
      rw [node_Drop_l0] at hm
      refine Runs.seq ?_
      refine Runs.region ?_
      refine WR.seg hE 1 [] [0, 5, 11, 12, 13, 14] (Lo := [(0, .pointer (some ⟨p_a_, 0, none⟩)), (5, .slice sb t_.1.length sc), (11, .slice sb_l l.length sc_l), (12, .int .i64 (l.length : Int)), (13, .int .i64 x), (14, .bool (decide (x < (l.length : Int))))]) (obs := []) rfl (by kernel_rfl) trivial fun a hE => ?_
      refine WR.done rfl ?_
      refine Runs.seq ?_
      refine Runs.cond hE rfl (fun c => ?_) (fun c => ?_)
      · replace hm := cond_t c hm
        refine Runs.skip ?_
        refine Runs.seq ?_
        refine Runs.block ?_
        refine Runs.seq ?_
        refine Runs.region ?_
        obtain ⟨x2, ex2, hm⟩ := bind_some hm
        obtain ⟨b, o, hs, hb⟩ := SlRd.base hX_l ecI_ok H 2 rfl ex2
        refine WR.seg hE 3 [.pointer (some ⟨b, o, none⟩), .int .i64 x2] [0, 5, 7, 11, 12, 13] (Lo := [(0, .pointer (some ⟨p_a_, 0, none⟩)), (5, .slice sb t_.1.length sc), (7, .int .i64 x2), (11, .slice sb_l l.length sc_l), (12, .int .i64 (l.length : Int)), (13, .int .i64 x)]) (obs := [.p ((sb_l : Option Addr) = some ⟨b, o, none⟩), .p (0 ≤ (x : Int) ∧ (x : Int) < ((l.length : Nat) : Int)), .cell ⟨b, o + (Int.toNat x) * 1, none⟩ (.int .i64 x2)]) rfl (by kernel_rfl) ⟨hs, hb, SlRd.cells hX_l ecI_ok H 2 rfl hs ex2 0 _ rfl, trivial⟩ fun a hE => ?_
        refine WR.done rfl ?_
        refine Runs.region ?_
        refine WR.seg hE 2 [] [0, 5, 11, 12, 13, 17, 18] (Lo := [(0, .pointer (some ⟨p_a_, 0, none⟩)), (5, .slice sb t_.1.length sc), (11, .slice sb_l l.length sc_l), (12, .int .i64 (l.length : Int)), (13, .int .i64 x), (17, .pointer (some ⟨p_a_, 0, none⟩)), (18, .int .i64 x2)]) (obs := []) rfl (by kernel_rfl) trivial fun a hE => ?_
        obtain ⟨t_1, et_1, hm⟩ := bind_some hm
        refine WR.eff hE rfl rfl rfl rfl (OpTo.fn hE rfl rfl Tryz.call78 (node_End_ok et_1 H.t1)) ?_
        rintro _ w ⟨z6, z7, rfl, H⟩ a hE
        refine WR.done rfl ?_
        refine Runs.inBlock ?_
        refine Runs.region ?_
        refine WR.seg hE 2 [] [0, 5, 11, 12, 13] (Lo := [(0, .pointer (some ⟨p_a_, 0, none⟩)), (5, .slice sb t_.1.length sc), (11, .slice sb_l l.length sc_l), (12, .int .i64 (l.length : Int)), (13, .int .i64 (w64 (x + 1)))]) (obs := []) rfl (by kernel_rfl) trivial fun a hE => ?_
        refine WR.done rfl ?_
        exact ih m (Nat.lt_succ_self m) _ _ ⟨w64 (x + 1), t_1.2, z6, z7, hE.sel [0, 5, 11, 12, 13] (by kernel_rfl), H.t2.t1.t2, hm⟩
      · replace hm := cond_f c hm
        refine Runs.exit rfl ?_
        cases hm
        exact hk _ _ ⟨z4, z5, hE.sel [5] (by kernel_rfl), H.t2.t2.t2⟩
  rintro a w ⟨z2, z3, hE, H⟩
  refine Runs.seq ?_
  refine Runs.region ?_
  refine WR.seg hE 2 [] [4] (Lo := [(4, .slice sb t_.1.length sc)]) (obs := []) rfl (by kernel_rfl) trivial fun a hE => ?_
  refine WR.done rfl ?_
  refine Runs.ret hE Tryz.func57 rfl rfl ?_
  cases hm
  exact ⟨sb, sc, z2, z3, rfl, H.t2.t2.t2⟩

theorem skew_Drop_ok {w0 w : World} {As : List HP} {k : Nat} {p_a_ : Nat} {al_a_ : arena_Arena.A} {a_ : arena_Arena} {r : Int} {t : (List Int) × arena_Arena}  (hm : skew_Drop k a_ r = some t) (H : St w0 (arena_Arena.R p_a_ al_a_ a_ :: As) w) :
    CallsR Tryz.prog 36 #[.pointer (some ⟨p_a_, 0, none⟩), .int .i64 r] w fun v w' => ∃ (sb0 : Option Addr), ∃ (sc0 : Nat), ∃ (z_a__free_b : Option Addr), ∃ (z_a__free_c : Nat), v = .slice sb0 t.1.length sc0 ∧ St w0 (Sl 3 ecI 1 sb0 sc0 t.1 :: arena_Arena.R p_a_ (arena_Arena.A.mk al_a_.l_b al_a_.l_c z_a__free_b z_a__free_c al_a_.m__p) t.2 :: As) w' := by
  rw [skew_Drop] at hm
  refine enter (args := [.pointer (some ⟨p_a_, 0, none⟩), .int .i64 r]) Tryz.func36 rfl rfl rfl fun a hE => ?_
  refine Runs.seq ?_
  refine Runs.region ?_
  refine WR.seg hE 1 [] [0, 1] (Lo := [(0, .pointer (some ⟨p_a_, 0, none⟩)), (1, .int .i64 r)]) (obs := []) rfl (by kernel_rfl) trivial fun a hE => ?_
  refine WR.done rfl ?_
  refine Runs.seq ?_
  refine Runs.seq ?_
  refine Runs.region ?_
  refine WR.seg hE 2 [] [0, 1, 6] (Lo := [(0, .pointer (some ⟨p_a_, 0, none⟩)), (1, .int .i64 r), (6, .bool false)]) (obs := []) rfl (by kernel_rfl) trivial fun a hE => ?_
  refine WR.done rfl ?_
  refine Runs.condF hE rfl ?_
  refine Runs.skip ?_
  refine Runs.seq ?_
  refine Runs.region ?_
  refine WR.seg hE 3 [] [7, 8, 9] (Lo := [(7, .pointer (some ⟨p_a_, 0, none⟩)), (8, .pointer (some ⟨p_a_, 0, none⟩)), (9, .int .i64 r)]) (obs := []) rfl (by kernel_rfl) trivial fun a hE => ?_
  obtain ⟨t_, et_, hm⟩ := bind_some hm
  refine WR.eff hE rfl rfl rfl rfl (OpTo.fn hE rfl rfl Tryz.call50 (trees_Nodes_ok et_ H)) ?_
  rintro _ w ⟨sb, sc, rfl, H⟩ a hE
  obtain ⟨t_1, et_1, hm⟩ := bind_some hm
  replace H := H.t1
  refine WR.eff hE rfl rfl rfl rfl (OpTo.fn hE rfl rfl Tryz.call57 (node_Drop_ok (hX_l := (sl_rd 3 ecI 1 _ _ _)) (hC_l := (H.slCap 1 rfl).1) et_1 H)) ?_
  rintro _ w ⟨sb1, sc1, z, z1, rfl, H⟩ a hE
  refine WR.seg hE 6 [] [4] (Lo := [(4, .slice sb1 t_1.1.length sc1)]) (obs := []) rfl (by kernel_rfl) trivial fun a hE => ?_
  refine WR.done rfl ?_
  refine Runs.ret hE Tryz.func36 rfl rfl ?_
  cases hm
  exact ⟨sb1, sc1, z, z1, rfl, H.x2.t1.t1⟩

theorem thicketlaw11_world_drop_at0_ok {w0 w : World} {As : List HP} {k : Nat} {p_w_ : Nat} {al_w_ : thicketlaw11_world.A} {w_ : thicketlaw11_world} {t : Bool × thicketlaw11_world}  (hm : thicketlaw11_world_drop_at0 k w_ = some t) (H : St w0 (thicketlaw11_world.R p_w_ al_w_ w_ :: As) w) :
    CallsR Tryz.prog 11 #[.pointer (some ⟨p_w_, 0, none⟩), .int .i64 0] w fun v w' => ∃ (z_w__a__a : arena_Arena.A), ∃ (z_w__has0_b : Option Addr), ∃ (z_w__has0_c : Nat), v = .bool t.1 ∧ St w0 (thicketlaw11_world.R p_w_ (thicketlaw11_world.A.mk al_w_.a__p z_w__a__a z_w__has0_b z_w__has0_c al_w_.has1_b al_w_.has1_c) t.2 :: As) w' := by
  rw [thicketlaw11_world_drop_at0] at hm
  refine enter (args := [.pointer (some ⟨p_w_, 0, none⟩), .int .i64 0]) Tryz.func11 rfl rfl rfl fun a hE => ?_
  refine Runs.seq ?_
  refine Runs.region ?_
  refine WR.seg hE 1 [] [0, 1] (Lo := [(0, .pointer (some ⟨p_w_, 0, none⟩)), (1, .int .i64 0)]) (obs := []) rfl (by kernel_rfl) trivial fun a hE => ?_
  refine WR.done rfl ?_
  refine Runs.seq ?_
  refine Runs.drawn mixed (by kernel_rfl) ?_
  replace H := H.drew
  replace H := thicketlaw11_world.open H
  refine WQ.seg hE [0, 1, 2, 3, 4, 5, 6, 7, 8, 9] [.pointer (some ⟨al_w_.a__p, 0, none⟩), .int .i64 w_.root0] [0, 1, 10, 16] (Lo := [(0, .pointer (some ⟨p_w_, 0, none⟩)), (1, .int .i64 0), (10, .pointer (some ⟨al_w_.a__p, 0, none⟩)), (16, .int .i64 w_.root0)]) (obs := [.cell ⟨p_w_, 0, none⟩ (.pointer (some ⟨al_w_.a__p, 0, none⟩)), .p (0 ≤ (0 : Int) ∧ (0 : Int) < ((2 : Nat) : Int)), .cell ⟨p_w_, 1, none⟩ (.int .i64 w_.root0)]) (by kernel_rfl) (by kernel_rfl) ⟨H.cell 0 rfl rfl, ⟨by decide, by decide⟩, H.cell 0 rfl rfl, trivial⟩ fun a hE => ?_
  obtain ⟨t_, et_, hm⟩ := bind_some hm
  refine WQ.eff (j := 10) (obs := []) hE (by kernel_rfl) rfl rfl rfl rfl (by kernel_rfl) (OpTo.fn hE rfl rfl Tryz.call36 (skew_Drop_ok et_ H.t1)) ?_
  rintro _ w ⟨sb, sc, z, z1, rfl, H⟩
  refine ⟨trivial, fun a hE => ?_⟩
  refine WQ.seg hE [11] [] [0, 1, 5] (Lo := [(0, .pointer (some ⟨p_w_, 0, none⟩)), (1, .int .i64 0), (5, .slice sb t_.1.length sc)]) (obs := []) (by kernel_rfl) (by kernel_rfl) trivial fun a hE => ?_
  refine WQ.done (by kernel_rfl) ?_
  refine Runs.seq ?_
  refine Runs.seq ?_
  refine Runs.region ?_
  refine WR.seg hE 7 [.slice al_w_.has0_b w_.has0.length al_w_.has0_c] [0, 1, 5, 18, 24] (Lo := [(0, .pointer (some ⟨p_w_, 0, none⟩)), (1, .int .i64 0), (5, .slice sb t_.1.length sc), (18, .slice sb t_.1.length sc), (24, .slice al_w_.has0_b w_.has0.length al_w_.has0_c)]) (obs := [.p (0 ≤ (0 : Int) ∧ (0 : Int) < ((2 : Nat) : Int)), .cell ⟨p_w_, 3, none⟩ (.slice al_w_.has0_b w_.has0.length al_w_.has0_c)]) rfl (by kernel_rfl) ⟨⟨by decide, by decide⟩, H.cell 2 rfl rfl, trivial⟩ fun a hE => ?_
  obtain ⟨t_1, et_1, hm⟩ := bind_some hm
  replace H := H.t3
  refine WR.eff hE rfl rfl rfl rfl (OpTo.fn hE rfl rfl Tryz.call26 (thicketlaw11_cells_ok (hX_l := (sl_rd 48 thicketlaw11_held.enc 3 _ _ _)) (hC_l := (H.slCap 0 rfl).1) et_1 H)) ?_
  rintro _ w ⟨sb1, sc1, rfl, H⟩ a hE
  obtain ⟨t_2, et_2, hm⟩ := bind_some hm
  replace H := H.t2
  refine WR.eff hE rfl rfl rfl rfl (OpTo.fn hE rfl rfl Tryz.call24 (thicketbook_Same_int_ok (hX_a_ := (sl_rd 3 ecI 1 _ _ _)) (hC_a_ := (H.slCap 0 rfl).1) (hX_b := (sl_rd 3 ecI 1 _ _ _)) (hC_b := (H.slCap 1 rfl).1) et_2 H)) ?_
  rintro _ w ⟨rfl, H⟩ a hE
  refine WR.seg hE 10 [] [0, 1, 5, 27] (Lo := [(0, .pointer (some ⟨p_w_, 0, none⟩)), (1, .int .i64 0), (5, .slice sb t_.1.length sc), (27, .bool (!t_2))]) (obs := []) rfl (by kernel_rfl) trivial fun a hE => ?_
  refine WR.done rfl ?_
  refine Runs.cond hE rfl (fun c => ?_) (fun c => ?_)
  · replace hm := cond_t c hm
    refine Runs.seq ?_
    refine Runs.region ?_
    refine WR.seg hE 1 [] [4] (Lo := [(4, .bool false)]) (obs := []) rfl (by kernel_rfl) trivial fun a hE => ?_
    refine WR.done rfl ?_
    replace H := thicketlaw11_world.shut (thicketlaw11_world.A.mk al_w_.a__p (arena_Arena.A.mk al_w_.a__a.l_b al_w_.a__a.l_c z z1 al_w_.a__a.m__p) al_w_.has0_b al_w_.has0_c al_w_.has1_b al_w_.has1_c) (thicketlaw11_world.mk t_.2 w_.root0 w_.root1 w_.has0 w_.has1 w_.next w_.spent w_.most) H.t5.t3.t4.t5
    refine Runs.ret hE Tryz.func11 rfl rfl ?_
    cases hm
    exact ⟨arena_Arena.A.mk al_w_.a__a.l_b al_w_.a__a.l_c z z1 al_w_.a__a.m__p, al_w_.has0_b, al_w_.has0_c, rfl, H.x2.x1⟩
  · replace hm := cond_f c hm
    refine Runs.skip ?_
    refine Runs.seq ?_
    refine Runs.seq ?_
    refine Runs.region ?_
    refine WR.seg hE 1 [] [0, 1, 5, 6] (Lo := [(0, .pointer (some ⟨p_w_, 0, none⟩)), (1, .int .i64 0), (5, .slice sb t_.1.length sc), (6, .int .i64 0)]) (obs := []) rfl (by kernel_rfl) trivial fun a hE => ?_
    refine WR.done rfl ?_
    replace H := thicketlaw11_world.shut (thicketlaw11_world.A.mk al_w_.a__p (arena_Arena.A.mk al_w_.a__a.l_b al_w_.a__a.l_c z z1 al_w_.a__a.m__p) al_w_.has0_b al_w_.has0_c al_w_.has1_b al_w_.has1_c) (thicketlaw11_world.mk t_.2 w_.root0 w_.root1 w_.has0 w_.has1 w_.next w_.spent w_.most) H.t5.t3.t4.t5
    obtain ⟨s, es, hR⟩ := bind_some hm
    refine Runs.join (fun a w => ∃ s1, s = Sum.inr s1 ∧ ∃ (z3 : arena_Arena.A), EnvOk 66 a [(0, .pointer (some ⟨p_w_, 0, none⟩)), (1, .int .i64 0)] ∧ St w0 (thicketlaw11_world.R p_w_ (thicketlaw11_world.A.mk al_w_.a__p z3 al_w_.has0_b al_w_.has0_c al_w_.has1_b al_w_.has1_c) s1 :: As) w) (fun hk => ?_) ?_
    · replace hm := es; clear es
      refine Runs.block ?_
      refine Runs.loop (fun m a w => ∃ (i : Int), ∃ (m_ : thicketlaw11_world), ∃ (z4 : arena_Arena.A), EnvOk 66 a [(0, .pointer (some ⟨p_w_, 0, none⟩)), (1, .int .i64 0), (5, .slice sb t_.1.length sc), (6, .int .i64 i)] ∧ St w0 (thicketlaw11_world.R p_w_ (thicketlaw11_world.A.mk al_w_.a__p z4 al_w_.has0_b al_w_.has0_c al_w_.has1_b al_w_.has1_c) m_ :: Sl 3 ecI 1 sb sc t_.1 :: As) w ∧ thicketlaw11_world_drop_at0_l0 t_.1 m i m_ = some s) k ⟨0, thicketlaw11_world.mk t_.2 w_.root0 w_.root1 w_.has0 w_.has1 w_.next w_.spent w_.most, arena_Arena.A.mk al_w_.a__a.l_b al_w_.a__a.l_c z z1 al_w_.a__a.m__p, hE.sel [0, 1, 5, 6] (by kernel_rfl), H.x2.t1.t1, hm⟩ ?_
      rintro m ih a w ⟨i, m_, z4, hE, H, hm⟩
      cases m with
      | zero => simp [thicketlaw11_world_drop_at0_l0] at hm
      | succ m =>
        rw [thicketlaw11_world_drop_at0_l0] at hm
        refine Runs.seq ?_
        refine Runs.seq ?_
        refine Runs.region ?_
        refine WR.seg hE 4 [] [0, 1, 5, 6, 31] (Lo := [(0, .pointer (some ⟨p_w_, 0, none⟩)), (1, .int .i64 0), (5, .slice sb t_.1.length sc), (6, .int .i64 i), (31, .bool (decide (i < (t_.1.length : Int))))]) (obs := []) rfl (by kernel_rfl) trivial fun a hE => ?_
        refine WR.done rfl ?_
        refine Runs.cond hE rfl (fun c => ?_) (fun c => ?_)
        · replace hm := cond_t c hm
          refine Runs.skip ?_
          refine Runs.seq ?_
          refine Runs.block ?_
          refine Runs.seq ?_
          obtain ⟨s2, es2, hm⟩ := bind_some hm
          refine Runs.join (fun a w => ∃ (z5 : arena_Arena.A), EnvOk 66 a [(0, .pointer (some ⟨p_w_, 0, none⟩)), (1, .int .i64 0), (5, .slice sb t_.1.length sc), (6, .int .i64 i), (55, .bool s2.1)] ∧ St w0 (thicketlaw11_world.R p_w_ (thicketlaw11_world.A.mk al_w_.a__p z5 al_w_.has0_b al_w_.has0_c al_w_.has1_b al_w_.has1_c) s2.2 :: Sl 3 ecI 1 sb sc t_.1 :: As) w) (fun hk => ?_) ?_
          · replace hm := es2; clear es2
            refine Runs.drawn mixed (by kernel_rfl) ?_
            replace H := H.drew
            replace H := thicketlaw11_world.open H
            try dsimp only at H
            obtain ⟨x1, ex1, hm⟩ := bind_some hm
            obtain ⟨b1, o1, hs1, hb1⟩ := SlRd.base (sl_rd 3 ecI 1 _ _ _) ecI_ok H 4 rfl ex1
            refine WQ.seg hE [0, 1, 2, 3, 4, 5, 6, 7] [.pointer (some ⟨al_w_.a__p, 0, none⟩), .pointer (some ⟨b1, o1, none⟩), .int .i64 x1] [0, 1, 5, 6, 37, 41] (Lo := [(0, .pointer (some ⟨p_w_, 0, none⟩)), (1, .int .i64 0), (5, .slice sb t_.1.length sc), (6, .int .i64 i), (37, .pointer (some ⟨al_w_.a__p, 0, none⟩)), (41, .int .i64 x1)]) (obs := [.cell ⟨p_w_, 0, none⟩ (.pointer (some ⟨al_w_.a__p, 0, none⟩)), .p ((sb : Option Addr) = some ⟨b1, o1, none⟩), .p (0 ≤ (i : Int) ∧ (i : Int) < ((t_.1.length : Nat) : Int)), .cell ⟨b1, o1 + (Int.toNat i) * 1, none⟩ (.int .i64 x1)]) (by kernel_rfl) (by kernel_rfl) ⟨H.cell 0 rfl rfl, hs1, hb1, SlRd.cells (sl_rd 3 ecI 1 _ _ _) ecI_ok H 4 rfl hs1 ex1 0 _ rfl, trivial⟩ fun a hE => ?_
            obtain ⟨t_3, et_3, hm⟩ := bind_some hm
            refine WQ.eff (j := 8) (obs := []) hE (by kernel_rfl) rfl rfl rfl rfl (by kernel_rfl) (OpTo.fn hE rfl rfl Tryz.call33 (item_Node_ok et_3 H.t1)) ?_
            rintro _ w ⟨rfl, H⟩
            refine ⟨trivial, fun a hE => ?_⟩
            refine WQ.seg hE [9, 10] [] [0, 1, 5, 6, 44] (Lo := [(0, .pointer (some ⟨p_w_, 0, none⟩)), (1, .int .i64 0), (5, .slice sb t_.1.length sc), (6, .int .i64 i), (44, .bool (t_3.1 != (-1)))]) (obs := []) (by kernel_rfl) (by kernel_rfl) trivial fun a hE => ?_
            rcases Bool.eq_false_or_eq_true (t_3.1 != (-1)) with c | c
            · replace hE := hE.dec 44 c (by kernel_rfl)
              replace hm := cond_t c hm
              have c_ := c
              refine WQ.seg hE [11, 12, 13, 14, 15, 16, 17, 18, 19, 20, 21] [] [0, 1, 5, 6, 55] (Lo := [(0, .pointer (some ⟨p_w_, 0, none⟩)), (1, .int .i64 0), (5, .slice sb t_.1.length sc), (6, .int .i64 i), (55, .bool true)]) (obs := []) (by kernel_rfl) (by kernel_rfl) trivial fun a hE => ?_
              refine WQ.done (by kernel_rfl) ?_
              replace H := thicketlaw11_world.shut (thicketlaw11_world.A.mk al_w_.a__p z4 al_w_.has0_b al_w_.has0_c al_w_.has1_b al_w_.has1_c) (thicketlaw11_world.mk t_3.2 m_.root0 m_.root1 m_.has0 m_.has1 m_.next m_.spent m_.most) H.t3.t3.t2.t3
              cases hm
              exact hk _ _ ⟨z4, hE.sel [0, 1, 5, 6, 55] (by kernel_rfl), H.t1.t1⟩
            · replace hE := hE.dec 44 c (by kernel_rfl)
              replace hm := cond_f c hm
              have c_1 := c
              obtain ⟨x2, ex2, hm⟩ := bind_some hm
              obtain ⟨b2, o2, hs2, hb2⟩ := SlRd.base (sl_rd 3 ecI 1 _ _ _) ecI_ok H 4 rfl ex2
              refine WQ.seg hE [11, 12, 13, 14, 15, 16, 17, 18] [.pointer (some ⟨al_w_.a__p, 0, none⟩), .pointer (some ⟨b2, o2, none⟩), .int .i64 x2] [0, 1, 5, 6, 44, 48, 52] (Lo := [(0, .pointer (some ⟨p_w_, 0, none⟩)), (1, .int .i64 0), (5, .slice sb t_.1.length sc), (6, .int .i64 i), (44, .bool false), (48, .pointer (some ⟨al_w_.a__p, 0, none⟩)), (52, .int .i64 x2)]) (obs := [.cell ⟨p_w_, 0, none⟩ (.pointer (some ⟨al_w_.a__p, 0, none⟩)), .p ((sb : Option Addr) = some ⟨b2, o2, none⟩), .p (0 ≤ (i : Int) ∧ (i : Int) < ((t_.1.length : Nat) : Int)), .cell ⟨b2, o2 + (Int.toNat i) * 1, none⟩ (.int .i64 x2)]) (by kernel_rfl) (by kernel_rfl) ⟨H.cell 1 rfl rfl, hs2, hb2, SlRd.cells (sl_rd 3 ecI 1 _ _ _) ecI_ok H 4 rfl hs2 ex2 0 _ rfl, trivial⟩ fun a hE => ?_
              obtain ⟨t_4, et_4, hm⟩ := bind_some hm
              refine WQ.eff (j := 19) (obs := []) hE (by kernel_rfl) rfl rfl rfl rfl (by kernel_rfl) (OpTo.fn hE rfl rfl Tryz.call21 (arena_Arena_Give_ok et_4 H)) ?_
              rintro _ w ⟨z6, z7, rfl, H⟩
              refine ⟨trivial, fun a hE => ?_⟩
              refine WQ.seg hE [20, 21] [] [0, 1, 5, 6, 55] (Lo := [(0, .pointer (some ⟨p_w_, 0, none⟩)), (1, .int .i64 0), (5, .slice sb t_.1.length sc), (6, .int .i64 i), (55, .bool (!t_4.1))]) (obs := []) (by kernel_rfl) (by kernel_rfl) trivial fun a hE => ?_
              refine WQ.done (by kernel_rfl) ?_
              replace H := thicketlaw11_world.shut (thicketlaw11_world.A.mk al_w_.a__p (arena_Arena.A.mk z4.l_b z4.l_c z6 z7 z4.m__p) al_w_.has0_b al_w_.has0_c al_w_.has1_b al_w_.has1_c) (thicketlaw11_world.mk t_4.2 m_.root0 m_.root1 m_.has0 m_.has1 m_.next m_.spent m_.most) H.t3.t3.t2.t3
              cases hm
              exact hk _ _ ⟨arena_Arena.A.mk z4.l_b z4.l_c z6 z7 z4.m__p, hE.sel [0, 1, 5, 6, 55] (by kernel_rfl), H.t1.t1⟩
          rintro a w ⟨z5, hE, H⟩
          refine Runs.cond hE rfl (fun c => ?_) (fun c => ?_)
          · replace hm := cond_t c hm
            refine Runs.seq ?_
            refine Runs.region ?_
            refine WR.seg hE 1 [] [4] (Lo := [(4, .bool false)]) (obs := []) rfl (by kernel_rfl) trivial fun a hE => ?_
            refine WR.done rfl ?_
            refine Runs.ret hE Tryz.func11 rfl rfl ?_
            cases hm
            dsimp only at hR; cases hR
            exact ⟨z5, al_w_.has0_b, al_w_.has0_c, rfl, H.x1⟩
          · replace hm := cond_f c hm
            refine Runs.skip ?_
            refine Runs.inBlock ?_
            refine Runs.region ?_
            refine WR.seg hE 3 [] [0, 1, 5, 6] (Lo := [(0, .pointer (some ⟨p_w_, 0, none⟩)), (1, .int .i64 0), (5, .slice sb t_.1.length sc), (6, .int .i64 (w64 (i + 1)))]) (obs := []) rfl (by kernel_rfl) trivial fun a hE => ?_
            refine WR.done rfl ?_
            exact ih m (Nat.lt_succ_self m) _ _ ⟨w64 (i + 1), s2.2, z5, hE.sel [0, 1, 5, 6] (by kernel_rfl), H.t1.t1, hm⟩
        · replace hm := cond_f c hm
          refine Runs.exit rfl ?_
          cases hm
          exact hk _ _ ⟨_, rfl, z4, hE.sel [0, 1] (by kernel_rfl), H.x1⟩
    rintro a w ⟨s1, rfl, z3, hE, H⟩
    replace hm := hR; dsimp only at hm
    refine Runs.seq ?_
    refine Runs.drawn mixed (by kernel_rfl) ?_
    replace H := H.drew
    refine WQ.seg hE [0, 1, 2, 3, 4, 5, 6, 8, 9] [] [59, 62, 64] (Lo := [(59, .int .i64 0), (62, .pointer (some ⟨p_w_, 1, none⟩)), (64, .pointer (some ⟨p_w_, 3, none⟩))]) (obs := [.p (0 ≤ (0 : Int) ∧ (0 : Int) < ((2 : Nat) : Int))]) (by kernel_rfl) (by kernel_rfl) ⟨⟨by decide, by decide⟩, trivial⟩ fun a hE => ?_
    replace H := thicketlaw11_world.open H
    try dsimp only at H
    refine WQ.eff0 (j := 7) (obs := []) hE (by kernel_rfl) rfl rfl rfl (by kernel_rfl) (OpTo.store hE H rfl rfl rfl rfl rfl rfl (Nat.le_of_ble_eq_true rfl)) ?_
    rintro _ w H
    refine ⟨trivial, fun a hE => ?_⟩
    refine WQ.seg hE [10] [] [65] (Lo := [(65, .pointer (some ⟨p_w_, 3, none⟩))]) (obs := [.p (0 ≤ (0 : Int) ∧ (0 : Int) < ((2 : Nat) : Int))]) (by kernel_rfl) (by kernel_rfl) ⟨⟨by decide, by decide⟩, trivial⟩ fun a hE => ?_
    refine WQ.eff0 (j := 11) (obs := []) hE (by kernel_rfl) rfl rfl rfl (by kernel_rfl) (OpTo.store hE H rfl rfl rfl rfl rfl rfl (Nat.le_of_ble_eq_true rfl)) ?_
    rintro _ w H
    refine ⟨trivial, fun a hE => ?_⟩
    refine WQ.done (by kernel_rfl) ?_
    refine Runs.seq ?_
    refine Runs.region ?_
    refine WR.seg hE 1 [] [4] (Lo := [(4, .bool true)]) (obs := []) rfl (by kernel_rfl) trivial fun a hE => ?_
    refine WR.done rfl ?_
    replace H := H.slNil 48 thicketlaw11_held.enc 3
    replace H := thicketlaw11_world.shut (thicketlaw11_world.A.mk al_w_.a__p z3 none 0 al_w_.has1_b al_w_.has1_c) (thicketlaw11_world.mk s1.a_ (-1) s1.root1 ([] : List thicketlaw11_held) s1.has1 s1.next s1.spent s1.most) H.t4.t1.t3.t3
    refine Runs.ret hE Tryz.func11 rfl rfl ?_
    cases hm
    exact ⟨z3, none, 0, rfl, H.x1⟩

theorem thicketlaw11_world_drop_at1_ok {w0 w : World} {As : List HP} {k : Nat} {p_w_ : Nat} {al_w_ : thicketlaw11_world.A} {w_ : thicketlaw11_world} {t : Bool × thicketlaw11_world}  (hm : thicketlaw11_world_drop_at1 k w_ = some t) (H : St w0 (thicketlaw11_world.R p_w_ al_w_ w_ :: As) w) :
    CallsR Tryz.prog 11 #[.pointer (some ⟨p_w_, 0, none⟩), .int .i64 1] w fun v w' => ∃ (z_w__a__a : arena_Arena.A), ∃ (z_w__has1_b : Option Addr), ∃ (z_w__has1_c : Nat), v = .bool t.1 ∧ St w0 (thicketlaw11_world.R p_w_ (thicketlaw11_world.A.mk al_w_.a__p z_w__a__a al_w_.has0_b al_w_.has0_c z_w__has1_b z_w__has1_c) t.2 :: As) w' := by
  rw [thicketlaw11_world_drop_at1] at hm
  refine enter (args := [.pointer (some ⟨p_w_, 0, none⟩), .int .i64 1]) Tryz.func11 rfl rfl rfl fun a hE => ?_
  refine Runs.seq ?_
  refine Runs.region ?_
  refine WR.seg hE 1 [] [0, 1] (Lo := [(0, .pointer (some ⟨p_w_, 0, none⟩)), (1, .int .i64 1)]) (obs := []) rfl (by kernel_rfl) trivial fun a hE => ?_
  refine WR.done rfl ?_
  refine Runs.seq ?_
  refine Runs.drawn mixed (by kernel_rfl) ?_
  replace H := H.drew
  replace H := thicketlaw11_world.open H
  refine WQ.seg hE [0, 1, 2, 3, 4, 5, 6, 7, 8, 9] [.pointer (some ⟨al_w_.a__p, 0, none⟩), .int .i64 w_.root1] [0, 1, 10, 16] (Lo := [(0, .pointer (some ⟨p_w_, 0, none⟩)), (1, .int .i64 1), (10, .pointer (some ⟨al_w_.a__p, 0, none⟩)), (16, .int .i64 w_.root1)]) (obs := [.cell ⟨p_w_, 0, none⟩ (.pointer (some ⟨al_w_.a__p, 0, none⟩)), .p (0 ≤ (1 : Int) ∧ (1 : Int) < ((2 : Nat) : Int)), .cell ⟨p_w_, 2, none⟩ (.int .i64 w_.root1)]) (by kernel_rfl) (by kernel_rfl) ⟨H.cell 0 rfl rfl, ⟨by decide, by decide⟩, H.cell 0 rfl rfl, trivial⟩ fun a hE => ?_
  obtain ⟨t_, et_, hm⟩ := bind_some hm
  refine WQ.eff (j := 10) (obs := []) hE (by kernel_rfl) rfl rfl rfl rfl (by kernel_rfl) (OpTo.fn hE rfl rfl Tryz.call36 (skew_Drop_ok et_ H.t1)) ?_
  rintro _ w ⟨sb, sc, z, z1, rfl, H⟩
  refine ⟨trivial, fun a hE => ?_⟩
  refine WQ.seg hE [11] [] [0, 1, 5] (Lo := [(0, .pointer (some ⟨p_w_, 0, none⟩)), (1, .int .i64 1), (5, .slice sb t_.1.length sc)]) (obs := []) (by kernel_rfl) (by kernel_rfl) trivial fun a hE => ?_
  refine WQ.done (by kernel_rfl) ?_
  refine Runs.seq ?_
  refine Runs.seq ?_
  refine Runs.region ?_
  refine WR.seg hE 7 [.slice al_w_.has1_b w_.has1.length al_w_.has1_c] [0, 1, 5, 18, 24] (Lo := [(0, .pointer (some ⟨p_w_, 0, none⟩)), (1, .int .i64 1), (5, .slice sb t_.1.length sc), (18, .slice sb t_.1.length sc), (24, .slice al_w_.has1_b w_.has1.length al_w_.has1_c)]) (obs := [.p (0 ≤ (1 : Int) ∧ (1 : Int) < ((2 : Nat) : Int)), .cell ⟨p_w_, 4, none⟩ (.slice al_w_.has1_b w_.has1.length al_w_.has1_c)]) rfl (by kernel_rfl) ⟨⟨by decide, by decide⟩, H.cell 2 rfl rfl, trivial⟩ fun a hE => ?_
  obtain ⟨t_1, et_1, hm⟩ := bind_some hm
  replace H := H.t4
  refine WR.eff hE rfl rfl rfl rfl (OpTo.fn hE rfl rfl Tryz.call26 (thicketlaw11_cells_ok (hX_l := (sl_rd 48 thicketlaw11_held.enc 3 _ _ _)) (hC_l := (H.slCap 0 rfl).1) et_1 H)) ?_
  rintro _ w ⟨sb1, sc1, rfl, H⟩ a hE
  obtain ⟨t_2, et_2, hm⟩ := bind_some hm
  replace H := H.t2
  refine WR.eff hE rfl rfl rfl rfl (OpTo.fn hE rfl rfl Tryz.call24 (thicketbook_Same_int_ok (hX_a_ := (sl_rd 3 ecI 1 _ _ _)) (hC_a_ := (H.slCap 0 rfl).1) (hX_b := (sl_rd 3 ecI 1 _ _ _)) (hC_b := (H.slCap 1 rfl).1) et_2 H)) ?_
  rintro _ w ⟨rfl, H⟩ a hE
  refine WR.seg hE 10 [] [0, 1, 5, 27] (Lo := [(0, .pointer (some ⟨p_w_, 0, none⟩)), (1, .int .i64 1), (5, .slice sb t_.1.length sc), (27, .bool (!t_2))]) (obs := []) rfl (by kernel_rfl) trivial fun a hE => ?_
  refine WR.done rfl ?_
  refine Runs.cond hE rfl (fun c => ?_) (fun c => ?_)
  · replace hm := cond_t c hm
    refine Runs.seq ?_
    refine Runs.region ?_
    refine WR.seg hE 1 [] [4] (Lo := [(4, .bool false)]) (obs := []) rfl (by kernel_rfl) trivial fun a hE => ?_
    refine WR.done rfl ?_
    replace H := thicketlaw11_world.shut (thicketlaw11_world.A.mk al_w_.a__p (arena_Arena.A.mk al_w_.a__a.l_b al_w_.a__a.l_c z z1 al_w_.a__a.m__p) al_w_.has0_b al_w_.has0_c al_w_.has1_b al_w_.has1_c) (thicketlaw11_world.mk t_.2 w_.root0 w_.root1 w_.has0 w_.has1 w_.next w_.spent w_.most) H.t2.t5.t4.t5
    refine Runs.ret hE Tryz.func11 rfl rfl ?_
    cases hm
    exact ⟨arena_Arena.A.mk al_w_.a__a.l_b al_w_.a__a.l_c z z1 al_w_.a__a.m__p, al_w_.has1_b, al_w_.has1_c, rfl, H.x2.x1⟩
  · replace hm := cond_f c hm
    refine Runs.skip ?_
    refine Runs.seq ?_
    refine Runs.seq ?_
    refine Runs.region ?_
    refine WR.seg hE 1 [] [0, 1, 5, 6] (Lo := [(0, .pointer (some ⟨p_w_, 0, none⟩)), (1, .int .i64 1), (5, .slice sb t_.1.length sc), (6, .int .i64 0)]) (obs := []) rfl (by kernel_rfl) trivial fun a hE => ?_
    refine WR.done rfl ?_
    replace H := thicketlaw11_world.shut (thicketlaw11_world.A.mk al_w_.a__p (arena_Arena.A.mk al_w_.a__a.l_b al_w_.a__a.l_c z z1 al_w_.a__a.m__p) al_w_.has0_b al_w_.has0_c al_w_.has1_b al_w_.has1_c) (thicketlaw11_world.mk t_.2 w_.root0 w_.root1 w_.has0 w_.has1 w_.next w_.spent w_.most) H.t2.t5.t4.t5
    obtain ⟨s, es, hR⟩ := bind_some hm
    refine Runs.join (fun a w => ∃ s1, s = Sum.inr s1 ∧ ∃ (z3 : arena_Arena.A), EnvOk 66 a [(0, .pointer (some ⟨p_w_, 0, none⟩)), (1, .int .i64 1)] ∧ St w0 (thicketlaw11_world.R p_w_ (thicketlaw11_world.A.mk al_w_.a__p z3 al_w_.has0_b al_w_.has0_c al_w_.has1_b al_w_.has1_c) s1 :: As) w) (fun hk => ?_) ?_
    · replace hm := es; clear es
      refine Runs.block ?_
      refine Runs.loop (fun m a w => ∃ (i : Int), ∃ (m_ : thicketlaw11_world), ∃ (z4 : arena_Arena.A), EnvOk 66 a [(0, .pointer (some ⟨p_w_, 0, none⟩)), (1, .int .i64 1), (5, .slice sb t_.1.length sc), (6, .int .i64 i)] ∧ St w0 (thicketlaw11_world.R p_w_ (thicketlaw11_world.A.mk al_w_.a__p z4 al_w_.has0_b al_w_.has0_c al_w_.has1_b al_w_.has1_c) m_ :: Sl 3 ecI 1 sb sc t_.1 :: As) w ∧ thicketlaw11_world_drop_at1_l0 t_.1 m i m_ = some s) k ⟨0, thicketlaw11_world.mk t_.2 w_.root0 w_.root1 w_.has0 w_.has1 w_.next w_.spent w_.most, arena_Arena.A.mk al_w_.a__a.l_b al_w_.a__a.l_c z z1 al_w_.a__a.m__p, hE.sel [0, 1, 5, 6] (by kernel_rfl), H.x2.t1.t1, hm⟩ ?_
      rintro m ih a w ⟨i, m_, z4, hE, H, hm⟩
      cases m with
      | zero => simp [thicketlaw11_world_drop_at1_l0] at hm
      | succ m =>
        rw [thicketlaw11_world_drop_at1_l0] at hm
        refine Runs.seq ?_
        refine Runs.seq ?_
        refine Runs.region ?_
        refine WR.seg hE 4 [] [0, 1, 5, 6, 31] (Lo := [(0, .pointer (some ⟨p_w_, 0, none⟩)), (1, .int .i64 1), (5, .slice sb t_.1.length sc), (6, .int .i64 i), (31, .bool (decide (i < (t_.1.length : Int))))]) (obs := []) rfl (by kernel_rfl) trivial fun a hE => ?_
        refine WR.done rfl ?_
        refine Runs.cond hE rfl (fun c => ?_) (fun c => ?_)
        · replace hm := cond_t c hm
          refine Runs.skip ?_
          refine Runs.seq ?_
          refine Runs.block ?_
          refine Runs.seq ?_
          obtain ⟨s2, es2, hm⟩ := bind_some hm
          refine Runs.join (fun a w => ∃ (z5 : arena_Arena.A), EnvOk 66 a [(0, .pointer (some ⟨p_w_, 0, none⟩)), (1, .int .i64 1), (5, .slice sb t_.1.length sc), (6, .int .i64 i), (55, .bool s2.1)] ∧ St w0 (thicketlaw11_world.R p_w_ (thicketlaw11_world.A.mk al_w_.a__p z5 al_w_.has0_b al_w_.has0_c al_w_.has1_b al_w_.has1_c) s2.2 :: Sl 3 ecI 1 sb sc t_.1 :: As) w) (fun hk => ?_) ?_
          · replace hm := es2; clear es2
            refine Runs.drawn mixed (by kernel_rfl) ?_
            replace H := H.drew
            replace H := thicketlaw11_world.open H
            try dsimp only at H
            obtain ⟨x1, ex1, hm⟩ := bind_some hm
            obtain ⟨b1, o1, hs1, hb1⟩ := SlRd.base (sl_rd 3 ecI 1 _ _ _) ecI_ok H 4 rfl ex1
            refine WQ.seg hE [0, 1, 2, 3, 4, 5, 6, 7] [.pointer (some ⟨al_w_.a__p, 0, none⟩), .pointer (some ⟨b1, o1, none⟩), .int .i64 x1] [0, 1, 5, 6, 37, 41] (Lo := [(0, .pointer (some ⟨p_w_, 0, none⟩)), (1, .int .i64 1), (5, .slice sb t_.1.length sc), (6, .int .i64 i), (37, .pointer (some ⟨al_w_.a__p, 0, none⟩)), (41, .int .i64 x1)]) (obs := [.cell ⟨p_w_, 0, none⟩ (.pointer (some ⟨al_w_.a__p, 0, none⟩)), .p ((sb : Option Addr) = some ⟨b1, o1, none⟩), .p (0 ≤ (i : Int) ∧ (i : Int) < ((t_.1.length : Nat) : Int)), .cell ⟨b1, o1 + (Int.toNat i) * 1, none⟩ (.int .i64 x1)]) (by kernel_rfl) (by kernel_rfl) ⟨H.cell 0 rfl rfl, hs1, hb1, SlRd.cells (sl_rd 3 ecI 1 _ _ _) ecI_ok H 4 rfl hs1 ex1 0 _ rfl, trivial⟩ fun a hE => ?_
            obtain ⟨t_3, et_3, hm⟩ := bind_some hm
            refine WQ.eff (j := 8) (obs := []) hE (by kernel_rfl) rfl rfl rfl rfl (by kernel_rfl) (OpTo.fn hE rfl rfl Tryz.call33 (item_Node_ok et_3 H.t1)) ?_
            rintro _ w ⟨rfl, H⟩
            refine ⟨trivial, fun a hE => ?_⟩
            refine WQ.seg hE [9, 10] [] [0, 1, 5, 6, 44] (Lo := [(0, .pointer (some ⟨p_w_, 0, none⟩)), (1, .int .i64 1), (5, .slice sb t_.1.length sc), (6, .int .i64 i), (44, .bool (t_3.1 != (-1)))]) (obs := []) (by kernel_rfl) (by kernel_rfl) trivial fun a hE => ?_
            rcases Bool.eq_false_or_eq_true (t_3.1 != (-1)) with c | c
            · replace hE := hE.dec 44 c (by kernel_rfl)
              replace hm := cond_t c hm
              have c_ := c
              refine WQ.seg hE [11, 12, 13, 14, 15, 16, 17, 18, 19, 20, 21] [] [0, 1, 5, 6, 55] (Lo := [(0, .pointer (some ⟨p_w_, 0, none⟩)), (1, .int .i64 1), (5, .slice sb t_.1.length sc), (6, .int .i64 i), (55, .bool true)]) (obs := []) (by kernel_rfl) (by kernel_rfl) trivial fun a hE => ?_
              refine WQ.done (by kernel_rfl) ?_
              replace H := thicketlaw11_world.shut (thicketlaw11_world.A.mk al_w_.a__p z4 al_w_.has0_b al_w_.has0_c al_w_.has1_b al_w_.has1_c) (thicketlaw11_world.mk t_3.2 m_.root0 m_.root1 m_.has0 m_.has1 m_.next m_.spent m_.most) H.t3.t3.t2.t3
              cases hm
              exact hk _ _ ⟨z4, hE.sel [0, 1, 5, 6, 55] (by kernel_rfl), H.t1.t1⟩
            · replace hE := hE.dec 44 c (by kernel_rfl)
              replace hm := cond_f c hm
              have c_1 := c
              obtain ⟨x2, ex2, hm⟩ := bind_some hm
              obtain ⟨b2, o2, hs2, hb2⟩ := SlRd.base (sl_rd 3 ecI 1 _ _ _) ecI_ok H 4 rfl ex2
              refine WQ.seg hE [11, 12, 13, 14, 15, 16, 17, 18] [.pointer (some ⟨al_w_.a__p, 0, none⟩), .pointer (some ⟨b2, o2, none⟩), .int .i64 x2] [0, 1, 5, 6, 44, 48, 52] (Lo := [(0, .pointer (some ⟨p_w_, 0, none⟩)), (1, .int .i64 1), (5, .slice sb t_.1.length sc), (6, .int .i64 i), (44, .bool false), (48, .pointer (some ⟨al_w_.a__p, 0, none⟩)), (52, .int .i64 x2)]) (obs := [.cell ⟨p_w_, 0, none⟩ (.pointer (some ⟨al_w_.a__p, 0, none⟩)), .p ((sb : Option Addr) = some ⟨b2, o2, none⟩), .p (0 ≤ (i : Int) ∧ (i : Int) < ((t_.1.length : Nat) : Int)), .cell ⟨b2, o2 + (Int.toNat i) * 1, none⟩ (.int .i64 x2)]) (by kernel_rfl) (by kernel_rfl) ⟨H.cell 1 rfl rfl, hs2, hb2, SlRd.cells (sl_rd 3 ecI 1 _ _ _) ecI_ok H 4 rfl hs2 ex2 0 _ rfl, trivial⟩ fun a hE => ?_
              obtain ⟨t_4, et_4, hm⟩ := bind_some hm
              refine WQ.eff (j := 19) (obs := []) hE (by kernel_rfl) rfl rfl rfl rfl (by kernel_rfl) (OpTo.fn hE rfl rfl Tryz.call21 (arena_Arena_Give_ok et_4 H)) ?_
              rintro _ w ⟨z6, z7, rfl, H⟩
              refine ⟨trivial, fun a hE => ?_⟩
              refine WQ.seg hE [20, 21] [] [0, 1, 5, 6, 55] (Lo := [(0, .pointer (some ⟨p_w_, 0, none⟩)), (1, .int .i64 1), (5, .slice sb t_.1.length sc), (6, .int .i64 i), (55, .bool (!t_4.1))]) (obs := []) (by kernel_rfl) (by kernel_rfl) trivial fun a hE => ?_
              refine WQ.done (by kernel_rfl) ?_
              replace H := thicketlaw11_world.shut (thicketlaw11_world.A.mk al_w_.a__p (arena_Arena.A.mk z4.l_b z4.l_c z6 z7 z4.m__p) al_w_.has0_b al_w_.has0_c al_w_.has1_b al_w_.has1_c) (thicketlaw11_world.mk t_4.2 m_.root0 m_.root1 m_.has0 m_.has1 m_.next m_.spent m_.most) H.t3.t3.t2.t3
              cases hm
              exact hk _ _ ⟨arena_Arena.A.mk z4.l_b z4.l_c z6 z7 z4.m__p, hE.sel [0, 1, 5, 6, 55] (by kernel_rfl), H.t1.t1⟩
          rintro a w ⟨z5, hE, H⟩
          refine Runs.cond hE rfl (fun c => ?_) (fun c => ?_)
          · replace hm := cond_t c hm
            refine Runs.seq ?_
            refine Runs.region ?_
            refine WR.seg hE 1 [] [4] (Lo := [(4, .bool false)]) (obs := []) rfl (by kernel_rfl) trivial fun a hE => ?_
            refine WR.done rfl ?_
            refine Runs.ret hE Tryz.func11 rfl rfl ?_
            cases hm
            dsimp only at hR; cases hR
            exact ⟨z5, al_w_.has1_b, al_w_.has1_c, rfl, H.x1⟩
          · replace hm := cond_f c hm
            refine Runs.skip ?_
            refine Runs.inBlock ?_
            refine Runs.region ?_
            refine WR.seg hE 3 [] [0, 1, 5, 6] (Lo := [(0, .pointer (some ⟨p_w_, 0, none⟩)), (1, .int .i64 1), (5, .slice sb t_.1.length sc), (6, .int .i64 (w64 (i + 1)))]) (obs := []) rfl (by kernel_rfl) trivial fun a hE => ?_
            refine WR.done rfl ?_
            exact ih m (Nat.lt_succ_self m) _ _ ⟨w64 (i + 1), s2.2, z5, hE.sel [0, 1, 5, 6] (by kernel_rfl), H.t1.t1, hm⟩
        · replace hm := cond_f c hm
          refine Runs.exit rfl ?_
          cases hm
          exact hk _ _ ⟨_, rfl, z4, hE.sel [0, 1] (by kernel_rfl), H.x1⟩
    rintro a w ⟨s1, rfl, z3, hE, H⟩
    replace hm := hR; dsimp only at hm
    refine Runs.seq ?_
    refine Runs.drawn mixed (by kernel_rfl) ?_
    replace H := H.drew
    refine WQ.seg hE [0, 1, 2, 3, 4, 5, 6, 8, 9] [] [59, 62, 64] (Lo := [(59, .int .i64 1), (62, .pointer (some ⟨p_w_, 2, none⟩)), (64, .pointer (some ⟨p_w_, 3, none⟩))]) (obs := [.p (0 ≤ (1 : Int) ∧ (1 : Int) < ((2 : Nat) : Int))]) (by kernel_rfl) (by kernel_rfl) ⟨⟨by decide, by decide⟩, trivial⟩ fun a hE => ?_
    replace H := thicketlaw11_world.open H
    try dsimp only at H
    refine WQ.eff0 (j := 7) (obs := []) hE (by kernel_rfl) rfl rfl rfl (by kernel_rfl) (OpTo.store hE H rfl rfl rfl rfl rfl rfl (Nat.le_of_ble_eq_true rfl)) ?_
    rintro _ w H
    refine ⟨trivial, fun a hE => ?_⟩
    refine WQ.seg hE [10] [] [65] (Lo := [(65, .pointer (some ⟨p_w_, 4, none⟩))]) (obs := [.p (0 ≤ (1 : Int) ∧ (1 : Int) < ((2 : Nat) : Int))]) (by kernel_rfl) (by kernel_rfl) ⟨⟨by decide, by decide⟩, trivial⟩ fun a hE => ?_
    refine WQ.eff0 (j := 11) (obs := []) hE (by kernel_rfl) rfl rfl rfl (by kernel_rfl) (OpTo.store hE H rfl rfl rfl rfl rfl rfl (Nat.le_of_ble_eq_true rfl)) ?_
    rintro _ w H
    refine ⟨trivial, fun a hE => ?_⟩
    refine WQ.done (by kernel_rfl) ?_
    refine Runs.seq ?_
    refine Runs.region ?_
    refine WR.seg hE 1 [] [4] (Lo := [(4, .bool true)]) (obs := []) rfl (by kernel_rfl) trivial fun a hE => ?_
    refine WR.done rfl ?_
    replace H := H.slNil 48 thicketlaw11_held.enc 3
    replace H := thicketlaw11_world.shut (thicketlaw11_world.A.mk al_w_.a__p z3 al_w_.has0_b al_w_.has0_c none 0) (thicketlaw11_world.mk s1.a_ s1.root0 (-1) s1.has0 ([] : List thicketlaw11_held) s1.next s1.spent s1.most) H.t3.t3.t3
    refine Runs.ret hE Tryz.func11 rfl rfl ?_
    cases hm
    exact ⟨z3, none, 0, rfl, H.x1⟩

theorem thicketlaw11_world_drop_ok {w0 w : World} {As : List HP} {k : Nat} {p_w_ : Nat} {al_w_ : thicketlaw11_world.A} {w_ : thicketlaw11_world} {h_ : Int} {t : Bool × thicketlaw11_world}  (hm : thicketlaw11_world_drop k w_ h_ = some t) (H : St w0 (thicketlaw11_world.R p_w_ al_w_ w_ :: As) w) :
    CallsR Tryz.prog 11 #[.pointer (some ⟨p_w_, 0, none⟩), .int .i64 h_] w fun v w' => ∃ (z_w__a__a : arena_Arena.A), ∃ (z_w__has0_b : Option Addr), ∃ (z_w__has0_c : Nat), ∃ (z_w__has1_b : Option Addr), ∃ (z_w__has1_c : Nat), v = .bool t.1 ∧ St w0 (thicketlaw11_world.R p_w_ (thicketlaw11_world.A.mk al_w_.a__p z_w__a__a z_w__has0_b z_w__has0_c z_w__has1_b z_w__has1_c) t.2 :: As) w' := by
  rw [thicketlaw11_world_drop] at hm
  by_cases h0 : h_ = 0
  · subst h0; simp only [if_pos] at hm
    refine (thicketlaw11_world_drop_at0_ok hm H).mono ?_
    rintro v w' ⟨y_0, y_1, y_2, hv, H⟩; exact ⟨y_0, y_1, y_2, al_w_.has1_b, al_w_.has1_c, hv, H⟩
  rw [if_neg h0] at hm
  by_cases h1 : h_ = 1
  · subst h1; simp only [if_pos] at hm
    refine (thicketlaw11_world_drop_at1_ok hm H).mono ?_
    rintro v w' ⟨y_0, y_1, y_2, hv, H⟩; exact ⟨y_0, al_w_.has0_b, al_w_.has0_c, y_1, y_2, hv, H⟩
  rw [if_neg h1] at hm
  cases hm

theorem thicketlaw11_known_ok {w0 w : World} {As : List HP} {k : Nat}  {t : Bool}  (hm : thicketlaw11_known k = some t) (H : St w0 (As) w) :
    CallsR Tryz.prog 13 #[] w fun v w' => v = .bool t ∧ St w0 (As) w' := by
  rw [thicketlaw11_known] at hm
  refine enter (args := []) Tryz.func13 rfl rfl rfl fun a hE => ?_
  refine Runs.seq ?_
  refine Runs.region ?_
  refine WR.seg hE 1 [] [] (Lo := []) (obs := []) rfl (by kernel_rfl) trivial fun a hE => ?_
  refine WR.done rfl ?_
  refine Runs.seq ?_
  refine Runs.region ?_
  obtain ⟨t_, et_, hm⟩ := bind_some hm
  refine WR.eff hE rfl rfl rfl rfl (OpTo.fn hE rfl rfl Tryz.call4 (thicketlaw11_fresh_ok et_ H)) ?_
  rintro _ w ⟨p, al, rfl, H⟩ a hE
  refine WR.seg hE 2 [] [1] (Lo := [(1, .pointer (some ⟨p, 0, none⟩))]) (obs := []) rfl (by kernel_rfl) trivial fun a hE => ?_
  refine WR.done rfl ?_
  refine Runs.seq ?_
  refine Runs.seq ?_
  obtain ⟨s, es, hm⟩ := bind_some hm
  refine Runs.join (fun a w => ∃ (z : arena_Arena.A), ∃ (z1 : Option Addr), ∃ (z2 : Nat), ∃ (z3 : Option Addr), ∃ (z4 : Nat), EnvOk 69 a [(1, .pointer (some ⟨p, 0, none⟩)), (24, .bool s.1)] ∧ St w0 (thicketlaw11_world.R p (thicketlaw11_world.A.mk al.a__p z z1 z2 z3 z4) s.2 :: As) w) (fun hk => ?_) ?_
  · replace hm := es; clear es
    refine Runs.region ?_
    refine WR.seg hE 4 [] [1, 5, 6] (Lo := [(1, .pointer (some ⟨p, 0, none⟩)), (5, .bool false), (6, .pointer (some ⟨p, 0, none⟩))]) (obs := []) rfl (by kernel_rfl) trivial fun a hE => ?_
    obtain ⟨t_1, et_1, hm⟩ := bind_some hm
    refine WR.eff hE rfl rfl rfl rfl (OpTo.fn hE rfl rfl Tryz.call5 (thicketlaw11_world_push_ok et_1 H)) ?_
    rintro _ w ⟨z5, z6, z7, z8, z9, rfl, H⟩ a hE
    refine WR.seg hE 8 [] [1, 10] (Lo := [(1, .pointer (some ⟨p, 0, none⟩)), (10, .bool (!t_1.1))]) (obs := []) rfl (by kernel_rfl) trivial fun a hE => ?_
    rcases Bool.eq_false_or_eq_true (!t_1.1) with c | c
    · replace hE := hE.dec 10 c (by kernel_rfl)
      replace hm := cond_t c hm
      have c_ := c
      refine WR.seg hE 22 [] [1, 24] (Lo := [(1, .pointer (some ⟨p, 0, none⟩)), (24, .bool true)]) (obs := []) rfl (by kernel_rfl) trivial fun a hE => ?_
      refine WR.done rfl ?_
      cases hm
      exact hk _ _ ⟨z5, z6, z7, z8, z9, hE.sel [1, 24] (by kernel_rfl), H⟩
    · replace hE := hE.dec 10 c (by kernel_rfl)
      replace hm := cond_f c hm
      have c_1 := c
      refine WR.seg hE 9 [] [1, 10, 11] (Lo := [(1, .pointer (some ⟨p, 0, none⟩)), (10, .bool false), (11, .pointer (some ⟨p, 0, none⟩))]) (obs := []) rfl (by kernel_rfl) trivial fun a hE => ?_
      obtain ⟨t_2, et_2, hm⟩ := bind_some hm
      refine WR.eff hE rfl rfl rfl rfl (OpTo.fn hE rfl rfl Tryz.call5 (thicketlaw11_world_push_ok et_2 H)) ?_
      rintro _ w ⟨z10, z11, z12, z13, z14, rfl, H⟩ a hE
      refine WR.seg hE 13 [] [1, 15] (Lo := [(1, .pointer (some ⟨p, 0, none⟩)), (15, .bool (!t_2.1))]) (obs := []) rfl (by kernel_rfl) trivial fun a hE => ?_
      rcases Bool.eq_false_or_eq_true (!t_2.1) with c | c
      · replace hE := hE.dec 15 c (by kernel_rfl)
        replace hm := cond_t c hm
        have c_2 := c
        refine WR.seg hE 22 [] [1, 24] (Lo := [(1, .pointer (some ⟨p, 0, none⟩)), (24, .bool true)]) (obs := []) rfl (by kernel_rfl) trivial fun a hE => ?_
        refine WR.done rfl ?_
        cases hm
        exact hk _ _ ⟨z10, z11, z12, z13, z14, hE.sel [1, 24] (by kernel_rfl), H⟩
      · replace hE := hE.dec 15 c (by kernel_rfl)
        replace hm := cond_f c hm
        have c_3 := c
        refine WR.seg hE 14 [] [1, 15, 16] (Lo := [(1, .pointer (some ⟨p, 0, none⟩)), (15, .bool false), (16, .pointer (some ⟨p, 0, none⟩))]) (obs := []) rfl (by kernel_rfl) trivial fun a hE => ?_
        obtain ⟨t_3, et_3, hm⟩ := bind_some hm
        refine WR.eff hE rfl rfl rfl rfl (OpTo.fn hE rfl rfl Tryz.call5 (thicketlaw11_world_push_ok et_3 H)) ?_
        rintro _ w ⟨z15, z16, z17, z18, z19, rfl, H⟩ a hE
        refine WR.seg hE 18 [] [1, 20] (Lo := [(1, .pointer (some ⟨p, 0, none⟩)), (20, .bool (!t_3.1))]) (obs := []) rfl (by kernel_rfl) trivial fun a hE => ?_
        rcases Bool.eq_false_or_eq_true (!t_3.1) with c | c
        · replace hE := hE.dec 20 c (by kernel_rfl)
          replace hm := cond_t c hm
          have c_4 := c
          refine WR.seg hE 22 [] [1, 24] (Lo := [(1, .pointer (some ⟨p, 0, none⟩)), (24, .bool true)]) (obs := []) rfl (by kernel_rfl) trivial fun a hE => ?_
          refine WR.done rfl ?_
          cases hm
          exact hk _ _ ⟨z15, z16, z17, z18, z19, hE.sel [1, 24] (by kernel_rfl), H⟩
        · replace hE := hE.dec 20 c (by kernel_rfl)
          replace hm := cond_f c hm
          have c_5 := c
          refine WR.seg hE 19 [] [1, 20, 21] (Lo := [(1, .pointer (some ⟨p, 0, none⟩)), (20, .bool false), (21, .pointer (some ⟨p, 0, none⟩))]) (obs := []) rfl (by kernel_rfl) trivial fun a hE => ?_
          obtain ⟨t_4, et_4, hm⟩ := bind_some hm
          refine WR.eff hE rfl rfl rfl rfl (OpTo.fn hE rfl rfl Tryz.call6 (thicketlaw11_world_right_ok et_4 H)) ?_
          rintro _ w ⟨rfl, H⟩ a hE
          refine WR.seg hE 22 [] [1, 24] (Lo := [(1, .pointer (some ⟨p, 0, none⟩)), (24, .bool (!t_4.1))]) (obs := []) rfl (by kernel_rfl) trivial fun a hE => ?_
          refine WR.done rfl ?_
          cases hm
          exact hk _ _ ⟨z15, z16, z17, z18, z19, hE.sel [1, 24] (by kernel_rfl), H⟩
  rintro a w ⟨z, z1, z2, z3, z4, hE, H⟩
  refine Runs.cond hE rfl (fun c => ?_) (fun c => ?_)
  · replace hm := cond_t c hm
    refine Runs.seq ?_
    refine Runs.region ?_
    refine WR.seg hE 1 [] [0] (Lo := [(0, .bool false)]) (obs := []) rfl (by kernel_rfl) trivial fun a hE => ?_
    refine WR.done rfl ?_
    refine Runs.ret hE Tryz.func13 rfl rfl ?_
    cases hm
    exact ⟨rfl, H.x0⟩
  · replace hm := cond_f c hm
    refine Runs.skip ?_
    refine Runs.seq ?_
    obtain ⟨s1, es1, hm⟩ := bind_some hm
    refine Runs.join (fun a w => ∃ (z20 : arena_Arena.A), ∃ (z21 : Option Addr), ∃ (z22 : Nat), ∃ (z23 : Option Addr), ∃ (z24 : Nat), EnvOk 69 a [(0, .bool s1.1)] ∧ St w0 (thicketlaw11_world.R p (thicketlaw11_world.A.mk al.a__p z20 z21 z22 z23 z24) s1.2 :: As) w) (fun hk => ?_) ?_
    · replace hm := es1; clear es1
      refine Runs.region ?_
      replace H := thicketlaw11_world.open H
      try dsimp only at H
      refine WR.seg hE 8 [.slice z1 s.2.has0.length z2] [1, 32] (Lo := [(1, .pointer (some ⟨p, 0, none⟩)), (32, .bool ((s.2.has0.length : Int) == 3))]) (obs := [.p (0 ≤ (0 : Int) ∧ (0 : Int) < ((2 : Nat) : Int)), .cell ⟨p, 3, none⟩ (.slice z1 s.2.has0.length z2)]) rfl (by kernel_rfl) ⟨⟨by decide, by decide⟩, H.cell 0 rfl rfl, trivial⟩ fun a hE => ?_
      rcases Bool.eq_false_or_eq_true ((s.2.has0.length : Int) == 3) with c | c
      · replace hE := hE.dec 32 c (by kernel_rfl)
        replace hm := cond_t c hm
        have c_6 := c
        refine WR.seg hE 9 [] [1, 32, 33] (Lo := [(1, .pointer (some ⟨p, 0, none⟩)), (32, .bool true), (33, .pointer (some ⟨p, 0, none⟩))]) (obs := []) rfl (by kernel_rfl) trivial fun a hE => ?_
        replace H := thicketlaw11_world.shut (thicketlaw11_world.A.mk al.a__p z z1 z2 z3 z4) (s.2) H.t3.t3.t3.t3
        obtain ⟨t_5, et_5, hm⟩ := bind_some hm
        refine WR.eff hE rfl rfl rfl rfl (OpTo.fn hE rfl rfl Tryz.call10 (thicketlaw11_world_pop_ok et_5 H)) ?_
        rintro _ w ⟨z25, z26, z27, z28, z29, rfl, H⟩ a hE
        refine WR.seg hE 12 [] [1, 36] (Lo := [(1, .pointer (some ⟨p, 0, none⟩)), (36, .bool t_5.1)]) (obs := []) rfl (by kernel_rfl) trivial fun a hE => ?_
        rcases Bool.eq_false_or_eq_true t_5.1 with c | c
        · replace hE := hE.dec 36 c (by kernel_rfl)
          replace hm := cond_t c hm
          have c_7 := c
          refine WR.seg hE 13 [] [1, 36, 37] (Lo := [(1, .pointer (some ⟨p, 0, none⟩)), (36, .bool true), (37, .pointer (some ⟨p, 0, none⟩))]) (obs := []) rfl (by kernel_rfl) trivial fun a hE => ?_
          obtain ⟨t_6, et_6, hm⟩ := bind_some hm
          refine WR.eff hE rfl rfl rfl rfl (OpTo.fn hE rfl rfl Tryz.call10 (thicketlaw11_world_pop_ok et_6 H)) ?_
          rintro _ w ⟨z30, z31, z32, z33, z34, rfl, H⟩ a hE
          refine WR.seg hE 16 [] [1, 40] (Lo := [(1, .pointer (some ⟨p, 0, none⟩)), (40, .bool t_6.1)]) (obs := []) rfl (by kernel_rfl) trivial fun a hE => ?_
          rcases Bool.eq_false_or_eq_true t_6.1 with c | c
          · replace hE := hE.dec 40 c (by kernel_rfl)
            replace hm := cond_t c hm
            have c_8 := c
            replace H := thicketlaw11_world.open H
            try dsimp only at H
            refine WR.seg hE 25 [.slice z31 t_6.2.has0.length z32] [1, 49] (Lo := [(1, .pointer (some ⟨p, 0, none⟩)), (49, .bool ((t_6.2.has0.length : Int) == 1))]) (obs := [.p (0 ≤ (0 : Int) ∧ (0 : Int) < ((2 : Nat) : Int)), .cell ⟨p, 3, none⟩ (.slice z31 t_6.2.has0.length z32)]) rfl (by kernel_rfl) ⟨⟨by decide, by decide⟩, H.cell 0 rfl rfl, trivial⟩ fun a hE => ?_
            rcases Bool.eq_false_or_eq_true ((t_6.2.has0.length : Int) == 1) with c | c
            · replace hE := hE.dec 49 c (by kernel_rfl)
              replace hm := cond_t c hm
              have c_9 := c
              obtain ⟨x, ex, hm⟩ := bind_some hm
              obtain ⟨b, o, hs, hb⟩ := SlRd.base (sl_rd 48 thicketlaw11_held.enc 3 _ _ _) thicketlaw11_held.enc_ok H 2 rfl ex
              refine WR.seg hE 37 [.slice z31 t_6.2.has0.length z32, .pointer (some ⟨b, o, none⟩), .int .i64 x.e.Key] [1, 61] (Lo := [(1, .pointer (some ⟨p, 0, none⟩)), (61, .bool (x.e.Key == 3))]) (obs := [.p (0 ≤ (0 : Int) ∧ (0 : Int) < ((2 : Nat) : Int)), .cell ⟨p, 3, none⟩ (.slice z31 t_6.2.has0.length z32), .p ((z31 : Option Addr) = some ⟨b, o, none⟩), .p (0 ≤ (0 : Int) ∧ (0 : Int) < ((t_6.2.has0.length : Nat) : Int)), .cell ⟨b, o + (Int.toNat 0) * 3 + 1, none⟩ (.int .i64 x.e.Key)]) rfl (by kernel_rfl) ⟨⟨by decide, by decide⟩, H.cell 0 rfl rfl, hs, hb, SlRd.cells (sl_rd 48 thicketlaw11_held.enc 3 _ _ _) thicketlaw11_held.enc_ok H 2 rfl hs ex 1 _ rfl, trivial⟩ fun a hE => ?_
              rcases Bool.eq_false_or_eq_true (x.e.Key == 3) with c | c
              · replace hE := hE.dec 61 c (by kernel_rfl)
                replace hm := cond_t c hm
                have c_10 := c
                refine WR.seg hE 38 [] [1, 61, 62] (Lo := [(1, .pointer (some ⟨p, 0, none⟩)), (61, .bool true), (62, .pointer (some ⟨p, 0, none⟩))]) (obs := []) rfl (by kernel_rfl) trivial fun a hE => ?_
                replace H := thicketlaw11_world.shut (thicketlaw11_world.A.mk al.a__p z30 z31 z32 z33 z34) (t_6.2) H.t3.t3.t3.t3
                obtain ⟨t_7, et_7, hm⟩ := bind_some hm
                refine WR.eff hE rfl rfl rfl rfl (OpTo.fn hE rfl rfl Tryz.call10 (thicketlaw11_world_pop_ok et_7 H)) ?_
                rintro _ w ⟨z35, z36, z37, z38, z39, rfl, H⟩ a hE
                refine WR.seg hE 41 [] [1, 65] (Lo := [(1, .pointer (some ⟨p, 0, none⟩)), (65, .bool t_7.1)]) (obs := []) rfl (by kernel_rfl) trivial fun a hE => ?_
                rcases Bool.eq_false_or_eq_true t_7.1 with c | c
                · replace hE := hE.dec 65 c (by kernel_rfl)
                  replace hm := cond_t c hm
                  have c_11 := c
                  refine WR.seg hE 42 [] [65, 66] (Lo := [(65, .bool true), (66, .pointer (some ⟨p, 0, none⟩))]) (obs := []) rfl (by kernel_rfl) trivial fun a hE => ?_
                  obtain ⟨t_8, et_8, hm⟩ := bind_some hm
                  refine WR.eff hE rfl rfl rfl rfl (OpTo.fn hE rfl rfl Tryz.call10 (thicketlaw11_world_pop_ok et_8 H)) ?_
                  rintro _ w ⟨z40, z41, z42, z43, z44, rfl, H⟩ a hE
                  refine WR.seg hE 45 [] [0] (Lo := [(0, .bool t_8.1)]) (obs := []) rfl (by kernel_rfl) trivial fun a hE => ?_
                  refine WR.done rfl ?_
                  cases hm
                  exact hk _ _ ⟨z40, z41, z42, z43, z44, hE.sel [0] (by kernel_rfl), H⟩
                · replace hE := hE.dec 65 c (by kernel_rfl)
                  replace hm := cond_f c hm
                  have c_12 := c
                  refine WR.seg hE 45 [] [0] (Lo := [(0, .bool false)]) (obs := []) rfl (by kernel_rfl) trivial fun a hE => ?_
                  refine WR.done rfl ?_
                  cases hm
                  exact hk _ _ ⟨z35, z36, z37, z38, z39, hE.sel [0] (by kernel_rfl), H⟩
              · replace hE := hE.dec 61 c (by kernel_rfl)
                replace hm := cond_f c hm
                have c_13 := c
                refine WR.seg hE 45 [] [0] (Lo := [(0, .bool false)]) (obs := []) rfl (by kernel_rfl) trivial fun a hE => ?_
                refine WR.done rfl ?_
                replace H := thicketlaw11_world.shut (thicketlaw11_world.A.mk al.a__p z30 z31 z32 z33 z34) (t_6.2) H.t3.t3.t3.t3
                cases hm
                exact hk _ _ ⟨z30, z31, z32, z33, z34, hE.sel [0] (by kernel_rfl), H⟩
            · replace hE := hE.dec 49 c (by kernel_rfl)
              replace hm := cond_f c hm
              have c_14 := c
              refine WR.seg hE 45 [] [0] (Lo := [(0, .bool false)]) (obs := []) rfl (by kernel_rfl) trivial fun a hE => ?_
              refine WR.done rfl ?_
              replace H := thicketlaw11_world.shut (thicketlaw11_world.A.mk al.a__p z30 z31 z32 z33 z34) (t_6.2) H.t3.t3.t3.t3
              cases hm
              exact hk _ _ ⟨z30, z31, z32, z33, z34, hE.sel [0] (by kernel_rfl), H⟩
          · replace hE := hE.dec 40 c (by kernel_rfl)
            replace hm := cond_f c hm
            have c_15 := c
            refine WR.seg hE 45 [] [0] (Lo := [(0, .bool false)]) (obs := []) rfl (by kernel_rfl) trivial fun a hE => ?_
            refine WR.done rfl ?_
            cases hm
            exact hk _ _ ⟨z30, z31, z32, z33, z34, hE.sel [0] (by kernel_rfl), H⟩
        · replace hE := hE.dec 36 c (by kernel_rfl)
          replace hm := cond_f c hm
          have c_16 := c
          refine WR.seg hE 45 [] [0] (Lo := [(0, .bool false)]) (obs := []) rfl (by kernel_rfl) trivial fun a hE => ?_
          refine WR.done rfl ?_
          cases hm
          exact hk _ _ ⟨z25, z26, z27, z28, z29, hE.sel [0] (by kernel_rfl), H⟩
      · replace hE := hE.dec 32 c (by kernel_rfl)
        replace hm := cond_f c hm
        have c_17 := c
        refine WR.seg hE 45 [] [0] (Lo := [(0, .bool false)]) (obs := []) rfl (by kernel_rfl) trivial fun a hE => ?_
        refine WR.done rfl ?_
        replace H := thicketlaw11_world.shut (thicketlaw11_world.A.mk al.a__p z z1 z2 z3 z4) (s.2) H.t3.t3.t3.t3
        cases hm
        exact hk _ _ ⟨z, z1, z2, z3, z4, hE.sel [0] (by kernel_rfl), H⟩
    rintro a w ⟨z20, z21, z22, z23, z24, hE, H⟩
    refine Runs.ret hE Tryz.func13 rfl rfl ?_
    cases hm
    exact ⟨rfl, H.x0⟩

theorem thicketlaw11_SkewNumbers_ok {w0 w : World} {As : List HP} {k : Nat}  {t : Bool}  (hm : thicketlaw11_SkewNumbers k = some t) (H : St w0 (As) w) :
    CallsR Tryz.prog 3 #[] w fun v w' => v = .bool t ∧ St w0 (As) w' := by
  rw [thicketlaw11_SkewNumbers] at hm
  refine enter (args := []) Tryz.func3 rfl rfl rfl fun a hE => ?_
  refine Runs.seq ?_
  refine Runs.region ?_
  refine WR.seg hE 1 [] [] (Lo := []) (obs := []) rfl (by kernel_rfl) trivial fun a hE => ?_
  refine WR.done rfl ?_
  refine Runs.seq ?_
  refine Runs.seq ?_
  refine Runs.region ?_
  refine WR.seg hE 1 [] [1] (Lo := [(1, .int .i64 0)]) (obs := []) rfl (by kernel_rfl) trivial fun a hE => ?_
  refine WR.done rfl ?_
  obtain ⟨s, es, hR⟩ := bind_some hm
  refine Runs.join (fun a w => ∃ s1, s = Sum.inr s1 ∧ EnvOk 116 a [] ∧ St w0 (As) w) (fun hk => ?_) ?_
  · replace hm := es; clear es
    refine Runs.block ?_
    refine Runs.loop (fun m a w => ∃ (how : Int), EnvOk 116 a [(1, .int .i64 how)] ∧ St w0 (As) w ∧ thicketlaw11_SkewNumbers_l0 m how = some s) k ⟨0, hE.sel [1] (by kernel_rfl), H, hm⟩ ?_
    rintro m ih a w ⟨how, hE, H, hm⟩
    cases m with
    | zero => simp [thicketlaw11_SkewNumbers_l0] at hm
    | succ m =>
      rw [thicketlaw11_SkewNumbers_l0] at hm
      refine Runs.seq ?_
      refine Runs.seq ?_
      refine Runs.region ?_
      refine WR.seg hE 2 [] [1, 6] (Lo := [(1, .int .i64 how), (6, .bool (decide (how < 4)))]) (obs := []) rfl (by kernel_rfl) trivial fun a hE => ?_
      refine WR.done rfl ?_
      refine Runs.cond hE rfl (fun c => ?_) (fun c => ?_)
      · replace hm := cond_t c hm
        refine Runs.skip ?_
        refine Runs.seq ?_
        refine Runs.block ?_
        refine Runs.seq ?_
        refine Runs.region ?_
        obtain ⟨t_, et_, hm⟩ := bind_some hm
        refine WR.eff hE rfl rfl rfl rfl (OpTo.fn hE rfl rfl Tryz.call4 (thicketlaw11_fresh_ok et_ H)) ?_
        rintro _ w ⟨p, al, rfl, H⟩ a hE
        refine WR.seg hE 2 [] [1, 2] (Lo := [(1, .int .i64 how), (2, .pointer (some ⟨p, 0, none⟩))]) (obs := []) rfl (by kernel_rfl) trivial fun a hE => ?_
        refine WR.done rfl ?_
        refine Runs.seq ?_
        refine Runs.seq ?_
        refine Runs.region ?_
        refine WR.seg hE 2 [] [1, 2, 11] (Lo := [(1, .int .i64 how), (2, .pointer (some ⟨p, 0, none⟩)), (11, .bool false)]) (obs := []) rfl (by kernel_rfl) trivial fun a hE => ?_
        refine WR.done rfl ?_
        refine Runs.condF hE rfl ?_
        refine Runs.skip ?_
        refine Runs.seq ?_
        refine Runs.seq ?_
        refine Runs.region ?_
        refine WR.seg hE 1 [] [1, 2, 3] (Lo := [(1, .int .i64 how), (2, .pointer (some ⟨p, 0, none⟩)), (3, .int .i64 0)]) (obs := []) rfl (by kernel_rfl) trivial fun a hE => ?_
        refine WR.done rfl ?_
        obtain ⟨s2, es2, hR1⟩ := bind_some hm
        refine Runs.join (fun a w => ∃ s3, s2 = Sum.inr s3 ∧ ∃ (z5 : arena_Arena.A), ∃ (z6 : Option Addr), ∃ (z7 : Nat), ∃ (z8 : Option Addr), ∃ (z9 : Nat), EnvOk 116 a [(1, .int .i64 how), (2, .pointer (some ⟨p, 0, none⟩))] ∧ St w0 (thicketlaw11_world.R p (thicketlaw11_world.A.mk al.a__p z5 z6 z7 z8 z9) s3 :: As) w) (fun hk => ?_) ?_
        · replace hm := es2; clear es2
          refine Runs.block ?_
          refine Runs.loop (fun m a w => ∃ (i : Int), ∃ (m_ : thicketlaw11_world), ∃ (z10 : arena_Arena.A), ∃ (z11 : Option Addr), ∃ (z12 : Nat), ∃ (z13 : Option Addr), ∃ (z14 : Nat), EnvOk 116 a [(1, .int .i64 how), (2, .pointer (some ⟨p, 0, none⟩)), (3, .int .i64 i)] ∧ St w0 (thicketlaw11_world.R p (thicketlaw11_world.A.mk al.a__p z10 z11 z12 z13 z14) m_ :: As) w ∧ thicketlaw11_SkewNumbers_l1 how m i m_ = some s2) m ⟨0, t_, al.a__a, al.has0_b, al.has0_c, al.has1_b, al.has1_c, hE.sel [1, 2, 3] (by kernel_rfl), H, hm⟩ ?_
          rintro m ih a w ⟨i, m_, z10, z11, z12, z13, z14, hE, H, hm⟩
          cases m with
          | zero => simp [thicketlaw11_SkewNumbers_l1] at hm
          | succ m =>
            rw [thicketlaw11_SkewNumbers_l1] at hm
            refine Runs.seq ?_
            refine Runs.seq ?_
            refine Runs.region ?_
            refine WR.seg hE 2 [] [1, 2, 3, 13] (Lo := [(1, .int .i64 how), (2, .pointer (some ⟨p, 0, none⟩)), (3, .int .i64 i), (13, .bool (decide (i < 40)))]) (obs := []) rfl (by kernel_rfl) trivial fun a hE => ?_
            refine WR.done rfl ?_
            refine Runs.cond hE rfl (fun c => ?_) (fun c => ?_)
            · replace hm := cond_t c hm
              refine Runs.skip ?_
              refine Runs.seq ?_
              refine Runs.block ?_
              refine Runs.seq ?_
              obtain ⟨s4, es4, hm⟩ := bind_some hm
              refine Runs.join (fun a w => ∃ (z15 : arena_Arena.A), ∃ (z16 : Option Addr), ∃ (z17 : Nat), ∃ (z18 : Option Addr), ∃ (z19 : Nat), EnvOk 116 a [(1, .int .i64 how), (2, .pointer (some ⟨p, 0, none⟩)), (3, .int .i64 i), (35, .bool s4.1)] ∧ St w0 (thicketlaw11_world.R p (thicketlaw11_world.A.mk al.a__p z15 z16 z17 z18 z19) s4.2 :: As) w) (fun hk => ?_) ?_
              · replace hm := es4; clear es4
                refine Runs.region ?_
                refine WR.seg hE 9 [] [1, 2, 3, 16, 18, 19, 21, 24] (Lo := [(1, .int .i64 how), (2, .pointer (some ⟨p, 0, none⟩)), (3, .int .i64 i), (16, .pointer (some ⟨p, 0, none⟩)), (18, .int .i64 (Int.tmod i 2)), (19, .int .i64 i), (21, .int .i64 (w64 (0 - i))), (24, .int .i64 (Int.tmod (w64 (i * 17)) 40))]) (obs := [.p ((2 : Int) ≠ 0), .p ((40 : Int) ≠ 0)]) rfl (by kernel_rfl) ⟨(by show _ ≠ _; decide), (by show _ ≠ _; decide), trivial⟩ fun a hE => ?_
                refine WR.eff hE rfl rfl rfl rfl (OpTo.buildSl (T := 2) hE H ecI_ok ([i, w64 (0 - i), 5, Int.tmod (w64 (i * 17)) 40] : List Int) rfl (fun _ => by kernel_rfl) rfl rfl rfl) ?_
                rintro _ w ⟨r, rfl, H⟩ a hE
                obtain ⟨x, ex, hm⟩ := bind_some hm
                obtain ⟨b, o, hs, hb⟩ := SlRd.base (sl_rd 2 ecI 1 _ _ _) ecI_ok H 0 rfl ex
                refine WR.seg hE 13 [.pointer (some ⟨b, o, none⟩), .int .i64 x] [1, 2, 3, 16, 18, 28] (Lo := [(1, .int .i64 how), (2, .pointer (some ⟨p, 0, none⟩)), (3, .int .i64 i), (16, .pointer (some ⟨p, 0, none⟩)), (18, .int .i64 (Int.tmod i 2)), (28, .int .i64 x)]) (obs := [.p (((some ⟨r, 0, none⟩) : Option Addr) = some ⟨b, o, none⟩), .p (0 ≤ (how : Int) ∧ (how : Int) < ((([i, w64 (0 - i), 5, Int.tmod (w64 (i * 17)) 40] : List Int).length : Nat) : Int)), .cell ⟨b, o + (Int.toNat how) * 1, none⟩ (.int .i64 x)]) rfl (by kernel_rfl) ⟨hs, hb, SlRd.cells (sl_rd 2 ecI 1 _ _ _) ecI_ok H 0 rfl hs ex 0 _ rfl, trivial⟩ fun a hE => ?_
                obtain ⟨t_1, et_1, hm⟩ := bind_some hm
                refine WR.eff hE rfl rfl rfl rfl (OpTo.fn hE rfl rfl Tryz.call5 (thicketlaw11_world_push_ok et_1 H.t1)) ?_
                rintro _ w ⟨z20, z21, z22, z23, z24, rfl, H⟩ a hE
                refine WR.seg hE 16 [] [1, 2, 3, 31] (Lo := [(1, .int .i64 how), (2, .pointer (some ⟨p, 0, none⟩)), (3, .int .i64 i), (31, .bool (!t_1.1))]) (obs := []) rfl (by kernel_rfl) trivial fun a hE => ?_
                rcases Bool.eq_false_or_eq_true (!t_1.1) with c | c
                · replace hE := hE.dec 31 c (by kernel_rfl)
                  replace hm := cond_t c hm
                  have c_ := c
                  refine WR.seg hE 20 [] [1, 2, 3, 35] (Lo := [(1, .int .i64 how), (2, .pointer (some ⟨p, 0, none⟩)), (3, .int .i64 i), (35, .bool true)]) (obs := []) rfl (by kernel_rfl) trivial fun a hE => ?_
                  refine WR.done rfl ?_
                  cases hm
                  exact hk _ _ ⟨z20, z21, z22, z23, z24, hE.sel [1, 2, 3, 35] (by kernel_rfl), H.x1⟩
                · replace hE := hE.dec 31 c (by kernel_rfl)
                  replace hm := cond_f c hm
                  have c_1 := c
                  refine WR.seg hE 17 [] [1, 2, 3, 31, 32] (Lo := [(1, .int .i64 how), (2, .pointer (some ⟨p, 0, none⟩)), (3, .int .i64 i), (31, .bool false), (32, .pointer (some ⟨p, 0, none⟩))]) (obs := []) rfl (by kernel_rfl) trivial fun a hE => ?_
                  obtain ⟨t_2, et_2, hm⟩ := bind_some hm
                  refine WR.eff hE rfl rfl rfl rfl (OpTo.fn hE rfl rfl Tryz.call6 (thicketlaw11_world_right_ok et_2 H)) ?_
                  rintro _ w ⟨rfl, H⟩ a hE
                  refine WR.seg hE 20 [] [1, 2, 3, 35] (Lo := [(1, .int .i64 how), (2, .pointer (some ⟨p, 0, none⟩)), (3, .int .i64 i), (35, .bool (!t_2.1))]) (obs := []) rfl (by kernel_rfl) trivial fun a hE => ?_
                  refine WR.done rfl ?_
                  cases hm
                  exact hk _ _ ⟨z20, z21, z22, z23, z24, hE.sel [1, 2, 3, 35] (by kernel_rfl), H.x1⟩
              rintro a w ⟨z15, z16, z17, z18, z19, hE, H⟩
              refine Runs.cond hE rfl (fun c => ?_) (fun c => ?_)
              · replace hm := cond_t c hm
                refine Runs.seq ?_
                refine Runs.region ?_
                refine WR.seg hE 1 [] [0] (Lo := [(0, .bool false)]) (obs := []) rfl (by kernel_rfl) trivial fun a hE => ?_
                refine WR.done rfl ?_
                refine Runs.ret hE Tryz.func3 rfl rfl ?_
                cases hm
                dsimp only at hR1; cases hR1
                dsimp only at hR; cases hR
                exact ⟨rfl, H.x0⟩
              · replace hm := cond_f c hm
                refine Runs.skip ?_
                refine Runs.inBlock ?_
                refine Runs.region ?_
                refine WR.seg hE 3 [] [1, 2, 3] (Lo := [(1, .int .i64 how), (2, .pointer (some ⟨p, 0, none⟩)), (3, .int .i64 (w64 (i + 1)))]) (obs := []) rfl (by kernel_rfl) trivial fun a hE => ?_
                refine WR.done rfl ?_
                exact ih m (Nat.lt_succ_self m) _ _ ⟨w64 (i + 1), s4.2, z15, z16, z17, z18, z19, hE.sel [1, 2, 3] (by kernel_rfl), H, hm⟩
            · replace hm := cond_f c hm
              refine Runs.exit rfl ?_
              cases hm
              exact hk _ _ ⟨_, rfl, z10, z11, z12, z13, z14, hE.sel [1, 2] (by kernel_rfl), H⟩
        rintro a w ⟨s3, rfl, z5, z6, z7, z8, z9, hE, H⟩
        replace hm := hR1; dsimp only at hm
        refine Runs.seq ?_
        refine Runs.seq ?_
        obtain ⟨s5, es5, hm⟩ := bind_some hm
        refine Runs.join (fun a w => ∃ (z25 : arena_Arena.A), ∃ (z26 : Option Addr), ∃ (z27 : Nat), ∃ (z28 : Option Addr), ∃ (z29 : Nat), EnvOk 116 a [(1, .int .i64 how), (2, .pointer (some ⟨p, 0, none⟩)), (84, .bool s5.1)] ∧ St w0 (thicketlaw11_world.R p (thicketlaw11_world.A.mk al.a__p z25 z26 z27 z28 z29) s5.2 :: As) w) (fun hk => ?_) ?_
        · replace hm := es5; clear es5
          refine Runs.region ?_
          refine WR.seg hE 1 [] [1, 2, 36] (Lo := [(1, .int .i64 how), (2, .pointer (some ⟨p, 0, none⟩)), (36, .pointer (some ⟨p, 0, none⟩))]) (obs := []) rfl (by kernel_rfl) trivial fun a hE => ?_
          obtain ⟨t_3, et_3, hm⟩ := bind_some hm
          refine WR.eff hE rfl rfl rfl rfl (OpTo.fn hE rfl rfl Tryz.call7 (thicketlaw11_world_fall_ok et_3 H)) ?_
          rintro _ w ⟨z30, z31, z32, z33, rfl, H⟩ a hE
          refine WR.seg hE 4 [] [1, 2, 39] (Lo := [(1, .int .i64 how), (2, .pointer (some ⟨p, 0, none⟩)), (39, .bool (!t_3.1))]) (obs := []) rfl (by kernel_rfl) trivial fun a hE => ?_
          rcases Bool.eq_false_or_eq_true (!t_3.1) with c | c
          · replace hE := hE.dec 39 c (by kernel_rfl)
            replace hm := cond_t c hm
            have c_2 := c
            refine WR.seg hE 49 [] [1, 2, 84] (Lo := [(1, .int .i64 how), (2, .pointer (some ⟨p, 0, none⟩)), (84, .bool true)]) (obs := []) rfl (by kernel_rfl) trivial fun a hE => ?_
            refine WR.done rfl ?_
            cases hm
            exact hk _ _ ⟨z5, z30, z31, z32, z33, hE.sel [1, 2, 84] (by kernel_rfl), H⟩
          · replace hE := hE.dec 39 c (by kernel_rfl)
            replace hm := cond_f c hm
            have c_3 := c
            refine WR.seg hE 5 [] [1, 2, 39, 40] (Lo := [(1, .int .i64 how), (2, .pointer (some ⟨p, 0, none⟩)), (39, .bool false), (40, .pointer (some ⟨p, 0, none⟩))]) (obs := []) rfl (by kernel_rfl) trivial fun a hE => ?_
            obtain ⟨t_4, et_4, hm⟩ := bind_some hm
            refine WR.eff hE rfl rfl rfl rfl (OpTo.fn hE rfl rfl Tryz.call6 (thicketlaw11_world_right_ok et_4 H)) ?_
            rintro _ w ⟨rfl, H⟩ a hE
            refine WR.seg hE 9 [] [1, 2, 44] (Lo := [(1, .int .i64 how), (2, .pointer (some ⟨p, 0, none⟩)), (44, .bool (!t_4.1))]) (obs := []) rfl (by kernel_rfl) trivial fun a hE => ?_
            rcases Bool.eq_false_or_eq_true (!t_4.1) with c | c
            · replace hE := hE.dec 44 c (by kernel_rfl)
              replace hm := cond_t c hm
              have c_4 := c
              refine WR.seg hE 49 [] [1, 2, 84] (Lo := [(1, .int .i64 how), (2, .pointer (some ⟨p, 0, none⟩)), (84, .bool true)]) (obs := []) rfl (by kernel_rfl) trivial fun a hE => ?_
              refine WR.done rfl ?_
              cases hm
              exact hk _ _ ⟨z5, z30, z31, z32, z33, hE.sel [1, 2, 84] (by kernel_rfl), H⟩
            · replace hE := hE.dec 44 c (by kernel_rfl)
              replace hm := cond_f c hm
              have c_5 := c
              refine WR.seg hE 10 [] [1, 2, 44, 45] (Lo := [(1, .int .i64 how), (2, .pointer (some ⟨p, 0, none⟩)), (44, .bool false), (45, .pointer (some ⟨p, 0, none⟩))]) (obs := []) rfl (by kernel_rfl) trivial fun a hE => ?_
              obtain ⟨t_5, et_5, hm⟩ := bind_some hm
              refine WR.eff hE rfl rfl rfl rfl (OpTo.fn hE rfl rfl Tryz.call8 (thicketlaw11_world_cut_ok et_5 H)) ?_
              rintro _ w ⟨z34, z35, z36, z37, z38, rfl, H⟩ a hE
              refine WR.seg hE 14 [] [1, 2, 49] (Lo := [(1, .int .i64 how), (2, .pointer (some ⟨p, 0, none⟩)), (49, .bool (!t_5.1))]) (obs := []) rfl (by kernel_rfl) trivial fun a hE => ?_
              rcases Bool.eq_false_or_eq_true (!t_5.1) with c | c
              · replace hE := hE.dec 49 c (by kernel_rfl)
                replace hm := cond_t c hm
                have c_6 := c
                refine WR.seg hE 49 [] [1, 2, 84] (Lo := [(1, .int .i64 how), (2, .pointer (some ⟨p, 0, none⟩)), (84, .bool true)]) (obs := []) rfl (by kernel_rfl) trivial fun a hE => ?_
                refine WR.done rfl ?_
                cases hm
                exact hk _ _ ⟨z34, z35, z36, z37, z38, hE.sel [1, 2, 84] (by kernel_rfl), H⟩
              · replace hE := hE.dec 49 c (by kernel_rfl)
                replace hm := cond_f c hm
                have c_7 := c
                refine WR.seg hE 15 [] [1, 2, 49, 50] (Lo := [(1, .int .i64 how), (2, .pointer (some ⟨p, 0, none⟩)), (49, .bool false), (50, .pointer (some ⟨p, 0, none⟩))]) (obs := []) rfl (by kernel_rfl) trivial fun a hE => ?_
                obtain ⟨t_6, et_6, hm⟩ := bind_some hm
                refine WR.eff hE rfl rfl rfl rfl (OpTo.fn hE rfl rfl Tryz.call6 (thicketlaw11_world_right_ok et_6 H)) ?_
                rintro _ w ⟨rfl, H⟩ a hE
                refine WR.seg hE 19 [] [1, 2, 54] (Lo := [(1, .int .i64 how), (2, .pointer (some ⟨p, 0, none⟩)), (54, .bool (!t_6.1))]) (obs := []) rfl (by kernel_rfl) trivial fun a hE => ?_
                rcases Bool.eq_false_or_eq_true (!t_6.1) with c | c
                · replace hE := hE.dec 54 c (by kernel_rfl)
                  replace hm := cond_t c hm
                  have c_8 := c
                  refine WR.seg hE 49 [] [1, 2, 84] (Lo := [(1, .int .i64 how), (2, .pointer (some ⟨p, 0, none⟩)), (84, .bool true)]) (obs := []) rfl (by kernel_rfl) trivial fun a hE => ?_
                  refine WR.done rfl ?_
                  cases hm
                  exact hk _ _ ⟨z34, z35, z36, z37, z38, hE.sel [1, 2, 84] (by kernel_rfl), H⟩
                · replace hE := hE.dec 54 c (by kernel_rfl)
                  replace hm := cond_f c hm
                  have c_9 := c
                  refine WR.seg hE 22 [] [1, 2, 54, 55, 57] (Lo := [(1, .int .i64 how), (2, .pointer (some ⟨p, 0, none⟩)), (54, .bool false), (55, .pointer (some ⟨p, 0, none⟩)), (57, .int .i64 (Int.tmod how 2))]) (obs := [.p ((2 : Int) ≠ 0)]) rfl (by kernel_rfl) ⟨(by show _ ≠ _; decide), trivial⟩ fun a hE => ?_
                  obtain ⟨t_7, et_7, hm⟩ := bind_some hm
                  refine WR.eff hE rfl rfl rfl rfl (OpTo.fn hE rfl rfl Tryz.call9 (thicketlaw11_world_meld_ok et_7 H)) ?_
                  rintro _ w ⟨z39, z40, z41, z42, rfl, H⟩ a hE
                  refine WR.seg hE 26 [] [1, 2, 61] (Lo := [(1, .int .i64 how), (2, .pointer (some ⟨p, 0, none⟩)), (61, .bool (!t_7.1))]) (obs := []) rfl (by kernel_rfl) trivial fun a hE => ?_
                  rcases Bool.eq_false_or_eq_true (!t_7.1) with c | c
                  · replace hE := hE.dec 61 c (by kernel_rfl)
                    replace hm := cond_t c hm
                    have c_10 := c
                    refine WR.seg hE 49 [] [1, 2, 84] (Lo := [(1, .int .i64 how), (2, .pointer (some ⟨p, 0, none⟩)), (84, .bool true)]) (obs := []) rfl (by kernel_rfl) trivial fun a hE => ?_
                    refine WR.done rfl ?_
                    cases hm
                    exact hk _ _ ⟨z34, z39, z40, z41, z42, hE.sel [1, 2, 84] (by kernel_rfl), H⟩
                  · replace hE := hE.dec 61 c (by kernel_rfl)
                    replace hm := cond_f c hm
                    have c_11 := c
                    refine WR.seg hE 27 [] [1, 2, 61, 62] (Lo := [(1, .int .i64 how), (2, .pointer (some ⟨p, 0, none⟩)), (61, .bool false), (62, .pointer (some ⟨p, 0, none⟩))]) (obs := []) rfl (by kernel_rfl) trivial fun a hE => ?_
                    obtain ⟨t_8, et_8, hm⟩ := bind_some hm
                    refine WR.eff hE rfl rfl rfl rfl (OpTo.fn hE rfl rfl Tryz.call6 (thicketlaw11_world_right_ok et_8 H)) ?_
                    rintro _ w ⟨rfl, H⟩ a hE
                    refine WR.seg hE 31 [] [1, 2, 66] (Lo := [(1, .int .i64 how), (2, .pointer (some ⟨p, 0, none⟩)), (66, .bool (!t_8.1))]) (obs := []) rfl (by kernel_rfl) trivial fun a hE => ?_
                    rcases Bool.eq_false_or_eq_true (!t_8.1) with c | c
                    · replace hE := hE.dec 66 c (by kernel_rfl)
                      replace hm := cond_t c hm
                      have c_12 := c
                      refine WR.seg hE 49 [] [1, 2, 84] (Lo := [(1, .int .i64 how), (2, .pointer (some ⟨p, 0, none⟩)), (84, .bool true)]) (obs := []) rfl (by kernel_rfl) trivial fun a hE => ?_
                      refine WR.done rfl ?_
                      cases hm
                      exact hk _ _ ⟨z34, z39, z40, z41, z42, hE.sel [1, 2, 84] (by kernel_rfl), H⟩
                    · replace hE := hE.dec 66 c (by kernel_rfl)
                      replace hm := cond_f c hm
                      have c_13 := c
                      refine WR.seg hE 34 [] [1, 2, 66, 67, 69] (Lo := [(1, .int .i64 how), (2, .pointer (some ⟨p, 0, none⟩)), (66, .bool false), (67, .pointer (some ⟨p, 0, none⟩)), (69, .int .i64 (Int.tmod how 2))]) (obs := [.p ((2 : Int) ≠ 0)]) rfl (by kernel_rfl) ⟨(by show _ ≠ _; decide), trivial⟩ fun a hE => ?_
                      obtain ⟨t_9, et_9, hm⟩ := bind_some hm
                      refine WR.eff hE rfl rfl rfl rfl (OpTo.fn hE rfl rfl Tryz.call8 (thicketlaw11_world_cut_ok et_9 H)) ?_
                      rintro _ w ⟨z43, z44, z45, z46, z47, rfl, H⟩ a hE
                      refine WR.seg hE 38 [] [1, 2, 73] (Lo := [(1, .int .i64 how), (2, .pointer (some ⟨p, 0, none⟩)), (73, .bool (!t_9.1))]) (obs := []) rfl (by kernel_rfl) trivial fun a hE => ?_
                      rcases Bool.eq_false_or_eq_true (!t_9.1) with c | c
                      · replace hE := hE.dec 73 c (by kernel_rfl)
                        replace hm := cond_t c hm
                        have c_14 := c
                        refine WR.seg hE 49 [] [1, 2, 84] (Lo := [(1, .int .i64 how), (2, .pointer (some ⟨p, 0, none⟩)), (84, .bool true)]) (obs := []) rfl (by kernel_rfl) trivial fun a hE => ?_
                        refine WR.done rfl ?_
                        cases hm
                        exact hk _ _ ⟨z43, z44, z45, z46, z47, hE.sel [1, 2, 84] (by kernel_rfl), H⟩
                      · replace hE := hE.dec 73 c (by kernel_rfl)
                        replace hm := cond_f c hm
                        have c_15 := c
                        refine WR.seg hE 41 [] [1, 2, 73, 74, 76] (Lo := [(1, .int .i64 how), (2, .pointer (some ⟨p, 0, none⟩)), (73, .bool false), (74, .pointer (some ⟨p, 0, none⟩)), (76, .int .i64 (Int.tmod how 2))]) (obs := [.p ((2 : Int) ≠ 0)]) rfl (by kernel_rfl) ⟨(by show _ ≠ _; decide), trivial⟩ fun a hE => ?_
                        obtain ⟨t_10, et_10, hm⟩ := bind_some hm
                        refine WR.eff hE rfl rfl rfl rfl (OpTo.fn hE rfl rfl Tryz.call7 (thicketlaw11_world_fall_ok et_10 H)) ?_
                        rintro _ w ⟨z48, z49, z50, z51, rfl, H⟩ a hE
                        refine WR.seg hE 45 [] [1, 2, 80] (Lo := [(1, .int .i64 how), (2, .pointer (some ⟨p, 0, none⟩)), (80, .bool (!t_10.1))]) (obs := []) rfl (by kernel_rfl) trivial fun a hE => ?_
                        rcases Bool.eq_false_or_eq_true (!t_10.1) with c | c
                        · replace hE := hE.dec 80 c (by kernel_rfl)
                          replace hm := cond_t c hm
                          have c_16 := c
                          refine WR.seg hE 49 [] [1, 2, 84] (Lo := [(1, .int .i64 how), (2, .pointer (some ⟨p, 0, none⟩)), (84, .bool true)]) (obs := []) rfl (by kernel_rfl) trivial fun a hE => ?_
                          refine WR.done rfl ?_
                          cases hm
                          exact hk _ _ ⟨z43, z48, z49, z50, z51, hE.sel [1, 2, 84] (by kernel_rfl), H⟩
                        · replace hE := hE.dec 80 c (by kernel_rfl)
                          replace hm := cond_f c hm
                          have c_17 := c
                          refine WR.seg hE 46 [] [1, 2, 80, 81] (Lo := [(1, .int .i64 how), (2, .pointer (some ⟨p, 0, none⟩)), (80, .bool false), (81, .pointer (some ⟨p, 0, none⟩))]) (obs := []) rfl (by kernel_rfl) trivial fun a hE => ?_
                          obtain ⟨t_11, et_11, hm⟩ := bind_some hm
                          refine WR.eff hE rfl rfl rfl rfl (OpTo.fn hE rfl rfl Tryz.call6 (thicketlaw11_world_right_ok et_11 H)) ?_
                          rintro _ w ⟨rfl, H⟩ a hE
                          refine WR.seg hE 49 [] [1, 2, 84] (Lo := [(1, .int .i64 how), (2, .pointer (some ⟨p, 0, none⟩)), (84, .bool (!t_11.1))]) (obs := []) rfl (by kernel_rfl) trivial fun a hE => ?_
                          refine WR.done rfl ?_
                          cases hm
                          exact hk _ _ ⟨z43, z48, z49, z50, z51, hE.sel [1, 2, 84] (by kernel_rfl), H⟩
        rintro a w ⟨z25, z26, z27, z28, z29, hE, H⟩
        refine Runs.cond hE rfl (fun c => ?_) (fun c => ?_)
        · replace hm := cond_t c hm
          refine Runs.seq ?_
          refine Runs.region ?_
          refine WR.seg hE 1 [] [0] (Lo := [(0, .bool false)]) (obs := []) rfl (by kernel_rfl) trivial fun a hE => ?_
          refine WR.done rfl ?_
          refine Runs.ret hE Tryz.func3 rfl rfl ?_
          cases hm
          dsimp only at hR; cases hR
          exact ⟨rfl, H.x0⟩
        · replace hm := cond_f c hm
          refine Runs.skip ?_
          refine Runs.seq ?_
          refine Runs.seq ?_
          refine Runs.region ?_
          refine WR.seg hE 1 [] [1, 2, 4] (Lo := [(1, .int .i64 how), (2, .pointer (some ⟨p, 0, none⟩)), (4, .int .i64 0)]) (obs := []) rfl (by kernel_rfl) trivial fun a hE => ?_
          refine WR.done rfl ?_
          obtain ⟨s6, es6, hR2⟩ := bind_some hm
          refine Runs.join (fun a w => ∃ s7, s6 = Sum.inr s7 ∧ ∃ (z57 : arena_Arena.A), ∃ (z58 : Option Addr), ∃ (z59 : Nat), ∃ (z60 : Option Addr), ∃ (z61 : Nat), EnvOk 116 a [(1, .int .i64 how), (2, .pointer (some ⟨p, 0, none⟩))] ∧ St w0 (thicketlaw11_world.R p (thicketlaw11_world.A.mk al.a__p z57 z58 z59 z60 z61) s7 :: As) w) (fun hk => ?_) ?_
          · replace hm := es6; clear es6
            refine Runs.block ?_
            refine Runs.loop (fun m a w => ∃ (i1 : Int), ∃ (m_1 : thicketlaw11_world), ∃ (z62 : arena_Arena.A), ∃ (z63 : Option Addr), ∃ (z64 : Nat), ∃ (z65 : Option Addr), ∃ (z66 : Nat), EnvOk 116 a [(1, .int .i64 how), (2, .pointer (some ⟨p, 0, none⟩)), (4, .int .i64 i1)] ∧ St w0 (thicketlaw11_world.R p (thicketlaw11_world.A.mk al.a__p z62 z63 z64 z65 z66) m_1 :: As) w ∧ thicketlaw11_SkewNumbers_l2 how m i1 m_1 = some s6) m ⟨0, s5.2, z25, z26, z27, z28, z29, hE.sel [1, 2, 4] (by kernel_rfl), H, hm⟩ ?_
            rintro m ih a w ⟨i1, m_1, z62, z63, z64, z65, z66, hE, H, hm⟩
            cases m with
            | zero => simp [thicketlaw11_SkewNumbers_l2] at hm
            | succ m =>
              rw [thicketlaw11_SkewNumbers_l2] at hm
              refine Runs.seq ?_
              refine Runs.seq ?_
              refine Runs.region ?_
              refine WR.seg hE 2 [] [1, 2, 4, 86] (Lo := [(1, .int .i64 how), (2, .pointer (some ⟨p, 0, none⟩)), (4, .int .i64 i1), (86, .bool (decide (i1 < 40)))]) (obs := []) rfl (by kernel_rfl) trivial fun a hE => ?_
              refine WR.done rfl ?_
              refine Runs.cond hE rfl (fun c => ?_) (fun c => ?_)
              · replace hm := cond_t c hm
                refine Runs.skip ?_
                refine Runs.seq ?_
                refine Runs.block ?_
                refine Runs.seq ?_
                obtain ⟨s8, es8, hm⟩ := bind_some hm
                refine Runs.join (fun a w => ∃ (z67 : arena_Arena.A), ∃ (z68 : Option Addr), ∃ (z69 : Nat), ∃ (z70 : Option Addr), ∃ (z71 : Nat), EnvOk 116 a [(1, .int .i64 how), (2, .pointer (some ⟨p, 0, none⟩)), (4, .int .i64 i1), (98, .bool s8.1)] ∧ St w0 (thicketlaw11_world.R p (thicketlaw11_world.A.mk al.a__p z67 z68 z69 z70 z71) s8.2 :: As) w) (fun hk => ?_) ?_
                · replace hm := es8; clear es8
                  refine Runs.region ?_
                  refine WR.seg hE 3 [] [1, 2, 4, 89, 91] (Lo := [(1, .int .i64 how), (2, .pointer (some ⟨p, 0, none⟩)), (4, .int .i64 i1), (89, .pointer (some ⟨p, 0, none⟩)), (91, .int .i64 (Int.tmod how 2))]) (obs := [.p ((2 : Int) ≠ 0)]) rfl (by kernel_rfl) ⟨(by show _ ≠ _; decide), trivial⟩ fun a hE => ?_
                  obtain ⟨t_12, et_12, hm⟩ := bind_some hm
                  refine WR.eff hE rfl rfl rfl rfl (OpTo.fn hE rfl rfl Tryz.call10 (thicketlaw11_world_pop_ok et_12 H)) ?_
                  rintro _ w ⟨z72, z73, z74, z75, z76, rfl, H⟩ a hE
                  refine WR.seg hE 6 [] [1, 2, 4, 94] (Lo := [(1, .int .i64 how), (2, .pointer (some ⟨p, 0, none⟩)), (4, .int .i64 i1), (94, .bool (!t_12.1))]) (obs := []) rfl (by kernel_rfl) trivial fun a hE => ?_
                  rcases Bool.eq_false_or_eq_true (!t_12.1) with c | c
                  · replace hE := hE.dec 94 c (by kernel_rfl)
                    replace hm := cond_t c hm
                    have c_18 := c
                    refine WR.seg hE 10 [] [1, 2, 4, 98] (Lo := [(1, .int .i64 how), (2, .pointer (some ⟨p, 0, none⟩)), (4, .int .i64 i1), (98, .bool true)]) (obs := []) rfl (by kernel_rfl) trivial fun a hE => ?_
                    refine WR.done rfl ?_
                    cases hm
                    exact hk _ _ ⟨z72, z73, z74, z75, z76, hE.sel [1, 2, 4, 98] (by kernel_rfl), H⟩
                  · replace hE := hE.dec 94 c (by kernel_rfl)
                    replace hm := cond_f c hm
                    have c_19 := c
                    refine WR.seg hE 7 [] [1, 2, 4, 94, 95] (Lo := [(1, .int .i64 how), (2, .pointer (some ⟨p, 0, none⟩)), (4, .int .i64 i1), (94, .bool false), (95, .pointer (some ⟨p, 0, none⟩))]) (obs := []) rfl (by kernel_rfl) trivial fun a hE => ?_
                    obtain ⟨t_13, et_13, hm⟩ := bind_some hm
                    refine WR.eff hE rfl rfl rfl rfl (OpTo.fn hE rfl rfl Tryz.call6 (thicketlaw11_world_right_ok et_13 H)) ?_
                    rintro _ w ⟨rfl, H⟩ a hE
                    refine WR.seg hE 10 [] [1, 2, 4, 98] (Lo := [(1, .int .i64 how), (2, .pointer (some ⟨p, 0, none⟩)), (4, .int .i64 i1), (98, .bool (!t_13.1))]) (obs := []) rfl (by kernel_rfl) trivial fun a hE => ?_
                    refine WR.done rfl ?_
                    cases hm
                    exact hk _ _ ⟨z72, z73, z74, z75, z76, hE.sel [1, 2, 4, 98] (by kernel_rfl), H⟩
                rintro a w ⟨z67, z68, z69, z70, z71, hE, H⟩
                refine Runs.cond hE rfl (fun c => ?_) (fun c => ?_)
                · replace hm := cond_t c hm
                  refine Runs.seq ?_
                  refine Runs.region ?_
                  refine WR.seg hE 1 [] [0] (Lo := [(0, .bool false)]) (obs := []) rfl (by kernel_rfl) trivial fun a hE => ?_
                  refine WR.done rfl ?_
                  refine Runs.ret hE Tryz.func3 rfl rfl ?_
                  cases hm
                  dsimp only at hR2; cases hR2
                  dsimp only at hR; cases hR
                  exact ⟨rfl, H.x0⟩
                · replace hm := cond_f c hm
                  refine Runs.skip ?_
                  refine Runs.inBlock ?_
                  refine Runs.region ?_
                  refine WR.seg hE 3 [] [1, 2, 4] (Lo := [(1, .int .i64 how), (2, .pointer (some ⟨p, 0, none⟩)), (4, .int .i64 (w64 (i1 + 1)))]) (obs := []) rfl (by kernel_rfl) trivial fun a hE => ?_
                  refine WR.done rfl ?_
                  exact ih m (Nat.lt_succ_self m) _ _ ⟨w64 (i1 + 1), s8.2, z67, z68, z69, z70, z71, hE.sel [1, 2, 4] (by kernel_rfl), H, hm⟩
              · replace hm := cond_f c hm
                refine Runs.exit rfl ?_
                cases hm
                exact hk _ _ ⟨_, rfl, z62, z63, z64, z65, z66, hE.sel [1, 2] (by kernel_rfl), H⟩
          rintro a w ⟨s7, rfl, z57, z58, z59, z60, z61, hE, H⟩
          replace hm := hR2; dsimp only at hm
          refine Runs.seq ?_
          obtain ⟨s9, es9, hm⟩ := bind_some hm
          refine Runs.join (fun a w => ∃ (z77 : arena_Arena.A), ∃ (z78 : Option Addr), ∃ (z79 : Nat), ∃ (z80 : Option Addr), ∃ (z81 : Nat), EnvOk 116 a [(1, .int .i64 how), (114, .bool s9.1)] ∧ St w0 (thicketlaw11_world.R p (thicketlaw11_world.A.mk al.a__p z77 z78 z79 z80 z81) s9.2 :: As) w) (fun hk => ?_) ?_
          · replace hm := es9; clear es9
            refine Runs.region ?_
            refine WR.seg hE 1 [] [1, 2, 99] (Lo := [(1, .int .i64 how), (2, .pointer (some ⟨p, 0, none⟩)), (99, .pointer (some ⟨p, 0, none⟩))]) (obs := []) rfl (by kernel_rfl) trivial fun a hE => ?_
            obtain ⟨t_14, et_14, hm⟩ := bind_some hm
            refine WR.eff hE rfl rfl rfl rfl (OpTo.fn hE rfl rfl Tryz.call11 (thicketlaw11_world_drop_ok et_14 H)) ?_
            rintro _ w ⟨z82, z83, z84, z85, z86, rfl, H⟩ a hE
            refine WR.seg hE 4 [] [1, 2, 102] (Lo := [(1, .int .i64 how), (2, .pointer (some ⟨p, 0, none⟩)), (102, .bool (!t_14.1))]) (obs := []) rfl (by kernel_rfl) trivial fun a hE => ?_
            rcases Bool.eq_false_or_eq_true (!t_14.1) with c | c
            · replace hE := hE.dec 102 c (by kernel_rfl)
              replace hm := cond_t c hm
              have c_20 := c
              refine WR.seg hE 16 [] [1, 114] (Lo := [(1, .int .i64 how), (114, .bool true)]) (obs := []) rfl (by kernel_rfl) trivial fun a hE => ?_
              refine WR.done rfl ?_
              cases hm
              exact hk _ _ ⟨z82, z83, z84, z85, z86, hE.sel [1, 114] (by kernel_rfl), H⟩
            · replace hE := hE.dec 102 c (by kernel_rfl)
              replace hm := cond_f c hm
              have c_21 := c
              refine WR.seg hE 5 [] [1, 2, 102, 103] (Lo := [(1, .int .i64 how), (2, .pointer (some ⟨p, 0, none⟩)), (102, .bool false), (103, .pointer (some ⟨p, 0, none⟩))]) (obs := []) rfl (by kernel_rfl) trivial fun a hE => ?_
              obtain ⟨t_15, et_15, hm⟩ := bind_some hm
              refine WR.eff hE rfl rfl rfl rfl (OpTo.fn hE rfl rfl Tryz.call11 (thicketlaw11_world_drop_ok et_15 H)) ?_
              rintro _ w ⟨z87, z88, z89, z90, z91, rfl, H⟩ a hE
              refine WR.seg hE 9 [] [1, 2, 107] (Lo := [(1, .int .i64 how), (2, .pointer (some ⟨p, 0, none⟩)), (107, .bool (!t_15.1))]) (obs := []) rfl (by kernel_rfl) trivial fun a hE => ?_
              rcases Bool.eq_false_or_eq_true (!t_15.1) with c | c
              · replace hE := hE.dec 107 c (by kernel_rfl)
                replace hm := cond_t c hm
                have c_22 := c
                refine WR.seg hE 16 [] [1, 114] (Lo := [(1, .int .i64 how), (114, .bool true)]) (obs := []) rfl (by kernel_rfl) trivial fun a hE => ?_
                refine WR.done rfl ?_
                cases hm
                exact hk _ _ ⟨z87, z88, z89, z90, z91, hE.sel [1, 114] (by kernel_rfl), H⟩
              · replace hE := hE.dec 107 c (by kernel_rfl)
                replace hm := cond_f c hm
                have c_23 := c
                replace H := thicketlaw11_world.open H
                try dsimp only at H
                refine WR.seg hE 13 [.pointer (some ⟨al.a__p, 0, none⟩)] [1, 107, 111] (Lo := [(1, .int .i64 how), (107, .bool false), (111, .pointer (some ⟨al.a__p, 0, none⟩))]) (obs := [.cell ⟨p, 0, none⟩ (.pointer (some ⟨al.a__p, 0, none⟩))]) rfl (by kernel_rfl) ⟨H.cell 0 rfl rfl, trivial⟩ fun a hE => ?_
                obtain ⟨t_16, et_16, hm⟩ := bind_some hm
                refine WR.eff hE rfl rfl rfl rfl (OpTo.fn hE rfl rfl Tryz.call12 (arena_Arena_Len_ok et_16 H.t1)) ?_
                rintro _ w ⟨rfl, H⟩ a hE
                refine WR.seg hE 16 [] [1, 114] (Lo := [(1, .int .i64 how), (114, .bool (t_16 != 0))]) (obs := []) rfl (by kernel_rfl) trivial fun a hE => ?_
                refine WR.done rfl ?_
                replace H := thicketlaw11_world.shut (thicketlaw11_world.A.mk al.a__p z87 z88 z89 z90 z91) (t_15.2) H.t3.t3.t2.t3
                cases hm
                exact hk _ _ ⟨z87, z88, z89, z90, z91, hE.sel [1, 114] (by kernel_rfl), H⟩
          rintro a w ⟨z77, z78, z79, z80, z81, hE, H⟩
          refine Runs.cond hE rfl (fun c => ?_) (fun c => ?_)
          · replace hm := cond_t c hm
            refine Runs.seq ?_
            refine Runs.region ?_
            refine WR.seg hE 1 [] [0] (Lo := [(0, .bool false)]) (obs := []) rfl (by kernel_rfl) trivial fun a hE => ?_
            refine WR.done rfl ?_
            refine Runs.ret hE Tryz.func3 rfl rfl ?_
            cases hm
            dsimp only at hR; cases hR
            exact ⟨rfl, H.x0⟩
          · replace hm := cond_f c hm
            refine Runs.skip ?_
            refine Runs.inBlock ?_
            refine Runs.region ?_
            refine WR.seg hE 3 [] [1] (Lo := [(1, .int .i64 (w64 (how + 1)))]) (obs := []) rfl (by kernel_rfl) trivial fun a hE => ?_
            refine WR.done rfl ?_
            exact ih m (Nat.lt_succ_self m) _ _ ⟨w64 (how + 1), hE.sel [1] (by kernel_rfl), H.x0, hm⟩
      · replace hm := cond_f c hm
        refine Runs.exit rfl ?_
        cases hm
        exact hk _ _ ⟨_, rfl, hE.sel [] (by kernel_rfl), H⟩
  rintro a w ⟨s1, rfl, hE, H⟩
  replace hm := hR; dsimp only at hm
  refine Runs.seq ?_
  refine Runs.region ?_
  obtain ⟨t_17, et_17, hm⟩ := bind_some hm
  refine WR.eff hE rfl rfl rfl rfl (OpTo.fn hE rfl rfl Tryz.call13 (thicketlaw11_known_ok et_17 H)) ?_
  rintro _ w ⟨rfl, H⟩ a hE
  refine WR.seg hE 2 [] [0] (Lo := [(0, .bool t_17)]) (obs := []) rfl (by kernel_rfl) trivial fun a hE => ?_
  refine WR.done rfl ?_
  refine Runs.ret hE Tryz.func3 rfl rfl ?_
  cases hm
  exact ⟨rfl, H⟩

end Go.Proofs.YtlfiboncgkijkaaGreat
