import Derived.Test.YteflmnbkdhneiaaGreatDp2
set_option linter.unusedVariables false
set_option linter.unusedSimpArgs false
set_option maxRecDepth 10000
set_option maxHeartbeats 4000000
namespace Go.Proofs.YteflmnbkdhneiaaGreat
open Go.Th

theorem thicketlaw22_world_do_ok {w0 w : World} {As : List HP} {k : Nat} {p_w_ : Nat} {al_w_ : thicketlaw22_world.A} {w_ : thicketlaw22_world} {c_ : api_Command} {t : Bool × thicketlaw22_world}  (hm : thicketlaw22_world_do k w_ c_ = some t) (H : St w0 (thicketlaw22_world.R p_w_ al_w_ w_ :: As) w) :
    CallsR Tryz.prog 27 #[.pointer (some ⟨p_w_, 0, none⟩), .agg #[.int .i64 c_.Kind, .int .i64 c_.Queue, .int .i64 c_.Job.At, .int .i64 c_.Job.Gen, .int .i64 c_.Time, .int .i64 c_.Data]] w fun v w' => ∃ (z_w__d_a : dispatch_Dispatcher.A), ∃ (z_w__m__a : thicketref22_Dispatcher.A), ∃ (z_w__told_b : Option Addr), ∃ (z_w__told_c : Nat), v = .bool t.1 ∧ St w0 (thicketlaw22_world.R p_w_ (thicketlaw22_world.A.mk al_w_.d_p z_w__d_a al_w_.m__p z_w__m__a z_w__told_b z_w__told_c) t.2 :: As) w' := by
 rw [thicketlaw22_world_do] at hm
 refine enter (args := [.pointer (some ⟨p_w_, 0, none⟩), .agg #[.int .i64 c_.Kind, .int .i64 c_.Queue, .int .i64 c_.Job.At, .int .i64 c_.Job.Gen, .int .i64 c_.Time, .int .i64 c_.Data]]) Tryz.func27 rfl rfl rfl fun a hE => ?_
 refine Runs.sr ?_
 refine WR.eff hE rfl rfl rfl rfl (OpTo.new hE H [] (.cells #[.int .i64 c_.Kind, .int .i64 c_.Queue, .int .i64 c_.Job.At, .int .i64 c_.Job.Gen, .int .i64 c_.Time, .int .i64 c_.Data] 38 (0, 0)) (fun r => .pointer (some ⟨r, 0, none⟩)) (obs := []) rfl (fun _ => by kernel_rfl) trivial) ?_
 rintro _ w ⟨r, rfl, H⟩ a hE
 refine WR.seg hE 2 [] [0, 3] (Lo := [(0, .pointer (some ⟨p_w_, 0, none⟩)), (3, .pointer (some ⟨r, 0, none⟩))]) (obs := []) rfl (by kernel_rfl) trivial fun a hE => ?_
 refine WR.done rfl ?_
 refine Runs.seq ?_
 obtain ⟨t_, et_, hm⟩ := bind_some hm
 obtain ⟨t_1, et_1, hm⟩ := bind_some hm
 refine Runs.join (fun a w => ∃ (r3 : Nat), ∃ (r4 : Nat), ∃ (z5 : dispatch_Dispatcher.A), ∃ (z6 : thicketref22_Dispatcher.A), EnvOk 106 a [(0, .pointer (some ⟨p_w_, 0, none⟩)), (3, .pointer (some ⟨r, 0, none⟩)), (5, .pointer (some ⟨r3, 0, none⟩)), (6, .pointer (some ⟨r4, 0, none⟩))] ∧ St w0 (Blk r3 30 [.int .i64 t_.1.Why, .int .i64 t_.1.Job.At, .int .i64 t_.1.Job.Gen, .int .i64 t_.1.Time, .int .i64 t_.1.Data, .int .i64 t_.1.N] :: Blk r4 30 [.int .i64 t_1.1.Why, .int .i64 t_1.1.Job.At, .int .i64 t_1.1.Job.Gen, .int .i64 t_1.1.Time, .int .i64 t_1.1.Data, .int .i64 t_1.1.N] :: Blk r 38 [.int .i64 c_.Kind, .int .i64 c_.Queue, .int .i64 c_.Job.At, .int .i64 c_.Job.Gen, .int .i64 c_.Time, .int .i64 c_.Data] :: thicketlaw22_world.R p_w_ (thicketlaw22_world.A.mk al_w_.d_p z5 al_w_.m__p z6 al_w_.told_b al_w_.told_c) (thicketlaw22_world.mk t_.2 t_1.2 w_.k_ w_.told) :: As) w) (fun hk => ?_) ?_
 ·refine Runs.drawn mixed (by kernel_rfl) ?_
  replace H := H.drew
  replace H := thicketlaw22_world.open H.t1
  refine WQ.d hE [0, 1, 2, 3, 4, 6, 7, 8, 9, 10] [.pointer (some ⟨al_w_.d_p, 0, none⟩), .int .i64 c_.Kind, .int .i64 c_.Queue, .int .i64 c_.Job.At, .int .i64 c_.Job.Gen, .int .i64 c_.Time, .int .i64 c_.Data, .pointer (some ⟨al_w_.m__p, 0, none⟩), .int .i64 c_.Kind, .int .i64 c_.Queue, .int .i64 c_.Job.At, .int .i64 c_.Job.Gen, .int .i64 c_.Time, .int .i64 c_.Data] [(10, .pointer (some ⟨al_w_.d_p, 0, none⟩)), (11, .agg #[.int .i64 c_.Kind, .int .i64 c_.Queue, .int .i64 c_.Job.At, .int .i64 c_.Job.Gen, .int .i64 c_.Time, .int .i64 c_.Data]), (16, .pointer (some ⟨al_w_.m__p, 0, none⟩)), (17, .agg #[.int .i64 c_.Kind, .int .i64 c_.Queue, .int .i64 c_.Job.At, .int .i64 c_.Job.Gen, .int .i64 c_.Time, .int .i64 c_.Data])] (obs := [.cell ⟨p_w_, 0, none⟩ (.pointer (some ⟨al_w_.d_p, 0, none⟩)), .cell ⟨r, 0, none⟩ (.int .i64 c_.Kind), .cell ⟨r, 1, none⟩ (.int .i64 c_.Queue), .cell ⟨r, 2, none⟩ (.int .i64 c_.Job.At), .cell ⟨r, 3, none⟩ (.int .i64 c_.Job.Gen), .cell ⟨r, 4, none⟩ (.int .i64 c_.Time), .cell ⟨r, 5, none⟩ (.int .i64 c_.Data), .cell ⟨p_w_, 1, none⟩ (.pointer (some ⟨al_w_.m__p, 0, none⟩)), .cell ⟨r, 0, none⟩ (.int .i64 c_.Kind), .cell ⟨r, 1, none⟩ (.int .i64 c_.Queue), .cell ⟨r, 2, none⟩ (.int .i64 c_.Job.At), .cell ⟨r, 3, none⟩ (.int .i64 c_.Job.Gen), .cell ⟨r, 4, none⟩ (.int .i64 c_.Time), .cell ⟨r, 5, none⟩ (.int .i64 c_.Data)]) ⟨H.cell 0 rfl rfl, H.cell 4 rfl rfl, H.cell 4 rfl rfl, H.cell 4 rfl rfl, H.cell 4 rfl rfl, H.cell 4 rfl rfl, H.cell 4 rfl rfl, H.cell 0 rfl rfl, H.cell 4 rfl rfl, H.cell 4 rfl rfl, H.cell 4 rfl rfl, H.cell 4 rfl rfl, H.cell 4 rfl rfl, H.cell 4 rfl rfl, trivial⟩ fun a hE => ?_
  refine WQ.act3 5 12 13 (by kernel_rfl) ?_ ?_ ?_
  ·refine AQ.eff (j := 5) (obs := [.cell ⟨r, 0, none⟩ (.int .i64 c_.Kind), .cell ⟨r, 1, none⟩ (.int .i64 c_.Queue), .cell ⟨r, 2, none⟩ (.int .i64 c_.Job.At), .cell ⟨r, 3, none⟩ (.int .i64 c_.Job.Gen), .cell ⟨r, 4, none⟩ (.int .i64 c_.Time), .cell ⟨r, 5, none⟩ (.int .i64 c_.Data), .cell ⟨p_w_, 1, none⟩ (.pointer (some ⟨al_w_.m__p, 0, none⟩))]) hE rfl rfl rfl rfl (by kernel_rfl) (OpTo.fn hE rfl rfl Tryz.call13 (dispatch_Dispatcher_Do_ok et_ H.t1)) ?_
   rintro _ w ⟨z9, z10, rfl, H⟩
   refine ⟨⟨H.cell 4 rfl rfl, H.cell 4 rfl rfl, H.cell 4 rfl rfl, H.cell 4 rfl rfl, H.cell 4 rfl rfl, H.cell 4 rfl rfl, H.cell 1 rfl rfl, trivial⟩, fun a hE => ?_⟩
   refine WQ.act3 11 12 13 (by kernel_rfl) ?_ ?_ ?_
   ·refine AQ.eff (j := 11) (obs := []) hE rfl rfl rfl rfl (by kernel_rfl) (OpTo.fn hE rfl rfl Tryz.call36 (thicketref22_Dispatcher_Do_ok et_1 H.t2)) ?_
    rintro _ w ⟨z11, z12, z13, rfl, H⟩
    refine ⟨trivial, fun a hE => ?_⟩
    refine WQ.act2 12 13 (by kernel_rfl) ?_ ?_
    ·refine AQ.eff (j := 12) (obs := []) hE rfl rfl rfl rfl (by kernel_rfl) (OpTo.new hE H [] (.cells #[.int .i64 0, .int .i64 0, .int .i64 0, .int .i64 0, .int .i64 0, .int .i64 0] 30 (0, 0)) (fun r => .pointer (some ⟨r, 0, none⟩)) (obs := []) rfl (fun _ => by kernel_rfl) trivial) ?_
     rintro _ w ⟨r7, rfl, H⟩
     refine ⟨trivial, fun a hE => ?_⟩
     refine WQ.eff (j := 13) (obs := []) hE (by kernel_rfl) rfl rfl rfl rfl (by kernel_rfl) (OpTo.new hE H [] (.cells #[.int .i64 0, .int .i64 0, .int .i64 0, .int .i64 0, .int .i64 0, .int .i64 0] 30 (0, 0)) (fun r => .pointer (some ⟨r, 0, none⟩)) (obs := []) rfl (fun _ => by kernel_rfl) trivial) ?_
     rintro _ w ⟨r8, rfl, H⟩
     refine ⟨trivial, fun a hE => ?_⟩
     refine WQ.eff0 (j := 14) (obs := []) hE (by kernel_rfl) rfl rfl rfl (by kernel_rfl) (OpTo.store hE H.t1 rfl rfl rfl rfl rfl rfl (Nat.le_of_ble_eq_true rfl)) ?_
     rintro _ w H
     refine ⟨trivial, fun a hE => ?_⟩
     refine WQ.eff0 (j := 15) (obs := []) hE (by kernel_rfl) rfl rfl rfl (by kernel_rfl) (OpTo.store hE H.t1 rfl rfl rfl rfl rfl rfl (Nat.le_of_ble_eq_true rfl)) ?_
     rintro _ w H
     refine ⟨trivial, fun a hE => ?_⟩
     refine WQ.done (by kernel_rfl) ?_
     replace H := thicketlaw22_world.shut (thicketlaw22_world.A.mk al_w_.d_p (dispatch_Dispatcher.A.mk al_w_.d_a.q_p z9 al_w_.d_a.t__p z10 al_w_.d_a.when_p al_w_.d_a.clock_p) al_w_.m__p (thicketref22_Dispatcher.A.mk al_w_.m__a.Pool_p z11 z12 z13) al_w_.told_b al_w_.told_c) (thicketlaw22_world.mk t_.2 t_1.2 w_.k_ w_.told) H.t5.t3.t4.t5
     exact hk _ _ ⟨r7, r8, dispatch_Dispatcher.A.mk al_w_.d_a.q_p z9 al_w_.d_a.t__p z10 al_w_.d_a.when_p al_w_.d_a.clock_p, thicketref22_Dispatcher.A.mk al_w_.m__a.Pool_p z11 z12 z13, hE.sel [0, 3, 5, 6] (by kernel_rfl), H.t3.t2.t3⟩
    ·refine AQ.eff (j := 13) (obs := []) hE rfl rfl rfl rfl (by kernel_rfl) (OpTo.new hE H [] (.cells #[.int .i64 0, .int .i64 0, .int .i64 0, .int .i64 0, .int .i64 0, .int .i64 0] 30 (0, 0)) (fun r => .pointer (some ⟨r, 0, none⟩)) (obs := []) rfl (fun _ => by kernel_rfl) trivial) ?_
     rintro _ w ⟨r9, rfl, H⟩
     refine ⟨trivial, fun a hE => ?_⟩
     refine WQ.eff (j := 12) (obs := []) hE (by kernel_rfl) rfl rfl rfl rfl (by kernel_rfl) (OpTo.new hE H [] (.cells #[.int .i64 0, .int .i64 0, .int .i64 0, .int .i64 0, .int .i64 0, .int .i64 0] 30 (0, 0)) (fun r => .pointer (some ⟨r, 0, none⟩)) (obs := []) rfl (fun _ => by kernel_rfl) trivial) ?_
     rintro _ w ⟨r10, rfl, H⟩
     refine ⟨trivial, fun a hE => ?_⟩
     refine WQ.eff0 (j := 14) (obs := []) hE (by kernel_rfl) rfl rfl rfl (by kernel_rfl) (OpTo.store hE H rfl rfl rfl rfl rfl rfl (Nat.le_of_ble_eq_true rfl)) ?_
     rintro _ w H
     refine ⟨trivial, fun a hE => ?_⟩
     refine WQ.eff0 (j := 15) (obs := []) hE (by kernel_rfl) rfl rfl rfl (by kernel_rfl) (OpTo.store hE H.t1 rfl rfl rfl rfl rfl rfl (Nat.le_of_ble_eq_true rfl)) ?_
     rintro _ w H
     refine ⟨trivial, fun a hE => ?_⟩
     refine WQ.done (by kernel_rfl) ?_
     replace H := thicketlaw22_world.shut (thicketlaw22_world.A.mk al_w_.d_p (dispatch_Dispatcher.A.mk al_w_.d_a.q_p z9 al_w_.d_a.t__p z10 al_w_.d_a.when_p al_w_.d_a.clock_p) al_w_.m__p (thicketref22_Dispatcher.A.mk al_w_.m__a.Pool_p z11 z12 z13) al_w_.told_b al_w_.told_c) (thicketlaw22_world.mk t_.2 t_1.2 w_.k_ w_.told) H.t5.t3.t4.t5
     exact hk _ _ ⟨r10, r9, dispatch_Dispatcher.A.mk al_w_.d_a.q_p z9 al_w_.d_a.t__p z10 al_w_.d_a.when_p al_w_.d_a.clock_p, thicketref22_Dispatcher.A.mk al_w_.m__a.Pool_p z11 z12 z13, hE.sel [0, 3, 5, 6] (by kernel_rfl), H.t3.t2.t3⟩
   ·refine AQ.eff (j := 12) (obs := [.cell ⟨r, 0, none⟩ (.int .i64 c_.Kind), .cell ⟨r, 1, none⟩ (.int .i64 c_.Queue), .cell ⟨r, 2, none⟩ (.int .i64 c_.Job.At), .cell ⟨r, 3, none⟩ (.int .i64 c_.Job.Gen), .cell ⟨r, 4, none⟩ (.int .i64 c_.Time), .cell ⟨r, 5, none⟩ (.int .i64 c_.Data), .cell ⟨p_w_, 1, none⟩ (.pointer (some ⟨al_w_.m__p, 0, none⟩))]) hE rfl rfl rfl rfl (by kernel_rfl) (OpTo.new hE H [] (.cells #[.int .i64 0, .int .i64 0, .int .i64 0, .int .i64 0, .int .i64 0, .int .i64 0] 30 (0, 0)) (fun r => .pointer (some ⟨r, 0, none⟩)) (obs := []) rfl (fun _ => by kernel_rfl) trivial) ?_
    rintro _ w ⟨r11, rfl, H⟩
    refine ⟨⟨H.cell 5 rfl rfl, H.cell 5 rfl rfl, H.cell 5 rfl rfl, H.cell 5 rfl rfl, H.cell 5 rfl rfl, H.cell 5 rfl rfl, H.cell 2 rfl rfl, trivial⟩, fun a hE => ?_⟩
    refine WQ.act2 11 13 (by kernel_rfl) ?_ ?_
    ·refine AQ.eff (j := 11) (obs := []) hE rfl rfl rfl rfl (by kernel_rfl) (OpTo.fn hE rfl rfl Tryz.call36 (thicketref22_Dispatcher_Do_ok et_1 H.t3)) ?_
     rintro _ w ⟨z14, z15, z16, rfl, H⟩
     refine ⟨trivial, fun a hE => ?_⟩
     refine WQ.eff (j := 13) (obs := []) hE (by kernel_rfl) rfl rfl rfl rfl (by kernel_rfl) (OpTo.new hE H [] (.cells #[.int .i64 0, .int .i64 0, .int .i64 0, .int .i64 0, .int .i64 0, .int .i64 0] 30 (0, 0)) (fun r => .pointer (some ⟨r, 0, none⟩)) (obs := []) rfl (fun _ => by kernel_rfl) trivial) ?_
     rintro _ w ⟨r12, rfl, H⟩
     refine ⟨trivial, fun a hE => ?_⟩
     refine WQ.eff0 (j := 14) (obs := []) hE (by kernel_rfl) rfl rfl rfl (by kernel_rfl) (OpTo.store hE H.t2 rfl rfl rfl rfl rfl rfl (Nat.le_of_ble_eq_true rfl)) ?_
     rintro _ w H
     refine ⟨trivial, fun a hE => ?_⟩
     refine WQ.eff0 (j := 15) (obs := []) hE (by kernel_rfl) rfl rfl rfl (by kernel_rfl) (OpTo.store hE H.t1 rfl rfl rfl rfl rfl rfl (Nat.le_of_ble_eq_true rfl)) ?_
     rintro _ w H
     refine ⟨trivial, fun a hE => ?_⟩
     refine WQ.done (by kernel_rfl) ?_
     replace H := thicketlaw22_world.shut (thicketlaw22_world.A.mk al_w_.d_p (dispatch_Dispatcher.A.mk al_w_.d_a.q_p z9 al_w_.d_a.t__p z10 al_w_.d_a.when_p al_w_.d_a.clock_p) al_w_.m__p (thicketref22_Dispatcher.A.mk al_w_.m__a.Pool_p z14 z15 z16) al_w_.told_b al_w_.told_c) (thicketlaw22_world.mk t_.2 t_1.2 w_.k_ w_.told) H.t5.t3.t4.t5
     exact hk _ _ ⟨r11, r12, dispatch_Dispatcher.A.mk al_w_.d_a.q_p z9 al_w_.d_a.t__p z10 al_w_.d_a.when_p al_w_.d_a.clock_p, thicketref22_Dispatcher.A.mk al_w_.m__a.Pool_p z14 z15 z16, hE.sel [0, 3, 5, 6] (by kernel_rfl), H.t3.t2.t3⟩
    ·refine AQ.eff (j := 13) (obs := [.cell ⟨r, 0, none⟩ (.int .i64 c_.Kind), .cell ⟨r, 1, none⟩ (.int .i64 c_.Queue), .cell ⟨r, 2, none⟩ (.int .i64 c_.Job.At), .cell ⟨r, 3, none⟩ (.int .i64 c_.Job.Gen), .cell ⟨r, 4, none⟩ (.int .i64 c_.Time), .cell ⟨r, 5, none⟩ (.int .i64 c_.Data), .cell ⟨p_w_, 1, none⟩ (.pointer (some ⟨al_w_.m__p, 0, none⟩))]) hE rfl rfl rfl rfl (by kernel_rfl) (OpTo.new hE H [] (.cells #[.int .i64 0, .int .i64 0, .int .i64 0, .int .i64 0, .int .i64 0, .int .i64 0] 30 (0, 0)) (fun r => .pointer (some ⟨r, 0, none⟩)) (obs := []) rfl (fun _ => by kernel_rfl) trivial) ?_
     rintro _ w ⟨r13, rfl, H⟩
     refine ⟨⟨H.cell 6 rfl rfl, H.cell 6 rfl rfl, H.cell 6 rfl rfl, H.cell 6 rfl rfl, H.cell 6 rfl rfl, H.cell 6 rfl rfl, H.cell 3 rfl rfl, trivial⟩, fun a hE => ?_⟩
     refine WQ.eff (j := 11) (obs := []) hE (by kernel_rfl) rfl rfl rfl rfl (by kernel_rfl) (OpTo.fn hE rfl rfl Tryz.call36 (thicketref22_Dispatcher_Do_ok et_1 H.t4)) ?_
     rintro _ w ⟨z17, z18, z19, rfl, H⟩
     refine ⟨trivial, fun a hE => ?_⟩
     refine WQ.eff0 (j := 14) (obs := []) hE (by kernel_rfl) rfl rfl rfl (by kernel_rfl) (OpTo.store hE H.t2 rfl rfl rfl rfl rfl rfl (Nat.le_of_ble_eq_true rfl)) ?_
     rintro _ w H
     refine ⟨trivial, fun a hE => ?_⟩
     refine WQ.eff0 (j := 15) (obs := []) hE (by kernel_rfl) rfl rfl rfl (by kernel_rfl) (OpTo.store hE H.t2 rfl rfl rfl rfl rfl rfl (Nat.le_of_ble_eq_true rfl)) ?_
     rintro _ w H
     refine ⟨trivial, fun a hE => ?_⟩
     refine WQ.done (by kernel_rfl) ?_
     replace H := thicketlaw22_world.shut (thicketlaw22_world.A.mk al_w_.d_p (dispatch_Dispatcher.A.mk al_w_.d_a.q_p z9 al_w_.d_a.t__p z10 al_w_.d_a.when_p al_w_.d_a.clock_p) al_w_.m__p (thicketref22_Dispatcher.A.mk al_w_.m__a.Pool_p z17 z18 z19) al_w_.told_b al_w_.told_c) (thicketlaw22_world.mk t_.2 t_1.2 w_.k_ w_.told) H.t5.t3.t4.t5
     exact hk _ _ ⟨r11, r13, dispatch_Dispatcher.A.mk al_w_.d_a.q_p z9 al_w_.d_a.t__p z10 al_w_.d_a.when_p al_w_.d_a.clock_p, thicketref22_Dispatcher.A.mk al_w_.m__a.Pool_p z17 z18 z19, hE.sel [0, 3, 5, 6] (by kernel_rfl), H.t3.t2.t3⟩
   ·refine AQ.eff (j := 13) (obs := [.cell ⟨r, 0, none⟩ (.int .i64 c_.Kind), .cell ⟨r, 1, none⟩ (.int .i64 c_.Queue), .cell ⟨r, 2, none⟩ (.int .i64 c_.Job.At), .cell ⟨r, 3, none⟩ (.int .i64 c_.Job.Gen), .cell ⟨r, 4, none⟩ (.int .i64 c_.Time), .cell ⟨r, 5, none⟩ (.int .i64 c_.Data), .cell ⟨p_w_, 1, none⟩ (.pointer (some ⟨al_w_.m__p, 0, none⟩))]) hE rfl rfl rfl rfl (by kernel_rfl) (OpTo.new hE H [] (.cells #[.int .i64 0, .int .i64 0, .int .i64 0, .int .i64 0, .int .i64 0, .int .i64 0] 30 (0, 0)) (fun r => .pointer (some ⟨r, 0, none⟩)) (obs := []) rfl (fun _ => by kernel_rfl) trivial) ?_
    rintro _ w ⟨r14, rfl, H⟩
    refine ⟨⟨H.cell 5 rfl rfl, H.cell 5 rfl rfl, H.cell 5 rfl rfl, H.cell 5 rfl rfl, H.cell 5 rfl rfl, H.cell 5 rfl rfl, H.cell 2 rfl rfl, trivial⟩, fun a hE => ?_⟩
    refine WQ.act2 11 12 (by kernel_rfl) ?_ ?_
    ·refine AQ.eff (j := 11) (obs := []) hE rfl rfl rfl rfl (by kernel_rfl) (OpTo.fn hE rfl rfl Tryz.call36 (thicketref22_Dispatcher_Do_ok et_1 H.t3)) ?_
     rintro _ w ⟨z20, z21, z22, rfl, H⟩
     refine ⟨trivial, fun a hE => ?_⟩
     refine WQ.eff (j := 12) (obs := []) hE (by kernel_rfl) rfl rfl rfl rfl (by kernel_rfl) (OpTo.new hE H [] (.cells #[.int .i64 0, .int .i64 0, .int .i64 0, .int .i64 0, .int .i64 0, .int .i64 0] 30 (0, 0)) (fun r => .pointer (some ⟨r, 0, none⟩)) (obs := []) rfl (fun _ => by kernel_rfl) trivial) ?_
     rintro _ w ⟨r15, rfl, H⟩
     refine ⟨trivial, fun a hE => ?_⟩
     refine WQ.eff0 (j := 14) (obs := []) hE (by kernel_rfl) rfl rfl rfl (by kernel_rfl) (OpTo.store hE H rfl rfl rfl rfl rfl rfl (Nat.le_of_ble_eq_true rfl)) ?_
     rintro _ w H
     refine ⟨trivial, fun a hE => ?_⟩
     refine WQ.eff0 (j := 15) (obs := []) hE (by kernel_rfl) rfl rfl rfl (by kernel_rfl) (OpTo.store hE H.t2 rfl rfl rfl rfl rfl rfl (Nat.le_of_ble_eq_true rfl)) ?_
     rintro _ w H
     refine ⟨trivial, fun a hE => ?_⟩
     refine WQ.done (by kernel_rfl) ?_
     replace H := thicketlaw22_world.shut (thicketlaw22_world.A.mk al_w_.d_p (dispatch_Dispatcher.A.mk al_w_.d_a.q_p z9 al_w_.d_a.t__p z10 al_w_.d_a.when_p al_w_.d_a.clock_p) al_w_.m__p (thicketref22_Dispatcher.A.mk al_w_.m__a.Pool_p z20 z21 z22) al_w_.told_b al_w_.told_c) (thicketlaw22_world.mk t_.2 t_1.2 w_.k_ w_.told) H.t5.t3.t4.t5
     exact hk _ _ ⟨r15, r14, dispatch_Dispatcher.A.mk al_w_.d_a.q_p z9 al_w_.d_a.t__p z10 al_w_.d_a.when_p al_w_.d_a.clock_p, thicketref22_Dispatcher.A.mk al_w_.m__a.Pool_p z20 z21 z22, hE.sel [0, 3, 5, 6] (by kernel_rfl), H.t3.t2.t3⟩
    ·refine AQ.eff (j := 12) (obs := [.cell ⟨r, 0, none⟩ (.int .i64 c_.Kind), .cell ⟨r, 1, none⟩ (.int .i64 c_.Queue), .cell ⟨r, 2, none⟩ (.int .i64 c_.Job.At), .cell ⟨r, 3, none⟩ (.int .i64 c_.Job.Gen), .cell ⟨r, 4, none⟩ (.int .i64 c_.Time), .cell ⟨r, 5, none⟩ (.int .i64 c_.Data), .cell ⟨p_w_, 1, none⟩ (.pointer (some ⟨al_w_.m__p, 0, none⟩))]) hE rfl rfl rfl rfl (by kernel_rfl) (OpTo.new hE H [] (.cells #[.int .i64 0, .int .i64 0, .int .i64 0, .int .i64 0, .int .i64 0, .int .i64 0] 30 (0, 0)) (fun r => .pointer (some ⟨r, 0, none⟩)) (obs := []) rfl (fun _ => by kernel_rfl) trivial) ?_
     rintro _ w ⟨r16, rfl, H⟩
     refine ⟨⟨H.cell 6 rfl rfl, H.cell 6 rfl rfl, H.cell 6 rfl rfl, H.cell 6 rfl rfl, H.cell 6 rfl rfl, H.cell 6 rfl rfl, H.cell 3 rfl rfl, trivial⟩, fun a hE => ?_⟩
     refine WQ.eff (j := 11) (obs := []) hE (by kernel_rfl) rfl rfl rfl rfl (by kernel_rfl) (OpTo.fn hE rfl rfl Tryz.call36 (thicketref22_Dispatcher_Do_ok et_1 H.t4)) ?_
     rintro _ w ⟨z23, z24, z25, rfl, H⟩
     refine ⟨trivial, fun a hE => ?_⟩
     refine WQ.eff0 (j := 14) (obs := []) hE (by kernel_rfl) rfl rfl rfl (by kernel_rfl) (OpTo.store hE H.t1 rfl rfl rfl rfl rfl rfl (Nat.le_of_ble_eq_true rfl)) ?_
     rintro _ w H
     refine ⟨trivial, fun a hE => ?_⟩
     refine WQ.eff0 (j := 15) (obs := []) hE (by kernel_rfl) rfl rfl rfl (by kernel_rfl) (OpTo.store hE H.t2 rfl rfl rfl rfl rfl rfl (Nat.le_of_ble_eq_true rfl)) ?_
     rintro _ w H
     refine ⟨trivial, fun a hE => ?_⟩
     refine WQ.done (by kernel_rfl) ?_
     replace H := thicketlaw22_world.shut (thicketlaw22_world.A.mk al_w_.d_p (dispatch_Dispatcher.A.mk al_w_.d_a.q_p z9 al_w_.d_a.t__p z10 al_w_.d_a.when_p al_w_.d_a.clock_p) al_w_.m__p (thicketref22_Dispatcher.A.mk al_w_.m__a.Pool_p z23 z24 z25) al_w_.told_b al_w_.told_c) (thicketlaw22_world.mk t_.2 t_1.2 w_.k_ w_.told) H.t5.t3.t4.t5
     exact hk _ _ ⟨r16, r14, dispatch_Dispatcher.A.mk al_w_.d_a.q_p z9 al_w_.d_a.t__p z10 al_w_.d_a.when_p al_w_.d_a.clock_p, thicketref22_Dispatcher.A.mk al_w_.m__a.Pool_p z23 z24 z25, hE.sel [0, 3, 5, 6] (by kernel_rfl), H.t3.t2.t3⟩
  ·refine AQ.eff (j := 12) (obs := [.cell ⟨r, 0, none⟩ (.int .i64 c_.Kind), .cell ⟨r, 1, none⟩ (.int .i64 c_.Queue), .cell ⟨r, 2, none⟩ (.int .i64 c_.Job.At), .cell ⟨r, 3, none⟩ (.int .i64 c_.Job.Gen), .cell ⟨r, 4, none⟩ (.int .i64 c_.Time), .cell ⟨r, 5, none⟩ (.int .i64 c_.Data), .cell ⟨p_w_, 1, none⟩ (.pointer (some ⟨al_w_.m__p, 0, none⟩)), .cell ⟨r, 0, none⟩ (.int .i64 c_.Kind), .cell ⟨r, 1, none⟩ (.int .i64 c_.Queue), .cell ⟨r, 2, none⟩ (.int .i64 c_.Job.At), .cell ⟨r, 3, none⟩ (.int .i64 c_.Job.Gen), .cell ⟨r, 4, none⟩ (.int .i64 c_.Time), .cell ⟨r, 5, none⟩ (.int .i64 c_.Data), .cell ⟨p_w_, 0, none⟩ (.pointer (some ⟨al_w_.d_p, 0, none⟩))]) hE rfl rfl rfl rfl (by kernel_rfl) (OpTo.new hE H [] (.cells #[.int .i64 0, .int .i64 0, .int .i64 0, .int .i64 0, .int .i64 0, .int .i64 0] 30 (0, 0)) (fun r => .pointer (some ⟨r, 0, none⟩)) (obs := []) rfl (fun _ => by kernel_rfl) trivial) ?_
   rintro _ w ⟨r17, rfl, H⟩
   refine ⟨⟨H.cell 5 rfl rfl, H.cell 5 rfl rfl, H.cell 5 rfl rfl, H.cell 5 rfl rfl, H.cell 5 rfl rfl, H.cell 5 rfl rfl, H.cell 1 rfl rfl, H.cell 5 rfl rfl, H.cell 5 rfl rfl, H.cell 5 rfl rfl, H.cell 5 rfl rfl, H.cell 5 rfl rfl, H.cell 5 rfl rfl, H.cell 1 rfl rfl, trivial⟩, fun a hE => ?_⟩
   refine WQ.act2 5 13 (by kernel_rfl) ?_ ?_
   ·refine AQ.eff (j := 5) (obs := [.cell ⟨r, 0, none⟩ (.int .i64 c_.Kind), .cell ⟨r, 1, none⟩ (.int .i64 c_.Queue), .cell ⟨r, 2, none⟩ (.int .i64 c_.Job.At), .cell ⟨r, 3, none⟩ (.int .i64 c_.Job.Gen), .cell ⟨r, 4, none⟩ (.int .i64 c_.Time), .cell ⟨r, 5, none⟩ (.int .i64 c_.Data), .cell ⟨p_w_, 1, none⟩ (.pointer (some ⟨al_w_.m__p, 0, none⟩))]) hE rfl rfl rfl rfl (by kernel_rfl) (OpTo.fn hE rfl rfl Tryz.call13 (dispatch_Dispatcher_Do_ok et_ H.t2)) ?_
    rintro _ w ⟨z26, z27, rfl, H⟩
    refine ⟨⟨H.cell 5 rfl rfl, H.cell 5 rfl rfl, H.cell 5 rfl rfl, H.cell 5 rfl rfl, H.cell 5 rfl rfl, H.cell 5 rfl rfl, H.cell 2 rfl rfl, trivial⟩, fun a hE => ?_⟩
    refine WQ.act2 11 13 (by kernel_rfl) ?_ ?_
    ·refine AQ.eff (j := 11) (obs := []) hE rfl rfl rfl rfl (by kernel_rfl) (OpTo.fn hE rfl rfl Tryz.call36 (thicketref22_Dispatcher_Do_ok et_1 H.t3)) ?_
     rintro _ w ⟨z28, z29, z30, rfl, H⟩
     refine ⟨trivial, fun a hE => ?_⟩
     refine WQ.eff (j := 13) (obs := []) hE (by kernel_rfl) rfl rfl rfl rfl (by kernel_rfl) (OpTo.new hE H [] (.cells #[.int .i64 0, .int .i64 0, .int .i64 0, .int .i64 0, .int .i64 0, .int .i64 0] 30 (0, 0)) (fun r => .pointer (some ⟨r, 0, none⟩)) (obs := []) rfl (fun _ => by kernel_rfl) trivial) ?_
     rintro _ w ⟨r18, rfl, H⟩
     refine ⟨trivial, fun a hE => ?_⟩
     refine WQ.eff0 (j := 14) (obs := []) hE (by kernel_rfl) rfl rfl rfl (by kernel_rfl) (OpTo.store hE H.t3 rfl rfl rfl rfl rfl rfl (Nat.le_of_ble_eq_true rfl)) ?_
     rintro _ w H
     refine ⟨trivial, fun a hE => ?_⟩
     refine WQ.eff0 (j := 15) (obs := []) hE (by kernel_rfl) rfl rfl rfl (by kernel_rfl) (OpTo.store hE H.t1 rfl rfl rfl rfl rfl rfl (Nat.le_of_ble_eq_true rfl)) ?_
     rintro _ w H
     refine ⟨trivial, fun a hE => ?_⟩
     refine WQ.done (by kernel_rfl) ?_
     replace H := thicketlaw22_world.shut (thicketlaw22_world.A.mk al_w_.d_p (dispatch_Dispatcher.A.mk al_w_.d_a.q_p z26 al_w_.d_a.t__p z27 al_w_.d_a.when_p al_w_.d_a.clock_p) al_w_.m__p (thicketref22_Dispatcher.A.mk al_w_.m__a.Pool_p z28 z29 z30) al_w_.told_b al_w_.told_c) (thicketlaw22_world.mk t_.2 t_1.2 w_.k_ w_.told) H.t5.t3.t4.t5
     exact hk _ _ ⟨r17, r18, dispatch_Dispatcher.A.mk al_w_.d_a.q_p z26 al_w_.d_a.t__p z27 al_w_.d_a.when_p al_w_.d_a.clock_p, thicketref22_Dispatcher.A.mk al_w_.m__a.Pool_p z28 z29 z30, hE.sel [0, 3, 5, 6] (by kernel_rfl), H.t3.t2.t3⟩
    ·refine AQ.eff (j := 13) (obs := [.cell ⟨r, 0, none⟩ (.int .i64 c_.Kind), .cell ⟨r, 1, none⟩ (.int .i64 c_.Queue), .cell ⟨r, 2, none⟩ (.int .i64 c_.Job.At), .cell ⟨r, 3, none⟩ (.int .i64 c_.Job.Gen), .cell ⟨r, 4, none⟩ (.int .i64 c_.Time), .cell ⟨r, 5, none⟩ (.int .i64 c_.Data), .cell ⟨p_w_, 1, none⟩ (.pointer (some ⟨al_w_.m__p, 0, none⟩))]) hE rfl rfl rfl rfl (by kernel_rfl) (OpTo.new hE H [] (.cells #[.int .i64 0, .int .i64 0, .int .i64 0, .int .i64 0, .int .i64 0, .int .i64 0] 30 (0, 0)) (fun r => .pointer (some ⟨r, 0, none⟩)) (obs := []) rfl (fun _ => by kernel_rfl) trivial) ?_
     rintro _ w ⟨r19, rfl, H⟩
     refine ⟨⟨H.cell 6 rfl rfl, H.cell 6 rfl rfl, H.cell 6 rfl rfl, H.cell 6 rfl rfl, H.cell 6 rfl rfl, H.cell 6 rfl rfl, H.cell 3 rfl rfl, trivial⟩, fun a hE => ?_⟩
     refine WQ.eff (j := 11) (obs := []) hE (by kernel_rfl) rfl rfl rfl rfl (by kernel_rfl) (OpTo.fn hE rfl rfl Tryz.call36 (thicketref22_Dispatcher_Do_ok et_1 H.t4)) ?_
     rintro _ w ⟨z31, z32, z33, rfl, H⟩
     refine ⟨trivial, fun a hE => ?_⟩
     refine WQ.eff0 (j := 14) (obs := []) hE (by kernel_rfl) rfl rfl rfl (by kernel_rfl) (OpTo.store hE H.t3 rfl rfl rfl rfl rfl rfl (Nat.le_of_ble_eq_true rfl)) ?_
     rintro _ w H
     refine ⟨trivial, fun a hE => ?_⟩
     refine WQ.eff0 (j := 15) (obs := []) hE (by kernel_rfl) rfl rfl rfl (by kernel_rfl) (OpTo.store hE H.t2 rfl rfl rfl rfl rfl rfl (Nat.le_of_ble_eq_true rfl)) ?_
     rintro _ w H
     refine ⟨trivial, fun a hE => ?_⟩
     refine WQ.done (by kernel_rfl) ?_
     replace H := thicketlaw22_world.shut (thicketlaw22_world.A.mk al_w_.d_p (dispatch_Dispatcher.A.mk al_w_.d_a.q_p z26 al_w_.d_a.t__p z27 al_w_.d_a.when_p al_w_.d_a.clock_p) al_w_.m__p (thicketref22_Dispatcher.A.mk al_w_.m__a.Pool_p z31 z32 z33) al_w_.told_b al_w_.told_c) (thicketlaw22_world.mk t_.2 t_1.2 w_.k_ w_.told) H.t5.t3.t4.t5
     exact hk _ _ ⟨r17, r19, dispatch_Dispatcher.A.mk al_w_.d_a.q_p z26 al_w_.d_a.t__p z27 al_w_.d_a.when_p al_w_.d_a.clock_p, thicketref22_Dispatcher.A.mk al_w_.m__a.Pool_p z31 z32 z33, hE.sel [0, 3, 5, 6] (by kernel_rfl), H.t3.t2.t3⟩
   ·refine AQ.eff (j := 13) (obs := [.cell ⟨r, 0, none⟩ (.int .i64 c_.Kind), .cell ⟨r, 1, none⟩ (.int .i64 c_.Queue), .cell ⟨r, 2, none⟩ (.int .i64 c_.Job.At), .cell ⟨r, 3, none⟩ (.int .i64 c_.Job.Gen), .cell ⟨r, 4, none⟩ (.int .i64 c_.Time), .cell ⟨r, 5, none⟩ (.int .i64 c_.Data), .cell ⟨p_w_, 1, none⟩ (.pointer (some ⟨al_w_.m__p, 0, none⟩)), .cell ⟨r, 0, none⟩ (.int .i64 c_.Kind), .cell ⟨r, 1, none⟩ (.int .i64 c_.Queue), .cell ⟨r, 2, none⟩ (.int .i64 c_.Job.At), .cell ⟨r, 3, none⟩ (.int .i64 c_.Job.Gen), .cell ⟨r, 4, none⟩ (.int .i64 c_.Time), .cell ⟨r, 5, none⟩ (.int .i64 c_.Data), .cell ⟨p_w_, 0, none⟩ (.pointer (some ⟨al_w_.d_p, 0, none⟩))]) hE rfl rfl rfl rfl (by kernel_rfl) (OpTo.new hE H [] (.cells #[.int .i64 0, .int .i64 0, .int .i64 0, .int .i64 0, .int .i64 0, .int .i64 0] 30 (0, 0)) (fun r => .pointer (some ⟨r, 0, none⟩)) (obs := []) rfl (fun _ => by kernel_rfl) trivial) ?_
    rintro _ w ⟨r20, rfl, H⟩
    refine ⟨⟨H.cell 6 rfl rfl, H.cell 6 rfl rfl, H.cell 6 rfl rfl, H.cell 6 rfl rfl, H.cell 6 rfl rfl, H.cell 6 rfl rfl, H.cell 2 rfl rfl, H.cell 6 rfl rfl, H.cell 6 rfl rfl, H.cell 6 rfl rfl, H.cell 6 rfl rfl, H.cell 6 rfl rfl, H.cell 6 rfl rfl, H.cell 2 rfl rfl, trivial⟩, fun a hE => ?_⟩
    refine WQ.eff (j := 5) (obs := [.cell ⟨r, 0, none⟩ (.int .i64 c_.Kind), .cell ⟨r, 1, none⟩ (.int .i64 c_.Queue), .cell ⟨r, 2, none⟩ (.int .i64 c_.Job.At), .cell ⟨r, 3, none⟩ (.int .i64 c_.Job.Gen), .cell ⟨r, 4, none⟩ (.int .i64 c_.Time), .cell ⟨r, 5, none⟩ (.int .i64 c_.Data), .cell ⟨p_w_, 1, none⟩ (.pointer (some ⟨al_w_.m__p, 0, none⟩))]) hE (by kernel_rfl) rfl rfl rfl rfl (by kernel_rfl) (OpTo.fn hE rfl rfl Tryz.call13 (dispatch_Dispatcher_Do_ok et_ H.t3)) ?_
    rintro _ w ⟨z34, z35, rfl, H⟩
    refine ⟨⟨H.cell 6 rfl rfl, H.cell 6 rfl rfl, H.cell 6 rfl rfl, H.cell 6 rfl rfl, H.cell 6 rfl rfl, H.cell 6 rfl rfl, H.cell 3 rfl rfl, trivial⟩, fun a hE => ?_⟩
    refine WQ.eff (j := 11) (obs := []) hE (by kernel_rfl) rfl rfl rfl rfl (by kernel_rfl) (OpTo.fn hE rfl rfl Tryz.call36 (thicketref22_Dispatcher_Do_ok et_1 H.t4)) ?_
    rintro _ w ⟨z36, z37, z38, rfl, H⟩
    refine ⟨trivial, fun a hE => ?_⟩
    refine WQ.eff0 (j := 14) (obs := []) hE (by kernel_rfl) rfl rfl rfl (by kernel_rfl) (OpTo.store hE H.t3 rfl rfl rfl rfl rfl rfl (Nat.le_of_ble_eq_true rfl)) ?_
    rintro _ w H
    refine ⟨trivial, fun a hE => ?_⟩
    refine WQ.eff0 (j := 15) (obs := []) hE (by kernel_rfl) rfl rfl rfl (by kernel_rfl) (OpTo.store hE H.t3 rfl rfl rfl rfl rfl rfl (Nat.le_of_ble_eq_true rfl)) ?_
    rintro _ w H
    refine ⟨trivial, fun a hE => ?_⟩
    refine WQ.done (by kernel_rfl) ?_
    replace H := thicketlaw22_world.shut (thicketlaw22_world.A.mk al_w_.d_p (dispatch_Dispatcher.A.mk al_w_.d_a.q_p z34 al_w_.d_a.t__p z35 al_w_.d_a.when_p al_w_.d_a.clock_p) al_w_.m__p (thicketref22_Dispatcher.A.mk al_w_.m__a.Pool_p z36 z37 z38) al_w_.told_b al_w_.told_c) (thicketlaw22_world.mk t_.2 t_1.2 w_.k_ w_.told) H.t5.t3.t4.t5
    exact hk _ _ ⟨r17, r20, dispatch_Dispatcher.A.mk al_w_.d_a.q_p z34 al_w_.d_a.t__p z35 al_w_.d_a.when_p al_w_.d_a.clock_p, thicketref22_Dispatcher.A.mk al_w_.m__a.Pool_p z36 z37 z38, hE.sel [0, 3, 5, 6] (by kernel_rfl), H.t3.t2.t3⟩
  ·refine AQ.eff (j := 13) (obs := [.cell ⟨r, 0, none⟩ (.int .i64 c_.Kind), .cell ⟨r, 1, none⟩ (.int .i64 c_.Queue), .cell ⟨r, 2, none⟩ (.int .i64 c_.Job.At), .cell ⟨r, 3, none⟩ (.int .i64 c_.Job.Gen), .cell ⟨r, 4, none⟩ (.int .i64 c_.Time), .cell ⟨r, 5, none⟩ (.int .i64 c_.Data), .cell ⟨p_w_, 1, none⟩ (.pointer (some ⟨al_w_.m__p, 0, none⟩)), .cell ⟨r, 0, none⟩ (.int .i64 c_.Kind), .cell ⟨r, 1, none⟩ (.int .i64 c_.Queue), .cell ⟨r, 2, none⟩ (.int .i64 c_.Job.At), .cell ⟨r, 3, none⟩ (.int .i64 c_.Job.Gen), .cell ⟨r, 4, none⟩ (.int .i64 c_.Time), .cell ⟨r, 5, none⟩ (.int .i64 c_.Data), .cell ⟨p_w_, 0, none⟩ (.pointer (some ⟨al_w_.d_p, 0, none⟩))]) hE rfl rfl rfl rfl (by kernel_rfl) (OpTo.new hE H [] (.cells #[.int .i64 0, .int .i64 0, .int .i64 0, .int .i64 0, .int .i64 0, .int .i64 0] 30 (0, 0)) (fun r => .pointer (some ⟨r, 0, none⟩)) (obs := []) rfl (fun _ => by kernel_rfl) trivial) ?_
   rintro _ w ⟨r21, rfl, H⟩
   refine ⟨⟨H.cell 5 rfl rfl, H.cell 5 rfl rfl, H.cell 5 rfl rfl, H.cell 5 rfl rfl, H.cell 5 rfl rfl, H.cell 5 rfl rfl, H.cell 1 rfl rfl, H.cell 5 rfl rfl, H.cell 5 rfl rfl, H.cell 5 rfl rfl, H.cell 5 rfl rfl, H.cell 5 rfl rfl, H.cell 5 rfl rfl, H.cell 1 rfl rfl, trivial⟩, fun a hE => ?_⟩
   refine WQ.act2 5 12 (by kernel_rfl) ?_ ?_
   ·refine AQ.eff (j := 5) (obs := [.cell ⟨r, 0, none⟩ (.int .i64 c_.Kind), .cell ⟨r, 1, none⟩ (.int .i64 c_.Queue), .cell ⟨r, 2, none⟩ (.int .i64 c_.Job.At), .cell ⟨r, 3, none⟩ (.int .i64 c_.Job.Gen), .cell ⟨r, 4, none⟩ (.int .i64 c_.Time), .cell ⟨r, 5, none⟩ (.int .i64 c_.Data), .cell ⟨p_w_, 1, none⟩ (.pointer (some ⟨al_w_.m__p, 0, none⟩))]) hE rfl rfl rfl rfl (by kernel_rfl) (OpTo.fn hE rfl rfl Tryz.call13 (dispatch_Dispatcher_Do_ok et_ H.t2)) ?_
    rintro _ w ⟨z39, z40, rfl, H⟩
    refine ⟨⟨H.cell 5 rfl rfl, H.cell 5 rfl rfl, H.cell 5 rfl rfl, H.cell 5 rfl rfl, H.cell 5 rfl rfl, H.cell 5 rfl rfl, H.cell 2 rfl rfl, trivial⟩, fun a hE => ?_⟩
    refine WQ.act2 11 12 (by kernel_rfl) ?_ ?_
    ·refine AQ.eff (j := 11) (obs := []) hE rfl rfl rfl rfl (by kernel_rfl) (OpTo.fn hE rfl rfl Tryz.call36 (thicketref22_Dispatcher_Do_ok et_1 H.t3)) ?_
     rintro _ w ⟨z41, z42, z43, rfl, H⟩
     refine ⟨trivial, fun a hE => ?_⟩
     refine WQ.eff (j := 12) (obs := []) hE (by kernel_rfl) rfl rfl rfl rfl (by kernel_rfl) (OpTo.new hE H [] (.cells #[.int .i64 0, .int .i64 0, .int .i64 0, .int .i64 0, .int .i64 0, .int .i64 0] 30 (0, 0)) (fun r => .pointer (some ⟨r, 0, none⟩)) (obs := []) rfl (fun _ => by kernel_rfl) trivial) ?_
     rintro _ w ⟨r22, rfl, H⟩
     refine ⟨trivial, fun a hE => ?_⟩
     refine WQ.eff0 (j := 14) (obs := []) hE (by kernel_rfl) rfl rfl rfl (by kernel_rfl) (OpTo.store hE H rfl rfl rfl rfl rfl rfl (Nat.le_of_ble_eq_true rfl)) ?_
     rintro _ w H
     refine ⟨trivial, fun a hE => ?_⟩
     refine WQ.eff0 (j := 15) (obs := []) hE (by kernel_rfl) rfl rfl rfl (by kernel_rfl) (OpTo.store hE H.t3 rfl rfl rfl rfl rfl rfl (Nat.le_of_ble_eq_true rfl)) ?_
     rintro _ w H
     refine ⟨trivial, fun a hE => ?_⟩
     refine WQ.done (by kernel_rfl) ?_
     replace H := thicketlaw22_world.shut (thicketlaw22_world.A.mk al_w_.d_p (dispatch_Dispatcher.A.mk al_w_.d_a.q_p z39 al_w_.d_a.t__p z40 al_w_.d_a.when_p al_w_.d_a.clock_p) al_w_.m__p (thicketref22_Dispatcher.A.mk al_w_.m__a.Pool_p z41 z42 z43) al_w_.told_b al_w_.told_c) (thicketlaw22_world.mk t_.2 t_1.2 w_.k_ w_.told) H.t5.t3.t4.t5
     exact hk _ _ ⟨r22, r21, dispatch_Dispatcher.A.mk al_w_.d_a.q_p z39 al_w_.d_a.t__p z40 al_w_.d_a.when_p al_w_.d_a.clock_p, thicketref22_Dispatcher.A.mk al_w_.m__a.Pool_p z41 z42 z43, hE.sel [0, 3, 5, 6] (by kernel_rfl), H.t3.t2.t3⟩
    ·refine AQ.eff (j := 12) (obs := [.cell ⟨r, 0, none⟩ (.int .i64 c_.Kind), .cell ⟨r, 1, none⟩ (.int .i64 c_.Queue), .cell ⟨r, 2, none⟩ (.int .i64 c_.Job.At), .cell ⟨r, 3, none⟩ (.int .i64 c_.Job.Gen), .cell ⟨r, 4, none⟩ (.int .i64 c_.Time), .cell ⟨r, 5, none⟩ (.int .i64 c_.Data), .cell ⟨p_w_, 1, none⟩ (.pointer (some ⟨al_w_.m__p, 0, none⟩))]) hE rfl rfl rfl rfl (by kernel_rfl) (OpTo.new hE H [] (.cells #[.int .i64 0, .int .i64 0, .int .i64 0, .int .i64 0, .int .i64 0, .int .i64 0] 30 (0, 0)) (fun r => .pointer (some ⟨r, 0, none⟩)) (obs := []) rfl (fun _ => by kernel_rfl) trivial) ?_
     rintro _ w ⟨r23, rfl, H⟩
     refine ⟨⟨H.cell 6 rfl rfl, H.cell 6 rfl rfl, H.cell 6 rfl rfl, H.cell 6 rfl rfl, H.cell 6 rfl rfl, H.cell 6 rfl rfl, H.cell 3 rfl rfl, trivial⟩, fun a hE => ?_⟩
     refine WQ.eff (j := 11) (obs := []) hE (by kernel_rfl) rfl rfl rfl rfl (by kernel_rfl) (OpTo.fn hE rfl rfl Tryz.call36 (thicketref22_Dispatcher_Do_ok et_1 H.t4)) ?_
     rintro _ w ⟨z44, z45, z46, rfl, H⟩
     refine ⟨trivial, fun a hE => ?_⟩
     refine WQ.eff0 (j := 14) (obs := []) hE (by kernel_rfl) rfl rfl rfl (by kernel_rfl) (OpTo.store hE H.t1 rfl rfl rfl rfl rfl rfl (Nat.le_of_ble_eq_true rfl)) ?_
     rintro _ w H
     refine ⟨trivial, fun a hE => ?_⟩
     refine WQ.eff0 (j := 15) (obs := []) hE (by kernel_rfl) rfl rfl rfl (by kernel_rfl) (OpTo.store hE H.t3 rfl rfl rfl rfl rfl rfl (Nat.le_of_ble_eq_true rfl)) ?_
     rintro _ w H
     refine ⟨trivial, fun a hE => ?_⟩
     refine WQ.done (by kernel_rfl) ?_
     replace H := thicketlaw22_world.shut (thicketlaw22_world.A.mk al_w_.d_p (dispatch_Dispatcher.A.mk al_w_.d_a.q_p z39 al_w_.d_a.t__p z40 al_w_.d_a.when_p al_w_.d_a.clock_p) al_w_.m__p (thicketref22_Dispatcher.A.mk al_w_.m__a.Pool_p z44 z45 z46) al_w_.told_b al_w_.told_c) (thicketlaw22_world.mk t_.2 t_1.2 w_.k_ w_.told) H.t5.t3.t4.t5
     exact hk _ _ ⟨r23, r21, dispatch_Dispatcher.A.mk al_w_.d_a.q_p z39 al_w_.d_a.t__p z40 al_w_.d_a.when_p al_w_.d_a.clock_p, thicketref22_Dispatcher.A.mk al_w_.m__a.Pool_p z44 z45 z46, hE.sel [0, 3, 5, 6] (by kernel_rfl), H.t3.t2.t3⟩
   ·refine AQ.eff (j := 12) (obs := [.cell ⟨r, 0, none⟩ (.int .i64 c_.Kind), .cell ⟨r, 1, none⟩ (.int .i64 c_.Queue), .cell ⟨r, 2, none⟩ (.int .i64 c_.Job.At), .cell ⟨r, 3, none⟩ (.int .i64 c_.Job.Gen), .cell ⟨r, 4, none⟩ (.int .i64 c_.Time), .cell ⟨r, 5, none⟩ (.int .i64 c_.Data), .cell ⟨p_w_, 1, none⟩ (.pointer (some ⟨al_w_.m__p, 0, none⟩)), .cell ⟨r, 0, none⟩ (.int .i64 c_.Kind), .cell ⟨r, 1, none⟩ (.int .i64 c_.Queue), .cell ⟨r, 2, none⟩ (.int .i64 c_.Job.At), .cell ⟨r, 3, none⟩ (.int .i64 c_.Job.Gen), .cell ⟨r, 4, none⟩ (.int .i64 c_.Time), .cell ⟨r, 5, none⟩ (.int .i64 c_.Data), .cell ⟨p_w_, 0, none⟩ (.pointer (some ⟨al_w_.d_p, 0, none⟩))]) hE rfl rfl rfl rfl (by kernel_rfl) (OpTo.new hE H [] (.cells #[.int .i64 0, .int .i64 0, .int .i64 0, .int .i64 0, .int .i64 0, .int .i64 0] 30 (0, 0)) (fun r => .pointer (some ⟨r, 0, none⟩)) (obs := []) rfl (fun _ => by kernel_rfl) trivial) ?_
    rintro _ w ⟨r24, rfl, H⟩
    refine ⟨⟨H.cell 6 rfl rfl, H.cell 6 rfl rfl, H.cell 6 rfl rfl, H.cell 6 rfl rfl, H.cell 6 rfl rfl, H.cell 6 rfl rfl, H.cell 2 rfl rfl, H.cell 6 rfl rfl, H.cell 6 rfl rfl, H.cell 6 rfl rfl, H.cell 6 rfl rfl, H.cell 6 rfl rfl, H.cell 6 rfl rfl, H.cell 2 rfl rfl, trivial⟩, fun a hE => ?_⟩
    refine WQ.eff (j := 5) (obs := [.cell ⟨r, 0, none⟩ (.int .i64 c_.Kind), .cell ⟨r, 1, none⟩ (.int .i64 c_.Queue), .cell ⟨r, 2, none⟩ (.int .i64 c_.Job.At), .cell ⟨r, 3, none⟩ (.int .i64 c_.Job.Gen), .cell ⟨r, 4, none⟩ (.int .i64 c_.Time), .cell ⟨r, 5, none⟩ (.int .i64 c_.Data), .cell ⟨p_w_, 1, none⟩ (.pointer (some ⟨al_w_.m__p, 0, none⟩))]) hE (by kernel_rfl) rfl rfl rfl rfl (by kernel_rfl) (OpTo.fn hE rfl rfl Tryz.call13 (dispatch_Dispatcher_Do_ok et_ H.t3)) ?_
    rintro _ w ⟨z47, z48, rfl, H⟩
    refine ⟨⟨H.cell 6 rfl rfl, H.cell 6 rfl rfl, H.cell 6 rfl rfl, H.cell 6 rfl rfl, H.cell 6 rfl rfl, H.cell 6 rfl rfl, H.cell 3 rfl rfl, trivial⟩, fun a hE => ?_⟩
    refine WQ.eff (j := 11) (obs := []) hE (by kernel_rfl) rfl rfl rfl rfl (by kernel_rfl) (OpTo.fn hE rfl rfl Tryz.call36 (thicketref22_Dispatcher_Do_ok et_1 H.t4)) ?_
    rintro _ w ⟨z49, z50, z51, rfl, H⟩
    refine ⟨trivial, fun a hE => ?_⟩
    refine WQ.eff0 (j := 14) (obs := []) hE (by kernel_rfl) rfl rfl rfl (by kernel_rfl) (OpTo.store hE H.t2 rfl rfl rfl rfl rfl rfl (Nat.le_of_ble_eq_true rfl)) ?_
    rintro _ w H
    refine ⟨trivial, fun a hE => ?_⟩
    refine WQ.eff0 (j := 15) (obs := []) hE (by kernel_rfl) rfl rfl rfl (by kernel_rfl) (OpTo.store hE H.t3 rfl rfl rfl rfl rfl rfl (Nat.le_of_ble_eq_true rfl)) ?_
    rintro _ w H
    refine ⟨trivial, fun a hE => ?_⟩
    refine WQ.done (by kernel_rfl) ?_
    replace H := thicketlaw22_world.shut (thicketlaw22_world.A.mk al_w_.d_p (dispatch_Dispatcher.A.mk al_w_.d_a.q_p z47 al_w_.d_a.t__p z48 al_w_.d_a.when_p al_w_.d_a.clock_p) al_w_.m__p (thicketref22_Dispatcher.A.mk al_w_.m__a.Pool_p z49 z50 z51) al_w_.told_b al_w_.told_c) (thicketlaw22_world.mk t_.2 t_1.2 w_.k_ w_.told) H.t5.t3.t4.t5
    exact hk _ _ ⟨r24, r21, dispatch_Dispatcher.A.mk al_w_.d_a.q_p z47 al_w_.d_a.t__p z48 al_w_.d_a.when_p al_w_.d_a.clock_p, thicketref22_Dispatcher.A.mk al_w_.m__a.Pool_p z49 z50 z51, hE.sel [0, 3, 5, 6] (by kernel_rfl), H.t3.t2.t3⟩
 rintro a w ⟨r3, r4, z5, z6, hE, H⟩
 refine Runs.seq ?_
 refine Runs.seq ?_
 obtain ⟨s, es, hm⟩ := bind_some hm
 refine Runs.join (fun a w => EnvOk 106 a [(0, .pointer (some ⟨p_w_, 0, none⟩)), (3, .pointer (some ⟨r, 0, none⟩)), (5, .pointer (some ⟨r3, 0, none⟩)), (86, .bool s.1)] ∧ St w0 (Blk r3 30 [.int .i64 t_.1.Why, .int .i64 t_.1.Job.At, .int .i64 t_.1.Job.Gen, .int .i64 t_.1.Time, .int .i64 t_.1.Data, .int .i64 t_.1.N] :: Blk r 38 [.int .i64 c_.Kind, .int .i64 c_.Queue, .int .i64 c_.Job.At, .int .i64 c_.Job.Gen, .int .i64 c_.Time, .int .i64 c_.Data] :: thicketlaw22_world.R p_w_ (thicketlaw22_world.A.mk al_w_.d_p z5 al_w_.m__p z6 al_w_.told_b al_w_.told_c) s.2 :: As) w) (fun hk => ?_) ?_
 ·replace hm := es; clear es
  refine Runs.drawn mixed (by kernel_rfl) ?_
  replace H := H.drew
  refine WQ.seg hE [0, 1] [.int .i64 t_.1.Why, .int .i64 t_.1.Job.At, .int .i64 t_.1.Job.Gen, .int .i64 t_.1.Time, .int .i64 t_.1.Data, .int .i64 t_.1.N, .int .i64 t_1.1.Why, .int .i64 t_1.1.Job.At, .int .i64 t_1.1.Job.Gen, .int .i64 t_1.1.Time, .int .i64 t_1.1.Data, .int .i64 t_1.1.N] [0, 3, 5, 19, 20] (Lo := [(0, .pointer (some ⟨p_w_, 0, none⟩)), (3, .pointer (some ⟨r, 0, none⟩)), (5, .pointer (some ⟨r3, 0, none⟩)), (19, .agg #[.int .i64 t_.1.Why, .int .i64 t_.1.Job.At, .int .i64 t_.1.Job.Gen, .int .i64 t_.1.Time, .int .i64 t_.1.Data, .int .i64 t_.1.N]), (20, .agg #[.int .i64 t_1.1.Why, .int .i64 t_1.1.Job.At, .int .i64 t_1.1.Job.Gen, .int .i64 t_1.1.Time, .int .i64 t_1.1.Data, .int .i64 t_1.1.N])]) (obs := [.cell ⟨r3, 0, none⟩ (.int .i64 t_.1.Why), .cell ⟨r3, 1, none⟩ (.int .i64 t_.1.Job.At), .cell ⟨r3, 2, none⟩ (.int .i64 t_.1.Job.Gen), .cell ⟨r3, 3, none⟩ (.int .i64 t_.1.Time), .cell ⟨r3, 4, none⟩ (.int .i64 t_.1.Data), .cell ⟨r3, 5, none⟩ (.int .i64 t_.1.N), .cell ⟨r4, 0, none⟩ (.int .i64 t_1.1.Why), .cell ⟨r4, 1, none⟩ (.int .i64 t_1.1.Job.At), .cell ⟨r4, 2, none⟩ (.int .i64 t_1.1.Job.Gen), .cell ⟨r4, 3, none⟩ (.int .i64 t_1.1.Time), .cell ⟨r4, 4, none⟩ (.int .i64 t_1.1.Data), .cell ⟨r4, 5, none⟩ (.int .i64 t_1.1.N)]) (by kernel_rfl) (by kernel_rfl) ⟨H.cell 0 rfl rfl, H.cell 0 rfl rfl, H.cell 0 rfl rfl, H.cell 0 rfl rfl, H.cell 0 rfl rfl, H.cell 0 rfl rfl, H.cell 1 rfl rfl, H.cell 1 rfl rfl, H.cell 1 rfl rfl, H.cell 1 rfl rfl, H.cell 1 rfl rfl, H.cell 1 rfl rfl, trivial⟩ fun a hE => ?_
  refine WQ.eff (j := 2) (obs := []) hE (by kernel_rfl) rfl rfl rfl rfl (by kernel_rfl) (OpTo.neS hE rfl rfl rfl (by kernel_rfl) (api_Reply.eq_run t_.1 t_1.1)) ?_
  rintro _ _ ⟨rfl, rfl⟩
  refine ⟨trivial, fun a hE => ?_⟩
  refine WQ.d0 hE [3] [(22, .bool (!(api_Reply.eq t_.1 t_1.1)))] fun a hE => ?_
  rcases Bool.eq_false_or_eq_true (!(api_Reply.eq t_.1 t_1.1)) with c | c
  ·replace hE := hE.dec 22 c (by kernel_rfl)
   replace hm := cond_t c hm
   have c_1 := c
   refine WQ.d0 hE [4, 5, 6, 7, 8, 9, 10, 11, 12, 13, 14, 15, 16, 17, 18, 19, 20, 21, 22, 23, 24, 25, 26, 27, 28, 29, 30, 31, 32, 33, 34, 35, 36, 37, 38, 39, 40, 41, 42, 43, 44, 45, 46, 47, 48, 49, 50, 51, 52, 53, 54, 55, 56, 57, 58, 59, 60, 61, 62, 63, 64, 65, 66, 67] [(86, .bool true)] fun a hE => ?_
   refine WQ.done (by kernel_rfl) ?_
   cases hm
   exact hk _ _ ⟨hE.sel [0, 3, 5, 86] (by kernel_rfl), H.x1.t2.t2.t2⟩
  ·replace hE := hE.dec 22 c (by kernel_rfl)
   replace hm := cond_f c hm
   have c_2 := c
   replace H := thicketlaw22_world.open H.t3
   try dsimp only at H
   refine WQ.d hE [4, 5, 6, 7] [.pointer (some ⟨al_w_.d_p, 0, none⟩)] [(22, .bool false), (26, .pointer (some ⟨al_w_.d_p, 0, none⟩))] (obs := [.cell ⟨p_w_, 0, none⟩ (.pointer (some ⟨al_w_.d_p, 0, none⟩))]) ⟨H.cell 0 rfl rfl, trivial⟩ fun a hE => ?_
   obtain ⟨t_2, et_2, hm⟩ := bind_some hm
   refine WQ.eff (j := 8) (obs := []) hE (by kernel_rfl) rfl rfl rfl rfl (by kernel_rfl) (OpTo.fn hE rfl rfl Tryz.call23 (dispatch_Dispatcher_Last_ok et_2 H.t1)) ?_
   rintro _ w ⟨rfl, H⟩
   refine ⟨trivial, fun a hE => ?_⟩
   refine WQ.d0 hE [9, 10, 11] [(30, .bool (decide (t_2 < 0)))] fun a hE => ?_
   rcases Bool.eq_false_or_eq_true (decide (t_2 < 0)) with c | c
   ·replace hE := hE.dec 30 c (by kernel_rfl)
    replace hm := cond_t c hm
    have c_3 := c
    refine WQ.d0 hE [12, 13, 14, 15, 16, 17, 18, 19, 20, 21, 22, 23, 24, 25, 26, 27, 28, 29, 30, 31, 32, 33, 34, 35, 36, 37, 38, 39, 40, 41, 42, 43, 44, 45, 46, 47, 48, 49, 50, 51, 52, 53, 54, 55, 56, 57, 58, 59, 60, 61, 62, 63, 64, 65, 66, 67] [(86, .bool true)] fun a hE => ?_
    refine WQ.done (by kernel_rfl) ?_
    replace H := thicketlaw22_world.shut (thicketlaw22_world.A.mk al_w_.d_p z5 al_w_.m__p z6 al_w_.told_b al_w_.told_c) ((thicketlaw22_world.mk t_.2 t_1.2 w_.k_ w_.told)) H.t3.t3.t2.t3
    cases hm
    exact hk _ _ ⟨hE.sel [0, 3, 5, 86] (by kernel_rfl), H.x2.t2.t2⟩
   ·replace hE := hE.dec 30 c (by kernel_rfl)
    replace hm := cond_f c hm
    have c_4 := c
    refine WQ.d hE [12, 13, 14, 15, 17, 18, 19, 20] [.pointer (some ⟨al_w_.d_p, 0, none⟩), .pointer (some ⟨al_w_.d_p, 0, none⟩)] [(30, .bool false), (34, .pointer (some ⟨al_w_.d_p, 0, none⟩)), (39, .pointer (some ⟨al_w_.d_p, 0, none⟩))] (obs := [.cell ⟨p_w_, 0, none⟩ (.pointer (some ⟨al_w_.d_p, 0, none⟩)), .cell ⟨p_w_, 0, none⟩ (.pointer (some ⟨al_w_.d_p, 0, none⟩))]) ⟨H.cell 1 rfl rfl, H.cell 1 rfl rfl, trivial⟩ fun a hE => ?_
    obtain ⟨t_3, et_3, hm⟩ := bind_some hm
    refine WQ.eff (j := 16) (obs := [.cell ⟨p_w_, 0, none⟩ (.pointer (some ⟨al_w_.d_p, 0, none⟩))]) hE (by kernel_rfl) rfl rfl rfl rfl (by kernel_rfl) (OpTo.fn hE rfl rfl Tryz.call23 (dispatch_Dispatcher_Last_ok et_3 H)) ?_
    rintro _ w ⟨rfl, H⟩
    refine ⟨⟨H.cell 1 rfl rfl, trivial⟩, fun a hE => ?_⟩
    obtain ⟨t_4, et_4, hm⟩ := bind_some hm
    refine WQ.eff (j := 21) (obs := []) hE (by kernel_rfl) rfl rfl rfl rfl (by kernel_rfl) (OpTo.fn hE rfl rfl Tryz.call24 (dispatch_Dispatcher_Budget_ok et_4 H)) ?_
    rintro _ w ⟨rfl, H⟩
    refine ⟨trivial, fun a hE => ?_⟩
    refine WQ.d0 hE [22, 23, 24] [(43, .bool (decide (t_3 > t_4)))] fun a hE => ?_
    rcases Bool.eq_false_or_eq_true (decide (t_3 > t_4)) with c | c
    ·replace hE := hE.dec 43 c (by kernel_rfl)
     replace hm := cond_t c hm
     have c_5 := c
     refine WQ.d0 hE [25, 26, 27, 28, 29, 30, 31, 32, 33, 34, 35, 36, 37, 38, 39, 40, 41, 42, 43, 44, 45, 46, 47, 48, 49, 50, 51, 52, 53, 54, 55, 56, 57, 58, 59, 60, 61, 62, 63, 64, 65, 66, 67] [(86, .bool true)] fun a hE => ?_
     refine WQ.done (by kernel_rfl) ?_
     replace H := thicketlaw22_world.shut (thicketlaw22_world.A.mk al_w_.d_p z5 al_w_.m__p z6 al_w_.told_b al_w_.told_c) ((thicketlaw22_world.mk t_.2 t_1.2 w_.k_ w_.told)) H.t3.t3.t2.t3
     cases hm
     exact hk _ _ ⟨hE.sel [0, 3, 5, 86] (by kernel_rfl), H.x2.t2.t2⟩
    ·replace hE := hE.dec 43 c (by kernel_rfl)
     replace hm := cond_f c hm
     have c_6 := c
     refine WQ.d hE [25, 26, 27, 28, 30, 31, 32, 33] [.pointer (some ⟨al_w_.d_p, 0, none⟩), .pointer (some ⟨al_w_.d_p, 0, none⟩)] [(43, .bool false), (47, .pointer (some ⟨al_w_.d_p, 0, none⟩)), (52, .pointer (some ⟨al_w_.d_p, 0, none⟩))] (obs := [.cell ⟨p_w_, 0, none⟩ (.pointer (some ⟨al_w_.d_p, 0, none⟩)), .cell ⟨p_w_, 0, none⟩ (.pointer (some ⟨al_w_.d_p, 0, none⟩))]) ⟨H.cell 1 rfl rfl, H.cell 1 rfl rfl, trivial⟩ fun a hE => ?_
     obtain ⟨t_5, et_5, hm⟩ := bind_some hm
     refine WQ.eff (j := 29) (obs := [.cell ⟨p_w_, 0, none⟩ (.pointer (some ⟨al_w_.d_p, 0, none⟩))]) hE (by kernel_rfl) rfl rfl rfl rfl (by kernel_rfl) (OpTo.fn hE rfl rfl Tryz.call16 (dispatch_Dispatcher_Most_ok et_5 H)) ?_
     rintro _ w ⟨rfl, H⟩
     refine ⟨⟨H.cell 1 rfl rfl, trivial⟩, fun a hE => ?_⟩
     obtain ⟨t_6, et_6, hm⟩ := bind_some hm
     refine WQ.eff (j := 34) (obs := []) hE (by kernel_rfl) rfl rfl rfl rfl (by kernel_rfl) (OpTo.fn hE rfl rfl Tryz.call24 (dispatch_Dispatcher_Budget_ok et_6 H)) ?_
     rintro _ w ⟨rfl, H⟩
     refine ⟨trivial, fun a hE => ?_⟩
     refine WQ.d0 hE [35, 36, 37] [(56, .bool (decide (t_5 > t_6)))] fun a hE => ?_
     rcases Bool.eq_false_or_eq_true (decide (t_5 > t_6)) with c | c
     ·replace hE := hE.dec 56 c (by kernel_rfl)
      replace hm := cond_t c hm
      have c_7 := c
      refine WQ.d0 hE [38, 39, 40, 41, 42, 43, 44, 45, 46, 47, 48, 49, 50, 51, 52, 53, 54, 55, 56, 57, 58, 59, 60, 61, 62, 63, 64, 65, 66, 67] [(86, .bool true)] fun a hE => ?_
      refine WQ.done (by kernel_rfl) ?_
      replace H := thicketlaw22_world.shut (thicketlaw22_world.A.mk al_w_.d_p z5 al_w_.m__p z6 al_w_.told_b al_w_.told_c) ((thicketlaw22_world.mk t_.2 t_1.2 w_.k_ w_.told)) H.t3.t3.t2.t3
      cases hm
      exact hk _ _ ⟨hE.sel [0, 3, 5, 86] (by kernel_rfl), H.x2.t2.t2⟩
     ·replace hE := hE.dec 56 c (by kernel_rfl)
      replace hm := cond_f c hm
      have c_8 := c
      replace H := thicketref22_Dispatcher.open H.t2
      refine WQ.d hE [38, 39, 40, 41, 43, 44, 45, 46, 47, 48, 49] [.pointer (some ⟨al_w_.d_p, 0, none⟩), .pointer (some ⟨al_w_.m__p, 0, none⟩), .int .i64 (((thicketlaw22_world.mk t_.2 t_1.2 w_.k_ w_.told).m_).Now)] [(56, .bool false), (60, .pointer (some ⟨al_w_.d_p, 0, none⟩)), (68, .int .i64 (((thicketlaw22_world.mk t_.2 t_1.2 w_.k_ w_.told).m_).Now))] (obs := [.cell ⟨p_w_, 0, none⟩ (.pointer (some ⟨al_w_.d_p, 0, none⟩)), .cell ⟨p_w_, 1, none⟩ (.pointer (some ⟨al_w_.m__p, 0, none⟩)), .cell ⟨al_w_.m__p, 1, none⟩ (.int .i64 (((thicketlaw22_world.mk t_.2 t_1.2 w_.k_ w_.told).m_).Now))]) ⟨H.cell 4 rfl rfl, H.cell 4 rfl rfl, H.cell 0 rfl rfl, trivial⟩ fun a hE => ?_
      obtain ⟨t_7, et_7, hm⟩ := bind_some hm
      refine WQ.eff (j := 42) (obs := [.cell ⟨al_w_.m__p, 1, none⟩ (.int .i64 (((thicketlaw22_world.mk t_.2 t_1.2 w_.k_ w_.told).m_).Now)), .cell ⟨p_w_, 1, none⟩ (.pointer (some ⟨al_w_.m__p, 0, none⟩))]) hE (by kernel_rfl) rfl rfl rfl rfl (by kernel_rfl) (OpTo.fn hE rfl rfl Tryz.call22 (dispatch_Dispatcher_Now_ok et_7 H.t3)) ?_
      rintro _ w ⟨rfl, H⟩
      refine ⟨⟨H.cell 1 rfl rfl, H.cell 4 rfl rfl, trivial⟩, fun a hE => ?_⟩
      refine WQ.d0 hE [50, 51, 52] [(71, .bool (t_7 != (((thicketlaw22_world.mk t_.2 t_1.2 w_.k_ w_.told).m_).Now)))] fun a hE => ?_
      rcases Bool.eq_false_or_eq_true (t_7 != (((thicketlaw22_world.mk t_.2 t_1.2 w_.k_ w_.told).m_).Now)) with c | c
      ·replace hE := hE.dec 71 c (by kernel_rfl)
       replace hm := cond_t c hm
       have c_9 := c
       refine WQ.d0 hE [53, 54, 55, 56, 57, 58, 59, 60, 61, 62, 63, 64, 65, 66, 67] [(86, .bool true)] fun a hE => ?_
       refine WQ.done (by kernel_rfl) ?_
       replace H := thicketref22_Dispatcher.shut z6 (((thicketlaw22_world.mk t_.2 t_1.2 w_.k_ w_.told).m_)) H.t3.t3.t3
       replace H := thicketlaw22_world.shut (thicketlaw22_world.A.mk al_w_.d_p z5 al_w_.m__p z6 al_w_.told_b al_w_.told_c) (thicketlaw22_world.mk ((thicketlaw22_world.mk t_.2 t_1.2 w_.k_ w_.told).d) ((thicketlaw22_world.mk t_.2 t_1.2 w_.k_ w_.told).m_) ((thicketlaw22_world.mk t_.2 t_1.2 w_.k_ w_.told).k_) ((thicketlaw22_world.mk t_.2 t_1.2 w_.k_ w_.told).told)) H.t3.t1.t2.t3
       cases hm
       exact hk _ _ ⟨hE.sel [0, 3, 5, 86] (by kernel_rfl), H.x2.t2.t2⟩
      ·replace hE := hE.dec 71 c (by kernel_rfl)
       replace hm := cond_f c hm
       have c_10 := c
       refine WQ.d hE [53, 54, 55, 56, 58, 59, 60, 61, 62, 63, 64, 65] [.pointer (some ⟨al_w_.d_p, 0, none⟩), .pointer (some ⟨al_w_.m__p, 0, none⟩), .slice z6.L_b ((((thicketlaw22_world.mk t_.2 t_1.2 w_.k_ w_.told).m_).L).length) z6.L_c] [(71, .bool false), (75, .pointer (some ⟨al_w_.d_p, 0, none⟩)), (84, .int .i64 ((((thicketlaw22_world.mk t_.2 t_1.2 w_.k_ w_.told).m_).L).length : Int))] (obs := [.cell ⟨p_w_, 0, none⟩ (.pointer (some ⟨al_w_.d_p, 0, none⟩)), .cell ⟨p_w_, 1, none⟩ (.pointer (some ⟨al_w_.m__p, 0, none⟩)), .cell ⟨al_w_.m__p, 4, none⟩ (.slice z6.L_b ((((thicketlaw22_world.mk t_.2 t_1.2 w_.k_ w_.told).m_).L).length) z6.L_c)]) ⟨H.cell 4 rfl rfl, H.cell 4 rfl rfl, H.cell 1 rfl rfl, trivial⟩ fun a hE => ?_
       obtain ⟨t_8, et_8, hm⟩ := bind_some hm
       refine WQ.eff (j := 57) (obs := [.cell ⟨al_w_.m__p, 4, none⟩ (.slice z6.L_b ((((thicketlaw22_world.mk t_.2 t_1.2 w_.k_ w_.told).m_).L).length) z6.L_c), .cell ⟨p_w_, 1, none⟩ (.pointer (some ⟨al_w_.m__p, 0, none⟩))]) hE (by kernel_rfl) rfl rfl rfl rfl (by kernel_rfl) (OpTo.fn hE rfl rfl Tryz.call17 (dispatch_Dispatcher_Len_ok et_8 H)) ?_
       rintro _ w ⟨rfl, H⟩
       refine ⟨⟨H.cell 1 rfl rfl, H.cell 4 rfl rfl, trivial⟩, fun a hE => ?_⟩
       refine WQ.d0 hE [66, 67] [(86, .bool (t_8 != ((((thicketlaw22_world.mk t_.2 t_1.2 w_.k_ w_.told).m_).L).length : Int)))] fun a hE => ?_
       refine WQ.done (by kernel_rfl) ?_
       replace H := thicketref22_Dispatcher.shut z6 (((thicketlaw22_world.mk t_.2 t_1.2 w_.k_ w_.told).m_)) H.t3.t3.t3
       replace H := thicketlaw22_world.shut (thicketlaw22_world.A.mk al_w_.d_p z5 al_w_.m__p z6 al_w_.told_b al_w_.told_c) (thicketlaw22_world.mk ((thicketlaw22_world.mk t_.2 t_1.2 w_.k_ w_.told).d) ((thicketlaw22_world.mk t_.2 t_1.2 w_.k_ w_.told).m_) ((thicketlaw22_world.mk t_.2 t_1.2 w_.k_ w_.told).k_) ((thicketlaw22_world.mk t_.2 t_1.2 w_.k_ w_.told).told)) H.t3.t1.t2.t3
       cases hm
       exact hk _ _ ⟨hE.sel [0, 3, 5, 86] (by kernel_rfl), H.x2.t2.t2⟩
 rintro a w ⟨hE, H⟩
 refine Runs.cond hE rfl (fun c => ?_) (fun c => ?_)
 ·replace hm := cond_t c hm
  refine Runs.sr ?_
  refine WR.seg hE 1 [] [4] (Lo := [(4, .bool false)]) (obs := []) rfl (by kernel_rfl) trivial fun a hE => ?_
  refine WR.done rfl ?_
  refine Runs.ret hE Tryz.func27 rfl rfl ?_
  cases hm
  exact ⟨z5, z6, al_w_.told_b, al_w_.told_c, rfl, H.x1.x0⟩
 ·replace hm := cond_f c hm
  refine Runs.skip ?_
  refine Runs.seq ?_
  refine Runs.seq ?_
  refine Runs.join (fun a w => EnvOk 106 a [(0, .pointer (some ⟨p_w_, 0, none⟩)), (5, .pointer (some ⟨r3, 0, none⟩)), (94, .bool ((c_.Kind == 1) && (t_.1.Why == 0)))] ∧ St w0 (Blk r3 30 [.int .i64 t_.1.Why, .int .i64 t_.1.Job.At, .int .i64 t_.1.Job.Gen, .int .i64 t_.1.Time, .int .i64 t_.1.Data, .int .i64 t_.1.N] :: Blk r 38 [.int .i64 c_.Kind, .int .i64 c_.Queue, .int .i64 c_.Job.At, .int .i64 c_.Job.Gen, .int .i64 c_.Time, .int .i64 c_.Data] :: thicketlaw22_world.R p_w_ (thicketlaw22_world.A.mk al_w_.d_p z5 al_w_.m__p z6 al_w_.told_b al_w_.told_c) s.2 :: As) w) (fun hk => ?_) ?_
  ·clear hm
   refine Runs.region ?_
   refine WR.seg hE 4 [.int .i64 c_.Kind] [0, 5, 90] (Lo := [(0, .pointer (some ⟨p_w_, 0, none⟩)), (5, .pointer (some ⟨r3, 0, none⟩)), (90, .bool (c_.Kind == 1))]) (obs := [.cell ⟨r, 0, none⟩ (.int .i64 c_.Kind)]) rfl (by kernel_rfl) ⟨H.cell 1 rfl rfl, trivial⟩ fun a hE => ?_
   rcases Bool.eq_false_or_eq_true (c_.Kind == 1) with c | c
   ·replace hE := hE.dec 90 c (by kernel_rfl)
    have c_11 := c
    refine WR.e hE [.int .i64 t_.1.Why] [(94, .bool (t_.1.Why == 0))] (obs := [.cell ⟨r3, 0, none⟩ (.int .i64 t_.1.Why)]) ⟨H.cell 0 rfl rfl, trivial⟩ fun a hE => ?_
    refine hk _ _ ⟨?_, H.t2.t2.t2⟩
    try rw [c_11] at hE
    try rw [c_11]
    exact hE.sel [0, 5, 94] (by kernel_rfl)
   ·replace hE := hE.dec 90 c (by kernel_rfl)
    have c_12 := c
    refine WR.e0 hE [(94, .bool false)] fun a hE => ?_
    refine hk _ _ ⟨?_, H.t2.t2.t2⟩
    try rw [c_12] at hE
    try rw [c_12]
    exact hE.sel [0, 5, 94] (by kernel_rfl)
  rintro a w ⟨hE, H⟩
  obtain ⟨s1, es1, hm⟩ := bind_some hm
  refine Runs.join (fun a w => ∃ (z52 : Option Addr), ∃ (z53 : Nat), EnvOk 106 a [] ∧ St w0 (thicketlaw22_world.R p_w_ (thicketlaw22_world.A.mk al_w_.d_p z5 al_w_.m__p z6 z52 z53) s1 :: As) w) (fun hk => ?_) ?_
  ·replace hm := es1; clear es1
   refine Runs.cond hE rfl (fun c => ?_) (fun c => ?_)
   ·replace hm := cond_t c hm
    refine Runs.drawn mixed (by kernel_rfl) ?_
    replace H := H.drew
    replace H := thicketlaw22_world.open H.t2
    try dsimp only at H
    refine WQ.seg hE [0, 1, 2, 3, 4, 5, 6] [.slice al_w_.told_b s.2.told.length al_w_.told_c, .int .i64 t_.1.Job.At, .int .i64 t_.1.Job.Gen] [95, 99, 101] (Lo := [(95, .pointer (some ⟨p_w_, 0, none⟩)), (99, .slice al_w_.told_b s.2.told.length al_w_.told_c), (101, .agg #[.int .i64 t_.1.Job.At, .int .i64 t_.1.Job.Gen])]) (obs := [.cell ⟨p_w_, 3, none⟩ (.slice al_w_.told_b s.2.told.length al_w_.told_c), .cell ⟨r3, 1, none⟩ (.int .i64 t_.1.Job.At), .cell ⟨r3, 2, none⟩ (.int .i64 t_.1.Job.Gen)]) (by kernel_rfl) (by kernel_rfl) ⟨H.cell 0 rfl rfl, H.cell 4 rfl rfl, H.cell 4 rfl rfl, trivial⟩ fun a hE => ?_
    refine WQ.eff (j := 7) (obs := [.cell ⟨p_w_, 3, none⟩ (.slice al_w_.told_b s.2.told.length al_w_.told_c)]) hE (by kernel_rfl) rfl rfl rfl rfl (by kernel_rfl) (OpTo.buildSl (T := 28) hE H api_Ref.enc_ok ([t_.1.Job] : List api_Ref) rfl (fun _ => by kernel_rfl) rfl rfl rfl) ?_
    rintro _ w ⟨r25, rfl, H⟩
    refine ⟨⟨H.cell 1 rfl rfl, trivial⟩, fun a hE => ?_⟩
    obtain ⟨l, el, hm⟩ := bind_some hm
    replace H := H.t4
    refine WQ.eff (j := 8) (obs := []) hE (by kernel_rfl) rfl rfl rfl rfl (by kernel_rfl) (OpTo.appendM el hE H api_Ref.enc_ok rfl rfl rfl rfl rfl rfl rfl rfl rfl rfl (SlRd.all (sl_rd 28 api_Ref.enc 2 _ _ _) api_Ref.enc_ok H 1 rfl) rfl) ?_
    rintro _ w ⟨sb, sc, rfl, H⟩
    refine ⟨trivial, fun a hE => ?_⟩
    refine WQ.d0 hE [9, 10] [(105, .pointer (some ⟨p_w_, 3, none⟩))] fun a hE => ?_
    refine WQ.eff0 (j := 11) (obs := []) hE (by kernel_rfl) rfl rfl rfl (by kernel_rfl) (OpTo.store hE H.t2 rfl rfl rfl rfl rfl rfl (Nat.le_of_ble_eq_true rfl)) ?_
    rintro _ w H
    refine ⟨trivial, fun a hE => ?_⟩
    refine WQ.done (by kernel_rfl) ?_
    replace H := thicketlaw22_world.shut (thicketlaw22_world.A.mk al_w_.d_p z5 al_w_.m__p z6 sb sc) (thicketlaw22_world.mk s.2.d s.2.m_ s.2.k_ l) H.t1.t4.t4.t3
    cases hm
    exact hk _ _ ⟨sb, sc, hE.sel [] (by kernel_rfl), H.x3.x2.x1⟩
   ·replace hm := cond_f c hm
    refine Runs.skip ?_
    cases hm
    exact hk _ _ ⟨al_w_.told_b, al_w_.told_c, hE.sel [] (by kernel_rfl), H.x1.x0⟩
  rintro a w ⟨z52, z53, hE, H⟩
  refine Runs.sr ?_
  refine WR.seg hE 1 [] [4] (Lo := [(4, .bool true)]) (obs := []) rfl (by kernel_rfl) trivial fun a hE => ?_
  refine WR.done rfl ?_
  refine Runs.ret hE Tryz.func27 rfl rfl ?_
  cases hm
  exact ⟨z5, z6, z52, z53, rfl, H⟩

noncomputable abbrev C27p : List (PK El) := [pO thicketlaw22_world.D, pV api_Command.dv api_Command.val]
noncomputable def C27 (k : Nat) : Con El := mkCon 27 C27p (fun i_ => thicketlaw22_world_do k i_.1.2.2 i_.2.1) 28 14 (fun i_ t ns_ as_ => .bool t.1) (fun i_ t ns_ as_ => thicketlaw22_world.D.flat i_.1.1 (thicketlaw22_world.A.mk i_.1.2.1.d_p (dispatch_Dispatcher.A.mk (nn ns_ 0) (pq_Queues.A.mk (nn ns_ 1) (arena_Arena.A.mk (na as_ 0) (nn ns_ 2) (na as_ 1) (nn ns_ 3) (nn ns_ 4)) (nn ns_ 5) (slots_Table.A.mk (nn ns_ 6) (pool_Pool_slots_heap.A.mk (na as_ 2) (nn ns_ 7) (na as_ 3) (nn ns_ 8)) (nn ns_ 9) (pool_Pool_slots_thing.A.mk (na as_ 4) (nn ns_ 10) (na as_ 5) (nn ns_ 11)) (nn ns_ 12)) (nn ns_ 13)) (nn ns_ 14) (jobs_Table.A.mk (nn ns_ 15) (pool_Pool_jobs_Job.A.mk (na as_ 6) (nn ns_ 16) (na as_ 7) (nn ns_ 17)) (nn ns_ 18)) (nn ns_ 19) (nn ns_ 20)) i_.1.2.1.m__p (thicketref22_Dispatcher.A.mk (nn ns_ 21) (thicketref2_Pool.A.mk (na as_ 8) (nn ns_ 22) (na as_ 9) (nn ns_ 23) (na as_ 10) (nn ns_ 24) (na as_ 11) (nn ns_ 25)) (na as_ 12) (nn ns_ 26)) (na as_ 13) (nn ns_ 27)) t.2)

theorem S27 (k : Nat) : (C27 k).Sound Tryz.prog := fun i_ t hm w0 w F hr H => by
  obtain ⟨⟨p0, l0, x0⟩, x1, _⟩ := i_
  have H2 : St w0 (thicketlaw22_world.R p0 l0 x0 :: F) w := by
    refine (fs0 fun As => thicketlaw22_world.D_st).2 ?_
    exact H
  refine (thicketlaw22_world_do_ok (show thicketlaw22_world_do k x0 x1 = some t from hm) H2).mono ?_
  rintro v w' ⟨e0, e1, e2, e3, hv, H⟩
  refine ⟨[e0.q_p, e0.q_a.a__p, e0.q_a.a__a.l_c, e0.q_a.a__a.free_c, e0.q_a.a__a.m__p, e0.q_a.t__p, e0.q_a.t__a.heaps_p, e0.q_a.t__a.heaps_a.l_c, e0.q_a.t__a.heaps_a.free_c, e0.q_a.t__a.items_p, e0.q_a.t__a.items_a.l_c, e0.q_a.t__a.items_a.free_c, e0.q_a.t__a.at__p, e0.q_a.entries_p, e0.t__p, e0.t__a.p_p, e0.t__a.p_a.l_c, e0.t__a.p_a.free_c, e0.t__a.by__p, e0.when_p, e0.clock_p, e1.Pool_p, e1.Pool_a.Gens_c, e1.Pool_a.In_c, e1.Pool_a.V_c, e1.Pool_a.Back_c, e1.L_c, e3], [e0.q_a.a__a.l_b, e0.q_a.a__a.free_b, e0.q_a.t__a.heaps_a.l_b, e0.q_a.t__a.heaps_a.free_b, e0.q_a.t__a.items_a.l_b, e0.q_a.t__a.items_a.free_b, e0.t__a.p_a.l_b, e0.t__a.p_a.free_b, e1.Pool_a.Gens_b, e1.Pool_a.In_b, e1.Pool_a.V_b, e1.Pool_a.Back_b, e1.L_b, e2], rfl, rfl, hv, ?_, fun _ h => by cases h⟩
  replace H := (fs0 fun As => thicketlaw22_world.D_st).1 H
  exact H

noncomputable def K27 (k : Nat) : SCon El Tryz.prog := ⟨C27 k, S27 k, Tryz.call27⟩

noncomputable abbrev C46p : List (PK El) := [pO jobs_Table.D]
noncomputable def C46 (k : Nat) : Con El := mkCon 46 C46p (fun i_ => jobs_Table_All k i_.1.2.2) 1 1 (fun i_ t ns_ as_ => .slice (na as_ 0) t.length (nn ns_ 0)) (fun i_ t ns_ as_ => [.sl 6 28 (na as_ 0) (nn ns_ 0) t] ++ jobs_Table.D.flat i_.1.1 i_.1.2.1 i_.1.2.2)

theorem S46 (k : Nat) : (C46 k).Sound Tryz.prog :=
  fn_sound mixed (C46 k) (n := 8) (rs := rsOf Tryz.prog 46) [] [1000, 0, 1, 2, 3, 4] (gj (gL 6 1000) [nSk 1000]) (fun i => (.s (.seg 1 []) (.s (.seg 4 [.C 0 0]) (.s (.call (K76 k) [.K 1, .K 2, .K 3] [5, 1, 2, 3]) (.s (.seg 1 []) (.rk [(5, 1000), (1000, 91000)] .ret)))))) Tryz.func46 rfl rfl (by kernel_rfl) (fun _ => rfl) (fun i => by kernel_rfl) (fun i s => by kernel_rfl)

noncomputable def K46 (k : Nat) : SCon El Tryz.prog := ⟨C46 k, S46 k, Tryz.call46⟩

theorem slices_Clone_api_Entry_ok {w0 w : World} {As : List HP} {sb_s : Option Addr} {sc_s : Nat} {s : List api_Entry} {X_s : HP} {t : List api_Entry} (hX_s : SlRd X_s api_Entry.enc 2 sb_s s) (hC_s : s.length ≤ sc_s) (hm : lClone s = some t) (H : St w0 (X_s :: As) w) :
    CallsR Tryz.prog 78 #[.slice sb_s s.length sc_s] w fun v w' => ∃ (sb0 : Option Addr) (sc0 : Nat), v = .slice sb0 t.length sc0 ∧ St w0 (Sl 57 api_Entry.enc 2 sb0 sc0 t :: X_s :: As) w' := by
  unfold lClone at hm
  split at hm
  · rename_i hmx
    cases hm
    have he := api_Entry.enc_ok
    refine enter (args := [.slice sb_s s.length sc_s]) Tryz.func78 rfl rfl rfl fun a hE => ?_
    refine Runs.seq ?_
    refine Runs.region ?_
    refine WR.seg hE 1 [] [0] (Lo := [(0, .slice sb_s s.length sc_s)]) (obs := []) rfl (by kernel_rfl) trivial fun a hE => ?_
    refine WR.done rfl ?_
    refine Runs.seq ?_
    refine Runs.seq ?_
    refine Runs.region ?_
    cases sb_s with
    | none =>
      have hs : s = [] := by
        obtain ⟨h1, _, h⟩ := H.at 0 rfl
        rcases hX_s h1 h with h | ⟨b, off, cs, T, fr, h, _⟩
        · exact h
        · cases h
      subst hs
      refine WR.seg hE 2 [] [4] (Lo := [(4, .bool true)]) (obs := []) rfl (by kernel_rfl) trivial fun a hE => ?_
      refine WR.done rfl ?_
      refine Runs.condT hE rfl ?_
      refine Runs.seq ?_
      refine Runs.region ?_
      refine WR.seg hE 1 [] [2] (Lo := [(2, .slice none 0 0)]) (obs := []) rfl (by kernel_rfl) trivial fun a hE => ?_
      refine WR.done rfl ?_
      refine Runs.ret hE Tryz.func78 rfl rfl ?_
      exact ⟨none, 0, rfl, H.slNil 57 api_Entry.enc 2⟩
    | some ad =>
      refine WR.seg hE 2 [] [0, 4] (Lo := [(0, .slice (some ad) s.length sc_s), (4, .bool false)]) (obs := []) rfl (by kernel_rfl) trivial fun a hE => ?_
      refine WR.done rfl ?_
      refine Runs.condF hE rfl ?_
      refine Runs.skip ?_
      refine Runs.seq ?_
      refine Runs.region ?_
      refine WR.eff hE rfl rfl rfl rfl (OpTo.buildSl (T := 57) hE H he ([] : List api_Entry) rfl (fun _ => by kernel_rfl) rfl rfl rfl) ?_
      rintro _ w ⟨r, rfl, H⟩ a hE
      refine WR.seg hE 2 [] [5, 6] (Lo := [(5, .slice (some ⟨r, 0, none⟩) ([] : List api_Entry).length 0), (6, .slice (some ad) s.length sc_s)]) (obs := []) rfl (by kernel_rfl) trivial fun a hE => ?_
      have happ : mApp ([] : List api_Entry) s = some s := by unfold mApp; rw [if_pos (by simpa using hmx)]; simp
      refine WR.eff hE rfl rfl rfl rfl (OpTo.appendM happ hE H he rfl rfl rfl rfl rfl rfl rfl rfl rfl rfl (SlRd.all hX_s he H 1 rfl) rfl) ?_
      rintro _ w ⟨sb, sc, rfl, H⟩ a hE
      refine WR.seg hE 4 [] [2] (Lo := [(2, .slice sb s.length sc)]) (obs := []) rfl (by kernel_rfl) trivial fun a hE => ?_
      refine WR.done rfl ?_
      refine Runs.ret hE Tryz.func78 rfl rfl ?_
      exact ⟨sb, sc, rfl, H⟩
  · cases hm

noncomputable abbrev C78p : List (PK El) := [pR 11]
noncomputable def C78 : Con El := mkCon 78 C78p (fun i_ => lClone i_.1.2.2) 1 1 (fun i_ t ns_ as_ => .slice (na as_ 0) t.length (nn ns_ 0)) (fun i_ t ns_ as_ => [.sl 11 57 (na as_ 0) (nn ns_ 0) t])

theorem S78 : (C78).Sound Tryz.prog := fun i_ t hm w0 w F hr H => by
  obtain ⟨⟨b0, c0, x0⟩, _⟩ := i_
  obtain ⟨X0, hX, hS, hC⟩ := hr ⟨11, b0, c0, x0⟩ (.head _)
  obtain ⟨F', hF⟩ := rd_take hX
  replace H := (hF _ _ _).1 H
  have hC := rd_cap H hC
  have H2 : St w0 (X0 :: F') w := by
    exact H
  refine (slices_Clone_api_Entry_ok (hX_s := hS) (hC_s := hC) (show lClone x0 = some t from hm) H2).mono ?_
  rintro v w' ⟨e0, e1, hv, H⟩
  refine ⟨[e1], [e0], rfl, rfl, hv, ?_, fun _ h => by cases h⟩
  replace H := H.t1
  exact (hF _ _ _).2 H

noncomputable def K78 : SCon El Tryz.prog := ⟨C78, S78, Tryz.call78⟩

noncomputable abbrev C145p : List (PK El) := [pW 11 57, pI .i64, pI .i64, pK (.func (.func 80) #[] #[])]
noncomputable def C145 (k : Nat) : Con El := mkConM 145 C145p (fun i_ => slices_insertionSortCmpFunc_api_Entry_g80 k i_.1.2.2 i_.2.1 i_.2.2.1) 0 0 (fun i_ t ns_ as_ => .tuple #[]) (fun i_ t ns_ as_ => [.sl 11 57 i_.1.1 i_.1.2.1 t]) (fun i_ t => [t.length = i_.1.2.2.length])

noncomputable abbrev C145r (k : Nat) (i : Ins C145p) : Kn El → VC (C145 k).T := retC Tryz.prog (C145 k) (rsOf Tryz.prog 145) [] [5000] (gj (gL 11 5000) []) i

noncomputable def C145l0 (i_ : Ins C145p) : BCon El ((List api_Entry)) := ⟨nav [1, 0, 0, 1, 0, 0, 1] (bodyOf Tryz.prog 145), Int, Int × (List api_Entry), (List api_Entry), (List api_Entry), fun u => .inr u, fun _ _ => none, fun x_ => [], fun x_ v_ ns_ as_ => [(0, .slice i_.1.1 v_.2.length i_.1.2.1), (1, .int .i64 i_.2.1), (2, .int .i64 i_.2.2.1), (3, .func (.func 80) #[] #[]), (8, .int .i64 (x_)), (9, .int .i64 v_.1)], fun x_ v_ ns_ as_ => zipL [0] [.sl 11 57 i_.1.1 i_.1.2.1 v_.2], 0, 0, fun x_ u_ ns_ as_ => [(0, .slice i_.1.1 u_.length i_.1.2.1), (1, .int .i64 i_.2.1), (2, .int .i64 i_.2.2.1), (3, .func (.func 80) #[] #[]), (8, .int .i64 (x_))], fun x_ u_ ns_ as_ => zipL [0] [.sl 11 57 i_.1.1 i_.1.2.1 u_]⟩

noncomputable def C145l0g (k : Nat) (i_ : Ins C145p) : Nat → (C145l0 i_).X → (C145l0 i_).V → Option (C145l0 i_).W := fun m_ (x_ : Int) (v_ : Int × (List api_Entry)) => slices_insertionSortCmpFunc_api_Entry_g80_l1 i_.2.1 i_.2.2.1 (x_) m_ v_.1 v_.2

theorem C145l0s (k : Nat) (i : Ins C145p) (m : Nat) : ((C145l0 i).at (C145l0g k i) m).Sound Tryz.prog 145 53 (C145r k i) :=
  loop_sound mixed (C145l0 i) (id := 2) (body := nav [1, 0, 0, 1, 0, 0, 1, 0, 0] (bodyOf Tryz.prog 145)) (C145l0g k i) (fun _ => none) (fun u => u) (gj (g2 (gI 9) (gL 11 0)) []) (gj (gL 11 0) []) (fun m => (.join (Bool) 0 0 (gj (gB 34) []) (fun st_ s_ ns_ as_ => ([(34, .bool s_)] ++ kp [0, 1, 2, 3, 8, 9] st_, ka [0] st_)) (.drw (.q [0, 1, 2, 3] [] (.split 21 (.q [4, 5, 6] [] (.s (.idx false 0 (.tmp 24) 107) (.q [7, 8, 9, 10, 11] [.A 107, .X 107 0 0, .X 107 0 1] (.s (.idx false 0 (.tmp 29) 108) (.q [12, 13] [.A 108, .X 108 0 0, .X 108 0 1] (.a 14 (.call (K80 m) [] []) [] (.q [15, 16] [] .leaf))))))) (.q [4, 5, 6, 7, 8, 9, 10, 11, 12, 13, 14, 15, 16] [] .leaf)))) (.cond (.blk (.drw (.q [0, 1, 2, 3, 4, 5, 6, 7] [] (.s (.idx false 0 (.tmp 44) 113) (.q [8, 9, 10, 11] [.A 113, .X 113 0 0, .X 113 0 1] (.s (.idx false 0 (.tmp 48) 114) (.q [12, 13] [.A 114, .X 114 0 0, .X 114 0 1] (.s (.idx false 0 (.tmp 38) 115) (.q [14] [.A 115] (.a 15 (.sset 0 115 0) [] (.s (.rls 115 0) (.s (.rls 115 39) (.s (.idx false 0 (.tmp 41) 116) (.q [16] [.A 116] (.a 17 (.sset 0 116 0) [] (.s (.rls 116 0) (.s (.seg 3 []) .back))))))))))))))))) .leaf))) (by kernel_rfl) (fun _ _ => rfl) (fun r y h => by cases h) (fun u => rfl) (fun m x v n1 n2 => by kernel_rfl) (fun m x v n1 n2 s => by kernel_rfl) m

noncomputable def C145l1 (i_ : Ins C145p) : BCon El ((List api_Entry)) := ⟨nav [1] (bodyOf Tryz.prog 145), Unit, Int × (List api_Entry), (List api_Entry), (List api_Entry), fun u => .inr u, fun _ _ => none, fun x_ => [], fun x_ v_ ns_ as_ => [(0, .slice i_.1.1 v_.2.length i_.1.2.1), (1, .int .i64 i_.2.1), (2, .int .i64 i_.2.2.1), (3, .func (.func 80) #[] #[]), (8, .int .i64 v_.1)], fun x_ v_ ns_ as_ => zipL [0] [.sl 11 57 i_.1.1 i_.1.2.1 v_.2], 0, 0, fun x_ u_ ns_ as_ => [], fun x_ u_ ns_ as_ => zipL [0] [.sl 11 57 i_.1.1 i_.1.2.1 u_]⟩

noncomputable def C145l1g (k : Nat) (i_ : Ins C145p) : Nat → (C145l1 i_).X → (C145l1 i_).V → Option (C145l1 i_).W := fun m_ (x_ : Unit) (v_ : Int × (List api_Entry)) => slices_insertionSortCmpFunc_api_Entry_g80_l0 i_.2.1 i_.2.2.1 m_ v_.1 v_.2

theorem C145l1s (k : Nat) (i : Ins C145p) (m : Nat) : ((C145l1 i).at (C145l1g k i) m).Sound Tryz.prog 145 53 (C145r k i) :=
  loop_sound mixed (C145l1 i) (id := 0) (body := nav [1, 0, 0] (bodyOf Tryz.prog 145)) (C145l1g k i) (fun _ => none) (fun u => u) (gj (g2 (gI 8) (gL 11 0)) []) (gj (gL 11 0) []) (fun m => (.s (.seg 3 []) (.cond (.blk (.s (.seg 2 []) (.loop ⟨(C145l0 i).at (C145l0g k i) m, C145l0s k i m⟩ (gl (gI 8) (g2 (gI 9) (gL 11 0)) []) (.s (.seg 3 []) .back)))) .leaf))) (by kernel_rfl) (fun _ _ => rfl) (fun r y h => by cases h) (fun u => rfl) (fun m x v n1 n2 => by kernel_rfl) (fun m x v n1 n2 s => by kernel_rfl) m

theorem S145 (k : Nat) : (C145 k).Sound Tryz.prog :=
  fn_sound mixed (C145 k) (n := 53) (rs := rsOf Tryz.prog 145) [] [5000] (gj (gL 11 5000) []) (fun i => (.s (.seg 3 []) (.loop ⟨(C145l1 i).at (C145l1g k i) k, C145l1s k i k⟩ (gl gU (g2 (gI 8) (gL 11 0)) []) (.s (.same 0 (i.1.2.2.length)) (.rk [(0, 5000), (5000, 95000)] .leaf))))) Tryz.func145 rfl rfl (by kernel_rfl) (fun _ => rfl) (fun i => by kernel_rfl) (fun i s => by kernel_rfl)

noncomputable def K145 (k : Nat) : SCon El Tryz.prog := ⟨C145 k, S145 k, Tryz.call145⟩

noncomputable abbrev C109p : List (PK El) := [pW 11 57, pI .i64, pK (.func (.func 80) #[] #[])]
noncomputable def C109 (k : Nat) : Con El := mkConM 109 C109p (fun i_ => slices_stableCmpFunc_api_Entry_g80 k i_.1.2.2 i_.2.1) 0 0 (fun i_ t ns_ as_ => .tuple #[]) (fun i_ t ns_ as_ => [.sl 11 57 i_.1.1 i_.1.2.1 t]) (fun i_ t => [t.length = i_.1.2.2.length])

noncomputable abbrev C109r (k : Nat) (i : Ins C109p) : Kn El → VC (C109 k).T := retC Tryz.prog (C109 k) (rsOf Tryz.prog 109) [] [5000] (gj (gL 11 5000) []) i

noncomputable def C109l0 (i_ : Ins C109p) : BCon El ((List api_Entry)) := ⟨nav [1, 1, 0] (bodyOf Tryz.prog 109), Unit, Int × Int × (List api_Entry), Int × (List api_Entry), Int × (List api_Entry), fun u => .inr u, fun _ _ => none, fun x_ => [], fun x_ v_ ns_ as_ => [(0, .slice i_.1.1 v_.2.2.length i_.1.2.1), (1, .int .i64 i_.2.1), (2, .func (.func 80) #[] #[]), (6, .int .i64 20), (7, .int .i64 v_.1), (8, .int .i64 v_.2.1)], fun x_ v_ ns_ as_ => zipL [0] [.sl 11 57 i_.1.1 i_.1.2.1 v_.2.2], 0, 0, fun x_ u_ ns_ as_ => [(0, .slice i_.1.1 u_.2.length i_.1.2.1), (1, .int .i64 i_.2.1), (2, .func (.func 80) #[] #[]), (6, .int .i64 20), (7, .int .i64 u_.1)], fun x_ u_ ns_ as_ => zipL [0] [.sl 11 57 i_.1.1 i_.1.2.1 u_.2]⟩

noncomputable def C109l0g (k : Nat) (i_ : Ins C109p) : Nat → (C109l0 i_).X → (C109l0 i_).V → Option (C109l0 i_).W := fun m_ (x_ : Unit) (v_ : Int × Int × (List api_Entry)) => slices_stableCmpFunc_api_Entry_g80_l0 i_.2.1 m_ v_.1 v_.2.1 v_.2.2

theorem C109l0s (k : Nat) (i : Ins C109p) (m : Nat) : ((C109l0 i).at (C109l0g k i) m).Sound Tryz.prog 109 63 (C109r k i) :=
  loop_sound mixed (C109l0 i) (id := 0) (body := nav [1, 1, 0, 0, 0] (bodyOf Tryz.prog 109)) (C109l0g k i) (fun _ => none) (fun u => u) (gj (g2 (gI 7) (g2 (gI 8) (gL 11 0))) []) (gj (g2 (gI 7) (gL 11 0)) []) (fun m => (.s (.seg 3 []) (.cond (.blk (.s (.seg 4 []) (.s (.call (K145 m) [.K 0] [0]) (.s (.rlp 0 0) (.s (.rlp 14 0) (.s (.seg 2 []) (.s (.seg 4 []) .back))))))) .leaf))) (by kernel_rfl) (fun _ _ => rfl) (fun r y h => by cases h) (fun u => rfl) (fun m x v n1 n2 => by kernel_rfl) (fun m x v n1 n2 s => by kernel_rfl) m

noncomputable def C109l1 (i_ : Ins C109p) : BCon El ((List api_Entry)) := ⟨nav [1, 1, 1, 1, 0, 0, 1, 0, 1, 0] (bodyOf Tryz.prog 109), (List api_Entry) × Int, Int × Int, Int, Int, fun u => .inr u, fun _ _ => none, fun x_ => [], fun x_ v_ ns_ as_ => [(0, .slice i_.1.1 (x_.1).length i_.1.2.1), (1, .int .i64 i_.2.1), (2, .func (.func 80) #[] #[]), (6, .int .i64 (x_.2)), (7, .int .i64 v_.1), (8, .int .i64 v_.2)], fun x_ v_ ns_ as_ => zipL [0] [.sl 11 57 i_.1.1 i_.1.2.1 (x_.1)], 0, 0, fun x_ u_ ns_ as_ => [(0, .slice i_.1.1 (x_.1).length i_.1.2.1), (1, .int .i64 i_.2.1), (2, .func (.func 80) #[] #[]), (6, .int .i64 (x_.2)), (7, .int .i64 u_)], fun x_ u_ ns_ as_ => zipL [0] [.sl 11 57 i_.1.1 i_.1.2.1 (x_.1)]⟩

noncomputable def C109l1g (k : Nat) (i_ : Ins C109p) : Nat → (C109l1 i_).X → (C109l1 i_).V → Option (C109l1 i_).W := fun m_ (x_ : (List api_Entry) × Int) (v_ : Int × Int) => slices_stableCmpFunc_api_Entry_g80_l2 i_.2.1 (x_.2) (x_.1) m_ v_.1 v_.2

theorem C109l1s (k : Nat) (i : Ins C109p) (m : Nat) : ((C109l1 i).at (C109l1g k i) m).Sound Tryz.prog 109 63 (C109r k i) :=
  loop_sound mixed (C109l1 i) (id := 4) (body := nav [1, 1, 1, 1, 0, 0, 1, 0, 1, 0, 0, 0] (bodyOf Tryz.prog 109)) (C109l1g k i) (fun _ => none) (fun u => u) (gj (g2 (gI 7) (gI 8)) []) (gj (gI 7) []) (fun m => (.s (.seg 3 []) (.cond (.blk .dead) .leaf))) (by kernel_rfl) (fun _ _ => rfl) (fun r y h => by cases h) (fun u => rfl) (fun m x v n1 n2 => by kernel_rfl) (fun m x v n1 n2 s => by kernel_rfl) m

noncomputable def C109l2 (i_ : Ins C109p) : BCon El ((List api_Entry)) := ⟨nav [1, 1, 1, 1] (bodyOf Tryz.prog 109), (List api_Entry), Int, Unit, Unit, fun u => .inr u, fun _ _ => none, fun x_ => [], fun x_ v_ ns_ as_ => [(0, .slice i_.1.1 (x_).length i_.1.2.1), (1, .int .i64 i_.2.1), (2, .func (.func 80) #[] #[]), (6, .int .i64 v_)], fun x_ v_ ns_ as_ => zipL [0] [.sl 11 57 i_.1.1 i_.1.2.1 (x_)], 0, 0, fun x_ u_ ns_ as_ => [], fun x_ u_ ns_ as_ => zipL [0] [.sl 11 57 i_.1.1 i_.1.2.1 (x_)]⟩

noncomputable def C109l2g (k : Nat) (i_ : Ins C109p) : Nat → (C109l2 i_).X → (C109l2 i_).V → Option (C109l2 i_).W := fun m_ (x_ : (List api_Entry)) (v_ : Int) => slices_stableCmpFunc_api_Entry_g80_l1 i_.2.1 (x_) m_ v_

theorem C109l2s (k : Nat) (i : Ins C109p) (m : Nat) : ((C109l2 i).at (C109l2g k i) m).Sound Tryz.prog 109 63 (C109r k i) :=
  loop_sound mixed (C109l2 i) (id := 2) (body := nav [1, 1, 1, 1, 0, 0] (bodyOf Tryz.prog 109)) (C109l2g k i) (fun _ => none) (fun u => u) (gj (gI 6) []) (gj gU []) (fun m => (.s (.seg 3 []) (.cond (.blk (.s (.seg 4 []) (.loop ⟨(C109l1 i).at (C109l1g k i) m, C109l1s k i m⟩ (gl (g2 (gL 11 0) (gI 6)) (g2 (gI 7) (gI 8)) []) (.s (.seg 4 []) (.s (.seg 3 []) (.join (Unit) 0 0 (gj gU []) (fun st_ s_ ns_ as_ => ([] ++ kp [0, 1, 2, 6] st_, ka [0] st_)) (.cond .dead .leaf) (.s (.seg 3 []) .back))))))) .leaf))) (by kernel_rfl) (fun _ _ => rfl) (fun r y h => by cases h) (fun u => rfl) (fun m x v n1 n2 => by kernel_rfl) (fun m x v n1 n2 s => by kernel_rfl) m

theorem S109 (k : Nat) : (C109 k).Sound Tryz.prog :=
  fn_sound mixed (C109 k) (n := 63) (rs := rsOf Tryz.prog 109) [] [5000] (gj (gL 11 5000) []) (fun i => (.s (.seg 1 []) (.s (.seg 3 []) (.loop ⟨(C109l0 i).at (C109l0g k i) k, C109l0s k i k⟩ (gl gU (g2 (gI 7) (g2 (gI 8) (gL 11 0))) []) (.s (.seg 4 []) (.s (.call (K145 k) [.K 0] [0]) (.s (.rlp 0 0) (.s (.rlp 23 0) (.loop ⟨(C109l2 i).at (C109l2g k i) k, C109l2s k i k⟩ (gl (gL 11 0) (gI 6) []) (.s (.same 0 (i.1.2.2.length)) (.rk [(0, 5000), (5000, 95000)] .leaf))))))))))) Tryz.func109 rfl rfl (by kernel_rfl) (fun _ => rfl) (fun i => by kernel_rfl) (fun i s => by kernel_rfl)

noncomputable def K109 (k : Nat) : SCon El Tryz.prog := ⟨C109 k, S109 k, Tryz.call109⟩

noncomputable abbrev C79p : List (PK El) := [pW 11 57, pK (.func (.func 80) #[] #[])]
noncomputable def C79 (k : Nat) : Con El := mkConM 79 C79p (fun i_ => slices_SortStableFunc_api_Entry_g80 k i_.1.2.2) 0 0 (fun i_ t ns_ as_ => .tuple #[]) (fun i_ t ns_ as_ => [.sl 11 57 i_.1.1 i_.1.2.1 t]) (fun i_ t => [t.length = i_.1.2.2.length])

theorem S79 (k : Nat) : (C79 k).Sound Tryz.prog :=
  fn_sound mixed (C79 k) (n := 9) (rs := rsOf Tryz.prog 79) [] [5000] (gj (gL 11 5000) []) (fun i => (.s (.seg 4 []) (.s (.call (K109 k) [.K 0] [0]) (.s (.rlp 4 0) (.s (.same 0 (i.1.2.2.length)) (.rk [(0, 5000), (5000, 95000)] .leaf)))))) Tryz.func79 rfl rfl (by kernel_rfl) (fun _ => rfl) (fun i => by kernel_rfl) (fun i s => by kernel_rfl)

noncomputable def K79 (k : Nat) : SCon El Tryz.prog := ⟨C79 k, S79 k, Tryz.call79⟩

noncomputable abbrev C50p : List (PK El) := [pR 11]
noncomputable def C50 (k : Nat) : Con El := mkCon 50 C50p (fun i_ => order_Sort k i_.1.2.2) 1 1 (fun i_ t ns_ as_ => .slice (na as_ 0) t.length (nn ns_ 0)) (fun i_ t ns_ as_ => [.sl 11 57 (na as_ 0) (nn ns_ 0) t])

theorem S50 (k : Nat) : (C50 k).Sound Tryz.prog :=
  fn_sound mixed (C50 k) (n := 9) (rs := rsOf Tryz.prog 50) [] [1000] (gj (gL 11 1000) [nSk 1000]) (fun i => (.s (.seg 1 []) (.s (.seg 1 []) (.s (.call K78 [.R 0] [0]) (.s (.seg 1 []) (.s (.seg 1 []) (.s (.call (K79 k) [.K 0] [0]) (.s (.rlp 3 0) (.s (.rlp 6 0) (.s (.seg 2 []) (.rk [(0, 1000), (1000, 91000)] .ret))))))))))) Tryz.func50 rfl rfl (by kernel_rfl) (fun _ => rfl) (fun i => by kernel_rfl) (fun i s => by kernel_rfl)

noncomputable def K50 (k : Nat) : SCon El Tryz.prog := ⟨C50 k, S50 k, Tryz.call50⟩

noncomputable abbrev C25p : List (PK El) := [pO dispatch_Dispatcher.D, pI .i64]
noncomputable def C25 (k : Nat) : Con El := mkCon 25 C25p (fun i_ => dispatch_Dispatcher_Jobs k i_.1.2.2 i_.2.1) 1 1 (fun i_ t ns_ as_ => .slice (na as_ 0) t.length (nn ns_ 0)) (fun i_ t ns_ as_ => [.sl 11 57 (na as_ 0) (nn ns_ 0) t] ++ dispatch_Dispatcher.D.flat i_.1.1 i_.1.2.1 i_.1.2.2)

noncomputable abbrev C25r (k : Nat) (i : Ins C25p) : Kn El → VC (C25 k).T := retC Tryz.prog (C25 k) (rsOf Tryz.prog 25) [] [1000, 0, 1, 2, 3, 4, 5, 6, 7, 8, 9, 10, 11, 12, 13, 14, 15, 16, 17, 18, 19, 20, 21] (gj (gL 11 1000) [nSk 1000]) i

noncomputable def C25l0 (i_ : Ins C25p) : BCon El ((List api_Entry)) := ⟨nav [1, 1, 0, 1] (bodyOf Tryz.prog 25), (List api_Ref) × (Option Addr × Nat) × Int, (List api_Entry) × Int, (List api_Entry), (List api_Entry), fun u => .inr u, fun _ _ => none, fun x_ => [], fun x_ v_ ns_ as_ => [(0, .pointer (some ⟨i_.1.1, 0, none⟩)), (1, .int .i64 i_.2.1), (5, .slice (na as_ 0) v_.1.length (nn ns_ 0)), (14, .slice (x_.2.1.1) (x_.1).length (x_.2.1.2)), (15, .int .i64 (x_.2.2)), (16, .int .i64 v_.2)], fun x_ v_ ns_ as_ => zipL [56] [.sl 11 57 (na as_ 0) (nn ns_ 0) v_.1] ++ zipL [0, 1, 2, 3, 4, 5, 6, 7, 8, 9, 10, 11, 12, 13, 14, 15, 16, 17, 18, 19, 20, 21] (dispatch_Dispatcher.D.flat i_.1.1 i_.1.2.1 i_.1.2.2) ++ zipL [22] [.sl 6 28 (x_.2.1.1) (x_.2.1.2) (x_.1)], 1, 1, fun x_ u_ ns_ as_ => [(5, .slice (na as_ 0) u_.length (nn ns_ 0))], fun x_ u_ ns_ as_ => zipL [55] [.sl 11 57 (na as_ 0) (nn ns_ 0) u_] ++ zipL [0, 1, 2, 3, 4, 5, 6, 7, 8, 9, 10, 11, 12, 13, 14, 15, 16, 17, 18, 19, 20, 21] (dispatch_Dispatcher.D.flat i_.1.1 i_.1.2.1 i_.1.2.2)⟩

noncomputable def C25l0g (k : Nat) (i_ : Ins C25p) : Nat → (C25l0 i_).X → (C25l0 i_).V → Option (C25l0 i_).W := fun m_ (x_ : (List api_Ref) × (Option Addr × Nat) × Int) (v_ : (List api_Entry) × Int) => dispatch_Dispatcher_Jobs_l0 i_.2.1 (x_.2.2) i_.1.2.2 (x_.1) m_ v_.1 v_.2

theorem C25l0s (k : Nat) (i : Ins C25p) (m : Nat) : ((C25l0 i).at (C25l0g k i) m).Sound Tryz.prog 25 48 (C25r k i) :=
  loop_sound mixed (C25l0 i) (id := 0) (body := nav [1, 1, 0, 1, 0, 0] (bodyOf Tryz.prog 25)) (C25l0g k i) (fun _ => none) (fun u => u) (gj (g2 (gL 11 56) (gI 16)) [nSk 56]) (gj (gL 11 55) [nSk 55]) (fun m => (.s (.seg 1 []) (.cond (.join ((List api_Entry)) 1 1 (gj (gL 11 65) [nSk 65]) (fun st_ s_ ns_ as_ => ([(5, .slice (na as_ 0) s_.length (nn ns_ 0))] ++ kp [0, 1, 14, 15, 16] st_, ka [0, 1, 2, 3, 4, 5, 6, 7, 8, 9, 10, 11, 12, 13, 14, 15, 16, 17, 18, 19, 20, 21, 22] st_ ++ zipL [65] [.sl 11 57 (na as_ 0) (nn ns_ 0) s_])) (.blk (.s (.idx false 22 (.tmp 16) 5) (.s (.seg 2 [.A 5, .X 5 22 0, .X 5 22 1]) (.s (.new 66 []) (.s (.sto 66) (.jg (jobs_Job) 1 0 (gj (gC 69 0 5 jobs_Job.dec) [nPk 69]) (fun st_ s_ ns_ as_ => ([(8, .pointer (some ⟨(nn ns_ 0), 0, none⟩))] ++ kp [0, 1, 5, 7, 14, 15, 16] st_, ka [66, 56, 0, 1, 2, 3, 4, 5, 6, 7, 8, 9, 10, 11, 12, 13, 14, 15, 16, 17, 18, 19, 20, 21, 22] st_ ++ zipL [69] [.blk (nn ns_ 0) 91 [.int .i64 s_.Queue, .int .i64 s_.Time, .int .i64 s_.Data, .int .i64 s_.Item.At, .int .i64 s_.Item.Gen]])) (.drw (.q [0, 1, 2, 3, 4] [.C 0 7, .C 66 0, .C 66 1] (.alt2 5 (.call K47 [.K 15, .K 16, .K 17, .K 18, .K 19] [15, 16, 17, 18, 19]) [] (.q [6, 7, 8] [] (.a 9 (.new 70 []) [] (.a 10 (.sto 70) [] (.q [11] [] (.rk [(70, 69), (69, 90069)] .leaf))))) 9 (.new 71 []) [.C 66 0, .C 66 1, .C 0 7] (.a 5 (.call K47 [.K 15, .K 16, .K 17, .K 18, .K 19] [15, 16, 17, 18, 19]) [] (.q [6, 7, 8] [] (.a 10 (.sto 71) [] (.q [11] [] (.rk [(71, 69), (69, 90069)] .leaf)))))))) (.s (.seg 4 [.C 69 0]) (.cond (.drw (.q [0, 1, 2, 3, 4, 5, 6, 7] [.C 69 1, .C 0 8, .C 66 0, .C 66 1] (.a 8 (.mget 20 3 28 api_Ref.key_ok (0 : Int)) [.C 69 1] (.q [9] [] (.a 10 (.bld 73 11 57) [] (.a 11 (.app 56 (.O 73)) [] (.q [12] [] (.rk [(56, 65), (65, 90065)] .leaf)))))))) (.rk [(56, 65), (65, 90065)] .leaf))))))))) (.s (.seg 2 []) (.rk [(65, 56), (56, 90056)] .back))) (.rk [(56, 55), (55, 90055)] .leaf)))) (by kernel_rfl) (fun _ _ => rfl) (fun r y h => by cases h) (fun u => rfl) (fun m x v n1 n2 => by kernel_rfl) (fun m x v n1 n2 s => by kernel_rfl) m

theorem S25 (k : Nat) : (C25 k).Sound Tryz.prog :=
  fn_sound mixed (C25 k) (n := 48) (rs := rsOf Tryz.prog 25) [] [1000, 0, 1, 2, 3, 4, 5, 6, 7, 8, 9, 10, 11, 12, 13, 14, 15, 16, 17, 18, 19, 20, 21] (gj (gL 11 1000) [nSk 1000]) (fun i => (.s (.seg 1 []) (.s (.seg 1 []) (.s (.seg 4 [.C 0 7]) (.s (.call (K46 k) [.K 15, .K 16, .K 17, .K 18, .K 19] [22, 15, 16, 17, 18, 19]) (.s (.seg 2 []) (.s (.nil 57 11 57) (.rk [(57, 56), (56, 90056)] (.loop ⟨(C25l0 i).at (C25l0g k i) k, C25l0s k i k⟩ (gl (g2 (gL 6 22) (g2 (gh 22) (gI 15))) (g2 (gL 11 56) (gI 16)) [nSk 56]) (.s (.seg 1 []) (.s (.call (K50 k) [.O 55] [89]) (.s (.seg 1 []) (.rk [(89, 1000), (1000, 91000)] .ret))))))))))))) Tryz.func25 rfl rfl (by kernel_rfl) (fun _ => rfl) (fun i => by kernel_rfl) (fun i s => by kernel_rfl)

noncomputable def K25 (k : Nat) : SCon El Tryz.prog := ⟨C25 k, S25 k, Tryz.call25⟩

noncomputable abbrev C96p : List (PK El) := [pR 11]
noncomputable def C96 (k : Nat) : Con El := mkCon 96 C96p (fun i_ => thicketref1_Sort k i_.1.2.2) 1 1 (fun i_ t ns_ as_ => .slice (na as_ 0) t.length (nn ns_ 0)) (fun i_ t ns_ as_ => [.sl 11 57 (na as_ 0) (nn ns_ 0) t])

noncomputable abbrev C96r (k : Nat) (i : Ins C96p) : Kn El → VC (C96 k).T := retC Tryz.prog (C96 k) (rsOf Tryz.prog 96) [] [1000] (gj (gL 11 1000) [nSk 1000]) i

noncomputable def C96l0 (i_ : Ins C96p) : BCon El ((List api_Entry)) := ⟨nav [1, 1, 0, 1, 0, 0, 1, 0, 0, 1, 0] (bodyOf Tryz.prog 96), (List api_Entry) × (Option Addr × Nat) × Int, Int, Int, Int, fun u => .inr u, fun _ _ => none, fun x_ => [(0, ⟨11, i_.1.1, i_.1.2.1, i_.1.2.2⟩)], fun x_ v_ ns_ as_ => [(0, .slice i_.1.1 i_.1.2.2.length i_.1.2.1), (3, .slice (x_.2.1.1) (x_.1).length (x_.2.1.2)), (4, .int .i64 (x_.2.2)), (5, .int .i64 v_)], fun x_ v_ ns_ as_ => zipL [19] [.sl 11 57 (x_.2.1.1) (x_.2.1.2) (x_.1)], 0, 0, fun x_ u_ ns_ as_ => [(0, .slice i_.1.1 i_.1.2.2.length i_.1.2.1), (3, .slice (x_.2.1.1) (x_.1).length (x_.2.1.2)), (4, .int .i64 (x_.2.2)), (5, .int .i64 u_)], fun x_ u_ ns_ as_ => zipL [19] [.sl 11 57 (x_.2.1.1) (x_.2.1.2) (x_.1)]⟩

noncomputable def C96l0g (k : Nat) (i_ : Ins C96p) : Nat → (C96l0 i_).X → (C96l0 i_).V → Option (C96l0 i_).W := fun m_ (x_ : (List api_Entry) × (Option Addr × Nat) × Int) (v_ : Int) => thicketref1_Sort_l1 (x_.2.2) (x_.1) i_.1.2.2 m_ v_

theorem C96l0s (k : Nat) (i : Ins C96p) (m : Nat) : ((C96l0 i).at (C96l0g k i) m).Sound Tryz.prog 96 46 (C96r k i) :=
  loop_sound mixed (C96l0 i) (id := 2) (body := nav [1, 1, 0, 1, 0, 0, 1, 0, 0, 1, 0, 0, 0] (bodyOf Tryz.prog 96)) (C96l0g k i) (fun _ => none) (fun u => u) (gj (gI 5) []) (gj (gI 5) []) (fun m => (.join (Bool) 0 0 (gj (gB 27) []) (fun st_ s_ ns_ as_ => ([(27, .bool s_)] ++ kp [0, 3, 4, 5] st_, ka [19] st_)) (.drw (.q [0, 1, 2] [] (.split 16 (.q [3, 4] [] (.s (.idx true 0 (.tmp 18) 61) (.q [5, 6, 7, 8, 9] [.A 61, .R 61 0, .R 61 1] (.s (.idx false 19 (.tmp 23) 62) (.q [10, 11] [.A 62, .X 62 19 0, .X 62 19 1] (.a 12 (.call K140 [] []) [] (.q [13] [] .leaf))))))) (.q [3, 4, 5, 6, 7, 8, 9, 10, 11, 12, 13] [] .leaf)))) (.cond (.blk (.s (.seg 3 []) .back)) .leaf))) (by kernel_rfl) (fun _ _ => rfl) (fun r y h => by cases h) (fun u => rfl) (fun m x v n1 n2 => by kernel_rfl) (fun m x v n1 n2 s => by kernel_rfl) m

noncomputable def C96l1 (i_ : Ins C96p) : BCon El ((List api_Entry)) := ⟨nav [1, 1, 0, 1] (bodyOf Tryz.prog 96), Unit, (List api_Entry) × Int, (List api_Entry), (List api_Entry), fun u => .inr u, fun _ _ => none, fun x_ => [(0, ⟨11, i_.1.1, i_.1.2.1, i_.1.2.2⟩)], fun x_ v_ ns_ as_ => [(0, .slice i_.1.1 i_.1.2.2.length i_.1.2.1), (3, .slice (na as_ 0) v_.1.length (nn ns_ 0)), (4, .int .i64 v_.2)], fun x_ v_ ns_ as_ => zipL [19] [.sl 11 57 (na as_ 0) (nn ns_ 0) v_.1], 1, 1, fun x_ u_ ns_ as_ => [(3, .slice (na as_ 0) u_.length (nn ns_ 0))], fun x_ u_ ns_ as_ => zipL [18] [.sl 11 57 (na as_ 0) (nn ns_ 0) u_]⟩

noncomputable def C96l1g (k : Nat) (i_ : Ins C96p) : Nat → (C96l1 i_).X → (C96l1 i_).V → Option (C96l1 i_).W := fun m_ (x_ : Unit) (v_ : (List api_Entry) × Int) => thicketref1_Sort_l0 i_.1.2.2 m_ v_.1 v_.2

theorem C96l1s (k : Nat) (i : Ins C96p) (m : Nat) : ((C96l1 i).at (C96l1g k i) m).Sound Tryz.prog 96 46 (C96r k i) :=
  loop_sound mixed (C96l1 i) (id := 0) (body := nav [1, 1, 0, 1, 0, 0] (bodyOf Tryz.prog 96)) (C96l1g k i) (fun _ => none) (fun u => u) (gj (g2 (gL 11 19) (gI 4)) [nSk 19]) (gj (gL 11 18) [nSk 18]) (fun m => (.s (.seg 4 []) (.cond (.blk (.s (.seg 3 []) (.loop ⟨(C96l0 i).at (C96l0g k i) m, C96l0s k i m⟩ (gl (g2 (gL 11 19) (g2 (gh 19) (gI 4))) (gI 5) []) (.jg ((List api_Entry)) 1 1 (gj (gL 11 24) [nSk 24]) (fun st_ s_ ns_ as_ => ([(3, .slice (na as_ 0) s_.length (nn ns_ 0))] ++ kp [0, 4] st_, ka [] st_ ++ zipL [24] [.sl 11 57 (na as_ 0) (nn ns_ 0) s_])) (.drw (.q [1, 2] [] (.s (.cut false 19 none (some (.tmp 32)) 1074) (.q [3, 5, 6] [.W 1074] (.s (.idx true 0 (.tmp 36) 75) (.q [7, 8, 11, 12] [.A 75, .R 75 0, .R 75 1] (.s (.cut false 19 (some (.tmp 42)) none 1076) (.q [13] [.W 1076] (.alt2 0 (.bld 25 11 57) [.W 1076, .R 75 0, .R 75 1, .A 75, .W 1074] (.alt2 4 (.app 25 (.W 1074 19)) [.W 1076, .R 75 0, .R 75 1, .A 75] (.a 9 (.bld 26 11 57) [.W 1076] (.a 10 (.app 25 (.O 26)) [.W 1076] (.a 14 (.app 25 (.W 1076 19)) [] (.q [15] [] (.rk [(25, 24), (24, 90024)] .leaf))))) 9 (.bld 27 11 57) [.W 1076, .W 1074] (.a 4 (.app 25 (.W 1074 19)) [.W 1076] (.a 10 (.app 25 (.O 27)) [.W 1076] (.a 14 (.app 25 (.W 1076 19)) [] (.q [15] [] (.rk [(25, 24), (24, 90024)] .leaf)))))) 9 (.bld 28 11 57) [.W 1076, .W 1074] (.a 0 (.bld 29 11 57) [.W 1076, .W 1074] (.a 4 (.app 29 (.W 1074 19)) [.W 1076] (.a 10 (.app 29 (.O 28)) [.W 1076] (.a 14 (.app 29 (.W 1076 19)) [] (.q [15] [] (.rk [(29, 24), (24, 90024)] .leaf))))))))))))))) (.s (.seg 3 []) (.rk [(24, 19), (19, 90019)] .back)))))) (.rk [(19, 18), (18, 90018)] .leaf)))) (by kernel_rfl) (fun _ _ => rfl) (fun r y h => by cases h) (fun u => rfl) (fun m x v n1 n2 => by kernel_rfl) (fun m x v n1 n2 s => by kernel_rfl) m

theorem S96 (k : Nat) : (C96 k).Sound Tryz.prog :=
  fn_sound mixed (C96 k) (n := 46) (rs := rsOf Tryz.prog 96) [] [1000] (gj (gL 11 1000) [nSk 1000]) (fun i => (.s (.seg 1 []) (.s (.seg 1 []) (.s (.seg 1 []) (.s (.nil 20 11 57) (.rk [(20, 19), (19, 90019)] (.loop ⟨(C96l1 i).at (C96l1g k i) k, C96l1s k i k⟩ (gl gU (g2 (gL 11 19) (gI 4)) [nSk 19]) (.s (.seg 2 []) (.rk [(18, 1000), (1000, 91000)] .ret))))))))) Tryz.func96 rfl rfl (by kernel_rfl) (fun _ => rfl) (fun i => by kernel_rfl) (fun i s => by kernel_rfl)

noncomputable def K96 (k : Nat) : SCon El Tryz.prog := ⟨C96 k, S96 k, Tryz.call96⟩

noncomputable abbrev C59p : List (PK El) := [pO thicketref22_Dispatcher.D, pI .i64]
noncomputable def C59 (k : Nat) : Con El := mkCon 59 C59p (fun i_ => thicketref22_Dispatcher_Jobs k i_.1.2.2 i_.2.1) 1 1 (fun i_ t ns_ as_ => .slice (na as_ 0) t.length (nn ns_ 0)) (fun i_ t ns_ as_ => [.sl 11 57 (na as_ 0) (nn ns_ 0) t] ++ thicketref22_Dispatcher.D.flat i_.1.1 i_.1.2.1 i_.1.2.2)

noncomputable abbrev C59r (k : Nat) (i : Ins C59p) : Kn El → VC (C59 k).T := retC Tryz.prog (C59 k) (rsOf Tryz.prog 59) [] [1000, 0, 1, 2, 3, 4, 5, 6] (gj (gL 11 1000) [nSk 1000]) i

noncomputable def C59l0 (i_ : Ins C59p) : BCon El ((List api_Entry)) := ⟨nav [1, 1, 0, 1] (bodyOf Tryz.prog 59), Unit, (List api_Entry) × Int, (List api_Entry), (List api_Entry), fun u => .inr u, fun _ _ => none, fun x_ => [], fun x_ v_ ns_ as_ => [(0, .pointer (some ⟨i_.1.1, 0, none⟩)), (1, .int .i64 i_.2.1), (5, .slice (na as_ 0) v_.1.length (nn ns_ 0)), (6, .int .i64 v_.2)], fun x_ v_ ns_ as_ => zipL [16] [.sl 11 57 (na as_ 0) (nn ns_ 0) v_.1] ++ zipL [0, 1, 2, 3, 4, 5, 6] (thicketref22_Dispatcher.D.flat i_.1.1 i_.1.2.1 i_.1.2.2), 1, 1, fun x_ u_ ns_ as_ => [(5, .slice (na as_ 0) u_.length (nn ns_ 0))], fun x_ u_ ns_ as_ => zipL [15] [.sl 11 57 (na as_ 0) (nn ns_ 0) u_] ++ zipL [0, 1, 2, 3, 4, 5, 6] (thicketref22_Dispatcher.D.flat i_.1.1 i_.1.2.1 i_.1.2.2)⟩

noncomputable def C59l0g (k : Nat) (i_ : Ins C59p) : Nat → (C59l0 i_).X → (C59l0 i_).V → Option (C59l0 i_).W := fun m_ (x_ : Unit) (v_ : (List api_Entry) × Int) => thicketref22_Dispatcher_Jobs_l0 i_.2.1 i_.1.2.2 m_ v_.1 v_.2

theorem C59l0s (k : Nat) (i : Ins C59p) (m : Nat) : ((C59l0 i).at (C59l0g k i) m).Sound Tryz.prog 59 39 (C59r k i) :=
  loop_sound mixed (C59l0 i) (id := 0) (body := nav [1, 1, 0, 1, 0, 0] (bodyOf Tryz.prog 59)) (C59l0g k i) (fun _ => none) (fun u => u) (gj (g2 (gL 11 16) (gI 6)) [nSk 16]) (gj (gL 11 15) [nSk 15]) (fun m => (.s (.seg 7 [.C 0 4]) (.cond (.join ((List api_Entry)) 1 1 (gj (gL 11 19) [nSk 19]) (fun st_ s_ ns_ as_ => ([(5, .slice (na as_ 0) s_.length (nn ns_ 0))] ++ kp [0, 1, 6] st_, ka [0, 1, 2, 3, 4, 5, 6] st_ ++ zipL [19] [.sl 11 57 (na as_ 0) (nn ns_ 0) s_])) (.blk (.s (.seg 5 [.C 0 4]) (.s (.idx false 6 (.tmp 20) 10) (.s (.seg 5 [.A 10, .X 10 6 0]) (.cond (.s (.seg 6 [.C 0 4]) (.s (.idx false 6 (.tmp 31) 11) (.s (.seg 3 [.A 11, .X 11 6 2, .X 11 6 3]) (.s (.bld 20 11 57) (.s (.app 16 (.O 20)) (.s (.seg 1 []) (.rk [(16, 19), (19, 90019)] .leaf))))))) (.rk [(16, 19), (19, 90019)] .leaf)))))) (.s (.seg 3 []) (.rk [(19, 16), (16, 90016)] .back))) (.rk [(16, 15), (15, 90015)] .leaf)))) (by kernel_rfl) (fun _ _ => rfl) (fun r y h => by cases h) (fun u => rfl) (fun m x v n1 n2 => by kernel_rfl) (fun m x v n1 n2 s => by kernel_rfl) m

theorem S59 (k : Nat) : (C59 k).Sound Tryz.prog :=
  fn_sound mixed (C59 k) (n := 39) (rs := rsOf Tryz.prog 59) [] [1000, 0, 1, 2, 3, 4, 5, 6] (gj (gL 11 1000) [nSk 1000]) (fun i => (.s (.seg 1 []) (.s (.seg 1 []) (.s (.seg 1 []) (.s (.nil 17 11 57) (.rk [(17, 16), (16, 90016)] (.loop ⟨(C59l0 i).at (C59l0g k i) k, C59l0s k i k⟩ (gl gU (g2 (gL 11 16) (gI 6)) [nSk 16]) (.s (.seg 1 []) (.s (.call (K96 k) [.O 15] [24]) (.s (.seg 1 []) (.rk [(24, 1000), (1000, 91000)] .ret))))))))))) Tryz.func59 rfl rfl (by kernel_rfl) (fun _ => rfl) (fun i => by kernel_rfl) (fun i s => by kernel_rfl)

noncomputable def K59 (k : Nat) : SCon El Tryz.prog := ⟨C59 k, S59 k, Tryz.call59⟩

noncomputable abbrev C26p : List (PK El) := [pR 11, pR 11]
noncomputable def C26 (k : Nat) : Con El := mkCon 26 C26p (fun i_ => thicketbook_Same_api_Entry k i_.1.2.2 i_.2.1.2.2) 0 0 (fun i_ t ns_ as_ => .bool t) (fun i_ t ns_ as_ => [])

noncomputable abbrev C26r (k : Nat) (i : Ins C26p) : Kn El → VC (C26 k).T := retC Tryz.prog (C26 k) (rsOf Tryz.prog 26) [] [] (gj (gB 4) []) i

noncomputable def C26l0 (i_ : Ins C26p) : BCon El (Bool) := ⟨nav [1, 1, 0, 1] (bodyOf Tryz.prog 26), Unit, Int, Unit, (Bool) ⊕ (Unit), fun r => r, fun _ _ => none, fun x_ => [(0, ⟨11, i_.1.1, i_.1.2.1, i_.1.2.2⟩), (1, ⟨11, i_.2.1.1, i_.2.1.2.1, i_.2.1.2.2⟩)], fun x_ v_ ns_ as_ => [(0, .slice i_.1.1 i_.1.2.2.length i_.1.2.1), (1, .slice i_.2.1.1 i_.2.1.2.2.length i_.2.1.2.1), (5, .int .i64 v_)], fun x_ v_ ns_ as_ => [], 0, 0, fun x_ u_ ns_ as_ => [], fun x_ u_ ns_ as_ => []⟩

noncomputable def C26l0g (k : Nat) (i_ : Ins C26p) : Nat → (C26l0 i_).X → (C26l0 i_).V → Option (C26l0 i_).W := fun m_ (x_ : Unit) (v_ : Int) => thicketbook_Same_api_Entry_l0 i_.1.2.2 i_.2.1.2.2 m_ v_

theorem C26l0s (k : Nat) (i : Ins C26p) (m : Nat) : ((C26l0 i).at (C26l0g k i) m).Sound Tryz.prog 26 26 (C26r k i) :=
  loop_sound mixed (C26l0 i) (id := 0) (body := nav [1, 1, 0, 1, 0, 0] (bodyOf Tryz.prog 26)) (C26l0g k i) (fun r => some (.inl r)) (fun u => .inr u) (gj (gI 5) []) (gj gU []) (fun m => (.s (.seg 4 []) (.cond (.blk (.drw (.q [0, 1] [] (.s (.idx true 0 (.tmp 18) 10) (.q [2, 3, 4, 5] [.A 10, .R 10 0, .R 10 1] (.s (.idx true 1 (.tmp 22) 11) (.q [6, 7] [.A 11, .R 11 0, .R 11 1] (.a 8 (.eqs api_Entry.eqD) [] (.cond (.s (.seg 1 []) .ret) (.s (.seg 3 []) .back)))))))))) .leaf))) (by kernel_rfl) (fun _ _ => rfl) (fun r y h => by cases h; rfl) (fun u => rfl) (fun m x v n1 n2 => by kernel_rfl) (fun m x v n1 n2 s => by kernel_rfl) m

theorem S26 (k : Nat) : (C26 k).Sound Tryz.prog :=
  fn_sound mixed (C26 k) (n := 26) (rs := rsOf Tryz.prog 26) [] [] (gj (gB 4) []) (fun i => (.s (.seg 1 []) (.s (.seg 5 []) (.cond (.s (.seg 1 []) .ret) (.s (.seg 1 []) (.loop ⟨(C26l0 i).at (C26l0g k i) k, C26l0s k i k⟩ (gl gU (gI 5) []) (.s (.seg 1 []) .ret))))))) Tryz.func26 rfl rfl (by kernel_rfl) (fun _ => rfl) (fun i => by kernel_rfl) (fun i s => by kernel_rfl)

noncomputable def K26 (k : Nat) : SCon El Tryz.prog := ⟨C26 k, S26 k, Tryz.call26⟩

noncomputable abbrev C21p : List (PK El) := [pO dispatch_Dispatcher.D, pI .i64]
noncomputable def C21 (k : Nat) : Con El := mkCon 21 C21p (fun i_ => dispatch_Dispatcher_Due k i_.1.2.2 i_.2.1) 0 0 (fun i_ t ns_ as_ => .int .i64 t) (fun i_ t ns_ as_ => dispatch_Dispatcher.D.flat i_.1.1 i_.1.2.1 i_.1.2.2)

noncomputable abbrev C21r (k : Nat) (i : Ins C21p) : Kn El → VC (C21 k).T := retC Tryz.prog (C21 k) (rsOf Tryz.prog 21) [] [0, 1, 2, 3, 4, 5, 6, 7, 8, 9, 10, 11, 12, 13, 14, 15, 16, 17, 18, 19, 20, 21] (gj (gI 4) []) i

noncomputable def C21l0 (i_ : Ins C21p) : BCon El (Int) := ⟨nav [1, 1, 0, 1] (bodyOf Tryz.prog 21), (List api_Ref) × (Option Addr × Nat) × Int, Int × Int, Int, Int, fun u => .inr u, fun _ _ => none, fun x_ => [], fun x_ v_ ns_ as_ => [(0, .pointer (some ⟨i_.1.1, 0, none⟩)), (1, .int .i64 i_.2.1), (5, .int .i64 v_.1), (14, .slice (x_.2.1.1) (x_.1).length (x_.2.1.2)), (15, .int .i64 (x_.2.2)), (16, .int .i64 v_.2)], fun x_ v_ ns_ as_ => zipL [0, 1, 2, 3, 4, 5, 6, 7, 8, 9, 10, 11, 12, 13, 14, 15, 16, 17, 18, 19, 20, 21] (dispatch_Dispatcher.D.flat i_.1.1 i_.1.2.1 i_.1.2.2) ++ zipL [22] [.sl 6 28 (x_.2.1.1) (x_.2.1.2) (x_.1)], 0, 0, fun x_ u_ ns_ as_ => [(5, .int .i64 u_)], fun x_ u_ ns_ as_ => zipL [0, 1, 2, 3, 4, 5, 6, 7, 8, 9, 10, 11, 12, 13, 14, 15, 16, 17, 18, 19, 20, 21] (dispatch_Dispatcher.D.flat i_.1.1 i_.1.2.1 i_.1.2.2)⟩

noncomputable def C21l0g (k : Nat) (i_ : Ins C21p) : Nat → (C21l0 i_).X → (C21l0 i_).V → Option (C21l0 i_).W := fun m_ (x_ : (List api_Ref) × (Option Addr × Nat) × Int) (v_ : Int × Int) => dispatch_Dispatcher_Due_l0 i_.2.1 (x_.2.2) i_.1.2.2 (x_.1) m_ v_.1 v_.2

theorem C21l0s (k : Nat) (i : Ins C21p) (m : Nat) : ((C21l0 i).at (C21l0g k i) m).Sound Tryz.prog 21 46 (C21r k i) :=
  loop_sound mixed (C21l0 i) (id := 0) (body := nav [1, 1, 0, 1, 0, 0] (bodyOf Tryz.prog 21)) (C21l0g k i) (fun _ => none) (fun u => u) (gj (g2 (gI 5) (gI 16)) []) (gj (gI 5) []) (fun m => (.s (.seg 1 []) (.cond (.join (Int) 0 0 (gj (gI 5) []) (fun st_ s_ ns_ as_ => ([(5, .int .i64 s_)] ++ kp [0, 1, 14, 15, 16] st_, ka [0, 1, 2, 3, 4, 5, 6, 7, 8, 9, 10, 11, 12, 13, 14, 15, 16, 17, 18, 19, 20, 21, 22] st_)) (.blk (.s (.idx false 22 (.tmp 16) 5) (.s (.seg 2 [.A 5, .X 5 22 0, .X 5 22 1]) (.s (.new 48 []) (.s (.sto 48) (.jg (jobs_Job) 1 0 (gj (gC 51 0 5 jobs_Job.dec) [nPk 51]) (fun st_ s_ ns_ as_ => ([(8, .pointer (some ⟨(nn ns_ 0), 0, none⟩))] ++ kp [0, 1, 5, 14, 15, 16] st_, ka [0, 1, 2, 3, 4, 5, 6, 7, 8, 9, 10, 11, 12, 13, 14, 15, 16, 17, 18, 19, 20, 21, 22] st_ ++ zipL [51] [.blk (nn ns_ 0) 91 [.int .i64 s_.Queue, .int .i64 s_.Time, .int .i64 s_.Data, .int .i64 s_.Item.At, .int .i64 s_.Item.Gen]])) (.drw (.q [0, 1, 2, 3, 4] [.C 0 7, .C 48 0, .C 48 1] (.alt2 5 (.call K47 [.K 15, .K 16, .K 17, .K 18, .K 19] [15, 16, 17, 18, 19]) [] (.q [6, 7, 8] [] (.a 9 (.new 52 []) [] (.a 10 (.sto 52) [] (.q [11] [] (.rk [(52, 51), (51, 90051)] .leaf))))) 9 (.new 53 []) [.C 48 0, .C 48 1, .C 0 7] (.a 5 (.call K47 [.K 15, .K 16, .K 17, .K 18, .K 19] [15, 16, 17, 18, 19]) [] (.q [6, 7, 8] [] (.a 10 (.sto 53) [] (.q [11] [] (.rk [(53, 51), (51, 90051)] .leaf)))))))) (.join (Bool) 0 0 (gj (gB 41) []) (fun st_ s_ ns_ as_ => ([(41, .bool s_)] ++ kp [0, 1, 5, 14, 15, 16] st_, ka [0, 1, 2, 3, 4, 5, 6, 7, 8, 9, 10, 11, 12, 13, 14, 15, 16, 17, 18, 19, 20, 21, 22] st_)) (.drw (.q [0, 1, 2, 3, 4] [.C 51 0] (.split 33 (.q [5, 6, 7, 8, 9, 10] [.C 0 9, .C 51 1] (.a 11 (.call K48 [.K 21] [21]) [] (.q [12] [] .leaf))) (.q [5, 6, 7, 8, 9, 10, 11, 12] [] .leaf)))) (.cond (.s (.seg 3 []) .leaf) .leaf)))))))) (.s (.seg 2 []) .back)) .leaf))) (by kernel_rfl) (fun _ _ => rfl) (fun r y h => by cases h) (fun u => rfl) (fun m x v n1 n2 => by kernel_rfl) (fun m x v n1 n2 s => by kernel_rfl) m

theorem S21 (k : Nat) : (C21 k).Sound Tryz.prog :=
  fn_sound mixed (C21 k) (n := 46) (rs := rsOf Tryz.prog 21) [] [0, 1, 2, 3, 4, 5, 6, 7, 8, 9, 10, 11, 12, 13, 14, 15, 16, 17, 18, 19, 20, 21] (gj (gI 4) []) (fun i => (.s (.seg 1 []) (.s (.seg 1 []) (.s (.seg 4 [.C 0 7]) (.s (.call (K46 k) [.K 15, .K 16, .K 17, .K 18, .K 19] [22, 15, 16, 17, 18, 19]) (.s (.seg 2 []) (.loop ⟨(C21l0 i).at (C21l0g k i) k, C21l0s k i k⟩ (gl (g2 (gL 6 22) (g2 (gh 22) (gI 15))) (g2 (gI 5) (gI 16)) []) (.s (.seg 2 []) .ret)))))))) Tryz.func21 rfl rfl (by kernel_rfl) (fun _ => rfl) (fun i => by kernel_rfl) (fun i s => by kernel_rfl)

noncomputable def K21 (k : Nat) : SCon El Tryz.prog := ⟨C21 k, S21 k, Tryz.call21⟩

noncomputable abbrev C33p : List (PK El) := [pO thicketref22_Dispatcher.D, pI .i64]
noncomputable def C33 (k : Nat) : Con El := mkCon 33 C33p (fun i_ => thicketref22_Dispatcher_Due k i_.1.2.2 i_.2.1) 0 0 (fun i_ t ns_ as_ => .int .i64 t) (fun i_ t ns_ as_ => thicketref22_Dispatcher.D.flat i_.1.1 i_.1.2.1 i_.1.2.2)

noncomputable abbrev C33r (k : Nat) (i : Ins C33p) : Kn El → VC (C33 k).T := retC Tryz.prog (C33 k) (rsOf Tryz.prog 33) [] [0, 1, 2, 3, 4, 5, 6] (gj (gI 4) []) i

noncomputable def C33l0 (i_ : Ins C33p) : BCon El (Int) := ⟨nav [1, 1, 0, 1] (bodyOf Tryz.prog 33), Unit, Int × Int, Int, Int, fun u => .inr u, fun _ _ => none, fun x_ => [], fun x_ v_ ns_ as_ => [(0, .pointer (some ⟨i_.1.1, 0, none⟩)), (1, .int .i64 i_.2.1), (5, .int .i64 v_.1), (6, .int .i64 v_.2)], fun x_ v_ ns_ as_ => zipL [0, 1, 2, 3, 4, 5, 6] (thicketref22_Dispatcher.D.flat i_.1.1 i_.1.2.1 i_.1.2.2), 0, 0, fun x_ u_ ns_ as_ => [(5, .int .i64 u_)], fun x_ u_ ns_ as_ => zipL [0, 1, 2, 3, 4, 5, 6] (thicketref22_Dispatcher.D.flat i_.1.1 i_.1.2.1 i_.1.2.2)⟩

noncomputable def C33l0g (k : Nat) (i_ : Ins C33p) : Nat → (C33l0 i_).X → (C33l0 i_).V → Option (C33l0 i_).W := fun m_ (x_ : Unit) (v_ : Int × Int) => thicketref22_Dispatcher_Due_l0 i_.2.1 i_.1.2.2 m_ v_.1 v_.2

theorem C33l0s (k : Nat) (i : Ins C33p) (m : Nat) : ((C33l0 i).at (C33l0g k i) m).Sound Tryz.prog 33 45 (C33r k i) :=
  loop_sound mixed (C33l0 i) (id := 0) (body := nav [1, 1, 0, 1, 0, 0] (bodyOf Tryz.prog 33)) (C33l0g k i) (fun _ => none) (fun u => u) (gj (g2 (gI 5) (gI 6)) []) (gj (gI 5) []) (fun m => (.s (.seg 7 [.C 0 4]) (.cond (.join (Int) 0 0 (gj (gI 5) []) (fun st_ s_ ns_ as_ => ([(5, .int .i64 s_)] ++ kp [0, 1, 6] st_, ka [0, 1, 2, 3, 4, 5, 6] st_)) (.blk (.join (Bool) 0 0 (gj (gB 41) []) (fun st_ s_ ns_ as_ => ([(41, .bool s_)] ++ kp [0, 1, 5, 6] st_, ka [0, 1, 2, 3, 4, 5, 6] st_)) (.drw (.q [0, 1, 2, 3, 4] [.C 0 4] (.s (.idx false 6 (.tmp 20) 34) (.q [5, 6, 7, 8, 9, 10] [.A 34, .X 34 6 0] (.split 26 (.q [11, 12, 13, 14, 15] [.C 0 4] (.s (.idx false 6 (.tmp 31) 35) (.q [16, 17, 18, 19, 20, 21, 22, 23, 24, 25] [.A 35, .X 35 6 2, .C 0 1] .leaf))) (.q [11, 12, 13, 14, 15, 16, 17, 18, 19, 20, 21, 22, 23, 24, 25] [] .leaf)))))) (.cond (.s (.seg 3 []) .leaf) .leaf))) (.s (.seg 3 []) .back)) .leaf))) (by kernel_rfl) (fun _ _ => rfl) (fun r y h => by cases h) (fun u => rfl) (fun m x v n1 n2 => by kernel_rfl) (fun m x v n1 n2 s => by kernel_rfl) m

theorem S33 (k : Nat) : (C33 k).Sound Tryz.prog :=
  fn_sound mixed (C33 k) (n := 45) (rs := rsOf Tryz.prog 33) [] [0, 1, 2, 3, 4, 5, 6] (gj (gI 4) []) (fun i => (.s (.seg 1 []) (.s (.seg 1 []) (.s (.seg 1 []) (.loop ⟨(C33l0 i).at (C33l0g k i) k, C33l0s k i k⟩ (gl gU (g2 (gI 5) (gI 6)) []) (.s (.seg 2 []) .ret)))))) Tryz.func33 rfl rfl (by kernel_rfl) (fun _ => rfl) (fun i => by kernel_rfl) (fun i s => by kernel_rfl)

noncomputable def K33 (k : Nat) : SCon El Tryz.prog := ⟨C33 k, S33 k, Tryz.call33⟩

noncomputable abbrev C30p : List (PK El) := [pO thicketlaw22_world.D]
noncomputable def C30 (k : Nat) : Con El := mkCon 30 C30p (fun i_ => thicketlaw22_world_same k i_.1.2.2) 0 0 (fun i_ t ns_ as_ => .bool t) (fun i_ t ns_ as_ => thicketlaw22_world.D.flat i_.1.1 i_.1.2.1 i_.1.2.2)

theorem S30 (k : Nat) : (C30 k).Sound Tryz.prog :=
  fn_sound mixed (C30 k) (n := 37) (rs := rsOf Tryz.prog 30) [] [0, 1, 2, 3, 4, 5, 6, 7, 8, 9, 10, 11, 12, 13, 14, 15, 16, 17, 18, 19, 20, 21, 22, 23, 24, 25, 26, 27, 28, 29, 30] (gj (gB 2) []) (fun i => (.s (.seg 1 []) (.s (.seg 1 []) (.unr (.s (.seg 2 []) (.condT (.blk (.join (Bool) 0 0 (gj (gB 36) []) (fun st_ s_ ns_ as_ => ([(36, .bool s_)] ++ kp [0, 3] st_, ka [0, 1, 2, 3, 4, 5, 6, 7, 8, 9, 10, 11, 12, 13, 14, 15, 16, 17, 18, 19, 20, 21, 22, 23, 24, 25, 26, 27, 28, 29, 30] st_)) (.drw (.q [0, 1, 2, 3, 4, 6, 7, 8, 9, 10] [.C 0 0, .C 0 1] (.a 5 (.call (K25 k) [.K 1, .K 2, .K 3, .K 4, .K 5, .K 6, .K 7, .K 8, .K 9, .K 10, .K 11, .K 12, .K 13, .K 14, .K 15, .K 16, .K 17, .K 18, .K 19, .K 20, .K 21, .K 22] [33, 1, 2, 3, 4, 5, 6, 7, 8, 9, 10, 11, 12, 13, 14, 15, 16, 17, 18, 19, 20, 21, 22]) [.C 0 1] (.a 11 (.call (K59 k) [.K 23, .K 24, .K 25, .K 26, .K 27, .K 28, .K 29] [34, 23, 24, 25, 26, 27, 28, 29]) [] (.a 12 (.call (K26 k) [.O 33, .O 34] []) [] (.q [13, 14] [] (.split 22 (.q [15, 16, 17, 18, 19, 20, 21, 22, 23, 24, 25, 26, 27, 28] [] .leaf) (.q [15, 16, 17, 18, 19, 21, 22, 23, 24, 25] [.C 0 0, .C 0 1] (.a 20 (.call (K21 k) [.K 1, .K 2, .K 3, .K 4, .K 5, .K 6, .K 7, .K 8, .K 9, .K 10, .K 11, .K 12, .K 13, .K 14, .K 15, .K 16, .K 17, .K 18, .K 19, .K 20, .K 21, .K 22] [1, 2, 3, 4, 5, 6, 7, 8, 9, 10, 11, 12, 13, 14, 15, 16, 17, 18, 19, 20, 21, 22]) [.C 0 1] (.a 26 (.call (K33 k) [.K 23, .K 24, .K 25, .K 26, .K 27, .K 28, .K 29] [23, 24, 25, 26, 27, 28, 29]) [] (.q [27, 28] [] .leaf))))))))))) (.cond (.s (.seg 1 []) .ret) (.s (.seg 3 []) (.unr (.s (.seg 2 []) (.condT (.blk (.join (Bool) 0 0 (gj (gB 36) []) (fun st_ s_ ns_ as_ => ([(36, .bool s_)] ++ kp [0, 3] st_, ka [0, 1, 2, 3, 4, 5, 6, 7, 8, 9, 10, 11, 12, 13, 14, 15, 16, 17, 18, 19, 20, 21, 22, 23, 24, 25, 26, 27, 28, 29, 30] st_)) (.drw (.q [0, 1, 2, 3, 4, 6, 7, 8, 9, 10] [.C 0 0, .C 0 1] (.a 5 (.call (K25 k) [.K 1, .K 2, .K 3, .K 4, .K 5, .K 6, .K 7, .K 8, .K 9, .K 10, .K 11, .K 12, .K 13, .K 14, .K 15, .K 16, .K 17, .K 18, .K 19, .K 20, .K 21, .K 22] [37, 1, 2, 3, 4, 5, 6, 7, 8, 9, 10, 11, 12, 13, 14, 15, 16, 17, 18, 19, 20, 21, 22]) [.C 0 1] (.a 11 (.call (K59 k) [.K 23, .K 24, .K 25, .K 26, .K 27, .K 28, .K 29] [38, 23, 24, 25, 26, 27, 28, 29]) [] (.a 12 (.call (K26 k) [.O 37, .O 38] []) [] (.q [13, 14] [] (.split 22 (.q [15, 16, 17, 18, 19, 20, 21, 22, 23, 24, 25, 26, 27, 28] [] .leaf) (.q [15, 16, 17, 18, 19, 21, 22, 23, 24, 25] [.C 0 0, .C 0 1] (.a 20 (.call (K21 k) [.K 1, .K 2, .K 3, .K 4, .K 5, .K 6, .K 7, .K 8, .K 9, .K 10, .K 11, .K 12, .K 13, .K 14, .K 15, .K 16, .K 17, .K 18, .K 19, .K 20, .K 21, .K 22] [1, 2, 3, 4, 5, 6, 7, 8, 9, 10, 11, 12, 13, 14, 15, 16, 17, 18, 19, 20, 21, 22]) [.C 0 1] (.a 26 (.call (K33 k) [.K 23, .K 24, .K 25, .K 26, .K 27, .K 28, .K 29] [23, 24, 25, 26, 27, 28, 29]) [] (.q [27, 28] [] .leaf))))))))))) (.cond (.s (.seg 1 []) .ret) (.s (.seg 3 []) (.unr (.s (.seg 2 []) (.condF (.s (.seg 1 []) .ret))))))))))))))))))))) Tryz.func30 rfl rfl (by kernel_rfl) (fun _ => rfl) (fun i => by kernel_rfl) (fun i s => by kernel_rfl)

noncomputable def K30 (k : Nat) : SCon El Tryz.prog := ⟨C30 k, S30 k, Tryz.call30⟩

noncomputable abbrev C18p : List (PK El) := []
noncomputable def C18 (k : Nat) : Con El := mkCon 18 C18p (fun i_ => thicketlaw22_known k) 0 0 (fun i_ t ns_ as_ => .bool t) (fun i_ t ns_ as_ => [])

theorem S18 (k : Nat) : (C18 k).Sound Tryz.prog :=
  fn_sound mixed (C18 k) (n := 67) (rs := rsOf Tryz.prog 18) [] [] (gj (gB 0) []) (fun i => (.s (.seg 1 []) (.s (.call (K12 k) [] [0, 1, 2, 3, 4, 5, 6, 7, 8, 9, 10, 11, 12, 13, 14, 15, 16, 17, 18, 19, 20, 21, 22, 23, 24, 25, 26, 27, 28, 29, 30]) (.np 4 999 (.s (.seg 1 []) (.s (.seg 20 []) (.condT (.s (.seg 1 []) .ret)))) (.s (.seg 1 []) (.join (Bool × thicketlaw22_world) 28 14 (gj (g2 (gB 24) (gO thicketlaw22_world.D [0, 1, 2, 3, 4, 5, 6, 7, 8, 9, 10, 11, 12, 13, 14, 15, 16, 17, 18, 19, 20, 21, 22, 23, 24, 25, 26, 27, 28, 29, 30])) [nA thicketlaw22_world.D [0, 1, 2, 3, 4, 5, 6, 7, 8, 9, 10, 11, 12, 13, 14, 15, 16, 17, 18, 19, 20, 21, 22, 23, 24, 25, 26, 27, 28, 29, 30] (fun al => ([al.d_a.q_p, al.d_a.q_a.a__p, al.d_a.q_a.a__a.l_c, al.d_a.q_a.a__a.free_c, al.d_a.q_a.a__a.m__p, al.d_a.q_a.t__p, al.d_a.q_a.t__a.heaps_p, al.d_a.q_a.t__a.heaps_a.l_c, al.d_a.q_a.t__a.heaps_a.free_c, al.d_a.q_a.t__a.items_p, al.d_a.q_a.t__a.items_a.l_c, al.d_a.q_a.t__a.items_a.free_c, al.d_a.q_a.t__a.at__p, al.d_a.q_a.entries_p, al.d_a.t__p, al.d_a.t__a.p_p, al.d_a.t__a.p_a.l_c, al.d_a.t__a.p_a.free_c, al.d_a.t__a.by__p, al.d_a.when_p, al.d_a.clock_p, al.m__a.Pool_p, al.m__a.Pool_a.Gens_c, al.m__a.Pool_a.In_c, al.m__a.Pool_a.V_c, al.m__a.Pool_a.Back_c, al.m__a.L_c, al.told_c], [al.d_a.q_a.a__a.l_b, al.d_a.q_a.a__a.free_b, al.d_a.q_a.t__a.heaps_a.l_b, al.d_a.q_a.t__a.heaps_a.free_b, al.d_a.q_a.t__a.items_a.l_b, al.d_a.q_a.t__a.items_a.free_b, al.d_a.t__a.p_a.l_b, al.d_a.t__a.p_a.free_b, al.m__a.Pool_a.Gens_b, al.m__a.Pool_a.In_b, al.m__a.Pool_a.V_b, al.m__a.Pool_a.Back_b, al.m__a.L_b, al.told_b]))]) (fun st_ s_ ns_ as_ => match (g2 (gP 0) (gA thicketlaw22_world.D [0, 1, 2, 3, 4, 5, 6, 7, 8, 9, 10, 11, 12, 13, 14, 15, 16, 17, 18, 19, 20, 21, 22, 23, 24, 25, 26, 27, 28, 29, 30])) st_ with | some x_ => ([(24, .bool s_.1)] ++ kp [1] st_, ka [] st_ ++ zipL [0, 1, 2, 3, 4, 5, 6, 7, 8, 9, 10, 11, 12, 13, 14, 15, 16, 17, 18, 19, 20, 21, 22, 23, 24, 25, 26, 27, 28, 29, 30] (thicketlaw22_world.D.flat (x_.1) (thicketlaw22_world.A.mk (x_.2.d_p) (dispatch_Dispatcher.A.mk (nn ns_ 0) (pq_Queues.A.mk (nn ns_ 1) (arena_Arena.A.mk (na as_ 0) (nn ns_ 2) (na as_ 1) (nn ns_ 3) (nn ns_ 4)) (nn ns_ 5) (slots_Table.A.mk (nn ns_ 6) (pool_Pool_slots_heap.A.mk (na as_ 2) (nn ns_ 7) (na as_ 3) (nn ns_ 8)) (nn ns_ 9) (pool_Pool_slots_thing.A.mk (na as_ 4) (nn ns_ 10) (na as_ 5) (nn ns_ 11)) (nn ns_ 12)) (nn ns_ 13)) (nn ns_ 14) (jobs_Table.A.mk (nn ns_ 15) (pool_Pool_jobs_Job.A.mk (na as_ 6) (nn ns_ 16) (na as_ 7) (nn ns_ 17)) (nn ns_ 18)) (nn ns_ 19) (nn ns_ 20)) (x_.2.m__p) (thicketref22_Dispatcher.A.mk (nn ns_ 21) (thicketref2_Pool.A.mk (na as_ 8) (nn ns_ 22) (na as_ 9) (nn ns_ 23) (na as_ 10) (nn ns_ 24) (na as_ 11) (nn ns_ 25)) (na as_ 12) (nn ns_ 26)) (na as_ 13) (nn ns_ 27)) s_.2)) | none => ([], [])) (.s (.seg 5 []) (.s (.call (K27 k) [.K 0, .K 1, .K 2, .K 3, .K 4, .K 5, .K 6, .K 7, .K 8, .K 9, .K 10, .K 11, .K 12, .K 13, .K 14, .K 15, .K 16, .K 17, .K 18, .K 19, .K 20, .K 21, .K 22, .K 23, .K 24, .K 25, .K 26, .K 27, .K 28, .K 29, .K 30] [0, 1, 2, 3, 4, 5, 6, 7, 8, 9, 10, 11, 12, 13, 14, 15, 16, 17, 18, 19, 20, 21, 22, 23, 24, 25, 26, 27, 28, 29, 30]) (.s (.seg 3 []) (.split 13 (.s (.seg 11 []) .leaf) (.s (.seg 2 []) (.s (.call (K27 k) [.K 0, .K 1, .K 2, .K 3, .K 4, .K 5, .K 6, .K 7, .K 8, .K 9, .K 10, .K 11, .K 12, .K 13, .K 14, .K 15, .K 16, .K 17, .K 18, .K 19, .K 20, .K 21, .K 22, .K 23, .K 24, .K 25, .K 26, .K 27, .K 28, .K 29, .K 30] [0, 1, 2, 3, 4, 5, 6, 7, 8, 9, 10, 11, 12, 13, 14, 15, 16, 17, 18, 19, 20, 21, 22, 23, 24, 25, 26, 27, 28, 29, 30]) (.s (.seg 3 []) (.split 19 (.s (.seg 5 []) .leaf) (.s (.seg 2 []) (.s (.call (K27 k) [.K 0, .K 1, .K 2, .K 3, .K 4, .K 5, .K 6, .K 7, .K 8, .K 9, .K 10, .K 11, .K 12, .K 13, .K 14, .K 15, .K 16, .K 17, .K 18, .K 19, .K 20, .K 21, .K 22, .K 23, .K 24, .K 25, .K 26, .K 27, .K 28, .K 29, .K 30] [0, 1, 2, 3, 4, 5, 6, 7, 8, 9, 10, 11, 12, 13, 14, 15, 16, 17, 18, 19, 20, 21, 22, 23, 24, 25, 26, 27, 28, 29, 30]) (.s (.seg 2 []) .leaf))))))))))) (.cond (.s (.seg 1 []) .ret) (.s (.seg 5 [.C 0 0]) (.s (.call (K13 k) [.K 1, .K 2, .K 3, .K 4, .K 5, .K 6, .K 7, .K 8, .K 9, .K 10, .K 11, .K 12, .K 13, .K 14, .K 15, .K 16, .K 17, .K 18, .K 19, .K 20, .K 21, .K 22] [1, 2, 3, 4, 5, 6, 7, 8, 9, 10, 11, 12, 13, 14, 15, 16, 17, 18, 19, 20, 21, 22]) (.s (.new 31 []) (.s (.sto 31) (.s (.seg 5 [.C 0 0]) (.s (.call (K13 k) [.K 1, .K 2, .K 3, .K 4, .K 5, .K 6, .K 7, .K 8, .K 9, .K 10, .K 11, .K 12, .K 13, .K 14, .K 15, .K 16, .K 17, .K 18, .K 19, .K 20, .K 21, .K 22] [1, 2, 3, 4, 5, 6, 7, 8, 9, 10, 11, 12, 13, 14, 15, 16, 17, 18, 19, 20, 21, 22]) (.s (.new 32 []) (.s (.sto 32) (.join (Bool) 0 0 (gj (gB 0) []) (fun st_ s_ ns_ as_ => ([(0, .bool s_)] ++ kp [] st_, ka [0, 1, 2, 3, 4, 5, 6, 7, 8, 9, 10, 11, 12, 13, 14, 15, 16, 17, 18, 19, 20, 21, 22, 23, 24, 25, 26, 27, 28, 29, 30] st_)) (.drw (.q [0, 1, 2, 3, 4, 5, 6] [.C 0 3] (.split 43 (.q [7, 8, 9, 10, 11] [.C 31 0, .C 31 1, .C 31 2, .C 31 3, .C 31 4, .C 31 5, .C 0 3] (.s (.idx false 30 (.const (.int .i64 0)) 3) (.q [12, 13, 14] [.A 3, .X 3 30 0, .X 3 30 1] (.a 15 (.eqs api_Reply.eqD) [] (.q [16, 17] [] (.split 54 (.q [18, 19, 20, 21, 22] [.C 32 0] (.split 59 (.q [23, 24, 25, 26] [.C 0 0] (.a 27 (.call K17 [.K 1, .K 2, .K 3, .K 4, .K 5, .K 6, .K 7, .K 8, .K 9, .K 10, .K 11, .K 12, .K 13, .K 14, .K 15, .K 16, .K 17, .K 18, .K 19, .K 20, .K 21, .K 22] [1, 2, 3, 4, 5, 6, 7, 8, 9, 10, 11, 12, 13, 14, 15, 16, 17, 18, 19, 20, 21, 22]) [] (.q [28, 29, 30] [] .leaf))) (.q [23, 24, 25, 26, 27, 28, 29, 30] [] .leaf))) (.q [18, 19, 20, 21, 22, 23, 24, 25, 26, 27, 28, 29, 30] [] .leaf))))))) (.q [7, 8, 9, 10, 11, 12, 13, 14, 15, 16, 17, 18, 19, 20, 21, 22, 23, 24, 25, 26, 27, 28, 29, 30] [] .leaf)))) .ret)))))))))))))))) Tryz.func18 rfl rfl (by kernel_rfl) (fun _ => rfl) (fun i => by kernel_rfl) (fun i s => by kernel_rfl)

noncomputable def K18 (k : Nat) : SCon El Tryz.prog := ⟨C18 k, S18 k, Tryz.call18⟩

noncomputable abbrev C8p : List (PK El) := []
noncomputable def C8 (k : Nat) : Con El := mkCon 8 C8p (fun i_ => thicketlaw22_DispatchNumbers k) 0 0 (fun i_ t ns_ as_ => .bool t) (fun i_ t ns_ as_ => [])

noncomputable abbrev C8r (k : Nat) (i : Ins C8p) : Kn El → VC (C8 k).T := retC Tryz.prog (C8 k) (rsOf Tryz.prog 8) [] [] (gj (gB 0) []) i

noncomputable def C8l0 (i_ : Ins C8p) : BCon El (Bool) := ⟨nav [1, 0, 1, 0, 0, 1, 0, 0, 1] (bodyOf Tryz.prog 8), (List Int) × (Option Addr × Nat) × Int, Int, Unit, (Bool) ⊕ (Unit), fun r => r, fun _ _ => none, fun x_ => [], fun x_ v_ ns_ as_ => [(1, .int .i64 (x_.2.2)), (18, .slice (x_.2.1.1) (x_.1).length (x_.2.1.2)), (19, .int .i64 5), (20, .int .i64 v_)], fun x_ v_ ns_ as_ => zipL [266] [.sl 0 3 (x_.2.1.1) (x_.2.1.2) (x_.1)], 0, 0, fun x_ u_ ns_ as_ => [(1, .int .i64 (x_.2.2))], fun x_ u_ ns_ as_ => []⟩

noncomputable def C8l0g (k : Nat) (i_ : Ins C8p) : Nat → (C8l0 i_).X → (C8l0 i_).V → Option (C8l0 i_).W := fun m_ (x_ : (List Int) × (Option Addr × Nat) × Int) (v_ : Int) => thicketlaw22_DispatchNumbers_l1 (x_.2.2) (x_.1) m_ v_

theorem C8l0s (k : Nat) (i : Ins C8p) (m : Nat) : ((C8l0 i).at (C8l0g k i) m).Sound Tryz.prog 8 170 (C8r k i) :=
  loop_sound mixed (C8l0 i) (id := 2) (body := nav [1, 0, 1, 0, 0, 1, 0, 0, 1, 0, 0] (bodyOf Tryz.prog 8)) (C8l0g k i) (fun r => some (.inl r)) (fun u => .inr u) (gj (gI 20) []) (gj gU []) (fun m => (.s (.seg 1 []) (.cond (.joinR (Unit) 0 0 (gj gU []) (fun st_ s_ ns_ as_ => ([] ++ kp [1, 18, 19, 20] st_, ka [266] st_)) (.blk (.s (.idx false 266 (.tmp 20) 34) (.s (.seg 3 [.A 34, .X 34 266 0]) (.s (.seg 2 []) (.s (.call (K28 m) [] [377, 378, 379, 380, 381, 382, 383, 384, 385, 386, 387, 388, 389, 390, 391, 392, 393, 394, 395, 396, 397, 398]) (.np 27 0 (.s (.seg 5 []) (.s (.seg 1 []) (.s (.seg 3 []) (.pj 32 (Bool) mB (gB 35) (fun st s_ => ([(35, .bool s_)] ++ kp [1, 3, 4, 5, 6, 18, 19, 20] st, ka [266] st)) (.s (.seg 3 []) .leaf) (.s (.seg 3 []) .leaf) (.join (Int) 0 0 (gj (gI 6) []) (fun st_ s_ ns_ as_ => ([(6, .int .i64 s_)] ++ kp [1, 3, 4, 5, 18, 19, 20] st_, ka [266] st_)) (.cond (.s (.seg 1 []) .leaf) (.s (.seg 3 []) (.pj 38 (Bool) mB (gB 41) (fun st s_ => ([(41, .bool s_)] ++ kp [1, 3, 4, 5, 6, 18, 19, 20] st, ka [266] st)) (.s (.seg 3 []) .leaf) (.s (.seg 3 []) .leaf) (.cond (.s (.seg 1 []) .leaf) .leaf)))) (.s (.seg 4 []) (.pj 45 (Bool) mB (gB 51) (fun st s_ => ([(51, .bool s_)] ++ kp [1, 3, 4, 18, 19, 20] st, ka [266] st)) (.s (.seg 6 []) .leaf) (.s (.seg 6 []) .leaf) (.cond (.s (.seg 1 []) .ret) (.s (.seg 2 []) (.s (.call (K29 m) [] []) (.s (.seg 5 []) (.s (.seg 8 []) (.condF .leaf))))))))))))) (.s (.seg 5 []) (.s (.seg 1 []) (.s (.seg 3 []) (.pj 32 (Bool) mB (gB 35) (fun st s_ => ([(35, .bool s_)] ++ kp [1, 3, 4, 5, 6, 18, 19, 20] st, ka [377, 378, 379, 380, 381, 382, 383, 384, 385, 386, 387, 388, 389, 390, 391, 392, 393, 394, 395, 396, 397, 398, 266] st)) (.s (.seg 3 []) .leaf) (.s (.seg 3 []) .leaf) (.join (Int) 0 0 (gj (gI 6) []) (fun st_ s_ ns_ as_ => ([(6, .int .i64 s_)] ++ kp [1, 3, 4, 5, 18, 19, 20] st_, ka [377, 378, 379, 380, 381, 382, 383, 384, 385, 386, 387, 388, 389, 390, 391, 392, 393, 394, 395, 396, 397, 398, 266] st_)) (.cond (.s (.seg 1 []) .leaf) (.s (.seg 3 []) (.pj 38 (Bool) mB (gB 41) (fun st s_ => ([(41, .bool s_)] ++ kp [1, 3, 4, 5, 6, 18, 19, 20] st, ka [377, 378, 379, 380, 381, 382, 383, 384, 385, 386, 387, 388, 389, 390, 391, 392, 393, 394, 395, 396, 397, 398, 266] st)) (.s (.seg 3 []) .leaf) (.s (.seg 3 []) .leaf) (.cond (.s (.seg 1 []) .leaf) .leaf)))) (.s (.seg 4 []) (.pj 45 (Bool) mB (gB 51) (fun st s_ => ([(51, .bool s_)] ++ kp [1, 3, 4, 18, 19, 20] st, ka [377, 378, 379, 380, 381, 382, 383, 384, 385, 386, 387, 388, 389, 390, 391, 392, 393, 394, 395, 396, 397, 398, 266] st)) (.s (.seg 6 []) .leaf) (.s (.seg 6 []) .leaf) (.cond (.s (.seg 1 []) .ret) (.s (.seg 2 []) (.s (.call (K29 m) [] []) (.s (.seg 5 []) (.join (Bool) 0 0 (gj (gB 65) []) (fun st_ s_ ns_ as_ => ([(65, .bool s_)] ++ kp [1, 18, 19, 20] st_, ka [377, 378, 379, 380, 381, 382, 383, 384, 385, 386, 387, 388, 389, 390, 391, 392, 393, 394, 395, 396, 397, 398, 266] st_)) (.s (.seg 4 []) (.s (.call K24 [.K 377, .K 378, .K 379, .K 380, .K 381, .K 382, .K 383, .K 384, .K 385, .K 386, .K 387, .K 388, .K 389, .K 390, .K 391, .K 392, .K 393, .K 394, .K 395, .K 396, .K 397, .K 398] [377, 378, 379, 380, 381, 382, 383, 384, 385, 386, 387, 388, 389, 390, 391, 392, 393, 394, 395, 396, 397, 398]) (.s (.seg 3 []) .leaf))) (.cond (.s (.seg 1 []) .ret) .leaf))))))))))))))))))) (.s (.seg 2 []) .back)) .leaf))) (by kernel_rfl) (fun _ _ => rfl) (fun r y h => by cases h; rfl) (fun u => rfl) (fun m x v n1 n2 => by kernel_rfl) (fun m x v n1 n2 s => by kernel_rfl) m

noncomputable def C8l1 (i_ : Ins C8p) : BCon El (Bool) := ⟨nav [1, 0, 1] (bodyOf Tryz.prog 8), Unit, Int, Unit, (Bool) ⊕ (Unit), fun r => r, fun _ _ => none, fun x_ => [], fun x_ v_ ns_ as_ => [(1, .int .i64 v_)], fun x_ v_ ns_ as_ => [], 0, 0, fun x_ u_ ns_ as_ => [], fun x_ u_ ns_ as_ => []⟩

noncomputable def C8l1g (k : Nat) (i_ : Ins C8p) : Nat → (C8l1 i_).X → (C8l1 i_).V → Option (C8l1 i_).W := fun m_ (x_ : Unit) (v_ : Int) => thicketlaw22_DispatchNumbers_l0 m_ v_

theorem C8l1s (k : Nat) (i : Ins C8p) (m : Nat) : ((C8l1 i).at (C8l1g k i) m).Sound Tryz.prog 8 170 (C8r k i) :=
  loop_sound mixed (C8l1 i) (id := 0) (body := nav [1, 0, 1, 0, 0] (bodyOf Tryz.prog 8)) (C8l1g k i) (fun r => some (.inl r)) (fun u => .inr u) (gj (gI 1) []) (gj gU []) (fun m => (.s (.seg 2 []) (.cond (.blk (.s (.bld 266 0 3) (.s (.seg 2 []) (.loop ⟨(C8l0 i).at (C8l0g k i) m, C8l0s k i m⟩ (gl (g2 (gL 0 266) (g2 (gh 266) (gI 1))) (gI 20) []) (.s (.seg 3 []) .back))))) .leaf))) (by kernel_rfl) (fun _ _ => rfl) (fun r y h => by cases h; rfl) (fun u => rfl) (fun m x v n1 n2 => by kernel_rfl) (fun m x v n1 n2 s => by kernel_rfl) m

noncomputable def C8l2 (i_ : Ins C8p) : BCon El (Bool) := ⟨nav [1, 1, 0, 1, 0, 0, 1, 0, 0, 1, 1, 0, 1] (bodyOf Tryz.prog 8), Nat × thicketlaw22_world.A × Int, Int × thicketlaw22_world, thicketlaw22_world, (Bool) ⊕ (thicketlaw22_world), fun r => r, fun _ _ => none, fun x_ => [], fun x_ v_ ns_ as_ => [(9, .int .i64 (x_.2.2)), (10, .pointer (some ⟨x_.1, 0, none⟩)), (11, .int .i64 v_.1)], fun x_ v_ ns_ as_ => zipL [692, 693, 694, 695, 696, 697, 698, 699, 700, 701, 702, 703, 704, 705, 706, 707, 708, 709, 710, 711, 712, 713, 714, 715, 716, 717, 718, 719, 720, 721, 722] (thicketlaw22_world.D.flat (x_.1) (thicketlaw22_world.A.mk (x_.2.1.d_p) (dispatch_Dispatcher.A.mk (nn ns_ 0) (pq_Queues.A.mk (nn ns_ 1) (arena_Arena.A.mk (na as_ 0) (nn ns_ 2) (na as_ 1) (nn ns_ 3) (nn ns_ 4)) (nn ns_ 5) (slots_Table.A.mk (nn ns_ 6) (pool_Pool_slots_heap.A.mk (na as_ 2) (nn ns_ 7) (na as_ 3) (nn ns_ 8)) (nn ns_ 9) (pool_Pool_slots_thing.A.mk (na as_ 4) (nn ns_ 10) (na as_ 5) (nn ns_ 11)) (nn ns_ 12)) (nn ns_ 13)) (nn ns_ 14) (jobs_Table.A.mk (nn ns_ 15) (pool_Pool_jobs_Job.A.mk (na as_ 6) (nn ns_ 16) (na as_ 7) (nn ns_ 17)) (nn ns_ 18)) (nn ns_ 19) (nn ns_ 20)) (x_.2.1.m__p) (thicketref22_Dispatcher.A.mk (nn ns_ 21) (thicketref2_Pool.A.mk (na as_ 8) (nn ns_ 22) (na as_ 9) (nn ns_ 23) (na as_ 10) (nn ns_ 24) (na as_ 11) (nn ns_ 25)) (na as_ 12) (nn ns_ 26)) (na as_ 13) (nn ns_ 27)) v_.2), 28, 14, fun x_ u_ ns_ as_ => [(9, .int .i64 (x_.2.2)), (10, .pointer (some ⟨x_.1, 0, none⟩))], fun x_ u_ ns_ as_ => zipL [692, 693, 694, 695, 696, 697, 698, 699, 700, 701, 702, 703, 704, 705, 706, 707, 708, 709, 710, 711, 712, 713, 714, 715, 716, 717, 718, 719, 720, 721, 722] (thicketlaw22_world.D.flat (x_.1) (thicketlaw22_world.A.mk (x_.2.1.d_p) (dispatch_Dispatcher.A.mk (nn ns_ 0) (pq_Queues.A.mk (nn ns_ 1) (arena_Arena.A.mk (na as_ 0) (nn ns_ 2) (na as_ 1) (nn ns_ 3) (nn ns_ 4)) (nn ns_ 5) (slots_Table.A.mk (nn ns_ 6) (pool_Pool_slots_heap.A.mk (na as_ 2) (nn ns_ 7) (na as_ 3) (nn ns_ 8)) (nn ns_ 9) (pool_Pool_slots_thing.A.mk (na as_ 4) (nn ns_ 10) (na as_ 5) (nn ns_ 11)) (nn ns_ 12)) (nn ns_ 13)) (nn ns_ 14) (jobs_Table.A.mk (nn ns_ 15) (pool_Pool_jobs_Job.A.mk (na as_ 6) (nn ns_ 16) (na as_ 7) (nn ns_ 17)) (nn ns_ 18)) (nn ns_ 19) (nn ns_ 20)) (x_.2.1.m__p) (thicketref22_Dispatcher.A.mk (nn ns_ 21) (thicketref2_Pool.A.mk (na as_ 8) (nn ns_ 22) (na as_ 9) (nn ns_ 23) (na as_ 10) (nn ns_ 24) (na as_ 11) (nn ns_ 25)) (na as_ 12) (nn ns_ 26)) (na as_ 13) (nn ns_ 27)) u_)⟩

noncomputable def C8l2g (k : Nat) (i_ : Ins C8p) : Nat → (C8l2 i_).X → (C8l2 i_).V → Option (C8l2 i_).W := fun m_ (x_ : Nat × thicketlaw22_world.A × Int) (v_ : Int × thicketlaw22_world) => thicketlaw22_DispatchNumbers_l3 (x_.2.2) m_ v_.1 v_.2

theorem C8l2s (k : Nat) (i : Ins C8p) (m : Nat) : ((C8l2 i).at (C8l2g k i) m).Sound Tryz.prog 8 170 (C8r k i) :=
  loop_sound mixed (C8l2 i) (id := 6) (body := nav [1, 1, 0, 1, 0, 0, 1, 0, 0, 1, 1, 0, 1, 0, 0] (bodyOf Tryz.prog 8)) (C8l2g k i) (fun r => some (.inl r)) (fun u => .inr u) (gj (g2 (gI 11) (gO thicketlaw22_world.D [692, 693, 694, 695, 696, 697, 698, 699, 700, 701, 702, 703, 704, 705, 706, 707, 708, 709, 710, 711, 712, 713, 714, 715, 716, 717, 718, 719, 720, 721, 722])) [nA thicketlaw22_world.D [692, 693, 694, 695, 696, 697, 698, 699, 700, 701, 702, 703, 704, 705, 706, 707, 708, 709, 710, 711, 712, 713, 714, 715, 716, 717, 718, 719, 720, 721, 722] (fun al => ([al.d_a.q_p, al.d_a.q_a.a__p, al.d_a.q_a.a__a.l_c, al.d_a.q_a.a__a.free_c, al.d_a.q_a.a__a.m__p, al.d_a.q_a.t__p, al.d_a.q_a.t__a.heaps_p, al.d_a.q_a.t__a.heaps_a.l_c, al.d_a.q_a.t__a.heaps_a.free_c, al.d_a.q_a.t__a.items_p, al.d_a.q_a.t__a.items_a.l_c, al.d_a.q_a.t__a.items_a.free_c, al.d_a.q_a.t__a.at__p, al.d_a.q_a.entries_p, al.d_a.t__p, al.d_a.t__a.p_p, al.d_a.t__a.p_a.l_c, al.d_a.t__a.p_a.free_c, al.d_a.t__a.by__p, al.d_a.when_p, al.d_a.clock_p, al.m__a.Pool_p, al.m__a.Pool_a.Gens_c, al.m__a.Pool_a.In_c, al.m__a.Pool_a.V_c, al.m__a.Pool_a.Back_c, al.m__a.L_c, al.told_c], [al.d_a.q_a.a__a.l_b, al.d_a.q_a.a__a.free_b, al.d_a.q_a.t__a.heaps_a.l_b, al.d_a.q_a.t__a.heaps_a.free_b, al.d_a.q_a.t__a.items_a.l_b, al.d_a.q_a.t__a.items_a.free_b, al.d_a.t__a.p_a.l_b, al.d_a.t__a.p_a.free_b, al.m__a.Pool_a.Gens_b, al.m__a.Pool_a.In_b, al.m__a.Pool_a.V_b, al.m__a.Pool_a.Back_b, al.m__a.L_b, al.told_b]))]) (gj (gO thicketlaw22_world.D [692, 693, 694, 695, 696, 697, 698, 699, 700, 701, 702, 703, 704, 705, 706, 707, 708, 709, 710, 711, 712, 713, 714, 715, 716, 717, 718, 719, 720, 721, 722]) [nA thicketlaw22_world.D [692, 693, 694, 695, 696, 697, 698, 699, 700, 701, 702, 703, 704, 705, 706, 707, 708, 709, 710, 711, 712, 713, 714, 715, 716, 717, 718, 719, 720, 721, 722] (fun al => ([al.d_a.q_p, al.d_a.q_a.a__p, al.d_a.q_a.a__a.l_c, al.d_a.q_a.a__a.free_c, al.d_a.q_a.a__a.m__p, al.d_a.q_a.t__p, al.d_a.q_a.t__a.heaps_p, al.d_a.q_a.t__a.heaps_a.l_c, al.d_a.q_a.t__a.heaps_a.free_c, al.d_a.q_a.t__a.items_p, al.d_a.q_a.t__a.items_a.l_c, al.d_a.q_a.t__a.items_a.free_c, al.d_a.q_a.t__a.at__p, al.d_a.q_a.entries_p, al.d_a.t__p, al.d_a.t__a.p_p, al.d_a.t__a.p_a.l_c, al.d_a.t__a.p_a.free_c, al.d_a.t__a.by__p, al.d_a.when_p, al.d_a.clock_p, al.m__a.Pool_p, al.m__a.Pool_a.Gens_c, al.m__a.Pool_a.In_c, al.m__a.Pool_a.V_c, al.m__a.Pool_a.Back_c, al.m__a.L_c, al.told_c], [al.d_a.q_a.a__a.l_b, al.d_a.q_a.a__a.free_b, al.d_a.q_a.t__a.heaps_a.l_b, al.d_a.q_a.t__a.heaps_a.free_b, al.d_a.q_a.t__a.items_a.l_b, al.d_a.q_a.t__a.items_a.free_b, al.d_a.t__a.p_a.l_b, al.d_a.t__a.p_a.free_b, al.m__a.Pool_a.Gens_b, al.m__a.Pool_a.In_b, al.m__a.Pool_a.V_b, al.m__a.Pool_a.Back_b, al.m__a.L_b, al.told_b]))]) (fun m => (.s (.seg 2 []) (.cond (.blk (.s (.seg 2 []) (.s (.gd 0 (.const (.int .i64 2)) 16) (.s (.seg 3 [.Q 16]) (.s (.gd 0 (.const (.int .i64 7)) 17) (.s (.seg 3 [.Q 17]) (.s (.call (K27 m) [.K 692, .K 693, .K 694, .K 695, .K 696, .K 697, .K 698, .K 699, .K 700, .K 701, .K 702, .K 703, .K 704, .K 705, .K 706, .K 707, .K 708, .K 709, .K 710, .K 711, .K 712, .K 713, .K 714, .K 715, .K 716, .K 717, .K 718, .K 719, .K 720, .K 721, .K 722] [692, 693, 694, 695, 696, 697, 698, 699, 700, 701, 702, 703, 704, 705, 706, 707, 708, 709, 710, 711, 712, 713, 714, 715, 716, 717, 718, 719, 720, 721, 722]) (.s (.seg 1 []) (.cond (.s (.seg 1 []) .ret) (.s (.seg 3 []) .back)))))))))) .leaf))) (by kernel_rfl) (fun _ _ => rfl) (fun r y h => by cases h; rfl) (fun u => rfl) (fun m x v n1 n2 => by kernel_rfl) (fun m x v n1 n2 s => by kernel_rfl) m

noncomputable def C8l3 (i_ : Ins C8p) : BCon El (Bool) := ⟨nav [1, 1, 0, 1, 0, 0, 1, 0, 0, 1, 1, 1, 1, 1] (bodyOf Tryz.prog 8), Nat × thicketlaw22_world.A × (List api_Command) × (Option Addr × Nat) × Int, Int × thicketlaw22_world, thicketlaw22_world, (Bool) ⊕ (thicketlaw22_world), fun r => r, fun _ _ => none, fun x_ => [], fun x_ v_ ns_ as_ => [(9, .int .i64 (x_.2.2.2.2)), (10, .pointer (some ⟨x_.1, 0, none⟩)), (153, .slice (x_.2.2.2.1.1) (x_.2.2.1).length (x_.2.2.2.1.2)), (154, .int .i64 33), (155, .int .i64 v_.1)], fun x_ v_ ns_ as_ => zipL [692, 693, 694, 695, 696, 697, 698, 699, 700, 701, 702, 703, 704, 705, 706, 707, 708, 709, 710, 711, 712, 713, 714, 715, 716, 717, 718, 719, 720, 721, 722] (thicketlaw22_world.D.flat (x_.1) (thicketlaw22_world.A.mk (x_.2.1.d_p) (dispatch_Dispatcher.A.mk (nn ns_ 0) (pq_Queues.A.mk (nn ns_ 1) (arena_Arena.A.mk (na as_ 0) (nn ns_ 2) (na as_ 1) (nn ns_ 3) (nn ns_ 4)) (nn ns_ 5) (slots_Table.A.mk (nn ns_ 6) (pool_Pool_slots_heap.A.mk (na as_ 2) (nn ns_ 7) (na as_ 3) (nn ns_ 8)) (nn ns_ 9) (pool_Pool_slots_thing.A.mk (na as_ 4) (nn ns_ 10) (na as_ 5) (nn ns_ 11)) (nn ns_ 12)) (nn ns_ 13)) (nn ns_ 14) (jobs_Table.A.mk (nn ns_ 15) (pool_Pool_jobs_Job.A.mk (na as_ 6) (nn ns_ 16) (na as_ 7) (nn ns_ 17)) (nn ns_ 18)) (nn ns_ 19) (nn ns_ 20)) (x_.2.1.m__p) (thicketref22_Dispatcher.A.mk (nn ns_ 21) (thicketref2_Pool.A.mk (na as_ 8) (nn ns_ 22) (na as_ 9) (nn ns_ 23) (na as_ 10) (nn ns_ 24) (na as_ 11) (nn ns_ 25)) (na as_ 12) (nn ns_ 26)) (na as_ 13) (nn ns_ 27)) v_.2) ++ zipL [724] [.sl 10 38 (x_.2.2.2.1.1) (x_.2.2.2.1.2) (x_.2.2.1)], 28, 14, fun x_ u_ ns_ as_ => [(9, .int .i64 (x_.2.2.2.2))], fun x_ u_ ns_ as_ => zipL [692, 693, 694, 695, 696, 697, 698, 699, 700, 701, 702, 703, 704, 705, 706, 707, 708, 709, 710, 711, 712, 713, 714, 715, 716, 717, 718, 719, 720, 721, 722] (thicketlaw22_world.D.flat (x_.1) (thicketlaw22_world.A.mk (x_.2.1.d_p) (dispatch_Dispatcher.A.mk (nn ns_ 0) (pq_Queues.A.mk (nn ns_ 1) (arena_Arena.A.mk (na as_ 0) (nn ns_ 2) (na as_ 1) (nn ns_ 3) (nn ns_ 4)) (nn ns_ 5) (slots_Table.A.mk (nn ns_ 6) (pool_Pool_slots_heap.A.mk (na as_ 2) (nn ns_ 7) (na as_ 3) (nn ns_ 8)) (nn ns_ 9) (pool_Pool_slots_thing.A.mk (na as_ 4) (nn ns_ 10) (na as_ 5) (nn ns_ 11)) (nn ns_ 12)) (nn ns_ 13)) (nn ns_ 14) (jobs_Table.A.mk (nn ns_ 15) (pool_Pool_jobs_Job.A.mk (na as_ 6) (nn ns_ 16) (na as_ 7) (nn ns_ 17)) (nn ns_ 18)) (nn ns_ 19) (nn ns_ 20)) (x_.2.1.m__p) (thicketref22_Dispatcher.A.mk (nn ns_ 21) (thicketref2_Pool.A.mk (na as_ 8) (nn ns_ 22) (na as_ 9) (nn ns_ 23) (na as_ 10) (nn ns_ 24) (na as_ 11) (nn ns_ 25)) (na as_ 12) (nn ns_ 26)) (na as_ 13) (nn ns_ 27)) u_)⟩

noncomputable def C8l3g (k : Nat) (i_ : Ins C8p) : Nat → (C8l3 i_).X → (C8l3 i_).V → Option (C8l3 i_).W := fun m_ (x_ : Nat × thicketlaw22_world.A × (List api_Command) × (Option Addr × Nat) × Int) (v_ : Int × thicketlaw22_world) => thicketlaw22_DispatchNumbers_l4 (x_.2.2.2.2) (x_.2.2.1) m_ v_.1 v_.2

theorem C8l3s (k : Nat) (i : Ins C8p) (m : Nat) : ((C8l3 i).at (C8l3g k i) m).Sound Tryz.prog 8 170 (C8r k i) :=
  loop_sound mixed (C8l3 i) (id := 8) (body := nav [1, 1, 0, 1, 0, 0, 1, 0, 0, 1, 1, 1, 1, 1, 0, 0] (bodyOf Tryz.prog 8)) (C8l3g k i) (fun r => some (.inl r)) (fun u => .inr u) (gj (g2 (gI 155) (gO thicketlaw22_world.D [692, 693, 694, 695, 696, 697, 698, 699, 700, 701, 702, 703, 704, 705, 706, 707, 708, 709, 710, 711, 712, 713, 714, 715, 716, 717, 718, 719, 720, 721, 722])) [nA thicketlaw22_world.D [692, 693, 694, 695, 696, 697, 698, 699, 700, 701, 702, 703, 704, 705, 706, 707, 708, 709, 710, 711, 712, 713, 714, 715, 716, 717, 718, 719, 720, 721, 722] (fun al => ([al.d_a.q_p, al.d_a.q_a.a__p, al.d_a.q_a.a__a.l_c, al.d_a.q_a.a__a.free_c, al.d_a.q_a.a__a.m__p, al.d_a.q_a.t__p, al.d_a.q_a.t__a.heaps_p, al.d_a.q_a.t__a.heaps_a.l_c, al.d_a.q_a.t__a.heaps_a.free_c, al.d_a.q_a.t__a.items_p, al.d_a.q_a.t__a.items_a.l_c, al.d_a.q_a.t__a.items_a.free_c, al.d_a.q_a.t__a.at__p, al.d_a.q_a.entries_p, al.d_a.t__p, al.d_a.t__a.p_p, al.d_a.t__a.p_a.l_c, al.d_a.t__a.p_a.free_c, al.d_a.t__a.by__p, al.d_a.when_p, al.d_a.clock_p, al.m__a.Pool_p, al.m__a.Pool_a.Gens_c, al.m__a.Pool_a.In_c, al.m__a.Pool_a.V_c, al.m__a.Pool_a.Back_c, al.m__a.L_c, al.told_c], [al.d_a.q_a.a__a.l_b, al.d_a.q_a.a__a.free_b, al.d_a.q_a.t__a.heaps_a.l_b, al.d_a.q_a.t__a.heaps_a.free_b, al.d_a.q_a.t__a.items_a.l_b, al.d_a.q_a.t__a.items_a.free_b, al.d_a.t__a.p_a.l_b, al.d_a.t__a.p_a.free_b, al.m__a.Pool_a.Gens_b, al.m__a.Pool_a.In_b, al.m__a.Pool_a.V_b, al.m__a.Pool_a.Back_b, al.m__a.L_b, al.told_b]))]) (gj (gO thicketlaw22_world.D [692, 693, 694, 695, 696, 697, 698, 699, 700, 701, 702, 703, 704, 705, 706, 707, 708, 709, 710, 711, 712, 713, 714, 715, 716, 717, 718, 719, 720, 721, 722]) [nA thicketlaw22_world.D [692, 693, 694, 695, 696, 697, 698, 699, 700, 701, 702, 703, 704, 705, 706, 707, 708, 709, 710, 711, 712, 713, 714, 715, 716, 717, 718, 719, 720, 721, 722] (fun al => ([al.d_a.q_p, al.d_a.q_a.a__p, al.d_a.q_a.a__a.l_c, al.d_a.q_a.a__a.free_c, al.d_a.q_a.a__a.m__p, al.d_a.q_a.t__p, al.d_a.q_a.t__a.heaps_p, al.d_a.q_a.t__a.heaps_a.l_c, al.d_a.q_a.t__a.heaps_a.free_c, al.d_a.q_a.t__a.items_p, al.d_a.q_a.t__a.items_a.l_c, al.d_a.q_a.t__a.items_a.free_c, al.d_a.q_a.t__a.at__p, al.d_a.q_a.entries_p, al.d_a.t__p, al.d_a.t__a.p_p, al.d_a.t__a.p_a.l_c, al.d_a.t__a.p_a.free_c, al.d_a.t__a.by__p, al.d_a.when_p, al.d_a.clock_p, al.m__a.Pool_p, al.m__a.Pool_a.Gens_c, al.m__a.Pool_a.In_c, al.m__a.Pool_a.V_c, al.m__a.Pool_a.Back_c, al.m__a.L_c, al.told_c], [al.d_a.q_a.a__a.l_b, al.d_a.q_a.a__a.free_b, al.d_a.q_a.t__a.heaps_a.l_b, al.d_a.q_a.t__a.heaps_a.free_b, al.d_a.q_a.t__a.items_a.l_b, al.d_a.q_a.t__a.items_a.free_b, al.d_a.t__a.p_a.l_b, al.d_a.t__a.p_a.free_b, al.m__a.Pool_a.Gens_b, al.m__a.Pool_a.In_b, al.m__a.Pool_a.V_b, al.m__a.Pool_a.Back_b, al.m__a.L_b, al.told_b]))]) (fun m => (.s (.seg 1 []) (.cond (.blk (.s (.idx false 724 (.tmp 155) 91) (.s (.seg 2 [.A 91, .X 91 724 0, .X 91 724 1, .X 91 724 2, .X 91 724 3, .X 91 724 4, .X 91 724 5]) (.s (.new 727 []) (.s (.sto 727) (.join (Bool × thicketlaw22_world) 28 14 (gj (g2 (gB 167) (gO thicketlaw22_world.D [692, 693, 694, 695, 696, 697, 698, 699, 700, 701, 702, 703, 704, 705, 706, 707, 708, 709, 710, 711, 712, 713, 714, 715, 716, 717, 718, 719, 720, 721, 722])) [nA thicketlaw22_world.D [692, 693, 694, 695, 696, 697, 698, 699, 700, 701, 702, 703, 704, 705, 706, 707, 708, 709, 710, 711, 712, 713, 714, 715, 716, 717, 718, 719, 720, 721, 722] (fun al => ([al.d_a.q_p, al.d_a.q_a.a__p, al.d_a.q_a.a__a.l_c, al.d_a.q_a.a__a.free_c, al.d_a.q_a.a__a.m__p, al.d_a.q_a.t__p, al.d_a.q_a.t__a.heaps_p, al.d_a.q_a.t__a.heaps_a.l_c, al.d_a.q_a.t__a.heaps_a.free_c, al.d_a.q_a.t__a.items_p, al.d_a.q_a.t__a.items_a.l_c, al.d_a.q_a.t__a.items_a.free_c, al.d_a.q_a.t__a.at__p, al.d_a.q_a.entries_p, al.d_a.t__p, al.d_a.t__a.p_p, al.d_a.t__a.p_a.l_c, al.d_a.t__a.p_a.free_c, al.d_a.t__a.by__p, al.d_a.when_p, al.d_a.clock_p, al.m__a.Pool_p, al.m__a.Pool_a.Gens_c, al.m__a.Pool_a.In_c, al.m__a.Pool_a.V_c, al.m__a.Pool_a.Back_c, al.m__a.L_c, al.told_c], [al.d_a.q_a.a__a.l_b, al.d_a.q_a.a__a.free_b, al.d_a.q_a.t__a.heaps_a.l_b, al.d_a.q_a.t__a.heaps_a.free_b, al.d_a.q_a.t__a.items_a.l_b, al.d_a.q_a.t__a.items_a.free_b, al.d_a.t__a.p_a.l_b, al.d_a.t__a.p_a.free_b, al.m__a.Pool_a.Gens_b, al.m__a.Pool_a.In_b, al.m__a.Pool_a.V_b, al.m__a.Pool_a.Back_b, al.m__a.L_b, al.told_b]))]) (fun st_ s_ ns_ as_ => match (g2 (gP 692) (gA thicketlaw22_world.D [692, 693, 694, 695, 696, 697, 698, 699, 700, 701, 702, 703, 704, 705, 706, 707, 708, 709, 710, 711, 712, 713, 714, 715, 716, 717, 718, 719, 720, 721, 722])) st_ with | some x_ => ([(167, .bool s_.1)] ++ kp [9, 10, 153, 154, 155] st_, ka [724] st_ ++ zipL [692, 693, 694, 695, 696, 697, 698, 699, 700, 701, 702, 703, 704, 705, 706, 707, 708, 709, 710, 711, 712, 713, 714, 715, 716, 717, 718, 719, 720, 721, 722] (thicketlaw22_world.D.flat (x_.1) (thicketlaw22_world.A.mk (x_.2.d_p) (dispatch_Dispatcher.A.mk (nn ns_ 0) (pq_Queues.A.mk (nn ns_ 1) (arena_Arena.A.mk (na as_ 0) (nn ns_ 2) (na as_ 1) (nn ns_ 3) (nn ns_ 4)) (nn ns_ 5) (slots_Table.A.mk (nn ns_ 6) (pool_Pool_slots_heap.A.mk (na as_ 2) (nn ns_ 7) (na as_ 3) (nn ns_ 8)) (nn ns_ 9) (pool_Pool_slots_thing.A.mk (na as_ 4) (nn ns_ 10) (na as_ 5) (nn ns_ 11)) (nn ns_ 12)) (nn ns_ 13)) (nn ns_ 14) (jobs_Table.A.mk (nn ns_ 15) (pool_Pool_jobs_Job.A.mk (na as_ 6) (nn ns_ 16) (na as_ 7) (nn ns_ 17)) (nn ns_ 18)) (nn ns_ 19) (nn ns_ 20)) (x_.2.m__p) (thicketref22_Dispatcher.A.mk (nn ns_ 21) (thicketref2_Pool.A.mk (na as_ 8) (nn ns_ 22) (na as_ 9) (nn ns_ 23) (na as_ 10) (nn ns_ 24) (na as_ 11) (nn ns_ 25)) (na as_ 12) (nn ns_ 26)) (na as_ 13) (nn ns_ 27)) s_.2)) | none => ([], [])) (.s (.seg 2 [.C 727 0, .C 727 1, .C 727 2, .C 727 3, .C 727 4, .C 727 5]) (.s (.call (K27 m) [.K 692, .K 693, .K 694, .K 695, .K 696, .K 697, .K 698, .K 699, .K 700, .K 701, .K 702, .K 703, .K 704, .K 705, .K 706, .K 707, .K 708, .K 709, .K 710, .K 711, .K 712, .K 713, .K 714, .K 715, .K 716, .K 717, .K 718, .K 719, .K 720, .K 721, .K 722] [692, 693, 694, 695, 696, 697, 698, 699, 700, 701, 702, 703, 704, 705, 706, 707, 708, 709, 710, 711, 712, 713, 714, 715, 716, 717, 718, 719, 720, 721, 722]) (.s (.seg 2 []) (.split 163 (.s (.seg 4 []) .leaf) (.s (.seg 1 []) (.s (.call (K30 m) [.K 692, .K 693, .K 694, .K 695, .K 696, .K 697, .K 698, .K 699, .K 700, .K 701, .K 702, .K 703, .K 704, .K 705, .K 706, .K 707, .K 708, .K 709, .K 710, .K 711, .K 712, .K 713, .K 714, .K 715, .K 716, .K 717, .K 718, .K 719, .K 720, .K 721, .K 722] [692, 693, 694, 695, 696, 697, 698, 699, 700, 701, 702, 703, 704, 705, 706, 707, 708, 709, 710, 711, 712, 713, 714, 715, 716, 717, 718, 719, 720, 721, 722]) (.s (.seg 2 []) .leaf))))))) (.cond (.s (.seg 1 []) .ret) (.s (.seg 2 []) .back)))))))) .leaf))) (by kernel_rfl) (fun _ _ => rfl) (fun r y h => by cases h; rfl) (fun u => rfl) (fun m x v n1 n2 => by kernel_rfl) (fun m x v n1 n2 s => by kernel_rfl) m

noncomputable def C8l4 (i_ : Ins C8p) : BCon El (Bool) := ⟨nav [1, 1, 0, 1] (bodyOf Tryz.prog 8), Unit, Int, Unit, (Bool) ⊕ (Unit), fun r => r, fun _ _ => none, fun x_ => [], fun x_ v_ ns_ as_ => [(9, .int .i64 v_)], fun x_ v_ ns_ as_ => [], 0, 0, fun x_ u_ ns_ as_ => [], fun x_ u_ ns_ as_ => []⟩

noncomputable def C8l4g (k : Nat) (i_ : Ins C8p) : Nat → (C8l4 i_).X → (C8l4 i_).V → Option (C8l4 i_).W := fun m_ (x_ : Unit) (v_ : Int) => thicketlaw22_DispatchNumbers_l2 m_ v_

theorem C8l4s (k : Nat) (i : Ins C8p) (m : Nat) : ((C8l4 i).at (C8l4g k i) m).Sound Tryz.prog 8 170 (C8r k i) :=
  loop_sound mixed (C8l4 i) (id := 4) (body := nav [1, 1, 0, 1, 0, 0] (bodyOf Tryz.prog 8)) (C8l4g k i) (fun r => some (.inl r)) (fun u => .inr u) (gj (gI 9) []) (gj gU []) (fun m => (.s (.seg 2 []) (.cond (.blk (.s (.seg 1 []) (.s (.call (K12 m) [] [692, 693, 694, 695, 696, 697, 698, 699, 700, 701, 702, 703, 704, 705, 706, 707, 708, 709, 710, 711, 712, 713, 714, 715, 716, 717, 718, 719, 720, 721, 722]) (.np 72 999 (.s (.seg 1 []) (.s (.seg 2 []) (.condT (.s (.seg 1 []) .ret)))) (.s (.seg 1 []) (.s (.seg 2 []) (.condF (.s (.seg 1 []) (.loop ⟨(C8l2 i).at (C8l2g k i) m, C8l2s k i m⟩ (gl (g2 (gP 692) (g2 (gA thicketlaw22_world.D [692, 693, 694, 695, 696, 697, 698, 699, 700, 701, 702, 703, 704, 705, 706, 707, 708, 709, 710, 711, 712, 713, 714, 715, 716, 717, 718, 719, 720, 721, 722]) (gI 9))) (g2 (gI 11) (gO thicketlaw22_world.D [692, 693, 694, 695, 696, 697, 698, 699, 700, 701, 702, 703, 704, 705, 706, 707, 708, 709, 710, 711, 712, 713, 714, 715, 716, 717, 718, 719, 720, 721, 722])) [nA thicketlaw22_world.D [692, 693, 694, 695, 696, 697, 698, 699, 700, 701, 702, 703, 704, 705, 706, 707, 708, 709, 710, 711, 712, 713, 714, 715, 716, 717, 718, 719, 720, 721, 722] (fun al => ([al.d_a.q_p, al.d_a.q_a.a__p, al.d_a.q_a.a__a.l_c, al.d_a.q_a.a__a.free_c, al.d_a.q_a.a__a.m__p, al.d_a.q_a.t__p, al.d_a.q_a.t__a.heaps_p, al.d_a.q_a.t__a.heaps_a.l_c, al.d_a.q_a.t__a.heaps_a.free_c, al.d_a.q_a.t__a.items_p, al.d_a.q_a.t__a.items_a.l_c, al.d_a.q_a.t__a.items_a.free_c, al.d_a.q_a.t__a.at__p, al.d_a.q_a.entries_p, al.d_a.t__p, al.d_a.t__a.p_p, al.d_a.t__a.p_a.l_c, al.d_a.t__a.p_a.free_c, al.d_a.t__a.by__p, al.d_a.when_p, al.d_a.clock_p, al.m__a.Pool_p, al.m__a.Pool_a.Gens_c, al.m__a.Pool_a.In_c, al.m__a.Pool_a.V_c, al.m__a.Pool_a.Back_c, al.m__a.L_c, al.told_c], [al.d_a.q_a.a__a.l_b, al.d_a.q_a.a__a.free_b, al.d_a.q_a.t__a.heaps_a.l_b, al.d_a.q_a.t__a.heaps_a.free_b, al.d_a.q_a.t__a.items_a.l_b, al.d_a.q_a.t__a.items_a.free_b, al.d_a.t__a.p_a.l_b, al.d_a.t__a.p_a.free_b, al.m__a.Pool_a.Gens_b, al.m__a.Pool_a.In_b, al.m__a.Pool_a.V_b, al.m__a.Pool_a.Back_b, al.m__a.L_b, al.told_b]))]) (.s (.seg 6 [.C 692 3]) (.cond (.s (.seg 1 []) .ret) (.drw (.q [0, 1, 2, 3, 4, 5, 6, 7] [.C 692 3] (.s (.idx false 722 (.const (.int .i64 2)) 85) (.q [8, 9, 10, 11, 12, 13, 14] [.A 85, .X 85 722 0, .X 85 722 1, .C 692 3] (.s (.idx false 722 (.const (.int .i64 2)) 86) (.q [15, 16, 17, 18, 19, 20, 21] [.A 86, .X 86 722 0, .X 86 722 1, .C 692 3] (.s (.idx false 722 (.const (.int .i64 3)) 87) (.q [22, 23, 24, 25, 26, 27, 28] [.A 87, .X 87 722 0, .X 87 722 1, .C 692 3] (.s (.idx false 722 (.const (.int .i64 3)) 88) (.q [29, 30, 31, 32, 33, 34, 35, 36, 37, 38, 39, 40, 41, 42, 43, 44, 45, 46, 47, 48, 49, 50, 51, 52, 53, 54, 55, 56, 57, 60] [.A 88, .X 88 722 0, .X 88 722 1] (.a 58 (.bld 724 10 38) [] (.q [59] [] (.loop ⟨(C8l3 i).at (C8l3g k i) m, C8l3s k i m⟩ (gl (g2 (gP 692) (g2 (gA thicketlaw22_world.D [692, 693, 694, 695, 696, 697, 698, 699, 700, 701, 702, 703, 704, 705, 706, 707, 708, 709, 710, 711, 712, 713, 714, 715, 716, 717, 718, 719, 720, 721, 722]) (g2 (gL 10 724) (g2 (gh 724) (gI 9))))) (g2 (gI 155) (gO thicketlaw22_world.D [692, 693, 694, 695, 696, 697, 698, 699, 700, 701, 702, 703, 704, 705, 706, 707, 708, 709, 710, 711, 712, 713, 714, 715, 716, 717, 718, 719, 720, 721, 722])) [nA thicketlaw22_world.D [692, 693, 694, 695, 696, 697, 698, 699, 700, 701, 702, 703, 704, 705, 706, 707, 708, 709, 710, 711, 712, 713, 714, 715, 716, 717, 718, 719, 720, 721, 722] (fun al => ([al.d_a.q_p, al.d_a.q_a.a__p, al.d_a.q_a.a__a.l_c, al.d_a.q_a.a__a.free_c, al.d_a.q_a.a__a.m__p, al.d_a.q_a.t__p, al.d_a.q_a.t__a.heaps_p, al.d_a.q_a.t__a.heaps_a.l_c, al.d_a.q_a.t__a.heaps_a.free_c, al.d_a.q_a.t__a.items_p, al.d_a.q_a.t__a.items_a.l_c, al.d_a.q_a.t__a.items_a.free_c, al.d_a.q_a.t__a.at__p, al.d_a.q_a.entries_p, al.d_a.t__p, al.d_a.t__a.p_p, al.d_a.t__a.p_a.l_c, al.d_a.t__a.p_a.free_c, al.d_a.t__a.by__p, al.d_a.when_p, al.d_a.clock_p, al.m__a.Pool_p, al.m__a.Pool_a.Gens_c, al.m__a.Pool_a.In_c, al.m__a.Pool_a.V_c, al.m__a.Pool_a.Back_c, al.m__a.L_c, al.told_c], [al.d_a.q_a.a__a.l_b, al.d_a.q_a.a__a.free_b, al.d_a.q_a.t__a.heaps_a.l_b, al.d_a.q_a.t__a.heaps_a.free_b, al.d_a.q_a.t__a.items_a.l_b, al.d_a.q_a.t__a.items_a.free_b, al.d_a.t__a.p_a.l_b, al.d_a.t__a.p_a.free_b, al.m__a.Pool_a.Gens_b, al.m__a.Pool_a.In_b, al.m__a.Pool_a.V_b, al.m__a.Pool_a.Back_b, al.m__a.L_b, al.told_b]))]) (.s (.seg 3 []) .back))))))))))))))))))))))))) .leaf))) (by kernel_rfl) (fun _ _ => rfl) (fun r y h => by cases h; rfl) (fun u => rfl) (fun m x v n1 n2 => by kernel_rfl) (fun m x v n1 n2 s => by kernel_rfl) m

theorem S8 (k : Nat) : (C8 k).Sound Tryz.prog :=
  fn_sound mixed (C8 k) (n := 170) (rs := rsOf Tryz.prog 8) [] [] (gj (gB 0) []) (fun i => (.s (.seg 1 []) (.s (.seg 1 []) (.loop ⟨(C8l1 i).at (C8l1g k i) k, C8l1s k i k⟩ (gl gU (gI 1) []) (.s (.seg 1 []) (.loop ⟨(C8l4 i).at (C8l4g k i) k, C8l4s k i k⟩ (gl gU (gI 9) []) (.s (.call (K18 k) [] []) (.s (.seg 1 []) .ret)))))))) Tryz.func8 rfl rfl (by kernel_rfl) (fun _ => rfl) (fun i => by kernel_rfl) (fun i s => by kernel_rfl)

noncomputable def K8 (k : Nat) : SCon El Tryz.prog := ⟨C8 k, S8 k, Tryz.call8⟩

theorem thicketlaw22_DispatchNumbers_ok {w0 w : World} {As : List HP} {k : Nat}  {t : Bool}  (hm : thicketlaw22_DispatchNumbers k = some t) (H : St w0 (As) w) :
    CallsR Tryz.prog 8 #[] w fun v w' => v = .bool t ∧ St w0 (As) w' := by
  refine (S8 k () t hm w0 w (As) rd0 H).mono ?_
  rintro v w' ⟨ns, as_, hn, ha, hv, H, hfx⟩
  obtain rfl := ls0 hn
  obtain rfl := ls0 ha
  refine ⟨hv, ?_⟩
  exact H

end Go.Proofs.YteflmnbkdhneiaaGreat
