import Derived.Test.YtdcjghailibedaaGreatUp2
set_option linter.unusedVariables false
set_option linter.unusedSimpArgs false
set_option maxRecDepth 10000
set_option maxHeartbeats 4000000
namespace Go.Proofs.YtdcjghailibedaaGreat
open Go.Th

theorem dispatch_Dispatcher_schedule_ok {w0 w : World} {As : List HP} {p_d : Nat} {al_d : dispatch_Dispatcher.A} {d : dispatch_Dispatcher} {c_ : api_Command} {t : api_Reply × dispatch_Dispatcher}  (hm : dispatch_Dispatcher_schedule d c_ = some t) (H : St w0 (dispatch_Dispatcher.R p_d al_d d :: As) w) :
    CallsR Tryz.prog 86 #[.pointer (some ⟨p_d, 0, none⟩), .agg #[.int .i64 c_.Kind, .int .i64 c_.Queue, .int .i64 c_.Job.At, .int .i64 c_.Job.Gen, .int .i64 c_.Time, .int .i64 c_.Data]] w fun v w' => ∃ (z_d_q_a : pq_Queues.A), ∃ (z_d_t__a : jobs_Table.A), v = .agg #[.int .i64 t.1.Why, .int .i64 t.1.Job.At, .int .i64 t.1.Job.Gen, .int .i64 t.1.Time, .int .i64 t.1.Data, .int .i64 t.1.N] ∧ St w0 (dispatch_Dispatcher.R p_d (dispatch_Dispatcher.A.mk al_d.q_p z_d_q_a al_d.t__p z_d_t__a al_d.when_p al_d.clock_p) t.2 :: As) w' := by
 rw [dispatch_Dispatcher_schedule] at hm
 refine enter (args := [.pointer (some ⟨p_d, 0, none⟩), .agg #[.int .i64 c_.Kind, .int .i64 c_.Queue, .int .i64 c_.Job.At, .int .i64 c_.Job.Gen, .int .i64 c_.Time, .int .i64 c_.Data]]) Tryz.func86 rfl rfl rfl fun a hE => ?_
 refine Runs.sr ?_
 refine WR.eff hE rfl rfl rfl rfl (OpTo.new hE H [] (.cells #[.int .i64 c_.Kind, .int .i64 c_.Queue, .int .i64 c_.Job.At, .int .i64 c_.Job.Gen, .int .i64 c_.Time, .int .i64 c_.Data] 33 (0, 0)) (fun r => .pointer (some ⟨r, 0, none⟩)) (obs := []) rfl (fun _ => by kernel_rfl) trivial) ?_
 rintro _ w ⟨r, rfl, H⟩ a hE
 refine WR.eff hE rfl rfl rfl rfl (OpTo.new hE H [] (.cells #[.int .i64 0, .int .i64 0, .int .i64 0, .int .i64 0, .int .i64 0, .int .i64 0] 35 (0, 0)) (fun r => .pointer (some ⟨r, 0, none⟩)) (obs := []) rfl (fun _ => by kernel_rfl) trivial) ?_
 rintro _ w ⟨r1, rfl, H⟩ a hE
 refine WR.done rfl ?_
 refine Runs.seq ?_
 refine Runs.seq ?_
 refine Runs.drawn mixed (by kernel_rfl) ?_
 replace H := H.drew
 replace H := dispatch_Dispatcher.open H.t2
 refine WQ.seg hE [0, 1, 2, 3, 5, 6, 7, 8] [.pointer (some ⟨al_d.t__p, 0, none⟩), .int .i64 d.most] [0, 3, 4, 13, 18] (Lo := [(0, .pointer (some ⟨p_d, 0, none⟩)), (3, .pointer (some ⟨r, 0, none⟩)), (4, .pointer (some ⟨r1, 0, none⟩)), (13, .pointer (some ⟨al_d.t__p, 0, none⟩)), (18, .int .i64 d.most)]) (obs := [.cell ⟨p_d, 7, none⟩ (.pointer (some ⟨al_d.t__p, 0, none⟩)), .cell ⟨p_d, 1, none⟩ (.int .i64 d.most)]) (by kernel_rfl) (by kernel_rfl) ⟨H.cell 0 rfl rfl, H.cell 0 rfl rfl, trivial⟩ fun a hE => ?_
 obtain ⟨t_, et_, hm⟩ := bind_some hm
 refine WQ.eff (j := 4) (obs := [.cell ⟨p_d, 1, none⟩ (.int .i64 d.most)]) hE (by kernel_rfl) rfl rfl rfl rfl (by kernel_rfl) (OpTo.fn hE rfl rfl Tryz.call64 (jobs_Table_Len_ok et_ H.t2)) ?_
 rintro _ w ⟨rfl, H⟩
 refine ⟨⟨H.cell 1 rfl rfl, trivial⟩, fun a hE => ?_⟩
 refine WQ.d0 hE [9] [(19, .bool (decide (t_ ≥ d.most)))] fun a hE => ?_
 refine WQ.done (by kernel_rfl) ?_
 refine Runs.cond hE rfl (fun c => ?_) (fun c => ?_)
 ·replace hm := cond_t c hm
  refine Runs.sr ?_
  obtain ⟨t_1, et_1, hm⟩ := bind_some hm
  refine WR.eff hE rfl rfl rfl rfl (OpTo.fn hE rfl rfl Tryz.call62 (dispatch_refused_ok et_1 H)) ?_
  rintro _ w ⟨rfl, H⟩ a hE
  refine WR.eff0 hE rfl rfl rfl (OpTo.store hE H.t5 rfl rfl rfl rfl rfl rfl (Nat.le_of_ble_eq_true rfl)) ?_
  rintro _ w H a hE
  refine WR.done rfl ?_
  refine Runs.retO (vs := [.agg #[.int .i64 t_1.Why, .int .i64 t_1.Job.At, .int .i64 t_1.Job.Gen, .int .i64 t_1.Time, .int .i64 t_1.Data, .int .i64 t_1.N]]) (obs := [.cell ⟨r1, 0, none⟩ (.int .i64 t_1.Why), .cell ⟨r1, 1, none⟩ (.int .i64 t_1.Job.At), .cell ⟨r1, 2, none⟩ (.int .i64 t_1.Job.Gen), .cell ⟨r1, 3, none⟩ (.int .i64 t_1.Time), .cell ⟨r1, 4, none⟩ (.int .i64 t_1.Data), .cell ⟨r1, 5, none⟩ (.int .i64 t_1.N)]) hE Tryz.func86 rfl [.int .i64 t_1.Why, .int .i64 t_1.Job.At, .int .i64 t_1.Job.Gen, .int .i64 t_1.Time, .int .i64 t_1.Data, .int .i64 t_1.N] (by kernel_rfl) ⟨H.cell 0 rfl rfl, H.cell 0 rfl rfl, H.cell 0 rfl rfl, H.cell 0 rfl rfl, H.cell 0 rfl rfl, H.cell 0 rfl rfl, trivial⟩ ?_
  replace H := dispatch_Dispatcher.shut al_d (d) H.t5.t5.t3.t5.t5
  cases hm
  exact ⟨al_d.q_a, al_d.t__a, rfl, H.x2.x1⟩
 ·replace hm := cond_f c hm
  refine Runs.skip ?_
  refine Runs.seq ?_
  replace H := dispatch_Dispatcher.shut al_d (d) H.t4.t4.t2.t4.t4
  obtain ⟨x, ex, hm⟩ := bind_some hm
  obtain ⟨t_2, et_2, hm⟩ := bind_some hm
  refine Runs.join (fun a w => ∃ (r3 : Nat), ∃ (z1 : pq_Queues.A), EnvOk 67 a [(0, .pointer (some ⟨p_d, 0, none⟩)), (3, .pointer (some ⟨r, 0, none⟩)), (4, .pointer (some ⟨r1, 0, none⟩)), (5, .pointer (some ⟨r3, 0, none⟩))] ∧ St w0 (Blk r3 127 [.int .i64 t_2.1.Why, .int .i64 t_2.1.Heap.At, .int .i64 t_2.1.Heap.Gen, .int .i64 t_2.1.Item.At, .int .i64 t_2.1.Item.Gen, .int .i64 t_2.1.Entry.Key, .int .i64 t_2.1.Entry.Serial, .int .i64 t_2.1.N] :: dispatch_Dispatcher.R p_d (dispatch_Dispatcher.A.mk al_d.q_p z1 al_d.t__p al_d.t__a al_d.when_p al_d.clock_p) (dispatch_Dispatcher.mk d.kind d.most t_2.2 d.heaps0 d.heaps1 d.t_ d.when d.clock d.budget d.last d.top) :: Blk r1 35 [.int .i64 0, .int .i64 0, .int .i64 0, .int .i64 0, .int .i64 0, .int .i64 0] :: Blk r 33 [.int .i64 c_.Kind, .int .i64 c_.Queue, .int .i64 c_.Job.At, .int .i64 c_.Job.Gen, .int .i64 c_.Time, .int .i64 c_.Data] :: As) w) (fun hk => ?_) ?_
  ·refine Runs.drawn mixed (by kernel_rfl) ?_
   replace H := H.drew
   replace H := dispatch_Dispatcher.open H
   refine WQ.d hE [0, 1, 2, 3, 4, 5, 6, 7, 8, 9, 10, 11, 12, 13] [.pointer (some ⟨al_d.q_p, 0, none⟩), .int .i64 c_.Queue, .int .i64 x.At, .int .i64 x.Gen, .int .i64 c_.Time] [(24, .pointer (some ⟨al_d.q_p, 0, none⟩)), (34, .agg #[.int .i64 2, .int .i64 0, .int .i64 x.At, .int .i64 x.Gen, .int .i64 0, .int .i64 0, .int .i64 0, .int .i64 0, .int .i64 c_.Time])] (obs := [.cell ⟨p_d, 2, none⟩ (.pointer (some ⟨al_d.q_p, 0, none⟩)), .cell ⟨r, 1, none⟩ (.int .i64 c_.Queue), .p (0 ≤ (c_.Queue : Int) ∧ (c_.Queue : Int) < ((2 : Nat) : Int)), .cell ⟨p_d, 3 + (Int.toNat c_.Queue) * 2 + 0, none⟩ (.int .i64 x.At), .cell ⟨p_d, 3 + (Int.toNat c_.Queue) * 2 + 1, none⟩ (.int .i64 x.Gen), .cell ⟨r, 4, none⟩ (.int .i64 c_.Time)]) ⟨H.cell 0 rfl rfl, H.cell 6 rfl rfl, idx_bd ex, (by rcases idx_lt ex with q | q <;> (have q2 := idx_at ex; rw [q] at q2 ⊢; have q3 := Option.some.inj q2; subst q3; exact H.cell 0 rfl rfl)), (by rcases idx_lt ex with q | q <;> (have q2 := idx_at ex; rw [q] at q2 ⊢; have q3 := Option.some.inj q2; subst q3; exact H.cell 0 rfl rfl)), H.cell 6 rfl rfl, trivial⟩ fun a hE => ?_
   refine WQ.act2 14 15 (by kernel_rfl) ?_ ?_
   ·have hC_ := pq_Queues_Do_ok et_2 H.t1
    try dsimp only at hC_
    refine AQ.eff (j := 14) (obs := []) hE rfl rfl rfl rfl (by kernel_rfl) (OpTo.fn hE rfl rfl Tryz.call56 hC_) ?_
    rintro _ w ⟨z2, rfl, H⟩
    refine ⟨trivial, fun a hE => ?_⟩
    refine WQ.eff (j := 15) (obs := []) hE (by kernel_rfl) rfl rfl rfl rfl (by kernel_rfl) (OpTo.new hE H [] (.cells #[.int .i64 0, .int .i64 0, .int .i64 0, .int .i64 0, .int .i64 0, .int .i64 0, .int .i64 0, .int .i64 0] 127 (0, 0)) (fun r => .pointer (some ⟨r, 0, none⟩)) (obs := []) rfl (fun _ => by kernel_rfl) trivial) ?_
    rintro _ w ⟨r4, rfl, H⟩
    refine ⟨trivial, fun a hE => ?_⟩
    refine WQ.eff0 (j := 16) (obs := []) hE (by kernel_rfl) rfl rfl rfl (by kernel_rfl) (OpTo.store hE H rfl rfl rfl rfl rfl rfl (Nat.le_of_ble_eq_true rfl)) ?_
    rintro _ w H
    refine ⟨trivial, fun a hE => ?_⟩
    refine WQ.done (by kernel_rfl) ?_
    replace H := dispatch_Dispatcher.shut (dispatch_Dispatcher.A.mk al_d.q_p (pq_Queues.A.mk al_d.q_a.a__p al_d.q_a.a__a al_d.q_a.t__p z2 al_d.q_a.entries_p) al_d.t__p al_d.t__a al_d.when_p al_d.clock_p) (dispatch_Dispatcher.mk d.kind d.most t_2.2 d.heaps0 d.heaps1 d.t_ d.when d.clock d.budget d.last d.top) H.t5.t5.t5.t4.t5
    exact hk _ _ ⟨r4, pq_Queues.A.mk al_d.q_a.a__p al_d.q_a.a__a al_d.q_a.t__p z2 al_d.q_a.entries_p, hE.sel [0, 3, 4, 5] (by kernel_rfl), H.t3.t3.t2.t3⟩
   ·refine AQ.eff (j := 15) (obs := [.cell ⟨r, 4, none⟩ (.int .i64 c_.Time), .cell ⟨p_d, 3 + (Int.toNat c_.Queue) * 2 + 0, none⟩ (.int .i64 x.At), .cell ⟨p_d, 3 + (Int.toNat c_.Queue) * 2 + 1, none⟩ (.int .i64 x.Gen), .p (0 ≤ (c_.Queue : Int) ∧ (c_.Queue : Int) < ((2 : Nat) : Int)), .cell ⟨r, 1, none⟩ (.int .i64 c_.Queue), .cell ⟨p_d, 2, none⟩ (.pointer (some ⟨al_d.q_p, 0, none⟩))]) hE rfl rfl rfl rfl (by kernel_rfl) (OpTo.new hE H [] (.cells #[.int .i64 0, .int .i64 0, .int .i64 0, .int .i64 0, .int .i64 0, .int .i64 0, .int .i64 0, .int .i64 0] 127 (0, 0)) (fun r => .pointer (some ⟨r, 0, none⟩)) (obs := []) rfl (fun _ => by kernel_rfl) trivial) ?_
    rintro _ w ⟨r5, rfl, H⟩
    refine ⟨⟨H.cell 7 rfl rfl, (by rcases idx_lt ex with q | q <;> (have q2 := idx_at ex; rw [q] at q2 ⊢; have q3 := Option.some.inj q2; subst q3; exact H.cell 1 rfl rfl)), (by rcases idx_lt ex with q | q <;> (have q2 := idx_at ex; rw [q] at q2 ⊢; have q3 := Option.some.inj q2; subst q3; exact H.cell 1 rfl rfl)), idx_bd ex, H.cell 7 rfl rfl, H.cell 1 rfl rfl, trivial⟩, fun a hE => ?_⟩
    have hC_ := pq_Queues_Do_ok et_2 H.t2
    try dsimp only at hC_
    refine WQ.eff (j := 14) (obs := []) hE (by kernel_rfl) rfl rfl rfl rfl (by kernel_rfl) (OpTo.fn hE rfl rfl Tryz.call56 hC_) ?_
    rintro _ w ⟨z3, rfl, H⟩
    refine ⟨trivial, fun a hE => ?_⟩
    refine WQ.eff0 (j := 16) (obs := []) hE (by kernel_rfl) rfl rfl rfl (by kernel_rfl) (OpTo.store hE H.t1 rfl rfl rfl rfl rfl rfl (Nat.le_of_ble_eq_true rfl)) ?_
    rintro _ w H
    refine ⟨trivial, fun a hE => ?_⟩
    refine WQ.done (by kernel_rfl) ?_
    replace H := dispatch_Dispatcher.shut (dispatch_Dispatcher.A.mk al_d.q_p (pq_Queues.A.mk al_d.q_a.a__p al_d.q_a.a__a al_d.q_a.t__p z3 al_d.q_a.entries_p) al_d.t__p al_d.t__a al_d.when_p al_d.clock_p) (dispatch_Dispatcher.mk d.kind d.most t_2.2 d.heaps0 d.heaps1 d.t_ d.when d.clock d.budget d.last d.top) H.t5.t5.t5.t4.t5
    exact hk _ _ ⟨r5, pq_Queues.A.mk al_d.q_a.a__p al_d.q_a.a__a al_d.q_a.t__p z3 al_d.q_a.entries_p, hE.sel [0, 3, 4, 5] (by kernel_rfl), H.t3.t3.t2.t3⟩
  rintro a w ⟨r3, z1, hE, H⟩
  refine Runs.sr ?_
  refine WR.seg hE 9 [.int .i64 c_.Queue, .int .i64 c_.Time, .int .i64 c_.Data, .int .i64 t_2.1.Item.At, .int .i64 t_2.1.Item.Gen] [0, 4, 5, 44] (Lo := [(0, .pointer (some ⟨p_d, 0, none⟩)), (4, .pointer (some ⟨r1, 0, none⟩)), (5, .pointer (some ⟨r3, 0, none⟩)), (44, .agg #[.int .i64 c_.Queue, .int .i64 c_.Time, .int .i64 c_.Data, .int .i64 t_2.1.Item.At, .int .i64 t_2.1.Item.Gen])]) (obs := [.cell ⟨r, 1, none⟩ (.int .i64 c_.Queue), .cell ⟨r, 4, none⟩ (.int .i64 c_.Time), .cell ⟨r, 5, none⟩ (.int .i64 c_.Data), .cell ⟨r3, 3, none⟩ (.int .i64 t_2.1.Item.At), .cell ⟨r3, 4, none⟩ (.int .i64 t_2.1.Item.Gen)]) rfl (by kernel_rfl) ⟨H.cell 3 rfl rfl, H.cell 3 rfl rfl, H.cell 3 rfl rfl, H.cell 0 rfl rfl, H.cell 0 rfl rfl, trivial⟩ fun a hE => ?_
  refine WR.eff hE rfl rfl rfl rfl (OpTo.new hE H [] (.cells #[.int .i64 0, .int .i64 0, .int .i64 0, .int .i64 0, .int .i64 0] 160 (0, 0)) (fun r => .pointer (some ⟨r, 0, none⟩)) (obs := []) rfl (fun _ => by kernel_rfl) trivial) ?_
  rintro _ w ⟨r6, rfl, H⟩ a hE
  refine WR.eff0 hE rfl rfl rfl (OpTo.store hE H rfl rfl rfl rfl rfl rfl (Nat.le_of_ble_eq_true rfl)) ?_
  rintro _ w H a hE
  refine WR.done rfl ?_
  refine Runs.seq ?_
  obtain ⟨t_3, et_3, hm⟩ := bind_some hm
  refine Runs.join (fun a w => ∃ (r8 : Nat), ∃ (z5 : jobs_Table.A), EnvOk 67 a [(0, .pointer (some ⟨p_d, 0, none⟩)), (4, .pointer (some ⟨r1, 0, none⟩)), (5, .pointer (some ⟨r3, 0, none⟩)), (6, .pointer (some ⟨r6, 0, none⟩)), (7, .pointer (some ⟨r8, 0, none⟩))] ∧ St w0 (Blk r8 31 [.int .i64 t_3.1.At, .int .i64 t_3.1.Gen] :: Blk r6 160 [.int .i64 c_.Queue, .int .i64 c_.Time, .int .i64 c_.Data, .int .i64 t_2.1.Item.At, .int .i64 t_2.1.Item.Gen] :: Blk r3 127 [.int .i64 t_2.1.Why, .int .i64 t_2.1.Heap.At, .int .i64 t_2.1.Heap.Gen, .int .i64 t_2.1.Item.At, .int .i64 t_2.1.Item.Gen, .int .i64 t_2.1.Entry.Key, .int .i64 t_2.1.Entry.Serial, .int .i64 t_2.1.N] :: dispatch_Dispatcher.R p_d (dispatch_Dispatcher.A.mk al_d.q_p z1 al_d.t__p z5 al_d.when_p al_d.clock_p) (dispatch_Dispatcher.mk ((dispatch_Dispatcher.mk d.kind d.most t_2.2 d.heaps0 d.heaps1 d.t_ d.when d.clock d.budget d.last d.top).kind) ((dispatch_Dispatcher.mk d.kind d.most t_2.2 d.heaps0 d.heaps1 d.t_ d.when d.clock d.budget d.last d.top).most) ((dispatch_Dispatcher.mk d.kind d.most t_2.2 d.heaps0 d.heaps1 d.t_ d.when d.clock d.budget d.last d.top).q) ((dispatch_Dispatcher.mk d.kind d.most t_2.2 d.heaps0 d.heaps1 d.t_ d.when d.clock d.budget d.last d.top).heaps0) ((dispatch_Dispatcher.mk d.kind d.most t_2.2 d.heaps0 d.heaps1 d.t_ d.when d.clock d.budget d.last d.top).heaps1) t_3.2.2 ((dispatch_Dispatcher.mk d.kind d.most t_2.2 d.heaps0 d.heaps1 d.t_ d.when d.clock d.budget d.last d.top).when) ((dispatch_Dispatcher.mk d.kind d.most t_2.2 d.heaps0 d.heaps1 d.t_ d.when d.clock d.budget d.last d.top).clock) ((dispatch_Dispatcher.mk d.kind d.most t_2.2 d.heaps0 d.heaps1 d.t_ d.when d.clock d.budget d.last d.top).budget) ((dispatch_Dispatcher.mk d.kind d.most t_2.2 d.heaps0 d.heaps1 d.t_ d.when d.clock d.budget d.last d.top).last) ((dispatch_Dispatcher.mk d.kind d.most t_2.2 d.heaps0 d.heaps1 d.t_ d.when d.clock d.budget d.last d.top).top)) :: Blk r1 35 [.int .i64 0, .int .i64 0, .int .i64 0, .int .i64 0, .int .i64 0, .int .i64 0] :: As) w) (fun hk => ?_) ?_
  ·refine Runs.drawn mixed (by kernel_rfl) ?_
   replace H := H.drew
   replace H := dispatch_Dispatcher.open H.t2
   try dsimp only at H
   refine WQ.d hE [0, 1, 2, 3, 4] [.pointer (some ⟨al_d.t__p, 0, none⟩), .int .i64 c_.Queue, .int .i64 c_.Time, .int .i64 c_.Data, .int .i64 t_2.1.Item.At, .int .i64 t_2.1.Item.Gen] [(49, .pointer (some ⟨al_d.t__p, 0, none⟩)), (50, .agg #[.int .i64 c_.Queue, .int .i64 c_.Time, .int .i64 c_.Data, .int .i64 t_2.1.Item.At, .int .i64 t_2.1.Item.Gen])] (obs := [.cell ⟨p_d, 7, none⟩ (.pointer (some ⟨al_d.t__p, 0, none⟩)), .cell ⟨r6, 0, none⟩ (.int .i64 c_.Queue), .cell ⟨r6, 1, none⟩ (.int .i64 c_.Time), .cell ⟨r6, 2, none⟩ (.int .i64 c_.Data), .cell ⟨r6, 3, none⟩ (.int .i64 t_2.1.Item.At), .cell ⟨r6, 4, none⟩ (.int .i64 t_2.1.Item.Gen)]) ⟨H.cell 0 rfl rfl, H.cell 5 rfl rfl, H.cell 5 rfl rfl, H.cell 5 rfl rfl, H.cell 5 rfl rfl, H.cell 5 rfl rfl, trivial⟩ fun a hE => ?_
   refine WQ.act2 5 9 (by kernel_rfl) ?_ ?_
   ·have hC_ := jobs_Table_Add_ok et_3 H.t2
    try dsimp only at hC_
    refine AQ.eff (j := 5) (obs := []) hE rfl rfl rfl rfl (by kernel_rfl) (OpTo.fn hE rfl rfl Tryz.call126 hC_) ?_
    rintro _ w ⟨z6, rfl, H⟩
    refine ⟨trivial, fun a hE => ?_⟩
    refine WQ.d0 hE [6, 7, 8] [(52, .agg #[.int .i64 t_3.1.At, .int .i64 t_3.1.Gen]), (53, .int .i64 t_3.2.1)] fun a hE => ?_
    refine WQ.eff (j := 9) (obs := []) hE (by kernel_rfl) rfl rfl rfl rfl (by kernel_rfl) (OpTo.new hE H [] (.cells #[.int .i64 0, .int .i64 0] 31 (0, 0)) (fun r => .pointer (some ⟨r, 0, none⟩)) (obs := []) rfl (fun _ => by kernel_rfl) trivial) ?_
    rintro _ w ⟨r9, rfl, H⟩
    refine ⟨trivial, fun a hE => ?_⟩
    refine WQ.eff0 (j := 10) (obs := []) hE (by kernel_rfl) rfl rfl rfl (by kernel_rfl) (OpTo.store hE H rfl rfl rfl rfl rfl rfl (Nat.le_of_ble_eq_true rfl)) ?_
    rintro _ w H
    refine ⟨trivial, fun a hE => ?_⟩
    refine WQ.d0 hE [11] [] fun a hE => ?_
    refine WQ.done (by kernel_rfl) ?_
    replace H := dispatch_Dispatcher.shut (dispatch_Dispatcher.A.mk al_d.q_p z1 al_d.t__p (jobs_Table.A.mk al_d.t__a.p_p z6 al_d.t__a.by__p) al_d.when_p al_d.clock_p) (dispatch_Dispatcher.mk ((dispatch_Dispatcher.mk d.kind d.most t_2.2 d.heaps0 d.heaps1 d.t_ d.when d.clock d.budget d.last d.top).kind) ((dispatch_Dispatcher.mk d.kind d.most t_2.2 d.heaps0 d.heaps1 d.t_ d.when d.clock d.budget d.last d.top).most) ((dispatch_Dispatcher.mk d.kind d.most t_2.2 d.heaps0 d.heaps1 d.t_ d.when d.clock d.budget d.last d.top).q) ((dispatch_Dispatcher.mk d.kind d.most t_2.2 d.heaps0 d.heaps1 d.t_ d.when d.clock d.budget d.last d.top).heaps0) ((dispatch_Dispatcher.mk d.kind d.most t_2.2 d.heaps0 d.heaps1 d.t_ d.when d.clock d.budget d.last d.top).heaps1) t_3.2.2 ((dispatch_Dispatcher.mk d.kind d.most t_2.2 d.heaps0 d.heaps1 d.t_ d.when d.clock d.budget d.last d.top).when) ((dispatch_Dispatcher.mk d.kind d.most t_2.2 d.heaps0 d.heaps1 d.t_ d.when d.clock d.budget d.last d.top).clock) ((dispatch_Dispatcher.mk d.kind d.most t_2.2 d.heaps0 d.heaps1 d.t_ d.when d.clock d.budget d.last d.top).budget) ((dispatch_Dispatcher.mk d.kind d.most t_2.2 d.heaps0 d.heaps1 d.t_ d.when d.clock d.budget d.last d.top).last) ((dispatch_Dispatcher.mk d.kind d.most t_2.2 d.heaps0 d.heaps1 d.t_ d.when d.clock d.budget d.last d.top).top)) H.t5.t5.t3.t5.t5
    exact hk _ _ ⟨r9, jobs_Table.A.mk al_d.t__a.p_p z6 al_d.t__a.by__p, hE.sel [0, 4, 5, 6, 7] (by kernel_rfl), H.x5.t4.t1.t4.t4.t4⟩
   ·refine AQ.eff (j := 9) (obs := [.cell ⟨r6, 0, none⟩ (.int .i64 c_.Queue), .cell ⟨r6, 1, none⟩ (.int .i64 c_.Time), .cell ⟨r6, 2, none⟩ (.int .i64 c_.Data), .cell ⟨r6, 3, none⟩ (.int .i64 t_2.1.Item.At), .cell ⟨r6, 4, none⟩ (.int .i64 t_2.1.Item.Gen), .cell ⟨p_d, 7, none⟩ (.pointer (some ⟨al_d.t__p, 0, none⟩))]) hE rfl rfl rfl rfl (by kernel_rfl) (OpTo.new hE H [] (.cells #[.int .i64 0, .int .i64 0] 31 (0, 0)) (fun r => .pointer (some ⟨r, 0, none⟩)) (obs := []) rfl (fun _ => by kernel_rfl) trivial) ?_
    rintro _ w ⟨r10, rfl, H⟩
    refine ⟨⟨H.cell 6 rfl rfl, H.cell 6 rfl rfl, H.cell 6 rfl rfl, H.cell 6 rfl rfl, H.cell 6 rfl rfl, H.cell 1 rfl rfl, trivial⟩, fun a hE => ?_⟩
    have hC_ := jobs_Table_Add_ok et_3 H.t3
    try dsimp only at hC_
    refine WQ.eff (j := 5) (obs := []) hE (by kernel_rfl) rfl rfl rfl rfl (by kernel_rfl) (OpTo.fn hE rfl rfl Tryz.call126 hC_) ?_
    rintro _ w ⟨z7, rfl, H⟩
    refine ⟨trivial, fun a hE => ?_⟩
    refine WQ.d0 hE [6, 7, 8] [(52, .agg #[.int .i64 t_3.1.At, .int .i64 t_3.1.Gen]), (53, .int .i64 t_3.2.1)] fun a hE => ?_
    refine WQ.eff0 (j := 10) (obs := []) hE (by kernel_rfl) rfl rfl rfl (by kernel_rfl) (OpTo.store hE H.t1 rfl rfl rfl rfl rfl rfl (Nat.le_of_ble_eq_true rfl)) ?_
    rintro _ w H
    refine ⟨trivial, fun a hE => ?_⟩
    refine WQ.d0 hE [11] [] fun a hE => ?_
    refine WQ.done (by kernel_rfl) ?_
    replace H := dispatch_Dispatcher.shut (dispatch_Dispatcher.A.mk al_d.q_p z1 al_d.t__p (jobs_Table.A.mk al_d.t__a.p_p z7 al_d.t__a.by__p) al_d.when_p al_d.clock_p) (dispatch_Dispatcher.mk ((dispatch_Dispatcher.mk d.kind d.most t_2.2 d.heaps0 d.heaps1 d.t_ d.when d.clock d.budget d.last d.top).kind) ((dispatch_Dispatcher.mk d.kind d.most t_2.2 d.heaps0 d.heaps1 d.t_ d.when d.clock d.budget d.last d.top).most) ((dispatch_Dispatcher.mk d.kind d.most t_2.2 d.heaps0 d.heaps1 d.t_ d.when d.clock d.budget d.last d.top).q) ((dispatch_Dispatcher.mk d.kind d.most t_2.2 d.heaps0 d.heaps1 d.t_ d.when d.clock d.budget d.last d.top).heaps0) ((dispatch_Dispatcher.mk d.kind d.most t_2.2 d.heaps0 d.heaps1 d.t_ d.when d.clock d.budget d.last d.top).heaps1) t_3.2.2 ((dispatch_Dispatcher.mk d.kind d.most t_2.2 d.heaps0 d.heaps1 d.t_ d.when d.clock d.budget d.last d.top).when) ((dispatch_Dispatcher.mk d.kind d.most t_2.2 d.heaps0 d.heaps1 d.t_ d.when d.clock d.budget d.last d.top).clock) ((dispatch_Dispatcher.mk d.kind d.most t_2.2 d.heaps0 d.heaps1 d.t_ d.when d.clock d.budget d.last d.top).budget) ((dispatch_Dispatcher.mk d.kind d.most t_2.2 d.heaps0 d.heaps1 d.t_ d.when d.clock d.budget d.last d.top).last) ((dispatch_Dispatcher.mk d.kind d.most t_2.2 d.heaps0 d.heaps1 d.t_ d.when d.clock d.budget d.last d.top).top)) H.t5.t5.t3.t5.t5
    exact hk _ _ ⟨r10, jobs_Table.A.mk al_d.t__a.p_p z7 al_d.t__a.by__p, hE.sel [0, 4, 5, 6, 7] (by kernel_rfl), H.x5.t4.t1.t4.t4.t4⟩
  rintro a w ⟨r8, z5, hE, H⟩
  refine Runs.seq ?_
  refine Runs.drawn mixed (by kernel_rfl) ?_
  replace H := H.drew
  replace H := dispatch_Dispatcher.open H.t3
  try dsimp only at H
  refine WQ.seg hE [0, 1, 2, 3, 4, 5, 6, 7] [.map (some al_d.when_p), .int .i64 t_3.1.At, .int .i64 t_3.1.Gen, .int .i64 t_2.1.Entry.Serial] [4, 6, 7, 57, 58, 61] (Lo := [(4, .pointer (some ⟨r1, 0, none⟩)), (6, .pointer (some ⟨r6, 0, none⟩)), (7, .pointer (some ⟨r8, 0, none⟩)), (57, .map (some al_d.when_p)), (58, .agg #[.int .i64 t_3.1.At, .int .i64 t_3.1.Gen]), (61, .int .i64 t_2.1.Entry.Serial)]) (obs := [.cell ⟨p_d, 8, none⟩ (.map (some al_d.when_p)), .cell ⟨r8, 0, none⟩ (.int .i64 t_3.1.At), .cell ⟨r8, 1, none⟩ (.int .i64 t_3.1.Gen), .cell ⟨r3, 6, none⟩ (.int .i64 t_2.1.Entry.Serial)]) (by kernel_rfl) (by kernel_rfl) ⟨H.cell 0 rfl rfl, H.cell 5 rfl rfl, H.cell 5 rfl rfl, H.cell 7 rfl rfl, trivial⟩ fun a hE => ?_
  refine WQ.eff0 (j := 8) (obs := []) hE (by kernel_rfl) rfl rfl rfl (by kernel_rfl) (OpTo.mpPut (k := t_3.1) (v := t_2.1.Entry.Serial) hE H.t3 api_Ref.key_ok rfl rfl rfl rfl rfl) ?_
  rintro _ w H
  refine ⟨trivial, fun a hE => ?_⟩
  refine WQ.done (by kernel_rfl) ?_
  refine Runs.sr ?_
  refine WR.d hE 1 [.int .i64 c_.Queue, .int .i64 c_.Time, .int .i64 c_.Data, .int .i64 t_2.1.Item.At, .int .i64 t_2.1.Item.Gen] [(62, .agg #[.int .i64 c_.Queue, .int .i64 c_.Time, .int .i64 c_.Data, .int .i64 t_2.1.Item.At, .int .i64 t_2.1.Item.Gen])] (obs := [.cell ⟨r6, 0, none⟩ (.int .i64 c_.Queue), .cell ⟨r6, 1, none⟩ (.int .i64 c_.Time), .cell ⟨r6, 2, none⟩ (.int .i64 c_.Data), .cell ⟨r6, 3, none⟩ (.int .i64 t_2.1.Item.At), .cell ⟨r6, 4, none⟩ (.int .i64 t_2.1.Item.Gen)]) ⟨H.cell 6 rfl rfl, H.cell 6 rfl rfl, H.cell 6 rfl rfl, H.cell 6 rfl rfl, H.cell 6 rfl rfl, trivial⟩ fun a hE => ?_
  obtain ⟨t_4, et_4, hm⟩ := bind_some hm
  have hC_ := dispatch_told_ok et_4 H
  try dsimp only at hC_
  refine WR.eff hE rfl rfl rfl rfl (OpTo.fn hE rfl rfl Tryz.call127 hC_) ?_
  rintro _ w ⟨rfl, H⟩ a hE
  refine WR.eff hE rfl rfl rfl rfl (OpTo.new hE H [] (.cells #[.int .i64 0, .int .i64 0, .int .i64 0, .int .i64 0, .int .i64 0, .int .i64 0] 35 (0, 0)) (fun r => .pointer (some ⟨r, 0, none⟩)) (obs := []) rfl (fun _ => by kernel_rfl) trivial) ?_
  rintro _ w ⟨r11, rfl, H⟩ a hE
  refine WR.eff0 hE rfl rfl rfl (OpTo.store hE H rfl rfl rfl rfl rfl rfl (Nat.le_of_ble_eq_true rfl)) ?_
  rintro _ w H a hE
  refine WR.done rfl ?_
  refine Runs.sr ?_
  refine WR.d hE 2 [.int .i64 t_3.1.At, .int .i64 t_3.1.Gen] [(64, .agg #[.int .i64 t_3.1.At, .int .i64 t_3.1.Gen]), (65, .pointer (some ⟨r11, 1, none⟩))] (obs := [.cell ⟨r8, 0, none⟩ (.int .i64 t_3.1.At), .cell ⟨r8, 1, none⟩ (.int .i64 t_3.1.Gen)]) ⟨H.cell 6 rfl rfl, H.cell 6 rfl rfl, trivial⟩ fun a hE => ?_
  refine WR.eff0 hE rfl rfl rfl (OpTo.store hE H rfl rfl rfl rfl rfl rfl (Nat.le_of_ble_eq_true rfl)) ?_
  rintro _ w H a hE
  refine WR.done rfl ?_
  refine Runs.sr ?_
  refine WR.d hE 1 [.int .i64 t_4.Why, .int .i64 t_3.1.At, .int .i64 t_3.1.Gen, .int .i64 t_4.Time, .int .i64 t_4.Data, .int .i64 t_4.N] [(66, .agg #[.int .i64 t_4.Why, .int .i64 t_3.1.At, .int .i64 t_3.1.Gen, .int .i64 t_4.Time, .int .i64 t_4.Data, .int .i64 t_4.N])] (obs := [.cell ⟨r11, 0, none⟩ (.int .i64 t_4.Why), .cell ⟨r11, 1, none⟩ (.int .i64 t_3.1.At), .cell ⟨r11, 2, none⟩ (.int .i64 t_3.1.Gen), .cell ⟨r11, 3, none⟩ (.int .i64 t_4.Time), .cell ⟨r11, 4, none⟩ (.int .i64 t_4.Data), .cell ⟨r11, 5, none⟩ (.int .i64 t_4.N)]) ⟨H.cell 0 rfl rfl, H.cell 0 rfl rfl, H.cell 0 rfl rfl, H.cell 0 rfl rfl, H.cell 0 rfl rfl, H.cell 0 rfl rfl, trivial⟩ fun a hE => ?_
  refine WR.eff0 hE rfl rfl rfl (OpTo.store hE H.t9 rfl rfl rfl rfl rfl rfl (Nat.le_of_ble_eq_true rfl)) ?_
  rintro _ w H a hE
  refine WR.done rfl ?_
  refine Runs.retO (vs := [.agg #[.int .i64 t_4.Why, .int .i64 t_3.1.At, .int .i64 t_3.1.Gen, .int .i64 t_4.Time, .int .i64 t_4.Data, .int .i64 t_4.N]]) (obs := [.cell ⟨r1, 0, none⟩ (.int .i64 t_4.Why), .cell ⟨r1, 1, none⟩ (.int .i64 t_3.1.At), .cell ⟨r1, 2, none⟩ (.int .i64 t_3.1.Gen), .cell ⟨r1, 3, none⟩ (.int .i64 t_4.Time), .cell ⟨r1, 4, none⟩ (.int .i64 t_4.Data), .cell ⟨r1, 5, none⟩ (.int .i64 t_4.N)]) hE Tryz.func86 rfl [.int .i64 t_4.Why, .int .i64 t_3.1.At, .int .i64 t_3.1.Gen, .int .i64 t_4.Time, .int .i64 t_4.Data, .int .i64 t_4.N] (by kernel_rfl) ⟨H.cell 0 rfl rfl, H.cell 0 rfl rfl, H.cell 0 rfl rfl, H.cell 0 rfl rfl, H.cell 0 rfl rfl, H.cell 0 rfl rfl, trivial⟩ ?_
  replace H := dispatch_Dispatcher.shut (dispatch_Dispatcher.A.mk al_d.q_p z1 al_d.t__p z5 al_d.when_p al_d.clock_p) (dispatch_Dispatcher.mk ((dispatch_Dispatcher.mk ((dispatch_Dispatcher.mk d.kind d.most t_2.2 d.heaps0 d.heaps1 d.t_ d.when d.clock d.budget d.last d.top).kind) ((dispatch_Dispatcher.mk d.kind d.most t_2.2 d.heaps0 d.heaps1 d.t_ d.when d.clock d.budget d.last d.top).most) ((dispatch_Dispatcher.mk d.kind d.most t_2.2 d.heaps0 d.heaps1 d.t_ d.when d.clock d.budget d.last d.top).q) ((dispatch_Dispatcher.mk d.kind d.most t_2.2 d.heaps0 d.heaps1 d.t_ d.when d.clock d.budget d.last d.top).heaps0) ((dispatch_Dispatcher.mk d.kind d.most t_2.2 d.heaps0 d.heaps1 d.t_ d.when d.clock d.budget d.last d.top).heaps1) t_3.2.2 ((dispatch_Dispatcher.mk d.kind d.most t_2.2 d.heaps0 d.heaps1 d.t_ d.when d.clock d.budget d.last d.top).when) ((dispatch_Dispatcher.mk d.kind d.most t_2.2 d.heaps0 d.heaps1 d.t_ d.when d.clock d.budget d.last d.top).clock) ((dispatch_Dispatcher.mk d.kind d.most t_2.2 d.heaps0 d.heaps1 d.t_ d.when d.clock d.budget d.last d.top).budget) ((dispatch_Dispatcher.mk d.kind d.most t_2.2 d.heaps0 d.heaps1 d.t_ d.when d.clock d.budget d.last d.top).last) ((dispatch_Dispatcher.mk d.kind d.most t_2.2 d.heaps0 d.heaps1 d.t_ d.when d.clock d.budget d.last d.top).top)).kind) ((dispatch_Dispatcher.mk ((dispatch_Dispatcher.mk d.kind d.most t_2.2 d.heaps0 d.heaps1 d.t_ d.when d.clock d.budget d.last d.top).kind) ((dispatch_Dispatcher.mk d.kind d.most t_2.2 d.heaps0 d.heaps1 d.t_ d.when d.clock d.budget d.last d.top).most) ((dispatch_Dispatcher.mk d.kind d.most t_2.2 d.heaps0 d.heaps1 d.t_ d.when d.clock d.budget d.last d.top).q) ((dispatch_Dispatcher.mk d.kind d.most t_2.2 d.heaps0 d.heaps1 d.t_ d.when d.clock d.budget d.last d.top).heaps0) ((dispatch_Dispatcher.mk d.kind d.most t_2.2 d.heaps0 d.heaps1 d.t_ d.when d.clock d.budget d.last d.top).heaps1) t_3.2.2 ((dispatch_Dispatcher.mk d.kind d.most t_2.2 d.heaps0 d.heaps1 d.t_ d.when d.clock d.budget d.last d.top).when) ((dispatch_Dispatcher.mk d.kind d.most t_2.2 d.heaps0 d.heaps1 d.t_ d.when d.clock d.budget d.last d.top).clock) ((dispatch_Dispatcher.mk d.kind d.most t_2.2 d.heaps0 d.heaps1 d.t_ d.when d.clock d.budget d.last d.top).budget) ((dispatch_Dispatcher.mk d.kind d.most t_2.2 d.heaps0 d.heaps1 d.t_ d.when d.clock d.budget d.last d.top).last) ((dispatch_Dispatcher.mk d.kind d.most t_2.2 d.heaps0 d.heaps1 d.t_ d.when d.clock d.budget d.last d.top).top)).most) ((dispatch_Dispatcher.mk ((dispatch_Dispatcher.mk d.kind d.most t_2.2 d.heaps0 d.heaps1 d.t_ d.when d.clock d.budget d.last d.top).kind) ((dispatch_Dispatcher.mk d.kind d.most t_2.2 d.heaps0 d.heaps1 d.t_ d.when d.clock d.budget d.last d.top).most) ((dispatch_Dispatcher.mk d.kind d.most t_2.2 d.heaps0 d.heaps1 d.t_ d.when d.clock d.budget d.last d.top).q) ((dispatch_Dispatcher.mk d.kind d.most t_2.2 d.heaps0 d.heaps1 d.t_ d.when d.clock d.budget d.last d.top).heaps0) ((dispatch_Dispatcher.mk d.kind d.most t_2.2 d.heaps0 d.heaps1 d.t_ d.when d.clock d.budget d.last d.top).heaps1) t_3.2.2 ((dispatch_Dispatcher.mk d.kind d.most t_2.2 d.heaps0 d.heaps1 d.t_ d.when d.clock d.budget d.last d.top).when) ((dispatch_Dispatcher.mk d.kind d.most t_2.2 d.heaps0 d.heaps1 d.t_ d.when d.clock d.budget d.last d.top).clock) ((dispatch_Dispatcher.mk d.kind d.most t_2.2 d.heaps0 d.heaps1 d.t_ d.when d.clock d.budget d.last d.top).budget) ((dispatch_Dispatcher.mk d.kind d.most t_2.2 d.heaps0 d.heaps1 d.t_ d.when d.clock d.budget d.last d.top).last) ((dispatch_Dispatcher.mk d.kind d.most t_2.2 d.heaps0 d.heaps1 d.t_ d.when d.clock d.budget d.last d.top).top)).q) ((dispatch_Dispatcher.mk ((dispatch_Dispatcher.mk d.kind d.most t_2.2 d.heaps0 d.heaps1 d.t_ d.when d.clock d.budget d.last d.top).kind) ((dispatch_Dispatcher.mk d.kind d.most t_2.2 d.heaps0 d.heaps1 d.t_ d.when d.clock d.budget d.last d.top).most) ((dispatch_Dispatcher.mk d.kind d.most t_2.2 d.heaps0 d.heaps1 d.t_ d.when d.clock d.budget d.last d.top).q) ((dispatch_Dispatcher.mk d.kind d.most t_2.2 d.heaps0 d.heaps1 d.t_ d.when d.clock d.budget d.last d.top).heaps0) ((dispatch_Dispatcher.mk d.kind d.most t_2.2 d.heaps0 d.heaps1 d.t_ d.when d.clock d.budget d.last d.top).heaps1) t_3.2.2 ((dispatch_Dispatcher.mk d.kind d.most t_2.2 d.heaps0 d.heaps1 d.t_ d.when d.clock d.budget d.last d.top).when) ((dispatch_Dispatcher.mk d.kind d.most t_2.2 d.heaps0 d.heaps1 d.t_ d.when d.clock d.budget d.last d.top).clock) ((dispatch_Dispatcher.mk d.kind d.most t_2.2 d.heaps0 d.heaps1 d.t_ d.when d.clock d.budget d.last d.top).budget) ((dispatch_Dispatcher.mk d.kind d.most t_2.2 d.heaps0 d.heaps1 d.t_ d.when d.clock d.budget d.last d.top).last) ((dispatch_Dispatcher.mk d.kind d.most t_2.2 d.heaps0 d.heaps1 d.t_ d.when d.clock d.budget d.last d.top).top)).heaps0) ((dispatch_Dispatcher.mk ((dispatch_Dispatcher.mk d.kind d.most t_2.2 d.heaps0 d.heaps1 d.t_ d.when d.clock d.budget d.last d.top).kind) ((dispatch_Dispatcher.mk d.kind d.most t_2.2 d.heaps0 d.heaps1 d.t_ d.when d.clock d.budget d.last d.top).most) ((dispatch_Dispatcher.mk d.kind d.most t_2.2 d.heaps0 d.heaps1 d.t_ d.when d.clock d.budget d.last d.top).q) ((dispatch_Dispatcher.mk d.kind d.most t_2.2 d.heaps0 d.heaps1 d.t_ d.when d.clock d.budget d.last d.top).heaps0) ((dispatch_Dispatcher.mk d.kind d.most t_2.2 d.heaps0 d.heaps1 d.t_ d.when d.clock d.budget d.last d.top).heaps1) t_3.2.2 ((dispatch_Dispatcher.mk d.kind d.most t_2.2 d.heaps0 d.heaps1 d.t_ d.when d.clock d.budget d.last d.top).when) ((dispatch_Dispatcher.mk d.kind d.most t_2.2 d.heaps0 d.heaps1 d.t_ d.when d.clock d.budget d.last d.top).clock) ((dispatch_Dispatcher.mk d.kind d.most t_2.2 d.heaps0 d.heaps1 d.t_ d.when d.clock d.budget d.last d.top).budget) ((dispatch_Dispatcher.mk d.kind d.most t_2.2 d.heaps0 d.heaps1 d.t_ d.when d.clock d.budget d.last d.top).last) ((dispatch_Dispatcher.mk d.kind d.most t_2.2 d.heaps0 d.heaps1 d.t_ d.when d.clock d.budget d.last d.top).top)).heaps1) ((dispatch_Dispatcher.mk ((dispatch_Dispatcher.mk d.kind d.most t_2.2 d.heaps0 d.heaps1 d.t_ d.when d.clock d.budget d.last d.top).kind) ((dispatch_Dispatcher.mk d.kind d.most t_2.2 d.heaps0 d.heaps1 d.t_ d.when d.clock d.budget d.last d.top).most) ((dispatch_Dispatcher.mk d.kind d.most t_2.2 d.heaps0 d.heaps1 d.t_ d.when d.clock d.budget d.last d.top).q) ((dispatch_Dispatcher.mk d.kind d.most t_2.2 d.heaps0 d.heaps1 d.t_ d.when d.clock d.budget d.last d.top).heaps0) ((dispatch_Dispatcher.mk d.kind d.most t_2.2 d.heaps0 d.heaps1 d.t_ d.when d.clock d.budget d.last d.top).heaps1) t_3.2.2 ((dispatch_Dispatcher.mk d.kind d.most t_2.2 d.heaps0 d.heaps1 d.t_ d.when d.clock d.budget d.last d.top).when) ((dispatch_Dispatcher.mk d.kind d.most t_2.2 d.heaps0 d.heaps1 d.t_ d.when d.clock d.budget d.last d.top).clock) ((dispatch_Dispatcher.mk d.kind d.most t_2.2 d.heaps0 d.heaps1 d.t_ d.when d.clock d.budget d.last d.top).budget) ((dispatch_Dispatcher.mk d.kind d.most t_2.2 d.heaps0 d.heaps1 d.t_ d.when d.clock d.budget d.last d.top).last) ((dispatch_Dispatcher.mk d.kind d.most t_2.2 d.heaps0 d.heaps1 d.t_ d.when d.clock d.budget d.last d.top).top)).t_) (mPut api_Ref.eq t_3.1 t_2.1.Entry.Serial ((dispatch_Dispatcher.mk ((dispatch_Dispatcher.mk d.kind d.most t_2.2 d.heaps0 d.heaps1 d.t_ d.when d.clock d.budget d.last d.top).kind) ((dispatch_Dispatcher.mk d.kind d.most t_2.2 d.heaps0 d.heaps1 d.t_ d.when d.clock d.budget d.last d.top).most) ((dispatch_Dispatcher.mk d.kind d.most t_2.2 d.heaps0 d.heaps1 d.t_ d.when d.clock d.budget d.last d.top).q) ((dispatch_Dispatcher.mk d.kind d.most t_2.2 d.heaps0 d.heaps1 d.t_ d.when d.clock d.budget d.last d.top).heaps0) ((dispatch_Dispatcher.mk d.kind d.most t_2.2 d.heaps0 d.heaps1 d.t_ d.when d.clock d.budget d.last d.top).heaps1) t_3.2.2 ((dispatch_Dispatcher.mk d.kind d.most t_2.2 d.heaps0 d.heaps1 d.t_ d.when d.clock d.budget d.last d.top).when) ((dispatch_Dispatcher.mk d.kind d.most t_2.2 d.heaps0 d.heaps1 d.t_ d.when d.clock d.budget d.last d.top).clock) ((dispatch_Dispatcher.mk d.kind d.most t_2.2 d.heaps0 d.heaps1 d.t_ d.when d.clock d.budget d.last d.top).budget) ((dispatch_Dispatcher.mk d.kind d.most t_2.2 d.heaps0 d.heaps1 d.t_ d.when d.clock d.budget d.last d.top).last) ((dispatch_Dispatcher.mk d.kind d.most t_2.2 d.heaps0 d.heaps1 d.t_ d.when d.clock d.budget d.last d.top).top)).when)) ((dispatch_Dispatcher.mk ((dispatch_Dispatcher.mk d.kind d.most t_2.2 d.heaps0 d.heaps1 d.t_ d.when d.clock d.budget d.last d.top).kind) ((dispatch_Dispatcher.mk d.kind d.most t_2.2 d.heaps0 d.heaps1 d.t_ d.when d.clock d.budget d.last d.top).most) ((dispatch_Dispatcher.mk d.kind d.most t_2.2 d.heaps0 d.heaps1 d.t_ d.when d.clock d.budget d.last d.top).q) ((dispatch_Dispatcher.mk d.kind d.most t_2.2 d.heaps0 d.heaps1 d.t_ d.when d.clock d.budget d.last d.top).heaps0) ((dispatch_Dispatcher.mk d.kind d.most t_2.2 d.heaps0 d.heaps1 d.t_ d.when d.clock d.budget d.last d.top).heaps1) t_3.2.2 ((dispatch_Dispatcher.mk d.kind d.most t_2.2 d.heaps0 d.heaps1 d.t_ d.when d.clock d.budget d.last d.top).when) ((dispatch_Dispatcher.mk d.kind d.most t_2.2 d.heaps0 d.heaps1 d.t_ d.when d.clock d.budget d.last d.top).clock) ((dispatch_Dispatcher.mk d.kind d.most t_2.2 d.heaps0 d.heaps1 d.t_ d.when d.clock d.budget d.last d.top).budget) ((dispatch_Dispatcher.mk d.kind d.most t_2.2 d.heaps0 d.heaps1 d.t_ d.when d.clock d.budget d.last d.top).last) ((dispatch_Dispatcher.mk d.kind d.most t_2.2 d.heaps0 d.heaps1 d.t_ d.when d.clock d.budget d.last d.top).top)).clock) ((dispatch_Dispatcher.mk ((dispatch_Dispatcher.mk d.kind d.most t_2.2 d.heaps0 d.heaps1 d.t_ d.when d.clock d.budget d.last d.top).kind) ((dispatch_Dispatcher.mk d.kind d.most t_2.2 d.heaps0 d.heaps1 d.t_ d.when d.clock d.budget d.last d.top).most) ((dispatch_Dispatcher.mk d.kind d.most t_2.2 d.heaps0 d.heaps1 d.t_ d.when d.clock d.budget d.last d.top).q) ((dispatch_Dispatcher.mk d.kind d.most t_2.2 d.heaps0 d.heaps1 d.t_ d.when d.clock d.budget d.last d.top).heaps0) ((dispatch_Dispatcher.mk d.kind d.most t_2.2 d.heaps0 d.heaps1 d.t_ d.when d.clock d.budget d.last d.top).heaps1) t_3.2.2 ((dispatch_Dispatcher.mk d.kind d.most t_2.2 d.heaps0 d.heaps1 d.t_ d.when d.clock d.budget d.last d.top).when) ((dispatch_Dispatcher.mk d.kind d.most t_2.2 d.heaps0 d.heaps1 d.t_ d.when d.clock d.budget d.last d.top).clock) ((dispatch_Dispatcher.mk d.kind d.most t_2.2 d.heaps0 d.heaps1 d.t_ d.when d.clock d.budget d.last d.top).budget) ((dispatch_Dispatcher.mk d.kind d.most t_2.2 d.heaps0 d.heaps1 d.t_ d.when d.clock d.budget d.last d.top).last) ((dispatch_Dispatcher.mk d.kind d.most t_2.2 d.heaps0 d.heaps1 d.t_ d.when d.clock d.budget d.last d.top).top)).budget) ((dispatch_Dispatcher.mk ((dispatch_Dispatcher.mk d.kind d.most t_2.2 d.heaps0 d.heaps1 d.t_ d.when d.clock d.budget d.last d.top).kind) ((dispatch_Dispatcher.mk d.kind d.most t_2.2 d.heaps0 d.heaps1 d.t_ d.when d.clock d.budget d.last d.top).most) ((dispatch_Dispatcher.mk d.kind d.most t_2.2 d.heaps0 d.heaps1 d.t_ d.when d.clock d.budget d.last d.top).q) ((dispatch_Dispatcher.mk d.kind d.most t_2.2 d.heaps0 d.heaps1 d.t_ d.when d.clock d.budget d.last d.top).heaps0) ((dispatch_Dispatcher.mk d.kind d.most t_2.2 d.heaps0 d.heaps1 d.t_ d.when d.clock d.budget d.last d.top).heaps1) t_3.2.2 ((dispatch_Dispatcher.mk d.kind d.most t_2.2 d.heaps0 d.heaps1 d.t_ d.when d.clock d.budget d.last d.top).when) ((dispatch_Dispatcher.mk d.kind d.most t_2.2 d.heaps0 d.heaps1 d.t_ d.when d.clock d.budget d.last d.top).clock) ((dispatch_Dispatcher.mk d.kind d.most t_2.2 d.heaps0 d.heaps1 d.t_ d.when d.clock d.budget d.last d.top).budget) ((dispatch_Dispatcher.mk d.kind d.most t_2.2 d.heaps0 d.heaps1 d.t_ d.when d.clock d.budget d.last d.top).last) ((dispatch_Dispatcher.mk d.kind d.most t_2.2 d.heaps0 d.heaps1 d.t_ d.when d.clock d.budget d.last d.top).top)).last) ((dispatch_Dispatcher.mk ((dispatch_Dispatcher.mk d.kind d.most t_2.2 d.heaps0 d.heaps1 d.t_ d.when d.clock d.budget d.last d.top).kind) ((dispatch_Dispatcher.mk d.kind d.most t_2.2 d.heaps0 d.heaps1 d.t_ d.when d.clock d.budget d.last d.top).most) ((dispatch_Dispatcher.mk d.kind d.most t_2.2 d.heaps0 d.heaps1 d.t_ d.when d.clock d.budget d.last d.top).q) ((dispatch_Dispatcher.mk d.kind d.most t_2.2 d.heaps0 d.heaps1 d.t_ d.when d.clock d.budget d.last d.top).heaps0) ((dispatch_Dispatcher.mk d.kind d.most t_2.2 d.heaps0 d.heaps1 d.t_ d.when d.clock d.budget d.last d.top).heaps1) t_3.2.2 ((dispatch_Dispatcher.mk d.kind d.most t_2.2 d.heaps0 d.heaps1 d.t_ d.when d.clock d.budget d.last d.top).when) ((dispatch_Dispatcher.mk d.kind d.most t_2.2 d.heaps0 d.heaps1 d.t_ d.when d.clock d.budget d.last d.top).clock) ((dispatch_Dispatcher.mk d.kind d.most t_2.2 d.heaps0 d.heaps1 d.t_ d.when d.clock d.budget d.last d.top).budget) ((dispatch_Dispatcher.mk d.kind d.most t_2.2 d.heaps0 d.heaps1 d.t_ d.when d.clock d.budget d.last d.top).last) ((dispatch_Dispatcher.mk d.kind d.most t_2.2 d.heaps0 d.heaps1 d.t_ d.when d.clock d.budget d.last d.top).top)).top)) H.t6.t3.t6.t6.t6
  cases hm
  exact ⟨z1, z5, rfl, H.x5.x4.x3.x2.x1⟩

theorem dispatch_Dispatcher_sooner_ok {w0 w : World} {As : List HP} {p_d : Nat} {al_d : dispatch_Dispatcher.A} {d : dispatch_Dispatcher} {c_ : api_Command} {t : api_Reply}  (hm : dispatch_Dispatcher_sooner d c_ = some t) (H : St w0 (dispatch_Dispatcher.R p_d al_d d :: As) w) :
    CallsR Tryz.prog 87 #[.pointer (some ⟨p_d, 0, none⟩), .agg #[.int .i64 c_.Kind, .int .i64 c_.Queue, .int .i64 c_.Job.At, .int .i64 c_.Job.Gen, .int .i64 c_.Time, .int .i64 c_.Data]] w fun v w' => v = .agg #[.int .i64 t.Why, .int .i64 t.Job.At, .int .i64 t.Job.Gen, .int .i64 t.Time, .int .i64 t.Data, .int .i64 t.N] ∧ St w0 (dispatch_Dispatcher.R p_d al_d d :: As) w' := by
  rw [dispatch_Dispatcher_sooner] at hm
  cases hm

theorem dispatch_Dispatcher_cancel_ok {w0 w : World} {As : List HP} {p_d : Nat} {al_d : dispatch_Dispatcher.A} {d : dispatch_Dispatcher} {r : api_Ref} {t : api_Reply}  (hm : dispatch_Dispatcher_cancel d r = some t) (H : St w0 (dispatch_Dispatcher.R p_d al_d d :: As) w) :
    CallsR Tryz.prog 88 #[.pointer (some ⟨p_d, 0, none⟩), .agg #[.int .i64 r.At, .int .i64 r.Gen]] w fun v w' => v = .agg #[.int .i64 t.Why, .int .i64 t.Job.At, .int .i64 t.Job.Gen, .int .i64 t.Time, .int .i64 t.Data, .int .i64 t.N] ∧ St w0 (dispatch_Dispatcher.R p_d al_d d :: As) w' := by
  rw [dispatch_Dispatcher_cancel] at hm
  cases hm

theorem clock_Clock_Go_ok {w0 w : World} {As : List HP} {p_c_ : Nat} {c_ : clock_Clock} {by_ : Int} {t : Int}  (hm : clock_Clock_Go c_ by_ = some t) (H : St w0 (clock_Clock.R p_c_ c_ :: As) w) :
    CallsR Tryz.prog 89 #[.pointer (some ⟨p_c_, 0, none⟩), .int .i64 by_] w fun v w' => v = .int .i64 t ∧ St w0 (clock_Clock.R p_c_ c_ :: As) w' := by
  rw [clock_Clock_Go] at hm
  cases hm

theorem clock_Clock_Now_ok {w0 w : World} {As : List HP} {p_c_ : Nat} {c_ : clock_Clock} {t : Int}  (hm : clock_Clock_Now c_ = some t) (H : St w0 (clock_Clock.R p_c_ c_ :: As) w) :
    CallsR Tryz.prog 90 #[.pointer (some ⟨p_c_, 0, none⟩)] w fun v w' => v = .int .i64 t ∧ St w0 (clock_Clock.R p_c_ c_ :: As) w' := by
 rw [clock_Clock_Now] at hm
 refine enter (args := [.pointer (some ⟨p_c_, 0, none⟩)]) Tryz.func90 rfl rfl rfl fun a hE => ?_
 refine Runs.sr ?_
 refine WR.seg hE 1 [] [0] (Lo := [(0, .pointer (some ⟨p_c_, 0, none⟩))]) (obs := []) rfl (by kernel_rfl) trivial fun a hE => ?_
 refine WR.done rfl ?_
 refine Runs.sr ?_
 replace H := clock_Clock.open H
 refine WR.e hE [.int .i64 c_.now] [(2, .int .i64 c_.now)] (obs := [.cell ⟨p_c_, 0, none⟩ (.int .i64 c_.now)]) ⟨H.cell 0 rfl rfl, trivial⟩ fun a hE => ?_
 replace H := clock_Clock.shut (c_) H
 refine Runs.ret hE Tryz.func90 rfl rfl ?_
 cases hm
 exact ⟨rfl, H⟩

theorem clock_Clock_Due_ok {w0 w : World} {As : List HP} {p_c_ : Nat} {c_ : clock_Clock} {at_ : Int} {t : Bool}  (hm : clock_Clock_Due c_ at_ = some t) (H : St w0 (clock_Clock.R p_c_ c_ :: As) w) :
    CallsR Tryz.prog 131 #[.pointer (some ⟨p_c_, 0, none⟩), .int .i64 at_] w fun v w' => v = .bool t ∧ St w0 (clock_Clock.R p_c_ c_ :: As) w' := by
 rw [clock_Clock_Due] at hm
 refine enter (args := [.pointer (some ⟨p_c_, 0, none⟩), .int .i64 at_]) Tryz.func131 rfl rfl rfl fun a hE => ?_
 refine Runs.sr ?_
 refine WR.seg hE 1 [] [0, 1] (Lo := [(0, .pointer (some ⟨p_c_, 0, none⟩)), (1, .int .i64 at_)]) (obs := []) rfl (by kernel_rfl) trivial fun a hE => ?_
 refine WR.done rfl ?_
 refine Runs.sr ?_
 replace H := clock_Clock.open H
 refine WR.e hE [.int .i64 c_.now] [(4, .bool (decide (at_ ≤ c_.now)))] (obs := [.cell ⟨p_c_, 0, none⟩ (.int .i64 c_.now)]) ⟨H.cell 0 rfl rfl, trivial⟩ fun a hE => ?_
 replace H := clock_Clock.shut (c_) H
 refine Runs.ret hE Tryz.func131 rfl rfl ?_
 cases hm
 exact ⟨rfl, H⟩

theorem jobs_Table_By_ok {w0 w : World} {As : List HP} {p_t_ : Nat} {al_t_ : jobs_Table.A} {t_ : jobs_Table} {item : api_Ref} {t : api_Ref × Bool}  (hm : jobs_Table_By t_ item = some t) (H : St w0 (jobs_Table.R p_t_ al_t_ t_ :: As) w) :
    CallsR Tryz.prog 132 #[.pointer (some ⟨p_t_, 0, none⟩), .agg #[.int .i64 item.At, .int .i64 item.Gen]] w fun v w' => v = .tuple #[.agg #[.int .i64 t.1.At, .int .i64 t.1.Gen], .bool t.2] ∧ St w0 (jobs_Table.R p_t_ al_t_ t_ :: As) w' := by
 rw [jobs_Table_By] at hm
 refine enter (args := [.pointer (some ⟨p_t_, 0, none⟩), .agg #[.int .i64 item.At, .int .i64 item.Gen]]) Tryz.func132 rfl rfl rfl fun a hE => ?_
 refine Runs.sr ?_
 refine WR.eff hE rfl rfl rfl rfl (OpTo.new hE H [] (.cells #[.int .i64 item.At, .int .i64 item.Gen] 31 (0, 0)) (fun r => .pointer (some ⟨r, 0, none⟩)) (obs := []) rfl (fun _ => by kernel_rfl) trivial) ?_
 rintro _ w ⟨r, rfl, H⟩ a hE
 refine WR.eff hE rfl rfl rfl rfl (OpTo.new hE H [] (.cells #[.int .i64 0, .int .i64 0] 31 (0, 0)) (fun r => .pointer (some ⟨r, 0, none⟩)) (obs := []) rfl (fun _ => by kernel_rfl) trivial) ?_
 rintro _ w ⟨r1, rfl, H⟩ a hE
 refine WR.seg hE 3 [] [0, 3, 4] (Lo := [(0, .pointer (some ⟨p_t_, 0, none⟩)), (3, .pointer (some ⟨r, 0, none⟩)), (4, .pointer (some ⟨r1, 0, none⟩))]) (obs := []) rfl (by kernel_rfl) trivial fun a hE => ?_
 refine WR.done rfl ?_
 refine Runs.seq ?_
 obtain ⟨x, ex, hm⟩ := bind_some hm
 refine Runs.join (fun a w => ∃ (r3 : Nat), EnvOk 19 a [(4, .pointer (some ⟨r1, 0, none⟩)), (6, .pointer (some ⟨r3, 0, none⟩)), (7, .bool x.2)] ∧ St w0 (Blk r3 31 [.int .i64 x.1.At, .int .i64 x.1.Gen] :: Blk r1 31 [.int .i64 0, .int .i64 0] :: jobs_Table.R p_t_ al_t_ t_ :: As) w) (fun hk => ?_) ?_
 ·refine Runs.drawn mixed (by kernel_rfl) ?_
  replace H := H.drew
  replace H := jobs_Table.open H.t2
  refine WQ.d hE [0, 1, 2, 3, 4] [.map (some al_t_.by__p), .int .i64 item.At, .int .i64 item.Gen] [(12, .map (some al_t_.by__p)), (13, .agg #[.int .i64 item.At, .int .i64 item.Gen])] (obs := [.cell ⟨p_t_, 1, none⟩ (.map (some al_t_.by__p)), .cell ⟨r, 0, none⟩ (.int .i64 item.At), .cell ⟨r, 1, none⟩ (.int .i64 item.Gen)]) ⟨H.cell 0 rfl rfl, H.cell 4 rfl rfl, H.cell 4 rfl rfl, trivial⟩ fun a hE => ?_
  refine WQ.act2 5 9 (by kernel_rfl) ?_ ?_
  ·refine AQ.eff (j := 5) (obs := []) hE rfl rfl rfl rfl (by kernel_rfl) (OpTo.mpGet2 2 hE H rfl api_Ref.key_ok ex rfl rfl rfl rfl rfl rfl) ?_
   rintro _ _ ⟨rfl, rfl⟩
   refine ⟨trivial, fun a hE => ?_⟩
   refine WQ.d0 hE [6, 7, 8] [(15, .agg #[.int .i64 x.1.At, .int .i64 x.1.Gen]), (16, .bool x.2)] fun a hE => ?_
   refine WQ.eff (j := 9) (obs := []) hE (by kernel_rfl) rfl rfl rfl rfl (by kernel_rfl) (OpTo.new hE H [] (.cells #[.int .i64 0, .int .i64 0] 31 (0, 0)) (fun r => .pointer (some ⟨r, 0, none⟩)) (obs := []) rfl (fun _ => by kernel_rfl) trivial) ?_
   rintro _ w ⟨r4, rfl, H⟩
   refine ⟨trivial, fun a hE => ?_⟩
   refine WQ.eff0 (j := 10) (obs := []) hE (by kernel_rfl) rfl rfl rfl (by kernel_rfl) (OpTo.store hE H rfl rfl rfl rfl rfl rfl (Nat.le_of_ble_eq_true rfl)) ?_
   rintro _ w H
   refine ⟨trivial, fun a hE => ?_⟩
   refine WQ.d0 hE [11] [(7, .bool x.2)] fun a hE => ?_
   refine WQ.done (by kernel_rfl) ?_
   replace H := jobs_Table.shut al_t_ (t_) H.t3.t3.t3
   exact hk _ _ ⟨r4, hE.sel [4, 6, 7] (by kernel_rfl), H.x3.t2.t2⟩
  ·refine AQ.eff (j := 9) (obs := [.cell ⟨r, 0, none⟩ (.int .i64 item.At), .cell ⟨r, 1, none⟩ (.int .i64 item.Gen), .cell ⟨p_t_, 1, none⟩ (.map (some al_t_.by__p))]) hE rfl rfl rfl rfl (by kernel_rfl) (OpTo.new hE H [] (.cells #[.int .i64 0, .int .i64 0] 31 (0, 0)) (fun r => .pointer (some ⟨r, 0, none⟩)) (obs := []) rfl (fun _ => by kernel_rfl) trivial) ?_
   rintro _ w ⟨r5, rfl, H⟩
   refine ⟨⟨H.cell 5 rfl rfl, H.cell 5 rfl rfl, H.cell 1 rfl rfl, trivial⟩, fun a hE => ?_⟩
   refine WQ.eff (j := 5) (obs := []) hE (by kernel_rfl) rfl rfl rfl rfl (by kernel_rfl) (OpTo.mpGet2 3 hE H rfl api_Ref.key_ok ex rfl rfl rfl rfl rfl rfl) ?_
   rintro _ _ ⟨rfl, rfl⟩
   refine ⟨trivial, fun a hE => ?_⟩
   refine WQ.d0 hE [6, 7, 8] [(15, .agg #[.int .i64 x.1.At, .int .i64 x.1.Gen]), (16, .bool x.2)] fun a hE => ?_
   refine WQ.eff0 (j := 10) (obs := []) hE (by kernel_rfl) rfl rfl rfl (by kernel_rfl) (OpTo.store hE H rfl rfl rfl rfl rfl rfl (Nat.le_of_ble_eq_true rfl)) ?_
   rintro _ w H
   refine ⟨trivial, fun a hE => ?_⟩
   refine WQ.d0 hE [11] [(7, .bool x.2)] fun a hE => ?_
   refine WQ.done (by kernel_rfl) ?_
   replace H := jobs_Table.shut al_t_ (t_) H.t3.t3.t3
   exact hk _ _ ⟨r5, hE.sel [4, 6, 7] (by kernel_rfl), H.x3.t2.t2⟩
 rintro a w ⟨r3, hE, H⟩
 refine Runs.sr ?_
 refine WR.seg hE 2 [.int .i64 x.1.At, .int .i64 x.1.Gen] [4, 17, 18] (Lo := [(4, .pointer (some ⟨r1, 0, none⟩)), (17, .agg #[.int .i64 x.1.At, .int .i64 x.1.Gen]), (18, .bool x.2)]) (obs := [.cell ⟨r3, 0, none⟩ (.int .i64 x.1.At), .cell ⟨r3, 1, none⟩ (.int .i64 x.1.Gen)]) rfl (by kernel_rfl) ⟨H.cell 0 rfl rfl, H.cell 0 rfl rfl, trivial⟩ fun a hE => ?_
 refine WR.eff0 hE rfl rfl rfl (OpTo.store hE H.t1 rfl rfl rfl rfl rfl rfl (Nat.le_of_ble_eq_true rfl)) ?_
 rintro _ w H a hE
 refine WR.e0 hE [(5, .bool x.2)] fun a hE => ?_
 refine Runs.retO (vs := [.agg #[.int .i64 x.1.At, .int .i64 x.1.Gen], .bool x.2]) (obs := [.cell ⟨r1, 0, none⟩ (.int .i64 x.1.At), .cell ⟨r1, 1, none⟩ (.int .i64 x.1.Gen)]) hE Tryz.func132 rfl [.int .i64 x.1.At, .int .i64 x.1.Gen] (by kernel_rfl) ⟨H.cell 0 rfl rfl, H.cell 0 rfl rfl, trivial⟩ ?_
 cases hm
 exact ⟨rfl, H.x1.x0⟩

theorem pool_Pool_jobs_Job_find_ok {w0 w : World} {As : List HP} {p_p : Nat} {al_p : pool_Pool_jobs_Job.A} {p : pool_Pool_jobs_Job} {r : api_Ref} {t : (Option Int) × Int}  (hm : pool_Pool_jobs_Job_find p r = some t) (H : St w0 (pool_Pool_jobs_Job.R p_p al_p p :: As) w) :
    CallsR Tryz.prog 193 #[.pointer (some ⟨p_p, 0, none⟩), .agg #[.int .i64 r.At, .int .i64 r.Gen]] w fun v w' => v = .tuple #[elemV al_p.l_b 7 t.1, .int .i64 t.2] ∧ St w0 (pool_Pool_jobs_Job.R p_p al_p p :: As) w' := by
 rw [pool_Pool_jobs_Job_find] at hm
 refine enter (args := [.pointer (some ⟨p_p, 0, none⟩), .agg #[.int .i64 r.At, .int .i64 r.Gen]]) Tryz.func193 rfl rfl rfl fun a hE => ?_
 refine Runs.sr ?_
 refine WR.eff hE rfl rfl rfl rfl (OpTo.new hE H [] (.cells #[.int .i64 r.At, .int .i64 r.Gen] 31 (0, 0)) (fun r => .pointer (some ⟨r, 0, none⟩)) (obs := []) rfl (fun _ => by kernel_rfl) trivial) ?_
 rintro _ w ⟨r1, rfl, H⟩ a hE
 refine WR.seg hE 3 [] [0, 3] (Lo := [(0, .pointer (some ⟨p_p, 0, none⟩)), (3, .pointer (some ⟨r1, 0, none⟩))]) (obs := []) rfl (by kernel_rfl) trivial fun a hE => ?_
 refine WR.done rfl ?_
 refine Runs.seq ?_
 refine Runs.seq ?_
 obtain ⟨s, es, hm⟩ := bind_some hm
 refine Runs.join (fun a w => EnvOk 61 a [(0, .pointer (some ⟨p_p, 0, none⟩)), (3, .pointer (some ⟨r1, 0, none⟩)), (38, .bool s)] ∧ St w0 (Blk r1 31 [.int .i64 r.At, .int .i64 r.Gen] :: pool_Pool_jobs_Job.R p_p al_p p :: As) w) (fun hk => ?_) ?_
 ·replace hm := es; clear es
  refine Runs.drawn mixed (by kernel_rfl) ?_
  replace H := H.drew
  refine WQ.d hE [0, 1, 2, 3] [.int .i64 r.At] [(10, .bool (decide (r.At < 0)))] (obs := [.cell ⟨r1, 0, none⟩ (.int .i64 r.At)]) ⟨H.cell 0 rfl rfl, trivial⟩ fun a hE => ?_
  rcases Bool.eq_false_or_eq_true (decide (r.At < 0)) with c | c
  ·replace hE := hE.dec 10 c (by kernel_rfl)
   replace hm := cond_t c hm
   have c_ := c
   refine WQ.d0 hE [4, 5, 6, 7, 8, 9, 10, 11, 12, 13, 14, 15, 16, 17, 18, 19, 20, 21, 22, 23, 24, 25, 26, 27, 28, 29, 30, 31] [(38, .bool true)] fun a hE => ?_
   refine WQ.done (by kernel_rfl) ?_
   cases hm
   exact hk _ _ ⟨hE.sel [0, 3, 38] (by kernel_rfl), H.t1.t1⟩
  ·replace hE := hE.dec 10 c (by kernel_rfl)
   replace hm := cond_f c hm
   have c_1 := c
   replace H := pool_Pool_jobs_Job.open H.t1
   refine WQ.d hE [4, 5, 6, 7, 8, 9, 10, 11, 12, 13] [.int .i64 r.At, .slice al_p.l_b p.l.length al_p.l_c] [(20, .bool (decide (r.At ≥ (p.l.length : Int))))] (obs := [.cell ⟨r1, 0, none⟩ (.int .i64 r.At), .cell ⟨p_p, 1, none⟩ (.slice al_p.l_b p.l.length al_p.l_c)]) ⟨H.cell 3 rfl rfl, H.cell 0 rfl rfl, trivial⟩ fun a hE => ?_
   rcases Bool.eq_false_or_eq_true (decide (r.At ≥ (p.l.length : Int))) with c | c
   ·replace hE := hE.dec 20 c (by kernel_rfl)
    replace hm := cond_t c hm
    have c_2 := c
    refine WQ.d0 hE [14, 15, 16, 17, 18, 19, 20, 21, 22, 23, 24, 25, 26, 27, 28, 29, 30, 31] [(38, .bool true)] fun a hE => ?_
    refine WQ.done (by kernel_rfl) ?_
    replace H := pool_Pool_jobs_Job.shut al_p (p) H.t2.t2.t2
    cases hm
    exact hk _ _ ⟨hE.sel [0, 3, 38] (by kernel_rfl), H.t1⟩
   ·replace hE := hE.dec 20 c (by kernel_rfl)
    replace hm := cond_f c hm
    have c_3 := c
    refine WQ.d hE [14, 15, 16, 17, 18] [.int .i64 r.Gen] [(25, .bool (decide (r.Gen < 1)))] (obs := [.cell ⟨r1, 1, none⟩ (.int .i64 r.Gen)]) ⟨H.cell 3 rfl rfl, trivial⟩ fun a hE => ?_
    rcases Bool.eq_false_or_eq_true (decide (r.Gen < 1)) with c | c
    ·replace hE := hE.dec 25 c (by kernel_rfl)
     replace hm := cond_t c hm
     have c_4 := c
     refine WQ.d0 hE [19, 20, 21, 22, 23, 24, 25, 26, 27, 28, 29, 30, 31] [(38, .bool true)] fun a hE => ?_
     refine WQ.done (by kernel_rfl) ?_
     replace H := pool_Pool_jobs_Job.shut al_p (p) H.t2.t2.t2
     cases hm
     exact hk _ _ ⟨hE.sel [0, 3, 38] (by kernel_rfl), H.t1⟩
    ·replace hE := hE.dec 25 c (by kernel_rfl)
     replace hm := cond_f c hm
     have c_5 := c
     obtain ⟨x1, ex1, hm⟩ := bind_some hm
     obtain ⟨b1, o1, hs1, hb1⟩ := SlRd.base (sl_rd 263 pool_place_jobs_Job.enc 7 _ _ _) pool_place_jobs_Job.enc_ok H 1 rfl ex1
     refine WQ.d hE [19, 20, 21, 22, 23, 24, 25, 26, 27, 28, 29, 30, 31] [.int .i64 r.Gen, .slice al_p.l_b p.l.length al_p.l_c, .int .i64 r.At, .pointer (some ⟨b1, o1, none⟩), .int .i64 x1.gen] [(38, .bool (decide (r.Gen > x1.gen)))] (obs := [.cell ⟨r1, 1, none⟩ (.int .i64 r.Gen), .cell ⟨p_p, 1, none⟩ (.slice al_p.l_b p.l.length al_p.l_c), .cell ⟨r1, 0, none⟩ (.int .i64 r.At), .p ((al_p.l_b : Option Addr) = some ⟨b1, o1, none⟩), .p (0 ≤ (r.At : Int) ∧ (r.At : Int) < ((p.l.length : Nat) : Int)), .cell ⟨b1, o1 + (Int.toNat r.At) * 7, none⟩ (.int .i64 x1.gen)]) ⟨H.cell 3 rfl rfl, H.cell 0 rfl rfl, H.cell 3 rfl rfl, hs1, hb1, SlRd.cells (sl_rd 263 pool_place_jobs_Job.enc 7 _ _ _) pool_place_jobs_Job.enc_ok H 1 rfl hs1 ex1 0 _ rfl, trivial⟩ fun a hE => ?_
     refine WQ.done (by kernel_rfl) ?_
     replace H := pool_Pool_jobs_Job.shut al_p (p) H.t2.t2.t2
     cases hm
     exact hk _ _ ⟨hE.sel [0, 3, 38] (by kernel_rfl), H.t1⟩
 rintro a w ⟨hE, H⟩
 refine Runs.cond hE rfl (fun c => ?_) (fun c => ?_)
 ·replace hm := cond_t c hm
  refine Runs.sr ?_
  refine WR.seg hE 2 [] [4, 5] (Lo := [(4, .pointer none), (5, .int .i64 22)]) (obs := []) rfl (by kernel_rfl) trivial fun a hE => ?_
  refine WR.done rfl ?_
  refine Runs.ret hE Tryz.func193 rfl rfl ?_
  cases hm
  exact ⟨rfl, H.x0⟩
 ·replace hm := cond_f c hm
  refine Runs.skip ?_
  refine Runs.seq ?_
  refine Runs.drawn mixed (by kernel_rfl) ?_
  replace H := H.drew
  replace H := pool_Pool_jobs_Job.open H.t1
  obtain ⟨x2, ex2, hm⟩ := bind_some hm
  obtain ⟨b2, o2, hs2, hb2⟩ := SlRd.base (sl_rd 263 pool_place_jobs_Job.enc 7 _ _ _) pool_place_jobs_Job.enc_ok H 1 rfl ex2
  refine WQ.seg hE [0, 1, 2, 3, 4, 5, 6, 7] [.slice al_p.l_b p.l.length al_p.l_c, .int .i64 r.At, .pointer (some ⟨b2, o2, none⟩)] [3, 6] (Lo := [(3, .pointer (some ⟨r1, 0, none⟩)), (6, .pointer (some ⟨b2, o2 + (Int.toNat r.At) * 7, none⟩))]) (obs := [.cell ⟨p_p, 1, none⟩ (.slice al_p.l_b p.l.length al_p.l_c), .cell ⟨r1, 0, none⟩ (.int .i64 r.At), .p ((al_p.l_b : Option Addr) = some ⟨b2, o2, none⟩), .p (0 ≤ (r.At : Int) ∧ (r.At : Int) < ((p.l.length : Nat) : Int))]) (by kernel_rfl) (by kernel_rfl) ⟨H.cell 0 rfl rfl, H.cell 3 rfl rfl, hs2, hb2, trivial⟩ fun a hE => ?_
  refine WQ.done (by kernel_rfl) ?_
  refine Runs.seq ?_
  refine Runs.seq ?_
  refine Runs.join (fun a w => EnvOk 61 a [(6, .pointer (some ⟨b2, o2 + (Int.toNat r.At) * 7, none⟩)), (59, .bool ((decide (r.Gen < x2.gen)) || (!x2.taken)))] ∧ St w0 (Blk p_p 201 [.int .i64 p.most, .slice al_p.l_b p.l.length al_p.l_c, .slice al_p.free_b p.free.length al_p.free_c] :: Sl 263 pool_place_jobs_Job.enc 7 al_p.l_b al_p.l_c p.l :: Sl 3 ecI 1 al_p.free_b al_p.free_c p.free :: Blk r1 31 [.int .i64 r.At, .int .i64 r.Gen] :: As) w) (fun hk => ?_) ?_
  ·clear hm
   refine Runs.drawn mixed (by kernel_rfl) ?_
   replace H := H.drew
   refine WQ.d hE [0, 1, 2, 3, 4, 5, 6, 7] [.int .i64 r.Gen, .int .i64 x2.gen] [(53, .bool (decide (r.Gen < x2.gen)))] (obs := [.cell ⟨r1, 1, none⟩ (.int .i64 r.Gen), .cell ⟨b2, o2 + (Int.toNat r.At) * 7, none⟩ (.int .i64 x2.gen)]) ⟨H.cell 3 rfl rfl, SlRd.cells (sl_rd 263 pool_place_jobs_Job.enc 7 _ _ _) pool_place_jobs_Job.enc_ok H 1 rfl hs2 ex2 0 _ rfl, trivial⟩ fun a hE => ?_
   rcases Bool.eq_false_or_eq_true (decide (r.Gen < x2.gen)) with c | c
   ·replace hE := hE.dec 53 c (by kernel_rfl)
    have c_6 := c
    refine WQ.d0 hE [8, 9, 10, 11, 12, 13] [(59, .bool true)] fun a hE => ?_
    refine WQ.done (by kernel_rfl) ?_
    refine hk _ _ ⟨?_, H.t3.t3.t3.t3⟩
    try rw [c_6] at hE
    try rw [c_6]
    exact hE.sel [6, 59] (by kernel_rfl)
   ·replace hE := hE.dec 53 c (by kernel_rfl)
    have c_7 := c
    refine WQ.d hE [8, 9, 10, 11, 12, 13] [.bool x2.taken] [(59, .bool (!x2.taken))] (obs := [.cell ⟨b2, o2 + (Int.toNat r.At) * 7 + 1, none⟩ (.bool x2.taken)]) ⟨SlRd.cells (sl_rd 263 pool_place_jobs_Job.enc 7 _ _ _) pool_place_jobs_Job.enc_ok H 1 rfl hs2 ex2 1 _ rfl, trivial⟩ fun a hE => ?_
    refine WQ.done (by kernel_rfl) ?_
    refine hk _ _ ⟨?_, H.t3.t3.t3.t3⟩
    try rw [c_7] at hE
    try rw [c_7]
    exact hE.sel [6, 59] (by kernel_rfl)
  rintro a w ⟨hE, H⟩
  refine Runs.cond hE rfl (fun c => ?_) (fun c => ?_)
  ·replace hm := cond_t c hm
   refine Runs.sr ?_
   refine WR.seg hE 2 [] [4, 5] (Lo := [(4, .pointer none), (5, .int .i64 23)]) (obs := []) rfl (by kernel_rfl) trivial fun a hE => ?_
   refine WR.done rfl ?_
   replace H := pool_Pool_jobs_Job.shut al_p (p) H.t2.t2.t2
   refine Runs.ret hE Tryz.func193 rfl rfl ?_
   cases hm
   exact ⟨rfl, H.x1⟩
  ·replace hm := cond_f c hm
   refine Runs.skip ?_
   refine Runs.sr ?_
   refine WR.seg hE 3 [] [4, 5] (Lo := [(4, .pointer (some ⟨b2, o2 + (Int.toNat r.At) * 7, none⟩)), (5, .int .i64 0)]) (obs := []) rfl (by kernel_rfl) trivial fun a hE => ?_
   refine WR.done rfl ?_
   replace H := pool_Pool_jobs_Job.shut al_p (p) H.t2.t2.t2
   refine Runs.ret hE Tryz.func193 rfl rfl ?_
   cases hm
   exact ⟨(by simp only [elemV_some hs2]; try rfl), H.x1⟩

theorem pool_Pool_jobs_Job_Give_ok {w0 w : World} {As : List HP} {p_p : Nat} {al_p : pool_Pool_jobs_Job.A} {p : pool_Pool_jobs_Job} {r : api_Ref} {t : jobs_Job × Int × pool_Pool_jobs_Job}  (hm : pool_Pool_jobs_Job_Give p r = some t) (H : St w0 (pool_Pool_jobs_Job.R p_p al_p p :: As) w) :
    CallsR Tryz.prog 232 #[.pointer (some ⟨p_p, 0, none⟩), .agg #[.int .i64 r.At, .int .i64 r.Gen]] w fun v w' => ∃ (z_p_free_b : Option Addr), ∃ (z_p_free_c : Nat), v = .tuple #[.agg #[.int .i64 t.1.Queue, .int .i64 t.1.Time, .int .i64 t.1.Data, .int .i64 t.1.Item.At, .int .i64 t.1.Item.Gen], .int .i64 t.2.1] ∧ St w0 (pool_Pool_jobs_Job.R p_p (pool_Pool_jobs_Job.A.mk al_p.l_b al_p.l_c z_p_free_b z_p_free_c) t.2.2 :: As) w' := by
 rw [pool_Pool_jobs_Job_Give] at hm
 refine enter (args := [.pointer (some ⟨p_p, 0, none⟩), .agg #[.int .i64 r.At, .int .i64 r.Gen]]) Tryz.func232 rfl rfl rfl fun a hE => ?_
 refine Runs.sr ?_
 refine WR.eff hE rfl rfl rfl rfl (OpTo.new hE H [] (.cells #[.int .i64 r.At, .int .i64 r.Gen] 31 (0, 0)) (fun r => .pointer (some ⟨r, 0, none⟩)) (obs := []) rfl (fun _ => by kernel_rfl) trivial) ?_
 rintro _ w ⟨r1, rfl, H⟩ a hE
 refine WR.eff hE rfl rfl rfl rfl (OpTo.new hE H [] (.cells #[.int .i64 0, .int .i64 0, .int .i64 0, .int .i64 0, .int .i64 0] 160 (0, 0)) (fun r => .pointer (some ⟨r, 0, none⟩)) (obs := []) rfl (fun _ => by kernel_rfl) trivial) ?_
 rintro _ w ⟨r2, rfl, H⟩ a hE
 refine WR.seg hE 3 [] [0, 3, 4] (Lo := [(0, .pointer (some ⟨p_p, 0, none⟩)), (3, .pointer (some ⟨r1, 0, none⟩)), (4, .pointer (some ⟨r2, 0, none⟩))]) (obs := []) rfl (by kernel_rfl) trivial fun a hE => ?_
 refine WR.done rfl ?_
 refine Runs.sr ?_
 refine WR.eff hE rfl rfl rfl rfl (OpTo.new hE H [] (.cells #[.int .i64 0, .int .i64 0, .int .i64 0, .int .i64 0, .int .i64 0] 160 (0, 0)) (fun r => .pointer (some ⟨r, 0, none⟩)) (obs := []) rfl (fun _ => by kernel_rfl) trivial) ?_
 rintro _ w ⟨r3, rfl, H⟩ a hE
 refine WR.done rfl ?_
 refine Runs.sr ?_
 refine WR.d hE 2 [.int .i64 r.At, .int .i64 r.Gen] [(11, .pointer (some ⟨p_p, 0, none⟩)), (12, .agg #[.int .i64 r.At, .int .i64 r.Gen])] (obs := [.cell ⟨r1, 0, none⟩ (.int .i64 r.At), .cell ⟨r1, 1, none⟩ (.int .i64 r.Gen)]) ⟨H.cell 2 rfl rfl, H.cell 2 rfl rfl, trivial⟩ fun a hE => ?_
 obtain ⟨t_, et_, hm⟩ := bind_some hm
 refine WR.eff hE rfl rfl rfl rfl (OpTo.fn hE rfl rfl Tryz.call193 (pool_Pool_jobs_Job_find_ok et_ H.t3)) ?_
 rintro _ w ⟨rfl, H⟩ a hE
 rcases ho : t_.1 with _ | i
 ·replace hm := case_n ho hm
  rw [ho] at hE
  refine WR.seg hE 8 [] [0, 3, 4, 6, 7, 8] (Lo := [(0, .pointer (some ⟨p_p, 0, none⟩)), (3, .pointer (some ⟨r1, 0, none⟩)), (4, .pointer (some ⟨r2, 0, none⟩)), (6, .pointer (some ⟨r3, 0, none⟩)), (7, .pointer none), (8, .int .i64 t_.2)]) (obs := []) rfl (by kernel_rfl) trivial fun a hE => ?_
  refine WR.done rfl ?_
  refine Runs.seq ?_
  refine Runs.sr ?_
  refine WR.e0 hE [(17, .bool (t_.2 != 0))] fun a hE => ?_
  refine Runs.cond hE rfl (fun c => ?_) (fun c => ?_)
  ·replace hm := cond_t c hm
   refine Runs.sr ?_
   refine WR.d hE 2 [.int .i64 0, .int .i64 0, .int .i64 0, .int .i64 0, .int .i64 0] [(18, .agg #[.int .i64 0, .int .i64 0, .int .i64 0, .int .i64 0, .int .i64 0]), (19, .int .i64 t_.2)] (obs := [.cell ⟨r3, 0, none⟩ (.int .i64 0), .cell ⟨r3, 1, none⟩ (.int .i64 0), .cell ⟨r3, 2, none⟩ (.int .i64 0), .cell ⟨r3, 3, none⟩ (.int .i64 0), .cell ⟨r3, 4, none⟩ (.int .i64 0)]) ⟨H.cell 1 rfl rfl, H.cell 1 rfl rfl, H.cell 1 rfl rfl, H.cell 1 rfl rfl, H.cell 1 rfl rfl, trivial⟩ fun a hE => ?_
   refine WR.eff0 hE rfl rfl rfl (OpTo.store hE H.t2 rfl rfl rfl rfl rfl rfl (Nat.le_of_ble_eq_true rfl)) ?_
   rintro _ w H a hE
   refine WR.e0 hE [(5, .int .i64 t_.2)] fun a hE => ?_
   refine Runs.retO (vs := [.agg #[.int .i64 0, .int .i64 0, .int .i64 0, .int .i64 0, .int .i64 0], .int .i64 t_.2]) (obs := [.cell ⟨r2, 0, none⟩ (.int .i64 0), .cell ⟨r2, 1, none⟩ (.int .i64 0), .cell ⟨r2, 2, none⟩ (.int .i64 0), .cell ⟨r2, 3, none⟩ (.int .i64 0), .cell ⟨r2, 4, none⟩ (.int .i64 0)]) hE Tryz.func232 rfl [.int .i64 0, .int .i64 0, .int .i64 0, .int .i64 0, .int .i64 0] (by kernel_rfl) ⟨H.cell 0 rfl rfl, H.cell 0 rfl rfl, H.cell 0 rfl rfl, H.cell 0 rfl rfl, H.cell 0 rfl rfl, trivial⟩ ?_
   cases hm
   exact ⟨al_p.free_b, al_p.free_c, rfl, H.x3.x2.x0⟩
  ·replace hm := cond_f c hm
   refine Runs.skip ?_
   refine Runs.sr ?_
   cases hm
 ·replace hm := case_s ho hm
  replace H := pool_Pool_jobs_Job.open H
  obtain ⟨x, ex, hm⟩ := bind_some hm
  obtain ⟨b, o, hs, hb⟩ := SlRd.base (sl_rd 263 pool_place_jobs_Job.enc 7 _ _ _) pool_place_jobs_Job.enc_ok H 1 rfl ex
  rw [ho, elemV_some hs] at hE
  refine WR.seg hE 8 [] [0, 3, 4, 6, 7, 8] (Lo := [(0, .pointer (some ⟨p_p, 0, none⟩)), (3, .pointer (some ⟨r1, 0, none⟩)), (4, .pointer (some ⟨r2, 0, none⟩)), (6, .pointer (some ⟨r3, 0, none⟩)), (7, .pointer (some ⟨b, o + (Int.toNat i) * 7, none⟩)), (8, .int .i64 t_.2)]) (obs := []) rfl (by kernel_rfl) trivial fun a hE => ?_
  refine WR.done rfl ?_
  refine Runs.seq ?_
  refine Runs.sr ?_
  refine WR.e0 hE [(17, .bool (t_.2 != 0))] fun a hE => ?_
  refine Runs.cond hE rfl (fun c => ?_) (fun c => ?_)
  ·replace hm := cond_t c hm
   refine Runs.sr ?_
   refine WR.d hE 2 [.int .i64 0, .int .i64 0, .int .i64 0, .int .i64 0, .int .i64 0] [(18, .agg #[.int .i64 0, .int .i64 0, .int .i64 0, .int .i64 0, .int .i64 0]), (19, .int .i64 t_.2)] (obs := [.cell ⟨r3, 0, none⟩ (.int .i64 0), .cell ⟨r3, 1, none⟩ (.int .i64 0), .cell ⟨r3, 2, none⟩ (.int .i64 0), .cell ⟨r3, 3, none⟩ (.int .i64 0), .cell ⟨r3, 4, none⟩ (.int .i64 0)]) ⟨H.cell 3 rfl rfl, H.cell 3 rfl rfl, H.cell 3 rfl rfl, H.cell 3 rfl rfl, H.cell 3 rfl rfl, trivial⟩ fun a hE => ?_
   refine WR.eff0 hE rfl rfl rfl (OpTo.store hE H.t4 rfl rfl rfl rfl rfl rfl (Nat.le_of_ble_eq_true rfl)) ?_
   rintro _ w H a hE
   refine WR.e0 hE [(5, .int .i64 t_.2)] fun a hE => ?_
   refine Runs.retO (vs := [.agg #[.int .i64 0, .int .i64 0, .int .i64 0, .int .i64 0, .int .i64 0], .int .i64 t_.2]) (obs := [.cell ⟨r2, 0, none⟩ (.int .i64 0), .cell ⟨r2, 1, none⟩ (.int .i64 0), .cell ⟨r2, 2, none⟩ (.int .i64 0), .cell ⟨r2, 3, none⟩ (.int .i64 0), .cell ⟨r2, 4, none⟩ (.int .i64 0)]) hE Tryz.func232 rfl [.int .i64 0, .int .i64 0, .int .i64 0, .int .i64 0, .int .i64 0] (by kernel_rfl) ⟨H.cell 0 rfl rfl, H.cell 0 rfl rfl, H.cell 0 rfl rfl, H.cell 0 rfl rfl, H.cell 0 rfl rfl, trivial⟩ ?_
   replace H := pool_Pool_jobs_Job.shut al_p (p) H.t3.t3.t3
   cases hm
   exact ⟨al_p.free_b, al_p.free_c, rfl, H.x3.x2.x1⟩
  ·replace hm := cond_f c hm
   refine Runs.skip ?_
   refine Runs.sr ?_
   refine WR.d hE 4 [.int .i64 x.v_.Queue, .int .i64 x.v_.Time, .int .i64 x.v_.Data, .int .i64 x.v_.Item.At, .int .i64 x.v_.Item.Gen] [(23, .agg #[.int .i64 x.v_.Queue, .int .i64 x.v_.Time, .int .i64 x.v_.Data, .int .i64 x.v_.Item.At, .int .i64 x.v_.Item.Gen])] (obs := [.cell ⟨b, o + (Int.toNat i) * 7 + 2, none⟩ (.int .i64 x.v_.Queue), .cell ⟨b, o + (Int.toNat i) * 7 + 3, none⟩ (.int .i64 x.v_.Time), .cell ⟨b, o + (Int.toNat i) * 7 + 4, none⟩ (.int .i64 x.v_.Data), .cell ⟨b, o + (Int.toNat i) * 7 + 5, none⟩ (.int .i64 x.v_.Item.At), .cell ⟨b, o + (Int.toNat i) * 7 + 6, none⟩ (.int .i64 x.v_.Item.Gen)]) ⟨SlRd.cells (sl_rd 263 pool_place_jobs_Job.enc 7 _ _ _) pool_place_jobs_Job.enc_ok H 1 rfl hs ex 2 _ rfl, SlRd.cells (sl_rd 263 pool_place_jobs_Job.enc 7 _ _ _) pool_place_jobs_Job.enc_ok H 1 rfl hs ex 3 _ rfl, SlRd.cells (sl_rd 263 pool_place_jobs_Job.enc 7 _ _ _) pool_place_jobs_Job.enc_ok H 1 rfl hs ex 4 _ rfl, SlRd.cells (sl_rd 263 pool_place_jobs_Job.enc 7 _ _ _) pool_place_jobs_Job.enc_ok H 1 rfl hs ex 5 _ rfl, SlRd.cells (sl_rd 263 pool_place_jobs_Job.enc 7 _ _ _) pool_place_jobs_Job.enc_ok H 1 rfl hs ex 6 _ rfl, trivial⟩ fun a hE => ?_
   refine WR.eff hE rfl rfl rfl rfl (OpTo.new hE H [] (.cells #[.int .i64 0, .int .i64 0, .int .i64 0, .int .i64 0, .int .i64 0] 160 (0, 0)) (fun r => .pointer (some ⟨r, 0, none⟩)) (obs := []) rfl (fun _ => by kernel_rfl) trivial) ?_
   rintro _ w ⟨r4, rfl, H⟩ a hE
   refine WR.eff0 hE rfl rfl rfl (OpTo.store hE H rfl rfl rfl rfl rfl rfl (Nat.le_of_ble_eq_true rfl)) ?_
   rintro _ w H a hE
   refine WR.done rfl ?_
   refine Runs.seq ?_
   refine Runs.drawn mixed (by kernel_rfl) ?_
   replace H := H.drew
   refine WQ.d hE [0, 1, 2, 3, 4] [.int .i64 0, .int .i64 0, .int .i64 0, .int .i64 0, .int .i64 0] [(25, .pointer (some ⟨b, o + (Int.toNat i) * 7, none⟩)), (26, .agg #[.int .i64 0, .int .i64 0, .int .i64 0, .int .i64 0, .int .i64 0]), (28, .pointer (some ⟨b, o + (Int.toNat i) * 7 + 1, none⟩))] (obs := [.cell ⟨r3, 0, none⟩ (.int .i64 0), .cell ⟨r3, 1, none⟩ (.int .i64 0), .cell ⟨r3, 2, none⟩ (.int .i64 0), .cell ⟨r3, 3, none⟩ (.int .i64 0), .cell ⟨r3, 4, none⟩ (.int .i64 0)]) ⟨H.cell 4 rfl rfl, H.cell 4 rfl rfl, H.cell 4 rfl rfl, H.cell 4 rfl rfl, H.cell 4 rfl rfl, trivial⟩ fun a hE => ?_
   refine WQ.eff0 (j := 5) (obs := [.cell ⟨r3, 0, none⟩ (.int .i64 0), .cell ⟨r3, 1, none⟩ (.int .i64 0), .cell ⟨r3, 2, none⟩ (.int .i64 0), .cell ⟨r3, 3, none⟩ (.int .i64 0), .cell ⟨r3, 4, none⟩ (.int .i64 0)]) hE (by kernel_rfl) rfl rfl rfl (by kernel_rfl) (OpTo.storeSl (q := 1) (x' := (pool_place_jobs_Job.mk x.gen false x.v_)) hE H.t2 pool_place_jobs_Job.enc_ok rfl hs ex rfl rfl rfl rfl rfl (Nat.le_of_ble_eq_true rfl) rfl) ?_
   rintro _ w H
   rw [← mSet_len p.l i (pool_place_jobs_Job.mk x.gen false x.v_)] at H
   refine ⟨⟨H.cell 4 rfl rfl, H.cell 4 rfl rfl, H.cell 4 rfl rfl, H.cell 4 rfl rfl, H.cell 4 rfl rfl, trivial⟩, fun a hE => ?_⟩
   refine WQ.d0 hE [6, 7] [(30, .pointer (some ⟨b, o + (Int.toNat i) * 7 + 2, none⟩))] fun a hE => ?_
   refine WQ.eff0 (j := 8) (obs := []) hE (by kernel_rfl) rfl rfl rfl (by kernel_rfl) (OpTo.storeSl (q := 2) (x' := (pool_place_jobs_Job.mk x.gen false (jobs_Job.mk 0 0 0 (api_Ref.mk 0 0)))) hE H pool_place_jobs_Job.enc_ok rfl hs (mSet_at ex) rfl rfl rfl rfl rfl (Nat.le_of_ble_eq_true rfl) rfl) ?_
   rintro _ w H
   rw [← mSet_len (mSet p.l i (pool_place_jobs_Job.mk x.gen false x.v_)) i (pool_place_jobs_Job.mk x.gen false (jobs_Job.mk 0 0 0 (api_Ref.mk 0 0)))] at H
   refine ⟨trivial, fun a hE => ?_⟩
   refine WQ.done (by kernel_rfl) ?_
   refine Runs.seq ?_
   refine Runs.drawn mixed (by kernel_rfl) ?_
   replace H := H.drew
   refine WQ.d hE [0, 1, 2, 3, 4, 5, 6] [.slice al_p.free_b p.free.length al_p.free_c, .int .i64 r.At] [(31, .pointer (some ⟨p_p, 0, none⟩)), (35, .slice al_p.free_b p.free.length al_p.free_c), (37, .int .i64 r.At)] (obs := [.cell ⟨p_p, 2, none⟩ (.slice al_p.free_b p.free.length al_p.free_c), .cell ⟨r1, 0, none⟩ (.int .i64 r.At)]) ⟨H.cell 2 rfl rfl, H.cell 6 rfl rfl, trivial⟩ fun a hE => ?_
   refine WQ.eff (j := 7) (obs := [.cell ⟨p_p, 2, none⟩ (.slice al_p.free_b p.free.length al_p.free_c)]) hE (by kernel_rfl) rfl rfl rfl rfl (by kernel_rfl) (OpTo.buildSl (T := 3) hE H ecI_ok ([r.At] : List Int) rfl (fun _ => by kernel_rfl) rfl rfl rfl) ?_
   rintro _ w ⟨r5, rfl, H⟩
   refine ⟨⟨H.cell 3 rfl rfl, trivial⟩, fun a hE => ?_⟩
   obtain ⟨l, el, hm⟩ := bind_some hm
   replace H := H.t4
   refine WQ.eff (j := 8) (obs := []) hE (by kernel_rfl) rfl rfl rfl rfl (by kernel_rfl) (OpTo.appendM el hE H ecI_ok rfl rfl rfl rfl rfl rfl rfl rfl rfl rfl (SlRd.all (sl_rd 3 ecI 1 _ _ _) ecI_ok H 1 rfl) rfl) ?_
   rintro _ w ⟨sb, sc, rfl, H⟩
   refine ⟨trivial, fun a hE => ?_⟩
   refine WQ.d0 hE [9, 10] [(41, .pointer (some ⟨p_p, 2, none⟩))] fun a hE => ?_
   refine WQ.eff0 (j := 11) (obs := []) hE (by kernel_rfl) rfl rfl rfl (by kernel_rfl) (OpTo.store hE H.t4 rfl rfl rfl rfl rfl rfl (Nat.le_of_ble_eq_true rfl)) ?_
   rintro _ w H
   refine ⟨trivial, fun a hE => ?_⟩
   refine WQ.done (by kernel_rfl) ?_
   refine Runs.sr ?_
   refine WR.d hE 1 [.int .i64 x.v_.Queue, .int .i64 x.v_.Time, .int .i64 x.v_.Data, .int .i64 x.v_.Item.At, .int .i64 x.v_.Item.Gen] [(42, .agg #[.int .i64 x.v_.Queue, .int .i64 x.v_.Time, .int .i64 x.v_.Data, .int .i64 x.v_.Item.At, .int .i64 x.v_.Item.Gen])] (obs := [.cell ⟨r4, 0, none⟩ (.int .i64 x.v_.Queue), .cell ⟨r4, 1, none⟩ (.int .i64 x.v_.Time), .cell ⟨r4, 2, none⟩ (.int .i64 x.v_.Data), .cell ⟨r4, 3, none⟩ (.int .i64 x.v_.Item.At), .cell ⟨r4, 4, none⟩ (.int .i64 x.v_.Item.Gen)]) ⟨H.cell 4 rfl rfl, H.cell 4 rfl rfl, H.cell 4 rfl rfl, H.cell 4 rfl rfl, H.cell 4 rfl rfl, trivial⟩ fun a hE => ?_
   refine WR.eff0 hE rfl rfl rfl (OpTo.store hE H.t6 rfl rfl rfl rfl rfl rfl (Nat.le_of_ble_eq_true rfl)) ?_
   rintro _ w H a hE
   refine WR.e0 hE [(5, .int .i64 0)] fun a hE => ?_
   refine Runs.retO (vs := [.agg #[.int .i64 x.v_.Queue, .int .i64 x.v_.Time, .int .i64 x.v_.Data, .int .i64 x.v_.Item.At, .int .i64 x.v_.Item.Gen], .int .i64 0]) (obs := [.cell ⟨r2, 0, none⟩ (.int .i64 x.v_.Queue), .cell ⟨r2, 1, none⟩ (.int .i64 x.v_.Time), .cell ⟨r2, 2, none⟩ (.int .i64 x.v_.Data), .cell ⟨r2, 3, none⟩ (.int .i64 x.v_.Item.At), .cell ⟨r2, 4, none⟩ (.int .i64 x.v_.Item.Gen)]) hE Tryz.func232 rfl [.int .i64 x.v_.Queue, .int .i64 x.v_.Time, .int .i64 x.v_.Data, .int .i64 x.v_.Item.At, .int .i64 x.v_.Item.Gen] (by kernel_rfl) ⟨H.cell 0 rfl rfl, H.cell 0 rfl rfl, H.cell 0 rfl rfl, H.cell 0 rfl rfl, H.cell 0 rfl rfl, trivial⟩ ?_
   replace H := pool_Pool_jobs_Job.shut (pool_Pool_jobs_Job.A.mk al_p.l_b al_p.l_c sb sc) (pool_Pool_jobs_Job.mk p.most (mSet (mSet p.l i (pool_place_jobs_Job.mk x.gen false x.v_)) i (pool_place_jobs_Job.mk x.gen false (jobs_Job.mk 0 0 0 (api_Ref.mk 0 0)))) l) H.t2.t4.t3
   cases hm
   exact ⟨sb, sc, rfl, H.x5.x4.x3.x2.x1⟩

theorem jobs_Table_Take_ok {w0 w : World} {As : List HP} {p_t_ : Nat} {al_t_ : jobs_Table.A} {t_ : jobs_Table} {r : api_Ref} {t : jobs_Job × Int × jobs_Table}  (hm : jobs_Table_Take t_ r = some t) (H : St w0 (jobs_Table.R p_t_ al_t_ t_ :: As) w) :
    CallsR Tryz.prog 192 #[.pointer (some ⟨p_t_, 0, none⟩), .agg #[.int .i64 r.At, .int .i64 r.Gen]] w fun v w' => ∃ (z_t__p_a : pool_Pool_jobs_Job.A), v = .tuple #[.agg #[.int .i64 t.1.Queue, .int .i64 t.1.Time, .int .i64 t.1.Data, .int .i64 t.1.Item.At, .int .i64 t.1.Item.Gen], .int .i64 t.2.1] ∧ St w0 (jobs_Table.R p_t_ (jobs_Table.A.mk al_t_.p_p z_t__p_a al_t_.by__p) t.2.2 :: As) w' := by
 rw [jobs_Table_Take] at hm
 refine enter (args := [.pointer (some ⟨p_t_, 0, none⟩), .agg #[.int .i64 r.At, .int .i64 r.Gen]]) Tryz.func192 rfl rfl rfl fun a hE => ?_
 refine Runs.sr ?_
 refine WR.eff hE rfl rfl rfl rfl (OpTo.new hE H [] (.cells #[.int .i64 r.At, .int .i64 r.Gen] 31 (0, 0)) (fun r => .pointer (some ⟨r, 0, none⟩)) (obs := []) rfl (fun _ => by kernel_rfl) trivial) ?_
 rintro _ w ⟨r1, rfl, H⟩ a hE
 refine WR.eff hE rfl rfl rfl rfl (OpTo.new hE H [] (.cells #[.int .i64 0, .int .i64 0, .int .i64 0, .int .i64 0, .int .i64 0] 160 (0, 0)) (fun r => .pointer (some ⟨r, 0, none⟩)) (obs := []) rfl (fun _ => by kernel_rfl) trivial) ?_
 rintro _ w ⟨r2, rfl, H⟩ a hE
 refine WR.seg hE 3 [] [0, 3, 4] (Lo := [(0, .pointer (some ⟨p_t_, 0, none⟩)), (3, .pointer (some ⟨r1, 0, none⟩)), (4, .pointer (some ⟨r2, 0, none⟩))]) (obs := []) rfl (by kernel_rfl) trivial fun a hE => ?_
 refine WR.done rfl ?_
 refine Runs.seq ?_
 obtain ⟨t_1, et_1, hm⟩ := bind_some hm
 refine Runs.join (fun a w => ∃ (r4 : Nat), ∃ (z2 : pool_Pool_jobs_Job.A), EnvOk 27 a [(0, .pointer (some ⟨p_t_, 0, none⟩)), (4, .pointer (some ⟨r2, 0, none⟩)), (6, .pointer (some ⟨r4, 0, none⟩)), (7, .int .i64 t_1.2.1)] ∧ St w0 (Blk r4 160 [.int .i64 t_1.1.Queue, .int .i64 t_1.1.Time, .int .i64 t_1.1.Data, .int .i64 t_1.1.Item.At, .int .i64 t_1.1.Item.Gen] :: Blk r2 160 [.int .i64 0, .int .i64 0, .int .i64 0, .int .i64 0, .int .i64 0] :: jobs_Table.R p_t_ (jobs_Table.A.mk al_t_.p_p z2 al_t_.by__p) (jobs_Table.mk t_1.2.2 t_.by_) :: As) w) (fun hk => ?_) ?_
 ·refine Runs.drawn mixed (by kernel_rfl) ?_
  replace H := H.drew
  replace H := jobs_Table.open H.t2
  refine WQ.d hE [0, 1, 2, 3, 4] [.pointer (some ⟨al_t_.p_p, 0, none⟩), .int .i64 r.At, .int .i64 r.Gen] [(12, .pointer (some ⟨al_t_.p_p, 0, none⟩)), (13, .agg #[.int .i64 r.At, .int .i64 r.Gen])] (obs := [.cell ⟨p_t_, 0, none⟩ (.pointer (some ⟨al_t_.p_p, 0, none⟩)), .cell ⟨r1, 0, none⟩ (.int .i64 r.At), .cell ⟨r1, 1, none⟩ (.int .i64 r.Gen)]) ⟨H.cell 0 rfl rfl, H.cell 4 rfl rfl, H.cell 4 rfl rfl, trivial⟩ fun a hE => ?_
  refine WQ.act2 5 9 (by kernel_rfl) ?_ ?_
  ·refine AQ.eff (j := 5) (obs := []) hE rfl rfl rfl rfl (by kernel_rfl) (OpTo.fn hE rfl rfl Tryz.call232 (pool_Pool_jobs_Job_Give_ok et_1 H.t1)) ?_
   rintro _ w ⟨z3, z4, rfl, H⟩
   refine ⟨trivial, fun a hE => ?_⟩
   refine WQ.d0 hE [6, 7, 8] [(15, .agg #[.int .i64 t_1.1.Queue, .int .i64 t_1.1.Time, .int .i64 t_1.1.Data, .int .i64 t_1.1.Item.At, .int .i64 t_1.1.Item.Gen]), (16, .int .i64 t_1.2.1)] fun a hE => ?_
   refine WQ.eff (j := 9) (obs := []) hE (by kernel_rfl) rfl rfl rfl rfl (by kernel_rfl) (OpTo.new hE H [] (.cells #[.int .i64 0, .int .i64 0, .int .i64 0, .int .i64 0, .int .i64 0] 160 (0, 0)) (fun r => .pointer (some ⟨r, 0, none⟩)) (obs := []) rfl (fun _ => by kernel_rfl) trivial) ?_
   rintro _ w ⟨r5, rfl, H⟩
   refine ⟨trivial, fun a hE => ?_⟩
   refine WQ.eff0 (j := 10) (obs := []) hE (by kernel_rfl) rfl rfl rfl (by kernel_rfl) (OpTo.store hE H rfl rfl rfl rfl rfl rfl (Nat.le_of_ble_eq_true rfl)) ?_
   rintro _ w H
   refine ⟨trivial, fun a hE => ?_⟩
   refine WQ.d0 hE [11] [(7, .int .i64 t_1.2.1)] fun a hE => ?_
   refine WQ.done (by kernel_rfl) ?_
   replace H := jobs_Table.shut (jobs_Table.A.mk al_t_.p_p (pool_Pool_jobs_Job.A.mk al_t_.p_a.l_b al_t_.p_a.l_c z3 z4) al_t_.by__p) (jobs_Table.mk t_1.2.2 t_.by_) H.t3.t2.t3
   exact hk _ _ ⟨r5, pool_Pool_jobs_Job.A.mk al_t_.p_a.l_b al_t_.p_a.l_c z3 z4, hE.sel [0, 4, 6, 7] (by kernel_rfl), H.x3.t2.t2⟩
  ·refine AQ.eff (j := 9) (obs := [.cell ⟨r1, 0, none⟩ (.int .i64 r.At), .cell ⟨r1, 1, none⟩ (.int .i64 r.Gen), .cell ⟨p_t_, 0, none⟩ (.pointer (some ⟨al_t_.p_p, 0, none⟩))]) hE rfl rfl rfl rfl (by kernel_rfl) (OpTo.new hE H [] (.cells #[.int .i64 0, .int .i64 0, .int .i64 0, .int .i64 0, .int .i64 0] 160 (0, 0)) (fun r => .pointer (some ⟨r, 0, none⟩)) (obs := []) rfl (fun _ => by kernel_rfl) trivial) ?_
   rintro _ w ⟨r6, rfl, H⟩
   refine ⟨⟨H.cell 5 rfl rfl, H.cell 5 rfl rfl, H.cell 1 rfl rfl, trivial⟩, fun a hE => ?_⟩
   refine WQ.eff (j := 5) (obs := []) hE (by kernel_rfl) rfl rfl rfl rfl (by kernel_rfl) (OpTo.fn hE rfl rfl Tryz.call232 (pool_Pool_jobs_Job_Give_ok et_1 H.t2)) ?_
   rintro _ w ⟨z5, z6, rfl, H⟩
   refine ⟨trivial, fun a hE => ?_⟩
   refine WQ.d0 hE [6, 7, 8] [(15, .agg #[.int .i64 t_1.1.Queue, .int .i64 t_1.1.Time, .int .i64 t_1.1.Data, .int .i64 t_1.1.Item.At, .int .i64 t_1.1.Item.Gen]), (16, .int .i64 t_1.2.1)] fun a hE => ?_
   refine WQ.eff0 (j := 10) (obs := []) hE (by kernel_rfl) rfl rfl rfl (by kernel_rfl) (OpTo.store hE H.t1 rfl rfl rfl rfl rfl rfl (Nat.le_of_ble_eq_true rfl)) ?_
   rintro _ w H
   refine ⟨trivial, fun a hE => ?_⟩
   refine WQ.d0 hE [11] [(7, .int .i64 t_1.2.1)] fun a hE => ?_
   refine WQ.done (by kernel_rfl) ?_
   replace H := jobs_Table.shut (jobs_Table.A.mk al_t_.p_p (pool_Pool_jobs_Job.A.mk al_t_.p_a.l_b al_t_.p_a.l_c z5 z6) al_t_.by__p) (jobs_Table.mk t_1.2.2 t_.by_) H.t3.t2.t3
   exact hk _ _ ⟨r6, pool_Pool_jobs_Job.A.mk al_t_.p_a.l_b al_t_.p_a.l_c z5 z6, hE.sel [0, 4, 6, 7] (by kernel_rfl), H.x3.t2.t2⟩
 rintro a w ⟨r4, z2, hE, H⟩
 refine Runs.seq ?_
 refine Runs.sr ?_
 refine WR.seg hE 2 [] [0, 4, 6, 7, 18] (Lo := [(0, .pointer (some ⟨p_t_, 0, none⟩)), (4, .pointer (some ⟨r2, 0, none⟩)), (6, .pointer (some ⟨r4, 0, none⟩)), (7, .int .i64 t_1.2.1), (18, .bool (t_1.2.1 == 0))]) (obs := []) rfl (by kernel_rfl) trivial fun a hE => ?_
 refine WR.done rfl ?_
 obtain ⟨s, es, hm⟩ := bind_some hm
 refine Runs.join (fun a w => EnvOk 27 a [(4, .pointer (some ⟨r2, 0, none⟩)), (6, .pointer (some ⟨r4, 0, none⟩)), (7, .int .i64 t_1.2.1)] ∧ St w0 (Blk r4 160 [.int .i64 t_1.1.Queue, .int .i64 t_1.1.Time, .int .i64 t_1.1.Data, .int .i64 t_1.1.Item.At, .int .i64 t_1.1.Item.Gen] :: Blk r2 160 [.int .i64 0, .int .i64 0, .int .i64 0, .int .i64 0, .int .i64 0] :: jobs_Table.R p_t_ (jobs_Table.A.mk al_t_.p_p z2 al_t_.by__p) s :: As) w) (fun hk => ?_) ?_
 ·replace hm := es; clear es
  refine Runs.cond hE rfl (fun c => ?_) (fun c => ?_)
  ·replace hm := cond_t c hm
   refine Runs.drawn mixed (by kernel_rfl) ?_
   replace H := H.drew
   replace H := jobs_Table.open H.t2
   try dsimp only at H
   refine WQ.d hE [0, 1, 2, 3, 4, 5] [.map (some al_t_.by__p), .int .i64 t_1.1.Item.At, .int .i64 t_1.1.Item.Gen] [(22, .map (some al_t_.by__p)), (24, .agg #[.int .i64 t_1.1.Item.At, .int .i64 t_1.1.Item.Gen])] (obs := [.cell ⟨p_t_, 1, none⟩ (.map (some al_t_.by__p)), .cell ⟨r4, 3, none⟩ (.int .i64 t_1.1.Item.At), .cell ⟨r4, 4, none⟩ (.int .i64 t_1.1.Item.Gen)]) ⟨H.cell 0 rfl rfl, H.cell 3 rfl rfl, H.cell 3 rfl rfl, trivial⟩ fun a hE => ?_
   refine WQ.eff0 (j := 6) (obs := []) hE (by kernel_rfl) rfl rfl rfl (by kernel_rfl) (OpTo.mpDel (k := t_1.1.Item) hE H.t2 api_Ref.key_ok rfl rfl rfl rfl rfl) ?_
   rintro _ w ⟨rfl, H⟩
   refine ⟨trivial, fun a hE => ?_⟩
   refine WQ.done (by kernel_rfl) ?_
   replace H := jobs_Table.shut (jobs_Table.A.mk al_t_.p_p z2 al_t_.by__p) (jobs_Table.mk ((jobs_Table.mk t_1.2.2 t_.by_).p) (mDel api_Ref.eq t_1.1.Item ((jobs_Table.mk t_1.2.2 t_.by_).by_))) H.t2.t2
   cases hm
   exact hk _ _ ⟨hE.sel [4, 6, 7] (by kernel_rfl), H.t2.t2⟩
  ·replace hm := cond_f c hm
   refine Runs.skip ?_
   cases hm
   exact hk _ _ ⟨hE.sel [4, 6, 7] (by kernel_rfl), H.t2.t2.t2⟩
 rintro a w ⟨hE, H⟩
 refine Runs.sr ?_
 refine WR.seg hE 2 [.int .i64 t_1.1.Queue, .int .i64 t_1.1.Time, .int .i64 t_1.1.Data, .int .i64 t_1.1.Item.At, .int .i64 t_1.1.Item.Gen] [4, 25, 26] (Lo := [(4, .pointer (some ⟨r2, 0, none⟩)), (25, .agg #[.int .i64 t_1.1.Queue, .int .i64 t_1.1.Time, .int .i64 t_1.1.Data, .int .i64 t_1.1.Item.At, .int .i64 t_1.1.Item.Gen]), (26, .int .i64 t_1.2.1)]) (obs := [.cell ⟨r4, 0, none⟩ (.int .i64 t_1.1.Queue), .cell ⟨r4, 1, none⟩ (.int .i64 t_1.1.Time), .cell ⟨r4, 2, none⟩ (.int .i64 t_1.1.Data), .cell ⟨r4, 3, none⟩ (.int .i64 t_1.1.Item.At), .cell ⟨r4, 4, none⟩ (.int .i64 t_1.1.Item.Gen)]) rfl (by kernel_rfl) ⟨H.cell 0 rfl rfl, H.cell 0 rfl rfl, H.cell 0 rfl rfl, H.cell 0 rfl rfl, H.cell 0 rfl rfl, trivial⟩ fun a hE => ?_
 refine WR.eff0 hE rfl rfl rfl (OpTo.store hE H.t1 rfl rfl rfl rfl rfl rfl (Nat.le_of_ble_eq_true rfl)) ?_
 rintro _ w H a hE
 refine WR.e0 hE [(5, .int .i64 t_1.2.1)] fun a hE => ?_
 refine Runs.retO (vs := [.agg #[.int .i64 t_1.1.Queue, .int .i64 t_1.1.Time, .int .i64 t_1.1.Data, .int .i64 t_1.1.Item.At, .int .i64 t_1.1.Item.Gen], .int .i64 t_1.2.1]) (obs := [.cell ⟨r2, 0, none⟩ (.int .i64 t_1.1.Queue), .cell ⟨r2, 1, none⟩ (.int .i64 t_1.1.Time), .cell ⟨r2, 2, none⟩ (.int .i64 t_1.1.Data), .cell ⟨r2, 3, none⟩ (.int .i64 t_1.1.Item.At), .cell ⟨r2, 4, none⟩ (.int .i64 t_1.1.Item.Gen)]) hE Tryz.func192 rfl [.int .i64 t_1.1.Queue, .int .i64 t_1.1.Time, .int .i64 t_1.1.Data, .int .i64 t_1.1.Item.At, .int .i64 t_1.1.Item.Gen] (by kernel_rfl) ⟨H.cell 0 rfl rfl, H.cell 0 rfl rfl, H.cell 0 rfl rfl, H.cell 0 rfl rfl, H.cell 0 rfl rfl, trivial⟩ ?_
 cases hm
 exact ⟨z2, rfl, H.x1.x0⟩

theorem dispatch_Dispatcher_gone_ok {w0 w : World} {As : List HP} {p_d : Nat} {al_d : dispatch_Dispatcher.A} {d : dispatch_Dispatcher} {r : api_Ref} {t : api_Reply × dispatch_Dispatcher}  (hm : dispatch_Dispatcher_gone d r = some t) (H : St w0 (dispatch_Dispatcher.R p_d al_d d :: As) w) :
    CallsR Tryz.prog 130 #[.pointer (some ⟨p_d, 0, none⟩), .agg #[.int .i64 r.At, .int .i64 r.Gen]] w fun v w' => ∃ (z_d_t__a : jobs_Table.A), v = .agg #[.int .i64 t.1.Why, .int .i64 t.1.Job.At, .int .i64 t.1.Job.Gen, .int .i64 t.1.Time, .int .i64 t.1.Data, .int .i64 t.1.N] ∧ St w0 (dispatch_Dispatcher.R p_d (dispatch_Dispatcher.A.mk al_d.q_p al_d.q_a al_d.t__p z_d_t__a al_d.when_p al_d.clock_p) t.2 :: As) w' := by
 rw [dispatch_Dispatcher_gone] at hm
 refine enter (args := [.pointer (some ⟨p_d, 0, none⟩), .agg #[.int .i64 r.At, .int .i64 r.Gen]]) Tryz.func130 rfl rfl rfl fun a hE => ?_
 refine Runs.sr ?_
 refine WR.eff hE rfl rfl rfl rfl (OpTo.new hE H [] (.cells #[.int .i64 r.At, .int .i64 r.Gen] 31 (0, 0)) (fun r => .pointer (some ⟨r, 0, none⟩)) (obs := []) rfl (fun _ => by kernel_rfl) trivial) ?_
 rintro _ w ⟨r1, rfl, H⟩ a hE
 refine WR.eff hE rfl rfl rfl rfl (OpTo.new hE H [] (.cells #[.int .i64 0, .int .i64 0, .int .i64 0, .int .i64 0, .int .i64 0, .int .i64 0] 35 (0, 0)) (fun r => .pointer (some ⟨r, 0, none⟩)) (obs := []) rfl (fun _ => by kernel_rfl) trivial) ?_
 rintro _ w ⟨r2, rfl, H⟩ a hE
 refine WR.done rfl ?_
 refine Runs.seq ?_
 obtain ⟨t_, et_, hm⟩ := bind_some hm
 refine Runs.join (fun a w => ∃ (r4 : Nat), ∃ (z1 : jobs_Table.A), EnvOk 27 a [(0, .pointer (some ⟨p_d, 0, none⟩)), (3, .pointer (some ⟨r1, 0, none⟩)), (4, .pointer (some ⟨r2, 0, none⟩)), (5, .pointer (some ⟨r4, 0, none⟩)), (6, .int .i64 t_.2.1)] ∧ St w0 (Blk r4 160 [.int .i64 t_.1.Queue, .int .i64 t_.1.Time, .int .i64 t_.1.Data, .int .i64 t_.1.Item.At, .int .i64 t_.1.Item.Gen] :: Blk r2 35 [.int .i64 0, .int .i64 0, .int .i64 0, .int .i64 0, .int .i64 0, .int .i64 0] :: Blk r1 31 [.int .i64 r.At, .int .i64 r.Gen] :: dispatch_Dispatcher.R p_d (dispatch_Dispatcher.A.mk al_d.q_p al_d.q_a al_d.t__p z1 al_d.when_p al_d.clock_p) (dispatch_Dispatcher.mk d.kind d.most d.q d.heaps0 d.heaps1 t_.2.2 d.when d.clock d.budget d.last d.top) :: As) w) (fun hk => ?_) ?_
 ·refine Runs.drawn mixed (by kernel_rfl) ?_
  replace H := H.drew
  replace H := dispatch_Dispatcher.open H.t2
  refine WQ.seg hE [0, 1, 2, 3, 4] [.pointer (some ⟨al_d.t__p, 0, none⟩), .int .i64 r.At, .int .i64 r.Gen] [0, 3, 4, 11, 12] (Lo := [(0, .pointer (some ⟨p_d, 0, none⟩)), (3, .pointer (some ⟨r1, 0, none⟩)), (4, .pointer (some ⟨r2, 0, none⟩)), (11, .pointer (some ⟨al_d.t__p, 0, none⟩)), (12, .agg #[.int .i64 r.At, .int .i64 r.Gen])]) (obs := [.cell ⟨p_d, 7, none⟩ (.pointer (some ⟨al_d.t__p, 0, none⟩)), .cell ⟨r1, 0, none⟩ (.int .i64 r.At), .cell ⟨r1, 1, none⟩ (.int .i64 r.Gen)]) (by kernel_rfl) (by kernel_rfl) ⟨H.cell 0 rfl rfl, H.cell 6 rfl rfl, H.cell 6 rfl rfl, trivial⟩ fun a hE => ?_
  refine WQ.act2 5 9 (by kernel_rfl) ?_ ?_
  ·refine AQ.eff (j := 5) (obs := []) hE rfl rfl rfl rfl (by kernel_rfl) (OpTo.fn hE rfl rfl Tryz.call192 (jobs_Table_Take_ok et_ H.t2)) ?_
   rintro _ w ⟨z2, rfl, H⟩
   refine ⟨trivial, fun a hE => ?_⟩
   refine WQ.d0 hE [6, 7, 8] [(14, .agg #[.int .i64 t_.1.Queue, .int .i64 t_.1.Time, .int .i64 t_.1.Data, .int .i64 t_.1.Item.At, .int .i64 t_.1.Item.Gen]), (15, .int .i64 t_.2.1)] fun a hE => ?_
   refine WQ.eff (j := 9) (obs := []) hE (by kernel_rfl) rfl rfl rfl rfl (by kernel_rfl) (OpTo.new hE H [] (.cells #[.int .i64 0, .int .i64 0, .int .i64 0, .int .i64 0, .int .i64 0] 160 (0, 0)) (fun r => .pointer (some ⟨r, 0, none⟩)) (obs := []) rfl (fun _ => by kernel_rfl) trivial) ?_
   rintro _ w ⟨r5, rfl, H⟩
   refine ⟨trivial, fun a hE => ?_⟩
   refine WQ.eff0 (j := 10) (obs := []) hE (by kernel_rfl) rfl rfl rfl (by kernel_rfl) (OpTo.store hE H rfl rfl rfl rfl rfl rfl (Nat.le_of_ble_eq_true rfl)) ?_
   rintro _ w H
   refine ⟨trivial, fun a hE => ?_⟩
   refine WQ.d0 hE [11] [(6, .int .i64 t_.2.1)] fun a hE => ?_
   refine WQ.done (by kernel_rfl) ?_
   replace H := dispatch_Dispatcher.shut (dispatch_Dispatcher.A.mk al_d.q_p al_d.q_a al_d.t__p (jobs_Table.A.mk al_d.t__a.p_p z2 al_d.t__a.by__p) al_d.when_p al_d.clock_p) (dispatch_Dispatcher.mk d.kind d.most d.q d.heaps0 d.heaps1 t_.2.2 d.when d.clock d.budget d.last d.top) H.t5.t5.t3.t5.t5
   exact hk _ _ ⟨r5, jobs_Table.A.mk al_d.t__a.p_p z2 al_d.t__a.by__p, hE.sel [0, 3, 4, 5, 6] (by kernel_rfl), H.t3.t3.t3⟩
  ·refine AQ.eff (j := 9) (obs := [.cell ⟨r1, 0, none⟩ (.int .i64 r.At), .cell ⟨r1, 1, none⟩ (.int .i64 r.Gen), .cell ⟨p_d, 7, none⟩ (.pointer (some ⟨al_d.t__p, 0, none⟩))]) hE rfl rfl rfl rfl (by kernel_rfl) (OpTo.new hE H [] (.cells #[.int .i64 0, .int .i64 0, .int .i64 0, .int .i64 0, .int .i64 0] 160 (0, 0)) (fun r => .pointer (some ⟨r, 0, none⟩)) (obs := []) rfl (fun _ => by kernel_rfl) trivial) ?_
   rintro _ w ⟨r6, rfl, H⟩
   refine ⟨⟨H.cell 7 rfl rfl, H.cell 7 rfl rfl, H.cell 1 rfl rfl, trivial⟩, fun a hE => ?_⟩
   refine WQ.eff (j := 5) (obs := []) hE (by kernel_rfl) rfl rfl rfl rfl (by kernel_rfl) (OpTo.fn hE rfl rfl Tryz.call192 (jobs_Table_Take_ok et_ H.t3)) ?_
   rintro _ w ⟨z3, rfl, H⟩
   refine ⟨trivial, fun a hE => ?_⟩
   refine WQ.d0 hE [6, 7, 8] [(14, .agg #[.int .i64 t_.1.Queue, .int .i64 t_.1.Time, .int .i64 t_.1.Data, .int .i64 t_.1.Item.At, .int .i64 t_.1.Item.Gen]), (15, .int .i64 t_.2.1)] fun a hE => ?_
   refine WQ.eff0 (j := 10) (obs := []) hE (by kernel_rfl) rfl rfl rfl (by kernel_rfl) (OpTo.store hE H.t1 rfl rfl rfl rfl rfl rfl (Nat.le_of_ble_eq_true rfl)) ?_
   rintro _ w H
   refine ⟨trivial, fun a hE => ?_⟩
   refine WQ.d0 hE [11] [(6, .int .i64 t_.2.1)] fun a hE => ?_
   refine WQ.done (by kernel_rfl) ?_
   replace H := dispatch_Dispatcher.shut (dispatch_Dispatcher.A.mk al_d.q_p al_d.q_a al_d.t__p (jobs_Table.A.mk al_d.t__a.p_p z3 al_d.t__a.by__p) al_d.when_p al_d.clock_p) (dispatch_Dispatcher.mk d.kind d.most d.q d.heaps0 d.heaps1 t_.2.2 d.when d.clock d.budget d.last d.top) H.t5.t5.t3.t5.t5
   exact hk _ _ ⟨r6, jobs_Table.A.mk al_d.t__a.p_p z3 al_d.t__a.by__p, hE.sel [0, 3, 4, 5, 6] (by kernel_rfl), H.t3.t3.t3⟩
 rintro a w ⟨r4, z1, hE, H⟩
 refine Runs.seq ?_
 refine Runs.sr ?_
 refine WR.seg hE 2 [] [0, 3, 4, 5, 6, 17] (Lo := [(0, .pointer (some ⟨p_d, 0, none⟩)), (3, .pointer (some ⟨r1, 0, none⟩)), (4, .pointer (some ⟨r2, 0, none⟩)), (5, .pointer (some ⟨r4, 0, none⟩)), (6, .int .i64 t_.2.1), (17, .bool (t_.2.1 != 0))]) (obs := []) rfl (by kernel_rfl) trivial fun a hE => ?_
 refine WR.done rfl ?_
 refine Runs.cond hE rfl (fun c => ?_) (fun c => ?_)
 ·replace hm := cond_t c hm
  refine Runs.sr ?_
  refine WR.d0 hE 1 [(18, .int .i64 t_.2.1)] fun a hE => ?_
  obtain ⟨t_1, et_1, hm⟩ := bind_some hm
  refine WR.eff hE rfl rfl rfl rfl (OpTo.fn hE rfl rfl Tryz.call62 (dispatch_refused_ok et_1 H)) ?_
  rintro _ w ⟨rfl, H⟩ a hE
  refine WR.eff0 hE rfl rfl rfl (OpTo.store hE H.t1 rfl rfl rfl rfl rfl rfl (Nat.le_of_ble_eq_true rfl)) ?_
  rintro _ w H a hE
  refine WR.done rfl ?_
  refine Runs.retO (vs := [.agg #[.int .i64 t_1.Why, .int .i64 t_1.Job.At, .int .i64 t_1.Job.Gen, .int .i64 t_1.Time, .int .i64 t_1.Data, .int .i64 t_1.N]]) (obs := [.cell ⟨r2, 0, none⟩ (.int .i64 t_1.Why), .cell ⟨r2, 1, none⟩ (.int .i64 t_1.Job.At), .cell ⟨r2, 2, none⟩ (.int .i64 t_1.Job.Gen), .cell ⟨r2, 3, none⟩ (.int .i64 t_1.Time), .cell ⟨r2, 4, none⟩ (.int .i64 t_1.Data), .cell ⟨r2, 5, none⟩ (.int .i64 t_1.N)]) hE Tryz.func130 rfl [.int .i64 t_1.Why, .int .i64 t_1.Job.At, .int .i64 t_1.Job.Gen, .int .i64 t_1.Time, .int .i64 t_1.Data, .int .i64 t_1.N] (by kernel_rfl) ⟨H.cell 0 rfl rfl, H.cell 0 rfl rfl, H.cell 0 rfl rfl, H.cell 0 rfl rfl, H.cell 0 rfl rfl, H.cell 0 rfl rfl, trivial⟩ ?_
  cases hm
  exact ⟨z1, rfl, H.x2.x1.x0⟩
 ·replace hm := cond_f c hm
  refine Runs.skip ?_
  refine Runs.seq ?_
  refine Runs.drawn mixed (by kernel_rfl) ?_
  replace H := H.drew
  replace H := dispatch_Dispatcher.open H.t3
  try dsimp only at H
  refine WQ.d hE [0, 1, 2, 3, 4] [.map (some al_d.when_p), .int .i64 r.At, .int .i64 r.Gen] [(23, .map (some al_d.when_p)), (24, .agg #[.int .i64 r.At, .int .i64 r.Gen])] (obs := [.cell ⟨p_d, 8, none⟩ (.map (some al_d.when_p)), .cell ⟨r1, 0, none⟩ (.int .i64 r.At), .cell ⟨r1, 1, none⟩ (.int .i64 r.Gen)]) ⟨H.cell 0 rfl rfl, H.cell 7 rfl rfl, H.cell 7 rfl rfl, trivial⟩ fun a hE => ?_
  refine WQ.eff0 (j := 5) (obs := []) hE (by kernel_rfl) rfl rfl rfl (by kernel_rfl) (OpTo.mpDel (k := r) hE H.t3 api_Ref.key_ok rfl rfl rfl rfl rfl) ?_
  rintro _ w ⟨rfl, H⟩
  refine ⟨trivial, fun a hE => ?_⟩
  refine WQ.done (by kernel_rfl) ?_
  refine Runs.sr ?_
  refine WR.d hE 1 [.int .i64 t_.1.Queue, .int .i64 t_.1.Time, .int .i64 t_.1.Data, .int .i64 t_.1.Item.At, .int .i64 t_.1.Item.Gen] [(25, .agg #[.int .i64 t_.1.Queue, .int .i64 t_.1.Time, .int .i64 t_.1.Data, .int .i64 t_.1.Item.At, .int .i64 t_.1.Item.Gen])] (obs := [.cell ⟨r4, 0, none⟩ (.int .i64 t_.1.Queue), .cell ⟨r4, 1, none⟩ (.int .i64 t_.1.Time), .cell ⟨r4, 2, none⟩ (.int .i64 t_.1.Data), .cell ⟨r4, 3, none⟩ (.int .i64 t_.1.Item.At), .cell ⟨r4, 4, none⟩ (.int .i64 t_.1.Item.Gen)]) ⟨H.cell 5 rfl rfl, H.cell 5 rfl rfl, H.cell 5 rfl rfl, H.cell 5 rfl rfl, H.cell 5 rfl rfl, trivial⟩ fun a hE => ?_
  obtain ⟨t_2, et_2, hm⟩ := bind_some hm
  refine WR.eff hE rfl rfl rfl rfl (OpTo.fn hE rfl rfl Tryz.call127 (dispatch_told_ok et_2 H)) ?_
  rintro _ w ⟨rfl, H⟩ a hE
  refine WR.eff0 hE rfl rfl rfl (OpTo.store hE H.t6 rfl rfl rfl rfl rfl rfl (Nat.le_of_ble_eq_true rfl)) ?_
  rintro _ w H a hE
  refine WR.done rfl ?_
  refine Runs.retO (vs := [.agg #[.int .i64 t_2.Why, .int .i64 t_2.Job.At, .int .i64 t_2.Job.Gen, .int .i64 t_2.Time, .int .i64 t_2.Data, .int .i64 t_2.N]]) (obs := [.cell ⟨r2, 0, none⟩ (.int .i64 t_2.Why), .cell ⟨r2, 1, none⟩ (.int .i64 t_2.Job.At), .cell ⟨r2, 2, none⟩ (.int .i64 t_2.Job.Gen), .cell ⟨r2, 3, none⟩ (.int .i64 t_2.Time), .cell ⟨r2, 4, none⟩ (.int .i64 t_2.Data), .cell ⟨r2, 5, none⟩ (.int .i64 t_2.N)]) hE Tryz.func130 rfl [.int .i64 t_2.Why, .int .i64 t_2.Job.At, .int .i64 t_2.Job.Gen, .int .i64 t_2.Time, .int .i64 t_2.Data, .int .i64 t_2.N] (by kernel_rfl) ⟨H.cell 0 rfl rfl, H.cell 0 rfl rfl, H.cell 0 rfl rfl, H.cell 0 rfl rfl, H.cell 0 rfl rfl, H.cell 0 rfl rfl, trivial⟩ ?_
  replace H := dispatch_Dispatcher.shut (dispatch_Dispatcher.A.mk al_d.q_p al_d.q_a al_d.t__p z1 al_d.when_p al_d.clock_p) (dispatch_Dispatcher.mk ((dispatch_Dispatcher.mk d.kind d.most d.q d.heaps0 d.heaps1 t_.2.2 d.when d.clock d.budget d.last d.top).kind) ((dispatch_Dispatcher.mk d.kind d.most d.q d.heaps0 d.heaps1 t_.2.2 d.when d.clock d.budget d.last d.top).most) ((dispatch_Dispatcher.mk d.kind d.most d.q d.heaps0 d.heaps1 t_.2.2 d.when d.clock d.budget d.last d.top).q) ((dispatch_Dispatcher.mk d.kind d.most d.q d.heaps0 d.heaps1 t_.2.2 d.when d.clock d.budget d.last d.top).heaps0) ((dispatch_Dispatcher.mk d.kind d.most d.q d.heaps0 d.heaps1 t_.2.2 d.when d.clock d.budget d.last d.top).heaps1) ((dispatch_Dispatcher.mk d.kind d.most d.q d.heaps0 d.heaps1 t_.2.2 d.when d.clock d.budget d.last d.top).t_) (mDel api_Ref.eq r ((dispatch_Dispatcher.mk d.kind d.most d.q d.heaps0 d.heaps1 t_.2.2 d.when d.clock d.budget d.last d.top).when)) ((dispatch_Dispatcher.mk d.kind d.most d.q d.heaps0 d.heaps1 t_.2.2 d.when d.clock d.budget d.last d.top).clock) ((dispatch_Dispatcher.mk d.kind d.most d.q d.heaps0 d.heaps1 t_.2.2 d.when d.clock d.budget d.last d.top).budget) ((dispatch_Dispatcher.mk d.kind d.most d.q d.heaps0 d.heaps1 t_.2.2 d.when d.clock d.budget d.last d.top).last) ((dispatch_Dispatcher.mk d.kind d.most d.q d.heaps0 d.heaps1 t_.2.2 d.when d.clock d.budget d.last d.top).top)) H.t5.t2.t5.t5.t5
  cases hm
  exact ⟨z1, rfl, H.x3.x2.x1⟩

theorem dispatch_Dispatcher_fire_ok {w0 w : World} {As : List HP} {p_d : Nat} {al_d : dispatch_Dispatcher.A} {d : dispatch_Dispatcher} {queue : Int} {t : api_Reply × dispatch_Dispatcher}  (hm : dispatch_Dispatcher_fire d queue = some t) (H : St w0 (dispatch_Dispatcher.R p_d al_d d :: As) w) :
    CallsR Tryz.prog 91 #[.pointer (some ⟨p_d, 0, none⟩), .int .i64 queue] w fun v w' => ∃ (z_d_q_a : pq_Queues.A), ∃ (z_d_t__a : jobs_Table.A), v = .agg #[.int .i64 t.1.Why, .int .i64 t.1.Job.At, .int .i64 t.1.Job.Gen, .int .i64 t.1.Time, .int .i64 t.1.Data, .int .i64 t.1.N] ∧ St w0 (dispatch_Dispatcher.R p_d (dispatch_Dispatcher.A.mk al_d.q_p z_d_q_a al_d.t__p z_d_t__a al_d.when_p al_d.clock_p) t.2 :: As) w' := by
 rw [dispatch_Dispatcher_fire] at hm
 refine enter (args := [.pointer (some ⟨p_d, 0, none⟩), .int .i64 queue]) Tryz.func91 rfl rfl rfl fun a hE => ?_
 refine Runs.sr ?_
 refine WR.eff hE rfl rfl rfl rfl (OpTo.new hE H [] (.cells #[.int .i64 0, .int .i64 0, .int .i64 0, .int .i64 0, .int .i64 0, .int .i64 0] 35 (0, 0)) (fun r => .pointer (some ⟨r, 0, none⟩)) (obs := []) rfl (fun _ => by kernel_rfl) trivial) ?_
 rintro _ w ⟨r, rfl, H⟩ a hE
 refine WR.done rfl ?_
 refine Runs.sr ?_
 replace H := dispatch_Dispatcher.open H.t1
 obtain ⟨x, ex, hm⟩ := bind_some hm
 refine WR.seg hE 6 [.int .i64 x.At, .int .i64 x.Gen] [0, 4, 15] (Lo := [(0, .pointer (some ⟨p_d, 0, none⟩)), (4, .pointer (some ⟨r, 0, none⟩)), (15, .agg #[.int .i64 x.At, .int .i64 x.Gen])]) (obs := [.p (0 ≤ (queue : Int) ∧ (queue : Int) < ((2 : Nat) : Int)), .cell ⟨p_d, 3 + (Int.toNat queue) * 2 + 0, none⟩ (.int .i64 x.At), .cell ⟨p_d, 3 + (Int.toNat queue) * 2 + 1, none⟩ (.int .i64 x.Gen)]) rfl (by kernel_rfl) ⟨idx_bd ex, (by rcases idx_lt ex with q | q <;> (have q2 := idx_at ex; rw [q] at q2 ⊢; have q3 := Option.some.inj q2; subst q3; exact H.cell 0 rfl rfl)), (by rcases idx_lt ex with q | q <;> (have q2 := idx_at ex; rw [q] at q2 ⊢; have q3 := Option.some.inj q2; subst q3; exact H.cell 0 rfl rfl)), trivial⟩ fun a hE => ?_
 refine WR.eff hE rfl rfl rfl rfl (OpTo.new hE H [] (.cells #[.int .i64 0, .int .i64 0] 31 (0, 0)) (fun r => .pointer (some ⟨r, 0, none⟩)) (obs := []) rfl (fun _ => by kernel_rfl) trivial) ?_
 rintro _ w ⟨r1, rfl, H⟩ a hE
 refine WR.eff0 hE rfl rfl rfl (OpTo.store hE H rfl rfl rfl rfl rfl rfl (Nat.le_of_ble_eq_true rfl)) ?_
 rintro _ w H a hE
 refine WR.done rfl ?_
 refine Runs.seq ?_
 replace H := dispatch_Dispatcher.shut al_d (d) H.t5.t5.t5.t5.t5
 obtain ⟨t_, et_, hm⟩ := bind_some hm
 refine Runs.join (fun a w => ∃ (r3 : Nat), ∃ (z1 : pq_Queues.A), EnvOk 61 a [(0, .pointer (some ⟨p_d, 0, none⟩)), (4, .pointer (some ⟨r, 0, none⟩)), (5, .pointer (some ⟨r1, 0, none⟩)), (6, .pointer (some ⟨r3, 0, none⟩))] ∧ St w0 (Blk r3 127 [.int .i64 t_.1.Why, .int .i64 t_.1.Heap.At, .int .i64 t_.1.Heap.Gen, .int .i64 t_.1.Item.At, .int .i64 t_.1.Item.Gen, .int .i64 t_.1.Entry.Key, .int .i64 t_.1.Entry.Serial, .int .i64 t_.1.N] :: dispatch_Dispatcher.R p_d (dispatch_Dispatcher.A.mk al_d.q_p z1 al_d.t__p al_d.t__a al_d.when_p al_d.clock_p) (dispatch_Dispatcher.mk d.kind d.most t_.2 d.heaps0 d.heaps1 d.t_ d.when d.clock d.budget d.last d.top) :: Blk r1 31 [.int .i64 x.At, .int .i64 x.Gen] :: Blk r 35 [.int .i64 0, .int .i64 0, .int .i64 0, .int .i64 0, .int .i64 0, .int .i64 0] :: As) w) (fun hk => ?_) ?_
 ·refine Runs.drawn mixed (by kernel_rfl) ?_
  replace H := H.drew
  replace H := dispatch_Dispatcher.open H
  refine WQ.d hE [0, 1, 2, 3, 4, 5] [.pointer (some ⟨al_d.q_p, 0, none⟩), .int .i64 x.At, .int .i64 x.Gen] [(19, .pointer (some ⟨al_d.q_p, 0, none⟩)), (21, .agg #[.int .i64 3, .int .i64 0, .int .i64 x.At, .int .i64 x.Gen, .int .i64 0, .int .i64 0, .int .i64 0, .int .i64 0, .int .i64 0])] (obs := [.cell ⟨p_d, 2, none⟩ (.pointer (some ⟨al_d.q_p, 0, none⟩)), .cell ⟨r1, 0, none⟩ (.int .i64 x.At), .cell ⟨r1, 1, none⟩ (.int .i64 x.Gen)]) ⟨H.cell 0 rfl rfl, H.cell 5 rfl rfl, H.cell 5 rfl rfl, trivial⟩ fun a hE => ?_
  refine WQ.act2 6 7 (by kernel_rfl) ?_ ?_
  ·have hC_ := pq_Queues_Do_ok et_ H.t1
   try dsimp only at hC_
   refine AQ.eff (j := 6) (obs := []) hE rfl rfl rfl rfl (by kernel_rfl) (OpTo.fn hE rfl rfl Tryz.call56 hC_) ?_
   rintro _ w ⟨z2, rfl, H⟩
   refine ⟨trivial, fun a hE => ?_⟩
   refine WQ.eff (j := 7) (obs := []) hE (by kernel_rfl) rfl rfl rfl rfl (by kernel_rfl) (OpTo.new hE H [] (.cells #[.int .i64 0, .int .i64 0, .int .i64 0, .int .i64 0, .int .i64 0, .int .i64 0, .int .i64 0, .int .i64 0] 127 (0, 0)) (fun r => .pointer (some ⟨r, 0, none⟩)) (obs := []) rfl (fun _ => by kernel_rfl) trivial) ?_
   rintro _ w ⟨r4, rfl, H⟩
   refine ⟨trivial, fun a hE => ?_⟩
   refine WQ.eff0 (j := 8) (obs := []) hE (by kernel_rfl) rfl rfl rfl (by kernel_rfl) (OpTo.store hE H rfl rfl rfl rfl rfl rfl (Nat.le_of_ble_eq_true rfl)) ?_
   rintro _ w H
   refine ⟨trivial, fun a hE => ?_⟩
   refine WQ.done (by kernel_rfl) ?_
   replace H := dispatch_Dispatcher.shut (dispatch_Dispatcher.A.mk al_d.q_p (pq_Queues.A.mk al_d.q_a.a__p al_d.q_a.a__a al_d.q_a.t__p z2 al_d.q_a.entries_p) al_d.t__p al_d.t__a al_d.when_p al_d.clock_p) (dispatch_Dispatcher.mk d.kind d.most t_.2 d.heaps0 d.heaps1 d.t_ d.when d.clock d.budget d.last d.top) H.t5.t5.t5.t4.t5
   exact hk _ _ ⟨r4, pq_Queues.A.mk al_d.q_a.a__p al_d.q_a.a__a al_d.q_a.t__p z2 al_d.q_a.entries_p, hE.sel [0, 4, 5, 6] (by kernel_rfl), H.t3.t3.t2.t3⟩
  ·refine AQ.eff (j := 7) (obs := [.cell ⟨r1, 0, none⟩ (.int .i64 x.At), .cell ⟨r1, 1, none⟩ (.int .i64 x.Gen), .cell ⟨p_d, 2, none⟩ (.pointer (some ⟨al_d.q_p, 0, none⟩))]) hE rfl rfl rfl rfl (by kernel_rfl) (OpTo.new hE H [] (.cells #[.int .i64 0, .int .i64 0, .int .i64 0, .int .i64 0, .int .i64 0, .int .i64 0, .int .i64 0, .int .i64 0] 127 (0, 0)) (fun r => .pointer (some ⟨r, 0, none⟩)) (obs := []) rfl (fun _ => by kernel_rfl) trivial) ?_
   rintro _ w ⟨r5, rfl, H⟩
   refine ⟨⟨H.cell 6 rfl rfl, H.cell 6 rfl rfl, H.cell 1 rfl rfl, trivial⟩, fun a hE => ?_⟩
   have hC_ := pq_Queues_Do_ok et_ H.t2
   try dsimp only at hC_
   refine WQ.eff (j := 6) (obs := []) hE (by kernel_rfl) rfl rfl rfl rfl (by kernel_rfl) (OpTo.fn hE rfl rfl Tryz.call56 hC_) ?_
   rintro _ w ⟨z3, rfl, H⟩
   refine ⟨trivial, fun a hE => ?_⟩
   refine WQ.eff0 (j := 8) (obs := []) hE (by kernel_rfl) rfl rfl rfl (by kernel_rfl) (OpTo.store hE H.t1 rfl rfl rfl rfl rfl rfl (Nat.le_of_ble_eq_true rfl)) ?_
   rintro _ w H
   refine ⟨trivial, fun a hE => ?_⟩
   refine WQ.done (by kernel_rfl) ?_
   replace H := dispatch_Dispatcher.shut (dispatch_Dispatcher.A.mk al_d.q_p (pq_Queues.A.mk al_d.q_a.a__p al_d.q_a.a__a al_d.q_a.t__p z3 al_d.q_a.entries_p) al_d.t__p al_d.t__a al_d.when_p al_d.clock_p) (dispatch_Dispatcher.mk d.kind d.most t_.2 d.heaps0 d.heaps1 d.t_ d.when d.clock d.budget d.last d.top) H.t5.t5.t5.t4.t5
   exact hk _ _ ⟨r5, pq_Queues.A.mk al_d.q_a.a__p al_d.q_a.a__a al_d.q_a.t__p z3 al_d.q_a.entries_p, hE.sel [0, 4, 5, 6] (by kernel_rfl), H.t3.t3.t2.t3⟩
 rintro a w ⟨r3, z1, hE, H⟩
 refine Runs.seq ?_
 refine Runs.seq ?_
 obtain ⟨s, es, hm⟩ := bind_some hm
 refine Runs.join (fun a w => EnvOk 61 a [(0, .pointer (some ⟨p_d, 0, none⟩)), (4, .pointer (some ⟨r, 0, none⟩)), (5, .pointer (some ⟨r1, 0, none⟩)), (6, .pointer (some ⟨r3, 0, none⟩)), (36, .bool s.1)] ∧ St w0 (Blk r3 127 [.int .i64 t_.1.Why, .int .i64 t_.1.Heap.At, .int .i64 t_.1.Heap.Gen, .int .i64 t_.1.Item.At, .int .i64 t_.1.Item.Gen, .int .i64 t_.1.Entry.Key, .int .i64 t_.1.Entry.Serial, .int .i64 t_.1.N] :: dispatch_Dispatcher.R p_d (dispatch_Dispatcher.A.mk al_d.q_p z1 al_d.t__p al_d.t__a al_d.when_p al_d.clock_p) s.2 :: Blk r1 31 [.int .i64 x.At, .int .i64 x.Gen] :: Blk r 35 [.int .i64 0, .int .i64 0, .int .i64 0, .int .i64 0, .int .i64 0, .int .i64 0] :: As) w) (fun hk => ?_) ?_
 ·replace hm := es; clear es
  refine Runs.drawn mixed (by kernel_rfl) ?_
  replace H := H.drew
  refine WQ.seg hE [0, 1, 2, 3] [.int .i64 t_.1.Why] [0, 4, 5, 6, 26] (Lo := [(0, .pointer (some ⟨p_d, 0, none⟩)), (4, .pointer (some ⟨r, 0, none⟩)), (5, .pointer (some ⟨r1, 0, none⟩)), (6, .pointer (some ⟨r3, 0, none⟩)), (26, .bool (t_.1.Why != 0))]) (obs := [.cell ⟨r3, 0, none⟩ (.int .i64 t_.1.Why)]) (by kernel_rfl) (by kernel_rfl) ⟨H.cell 0 rfl rfl, trivial⟩ fun a hE => ?_
  rcases Bool.eq_false_or_eq_true (t_.1.Why != 0) with c | c
  ·replace hE := hE.dec 26 c (by kernel_rfl)
   replace hm := cond_t c hm
   have c_ := c
   refine WQ.d0 hE [4, 5, 6, 7, 8, 9, 10, 11, 12, 13] [(36, .bool true)] fun a hE => ?_
   refine WQ.done (by kernel_rfl) ?_
   cases hm
   exact hk _ _ ⟨hE.sel [0, 4, 5, 6, 36] (by kernel_rfl), H.t3.t3.t3.t3⟩
  ·replace hE := hE.dec 26 c (by kernel_rfl)
   replace hm := cond_f c hm
   have c_1 := c
   replace H := dispatch_Dispatcher.open H.t1
   try dsimp only at H
   refine WQ.d hE [4, 5, 6, 7, 8, 9, 10] [.pointer (some ⟨al_d.clock_p, 0, none⟩), .int .i64 t_.1.Entry.Key] [(26, .bool false), (30, .pointer (some ⟨al_d.clock_p, 0, none⟩)), (33, .int .i64 t_.1.Entry.Key)] (obs := [.cell ⟨p_d, 9, none⟩ (.pointer (some ⟨al_d.clock_p, 0, none⟩)), .cell ⟨r3, 5, none⟩ (.int .i64 t_.1.Entry.Key)]) ⟨H.cell 0 rfl rfl, H.cell 5 rfl rfl, trivial⟩ fun a hE => ?_
   obtain ⟨t_1, et_1, hm⟩ := bind_some hm
   refine WQ.eff (j := 11) (obs := []) hE (by kernel_rfl) rfl rfl rfl rfl (by kernel_rfl) (OpTo.fn hE rfl rfl Tryz.call131 (clock_Clock_Due_ok et_1 H.t4)) ?_
   rintro _ w ⟨rfl, H⟩
   refine ⟨trivial, fun a hE => ?_⟩
   refine WQ.d0 hE [12, 13] [(36, .bool (!t_1))] fun a hE => ?_
   refine WQ.done (by kernel_rfl) ?_
   replace H := dispatch_Dispatcher.shut (dispatch_Dispatcher.A.mk al_d.q_p z1 al_d.t__p al_d.t__a al_d.when_p al_d.clock_p) (dispatch_Dispatcher.mk ((dispatch_Dispatcher.mk d.kind d.most t_.2 d.heaps0 d.heaps1 d.t_ d.when d.clock d.budget d.last d.top).kind) ((dispatch_Dispatcher.mk d.kind d.most t_.2 d.heaps0 d.heaps1 d.t_ d.when d.clock d.budget d.last d.top).most) ((dispatch_Dispatcher.mk d.kind d.most t_.2 d.heaps0 d.heaps1 d.t_ d.when d.clock d.budget d.last d.top).q) ((dispatch_Dispatcher.mk d.kind d.most t_.2 d.heaps0 d.heaps1 d.t_ d.when d.clock d.budget d.last d.top).heaps0) ((dispatch_Dispatcher.mk d.kind d.most t_.2 d.heaps0 d.heaps1 d.t_ d.when d.clock d.budget d.last d.top).heaps1) ((dispatch_Dispatcher.mk d.kind d.most t_.2 d.heaps0 d.heaps1 d.t_ d.when d.clock d.budget d.last d.top).t_) ((dispatch_Dispatcher.mk d.kind d.most t_.2 d.heaps0 d.heaps1 d.t_ d.when d.clock d.budget d.last d.top).when) ((dispatch_Dispatcher.mk d.kind d.most t_.2 d.heaps0 d.heaps1 d.t_ d.when d.clock d.budget d.last d.top).clock) ((dispatch_Dispatcher.mk d.kind d.most t_.2 d.heaps0 d.heaps1 d.t_ d.when d.clock d.budget d.last d.top).budget) ((dispatch_Dispatcher.mk d.kind d.most t_.2 d.heaps0 d.heaps1 d.t_ d.when d.clock d.budget d.last d.top).last) ((dispatch_Dispatcher.mk d.kind d.most t_.2 d.heaps0 d.heaps1 d.t_ d.when d.clock d.budget d.last d.top).top)) H.t4.t4.t4.t4
   cases hm
   exact hk _ _ ⟨hE.sel [0, 4, 5, 6, 36] (by kernel_rfl), H.t3.t3.t2.t3⟩
 rintro a w ⟨hE, H⟩
 refine Runs.cond hE rfl (fun c => ?_) (fun c => ?_)
 ·replace hm := cond_t c hm
  refine Runs.sr ?_
  obtain ⟨t_2, et_2, hm⟩ := bind_some hm
  refine WR.eff hE rfl rfl rfl rfl (OpTo.fn hE rfl rfl Tryz.call62 (dispatch_refused_ok et_2 H)) ?_
  rintro _ w ⟨rfl, H⟩ a hE
  refine WR.eff0 hE rfl rfl rfl (OpTo.store hE H.t3 rfl rfl rfl rfl rfl rfl (Nat.le_of_ble_eq_true rfl)) ?_
  rintro _ w H a hE
  refine WR.done rfl ?_
  refine Runs.retO (vs := [.agg #[.int .i64 t_2.Why, .int .i64 t_2.Job.At, .int .i64 t_2.Job.Gen, .int .i64 t_2.Time, .int .i64 t_2.Data, .int .i64 t_2.N]]) (obs := [.cell ⟨r, 0, none⟩ (.int .i64 t_2.Why), .cell ⟨r, 1, none⟩ (.int .i64 t_2.Job.At), .cell ⟨r, 2, none⟩ (.int .i64 t_2.Job.Gen), .cell ⟨r, 3, none⟩ (.int .i64 t_2.Time), .cell ⟨r, 4, none⟩ (.int .i64 t_2.Data), .cell ⟨r, 5, none⟩ (.int .i64 t_2.N)]) hE Tryz.func91 rfl [.int .i64 t_2.Why, .int .i64 t_2.Job.At, .int .i64 t_2.Job.Gen, .int .i64 t_2.Time, .int .i64 t_2.Data, .int .i64 t_2.N] (by kernel_rfl) ⟨H.cell 0 rfl rfl, H.cell 0 rfl rfl, H.cell 0 rfl rfl, H.cell 0 rfl rfl, H.cell 0 rfl rfl, H.cell 0 rfl rfl, trivial⟩ ?_
  cases hm
  exact ⟨z1, al_d.t__a, rfl, H.x3.x1.x0⟩
 ·replace hm := cond_f c hm
  refine Runs.skip ?_
  refine Runs.seq ?_
  refine Runs.drawn mixed (by kernel_rfl) ?_
  replace H := H.drew
  replace H := dispatch_Dispatcher.open H.t1
  try dsimp only at H
  refine WQ.seg hE [0, 1, 2, 3, 4, 5] [.pointer (some ⟨al_d.q_p, 0, none⟩), .int .i64 x.At, .int .i64 x.Gen] [0, 4, 6, 41, 43] (Lo := [(0, .pointer (some ⟨p_d, 0, none⟩)), (4, .pointer (some ⟨r, 0, none⟩)), (6, .pointer (some ⟨r3, 0, none⟩)), (41, .pointer (some ⟨al_d.q_p, 0, none⟩)), (43, .agg #[.int .i64 4, .int .i64 0, .int .i64 x.At, .int .i64 x.Gen, .int .i64 0, .int .i64 0, .int .i64 0, .int .i64 0, .int .i64 0])]) (obs := [.cell ⟨p_d, 2, none⟩ (.pointer (some ⟨al_d.q_p, 0, none⟩)), .cell ⟨r1, 0, none⟩ (.int .i64 x.At), .cell ⟨r1, 1, none⟩ (.int .i64 x.Gen)]) (by kernel_rfl) (by kernel_rfl) ⟨H.cell 0 rfl rfl, H.cell 6 rfl rfl, H.cell 6 rfl rfl, trivial⟩ fun a hE => ?_
  obtain ⟨t_3, et_3, hm⟩ := bind_some hm
  have hC_ := pq_Queues_Do_ok et_3 H.t1
  try dsimp only at hC_
  refine WQ.eff (j := 6) (obs := []) hE (by kernel_rfl) rfl rfl rfl rfl (by kernel_rfl) (OpTo.fn hE rfl rfl Tryz.call56 hC_) ?_
  rintro _ w ⟨z4, rfl, H⟩
  refine ⟨trivial, fun a hE => ?_⟩
  refine WQ.eff0 (j := 7) (obs := []) hE (by kernel_rfl) rfl rfl rfl (by kernel_rfl) (OpTo.store hE H.t5 rfl rfl rfl rfl rfl rfl (Nat.le_of_ble_eq_true rfl)) ?_
  rintro _ w H
  refine ⟨trivial, fun a hE => ?_⟩
  refine WQ.done (by kernel_rfl) ?_
  refine Runs.seq ?_
  replace H := dispatch_Dispatcher.shut (dispatch_Dispatcher.A.mk al_d.q_p (pq_Queues.A.mk z1.a__p z1.a__a z1.t__p z4 z1.entries_p) al_d.t__p al_d.t__a al_d.when_p al_d.clock_p) (dispatch_Dispatcher.mk s.2.kind s.2.most t_3.2 s.2.heaps0 s.2.heaps1 s.2.t_ s.2.when s.2.clock s.2.budget s.2.last s.2.top) H.t5.t5.t5.t4.t5
  obtain ⟨t_4, et_4, hm⟩ := bind_some hm
  refine Runs.join (fun a w => ∃ (r7 : Nat), EnvOk 61 a [(0, .pointer (some ⟨p_d, 0, none⟩)), (4, .pointer (some ⟨r, 0, none⟩)), (7, .pointer (some ⟨r7, 0, none⟩))] ∧ St w0 (Blk r7 31 [.int .i64 t_4.1.At, .int .i64 t_4.1.Gen] :: dispatch_Dispatcher.R p_d (dispatch_Dispatcher.A.mk al_d.q_p (pq_Queues.A.mk z1.a__p z1.a__a z1.t__p z4 z1.entries_p) al_d.t__p al_d.t__a al_d.when_p al_d.clock_p) (dispatch_Dispatcher.mk s.2.kind s.2.most t_3.2 s.2.heaps0 s.2.heaps1 s.2.t_ s.2.when s.2.clock s.2.budget s.2.last s.2.top) :: Blk r 35 [.int .i64 0, .int .i64 0, .int .i64 0, .int .i64 0, .int .i64 0, .int .i64 0] :: As) w) (fun hk => ?_) ?_
  ·refine Runs.drawn mixed (by kernel_rfl) ?_
   replace H := H.drew
   replace H := dispatch_Dispatcher.open H
   try dsimp only at H
   refine WQ.d hE [0, 1, 2, 3, 4, 5] [.pointer (some ⟨al_d.t__p, 0, none⟩), .int .i64 t_3.1.Item.At, .int .i64 t_3.1.Item.Gen] [(49, .pointer (some ⟨al_d.t__p, 0, none⟩)), (51, .agg #[.int .i64 t_3.1.Item.At, .int .i64 t_3.1.Item.Gen])] (obs := [.cell ⟨p_d, 7, none⟩ (.pointer (some ⟨al_d.t__p, 0, none⟩)), .cell ⟨r3, 3, none⟩ (.int .i64 t_3.1.Item.At), .cell ⟨r3, 4, none⟩ (.int .i64 t_3.1.Item.Gen)]) ⟨H.cell 0 rfl rfl, H.cell 5 rfl rfl, H.cell 5 rfl rfl, trivial⟩ fun a hE => ?_
   refine WQ.act2 6 10 (by kernel_rfl) ?_ ?_
   ·refine AQ.eff (j := 6) (obs := []) hE rfl rfl rfl rfl (by kernel_rfl) (OpTo.fn hE rfl rfl Tryz.call132 (jobs_Table_By_ok et_4 H.t2)) ?_
    rintro _ w ⟨rfl, H⟩
    refine ⟨trivial, fun a hE => ?_⟩
    refine WQ.d0 hE [7, 8, 9] [(53, .agg #[.int .i64 t_4.1.At, .int .i64 t_4.1.Gen]), (54, .bool t_4.2)] fun a hE => ?_
    refine WQ.eff (j := 10) (obs := []) hE (by kernel_rfl) rfl rfl rfl rfl (by kernel_rfl) (OpTo.new hE H [] (.cells #[.int .i64 0, .int .i64 0] 31 (0, 0)) (fun r => .pointer (some ⟨r, 0, none⟩)) (obs := []) rfl (fun _ => by kernel_rfl) trivial) ?_
    rintro _ w ⟨r8, rfl, H⟩
    refine ⟨trivial, fun a hE => ?_⟩
    refine WQ.eff0 (j := 11) (obs := []) hE (by kernel_rfl) rfl rfl rfl (by kernel_rfl) (OpTo.store hE H rfl rfl rfl rfl rfl rfl (Nat.le_of_ble_eq_true rfl)) ?_
    rintro _ w H
    refine ⟨trivial, fun a hE => ?_⟩
    refine WQ.d0 hE [12] [] fun a hE => ?_
    refine WQ.done (by kernel_rfl) ?_
    replace H := dispatch_Dispatcher.shut (dispatch_Dispatcher.A.mk al_d.q_p (pq_Queues.A.mk z1.a__p z1.a__a z1.t__p z4 z1.entries_p) al_d.t__p al_d.t__a al_d.when_p al_d.clock_p) (dispatch_Dispatcher.mk s.2.kind s.2.most t_3.2 s.2.heaps0 s.2.heaps1 s.2.t_ s.2.when s.2.clock s.2.budget s.2.last s.2.top) H.t5.t5.t3.t5.t5
    exact hk _ _ ⟨r8, hE.sel [0, 4, 7] (by kernel_rfl), H.x3.x2.t2.t1.t2⟩
   ·refine AQ.eff (j := 10) (obs := [.cell ⟨r3, 3, none⟩ (.int .i64 t_3.1.Item.At), .cell ⟨r3, 4, none⟩ (.int .i64 t_3.1.Item.Gen), .cell ⟨p_d, 7, none⟩ (.pointer (some ⟨al_d.t__p, 0, none⟩))]) hE rfl rfl rfl rfl (by kernel_rfl) (OpTo.new hE H [] (.cells #[.int .i64 0, .int .i64 0] 31 (0, 0)) (fun r => .pointer (some ⟨r, 0, none⟩)) (obs := []) rfl (fun _ => by kernel_rfl) trivial) ?_
    rintro _ w ⟨r9, rfl, H⟩
    refine ⟨⟨H.cell 6 rfl rfl, H.cell 6 rfl rfl, H.cell 1 rfl rfl, trivial⟩, fun a hE => ?_⟩
    refine WQ.eff (j := 6) (obs := []) hE (by kernel_rfl) rfl rfl rfl rfl (by kernel_rfl) (OpTo.fn hE rfl rfl Tryz.call132 (jobs_Table_By_ok et_4 H.t3)) ?_
    rintro _ w ⟨rfl, H⟩
    refine ⟨trivial, fun a hE => ?_⟩
    refine WQ.d0 hE [7, 8, 9] [(53, .agg #[.int .i64 t_4.1.At, .int .i64 t_4.1.Gen]), (54, .bool t_4.2)] fun a hE => ?_
    refine WQ.eff0 (j := 11) (obs := []) hE (by kernel_rfl) rfl rfl rfl (by kernel_rfl) (OpTo.store hE H.t1 rfl rfl rfl rfl rfl rfl (Nat.le_of_ble_eq_true rfl)) ?_
    rintro _ w H
    refine ⟨trivial, fun a hE => ?_⟩
    refine WQ.d0 hE [12] [] fun a hE => ?_
    refine WQ.done (by kernel_rfl) ?_
    replace H := dispatch_Dispatcher.shut (dispatch_Dispatcher.A.mk al_d.q_p (pq_Queues.A.mk z1.a__p z1.a__a z1.t__p z4 z1.entries_p) al_d.t__p al_d.t__a al_d.when_p al_d.clock_p) (dispatch_Dispatcher.mk s.2.kind s.2.most t_3.2 s.2.heaps0 s.2.heaps1 s.2.t_ s.2.when s.2.clock s.2.budget s.2.last s.2.top) H.t5.t5.t3.t5.t5
    exact hk _ _ ⟨r9, hE.sel [0, 4, 7] (by kernel_rfl), H.x3.x2.t2.t1.t2⟩
  rintro a w ⟨r7, hE, H⟩
  refine Runs.sr ?_
  refine WR.seg hE 2 [.int .i64 t_4.1.At, .int .i64 t_4.1.Gen] [4, 7, 55, 56] (Lo := [(4, .pointer (some ⟨r, 0, none⟩)), (7, .pointer (some ⟨r7, 0, none⟩)), (55, .pointer (some ⟨p_d, 0, none⟩)), (56, .agg #[.int .i64 t_4.1.At, .int .i64 t_4.1.Gen])]) (obs := [.cell ⟨r7, 0, none⟩ (.int .i64 t_4.1.At), .cell ⟨r7, 1, none⟩ (.int .i64 t_4.1.Gen)]) rfl (by kernel_rfl) ⟨H.cell 0 rfl rfl, H.cell 0 rfl rfl, trivial⟩ fun a hE => ?_
  obtain ⟨t_5, et_5, hm⟩ := bind_some hm
  refine WR.eff hE rfl rfl rfl rfl (OpTo.fn hE rfl rfl Tryz.call130 (dispatch_Dispatcher_gone_ok et_5 H.t1)) ?_
  rintro _ w ⟨z5, rfl, H⟩ a hE
  refine WR.eff hE rfl rfl rfl rfl (OpTo.new hE H [] (.cells #[.int .i64 0, .int .i64 0, .int .i64 0, .int .i64 0, .int .i64 0, .int .i64 0] 35 (0, 0)) (fun r => .pointer (some ⟨r, 0, none⟩)) (obs := []) rfl (fun _ => by kernel_rfl) trivial) ?_
  rintro _ w ⟨r10, rfl, H⟩ a hE
  refine WR.eff0 hE rfl rfl rfl (OpTo.store hE H rfl rfl rfl rfl rfl rfl (Nat.le_of_ble_eq_true rfl)) ?_
  rintro _ w H a hE
  refine WR.done rfl ?_
  refine Runs.sr ?_
  refine WR.d hE 2 [.int .i64 t_4.1.At, .int .i64 t_4.1.Gen] [(58, .agg #[.int .i64 t_4.1.At, .int .i64 t_4.1.Gen]), (59, .pointer (some ⟨r10, 1, none⟩))] (obs := [.cell ⟨r7, 0, none⟩ (.int .i64 t_4.1.At), .cell ⟨r7, 1, none⟩ (.int .i64 t_4.1.Gen)]) ⟨H.cell 2 rfl rfl, H.cell 2 rfl rfl, trivial⟩ fun a hE => ?_
  refine WR.eff0 hE rfl rfl rfl (OpTo.store hE H rfl rfl rfl rfl rfl rfl (Nat.le_of_ble_eq_true rfl)) ?_
  rintro _ w H a hE
  refine WR.done rfl ?_
  refine Runs.sr ?_
  refine WR.d hE 1 [.int .i64 t_5.1.Why, .int .i64 t_4.1.At, .int .i64 t_4.1.Gen, .int .i64 t_5.1.Time, .int .i64 t_5.1.Data, .int .i64 t_5.1.N] [(60, .agg #[.int .i64 t_5.1.Why, .int .i64 t_4.1.At, .int .i64 t_4.1.Gen, .int .i64 t_5.1.Time, .int .i64 t_5.1.Data, .int .i64 t_5.1.N])] (obs := [.cell ⟨r10, 0, none⟩ (.int .i64 t_5.1.Why), .cell ⟨r10, 1, none⟩ (.int .i64 t_4.1.At), .cell ⟨r10, 2, none⟩ (.int .i64 t_4.1.Gen), .cell ⟨r10, 3, none⟩ (.int .i64 t_5.1.Time), .cell ⟨r10, 4, none⟩ (.int .i64 t_5.1.Data), .cell ⟨r10, 5, none⟩ (.int .i64 t_5.1.N)]) ⟨H.cell 0 rfl rfl, H.cell 0 rfl rfl, H.cell 0 rfl rfl, H.cell 0 rfl rfl, H.cell 0 rfl rfl, H.cell 0 rfl rfl, trivial⟩ fun a hE => ?_
  refine WR.eff0 hE rfl rfl rfl (OpTo.store hE H.t3 rfl rfl rfl rfl rfl rfl (Nat.le_of_ble_eq_true rfl)) ?_
  rintro _ w H a hE
  refine WR.done rfl ?_
  refine Runs.retO (vs := [.agg #[.int .i64 t_5.1.Why, .int .i64 t_4.1.At, .int .i64 t_4.1.Gen, .int .i64 t_5.1.Time, .int .i64 t_5.1.Data, .int .i64 t_5.1.N]]) (obs := [.cell ⟨r, 0, none⟩ (.int .i64 t_5.1.Why), .cell ⟨r, 1, none⟩ (.int .i64 t_4.1.At), .cell ⟨r, 2, none⟩ (.int .i64 t_4.1.Gen), .cell ⟨r, 3, none⟩ (.int .i64 t_5.1.Time), .cell ⟨r, 4, none⟩ (.int .i64 t_5.1.Data), .cell ⟨r, 5, none⟩ (.int .i64 t_5.1.N)]) hE Tryz.func91 rfl [.int .i64 t_5.1.Why, .int .i64 t_4.1.At, .int .i64 t_4.1.Gen, .int .i64 t_5.1.Time, .int .i64 t_5.1.Data, .int .i64 t_5.1.N] (by kernel_rfl) ⟨H.cell 0 rfl rfl, H.cell 0 rfl rfl, H.cell 0 rfl rfl, H.cell 0 rfl rfl, H.cell 0 rfl rfl, H.cell 0 rfl rfl, trivial⟩ ?_
  cases hm
  exact ⟨pq_Queues.A.mk z1.a__p z1.a__a z1.t__p z4 z1.entries_p, z5, rfl, H.x3.x1.x0⟩

theorem dispatch_Dispatcher_merge_ok {w0 w : World} {As : List HP} {p_d : Nat} {al_d : dispatch_Dispatcher.A} {d : dispatch_Dispatcher} {t : api_Reply}  (hm : dispatch_Dispatcher_merge d = some t) (H : St w0 (dispatch_Dispatcher.R p_d al_d d :: As) w) :
    CallsR Tryz.prog 92 #[.pointer (some ⟨p_d, 0, none⟩)] w fun v w' => v = .agg #[.int .i64 t.Why, .int .i64 t.Job.At, .int .i64 t.Job.Gen, .int .i64 t.Time, .int .i64 t.Data, .int .i64 t.N] ∧ St w0 (dispatch_Dispatcher.R p_d al_d d :: As) w' := by
  rw [dispatch_Dispatcher_merge] at hm
  cases hm

theorem jobs_Table_Count_ok {w0 w : World} {As : List HP} {p_t_ : Nat} {al_t_ : jobs_Table.A} {t_ : jobs_Table} {queue : Int} {t : Int}  (hm : jobs_Table_Count t_ queue = some t) (H : St w0 (jobs_Table.R p_t_ al_t_ t_ :: As) w) :
    CallsR Tryz.prog 93 #[.pointer (some ⟨p_t_, 0, none⟩), .int .i64 queue] w fun v w' => v = .int .i64 t ∧ St w0 (jobs_Table.R p_t_ al_t_ t_ :: As) w' := by
  rw [jobs_Table_Count] at hm
  cases hm

theorem dispatch_Dispatcher_one_ok {w0 w : World} {As : List HP} {p_d : Nat} {al_d : dispatch_Dispatcher.A} {d : dispatch_Dispatcher} {c_ : api_Command} {t : api_Reply × dispatch_Dispatcher}  (hm : dispatch_Dispatcher_one d c_ = some t) (H : St w0 (dispatch_Dispatcher.R p_d al_d d :: As) w) :
    CallsR Tryz.prog 61 #[.pointer (some ⟨p_d, 0, none⟩), .agg #[.int .i64 c_.Kind, .int .i64 c_.Queue, .int .i64 c_.Job.At, .int .i64 c_.Job.Gen, .int .i64 c_.Time, .int .i64 c_.Data]] w fun v w' => ∃ (z_d_q_a : pq_Queues.A), ∃ (z_d_t__a : jobs_Table.A), v = .agg #[.int .i64 t.1.Why, .int .i64 t.1.Job.At, .int .i64 t.1.Job.Gen, .int .i64 t.1.Time, .int .i64 t.1.Data, .int .i64 t.1.N] ∧ St w0 (dispatch_Dispatcher.R p_d (dispatch_Dispatcher.A.mk al_d.q_p z_d_q_a al_d.t__p z_d_t__a al_d.when_p al_d.clock_p) t.2 :: As) w' := by
 rw [dispatch_Dispatcher_one] at hm
 refine enter (args := [.pointer (some ⟨p_d, 0, none⟩), .agg #[.int .i64 c_.Kind, .int .i64 c_.Queue, .int .i64 c_.Job.At, .int .i64 c_.Job.Gen, .int .i64 c_.Time, .int .i64 c_.Data]]) Tryz.func61 rfl rfl rfl fun a hE => ?_
 refine Runs.sr ?_
 refine WR.eff hE rfl rfl rfl rfl (OpTo.new hE H [] (.cells #[.int .i64 c_.Kind, .int .i64 c_.Queue, .int .i64 c_.Job.At, .int .i64 c_.Job.Gen, .int .i64 c_.Time, .int .i64 c_.Data] 33 (0, 0)) (fun r => .pointer (some ⟨r, 0, none⟩)) (obs := []) rfl (fun _ => by kernel_rfl) trivial) ?_
 rintro _ w ⟨r, rfl, H⟩ a hE
 refine WR.eff hE rfl rfl rfl rfl (OpTo.new hE H [] (.cells #[.int .i64 0, .int .i64 0, .int .i64 0, .int .i64 0, .int .i64 0, .int .i64 0] 35 (0, 0)) (fun r => .pointer (some ⟨r, 0, none⟩)) (obs := []) rfl (fun _ => by kernel_rfl) trivial) ?_
 rintro _ w ⟨r1, rfl, H⟩ a hE
 refine WR.done rfl ?_
 refine Runs.seq ?_
 refine Runs.join (fun a w => EnvOk 87 a [(0, .pointer (some ⟨p_d, 0, none⟩)), (3, .pointer (some ⟨r, 0, none⟩)), (4, .pointer (some ⟨r1, 0, none⟩)), (5, .bool ((decide (c_.Queue ≥ 0)) && (decide (c_.Queue < 2))))] ∧ St w0 (Blk r1 35 [.int .i64 0, .int .i64 0, .int .i64 0, .int .i64 0, .int .i64 0, .int .i64 0] :: Blk r 33 [.int .i64 c_.Kind, .int .i64 c_.Queue, .int .i64 c_.Job.At, .int .i64 c_.Job.Gen, .int .i64 c_.Time, .int .i64 c_.Data] :: dispatch_Dispatcher.R p_d al_d d :: As) w) (fun hk => ?_) ?_
 ·clear hm
  refine Runs.region ?_
  refine WR.seg hE 4 [.int .i64 c_.Queue] [0, 3, 4, 10] (Lo := [(0, .pointer (some ⟨p_d, 0, none⟩)), (3, .pointer (some ⟨r, 0, none⟩)), (4, .pointer (some ⟨r1, 0, none⟩)), (10, .bool (decide (c_.Queue ≥ 0)))]) (obs := [.cell ⟨r, 1, none⟩ (.int .i64 c_.Queue)]) rfl (by kernel_rfl) ⟨H.cell 1 rfl rfl, trivial⟩ fun a hE => ?_
  rcases Bool.eq_false_or_eq_true (decide (c_.Queue ≥ 0)) with c | c
  ·replace hE := hE.dec 10 c (by kernel_rfl)
   have c_1 := c
   refine WR.e hE [.int .i64 c_.Queue] [(5, .bool (decide (c_.Queue < 2)))] (obs := [.cell ⟨r, 1, none⟩ (.int .i64 c_.Queue)]) ⟨H.cell 1 rfl rfl, trivial⟩ fun a hE => ?_
   refine hk _ _ ⟨?_, H.t2.t2.t2⟩
   try rw [c_1] at hE
   try rw [c_1]
   exact hE.sel [0, 3, 4, 5] (by kernel_rfl)
  ·replace hE := hE.dec 10 c (by kernel_rfl)
   have c_2 := c
   refine WR.e0 hE [(5, .bool false)] fun a hE => ?_
   refine hk _ _ ⟨?_, H.t2.t2.t2⟩
   try rw [c_2] at hE
   try rw [c_2]
   exact hE.sel [0, 3, 4, 5] (by kernel_rfl)
 rintro a w ⟨hE, H⟩
 refine Runs.seq ?_
 refine Runs.sr ?_
 refine WR.seg hE 2 [.int .i64 c_.Kind] [0, 3, 4, 5, 16] (Lo := [(0, .pointer (some ⟨p_d, 0, none⟩)), (3, .pointer (some ⟨r, 0, none⟩)), (4, .pointer (some ⟨r1, 0, none⟩)), (5, .bool ((decide (c_.Queue ≥ 0)) && (decide (c_.Queue < 2)))), (16, .int .i64 c_.Kind)]) (obs := [.cell ⟨r, 0, none⟩ (.int .i64 c_.Kind)]) rfl (by kernel_rfl) ⟨H.cell 1 rfl rfl, trivial⟩ fun a hE => ?_
 refine WR.done rfl ?_
 obtain ⟨s, es, hR⟩ := bind_some hm
 refine Runs.join (fun a w => ∃ s1, s = Sum.inr s1 ∧ EnvOk 87 a [(0, .pointer (some ⟨p_d, 0, none⟩)), (3, .pointer (some ⟨r, 0, none⟩)), (4, .pointer (some ⟨r1, 0, none⟩))] ∧ St w0 (Blk r1 35 [.int .i64 0, .int .i64 0, .int .i64 0, .int .i64 0, .int .i64 0, .int .i64 0] :: Blk r 33 [.int .i64 c_.Kind, .int .i64 c_.Queue, .int .i64 c_.Job.At, .int .i64 c_.Job.Gen, .int .i64 c_.Time, .int .i64 c_.Data] :: dispatch_Dispatcher.R p_d al_d d :: As) w) (fun hk => ?_) ?_
 ·replace hm := es; clear es
  refine Runs.block ?_
  refine Runs.seq ?_
  refine Runs.sr ?_
  refine WR.e0 hE [(17, .bool (c_.Kind == 1))] fun a hE => ?_
  obtain ⟨s2, es2, hm⟩ := bind_some hm
  refine Runs.join (fun a w => EnvOk 87 a [(0, .pointer (some ⟨p_d, 0, none⟩)), (3, .pointer (some ⟨r, 0, none⟩)), (4, .pointer (some ⟨r1, 0, none⟩)), (5, .bool ((decide (c_.Queue ≥ 0)) && (decide (c_.Queue < 2)))), (17, .bool s2)] ∧ St w0 (Blk r1 35 [.int .i64 0, .int .i64 0, .int .i64 0, .int .i64 0, .int .i64 0, .int .i64 0] :: Blk r 33 [.int .i64 c_.Kind, .int .i64 c_.Queue, .int .i64 c_.Job.At, .int .i64 c_.Job.Gen, .int .i64 c_.Time, .int .i64 c_.Data] :: dispatch_Dispatcher.R p_d al_d d :: As) w) (fun hk => ?_) ?_
  ·replace hm := es2; clear es2
   refine Runs.cond hE rfl (fun c => ?_) (fun c => ?_)
   ·replace hm := cond_t c hm
    refine Runs.skip ?_
    cases hm
    exact hk _ _ ⟨hE.sel [0, 3, 4, 5, 17] (by kernel_rfl), H.t2.t2.t2⟩
   ·replace hm := cond_f c hm
    refine Runs.sr ?_
    refine WR.e0 hE [(17, .bool (c_.Kind == 5))] fun a hE => ?_
    refine Runs.cond hE rfl (fun c => ?_) (fun c => ?_)
    ·replace hm := cond_t c hm
     refine Runs.skip ?_
     cases hm
     exact hk _ _ ⟨hE.sel [0, 3, 4, 5, 17] (by kernel_rfl), H.t2.t2.t2⟩
    ·replace hm := cond_f c hm
     refine Runs.sr ?_
     refine WR.e0 hE [(17, .bool (c_.Kind == 6))] fun a hE => ?_
     refine Runs.cond hE rfl (fun c => ?_) (fun c => ?_)
     ·replace hm := cond_t c hm
      refine Runs.skip ?_
      cases hm
      exact hk _ _ ⟨hE.sel [0, 3, 4, 5, 17] (by kernel_rfl), H.t2.t2.t2⟩
     ·replace hm := cond_f c hm
      refine Runs.region ?_
      refine WR.e0 hE [(17, .bool (c_.Kind == 7))] fun a hE => ?_
      cases hm
      exact hk _ _ ⟨hE.sel [0, 3, 4, 5, 17] (by kernel_rfl), H.t2.t2.t2⟩
  rintro a w ⟨hE, H⟩
  refine Runs.cond hE rfl (fun c => ?_) (fun c => ?_)
  ·replace hm := cond_t c hm
   refine Runs.sr ?_
   refine WR.seg hE 2 [] [0, 3, 4, 23] (Lo := [(0, .pointer (some ⟨p_d, 0, none⟩)), (3, .pointer (some ⟨r, 0, none⟩)), (4, .pointer (some ⟨r1, 0, none⟩)), (23, .bool (!((decide (c_.Queue ≥ 0)) && (decide (c_.Queue < 2)))))]) (obs := []) rfl (by kernel_rfl) trivial fun a hE => ?_
   refine WR.done rfl ?_
   refine Runs.cond hE rfl (fun c => ?_) (fun c => ?_)
   ·replace hm := cond_t c hm
    refine Runs.sr ?_
    obtain ⟨t_, et_, hm⟩ := bind_some hm
    refine WR.eff hE rfl rfl rfl rfl (OpTo.fn hE rfl rfl Tryz.call62 (dispatch_refused_ok et_ H)) ?_
    rintro _ w ⟨rfl, H⟩ a hE
    refine WR.eff0 hE rfl rfl rfl (OpTo.store hE H rfl rfl rfl rfl rfl rfl (Nat.le_of_ble_eq_true rfl)) ?_
    rintro _ w H a hE
    refine WR.done rfl ?_
    refine Runs.retO (vs := [.agg #[.int .i64 t_.Why, .int .i64 t_.Job.At, .int .i64 t_.Job.Gen, .int .i64 t_.Time, .int .i64 t_.Data, .int .i64 t_.N]]) (obs := [.cell ⟨r1, 0, none⟩ (.int .i64 t_.Why), .cell ⟨r1, 1, none⟩ (.int .i64 t_.Job.At), .cell ⟨r1, 2, none⟩ (.int .i64 t_.Job.Gen), .cell ⟨r1, 3, none⟩ (.int .i64 t_.Time), .cell ⟨r1, 4, none⟩ (.int .i64 t_.Data), .cell ⟨r1, 5, none⟩ (.int .i64 t_.N)]) hE Tryz.func61 rfl [.int .i64 t_.Why, .int .i64 t_.Job.At, .int .i64 t_.Job.Gen, .int .i64 t_.Time, .int .i64 t_.Data, .int .i64 t_.N] (by kernel_rfl) ⟨H.cell 0 rfl rfl, H.cell 0 rfl rfl, H.cell 0 rfl rfl, H.cell 0 rfl rfl, H.cell 0 rfl rfl, H.cell 0 rfl rfl, trivial⟩ ?_
    cases hm
    dsimp only at hR; cases hR
    exact ⟨al_d.q_a, al_d.t__a, rfl, H.x1.x0⟩
   ·replace hm := cond_f c hm
    refine Runs.skip ?_
    refine Runs.inBlock ?_
    cases hm
    exact hk _ _ ⟨_, rfl, hE.sel [0, 3, 4] (by kernel_rfl), H.t2.t2.t2⟩
  ·replace hm := cond_f c hm
   refine Runs.skip ?_
   refine Runs.inBlock ?_
   cases hm
   exact hk _ _ ⟨_, rfl, hE.sel [0, 3, 4] (by kernel_rfl), H.t2.t2.t2⟩
 rintro a w ⟨s1, rfl, hE, H⟩
 replace hm := hR; dsimp only at hm
 refine Runs.seq ?_
 refine Runs.sr ?_
 refine WR.seg hE 2 [.int .i64 c_.Kind] [0, 3, 4, 26] (Lo := [(0, .pointer (some ⟨p_d, 0, none⟩)), (3, .pointer (some ⟨r, 0, none⟩)), (4, .pointer (some ⟨r1, 0, none⟩)), (26, .int .i64 c_.Kind)]) (obs := [.cell ⟨r, 0, none⟩ (.int .i64 c_.Kind)]) rfl (by kernel_rfl) ⟨H.cell 1 rfl rfl, trivial⟩ fun a hE => ?_
 refine WR.done rfl ?_
 refine Runs.block ?_
 refine Runs.sr ?_
 refine WR.e0 hE [(27, .bool (c_.Kind == 1))] fun a hE => ?_
 refine Runs.cond hE rfl (fun c => ?_) (fun c => ?_)
 ·replace hm := cond_t c hm
  refine Runs.sr ?_
  refine WR.d hE 2 [.int .i64 c_.Kind, .int .i64 c_.Queue, .int .i64 c_.Job.At, .int .i64 c_.Job.Gen, .int .i64 c_.Time, .int .i64 c_.Data] [(29, .pointer (some ⟨p_d, 0, none⟩)), (30, .agg #[.int .i64 c_.Kind, .int .i64 c_.Queue, .int .i64 c_.Job.At, .int .i64 c_.Job.Gen, .int .i64 c_.Time, .int .i64 c_.Data])] (obs := [.cell ⟨r, 0, none⟩ (.int .i64 c_.Kind), .cell ⟨r, 1, none⟩ (.int .i64 c_.Queue), .cell ⟨r, 2, none⟩ (.int .i64 c_.Job.At), .cell ⟨r, 3, none⟩ (.int .i64 c_.Job.Gen), .cell ⟨r, 4, none⟩ (.int .i64 c_.Time), .cell ⟨r, 5, none⟩ (.int .i64 c_.Data)]) ⟨H.cell 1 rfl rfl, H.cell 1 rfl rfl, H.cell 1 rfl rfl, H.cell 1 rfl rfl, H.cell 1 rfl rfl, H.cell 1 rfl rfl, trivial⟩ fun a hE => ?_
  obtain ⟨t_1, et_1, hm⟩ := bind_some hm
  refine WR.eff hE rfl rfl rfl rfl (OpTo.fn hE rfl rfl Tryz.call86 (dispatch_Dispatcher_schedule_ok et_1 H.t2)) ?_
  rintro _ w ⟨z, z1, rfl, H⟩ a hE
  refine WR.eff0 hE rfl rfl rfl (OpTo.store hE H.t1 rfl rfl rfl rfl rfl rfl (Nat.le_of_ble_eq_true rfl)) ?_
  rintro _ w H a hE
  refine WR.done rfl ?_
  refine Runs.retO (vs := [.agg #[.int .i64 t_1.1.Why, .int .i64 t_1.1.Job.At, .int .i64 t_1.1.Job.Gen, .int .i64 t_1.1.Time, .int .i64 t_1.1.Data, .int .i64 t_1.1.N]]) (obs := [.cell ⟨r1, 0, none⟩ (.int .i64 t_1.1.Why), .cell ⟨r1, 1, none⟩ (.int .i64 t_1.1.Job.At), .cell ⟨r1, 2, none⟩ (.int .i64 t_1.1.Job.Gen), .cell ⟨r1, 3, none⟩ (.int .i64 t_1.1.Time), .cell ⟨r1, 4, none⟩ (.int .i64 t_1.1.Data), .cell ⟨r1, 5, none⟩ (.int .i64 t_1.1.N)]) hE Tryz.func61 rfl [.int .i64 t_1.1.Why, .int .i64 t_1.1.Job.At, .int .i64 t_1.1.Job.Gen, .int .i64 t_1.1.Time, .int .i64 t_1.1.Data, .int .i64 t_1.1.N] (by kernel_rfl) ⟨H.cell 0 rfl rfl, H.cell 0 rfl rfl, H.cell 0 rfl rfl, H.cell 0 rfl rfl, H.cell 0 rfl rfl, H.cell 0 rfl rfl, trivial⟩ ?_
  cases hm
  exact ⟨z, z1, rfl, H.x2.x0⟩
 ·replace hm := cond_f c hm
  refine Runs.sr ?_
  refine WR.e0 hE [(32, .bool (c_.Kind == 2))] fun a hE => ?_
  refine Runs.cond hE rfl (fun c => ?_) (fun c => ?_)
  ·replace hm := cond_t c hm
   refine Runs.sr ?_
   refine WR.d hE 2 [.int .i64 c_.Kind, .int .i64 c_.Queue, .int .i64 c_.Job.At, .int .i64 c_.Job.Gen, .int .i64 c_.Time, .int .i64 c_.Data] [(34, .pointer (some ⟨p_d, 0, none⟩)), (35, .agg #[.int .i64 c_.Kind, .int .i64 c_.Queue, .int .i64 c_.Job.At, .int .i64 c_.Job.Gen, .int .i64 c_.Time, .int .i64 c_.Data])] (obs := [.cell ⟨r, 0, none⟩ (.int .i64 c_.Kind), .cell ⟨r, 1, none⟩ (.int .i64 c_.Queue), .cell ⟨r, 2, none⟩ (.int .i64 c_.Job.At), .cell ⟨r, 3, none⟩ (.int .i64 c_.Job.Gen), .cell ⟨r, 4, none⟩ (.int .i64 c_.Time), .cell ⟨r, 5, none⟩ (.int .i64 c_.Data)]) ⟨H.cell 1 rfl rfl, H.cell 1 rfl rfl, H.cell 1 rfl rfl, H.cell 1 rfl rfl, H.cell 1 rfl rfl, H.cell 1 rfl rfl, trivial⟩ fun a hE => ?_
   obtain ⟨t_2, et_2, hm⟩ := bind_some hm
   refine WR.eff hE rfl rfl rfl rfl (OpTo.fn hE rfl rfl Tryz.call87 (dispatch_Dispatcher_sooner_ok et_2 H.t2)) ?_
   rintro _ w ⟨rfl, H⟩ a hE
   refine WR.eff0 hE rfl rfl rfl (OpTo.store hE H.t1 rfl rfl rfl rfl rfl rfl (Nat.le_of_ble_eq_true rfl)) ?_
   rintro _ w H a hE
   refine WR.done rfl ?_
   refine Runs.retO (vs := [.agg #[.int .i64 t_2.Why, .int .i64 t_2.Job.At, .int .i64 t_2.Job.Gen, .int .i64 t_2.Time, .int .i64 t_2.Data, .int .i64 t_2.N]]) (obs := [.cell ⟨r1, 0, none⟩ (.int .i64 t_2.Why), .cell ⟨r1, 1, none⟩ (.int .i64 t_2.Job.At), .cell ⟨r1, 2, none⟩ (.int .i64 t_2.Job.Gen), .cell ⟨r1, 3, none⟩ (.int .i64 t_2.Time), .cell ⟨r1, 4, none⟩ (.int .i64 t_2.Data), .cell ⟨r1, 5, none⟩ (.int .i64 t_2.N)]) hE Tryz.func61 rfl [.int .i64 t_2.Why, .int .i64 t_2.Job.At, .int .i64 t_2.Job.Gen, .int .i64 t_2.Time, .int .i64 t_2.Data, .int .i64 t_2.N] (by kernel_rfl) ⟨H.cell 0 rfl rfl, H.cell 0 rfl rfl, H.cell 0 rfl rfl, H.cell 0 rfl rfl, H.cell 0 rfl rfl, H.cell 0 rfl rfl, trivial⟩ ?_
   cases hm
   exact ⟨al_d.q_a, al_d.t__a, rfl, H.x2.x0⟩
  ·replace hm := cond_f c hm
   refine Runs.sr ?_
   refine WR.e0 hE [(37, .bool (c_.Kind == 3))] fun a hE => ?_
   refine Runs.cond hE rfl (fun c => ?_) (fun c => ?_)
   ·replace hm := cond_t c hm
    refine Runs.sr ?_
    refine WR.d hE 3 [.int .i64 c_.Job.At, .int .i64 c_.Job.Gen] [(39, .pointer (some ⟨p_d, 0, none⟩)), (41, .agg #[.int .i64 c_.Job.At, .int .i64 c_.Job.Gen])] (obs := [.cell ⟨r, 2, none⟩ (.int .i64 c_.Job.At), .cell ⟨r, 3, none⟩ (.int .i64 c_.Job.Gen)]) ⟨H.cell 1 rfl rfl, H.cell 1 rfl rfl, trivial⟩ fun a hE => ?_
    obtain ⟨t_3, et_3, hm⟩ := bind_some hm
    refine WR.eff hE rfl rfl rfl rfl (OpTo.fn hE rfl rfl Tryz.call88 (dispatch_Dispatcher_cancel_ok et_3 H.t2)) ?_
    rintro _ w ⟨rfl, H⟩ a hE
    refine WR.eff0 hE rfl rfl rfl (OpTo.store hE H.t1 rfl rfl rfl rfl rfl rfl (Nat.le_of_ble_eq_true rfl)) ?_
    rintro _ w H a hE
    refine WR.done rfl ?_
    refine Runs.retO (vs := [.agg #[.int .i64 t_3.Why, .int .i64 t_3.Job.At, .int .i64 t_3.Job.Gen, .int .i64 t_3.Time, .int .i64 t_3.Data, .int .i64 t_3.N]]) (obs := [.cell ⟨r1, 0, none⟩ (.int .i64 t_3.Why), .cell ⟨r1, 1, none⟩ (.int .i64 t_3.Job.At), .cell ⟨r1, 2, none⟩ (.int .i64 t_3.Job.Gen), .cell ⟨r1, 3, none⟩ (.int .i64 t_3.Time), .cell ⟨r1, 4, none⟩ (.int .i64 t_3.Data), .cell ⟨r1, 5, none⟩ (.int .i64 t_3.N)]) hE Tryz.func61 rfl [.int .i64 t_3.Why, .int .i64 t_3.Job.At, .int .i64 t_3.Job.Gen, .int .i64 t_3.Time, .int .i64 t_3.Data, .int .i64 t_3.N] (by kernel_rfl) ⟨H.cell 0 rfl rfl, H.cell 0 rfl rfl, H.cell 0 rfl rfl, H.cell 0 rfl rfl, H.cell 0 rfl rfl, H.cell 0 rfl rfl, trivial⟩ ?_
    cases hm
    exact ⟨al_d.q_a, al_d.t__a, rfl, H.x2.x0⟩
   ·replace hm := cond_f c hm
    refine Runs.sr ?_
    refine WR.e0 hE [(43, .bool (c_.Kind == 4))] fun a hE => ?_
    refine Runs.cond hE rfl (fun c => ?_) (fun c => ?_)
    ·replace hm := cond_t c hm
     refine Runs.seq ?_
     refine Runs.seq ?_
     refine Runs.drawn mixed (by kernel_rfl) ?_
     replace H := H.drew
     replace H := dispatch_Dispatcher.open H.t2
     refine WQ.d hE [0, 1, 2, 3, 4, 5] [.pointer (some ⟨al_d.clock_p, 0, none⟩), .int .i64 c_.Time] [(48, .pointer (some ⟨al_d.clock_p, 0, none⟩)), (50, .int .i64 c_.Time)] (obs := [.cell ⟨p_d, 9, none⟩ (.pointer (some ⟨al_d.clock_p, 0, none⟩)), .cell ⟨r, 4, none⟩ (.int .i64 c_.Time)]) ⟨H.cell 0 rfl rfl, H.cell 6 rfl rfl, trivial⟩ fun a hE => ?_
     obtain ⟨t_4, et_4, hm⟩ := bind_some hm
     refine WQ.eff (j := 6) (obs := []) hE (by kernel_rfl) rfl rfl rfl rfl (by kernel_rfl) (OpTo.fn hE rfl rfl Tryz.call89 (clock_Clock_Go_ok et_4 H.t4)) ?_
     rintro _ w ⟨rfl, H⟩
     refine ⟨trivial, fun a hE => ?_⟩
     refine WQ.d0 hE [7] [(6, .int .i64 t_4)] fun a hE => ?_
     refine WQ.done (by kernel_rfl) ?_
     refine Runs.sr ?_
     refine WR.e0 hE [(53, .bool (t_4 != 0))] fun a hE => ?_
     refine Runs.cond hE rfl (fun c => ?_) (fun c => ?_)
     ·replace hm := cond_t c hm
      refine Runs.sr ?_
      refine WR.d0 hE 1 [(54, .int .i64 t_4)] fun a hE => ?_
      obtain ⟨t_5, et_5, hm⟩ := bind_some hm
      refine WR.eff hE rfl rfl rfl rfl (OpTo.fn hE rfl rfl Tryz.call62 (dispatch_refused_ok et_5 H)) ?_
      rintro _ w ⟨rfl, H⟩ a hE
      refine WR.eff0 hE rfl rfl rfl (OpTo.store hE H.t5 rfl rfl rfl rfl rfl rfl (Nat.le_of_ble_eq_true rfl)) ?_
      rintro _ w H a hE
      refine WR.done rfl ?_
      refine Runs.retO (vs := [.agg #[.int .i64 t_5.Why, .int .i64 t_5.Job.At, .int .i64 t_5.Job.Gen, .int .i64 t_5.Time, .int .i64 t_5.Data, .int .i64 t_5.N]]) (obs := [.cell ⟨r1, 0, none⟩ (.int .i64 t_5.Why), .cell ⟨r1, 1, none⟩ (.int .i64 t_5.Job.At), .cell ⟨r1, 2, none⟩ (.int .i64 t_5.Job.Gen), .cell ⟨r1, 3, none⟩ (.int .i64 t_5.Time), .cell ⟨r1, 4, none⟩ (.int .i64 t_5.Data), .cell ⟨r1, 5, none⟩ (.int .i64 t_5.N)]) hE Tryz.func61 rfl [.int .i64 t_5.Why, .int .i64 t_5.Job.At, .int .i64 t_5.Job.Gen, .int .i64 t_5.Time, .int .i64 t_5.Data, .int .i64 t_5.N] (by kernel_rfl) ⟨H.cell 0 rfl rfl, H.cell 0 rfl rfl, H.cell 0 rfl rfl, H.cell 0 rfl rfl, H.cell 0 rfl rfl, H.cell 0 rfl rfl, trivial⟩ ?_
      replace H := dispatch_Dispatcher.shut al_d (d) H.t1.t5.t5.t5.t5
      cases hm
      exact ⟨al_d.q_a, al_d.t__a, rfl, H.x2.x1⟩
     ·replace hm := cond_f c hm
      refine Runs.skip ?_
      refine Runs.sr ?_
      refine WR.d hE 4 [.pointer (some ⟨al_d.clock_p, 0, none⟩)] [(59, .pointer (some ⟨al_d.clock_p, 0, none⟩))] (obs := [.cell ⟨p_d, 9, none⟩ (.pointer (some ⟨al_d.clock_p, 0, none⟩))]) ⟨H.cell 1 rfl rfl, trivial⟩ fun a hE => ?_
      obtain ⟨t_6, et_6, hm⟩ := bind_some hm
      refine WR.eff hE rfl rfl rfl rfl (OpTo.fn hE rfl rfl Tryz.call90 (clock_Clock_Now_ok et_6 H)) ?_
      rintro _ w ⟨rfl, H⟩ a hE
      refine WR.d0 hE 6 [(61, .agg #[.int .i64 0, .int .i64 0, .int .i64 0, .int .i64 t_6, .int .i64 0, .int .i64 0])] fun a hE => ?_
      refine WR.eff0 hE rfl rfl rfl (OpTo.store hE H.t5 rfl rfl rfl rfl rfl rfl (Nat.le_of_ble_eq_true rfl)) ?_
      rintro _ w H a hE
      refine WR.done rfl ?_
      refine Runs.retO (vs := [.agg #[.int .i64 0, .int .i64 0, .int .i64 0, .int .i64 t_6, .int .i64 0, .int .i64 0]]) (obs := [.cell ⟨r1, 0, none⟩ (.int .i64 0), .cell ⟨r1, 1, none⟩ (.int .i64 0), .cell ⟨r1, 2, none⟩ (.int .i64 0), .cell ⟨r1, 3, none⟩ (.int .i64 t_6), .cell ⟨r1, 4, none⟩ (.int .i64 0), .cell ⟨r1, 5, none⟩ (.int .i64 0)]) hE Tryz.func61 rfl [.int .i64 0, .int .i64 0, .int .i64 0, .int .i64 t_6, .int .i64 0, .int .i64 0] (by kernel_rfl) ⟨H.cell 0 rfl rfl, H.cell 0 rfl rfl, H.cell 0 rfl rfl, H.cell 0 rfl rfl, H.cell 0 rfl rfl, H.cell 0 rfl rfl, trivial⟩ ?_
      replace H := dispatch_Dispatcher.shut al_d (d) H.t1.t5.t5.t5.t5
      cases hm
      exact ⟨al_d.q_a, al_d.t__a, rfl, H.x2.x1⟩
    ·replace hm := cond_f c hm
     refine Runs.sr ?_
     refine WR.e0 hE [(62, .bool (c_.Kind == 5))] fun a hE => ?_
     refine Runs.cond hE rfl (fun c => ?_) (fun c => ?_)
     ·replace hm := cond_t c hm
      refine Runs.sr ?_
      refine WR.d hE 3 [.int .i64 c_.Queue] [(64, .pointer (some ⟨p_d, 0, none⟩)), (66, .int .i64 c_.Queue)] (obs := [.cell ⟨r, 1, none⟩ (.int .i64 c_.Queue)]) ⟨H.cell 1 rfl rfl, trivial⟩ fun a hE => ?_
      obtain ⟨t_7, et_7, hm⟩ := bind_some hm
      refine WR.eff hE rfl rfl rfl rfl (OpTo.fn hE rfl rfl Tryz.call91 (dispatch_Dispatcher_fire_ok et_7 H.t2)) ?_
      rintro _ w ⟨z2, z3, rfl, H⟩ a hE
      refine WR.eff0 hE rfl rfl rfl (OpTo.store hE H.t1 rfl rfl rfl rfl rfl rfl (Nat.le_of_ble_eq_true rfl)) ?_
      rintro _ w H a hE
      refine WR.done rfl ?_
      refine Runs.retO (vs := [.agg #[.int .i64 t_7.1.Why, .int .i64 t_7.1.Job.At, .int .i64 t_7.1.Job.Gen, .int .i64 t_7.1.Time, .int .i64 t_7.1.Data, .int .i64 t_7.1.N]]) (obs := [.cell ⟨r1, 0, none⟩ (.int .i64 t_7.1.Why), .cell ⟨r1, 1, none⟩ (.int .i64 t_7.1.Job.At), .cell ⟨r1, 2, none⟩ (.int .i64 t_7.1.Job.Gen), .cell ⟨r1, 3, none⟩ (.int .i64 t_7.1.Time), .cell ⟨r1, 4, none⟩ (.int .i64 t_7.1.Data), .cell ⟨r1, 5, none⟩ (.int .i64 t_7.1.N)]) hE Tryz.func61 rfl [.int .i64 t_7.1.Why, .int .i64 t_7.1.Job.At, .int .i64 t_7.1.Job.Gen, .int .i64 t_7.1.Time, .int .i64 t_7.1.Data, .int .i64 t_7.1.N] (by kernel_rfl) ⟨H.cell 0 rfl rfl, H.cell 0 rfl rfl, H.cell 0 rfl rfl, H.cell 0 rfl rfl, H.cell 0 rfl rfl, H.cell 0 rfl rfl, trivial⟩ ?_
      cases hm
      exact ⟨z2, z3, rfl, H.x2.x0⟩
     ·replace hm := cond_f c hm
      refine Runs.sr ?_
      refine WR.e0 hE [(68, .bool (c_.Kind == 6))] fun a hE => ?_
      refine Runs.cond hE rfl (fun c => ?_) (fun c => ?_)
      ·replace hm := cond_t c hm
       refine Runs.seq ?_
       refine Runs.sr ?_
       refine WR.e hE [.int .i64 c_.Queue] [(72, .bool (c_.Queue == 0))] (obs := [.cell ⟨r, 1, none⟩ (.int .i64 c_.Queue)]) ⟨H.cell 1 rfl rfl, trivial⟩ fun a hE => ?_
       refine Runs.cond hE rfl (fun c => ?_) (fun c => ?_)
       ·replace hm := cond_t c hm
        refine Runs.sr ?_
        obtain ⟨t_8, et_8, hm⟩ := bind_some hm
        refine WR.eff hE rfl rfl rfl rfl (OpTo.fn hE rfl rfl Tryz.call62 (dispatch_refused_ok et_8 H)) ?_
        rintro _ w ⟨rfl, H⟩ a hE
        refine WR.eff0 hE rfl rfl rfl (OpTo.store hE H rfl rfl rfl rfl rfl rfl (Nat.le_of_ble_eq_true rfl)) ?_
        rintro _ w H a hE
        refine WR.done rfl ?_
        refine Runs.retO (vs := [.agg #[.int .i64 t_8.Why, .int .i64 t_8.Job.At, .int .i64 t_8.Job.Gen, .int .i64 t_8.Time, .int .i64 t_8.Data, .int .i64 t_8.N]]) (obs := [.cell ⟨r1, 0, none⟩ (.int .i64 t_8.Why), .cell ⟨r1, 1, none⟩ (.int .i64 t_8.Job.At), .cell ⟨r1, 2, none⟩ (.int .i64 t_8.Job.Gen), .cell ⟨r1, 3, none⟩ (.int .i64 t_8.Time), .cell ⟨r1, 4, none⟩ (.int .i64 t_8.Data), .cell ⟨r1, 5, none⟩ (.int .i64 t_8.N)]) hE Tryz.func61 rfl [.int .i64 t_8.Why, .int .i64 t_8.Job.At, .int .i64 t_8.Job.Gen, .int .i64 t_8.Time, .int .i64 t_8.Data, .int .i64 t_8.N] (by kernel_rfl) ⟨H.cell 0 rfl rfl, H.cell 0 rfl rfl, H.cell 0 rfl rfl, H.cell 0 rfl rfl, H.cell 0 rfl rfl, H.cell 0 rfl rfl, trivial⟩ ?_
        cases hm
        exact ⟨al_d.q_a, al_d.t__a, rfl, H.x1.x0⟩
       ·replace hm := cond_f c hm
        refine Runs.skip ?_
        refine Runs.sr ?_
        refine WR.d0 hE 1 [(74, .pointer (some ⟨p_d, 0, none⟩))] fun a hE => ?_
        obtain ⟨t_9, et_9, hm⟩ := bind_some hm
        refine WR.eff hE rfl rfl rfl rfl (OpTo.fn hE rfl rfl Tryz.call92 (dispatch_Dispatcher_merge_ok et_9 H.t2)) ?_
        rintro _ w ⟨rfl, H⟩ a hE
        refine WR.eff0 hE rfl rfl rfl (OpTo.store hE H.t1 rfl rfl rfl rfl rfl rfl (Nat.le_of_ble_eq_true rfl)) ?_
        rintro _ w H a hE
        refine WR.done rfl ?_
        refine Runs.retO (vs := [.agg #[.int .i64 t_9.Why, .int .i64 t_9.Job.At, .int .i64 t_9.Job.Gen, .int .i64 t_9.Time, .int .i64 t_9.Data, .int .i64 t_9.N]]) (obs := [.cell ⟨r1, 0, none⟩ (.int .i64 t_9.Why), .cell ⟨r1, 1, none⟩ (.int .i64 t_9.Job.At), .cell ⟨r1, 2, none⟩ (.int .i64 t_9.Job.Gen), .cell ⟨r1, 3, none⟩ (.int .i64 t_9.Time), .cell ⟨r1, 4, none⟩ (.int .i64 t_9.Data), .cell ⟨r1, 5, none⟩ (.int .i64 t_9.N)]) hE Tryz.func61 rfl [.int .i64 t_9.Why, .int .i64 t_9.Job.At, .int .i64 t_9.Job.Gen, .int .i64 t_9.Time, .int .i64 t_9.Data, .int .i64 t_9.N] (by kernel_rfl) ⟨H.cell 0 rfl rfl, H.cell 0 rfl rfl, H.cell 0 rfl rfl, H.cell 0 rfl rfl, H.cell 0 rfl rfl, H.cell 0 rfl rfl, trivial⟩ ?_
        cases hm
        exact ⟨al_d.q_a, al_d.t__a, rfl, H.x2.x0⟩
      ·replace hm := cond_f c hm
       refine Runs.sr ?_
       refine WR.e0 hE [(76, .bool (c_.Kind == 7))] fun a hE => ?_
       refine Runs.cond hE rfl (fun c => ?_) (fun c => ?_)
       ·replace hm := cond_t c hm
        refine Runs.seq ?_
        refine Runs.drawn mixed (by kernel_rfl) ?_
        replace H := H.drew
        replace H := dispatch_Dispatcher.open H.t2
        refine WQ.d hE [0, 1, 2, 3, 4, 5] [.pointer (some ⟨al_d.t__p, 0, none⟩), .int .i64 c_.Queue] [(81, .pointer (some ⟨al_d.t__p, 0, none⟩)), (83, .int .i64 c_.Queue)] (obs := [.cell ⟨p_d, 7, none⟩ (.pointer (some ⟨al_d.t__p, 0, none⟩)), .cell ⟨r, 1, none⟩ (.int .i64 c_.Queue)]) ⟨H.cell 0 rfl rfl, H.cell 6 rfl rfl, trivial⟩ fun a hE => ?_
        obtain ⟨t_10, et_10, hm⟩ := bind_some hm
        refine WQ.eff (j := 6) (obs := []) hE (by kernel_rfl) rfl rfl rfl rfl (by kernel_rfl) (OpTo.fn hE rfl rfl Tryz.call93 (jobs_Table_Count_ok et_10 H.t2)) ?_
        rintro _ w ⟨rfl, H⟩
        refine ⟨trivial, fun a hE => ?_⟩
        refine WQ.d0 hE [7] [(85, .agg #[.int .i64 0, .int .i64 0, .int .i64 0, .int .i64 0, .int .i64 0, .int .i64 t_10])] fun a hE => ?_
        refine WQ.eff0 (j := 8) (obs := []) hE (by kernel_rfl) rfl rfl rfl (by kernel_rfl) (OpTo.store hE H.t5 rfl rfl rfl rfl rfl rfl (Nat.le_of_ble_eq_true rfl)) ?_
        rintro _ w H
        refine ⟨trivial, fun a hE => ?_⟩
        refine WQ.done (by kernel_rfl) ?_
        refine Runs.retO (vs := [.agg #[.int .i64 0, .int .i64 0, .int .i64 0, .int .i64 0, .int .i64 0, .int .i64 t_10]]) (obs := [.cell ⟨r1, 0, none⟩ (.int .i64 0), .cell ⟨r1, 1, none⟩ (.int .i64 0), .cell ⟨r1, 2, none⟩ (.int .i64 0), .cell ⟨r1, 3, none⟩ (.int .i64 0), .cell ⟨r1, 4, none⟩ (.int .i64 0), .cell ⟨r1, 5, none⟩ (.int .i64 t_10)]) hE Tryz.func61 rfl [.int .i64 0, .int .i64 0, .int .i64 0, .int .i64 0, .int .i64 0, .int .i64 t_10] (by kernel_rfl) ⟨H.cell 0 rfl rfl, H.cell 0 rfl rfl, H.cell 0 rfl rfl, H.cell 0 rfl rfl, H.cell 0 rfl rfl, H.cell 0 rfl rfl, trivial⟩ ?_
        replace H := dispatch_Dispatcher.shut al_d (d) H.t5.t5.t3.t5.t5
        cases hm
        exact ⟨al_d.q_a, al_d.t__a, rfl, H.x2.x1⟩
       ·replace hm := cond_f c hm
        refine Runs.skip ?_
        refine Runs.inBlock ?_
        refine Runs.sr ?_
        obtain ⟨t_11, et_11, hm⟩ := bind_some hm
        refine WR.eff hE rfl rfl rfl rfl (OpTo.fn hE rfl rfl Tryz.call62 (dispatch_refused_ok et_11 H)) ?_
        rintro _ w ⟨rfl, H⟩ a hE
        refine WR.eff0 hE rfl rfl rfl (OpTo.store hE H rfl rfl rfl rfl rfl rfl (Nat.le_of_ble_eq_true rfl)) ?_
        rintro _ w H a hE
        refine WR.done rfl ?_
        refine Runs.retO (vs := [.agg #[.int .i64 t_11.Why, .int .i64 t_11.Job.At, .int .i64 t_11.Job.Gen, .int .i64 t_11.Time, .int .i64 t_11.Data, .int .i64 t_11.N]]) (obs := [.cell ⟨r1, 0, none⟩ (.int .i64 t_11.Why), .cell ⟨r1, 1, none⟩ (.int .i64 t_11.Job.At), .cell ⟨r1, 2, none⟩ (.int .i64 t_11.Job.Gen), .cell ⟨r1, 3, none⟩ (.int .i64 t_11.Time), .cell ⟨r1, 4, none⟩ (.int .i64 t_11.Data), .cell ⟨r1, 5, none⟩ (.int .i64 t_11.N)]) hE Tryz.func61 rfl [.int .i64 t_11.Why, .int .i64 t_11.Job.At, .int .i64 t_11.Job.Gen, .int .i64 t_11.Time, .int .i64 t_11.Data, .int .i64 t_11.N] (by kernel_rfl) ⟨H.cell 0 rfl rfl, H.cell 0 rfl rfl, H.cell 0 rfl rfl, H.cell 0 rfl rfl, H.cell 0 rfl rfl, H.cell 0 rfl rfl, trivial⟩ ?_
        cases hm
        exact ⟨al_d.q_a, al_d.t__a, rfl, H.x1.x0⟩

theorem dispatch_Dispatcher_Do_ok {w0 w : World} {As : List HP} {p_d : Nat} {al_d : dispatch_Dispatcher.A} {d : dispatch_Dispatcher} {c_ : api_Command} {t : api_Reply × dispatch_Dispatcher}  (hm : dispatch_Dispatcher_Do d c_ = some t) (H : St w0 (dispatch_Dispatcher.R p_d al_d d :: As) w) :
    CallsR Tryz.prog 30 #[.pointer (some ⟨p_d, 0, none⟩), .agg #[.int .i64 c_.Kind, .int .i64 c_.Queue, .int .i64 c_.Job.At, .int .i64 c_.Job.Gen, .int .i64 c_.Time, .int .i64 c_.Data]] w fun v w' => ∃ (z_d_q_a : pq_Queues.A), ∃ (z_d_t__a : jobs_Table.A), v = .agg #[.int .i64 t.1.Why, .int .i64 t.1.Job.At, .int .i64 t.1.Job.Gen, .int .i64 t.1.Time, .int .i64 t.1.Data, .int .i64 t.1.N] ∧ St w0 (dispatch_Dispatcher.R p_d (dispatch_Dispatcher.A.mk al_d.q_p z_d_q_a al_d.t__p z_d_t__a al_d.when_p al_d.clock_p) t.2 :: As) w' := by
 rw [dispatch_Dispatcher_Do] at hm
 refine enter (args := [.pointer (some ⟨p_d, 0, none⟩), .agg #[.int .i64 c_.Kind, .int .i64 c_.Queue, .int .i64 c_.Job.At, .int .i64 c_.Job.Gen, .int .i64 c_.Time, .int .i64 c_.Data]]) Tryz.func30 rfl rfl rfl fun a hE => ?_
 refine Runs.sr ?_
 refine WR.eff hE rfl rfl rfl rfl (OpTo.new hE H [] (.cells #[.int .i64 c_.Kind, .int .i64 c_.Queue, .int .i64 c_.Job.At, .int .i64 c_.Job.Gen, .int .i64 c_.Time, .int .i64 c_.Data] 33 (0, 0)) (fun r => .pointer (some ⟨r, 0, none⟩)) (obs := []) rfl (fun _ => by kernel_rfl) trivial) ?_
 rintro _ w ⟨r, rfl, H⟩ a hE
 refine WR.eff hE rfl rfl rfl rfl (OpTo.new hE H [] (.cells #[.int .i64 0, .int .i64 0, .int .i64 0, .int .i64 0, .int .i64 0, .int .i64 0] 35 (0, 0)) (fun r => .pointer (some ⟨r, 0, none⟩)) (obs := []) rfl (fun _ => by kernel_rfl) trivial) ?_
 rintro _ w ⟨r1, rfl, H⟩ a hE
 refine WR.done rfl ?_
 refine Runs.sr ?_
 replace H := dispatch_Dispatcher.open H.t2
 refine WR.seg hE 4 [.pointer (some ⟨al_d.q_p, 0, none⟩)] [0, 3, 4, 10] (Lo := [(0, .pointer (some ⟨p_d, 0, none⟩)), (3, .pointer (some ⟨r, 0, none⟩)), (4, .pointer (some ⟨r1, 0, none⟩)), (10, .pointer (some ⟨al_d.q_p, 0, none⟩))]) (obs := [.cell ⟨p_d, 2, none⟩ (.pointer (some ⟨al_d.q_p, 0, none⟩))]) rfl (by kernel_rfl) ⟨H.cell 0 rfl rfl, trivial⟩ fun a hE => ?_
 obtain ⟨t_, et_, hm⟩ := bind_some hm
 refine WR.eff hE rfl rfl rfl rfl (OpTo.fn hE rfl rfl Tryz.call60 (pq_Queues_Steps_ok et_ H.t1)) ?_
 rintro _ w ⟨rfl, H⟩ a hE
 refine WR.e0 hE [(5, .int .i64 t_)] fun a hE => ?_
 refine Runs.sr ?_
 refine WR.d hE 2 [.int .i64 c_.Kind, .int .i64 c_.Queue, .int .i64 c_.Job.At, .int .i64 c_.Job.Gen, .int .i64 c_.Time, .int .i64 c_.Data] [(12, .pointer (some ⟨p_d, 0, none⟩)), (13, .agg #[.int .i64 c_.Kind, .int .i64 c_.Queue, .int .i64 c_.Job.At, .int .i64 c_.Job.Gen, .int .i64 c_.Time, .int .i64 c_.Data])] (obs := [.cell ⟨r, 0, none⟩ (.int .i64 c_.Kind), .cell ⟨r, 1, none⟩ (.int .i64 c_.Queue), .cell ⟨r, 2, none⟩ (.int .i64 c_.Job.At), .cell ⟨r, 3, none⟩ (.int .i64 c_.Job.Gen), .cell ⟨r, 4, none⟩ (.int .i64 c_.Time), .cell ⟨r, 5, none⟩ (.int .i64 c_.Data)]) ⟨H.cell 6 rfl rfl, H.cell 6 rfl rfl, H.cell 6 rfl rfl, H.cell 6 rfl rfl, H.cell 6 rfl rfl, H.cell 6 rfl rfl, trivial⟩ fun a hE => ?_
 replace H := dispatch_Dispatcher.shut al_d (d) H.t4.t4.t4.t3.t4
 obtain ⟨t_1, et_1, hm⟩ := bind_some hm
 refine WR.eff hE rfl rfl rfl rfl (OpTo.fn hE rfl rfl Tryz.call61 (dispatch_Dispatcher_one_ok et_1 H)) ?_
 rintro _ w ⟨z, z1, rfl, H⟩ a hE
 refine WR.eff hE rfl rfl rfl rfl (OpTo.new hE H [] (.cells #[.int .i64 0, .int .i64 0, .int .i64 0, .int .i64 0, .int .i64 0, .int .i64 0] 35 (0, 0)) (fun r => .pointer (some ⟨r, 0, none⟩)) (obs := []) rfl (fun _ => by kernel_rfl) trivial) ?_
 rintro _ w ⟨r2, rfl, H⟩ a hE
 refine WR.eff0 hE rfl rfl rfl (OpTo.store hE H rfl rfl rfl rfl rfl rfl (Nat.le_of_ble_eq_true rfl)) ?_
 rintro _ w H a hE
 refine WR.done rfl ?_
 refine Runs.sr ?_
 replace H := dispatch_Dispatcher.open H.t1
 try dsimp only at H
 refine WR.d hE 5 [.pointer (some ⟨al_d.q_p, 0, none⟩)] [(15, .pointer (some ⟨p_d, 0, none⟩)), (19, .pointer (some ⟨al_d.q_p, 0, none⟩))] (obs := [.cell ⟨p_d, 2, none⟩ (.pointer (some ⟨al_d.q_p, 0, none⟩))]) ⟨H.cell 0 rfl rfl, trivial⟩ fun a hE => ?_
 obtain ⟨t_2, et_2, hm⟩ := bind_some hm
 refine WR.eff hE rfl rfl rfl rfl (OpTo.fn hE rfl rfl Tryz.call60 (pq_Queues_Steps_ok et_2 H.t1)) ?_
 rintro _ w ⟨rfl, H⟩ a hE
 refine WR.d0 hE 10 [(22, .int .i64 (w64 (t_2 - t_))), (24, .pointer (some ⟨p_d, 11, none⟩))] fun a hE => ?_
 refine WR.eff0 hE rfl rfl rfl (OpTo.store hE H.t1 rfl rfl rfl rfl rfl rfl (Nat.le_of_ble_eq_true rfl)) ?_
 rintro _ w H a hE
 refine WR.done rfl ?_
 refine Runs.seq ?_
 refine Runs.drawn mixed (by kernel_rfl) ?_
 replace H := H.drew
 refine WQ.d hE [0, 1, 2, 3, 4, 5, 6, 7, 8, 9, 10, 11] [.int .i64 t_1.2.top, .int .i64 (w64 (t_2 - t_))] [(34, .int .i64 (if w64 (t_2 - t_) > t_1.2.top then w64 (t_2 - t_) else t_1.2.top)), (36, .pointer (some ⟨p_d, 12, none⟩))] (obs := [.cell ⟨p_d, 12, none⟩ (.int .i64 t_1.2.top), .cell ⟨p_d, 11, none⟩ (.int .i64 (w64 (t_2 - t_)))]) ⟨H.cell 0 rfl rfl, H.cell 0 rfl rfl, trivial⟩ fun a hE => ?_
 refine WQ.eff0 (j := 12) (obs := []) hE (by kernel_rfl) rfl rfl rfl (by kernel_rfl) (OpTo.store hE H rfl rfl rfl rfl rfl rfl (Nat.le_of_ble_eq_true rfl)) ?_
 rintro _ w H
 refine ⟨trivial, fun a hE => ?_⟩
 refine WQ.done (by kernel_rfl) ?_
 refine Runs.seq ?_
 refine Runs.seq ?_
 refine Runs.drawn mixed (by kernel_rfl) ?_
 replace H := H.drew
 refine WQ.d hE [0, 1, 2, 3, 4, 5, 6, 7, 8] [.int .i64 (w64 (t_2 - t_)), .int .i64 t_1.2.budget] [(45, .bool (decide (w64 (t_2 - t_) > t_1.2.budget)))] (obs := [.cell ⟨p_d, 11, none⟩ (.int .i64 (w64 (t_2 - t_))), .cell ⟨p_d, 10, none⟩ (.int .i64 t_1.2.budget)]) ⟨H.cell 0 rfl rfl, H.cell 0 rfl rfl, trivial⟩ fun a hE => ?_
 refine WQ.done (by kernel_rfl) ?_
 refine Runs.cond hE rfl (fun c => ?_) (fun c => ?_)
 ·replace hm := cond_t c hm
  refine Runs.sr ?_
  obtain ⟨t_3, et_3, hm⟩ := bind_some hm
  refine WR.eff hE rfl rfl rfl rfl (OpTo.fn hE rfl rfl Tryz.call62 (dispatch_refused_ok et_3 H)) ?_
  rintro _ w ⟨rfl, H⟩ a hE
  refine WR.eff0 hE rfl rfl rfl (OpTo.store hE H.t6 rfl rfl rfl rfl rfl rfl (Nat.le_of_ble_eq_true rfl)) ?_
  rintro _ w H a hE
  refine WR.done rfl ?_
  refine Runs.retO (vs := [.agg #[.int .i64 t_3.Why, .int .i64 t_3.Job.At, .int .i64 t_3.Job.Gen, .int .i64 t_3.Time, .int .i64 t_3.Data, .int .i64 t_3.N]]) (obs := [.cell ⟨r1, 0, none⟩ (.int .i64 t_3.Why), .cell ⟨r1, 1, none⟩ (.int .i64 t_3.Job.At), .cell ⟨r1, 2, none⟩ (.int .i64 t_3.Job.Gen), .cell ⟨r1, 3, none⟩ (.int .i64 t_3.Time), .cell ⟨r1, 4, none⟩ (.int .i64 t_3.Data), .cell ⟨r1, 5, none⟩ (.int .i64 t_3.N)]) hE Tryz.func30 rfl [.int .i64 t_3.Why, .int .i64 t_3.Job.At, .int .i64 t_3.Job.Gen, .int .i64 t_3.Time, .int .i64 t_3.Data, .int .i64 t_3.N] (by kernel_rfl) ⟨H.cell 0 rfl rfl, H.cell 0 rfl rfl, H.cell 0 rfl rfl, H.cell 0 rfl rfl, H.cell 0 rfl rfl, H.cell 0 rfl rfl, trivial⟩ ?_
  replace H := dispatch_Dispatcher.shut (dispatch_Dispatcher.A.mk al_d.q_p z al_d.t__p z1 al_d.when_p al_d.clock_p) (dispatch_Dispatcher.mk t_1.2.kind t_1.2.most t_1.2.q t_1.2.heaps0 t_1.2.heaps1 t_1.2.t_ t_1.2.when t_1.2.clock t_1.2.budget (w64 (t_2 - t_)) (if w64 (t_2 - t_) > t_1.2.top then w64 (t_2 - t_) else t_1.2.top)) H.t5.t5.t5.t5.t5
  cases hm
  exact ⟨z, z1, rfl, H.x3.x2.x1⟩
 ·replace hm := cond_f c hm
  refine Runs.skip ?_
  refine Runs.sr ?_
  refine WR.d hE 1 [.int .i64 t_1.1.Why, .int .i64 t_1.1.Job.At, .int .i64 t_1.1.Job.Gen, .int .i64 t_1.1.Time, .int .i64 t_1.1.Data, .int .i64 t_1.1.N] [(47, .agg #[.int .i64 t_1.1.Why, .int .i64 t_1.1.Job.At, .int .i64 t_1.1.Job.Gen, .int .i64 t_1.1.Time, .int .i64 t_1.1.Data, .int .i64 t_1.1.N])] (obs := [.cell ⟨r2, 0, none⟩ (.int .i64 t_1.1.Why), .cell ⟨r2, 1, none⟩ (.int .i64 t_1.1.Job.At), .cell ⟨r2, 2, none⟩ (.int .i64 t_1.1.Job.Gen), .cell ⟨r2, 3, none⟩ (.int .i64 t_1.1.Time), .cell ⟨r2, 4, none⟩ (.int .i64 t_1.1.Data), .cell ⟨r2, 5, none⟩ (.int .i64 t_1.1.N)]) ⟨H.cell 5 rfl rfl, H.cell 5 rfl rfl, H.cell 5 rfl rfl, H.cell 5 rfl rfl, H.cell 5 rfl rfl, H.cell 5 rfl rfl, trivial⟩ fun a hE => ?_
  refine WR.eff0 hE rfl rfl rfl (OpTo.store hE H.t6 rfl rfl rfl rfl rfl rfl (Nat.le_of_ble_eq_true rfl)) ?_
  rintro _ w H a hE
  refine WR.done rfl ?_
  refine Runs.retO (vs := [.agg #[.int .i64 t_1.1.Why, .int .i64 t_1.1.Job.At, .int .i64 t_1.1.Job.Gen, .int .i64 t_1.1.Time, .int .i64 t_1.1.Data, .int .i64 t_1.1.N]]) (obs := [.cell ⟨r1, 0, none⟩ (.int .i64 t_1.1.Why), .cell ⟨r1, 1, none⟩ (.int .i64 t_1.1.Job.At), .cell ⟨r1, 2, none⟩ (.int .i64 t_1.1.Job.Gen), .cell ⟨r1, 3, none⟩ (.int .i64 t_1.1.Time), .cell ⟨r1, 4, none⟩ (.int .i64 t_1.1.Data), .cell ⟨r1, 5, none⟩ (.int .i64 t_1.1.N)]) hE Tryz.func30 rfl [.int .i64 t_1.1.Why, .int .i64 t_1.1.Job.At, .int .i64 t_1.1.Job.Gen, .int .i64 t_1.1.Time, .int .i64 t_1.1.Data, .int .i64 t_1.1.N] (by kernel_rfl) ⟨H.cell 0 rfl rfl, H.cell 0 rfl rfl, H.cell 0 rfl rfl, H.cell 0 rfl rfl, H.cell 0 rfl rfl, H.cell 0 rfl rfl, trivial⟩ ?_
  replace H := dispatch_Dispatcher.shut (dispatch_Dispatcher.A.mk al_d.q_p z al_d.t__p z1 al_d.when_p al_d.clock_p) (dispatch_Dispatcher.mk t_1.2.kind t_1.2.most t_1.2.q t_1.2.heaps0 t_1.2.heaps1 t_1.2.t_ t_1.2.when t_1.2.clock t_1.2.budget (w64 (t_2 - t_)) (if w64 (t_2 - t_) > t_1.2.top then w64 (t_2 - t_) else t_1.2.top)) H.t5.t5.t5.t5.t5
  cases hm
  exact ⟨z, z1, rfl, H.x3.x2.x1⟩

theorem server_Server_Serve_ok {w0 w : World} {As : List HP} {k : Nat} {p_s : Nat} {al_s : server_Server.A} {s : server_Server} {t : api_Reply × api_Command × Bool × server_Server}  (hm : server_Server_Serve k s = some t) (H : St w0 (server_Server.R p_s al_s s :: As) w) :
    CallsR Tryz.prog 12 #[.pointer (some ⟨p_s, 0, none⟩)] w fun v w' => ∃ (z_s_d_a : dispatch_Dispatcher.A), v = .tuple #[.agg #[.int .i64 t.1.Why, .int .i64 t.1.Job.At, .int .i64 t.1.Job.Gen, .int .i64 t.1.Time, .int .i64 t.1.Data, .int .i64 t.1.N], .agg #[.int .i64 t.2.1.Kind, .int .i64 t.2.1.Queue, .int .i64 t.2.1.Job.At, .int .i64 t.2.1.Job.Gen, .int .i64 t.2.1.Time, .int .i64 t.2.1.Data], .bool t.2.2.1] ∧ St w0 (server_Server.R p_s (server_Server.A.mk al_s.d_p z_s_d_a al_s.desk_p al_s.desk_a) t.2.2.2 :: As) w' := by
 rw [server_Server_Serve] at hm
 refine enter (args := [.pointer (some ⟨p_s, 0, none⟩)]) Tryz.func12 rfl rfl rfl fun a hE => ?_
 refine Runs.sr ?_
 refine WR.eff hE rfl rfl rfl rfl (OpTo.new hE H [] (.cells #[.int .i64 0, .int .i64 0, .int .i64 0, .int .i64 0, .int .i64 0, .int .i64 0] 35 (0, 0)) (fun r => .pointer (some ⟨r, 0, none⟩)) (obs := []) rfl (fun _ => by kernel_rfl) trivial) ?_
 rintro _ w ⟨r, rfl, H⟩ a hE
 refine WR.eff hE rfl rfl rfl rfl (OpTo.new hE H [] (.cells #[.int .i64 0, .int .i64 0, .int .i64 0, .int .i64 0, .int .i64 0, .int .i64 0] 33 (0, 0)) (fun r => .pointer (some ⟨r, 0, none⟩)) (obs := []) rfl (fun _ => by kernel_rfl) trivial) ?_
 rintro _ w ⟨r1, rfl, H⟩ a hE
 refine WR.seg hE 3 [] [0, 2, 3] (Lo := [(0, .pointer (some ⟨p_s, 0, none⟩)), (2, .pointer (some ⟨r, 0, none⟩)), (3, .pointer (some ⟨r1, 0, none⟩))]) (obs := []) rfl (by kernel_rfl) trivial fun a hE => ?_
 refine WR.done rfl ?_
 refine Runs.sr ?_
 replace H := server_Server.open H.t2
 refine WR.d hE 4 [.pointer (some ⟨al_s.desk_p, 0, none⟩)] [(12, .pointer (some ⟨al_s.desk_p, 0, none⟩))] (obs := [.cell ⟨p_s, 1, none⟩ (.pointer (some ⟨al_s.desk_p, 0, none⟩))]) ⟨H.cell 0 rfl rfl, trivial⟩ fun a hE => ?_
 obtain ⟨t_, et_, hm⟩ := bind_some hm
 refine WR.eff hE rfl rfl rfl rfl (OpTo.fn hE rfl rfl Tryz.call29 (mail_Desk_api_Command_Next_ok et_ H.t2)) ?_
 rintro _ w ⟨rfl, H⟩ a hE
 refine WR.d0 hE 9 [(14, .agg #[.int .i64 t_.1.Kind, .int .i64 t_.1.Queue, .int .i64 t_.1.Job.At, .int .i64 t_.1.Job.Gen, .int .i64 t_.1.Time, .int .i64 t_.1.Data]), (15, .int .i64 t_.2.1), (16, .bool t_.2.2.1)] fun a hE => ?_
 refine WR.eff hE rfl rfl rfl rfl (OpTo.new hE H [] (.cells #[.int .i64 0, .int .i64 0, .int .i64 0, .int .i64 0, .int .i64 0, .int .i64 0] 33 (0, 0)) (fun r => .pointer (some ⟨r, 0, none⟩)) (obs := []) rfl (fun _ => by kernel_rfl) trivial) ?_
 rintro _ w ⟨r2, rfl, H⟩ a hE
 refine WR.eff0 hE rfl rfl rfl (OpTo.store hE H rfl rfl rfl rfl rfl rfl (Nat.le_of_ble_eq_true rfl)) ?_
 rintro _ w H a hE
 refine WR.e0 hE [(7, .bool t_.2.2.1)] fun a hE => ?_
 refine Runs.seq ?_
 refine Runs.sr ?_
 refine WR.e0 hE [(18, .bool (!t_.2.2.1))] fun a hE => ?_
 refine Runs.cond hE rfl (fun c => ?_) (fun c => ?_)
 ·replace hm := cond_t c hm
  refine Runs.sr ?_
  refine WR.d0 hE 2 [(19, .agg #[.int .i64 0, .int .i64 0, .int .i64 0, .int .i64 0, .int .i64 0, .int .i64 0]), (20, .agg #[.int .i64 0, .int .i64 0, .int .i64 0, .int .i64 0, .int .i64 0, .int .i64 0])] fun a hE => ?_
  refine WR.eff0 hE rfl rfl rfl (OpTo.store hE H.t5 rfl rfl rfl rfl rfl rfl (Nat.le_of_ble_eq_true rfl)) ?_
  rintro _ w H a hE
  refine WR.eff0 hE rfl rfl rfl (OpTo.store hE H.t5 rfl rfl rfl rfl rfl rfl (Nat.le_of_ble_eq_true rfl)) ?_
  rintro _ w H a hE
  refine WR.e0 hE [(4, .bool false)] fun a hE => ?_
  refine Runs.retO (vs := [.agg #[.int .i64 0, .int .i64 0, .int .i64 0, .int .i64 0, .int .i64 0, .int .i64 0], .agg #[.int .i64 0, .int .i64 0, .int .i64 0, .int .i64 0, .int .i64 0, .int .i64 0], .bool false]) (obs := [.cell ⟨r, 0, none⟩ (.int .i64 0), .cell ⟨r, 1, none⟩ (.int .i64 0), .cell ⟨r, 2, none⟩ (.int .i64 0), .cell ⟨r, 3, none⟩ (.int .i64 0), .cell ⟨r, 4, none⟩ (.int .i64 0), .cell ⟨r, 5, none⟩ (.int .i64 0), .cell ⟨r1, 0, none⟩ (.int .i64 0), .cell ⟨r1, 1, none⟩ (.int .i64 0), .cell ⟨r1, 2, none⟩ (.int .i64 0), .cell ⟨r1, 3, none⟩ (.int .i64 0), .cell ⟨r1, 4, none⟩ (.int .i64 0), .cell ⟨r1, 5, none⟩ (.int .i64 0)]) hE Tryz.func12 rfl [.int .i64 0, .int .i64 0, .int .i64 0, .int .i64 0, .int .i64 0, .int .i64 0, .int .i64 0, .int .i64 0, .int .i64 0, .int .i64 0, .int .i64 0, .int .i64 0] (by kernel_rfl) ⟨H.cell 1 rfl rfl, H.cell 1 rfl rfl, H.cell 1 rfl rfl, H.cell 1 rfl rfl, H.cell 1 rfl rfl, H.cell 1 rfl rfl, H.cell 0 rfl rfl, H.cell 0 rfl rfl, H.cell 0 rfl rfl, H.cell 0 rfl rfl, H.cell 0 rfl rfl, H.cell 0 rfl rfl, trivial⟩ ?_
  replace H := server_Server.shut al_s (server_Server.mk s.d t_.2.2.2) H.t3.t5.t5
  cases hm
  exact ⟨al_s.d_a, rfl, H.x3.x2.x1⟩
 ·replace hm := cond_f c hm
  refine Runs.skip ?_
  refine Runs.seq ?_
  refine Runs.drawn mixed (by kernel_rfl) ?_
  replace H := H.drew
  refine WQ.d hE [0, 1, 2, 3, 4, 6] [.pointer (some ⟨al_s.d_p, 0, none⟩), .int .i64 t_.1.Kind, .int .i64 t_.1.Queue, .int .i64 t_.1.Job.At, .int .i64 t_.1.Job.Gen, .int .i64 t_.1.Time, .int .i64 t_.1.Data, .int .i64 t_.1.Kind, .int .i64 t_.1.Queue, .int .i64 t_.1.Job.At, .int .i64 t_.1.Job.Gen, .int .i64 t_.1.Time, .int .i64 t_.1.Data] [(24, .pointer (some ⟨al_s.d_p, 0, none⟩)), (25, .agg #[.int .i64 t_.1.Kind, .int .i64 t_.1.Queue, .int .i64 t_.1.Job.At, .int .i64 t_.1.Job.Gen, .int .i64 t_.1.Time, .int .i64 t_.1.Data]), (27, .agg #[.int .i64 t_.1.Kind, .int .i64 t_.1.Queue, .int .i64 t_.1.Job.At, .int .i64 t_.1.Job.Gen, .int .i64 t_.1.Time, .int .i64 t_.1.Data])] (obs := [.cell ⟨p_s, 0, none⟩ (.pointer (some ⟨al_s.d_p, 0, none⟩)), .cell ⟨r2, 0, none⟩ (.int .i64 t_.1.Kind), .cell ⟨r2, 1, none⟩ (.int .i64 t_.1.Queue), .cell ⟨r2, 2, none⟩ (.int .i64 t_.1.Job.At), .cell ⟨r2, 3, none⟩ (.int .i64 t_.1.Job.Gen), .cell ⟨r2, 4, none⟩ (.int .i64 t_.1.Time), .cell ⟨r2, 5, none⟩ (.int .i64 t_.1.Data), .cell ⟨r2, 0, none⟩ (.int .i64 t_.1.Kind), .cell ⟨r2, 1, none⟩ (.int .i64 t_.1.Queue), .cell ⟨r2, 2, none⟩ (.int .i64 t_.1.Job.At), .cell ⟨r2, 3, none⟩ (.int .i64 t_.1.Job.Gen), .cell ⟨r2, 4, none⟩ (.int .i64 t_.1.Time), .cell ⟨r2, 5, none⟩ (.int .i64 t_.1.Data)]) ⟨H.cell 2 rfl rfl, H.cell 0 rfl rfl, H.cell 0 rfl rfl, H.cell 0 rfl rfl, H.cell 0 rfl rfl, H.cell 0 rfl rfl, H.cell 0 rfl rfl, H.cell 0 rfl rfl, H.cell 0 rfl rfl, H.cell 0 rfl rfl, H.cell 0 rfl rfl, H.cell 0 rfl rfl, H.cell 0 rfl rfl, trivial⟩ fun a hE => ?_
  obtain ⟨t_1, et_1, hm⟩ := bind_some hm
  refine WQ.eff (j := 5) (obs := [.cell ⟨r2, 0, none⟩ (.int .i64 t_.1.Kind), .cell ⟨r2, 1, none⟩ (.int .i64 t_.1.Queue), .cell ⟨r2, 2, none⟩ (.int .i64 t_.1.Job.At), .cell ⟨r2, 3, none⟩ (.int .i64 t_.1.Job.Gen), .cell ⟨r2, 4, none⟩ (.int .i64 t_.1.Time), .cell ⟨r2, 5, none⟩ (.int .i64 t_.1.Data)]) hE (by kernel_rfl) rfl rfl rfl rfl (by kernel_rfl) (OpTo.fn hE rfl rfl Tryz.call30 (dispatch_Dispatcher_Do_ok et_1 H.t3)) ?_
  rintro _ w ⟨z, z1, rfl, H⟩
  refine ⟨⟨H.cell 1 rfl rfl, H.cell 1 rfl rfl, H.cell 1 rfl rfl, H.cell 1 rfl rfl, H.cell 1 rfl rfl, H.cell 1 rfl rfl, trivial⟩, fun a hE => ?_⟩
  refine WQ.eff0 (j := 7) (obs := [.cell ⟨r2, 0, none⟩ (.int .i64 t_.1.Kind), .cell ⟨r2, 1, none⟩ (.int .i64 t_.1.Queue), .cell ⟨r2, 2, none⟩ (.int .i64 t_.1.Job.At), .cell ⟨r2, 3, none⟩ (.int .i64 t_.1.Job.Gen), .cell ⟨r2, 4, none⟩ (.int .i64 t_.1.Time), .cell ⟨r2, 5, none⟩ (.int .i64 t_.1.Data)]) hE (by kernel_rfl) rfl rfl rfl (by kernel_rfl) (OpTo.store hE H.t5 rfl rfl rfl rfl rfl rfl (Nat.le_of_ble_eq_true rfl)) ?_
  rintro _ w H
  refine ⟨⟨H.cell 2 rfl rfl, H.cell 2 rfl rfl, H.cell 2 rfl rfl, H.cell 2 rfl rfl, H.cell 2 rfl rfl, H.cell 2 rfl rfl, trivial⟩, fun a hE => ?_⟩
  refine WQ.eff0 (j := 8) (obs := []) hE (by kernel_rfl) rfl rfl rfl (by kernel_rfl) (OpTo.store hE H.t5 rfl rfl rfl rfl rfl rfl (Nat.le_of_ble_eq_true rfl)) ?_
  rintro _ w H
  refine ⟨trivial, fun a hE => ?_⟩
  refine WQ.d0 hE [9] [(4, .bool true)] fun a hE => ?_
  refine WQ.done (by kernel_rfl) ?_
  refine Runs.retO (vs := [.agg #[.int .i64 t_1.1.Why, .int .i64 t_1.1.Job.At, .int .i64 t_1.1.Job.Gen, .int .i64 t_1.1.Time, .int .i64 t_1.1.Data, .int .i64 t_1.1.N], .agg #[.int .i64 t_.1.Kind, .int .i64 t_.1.Queue, .int .i64 t_.1.Job.At, .int .i64 t_.1.Job.Gen, .int .i64 t_.1.Time, .int .i64 t_.1.Data], .bool true]) (obs := [.cell ⟨r, 0, none⟩ (.int .i64 t_1.1.Why), .cell ⟨r, 1, none⟩ (.int .i64 t_1.1.Job.At), .cell ⟨r, 2, none⟩ (.int .i64 t_1.1.Job.Gen), .cell ⟨r, 3, none⟩ (.int .i64 t_1.1.Time), .cell ⟨r, 4, none⟩ (.int .i64 t_1.1.Data), .cell ⟨r, 5, none⟩ (.int .i64 t_1.1.N), .cell ⟨r1, 0, none⟩ (.int .i64 t_.1.Kind), .cell ⟨r1, 1, none⟩ (.int .i64 t_.1.Queue), .cell ⟨r1, 2, none⟩ (.int .i64 t_.1.Job.At), .cell ⟨r1, 3, none⟩ (.int .i64 t_.1.Job.Gen), .cell ⟨r1, 4, none⟩ (.int .i64 t_.1.Time), .cell ⟨r1, 5, none⟩ (.int .i64 t_.1.Data)]) hE Tryz.func12 rfl [.int .i64 t_1.1.Why, .int .i64 t_1.1.Job.At, .int .i64 t_1.1.Job.Gen, .int .i64 t_1.1.Time, .int .i64 t_1.1.Data, .int .i64 t_1.1.N, .int .i64 t_.1.Kind, .int .i64 t_.1.Queue, .int .i64 t_.1.Job.At, .int .i64 t_.1.Job.Gen, .int .i64 t_.1.Time, .int .i64 t_.1.Data] (by kernel_rfl) ⟨H.cell 1 rfl rfl, H.cell 1 rfl rfl, H.cell 1 rfl rfl, H.cell 1 rfl rfl, H.cell 1 rfl rfl, H.cell 1 rfl rfl, H.cell 0 rfl rfl, H.cell 0 rfl rfl, H.cell 0 rfl rfl, H.cell 0 rfl rfl, H.cell 0 rfl rfl, H.cell 0 rfl rfl, trivial⟩ ?_
  replace H := server_Server.shut (server_Server.A.mk al_s.d_p (dispatch_Dispatcher.A.mk al_s.d_a.q_p z al_s.d_a.t__p z1 al_s.d_a.when_p al_s.d_a.clock_p) al_s.desk_p al_s.desk_a) (server_Server.mk t_1.2 t_.2.2.2) H.t4.t3.t5
  cases hm
  exact ⟨dispatch_Dispatcher.A.mk al_s.d_a.q_p z al_s.d_a.t__p z1 al_s.d_a.when_p al_s.d_a.clock_p, rfl, H.x3.x2.x1⟩

theorem server_Server_Dispatcher_ok {w0 w : World} {As : List HP} {p_s : Nat} {al_s : server_Server.A} {s : server_Server} {t : Unit}  (hm : server_Server_Dispatcher s = some t) (H : St w0 (server_Server.R p_s al_s s :: As) w) :
    CallsR Tryz.prog 32 #[.pointer (some ⟨p_s, 0, none⟩)] w fun v w' => v = .pointer (some ⟨al_s.d_p, 0, none⟩) ∧ St w0 (server_Server.R p_s al_s s :: As) w' := by
 rw [server_Server_Dispatcher] at hm
 refine enter (args := [.pointer (some ⟨p_s, 0, none⟩)]) Tryz.func32 rfl rfl rfl fun a hE => ?_
 refine Runs.sr ?_
 refine WR.seg hE 1 [] [0] (Lo := [(0, .pointer (some ⟨p_s, 0, none⟩))]) (obs := []) rfl (by kernel_rfl) trivial fun a hE => ?_
 refine WR.done rfl ?_
 refine Runs.sr ?_
 replace H := server_Server.open H
 refine WR.e hE [.pointer (some ⟨al_s.d_p, 0, none⟩)] [(2, .pointer (some ⟨al_s.d_p, 0, none⟩))] (obs := [.cell ⟨p_s, 0, none⟩ (.pointer (some ⟨al_s.d_p, 0, none⟩))]) ⟨H.cell 0 rfl rfl, trivial⟩ fun a hE => ?_
 replace H := server_Server.shut al_s (s) H.t2.t2.t2
 refine Runs.ret hE Tryz.func32 rfl rfl ?_
 cases hm
 exact ⟨rfl, H⟩

theorem dispatch_Dispatcher_Now_ok {w0 w : World} {As : List HP} {p_d : Nat} {al_d : dispatch_Dispatcher.A} {d : dispatch_Dispatcher} {t : Int}  (hm : dispatch_Dispatcher_Now d = some t) (H : St w0 (dispatch_Dispatcher.R p_d al_d d :: As) w) :
    CallsR Tryz.prog 136 #[.pointer (some ⟨p_d, 0, none⟩)] w fun v w' => v = .int .i64 t ∧ St w0 (dispatch_Dispatcher.R p_d al_d d :: As) w' := by
 rw [dispatch_Dispatcher_Now] at hm
 refine enter (args := [.pointer (some ⟨p_d, 0, none⟩)]) Tryz.func136 rfl rfl rfl fun a hE => ?_
 refine Runs.sr ?_
 refine WR.seg hE 1 [] [0] (Lo := [(0, .pointer (some ⟨p_d, 0, none⟩))]) (obs := []) rfl (by kernel_rfl) trivial fun a hE => ?_
 refine WR.done rfl ?_
 refine Runs.sr ?_
 replace H := dispatch_Dispatcher.open H
 refine WR.d hE 4 [.pointer (some ⟨al_d.clock_p, 0, none⟩)] [(6, .pointer (some ⟨al_d.clock_p, 0, none⟩))] (obs := [.cell ⟨p_d, 9, none⟩ (.pointer (some ⟨al_d.clock_p, 0, none⟩))]) ⟨H.cell 0 rfl rfl, trivial⟩ fun a hE => ?_
 obtain ⟨t_, et_, hm⟩ := bind_some hm
 refine WR.eff hE rfl rfl rfl rfl (OpTo.fn hE rfl rfl Tryz.call90 (clock_Clock_Now_ok et_ H.t4)) ?_
 rintro _ w ⟨rfl, H⟩ a hE
 refine WR.e0 hE [(2, .int .i64 t_)] fun a hE => ?_
 replace H := dispatch_Dispatcher.shut al_d (d) H.t4.t4.t4.t4
 refine Runs.ret hE Tryz.func136 rfl rfl ?_
 cases hm
 exact ⟨rfl, H⟩

theorem dispatch_Dispatcher_Last_ok {w0 w : World} {As : List HP} {p_d : Nat} {al_d : dispatch_Dispatcher.A} {d : dispatch_Dispatcher} {t : Int}  (hm : dispatch_Dispatcher_Last d = some t) (H : St w0 (dispatch_Dispatcher.R p_d al_d d :: As) w) :
    CallsR Tryz.prog 137 #[.pointer (some ⟨p_d, 0, none⟩)] w fun v w' => v = .int .i64 t ∧ St w0 (dispatch_Dispatcher.R p_d al_d d :: As) w' := by
 rw [dispatch_Dispatcher_Last] at hm
 refine enter (args := [.pointer (some ⟨p_d, 0, none⟩)]) Tryz.func137 rfl rfl rfl fun a hE => ?_
 refine Runs.sr ?_
 refine WR.seg hE 1 [] [0] (Lo := [(0, .pointer (some ⟨p_d, 0, none⟩))]) (obs := []) rfl (by kernel_rfl) trivial fun a hE => ?_
 refine WR.done rfl ?_
 refine Runs.sr ?_
 replace H := dispatch_Dispatcher.open H
 refine WR.e hE [.int .i64 d.last] [(2, .int .i64 d.last)] (obs := [.cell ⟨p_d, 11, none⟩ (.int .i64 d.last)]) ⟨H.cell 0 rfl rfl, trivial⟩ fun a hE => ?_
 replace H := dispatch_Dispatcher.shut al_d (d) H.t4.t4.t4.t4.t4
 refine Runs.ret hE Tryz.func137 rfl rfl ?_
 cases hm
 exact ⟨rfl, H⟩

theorem trace_Book_note_ok {w0 w : World} {As : List HP} {p_b : Nat} {al_b : trace_Book.A} {b : trace_Book} {c_ : api_Command} {r : api_Reply} {t : api_Reply × trace_Book}  (hm : trace_Book_note b c_ r = some t) (H : St w0 (trace_Book.R p_b al_b b :: As) w) :
    CallsR Tryz.prog 95 #[.pointer (some ⟨p_b, 0, none⟩), .agg #[.int .i64 c_.Kind, .int .i64 c_.Queue, .int .i64 c_.Job.At, .int .i64 c_.Job.Gen, .int .i64 c_.Time, .int .i64 c_.Data], .agg #[.int .i64 r.Why, .int .i64 r.Job.At, .int .i64 r.Job.Gen, .int .i64 r.Time, .int .i64 r.Data, .int .i64 r.N]] w fun v w' => ∃ (z_b_l_b : Option Addr), ∃ (z_b_l_c : Nat), v = .agg #[.int .i64 t.1.Why, .int .i64 t.1.Job.At, .int .i64 t.1.Job.Gen, .int .i64 t.1.Time, .int .i64 t.1.Data, .int .i64 t.1.N] ∧ St w0 (trace_Book.R p_b (trace_Book.A.mk al_b.s_p al_b.s_a z_b_l_b z_b_l_c) t.2 :: As) w' := by
 rw [trace_Book_note] at hm
 refine enter (args := [.pointer (some ⟨p_b, 0, none⟩), .agg #[.int .i64 c_.Kind, .int .i64 c_.Queue, .int .i64 c_.Job.At, .int .i64 c_.Job.Gen, .int .i64 c_.Time, .int .i64 c_.Data], .agg #[.int .i64 r.Why, .int .i64 r.Job.At, .int .i64 r.Job.Gen, .int .i64 r.Time, .int .i64 r.Data, .int .i64 r.N]]) Tryz.func95 rfl rfl rfl fun a hE => ?_
 refine Runs.sr ?_
 refine WR.eff hE rfl rfl rfl rfl (OpTo.new hE H [] (.cells #[.int .i64 c_.Kind, .int .i64 c_.Queue, .int .i64 c_.Job.At, .int .i64 c_.Job.Gen, .int .i64 c_.Time, .int .i64 c_.Data] 33 (0, 0)) (fun r => .pointer (some ⟨r, 0, none⟩)) (obs := []) rfl (fun _ => by kernel_rfl) trivial) ?_
 rintro _ w ⟨r1, rfl, H⟩ a hE
 refine WR.eff hE rfl rfl rfl rfl (OpTo.new hE H [] (.cells #[.int .i64 r.Why, .int .i64 r.Job.At, .int .i64 r.Job.Gen, .int .i64 r.Time, .int .i64 r.Data, .int .i64 r.N] 35 (0, 0)) (fun r => .pointer (some ⟨r, 0, none⟩)) (obs := []) rfl (fun _ => by kernel_rfl) trivial) ?_
 rintro _ w ⟨r2, rfl, H⟩ a hE
 refine WR.eff hE rfl rfl rfl rfl (OpTo.new hE H [] (.cells #[.int .i64 0, .int .i64 0, .int .i64 0, .int .i64 0, .int .i64 0, .int .i64 0] 35 (0, 0)) (fun r => .pointer (some ⟨r, 0, none⟩)) (obs := []) rfl (fun _ => by kernel_rfl) trivial) ?_
 rintro _ w ⟨r3, rfl, H⟩ a hE
 refine WR.done rfl ?_
 refine Runs.sr ?_
 replace H := trace_Book.open H.t3
 refine WR.seg hE 4 [.pointer (some ⟨al_b.s_p, 0, none⟩)] [0, 4, 5, 6, 11] (Lo := [(0, .pointer (some ⟨p_b, 0, none⟩)), (4, .pointer (some ⟨r1, 0, none⟩)), (5, .pointer (some ⟨r2, 0, none⟩)), (6, .pointer (some ⟨r3, 0, none⟩)), (11, .pointer (some ⟨al_b.s_p, 0, none⟩))]) (obs := [.cell ⟨p_b, 0, none⟩ (.pointer (some ⟨al_b.s_p, 0, none⟩))]) rfl (by kernel_rfl) ⟨H.cell 0 rfl rfl, trivial⟩ fun a hE => ?_
 obtain ⟨t_, et_, hm⟩ := bind_some hm
 refine WR.eff hE rfl rfl rfl rfl (OpTo.fn hE rfl rfl Tryz.call32 (server_Server_Dispatcher_ok et_ H.t1)) ?_
 rintro _ w ⟨rfl, H⟩ a hE
 refine WR.e0 hE [(7, .pointer (some ⟨al_b.s_a.d_p, 0, none⟩))] fun a hE => ?_
 refine Runs.seq ?_
 refine Runs.drawn mixed (by kernel_rfl) ?_
 replace H := H.drew
 refine WQ.d hE [0, 1, 2, 3, 4, 5, 6, 7, 9] [.slice al_b.l_b b.l.length al_b.l_c, .int .i64 c_.Kind, .int .i64 c_.Queue, .int .i64 c_.Job.At, .int .i64 c_.Job.Gen, .int .i64 c_.Time, .int .i64 c_.Data, .int .i64 r.Why, .int .i64 r.Job.At, .int .i64 r.Job.Gen, .int .i64 r.Time, .int .i64 r.Data, .int .i64 r.N] [(13, .pointer (some ⟨p_b, 0, none⟩)), (17, .slice al_b.l_b b.l.length al_b.l_c), (18, .agg #[.int .i64 c_.Kind, .int .i64 c_.Queue, .int .i64 c_.Job.At, .int .i64 c_.Job.Gen, .int .i64 c_.Time, .int .i64 c_.Data]), (19, .agg #[.int .i64 r.Why, .int .i64 r.Job.At, .int .i64 r.Job.Gen, .int .i64 r.Time, .int .i64 r.Data, .int .i64 r.N]), (20, .pointer (some ⟨al_b.s_a.d_p, 0, none⟩)), (22, .pointer (some ⟨al_b.s_a.d_p, 0, none⟩))] (obs := [.cell ⟨p_b, 1, none⟩ (.slice al_b.l_b b.l.length al_b.l_c), .cell ⟨r1, 0, none⟩ (.int .i64 c_.Kind), .cell ⟨r1, 1, none⟩ (.int .i64 c_.Queue), .cell ⟨r1, 2, none⟩ (.int .i64 c_.Job.At), .cell ⟨r1, 3, none⟩ (.int .i64 c_.Job.Gen), .cell ⟨r1, 4, none⟩ (.int .i64 c_.Time), .cell ⟨r1, 5, none⟩ (.int .i64 c_.Data), .cell ⟨r2, 0, none⟩ (.int .i64 r.Why), .cell ⟨r2, 1, none⟩ (.int .i64 r.Job.At), .cell ⟨r2, 2, none⟩ (.int .i64 r.Job.Gen), .cell ⟨r2, 3, none⟩ (.int .i64 r.Time), .cell ⟨r2, 4, none⟩ (.int .i64 r.Data), .cell ⟨r2, 5, none⟩ (.int .i64 r.N)]) ⟨H.cell 1 rfl rfl, H.cell 5 rfl rfl, H.cell 5 rfl rfl, H.cell 5 rfl rfl, H.cell 5 rfl rfl, H.cell 5 rfl rfl, H.cell 5 rfl rfl, H.cell 4 rfl rfl, H.cell 4 rfl rfl, H.cell 4 rfl rfl, H.cell 4 rfl rfl, H.cell 4 rfl rfl, H.cell 4 rfl rfl, trivial⟩ fun a hE => ?_
 replace H := server_Server.open H
 obtain ⟨t_1, et_1, hm⟩ := bind_some hm
 refine WQ.eff (j := 8) (obs := [.cell ⟨r2, 0, none⟩ (.int .i64 r.Why), .cell ⟨r2, 1, none⟩ (.int .i64 r.Job.At), .cell ⟨r2, 2, none⟩ (.int .i64 r.Job.Gen), .cell ⟨r2, 3, none⟩ (.int .i64 r.Time), .cell ⟨r2, 4, none⟩ (.int .i64 r.Data), .cell ⟨r2, 5, none⟩ (.int .i64 r.N), .cell ⟨r1, 0, none⟩ (.int .i64 c_.Kind), .cell ⟨r1, 1, none⟩ (.int .i64 c_.Queue), .cell ⟨r1, 2, none⟩ (.int .i64 c_.Job.At), .cell ⟨r1, 3, none⟩ (.int .i64 c_.Job.Gen), .cell ⟨r1, 4, none⟩ (.int .i64 c_.Time), .cell ⟨r1, 5, none⟩ (.int .i64 c_.Data), .cell ⟨p_b, 1, none⟩ (.slice al_b.l_b b.l.length al_b.l_c)]) hE (by kernel_rfl) rfl rfl rfl rfl (by kernel_rfl) (OpTo.fn hE rfl rfl Tryz.call136 (dispatch_Dispatcher_Now_ok et_1 H.t1)) ?_
 rintro _ w ⟨rfl, H⟩
 refine ⟨⟨H.cell 6 rfl rfl, H.cell 6 rfl rfl, H.cell 6 rfl rfl, H.cell 6 rfl rfl, H.cell 6 rfl rfl, H.cell 6 rfl rfl, H.cell 7 rfl rfl, H.cell 7 rfl rfl, H.cell 7 rfl rfl, H.cell 7 rfl rfl, H.cell 7 rfl rfl, H.cell 7 rfl rfl, H.cell 3 rfl rfl, trivial⟩, fun a hE => ?_⟩
 obtain ⟨t_2, et_2, hm⟩ := bind_some hm
 refine WQ.eff (j := 10) (obs := [.cell ⟨r2, 0, none⟩ (.int .i64 r.Why), .cell ⟨r2, 1, none⟩ (.int .i64 r.Job.At), .cell ⟨r2, 2, none⟩ (.int .i64 r.Job.Gen), .cell ⟨r2, 3, none⟩ (.int .i64 r.Time), .cell ⟨r2, 4, none⟩ (.int .i64 r.Data), .cell ⟨r2, 5, none⟩ (.int .i64 r.N), .cell ⟨r1, 0, none⟩ (.int .i64 c_.Kind), .cell ⟨r1, 1, none⟩ (.int .i64 c_.Queue), .cell ⟨r1, 2, none⟩ (.int .i64 c_.Job.At), .cell ⟨r1, 3, none⟩ (.int .i64 c_.Job.Gen), .cell ⟨r1, 4, none⟩ (.int .i64 c_.Time), .cell ⟨r1, 5, none⟩ (.int .i64 c_.Data), .cell ⟨p_b, 1, none⟩ (.slice al_b.l_b b.l.length al_b.l_c)]) hE (by kernel_rfl) rfl rfl rfl rfl (by kernel_rfl) (OpTo.fn hE rfl rfl Tryz.call137 (dispatch_Dispatcher_Last_ok et_2 H)) ?_
 rintro _ w ⟨rfl, H⟩
 refine ⟨⟨H.cell 6 rfl rfl, H.cell 6 rfl rfl, H.cell 6 rfl rfl, H.cell 6 rfl rfl, H.cell 6 rfl rfl, H.cell 6 rfl rfl, H.cell 7 rfl rfl, H.cell 7 rfl rfl, H.cell 7 rfl rfl, H.cell 7 rfl rfl, H.cell 7 rfl rfl, H.cell 7 rfl rfl, H.cell 3 rfl rfl, trivial⟩, fun a hE => ?_⟩
 refine WQ.d0 hE [11] [(24, .agg #[.int .i64 c_.Kind, .int .i64 c_.Queue, .int .i64 c_.Job.At, .int .i64 c_.Job.Gen, .int .i64 c_.Time, .int .i64 c_.Data, .int .i64 r.Why, .int .i64 r.Job.At, .int .i64 r.Job.Gen, .int .i64 r.Time, .int .i64 r.Data, .int .i64 r.N, .int .i64 t_1, .int .i64 t_2])] fun a hE => ?_
 refine WQ.eff (j := 12) (obs := [.cell ⟨p_b, 1, none⟩ (.slice al_b.l_b b.l.length al_b.l_c)]) hE (by kernel_rfl) rfl rfl rfl rfl (by kernel_rfl) (OpTo.buildSl (T := 147) hE H trace_Event.enc_ok ([trace_Event.mk c_ r t_1 t_2] : List trace_Event) rfl (fun _ => by kernel_rfl) rfl rfl rfl) ?_
 rintro _ w ⟨r4, rfl, H⟩
 refine ⟨⟨H.cell 4 rfl rfl, trivial⟩, fun a hE => ?_⟩
 obtain ⟨l, el, hm⟩ := bind_some hm
 replace H := H.t5
 refine WQ.eff (j := 13) (obs := []) hE (by kernel_rfl) rfl rfl rfl rfl (by kernel_rfl) (OpTo.appendM el hE H trace_Event.enc_ok rfl rfl rfl rfl rfl rfl rfl rfl rfl rfl (SlRd.all (sl_rd 147 trace_Event.enc 14 _ _ _) trace_Event.enc_ok H 1 rfl) rfl) ?_
 rintro _ w ⟨sb, sc, rfl, H⟩
 refine ⟨trivial, fun a hE => ?_⟩
 refine WQ.d0 hE [14, 15] [(28, .pointer (some ⟨p_b, 1, none⟩))] fun a hE => ?_
 refine WQ.eff0 (j := 16) (obs := []) hE (by kernel_rfl) rfl rfl rfl (by kernel_rfl) (OpTo.store hE H.t5 rfl rfl rfl rfl rfl rfl (Nat.le_of_ble_eq_true rfl)) ?_
 rintro _ w H
 refine ⟨trivial, fun a hE => ?_⟩
 refine WQ.done (by kernel_rfl) ?_
 refine Runs.sr ?_
 refine WR.d hE 1 [.int .i64 r.Why, .int .i64 r.Job.At, .int .i64 r.Job.Gen, .int .i64 r.Time, .int .i64 r.Data, .int .i64 r.N] [(29, .agg #[.int .i64 r.Why, .int .i64 r.Job.At, .int .i64 r.Job.Gen, .int .i64 r.Time, .int .i64 r.Data, .int .i64 r.N])] (obs := [.cell ⟨r2, 0, none⟩ (.int .i64 r.Why), .cell ⟨r2, 1, none⟩ (.int .i64 r.Job.At), .cell ⟨r2, 2, none⟩ (.int .i64 r.Job.Gen), .cell ⟨r2, 3, none⟩ (.int .i64 r.Time), .cell ⟨r2, 4, none⟩ (.int .i64 r.Data), .cell ⟨r2, 5, none⟩ (.int .i64 r.N)]) ⟨H.cell 7 rfl rfl, H.cell 7 rfl rfl, H.cell 7 rfl rfl, H.cell 7 rfl rfl, H.cell 7 rfl rfl, H.cell 7 rfl rfl, trivial⟩ fun a hE => ?_
 refine WR.eff0 hE rfl rfl rfl (OpTo.store hE H.t6 rfl rfl rfl rfl rfl rfl (Nat.le_of_ble_eq_true rfl)) ?_
 rintro _ w H a hE
 refine WR.done rfl ?_
 refine Runs.retO (vs := [.agg #[.int .i64 r.Why, .int .i64 r.Job.At, .int .i64 r.Job.Gen, .int .i64 r.Time, .int .i64 r.Data, .int .i64 r.N]]) (obs := [.cell ⟨r3, 0, none⟩ (.int .i64 r.Why), .cell ⟨r3, 1, none⟩ (.int .i64 r.Job.At), .cell ⟨r3, 2, none⟩ (.int .i64 r.Job.Gen), .cell ⟨r3, 3, none⟩ (.int .i64 r.Time), .cell ⟨r3, 4, none⟩ (.int .i64 r.Data), .cell ⟨r3, 5, none⟩ (.int .i64 r.N)]) hE Tryz.func95 rfl [.int .i64 r.Why, .int .i64 r.Job.At, .int .i64 r.Job.Gen, .int .i64 r.Time, .int .i64 r.Data, .int .i64 r.N] (by kernel_rfl) ⟨H.cell 0 rfl rfl, H.cell 0 rfl rfl, H.cell 0 rfl rfl, H.cell 0 rfl rfl, H.cell 0 rfl rfl, H.cell 0 rfl rfl, trivial⟩ ?_
 replace H := server_Server.shut al_b.s_a (b.s) H.t6.t5.t6
 replace H := trace_Book.shut (trace_Book.A.mk al_b.s_p al_b.s_a sb sc) (trace_Book.mk b.s l) H.t3.t1.t3
 cases hm
 exact ⟨sb, sc, rfl, H.x4.x3.x2.x1⟩

theorem server_Server_Do_ok {w0 w : World} {As : List HP} {p_s : Nat} {al_s : server_Server.A} {s : server_Server} {c_ : api_Command} {t : api_Reply × server_Server}  (hm : server_Server_Do s c_ = some t) (H : St w0 (server_Server.R p_s al_s s :: As) w) :
    CallsR Tryz.prog 96 #[.pointer (some ⟨p_s, 0, none⟩), .agg #[.int .i64 c_.Kind, .int .i64 c_.Queue, .int .i64 c_.Job.At, .int .i64 c_.Job.Gen, .int .i64 c_.Time, .int .i64 c_.Data]] w fun v w' => ∃ (z_s_d_a : dispatch_Dispatcher.A), v = .agg #[.int .i64 t.1.Why, .int .i64 t.1.Job.At, .int .i64 t.1.Job.Gen, .int .i64 t.1.Time, .int .i64 t.1.Data, .int .i64 t.1.N] ∧ St w0 (server_Server.R p_s (server_Server.A.mk al_s.d_p z_s_d_a al_s.desk_p al_s.desk_a) t.2 :: As) w' := by
 rw [server_Server_Do] at hm
 refine enter (args := [.pointer (some ⟨p_s, 0, none⟩), .agg #[.int .i64 c_.Kind, .int .i64 c_.Queue, .int .i64 c_.Job.At, .int .i64 c_.Job.Gen, .int .i64 c_.Time, .int .i64 c_.Data]]) Tryz.func96 rfl rfl rfl fun a hE => ?_
 refine Runs.sr ?_
 refine WR.eff hE rfl rfl rfl rfl (OpTo.new hE H [] (.cells #[.int .i64 c_.Kind, .int .i64 c_.Queue, .int .i64 c_.Job.At, .int .i64 c_.Job.Gen, .int .i64 c_.Time, .int .i64 c_.Data] 33 (0, 0)) (fun r => .pointer (some ⟨r, 0, none⟩)) (obs := []) rfl (fun _ => by kernel_rfl) trivial) ?_
 rintro _ w ⟨r, rfl, H⟩ a hE
 refine WR.eff hE rfl rfl rfl rfl (OpTo.new hE H [] (.cells #[.int .i64 0, .int .i64 0, .int .i64 0, .int .i64 0, .int .i64 0, .int .i64 0] 35 (0, 0)) (fun r => .pointer (some ⟨r, 0, none⟩)) (obs := []) rfl (fun _ => by kernel_rfl) trivial) ?_
 rintro _ w ⟨r1, rfl, H⟩ a hE
 refine WR.done rfl ?_
 refine Runs.seq ?_
 refine Runs.drawn mixed (by kernel_rfl) ?_
 replace H := H.drew
 replace H := server_Server.open H.t2
 refine WQ.seg hE [0, 1, 2, 3, 4] [.pointer (some ⟨al_s.d_p, 0, none⟩), .int .i64 c_.Kind, .int .i64 c_.Queue, .int .i64 c_.Job.At, .int .i64 c_.Job.Gen, .int .i64 c_.Time, .int .i64 c_.Data] [4, 8, 9] (Lo := [(4, .pointer (some ⟨r1, 0, none⟩)), (8, .pointer (some ⟨al_s.d_p, 0, none⟩)), (9, .agg #[.int .i64 c_.Kind, .int .i64 c_.Queue, .int .i64 c_.Job.At, .int .i64 c_.Job.Gen, .int .i64 c_.Time, .int .i64 c_.Data])]) (obs := [.cell ⟨p_s, 0, none⟩ (.pointer (some ⟨al_s.d_p, 0, none⟩)), .cell ⟨r, 0, none⟩ (.int .i64 c_.Kind), .cell ⟨r, 1, none⟩ (.int .i64 c_.Queue), .cell ⟨r, 2, none⟩ (.int .i64 c_.Job.At), .cell ⟨r, 3, none⟩ (.int .i64 c_.Job.Gen), .cell ⟨r, 4, none⟩ (.int .i64 c_.Time), .cell ⟨r, 5, none⟩ (.int .i64 c_.Data)]) (by kernel_rfl) (by kernel_rfl) ⟨H.cell 0 rfl rfl, H.cell 4 rfl rfl, H.cell 4 rfl rfl, H.cell 4 rfl rfl, H.cell 4 rfl rfl, H.cell 4 rfl rfl, H.cell 4 rfl rfl, trivial⟩ fun a hE => ?_
 obtain ⟨t_, et_, hm⟩ := bind_some hm
 refine WQ.eff (j := 5) (obs := []) hE (by kernel_rfl) rfl rfl rfl rfl (by kernel_rfl) (OpTo.fn hE rfl rfl Tryz.call30 (dispatch_Dispatcher_Do_ok et_ H.t1)) ?_
 rintro _ w ⟨z, z1, rfl, H⟩
 refine ⟨trivial, fun a hE => ?_⟩
 refine WQ.eff0 (j := 6) (obs := []) hE (by kernel_rfl) rfl rfl rfl (by kernel_rfl) (OpTo.store hE H.t3 rfl rfl rfl rfl rfl rfl (Nat.le_of_ble_eq_true rfl)) ?_
 rintro _ w H
 refine ⟨trivial, fun a hE => ?_⟩
 refine WQ.done (by kernel_rfl) ?_
 refine Runs.retO (vs := [.agg #[.int .i64 t_.1.Why, .int .i64 t_.1.Job.At, .int .i64 t_.1.Job.Gen, .int .i64 t_.1.Time, .int .i64 t_.1.Data, .int .i64 t_.1.N]]) (obs := [.cell ⟨r1, 0, none⟩ (.int .i64 t_.1.Why), .cell ⟨r1, 1, none⟩ (.int .i64 t_.1.Job.At), .cell ⟨r1, 2, none⟩ (.int .i64 t_.1.Job.Gen), .cell ⟨r1, 3, none⟩ (.int .i64 t_.1.Time), .cell ⟨r1, 4, none⟩ (.int .i64 t_.1.Data), .cell ⟨r1, 5, none⟩ (.int .i64 t_.1.N)]) hE Tryz.func96 rfl [.int .i64 t_.1.Why, .int .i64 t_.1.Job.At, .int .i64 t_.1.Job.Gen, .int .i64 t_.1.Time, .int .i64 t_.1.Data, .int .i64 t_.1.N] (by kernel_rfl) ⟨H.cell 0 rfl rfl, H.cell 0 rfl rfl, H.cell 0 rfl rfl, H.cell 0 rfl rfl, H.cell 0 rfl rfl, H.cell 0 rfl rfl, trivial⟩ ?_
 replace H := server_Server.shut (server_Server.A.mk al_s.d_p (dispatch_Dispatcher.A.mk al_s.d_a.q_p z al_s.d_a.t__p z1 al_s.d_a.when_p al_s.d_a.clock_p) al_s.desk_p al_s.desk_a) (server_Server.mk t_.2 s.desk) H.t3.t2.t3
 cases hm
 exact ⟨dispatch_Dispatcher.A.mk al_s.d_a.q_p z al_s.d_a.t__p z1 al_s.d_a.when_p al_s.d_a.clock_p, rfl, H.x2.x1⟩

theorem trace_Book_drain_ok {w0 w : World} {As : List HP} {k : Nat} {p_b : Nat} {al_b : trace_Book.A} {b : trace_Book} {t : Int × trace_Book}  (hm : trace_Book_drain k b = some t) (H : St w0 (trace_Book.R p_b al_b b :: As) w) :
    CallsR Tryz.prog 97 #[.pointer (some ⟨p_b, 0, none⟩)] w fun v w' => ∃ (z_b_s_a : server_Server.A), ∃ (z_b_l_b : Option Addr), ∃ (z_b_l_c : Nat), v = .int .i64 t.1 ∧ St w0 (trace_Book.R p_b (trace_Book.A.mk al_b.s_p z_b_s_a z_b_l_b z_b_l_c) t.2 :: As) w' := by
 rw [trace_Book_drain] at hm
 refine enter (args := [.pointer (some ⟨p_b, 0, none⟩)]) Tryz.func97 rfl rfl rfl fun a hE => ?_
 refine Runs.sr ?_
 refine WR.seg hE 1 [] [0] (Lo := [(0, .pointer (some ⟨p_b, 0, none⟩))]) (obs := []) rfl (by kernel_rfl) trivial fun a hE => ?_
 refine WR.done rfl ?_
 refine Runs.sr ?_
 refine WR.d0 hE 1 [(5, .agg #[.int .i64 5, .int .i64 0, .int .i64 0, .int .i64 0, .int .i64 0, .int .i64 0])] fun a hE => ?_
 refine WR.eff hE rfl rfl rfl rfl (OpTo.new hE H [] (.cells #[.int .i64 0, .int .i64 0, .int .i64 0, .int .i64 0, .int .i64 0, .int .i64 0] 33 (0, 0)) (fun r => .pointer (some ⟨r, 0, none⟩)) (obs := []) rfl (fun _ => by kernel_rfl) trivial) ?_
 rintro _ w ⟨r, rfl, H⟩ a hE
 refine WR.eff0 hE rfl rfl rfl (OpTo.store hE H rfl rfl rfl rfl rfl rfl (Nat.le_of_ble_eq_true rfl)) ?_
 rintro _ w H a hE
 refine WR.done rfl ?_
 refine Runs.sr ?_
 refine WR.e0 hE [(4, .int .i64 0)] fun a hE => ?_
 refine Runs.seq ?_
 refine Runs.sr ?_
 refine WR.e0 hE [(6, .int .i64 0)] fun a hE => ?_
 obtain ⟨s, es, hm⟩ := bind_some hm
 refine Runs.join (fun a w => ∃ (z3 : server_Server.A), ∃ (z4 : Option Addr), ∃ (z5 : Nat), EnvOk 23 a [(4, .int .i64 s.1)] ∧ St w0 (trace_Book.R p_b (trace_Book.A.mk al_b.s_p z3 z4 z5) s.2 :: As) w) (fun hk => ?_) ?_
 ·replace hm := es; clear es
  refine Runs.block ?_
  refine Runs.loop (fun m a w => ∃ (n : Int), ∃ (x : Int), ∃ (m_ : trace_Book), ∃ (z6 : server_Server.A), ∃ (z7 : Option Addr), ∃ (z8 : Nat), EnvOk 23 a [(0, .pointer (some ⟨p_b, 0, none⟩)), (3, .pointer (some ⟨r, 0, none⟩)), (4, .int .i64 n), (6, .int .i64 x)] ∧ St w0 (Blk r 33 [.int .i64 5, .int .i64 0, .int .i64 0, .int .i64 0, .int .i64 0, .int .i64 0] :: trace_Book.R p_b (trace_Book.A.mk al_b.s_p z6 z7 z8) m_ :: As) w ∧ trace_Book_drain_l0 m n x m_ = some s) k ⟨0, 0, b, al_b.s_a, al_b.l_b, al_b.l_c, hE.sel [0, 3, 4, 6] (by kernel_rfl), H.t1.t1, hm⟩ ?_
  rintro m ih a w ⟨n, x, m_, z6, z7, z8, hE, H, hm⟩
  cases m with
  | zero => simp [trace_Book_drain_l0] at hm
  | succ m =>
   rw [trace_Book_drain_l0] at hm
   refine Runs.sr ?_
   refine WR.seg hE 1 [] [0, 3, 4, 6, 7] (Lo := [(0, .pointer (some ⟨p_b, 0, none⟩)), (3, .pointer (some ⟨r, 0, none⟩)), (4, .int .i64 n), (6, .int .i64 x), (7, .bool (decide (x < 4097)))]) (obs := []) rfl (by kernel_rfl) trivial fun a hE => ?_
   refine WR.done rfl ?_
   refine Runs.seq ?_
   refine Runs.cond hE rfl (fun c => ?_) (fun c => ?_)
   ·replace hm := cond_t c hm
    refine Runs.skip ?_
    refine Runs.seq ?_
    refine Runs.block ?_
    refine Runs.seq ?_
    refine Runs.seq ?_
    refine Runs.drawn mixed (by kernel_rfl) ?_
    replace H := H.drew
    replace H := trace_Book.open H.t1
    try dsimp only at H
    refine WQ.d hE [0, 1, 2, 3, 4, 5, 6] [.int .i64 5, .int .i64 0, .int .i64 0, .int .i64 0, .int .i64 0, .int .i64 0, .pointer (some ⟨al_b.s_p, 0, none⟩), .int .i64 5, .int .i64 0, .int .i64 0, .int .i64 0, .int .i64 0, .int .i64 0] [(8, .pointer (some ⟨p_b, 0, none⟩)), (9, .agg #[.int .i64 5, .int .i64 0, .int .i64 0, .int .i64 0, .int .i64 0, .int .i64 0]), (13, .pointer (some ⟨al_b.s_p, 0, none⟩)), (14, .agg #[.int .i64 5, .int .i64 0, .int .i64 0, .int .i64 0, .int .i64 0, .int .i64 0])] (obs := [.cell ⟨r, 0, none⟩ (.int .i64 5), .cell ⟨r, 1, none⟩ (.int .i64 0), .cell ⟨r, 2, none⟩ (.int .i64 0), .cell ⟨r, 3, none⟩ (.int .i64 0), .cell ⟨r, 4, none⟩ (.int .i64 0), .cell ⟨r, 5, none⟩ (.int .i64 0), .cell ⟨p_b, 0, none⟩ (.pointer (some ⟨al_b.s_p, 0, none⟩)), .cell ⟨r, 0, none⟩ (.int .i64 5), .cell ⟨r, 1, none⟩ (.int .i64 0), .cell ⟨r, 2, none⟩ (.int .i64 0), .cell ⟨r, 3, none⟩ (.int .i64 0), .cell ⟨r, 4, none⟩ (.int .i64 0), .cell ⟨r, 5, none⟩ (.int .i64 0)]) ⟨H.cell 3 rfl rfl, H.cell 3 rfl rfl, H.cell 3 rfl rfl, H.cell 3 rfl rfl, H.cell 3 rfl rfl, H.cell 3 rfl rfl, H.cell 0 rfl rfl, H.cell 3 rfl rfl, H.cell 3 rfl rfl, H.cell 3 rfl rfl, H.cell 3 rfl rfl, H.cell 3 rfl rfl, H.cell 3 rfl rfl, trivial⟩ fun a hE => ?_
    obtain ⟨t_, et_, hm⟩ := bind_some hm
    have hC_ := server_Server_Do_ok et_ H.t1
    try dsimp only at hC_
    refine WQ.eff (j := 7) (obs := [.cell ⟨r, 0, none⟩ (.int .i64 5), .cell ⟨r, 1, none⟩ (.int .i64 0), .cell ⟨r, 2, none⟩ (.int .i64 0), .cell ⟨r, 3, none⟩ (.int .i64 0), .cell ⟨r, 4, none⟩ (.int .i64 0), .cell ⟨r, 5, none⟩ (.int .i64 0)]) hE (by kernel_rfl) rfl rfl rfl rfl (by kernel_rfl) (OpTo.fn hE rfl rfl Tryz.call96 hC_) ?_
    rintro _ w ⟨z9, rfl, H⟩
    refine ⟨⟨H.cell 3 rfl rfl, H.cell 3 rfl rfl, H.cell 3 rfl rfl, H.cell 3 rfl rfl, H.cell 3 rfl rfl, H.cell 3 rfl rfl, trivial⟩, fun a hE => ?_⟩
    replace H := trace_Book.shut (trace_Book.A.mk al_b.s_p (server_Server.A.mk z6.d_p z9 z6.desk_p z6.desk_a) z7 z8) (trace_Book.mk t_.2 m_.l) H.t2.t1.t2
    obtain ⟨t_1, et_1, hm⟩ := bind_some hm
    have hC_ := trace_Book_note_ok et_1 H
    try dsimp only at hC_
    refine WQ.eff (j := 8) (obs := []) hE (by kernel_rfl) rfl rfl rfl rfl (by kernel_rfl) (OpTo.fn hE rfl rfl Tryz.call95 hC_) ?_
    rintro _ w ⟨z10, z11, rfl, H⟩
    refine ⟨trivial, fun a hE => ?_⟩
    refine WQ.d0 hE [9, 10] [(18, .bool (t_1.1.Why != 0))] fun a hE => ?_
    refine WQ.done (by kernel_rfl) ?_
    refine Runs.cond hE rfl (fun c => ?_) (fun c => ?_)
    ·replace hm := cond_t c hm
     refine Runs.exit rfl ?_
     cases hm
     exact hk _ _ ⟨server_Server.A.mk z6.d_p z9 z6.desk_p z6.desk_a, z10, z11, hE.sel [4] (by kernel_rfl), H.x1⟩
    ·replace hm := cond_f c hm
     refine Runs.skip ?_
     refine Runs.region ?_
     refine WR.e0 hE [(4, .int .i64 (w64 (n + 1)))] fun a hE => ?_
     refine Runs.inBlock ?_
     refine Runs.region ?_
     refine WR.e0 hE [(6, .int .i64 (w64 (x + 1)))] fun a hE => ?_
     exact ih m (Nat.lt_succ_self m) _ _ ⟨w64 (n + 1), w64 (x + 1), t_1.2, server_Server.A.mk z6.d_p z9 z6.desk_p z6.desk_a, z10, z11, hE.sel [0, 3, 4, 6] (by kernel_rfl), H.t1, hm⟩
   ·replace hm := cond_f c hm
    refine Runs.exit rfl ?_
    cases hm
    exact hk _ _ ⟨z6, z7, z8, hE.sel [4] (by kernel_rfl), H.x0⟩
 rintro a w ⟨z3, z4, z5, hE, H⟩
 refine Runs.sr ?_
 refine WR.seg hE 2 [] [2] (Lo := [(2, .int .i64 s.1)]) (obs := []) rfl (by kernel_rfl) trivial fun a hE => ?_
 refine WR.done rfl ?_
 refine Runs.ret hE Tryz.func97 rfl rfl ?_
 cases hm
 exact ⟨z3, z4, z5, rfl, H⟩

theorem trace_Book_Act_ok {w0 w : World} {As : List HP} {k : Nat} {p_b : Nat} {al_b : trace_Book.A} {b : trace_Book} {x : api_Act} {t : api_Reply × trace_Book}  (hm : trace_Book_Act k b x = some t) (H : St w0 (trace_Book.R p_b al_b b :: As) w) :
    CallsR Tryz.prog 67 #[.pointer (some ⟨p_b, 0, none⟩), .agg #[.int .i64 x.Kind, .int .i64 x.Box, .int .i64 x.Command.Kind, .int .i64 x.Command.Queue, .int .i64 x.Command.Job.At, .int .i64 x.Command.Job.Gen, .int .i64 x.Command.Time, .int .i64 x.Command.Data]] w fun v w' => ∃ (z_b_s_a : server_Server.A), ∃ (z_b_l_b : Option Addr), ∃ (z_b_l_c : Nat), v = .agg #[.int .i64 t.1.Why, .int .i64 t.1.Job.At, .int .i64 t.1.Job.Gen, .int .i64 t.1.Time, .int .i64 t.1.Data, .int .i64 t.1.N] ∧ St w0 (trace_Book.R p_b (trace_Book.A.mk al_b.s_p z_b_s_a z_b_l_b z_b_l_c) t.2 :: As) w' := by
 rw [trace_Book_Act] at hm
 refine enter (args := [.pointer (some ⟨p_b, 0, none⟩), .agg #[.int .i64 x.Kind, .int .i64 x.Box, .int .i64 x.Command.Kind, .int .i64 x.Command.Queue, .int .i64 x.Command.Job.At, .int .i64 x.Command.Job.Gen, .int .i64 x.Command.Time, .int .i64 x.Command.Data]]) Tryz.func67 rfl rfl rfl fun a hE => ?_
 refine Runs.sr ?_
 refine WR.eff hE rfl rfl rfl rfl (OpTo.new hE H [] (.cells #[.int .i64 x.Kind, .int .i64 x.Box, .int .i64 x.Command.Kind, .int .i64 x.Command.Queue, .int .i64 x.Command.Job.At, .int .i64 x.Command.Job.Gen, .int .i64 x.Command.Time, .int .i64 x.Command.Data] 42 (0, 0)) (fun r => .pointer (some ⟨r, 0, none⟩)) (obs := []) rfl (fun _ => by kernel_rfl) trivial) ?_
 rintro _ w ⟨r, rfl, H⟩ a hE
 refine WR.eff hE rfl rfl rfl rfl (OpTo.new hE H [] (.cells #[.int .i64 0, .int .i64 0, .int .i64 0, .int .i64 0, .int .i64 0, .int .i64 0] 35 (0, 0)) (fun r => .pointer (some ⟨r, 0, none⟩)) (obs := []) rfl (fun _ => by kernel_rfl) trivial) ?_
 rintro _ w ⟨r1, rfl, H⟩ a hE
 refine WR.done rfl ?_
 refine Runs.seq ?_
 refine Runs.sr ?_
 refine WR.seg hE 2 [.int .i64 x.Kind] [0, 3, 4, 9] (Lo := [(0, .pointer (some ⟨p_b, 0, none⟩)), (3, .pointer (some ⟨r, 0, none⟩)), (4, .pointer (some ⟨r1, 0, none⟩)), (9, .int .i64 x.Kind)]) (obs := [.cell ⟨r, 0, none⟩ (.int .i64 x.Kind)]) rfl (by kernel_rfl) ⟨H.cell 1 rfl rfl, trivial⟩ fun a hE => ?_
 refine WR.done rfl ?_
 refine Runs.block ?_
 refine Runs.sr ?_
 refine WR.e0 hE [(10, .bool (x.Kind == 1))] fun a hE => ?_
 refine Runs.cond hE rfl (fun c => ?_) (fun c => ?_)
 ·replace hm := cond_t c hm
  refine Runs.seq ?_
  refine Runs.drawn mixed (by kernel_rfl) ?_
  replace H := H.drew
  replace H := trace_Book.open H.t2
  refine WQ.d hE [0, 1, 2, 3, 4, 5, 6, 7] [.pointer (some ⟨al_b.s_p, 0, none⟩), .int .i64 x.Box, .int .i64 x.Command.Kind, .int .i64 x.Command.Queue, .int .i64 x.Command.Job.At, .int .i64 x.Command.Job.Gen, .int .i64 x.Command.Time, .int .i64 x.Command.Data] [(15, .pointer (some ⟨al_b.s_p, 0, none⟩)), (17, .int .i64 x.Box), (19, .agg #[.int .i64 x.Command.Kind, .int .i64 x.Command.Queue, .int .i64 x.Command.Job.At, .int .i64 x.Command.Job.Gen, .int .i64 x.Command.Time, .int .i64 x.Command.Data])] (obs := [.cell ⟨p_b, 0, none⟩ (.pointer (some ⟨al_b.s_p, 0, none⟩)), .cell ⟨r, 1, none⟩ (.int .i64 x.Box), .cell ⟨r, 2, none⟩ (.int .i64 x.Command.Kind), .cell ⟨r, 3, none⟩ (.int .i64 x.Command.Queue), .cell ⟨r, 4, none⟩ (.int .i64 x.Command.Job.At), .cell ⟨r, 5, none⟩ (.int .i64 x.Command.Job.Gen), .cell ⟨r, 6, none⟩ (.int .i64 x.Command.Time), .cell ⟨r, 7, none⟩ (.int .i64 x.Command.Data)]) ⟨H.cell 0 rfl rfl, H.cell 4 rfl rfl, H.cell 4 rfl rfl, H.cell 4 rfl rfl, H.cell 4 rfl rfl, H.cell 4 rfl rfl, H.cell 4 rfl rfl, H.cell 4 rfl rfl, trivial⟩ fun a hE => ?_
  obtain ⟨t_, et_, hm⟩ := bind_some hm
  refine WQ.eff (j := 8) (obs := []) hE (by kernel_rfl) rfl rfl rfl rfl (by kernel_rfl) (OpTo.fn hE rfl rfl Tryz.call11 (server_Server_Post_ok et_ H.t1)) ?_
  rintro _ w ⟨rfl, H⟩
  refine ⟨trivial, fun a hE => ?_⟩
  refine WQ.d0 hE [9] [(21, .agg #[.int .i64 t_.1, .int .i64 0, .int .i64 0, .int .i64 0, .int .i64 0, .int .i64 0])] fun a hE => ?_
  refine WQ.eff0 (j := 10) (obs := []) hE (by kernel_rfl) rfl rfl rfl (by kernel_rfl) (OpTo.store hE H.t3 rfl rfl rfl rfl rfl rfl (Nat.le_of_ble_eq_true rfl)) ?_
  rintro _ w H
  refine ⟨trivial, fun a hE => ?_⟩
  refine WQ.done (by kernel_rfl) ?_
  refine Runs.retO (vs := [.agg #[.int .i64 t_.1, .int .i64 0, .int .i64 0, .int .i64 0, .int .i64 0, .int .i64 0]]) (obs := [.cell ⟨r1, 0, none⟩ (.int .i64 t_.1), .cell ⟨r1, 1, none⟩ (.int .i64 0), .cell ⟨r1, 2, none⟩ (.int .i64 0), .cell ⟨r1, 3, none⟩ (.int .i64 0), .cell ⟨r1, 4, none⟩ (.int .i64 0), .cell ⟨r1, 5, none⟩ (.int .i64 0)]) hE Tryz.func67 rfl [.int .i64 t_.1, .int .i64 0, .int .i64 0, .int .i64 0, .int .i64 0, .int .i64 0] (by kernel_rfl) ⟨H.cell 0 rfl rfl, H.cell 0 rfl rfl, H.cell 0 rfl rfl, H.cell 0 rfl rfl, H.cell 0 rfl rfl, H.cell 0 rfl rfl, trivial⟩ ?_
  replace H := trace_Book.shut al_b (trace_Book.mk t_.2 b.l) H.t3.t2.t3
  cases hm
  exact ⟨al_b.s_a, al_b.l_b, al_b.l_c, rfl, H.x2.x1⟩
 ·replace hm := cond_f c hm
  refine Runs.sr ?_
  refine WR.e0 hE [(22, .bool (x.Kind == 2))] fun a hE => ?_
  refine Runs.cond hE rfl (fun c => ?_) (fun c => ?_)
  ·replace hm := cond_t c hm
   refine Runs.sr ?_
   replace H := trace_Book.open H.t2
   refine WR.d hE 4 [.pointer (some ⟨al_b.s_p, 0, none⟩)] [(28, .pointer (some ⟨al_b.s_p, 0, none⟩))] (obs := [.cell ⟨p_b, 0, none⟩ (.pointer (some ⟨al_b.s_p, 0, none⟩))]) ⟨H.cell 0 rfl rfl, trivial⟩ fun a hE => ?_
   obtain ⟨t_1, et_1, hm⟩ := bind_some hm
   refine WR.eff hE rfl rfl rfl rfl (OpTo.fn hE rfl rfl Tryz.call12 (server_Server_Serve_ok et_1 H.t1)) ?_
   rintro _ w ⟨z, rfl, H⟩ a hE
   refine WR.d0 hE 9 [(30, .agg #[.int .i64 t_1.1.Why, .int .i64 t_1.1.Job.At, .int .i64 t_1.1.Job.Gen, .int .i64 t_1.1.Time, .int .i64 t_1.1.Data, .int .i64 t_1.1.N]), (31, .agg #[.int .i64 t_1.2.1.Kind, .int .i64 t_1.2.1.Queue, .int .i64 t_1.2.1.Job.At, .int .i64 t_1.2.1.Job.Gen, .int .i64 t_1.2.1.Time, .int .i64 t_1.2.1.Data]), (32, .bool t_1.2.2.1)] fun a hE => ?_
   refine WR.eff hE rfl rfl rfl rfl (OpTo.new hE H [] (.cells #[.int .i64 0, .int .i64 0, .int .i64 0, .int .i64 0, .int .i64 0, .int .i64 0] 35 (0, 0)) (fun r => .pointer (some ⟨r, 0, none⟩)) (obs := []) rfl (fun _ => by kernel_rfl) trivial) ?_
   rintro _ w ⟨r2, rfl, H⟩ a hE
   refine WR.eff hE rfl rfl rfl rfl (OpTo.new hE H [] (.cells #[.int .i64 0, .int .i64 0, .int .i64 0, .int .i64 0, .int .i64 0, .int .i64 0] 33 (0, 0)) (fun r => .pointer (some ⟨r, 0, none⟩)) (obs := []) rfl (fun _ => by kernel_rfl) trivial) ?_
   rintro _ w ⟨r3, rfl, H⟩ a hE
   refine WR.eff0 hE rfl rfl rfl (OpTo.store hE H.t1 rfl rfl rfl rfl rfl rfl (Nat.le_of_ble_eq_true rfl)) ?_
   rintro _ w H a hE
   refine WR.eff0 hE rfl rfl rfl (OpTo.store hE H.t1 rfl rfl rfl rfl rfl rfl (Nat.le_of_ble_eq_true rfl)) ?_
   rintro _ w H a hE
   refine WR.e0 hE [(7, .bool t_1.2.2.1)] fun a hE => ?_
   refine Runs.seq ?_
   refine Runs.sr ?_
   refine WR.e0 hE [(34, .bool (!t_1.2.2.1))] fun a hE => ?_
   refine Runs.cond hE rfl (fun c => ?_) (fun c => ?_)
   ·replace hm := cond_t c hm
    refine Runs.sr ?_
    refine WR.d0 hE 1 [(35, .agg #[.int .i64 27, .int .i64 0, .int .i64 0, .int .i64 0, .int .i64 0, .int .i64 0])] fun a hE => ?_
    refine WR.eff0 hE rfl rfl rfl (OpTo.store hE H.t5 rfl rfl rfl rfl rfl rfl (Nat.le_of_ble_eq_true rfl)) ?_
    rintro _ w H a hE
    refine WR.done rfl ?_
    refine Runs.retO (vs := [.agg #[.int .i64 27, .int .i64 0, .int .i64 0, .int .i64 0, .int .i64 0, .int .i64 0]]) (obs := [.cell ⟨r1, 0, none⟩ (.int .i64 27), .cell ⟨r1, 1, none⟩ (.int .i64 0), .cell ⟨r1, 2, none⟩ (.int .i64 0), .cell ⟨r1, 3, none⟩ (.int .i64 0), .cell ⟨r1, 4, none⟩ (.int .i64 0), .cell ⟨r1, 5, none⟩ (.int .i64 0)]) hE Tryz.func67 rfl [.int .i64 27, .int .i64 0, .int .i64 0, .int .i64 0, .int .i64 0, .int .i64 0] (by kernel_rfl) ⟨H.cell 0 rfl rfl, H.cell 0 rfl rfl, H.cell 0 rfl rfl, H.cell 0 rfl rfl, H.cell 0 rfl rfl, H.cell 0 rfl rfl, trivial⟩ ?_
    replace H := trace_Book.shut (trace_Book.A.mk al_b.s_p (server_Server.A.mk al_b.s_a.d_p z al_b.s_a.desk_p al_b.s_a.desk_a) al_b.l_b al_b.l_c) (trace_Book.mk t_1.2.2.2 b.l) H.t5.t4.t5
    cases hm
    exact ⟨server_Server.A.mk al_b.s_a.d_p z al_b.s_a.desk_p al_b.s_a.desk_a, al_b.l_b, al_b.l_c, rfl, H.x4.x3.x2.x1⟩
   ·replace hm := cond_f c hm
    refine Runs.skip ?_
    refine Runs.sr ?_
    refine WR.d hE 3 [.int .i64 t_1.2.1.Kind, .int .i64 t_1.2.1.Queue, .int .i64 t_1.2.1.Job.At, .int .i64 t_1.2.1.Job.Gen, .int .i64 t_1.2.1.Time, .int .i64 t_1.2.1.Data, .int .i64 t_1.1.Why, .int .i64 t_1.1.Job.At, .int .i64 t_1.1.Job.Gen, .int .i64 t_1.1.Time, .int .i64 t_1.1.Data, .int .i64 t_1.1.N] [(36, .pointer (some ⟨p_b, 0, none⟩)), (37, .agg #[.int .i64 t_1.2.1.Kind, .int .i64 t_1.2.1.Queue, .int .i64 t_1.2.1.Job.At, .int .i64 t_1.2.1.Job.Gen, .int .i64 t_1.2.1.Time, .int .i64 t_1.2.1.Data]), (38, .agg #[.int .i64 t_1.1.Why, .int .i64 t_1.1.Job.At, .int .i64 t_1.1.Job.Gen, .int .i64 t_1.1.Time, .int .i64 t_1.1.Data, .int .i64 t_1.1.N])] (obs := [.cell ⟨r3, 0, none⟩ (.int .i64 t_1.2.1.Kind), .cell ⟨r3, 1, none⟩ (.int .i64 t_1.2.1.Queue), .cell ⟨r3, 2, none⟩ (.int .i64 t_1.2.1.Job.At), .cell ⟨r3, 3, none⟩ (.int .i64 t_1.2.1.Job.Gen), .cell ⟨r3, 4, none⟩ (.int .i64 t_1.2.1.Time), .cell ⟨r3, 5, none⟩ (.int .i64 t_1.2.1.Data), .cell ⟨r2, 0, none⟩ (.int .i64 t_1.1.Why), .cell ⟨r2, 1, none⟩ (.int .i64 t_1.1.Job.At), .cell ⟨r2, 2, none⟩ (.int .i64 t_1.1.Job.Gen), .cell ⟨r2, 3, none⟩ (.int .i64 t_1.1.Time), .cell ⟨r2, 4, none⟩ (.int .i64 t_1.1.Data), .cell ⟨r2, 5, none⟩ (.int .i64 t_1.1.N)]) ⟨H.cell 0 rfl rfl, H.cell 0 rfl rfl, H.cell 0 rfl rfl, H.cell 0 rfl rfl, H.cell 0 rfl rfl, H.cell 0 rfl rfl, H.cell 1 rfl rfl, H.cell 1 rfl rfl, H.cell 1 rfl rfl, H.cell 1 rfl rfl, H.cell 1 rfl rfl, H.cell 1 rfl rfl, trivial⟩ fun a hE => ?_
    replace H := trace_Book.shut (trace_Book.A.mk al_b.s_p (server_Server.A.mk al_b.s_a.d_p z al_b.s_a.desk_p al_b.s_a.desk_a) al_b.l_b al_b.l_c) (trace_Book.mk t_1.2.2.2 b.l) H.t4.t3.t4
    obtain ⟨t_2, et_2, hm⟩ := bind_some hm
    refine WR.eff hE rfl rfl rfl rfl (OpTo.fn hE rfl rfl Tryz.call95 (trace_Book_note_ok et_2 H)) ?_
    rintro _ w ⟨z1, z2, rfl, H⟩ a hE
    refine WR.eff0 hE rfl rfl rfl (OpTo.store hE H.t3 rfl rfl rfl rfl rfl rfl (Nat.le_of_ble_eq_true rfl)) ?_
    rintro _ w H a hE
    refine WR.done rfl ?_
    refine Runs.retO (vs := [.agg #[.int .i64 t_2.1.Why, .int .i64 t_2.1.Job.At, .int .i64 t_2.1.Job.Gen, .int .i64 t_2.1.Time, .int .i64 t_2.1.Data, .int .i64 t_2.1.N]]) (obs := [.cell ⟨r1, 0, none⟩ (.int .i64 t_2.1.Why), .cell ⟨r1, 1, none⟩ (.int .i64 t_2.1.Job.At), .cell ⟨r1, 2, none⟩ (.int .i64 t_2.1.Job.Gen), .cell ⟨r1, 3, none⟩ (.int .i64 t_2.1.Time), .cell ⟨r1, 4, none⟩ (.int .i64 t_2.1.Data), .cell ⟨r1, 5, none⟩ (.int .i64 t_2.1.N)]) hE Tryz.func67 rfl [.int .i64 t_2.1.Why, .int .i64 t_2.1.Job.At, .int .i64 t_2.1.Job.Gen, .int .i64 t_2.1.Time, .int .i64 t_2.1.Data, .int .i64 t_2.1.N] (by kernel_rfl) ⟨H.cell 0 rfl rfl, H.cell 0 rfl rfl, H.cell 0 rfl rfl, H.cell 0 rfl rfl, H.cell 0 rfl rfl, H.cell 0 rfl rfl, trivial⟩ ?_
    cases hm
    exact ⟨server_Server.A.mk al_b.s_a.d_p z al_b.s_a.desk_p al_b.s_a.desk_a, z1, z2, rfl, H.x4.x3.x2.x0⟩
  ·replace hm := cond_f c hm
   refine Runs.sr ?_
   refine WR.e0 hE [(40, .bool (x.Kind == 3))] fun a hE => ?_
   refine Runs.cond hE rfl (fun c => ?_) (fun c => ?_)
   ·replace hm := cond_t c hm
    refine Runs.seq ?_
    refine Runs.drawn mixed (by kernel_rfl) ?_
    replace H := H.drew
    replace H := trace_Book.open H.t2
    refine WQ.d hE [0, 1, 2, 3, 4, 5, 6, 7, 8] [.int .i64 x.Command.Kind, .int .i64 x.Command.Queue, .int .i64 x.Command.Job.At, .int .i64 x.Command.Job.Gen, .int .i64 x.Command.Time, .int .i64 x.Command.Data, .pointer (some ⟨al_b.s_p, 0, none⟩), .int .i64 x.Command.Kind, .int .i64 x.Command.Queue, .int .i64 x.Command.Job.At, .int .i64 x.Command.Job.Gen, .int .i64 x.Command.Time, .int .i64 x.Command.Data] [(42, .pointer (some ⟨p_b, 0, none⟩)), (44, .agg #[.int .i64 x.Command.Kind, .int .i64 x.Command.Queue, .int .i64 x.Command.Job.At, .int .i64 x.Command.Job.Gen, .int .i64 x.Command.Time, .int .i64 x.Command.Data]), (48, .pointer (some ⟨al_b.s_p, 0, none⟩)), (50, .agg #[.int .i64 x.Command.Kind, .int .i64 x.Command.Queue, .int .i64 x.Command.Job.At, .int .i64 x.Command.Job.Gen, .int .i64 x.Command.Time, .int .i64 x.Command.Data])] (obs := [.cell ⟨r, 2, none⟩ (.int .i64 x.Command.Kind), .cell ⟨r, 3, none⟩ (.int .i64 x.Command.Queue), .cell ⟨r, 4, none⟩ (.int .i64 x.Command.Job.At), .cell ⟨r, 5, none⟩ (.int .i64 x.Command.Job.Gen), .cell ⟨r, 6, none⟩ (.int .i64 x.Command.Time), .cell ⟨r, 7, none⟩ (.int .i64 x.Command.Data), .cell ⟨p_b, 0, none⟩ (.pointer (some ⟨al_b.s_p, 0, none⟩)), .cell ⟨r, 2, none⟩ (.int .i64 x.Command.Kind), .cell ⟨r, 3, none⟩ (.int .i64 x.Command.Queue), .cell ⟨r, 4, none⟩ (.int .i64 x.Command.Job.At), .cell ⟨r, 5, none⟩ (.int .i64 x.Command.Job.Gen), .cell ⟨r, 6, none⟩ (.int .i64 x.Command.Time), .cell ⟨r, 7, none⟩ (.int .i64 x.Command.Data)]) ⟨H.cell 4 rfl rfl, H.cell 4 rfl rfl, H.cell 4 rfl rfl, H.cell 4 rfl rfl, H.cell 4 rfl rfl, H.cell 4 rfl rfl, H.cell 0 rfl rfl, H.cell 4 rfl rfl, H.cell 4 rfl rfl, H.cell 4 rfl rfl, H.cell 4 rfl rfl, H.cell 4 rfl rfl, H.cell 4 rfl rfl, trivial⟩ fun a hE => ?_
    obtain ⟨t_3, et_3, hm⟩ := bind_some hm
    refine WQ.eff (j := 9) (obs := [.cell ⟨r, 2, none⟩ (.int .i64 x.Command.Kind), .cell ⟨r, 3, none⟩ (.int .i64 x.Command.Queue), .cell ⟨r, 4, none⟩ (.int .i64 x.Command.Job.At), .cell ⟨r, 5, none⟩ (.int .i64 x.Command.Job.Gen), .cell ⟨r, 6, none⟩ (.int .i64 x.Command.Time), .cell ⟨r, 7, none⟩ (.int .i64 x.Command.Data)]) hE (by kernel_rfl) rfl rfl rfl rfl (by kernel_rfl) (OpTo.fn hE rfl rfl Tryz.call96 (server_Server_Do_ok et_3 H.t1)) ?_
    rintro _ w ⟨z3, rfl, H⟩
    refine ⟨⟨H.cell 4 rfl rfl, H.cell 4 rfl rfl, H.cell 4 rfl rfl, H.cell 4 rfl rfl, H.cell 4 rfl rfl, H.cell 4 rfl rfl, trivial⟩, fun a hE => ?_⟩
    replace H := trace_Book.shut (trace_Book.A.mk al_b.s_p (server_Server.A.mk al_b.s_a.d_p z3 al_b.s_a.desk_p al_b.s_a.desk_a) al_b.l_b al_b.l_c) (trace_Book.mk t_3.2 b.l) H.t2.t1.t2
    obtain ⟨t_4, et_4, hm⟩ := bind_some hm
    refine WQ.eff (j := 10) (obs := []) hE (by kernel_rfl) rfl rfl rfl rfl (by kernel_rfl) (OpTo.fn hE rfl rfl Tryz.call95 (trace_Book_note_ok et_4 H)) ?_
    rintro _ w ⟨z4, z5, rfl, H⟩
    refine ⟨trivial, fun a hE => ?_⟩
    refine WQ.eff0 (j := 11) (obs := []) hE (by kernel_rfl) rfl rfl rfl (by kernel_rfl) (OpTo.store hE H.t1 rfl rfl rfl rfl rfl rfl (Nat.le_of_ble_eq_true rfl)) ?_
    rintro _ w H
    refine ⟨trivial, fun a hE => ?_⟩
    refine WQ.done (by kernel_rfl) ?_
    refine Runs.retO (vs := [.agg #[.int .i64 t_4.1.Why, .int .i64 t_4.1.Job.At, .int .i64 t_4.1.Job.Gen, .int .i64 t_4.1.Time, .int .i64 t_4.1.Data, .int .i64 t_4.1.N]]) (obs := [.cell ⟨r1, 0, none⟩ (.int .i64 t_4.1.Why), .cell ⟨r1, 1, none⟩ (.int .i64 t_4.1.Job.At), .cell ⟨r1, 2, none⟩ (.int .i64 t_4.1.Job.Gen), .cell ⟨r1, 3, none⟩ (.int .i64 t_4.1.Time), .cell ⟨r1, 4, none⟩ (.int .i64 t_4.1.Data), .cell ⟨r1, 5, none⟩ (.int .i64 t_4.1.N)]) hE Tryz.func67 rfl [.int .i64 t_4.1.Why, .int .i64 t_4.1.Job.At, .int .i64 t_4.1.Job.Gen, .int .i64 t_4.1.Time, .int .i64 t_4.1.Data, .int .i64 t_4.1.N] (by kernel_rfl) ⟨H.cell 0 rfl rfl, H.cell 0 rfl rfl, H.cell 0 rfl rfl, H.cell 0 rfl rfl, H.cell 0 rfl rfl, H.cell 0 rfl rfl, trivial⟩ ?_
    cases hm
    exact ⟨server_Server.A.mk al_b.s_a.d_p z3 al_b.s_a.desk_p al_b.s_a.desk_a, z4, z5, rfl, H.x2.x0⟩
   ·replace hm := cond_f c hm
    refine Runs.sr ?_
    refine WR.e0 hE [(53, .bool (x.Kind == 4))] fun a hE => ?_
    refine Runs.cond hE rfl (fun c => ?_) (fun c => ?_)
    ·replace hm := cond_t c hm
     refine Runs.sr ?_
     refine WR.d0 hE 1 [(55, .pointer (some ⟨p_b, 0, none⟩))] fun a hE => ?_
     obtain ⟨t_5, et_5, hm⟩ := bind_some hm
     refine WR.eff hE rfl rfl rfl rfl (OpTo.fn hE rfl rfl Tryz.call97 (trace_Book_drain_ok et_5 H.t2)) ?_
     rintro _ w ⟨z6, z7, z8, rfl, H⟩ a hE
     refine WR.d0 hE 3 [(57, .agg #[.int .i64 0, .int .i64 0, .int .i64 0, .int .i64 0, .int .i64 0, .int .i64 t_5.1])] fun a hE => ?_
     refine WR.eff0 hE rfl rfl rfl (OpTo.store hE H.t1 rfl rfl rfl rfl rfl rfl (Nat.le_of_ble_eq_true rfl)) ?_
     rintro _ w H a hE
     refine WR.done rfl ?_
     refine Runs.retO (vs := [.agg #[.int .i64 0, .int .i64 0, .int .i64 0, .int .i64 0, .int .i64 0, .int .i64 t_5.1]]) (obs := [.cell ⟨r1, 0, none⟩ (.int .i64 0), .cell ⟨r1, 1, none⟩ (.int .i64 0), .cell ⟨r1, 2, none⟩ (.int .i64 0), .cell ⟨r1, 3, none⟩ (.int .i64 0), .cell ⟨r1, 4, none⟩ (.int .i64 0), .cell ⟨r1, 5, none⟩ (.int .i64 t_5.1)]) hE Tryz.func67 rfl [.int .i64 0, .int .i64 0, .int .i64 0, .int .i64 0, .int .i64 0, .int .i64 t_5.1] (by kernel_rfl) ⟨H.cell 0 rfl rfl, H.cell 0 rfl rfl, H.cell 0 rfl rfl, H.cell 0 rfl rfl, H.cell 0 rfl rfl, H.cell 0 rfl rfl, trivial⟩ ?_
     cases hm
     exact ⟨z6, z7, z8, rfl, H.x2.x0⟩
    ·replace hm := cond_f c hm
     refine Runs.skip ?_
     refine Runs.inBlock ?_
     refine Runs.sr ?_
     refine WR.d0 hE 1 [(58, .agg #[.int .i64 12, .int .i64 0, .int .i64 0, .int .i64 0, .int .i64 0, .int .i64 0])] fun a hE => ?_
     refine WR.eff0 hE rfl rfl rfl (OpTo.store hE H rfl rfl rfl rfl rfl rfl (Nat.le_of_ble_eq_true rfl)) ?_
     rintro _ w H a hE
     refine WR.done rfl ?_
     refine Runs.retO (vs := [.agg #[.int .i64 12, .int .i64 0, .int .i64 0, .int .i64 0, .int .i64 0, .int .i64 0]]) (obs := [.cell ⟨r1, 0, none⟩ (.int .i64 12), .cell ⟨r1, 1, none⟩ (.int .i64 0), .cell ⟨r1, 2, none⟩ (.int .i64 0), .cell ⟨r1, 3, none⟩ (.int .i64 0), .cell ⟨r1, 4, none⟩ (.int .i64 0), .cell ⟨r1, 5, none⟩ (.int .i64 0)]) hE Tryz.func67 rfl [.int .i64 12, .int .i64 0, .int .i64 0, .int .i64 0, .int .i64 0, .int .i64 0] (by kernel_rfl) ⟨H.cell 0 rfl rfl, H.cell 0 rfl rfl, H.cell 0 rfl rfl, H.cell 0 rfl rfl, H.cell 0 rfl rfl, H.cell 0 rfl rfl, trivial⟩ ?_
     cases hm
     exact ⟨al_b.s_a, al_b.l_b, al_b.l_c, rfl, H.x1.x0⟩

theorem trace_Book_Run_ok {w0 w : World} {As : List HP} {k : Nat} {p_b : Nat} {al_b : trace_Book.A} {b : trace_Book} {sb_l : Option Addr} {sc_l : Nat} {l : List api_Act} {X_l : HP} {t : (List api_Reply) × trace_Book} (hX_l : SlRd X_l api_Act.enc 8 sb_l l) (hC_l : l.length ≤ sc_l) (hm : trace_Book_Run k b l = some t) (H : St w0 (trace_Book.R p_b al_b b :: X_l :: As) w) :
    CallsR Tryz.prog 43 #[.pointer (some ⟨p_b, 0, none⟩), .slice sb_l l.length sc_l] w fun v w' => ∃ (sb0 : Option Addr), ∃ (sc0 : Nat), ∃ (z_b_s_a : server_Server.A), ∃ (z_b_l_b : Option Addr), ∃ (z_b_l_c : Nat), v = .slice sb0 t.1.length sc0 ∧ St w0 (Sl 35 api_Reply.enc 6 sb0 sc0 t.1 :: trace_Book.R p_b (trace_Book.A.mk al_b.s_p z_b_s_a z_b_l_b z_b_l_c) t.2 :: X_l :: As) w' := by
 rw [trace_Book_Run] at hm
 refine enter (args := [.pointer (some ⟨p_b, 0, none⟩), .slice sb_l l.length sc_l]) Tryz.func43 rfl rfl rfl fun a hE => ?_
 refine Runs.sr ?_
 refine WR.seg hE 1 [] [0, 1] (Lo := [(0, .pointer (some ⟨p_b, 0, none⟩)), (1, .slice sb_l l.length sc_l)]) (obs := []) rfl (by kernel_rfl) trivial fun a hE => ?_
 refine WR.done rfl ?_
 refine Runs.sr ?_
 refine WR.e0 hE [(5, .slice none 0 0)] fun a hE => ?_
 refine Runs.seq ?_
 refine Runs.sr ?_
 refine WR.e0 hE [(8, .slice sb_l l.length sc_l), (9, .int .i64 (l.length : Int)), (10, .int .i64 0)] fun a hE => ?_
 obtain ⟨s, es, hm⟩ := bind_some hm
 refine Runs.join (fun a w => ∃ (sb1 : Option Addr), ∃ (sc1 : Nat), ∃ (z3 : server_Server.A), ∃ (z4 : Option Addr), ∃ (z5 : Nat), EnvOk 22 a [(5, .slice sb1 s.1.length sc1)] ∧ St w0 (Sl 35 api_Reply.enc 6 sb1 sc1 s.1 :: trace_Book.R p_b (trace_Book.A.mk al_b.s_p z3 z4 z5) s.2 :: X_l :: As) w) (fun hk => ?_) ?_
 ·replace hm := es; clear es
  replace H := H.slNil 35 api_Reply.enc 6
  refine Runs.block ?_
  refine Runs.loop (fun m a w => ∃ (out : List api_Reply), ∃ (x : Int), ∃ (m_ : trace_Book), ∃ (sb2 : Option Addr), ∃ (sc2 : Nat), ∃ (z6 : server_Server.A), ∃ (z7 : Option Addr), ∃ (z8 : Nat), EnvOk 22 a [(0, .pointer (some ⟨p_b, 0, none⟩)), (5, .slice sb2 out.length sc2), (8, .slice sb_l l.length sc_l), (9, .int .i64 (l.length : Int)), (10, .int .i64 x)] ∧ St w0 (Sl 35 api_Reply.enc 6 sb2 sc2 out :: trace_Book.R p_b (trace_Book.A.mk al_b.s_p z6 z7 z8) m_ :: X_l :: As) w ∧ trace_Book_Run_l0 (l.length : Int) l m out x m_ = some s) k ⟨([] : List api_Reply), 0, b, none, 0, al_b.s_a, al_b.l_b, al_b.l_c, hE.sel [0, 5, 8, 9, 10] (by kernel_rfl), H.t2.t2.t2, hm⟩ ?_
  rintro m ih a w ⟨out, x, m_, sb2, sc2, z6, z7, z8, hE, H, hm⟩
  cases m with
  | zero => simp [trace_Book_Run_l0] at hm
  | succ m =>
   rw [trace_Book_Run_l0] at hm
   refine Runs.sr ?_
   refine WR.seg hE 1 [] [0, 5, 8, 9, 10, 11] (Lo := [(0, .pointer (some ⟨p_b, 0, none⟩)), (5, .slice sb2 out.length sc2), (8, .slice sb_l l.length sc_l), (9, .int .i64 (l.length : Int)), (10, .int .i64 x), (11, .bool (decide (x < (l.length : Int))))]) (obs := []) rfl (by kernel_rfl) trivial fun a hE => ?_
   refine WR.done rfl ?_
   refine Runs.seq ?_
   refine Runs.cond hE rfl (fun c => ?_) (fun c => ?_)
   ·replace hm := cond_t c hm
    refine Runs.skip ?_
    refine Runs.seq ?_
    refine Runs.block ?_
    refine Runs.sr ?_
    obtain ⟨x2, ex2, hm⟩ := bind_some hm
    obtain ⟨b1, o, hs, hb⟩ := SlRd.base hX_l api_Act.enc_ok H 2 rfl ex2
    refine WR.d hE 2 [.pointer (some ⟨b1, o, none⟩), .int .i64 x2.Kind, .int .i64 x2.Box, .int .i64 x2.Command.Kind, .int .i64 x2.Command.Queue, .int .i64 x2.Command.Job.At, .int .i64 x2.Command.Job.Gen, .int .i64 x2.Command.Time, .int .i64 x2.Command.Data] [(13, .agg #[.int .i64 x2.Kind, .int .i64 x2.Box, .int .i64 x2.Command.Kind, .int .i64 x2.Command.Queue, .int .i64 x2.Command.Job.At, .int .i64 x2.Command.Job.Gen, .int .i64 x2.Command.Time, .int .i64 x2.Command.Data])] (obs := [.p ((sb_l : Option Addr) = some ⟨b1, o, none⟩), .p (0 ≤ (x : Int) ∧ (x : Int) < ((l.length : Nat) : Int)), .cell ⟨b1, o + (Int.toNat x) * 8, none⟩ (.int .i64 x2.Kind), .cell ⟨b1, o + (Int.toNat x) * 8 + 1, none⟩ (.int .i64 x2.Box), .cell ⟨b1, o + (Int.toNat x) * 8 + 2, none⟩ (.int .i64 x2.Command.Kind), .cell ⟨b1, o + (Int.toNat x) * 8 + 3, none⟩ (.int .i64 x2.Command.Queue), .cell ⟨b1, o + (Int.toNat x) * 8 + 4, none⟩ (.int .i64 x2.Command.Job.At), .cell ⟨b1, o + (Int.toNat x) * 8 + 5, none⟩ (.int .i64 x2.Command.Job.Gen), .cell ⟨b1, o + (Int.toNat x) * 8 + 6, none⟩ (.int .i64 x2.Command.Time), .cell ⟨b1, o + (Int.toNat x) * 8 + 7, none⟩ (.int .i64 x2.Command.Data)]) ⟨hs, hb, SlRd.cells hX_l api_Act.enc_ok H 2 rfl hs ex2 0 _ rfl, SlRd.cells hX_l api_Act.enc_ok H 2 rfl hs ex2 1 _ rfl, SlRd.cells hX_l api_Act.enc_ok H 2 rfl hs ex2 2 _ rfl, SlRd.cells hX_l api_Act.enc_ok H 2 rfl hs ex2 3 _ rfl, SlRd.cells hX_l api_Act.enc_ok H 2 rfl hs ex2 4 _ rfl, SlRd.cells hX_l api_Act.enc_ok H 2 rfl hs ex2 5 _ rfl, SlRd.cells hX_l api_Act.enc_ok H 2 rfl hs ex2 6 _ rfl, SlRd.cells hX_l api_Act.enc_ok H 2 rfl hs ex2 7 _ rfl, trivial⟩ fun a hE => ?_
    refine WR.eff hE rfl rfl rfl rfl (OpTo.new hE H [] (.cells #[.int .i64 0, .int .i64 0, .int .i64 0, .int .i64 0, .int .i64 0, .int .i64 0, .int .i64 0, .int .i64 0] 42 (0, 0)) (fun r => .pointer (some ⟨r, 0, none⟩)) (obs := []) rfl (fun _ => by kernel_rfl) trivial) ?_
    rintro _ w ⟨r, rfl, H⟩ a hE
    refine WR.eff0 hE rfl rfl rfl (OpTo.store hE H rfl rfl rfl rfl rfl rfl (Nat.le_of_ble_eq_true rfl)) ?_
    rintro _ w H a hE
    refine WR.done rfl ?_
    refine Runs.region ?_
    refine WR.d hE 3 [.int .i64 x2.Kind, .int .i64 x2.Box, .int .i64 x2.Command.Kind, .int .i64 x2.Command.Queue, .int .i64 x2.Command.Job.At, .int .i64 x2.Command.Job.Gen, .int .i64 x2.Command.Time, .int .i64 x2.Command.Data] [(14, .slice sb2 out.length sc2), (15, .pointer (some ⟨p_b, 0, none⟩)), (16, .agg #[.int .i64 x2.Kind, .int .i64 x2.Box, .int .i64 x2.Command.Kind, .int .i64 x2.Command.Queue, .int .i64 x2.Command.Job.At, .int .i64 x2.Command.Job.Gen, .int .i64 x2.Command.Time, .int .i64 x2.Command.Data])] (obs := [.cell ⟨r, 0, none⟩ (.int .i64 x2.Kind), .cell ⟨r, 1, none⟩ (.int .i64 x2.Box), .cell ⟨r, 2, none⟩ (.int .i64 x2.Command.Kind), .cell ⟨r, 3, none⟩ (.int .i64 x2.Command.Queue), .cell ⟨r, 4, none⟩ (.int .i64 x2.Command.Job.At), .cell ⟨r, 5, none⟩ (.int .i64 x2.Command.Job.Gen), .cell ⟨r, 6, none⟩ (.int .i64 x2.Command.Time), .cell ⟨r, 7, none⟩ (.int .i64 x2.Command.Data)]) ⟨H.cell 0 rfl rfl, H.cell 0 rfl rfl, H.cell 0 rfl rfl, H.cell 0 rfl rfl, H.cell 0 rfl rfl, H.cell 0 rfl rfl, H.cell 0 rfl rfl, H.cell 0 rfl rfl, trivial⟩ fun a hE => ?_
    obtain ⟨t_, et_, hm⟩ := bind_some hm
    refine WR.eff hE rfl rfl rfl rfl (OpTo.fn hE rfl rfl Tryz.call67 (trace_Book_Act_ok et_ H.t2)) ?_
    rintro _ w ⟨z9, z10, z11, rfl, H⟩ a hE
    refine WR.eff hE rfl rfl rfl rfl (OpTo.buildSl (T := 35) hE H api_Reply.enc_ok ([t_.1] : List api_Reply) rfl (fun _ => by kernel_rfl) rfl rfl rfl) ?_
    rintro _ w ⟨r1, rfl, H⟩ a hE
    obtain ⟨l2, el2, hm⟩ := bind_some hm
    replace H := H.t3
    refine WR.eff hE rfl rfl rfl rfl (OpTo.appendM el2 hE H api_Reply.enc_ok rfl rfl rfl rfl rfl rfl rfl rfl rfl rfl (SlRd.all (sl_rd 35 api_Reply.enc 6 _ _ _) api_Reply.enc_ok H 1 rfl) rfl) ?_
    rintro _ w ⟨sb3, sc3, rfl, H⟩ a hE
    refine WR.e0 hE [(5, .slice sb3 l2.length sc3)] fun a hE => ?_
    refine Runs.inBlock ?_
    refine Runs.region ?_
    refine WR.e0 hE [(10, .int .i64 (w64 (x + 1)))] fun a hE => ?_
    exact ih m (Nat.lt_succ_self m) _ _ ⟨l2, w64 (x + 1), t_.2, sb3, sc3, z9, z10, z11, hE.sel [0, 5, 8, 9, 10] (by kernel_rfl), H.x3.x1.t2.t2.t2, hm⟩
   ·replace hm := cond_f c hm
    refine Runs.exit rfl ?_
    cases hm
    exact hk _ _ ⟨sb2, sc2, z6, z7, z8, hE.sel [5] (by kernel_rfl), H.t2.t2.t2⟩
 rintro a w ⟨sb1, sc1, z3, z4, z5, hE, H⟩
 refine Runs.sr ?_
 refine WR.seg hE 2 [] [4] (Lo := [(4, .slice sb1 s.1.length sc1)]) (obs := []) rfl (by kernel_rfl) trivial fun a hE => ?_
 refine WR.done rfl ?_
 refine Runs.ret hE Tryz.func43 rfl rfl ?_
 cases hm
 exact ⟨sb1, sc1, z3, z4, z5, rfl, H.t2.t2.t2⟩

theorem slices_Clone_trace_Event_ok {w0 w : World} {As : List HP} {sb_s : Option Addr} {sc_s : Nat} {s : List trace_Event} {X_s : HP} {t : List trace_Event} (hX_s : SlRd X_s trace_Event.enc 14 sb_s s) (hC_s : s.length ≤ sc_s) (hm : lClone s = some t) (H : St w0 (X_s :: As) w) :
    CallsR Tryz.prog 68 #[.slice sb_s s.length sc_s] w fun v w' => ∃ (sb0 : Option Addr) (sc0 : Nat), v = .slice sb0 t.length sc0 ∧ St w0 (Sl 147 trace_Event.enc 14 sb0 sc0 t :: X_s :: As) w' := by
  unfold lClone at hm
  split at hm
  · rename_i hmx
    cases hm
    have he := trace_Event.enc_ok
    refine enter (args := [.slice sb_s s.length sc_s]) Tryz.func68 rfl rfl rfl fun a hE => ?_
    refine Runs.seq ?_
    refine Runs.region ?_
    refine WR.seg hE 1 [] [0] (Lo := [(0, .slice sb_s s.length sc_s)]) (obs := []) rfl (by kernel_rfl) trivial fun a hE => ?_
    refine WR.done rfl ?_
    refine Runs.seq ?_
    refine Runs.seq ?_
    refine Runs.region ?_
    cases sb_s with
    | none =>
      have hs : s = [] := by
        obtain ⟨h1, _, h⟩ := H.at 0 rfl
        rcases hX_s h1 h with h | ⟨b, off, cs, T, fr, h, _⟩
        · exact h
        · cases h
      subst hs
      refine WR.seg hE 2 [] [4] (Lo := [(4, .bool true)]) (obs := []) rfl (by kernel_rfl) trivial fun a hE => ?_
      refine WR.done rfl ?_
      refine Runs.condT hE rfl ?_
      refine Runs.seq ?_
      refine Runs.region ?_
      refine WR.seg hE 1 [] [2] (Lo := [(2, .slice none 0 0)]) (obs := []) rfl (by kernel_rfl) trivial fun a hE => ?_
      refine WR.done rfl ?_
      refine Runs.ret hE Tryz.func68 rfl rfl ?_
      exact ⟨none, 0, rfl, H.slNil 147 trace_Event.enc 14⟩
    | some ad =>
      refine WR.seg hE 2 [] [0, 4] (Lo := [(0, .slice (some ad) s.length sc_s), (4, .bool false)]) (obs := []) rfl (by kernel_rfl) trivial fun a hE => ?_
      refine WR.done rfl ?_
      refine Runs.condF hE rfl ?_
      refine Runs.skip ?_
      refine Runs.seq ?_
      refine Runs.region ?_
      refine WR.eff hE rfl rfl rfl rfl (OpTo.buildSl (T := 147) hE H he ([] : List trace_Event) rfl (fun _ => by kernel_rfl) rfl rfl rfl) ?_
      rintro _ w ⟨r, rfl, H⟩ a hE
      refine WR.seg hE 2 [] [5, 6] (Lo := [(5, .slice (some ⟨r, 0, none⟩) ([] : List trace_Event).length 0), (6, .slice (some ad) s.length sc_s)]) (obs := []) rfl (by kernel_rfl) trivial fun a hE => ?_
      have happ : mApp ([] : List trace_Event) s = some s := by unfold mApp; rw [if_pos (by simpa using hmx)]; simp
      refine WR.eff hE rfl rfl rfl rfl (OpTo.appendM happ hE H he rfl rfl rfl rfl rfl rfl rfl rfl rfl rfl (SlRd.all hX_s he H 1 rfl) rfl) ?_
      rintro _ w ⟨sb, sc, rfl, H⟩ a hE
      refine WR.seg hE 4 [] [2] (Lo := [(2, .slice sb s.length sc)]) (obs := []) rfl (by kernel_rfl) trivial fun a hE => ?_
      refine WR.done rfl ?_
      refine Runs.ret hE Tryz.func68 rfl rfl ?_
      exact ⟨sb, sc, rfl, H⟩
  · cases hm

theorem trace_Book_Events_ok {w0 w : World} {As : List HP} {p_b : Nat} {al_b : trace_Book.A} {b : trace_Book} {t : (List trace_Event)}  (hm : trace_Book_Events b = some t) (H : St w0 (trace_Book.R p_b al_b b :: As) w) :
    CallsR Tryz.prog 44 #[.pointer (some ⟨p_b, 0, none⟩)] w fun v w' => ∃ (sb0 : Option Addr), ∃ (sc0 : Nat), v = .slice sb0 t.length sc0 ∧ St w0 (Sl 147 trace_Event.enc 14 sb0 sc0 t :: trace_Book.R p_b al_b b :: As) w' := by
 rw [trace_Book_Events] at hm
 refine enter (args := [.pointer (some ⟨p_b, 0, none⟩)]) Tryz.func44 rfl rfl rfl fun a hE => ?_
 refine Runs.sr ?_
 refine WR.seg hE 1 [] [0] (Lo := [(0, .pointer (some ⟨p_b, 0, none⟩))]) (obs := []) rfl (by kernel_rfl) trivial fun a hE => ?_
 refine WR.done rfl ?_
 refine Runs.sr ?_
 replace H := trace_Book.open H
 refine WR.d hE 4 [.slice al_b.l_b b.l.length al_b.l_c] [(6, .slice al_b.l_b b.l.length al_b.l_c)] (obs := [.cell ⟨p_b, 1, none⟩ (.slice al_b.l_b b.l.length al_b.l_c)]) ⟨H.cell 0 rfl rfl, trivial⟩ fun a hE => ?_
 obtain ⟨t_, et_, hm⟩ := bind_some hm
 replace H := H.t2
 refine WR.eff hE rfl rfl rfl rfl (OpTo.fn hE rfl rfl Tryz.call68 (slices_Clone_trace_Event_ok (hX_s := (sl_rd 147 trace_Event.enc 14 _ _ _)) (hC_s := (H.slCap 0 rfl).1) et_ H)) ?_
 rintro _ w ⟨sb, sc, rfl, H⟩ a hE
 refine WR.e0 hE [(2, .slice sb t_.length sc)] fun a hE => ?_
 replace H := trace_Book.shut al_b (b) H.t1.t3.t3
 refine Runs.ret hE Tryz.func44 rfl rfl ?_
 cases hm
 exact ⟨sb, sc, rfl, H.t1⟩

theorem shell_Do_ok {w0 w : World} {As : List HP} {k : Nat} {s : shell_Script} {al_s : shell_Script.A} {X_s : HP} {t : shell_Result} (hX_s_Acts : SlRd X_s api_Act.enc 8 al_s.Acts_b s.Acts) (hC_s_Acts : s.Acts.length ≤ al_s.Acts_c) (hm : shell_Do k s = some t) (H : St w0 (X_s :: As) w) :
    CallsR Tryz.prog 19 #[.agg #[.int .i64 s.Kind, .int .i64 s.Jobs, .int .i64 s.Boxes, .int .i64 s.Room, .slice al_s.Acts_b s.Acts.length al_s.Acts_c]] w fun v w' => ∃ (sb0_Replies : Option Addr), ∃ (sc0_Replies : Nat), ∃ (sb0_Events : Option Addr), ∃ (sc0_Events : Nat), v = .agg #[.slice sb0_Replies t.Replies.length sc0_Replies, .slice sb0_Events t.Events.length sc0_Events, .int .i64 t.Why] ∧ St w0 (Sl 35 api_Reply.enc 6 sb0_Replies sc0_Replies t.Replies :: Sl 147 trace_Event.enc 14 sb0_Events sc0_Events t.Events :: X_s :: As) w' := by
 rw [shell_Do] at hm
 refine enter (args := [.agg #[.int .i64 s.Kind, .int .i64 s.Jobs, .int .i64 s.Boxes, .int .i64 s.Room, .slice al_s.Acts_b s.Acts.length al_s.Acts_c]]) Tryz.func19 rfl rfl rfl fun a hE => ?_
 refine Runs.sr ?_
 refine WR.eff hE rfl rfl rfl rfl (OpTo.new hE H [] (.cells #[.int .i64 s.Kind, .int .i64 s.Jobs, .int .i64 s.Boxes, .int .i64 s.Room, .slice al_s.Acts_b s.Acts.length al_s.Acts_c] 45 (0, 0)) (fun r => .pointer (some ⟨r, 0, none⟩)) (obs := []) rfl (fun _ => by kernel_rfl) trivial) ?_
 rintro _ w ⟨r, rfl, H⟩ a hE
 refine WR.eff hE rfl rfl rfl rfl (OpTo.new hE H [] (.cells #[.slice none 0 0, .slice none 0 0, .int .i64 0] 56 (0, 0)) (fun r => .pointer (some ⟨r, 0, none⟩)) (obs := []) rfl (fun _ => by kernel_rfl) trivial) ?_
 rintro _ w ⟨r1, rfl, H⟩ a hE
 refine WR.done rfl ?_
 refine Runs.sr ?_
 refine WR.seg hE 8 [.int .i64 s.Kind, .int .i64 s.Jobs, .int .i64 s.Boxes, .int .i64 s.Room] [1, 2, 8, 10, 12, 14] (Lo := [(1, .pointer (some ⟨r, 0, none⟩)), (2, .pointer (some ⟨r1, 0, none⟩)), (8, .int .i64 s.Kind), (10, .int .i64 s.Jobs), (12, .int .i64 s.Boxes), (14, .int .i64 s.Room)]) (obs := [.cell ⟨r, 0, none⟩ (.int .i64 s.Kind), .cell ⟨r, 1, none⟩ (.int .i64 s.Jobs), .cell ⟨r, 2, none⟩ (.int .i64 s.Boxes), .cell ⟨r, 3, none⟩ (.int .i64 s.Room)]) rfl (by kernel_rfl) ⟨H.cell 1 rfl rfl, H.cell 1 rfl rfl, H.cell 1 rfl rfl, H.cell 1 rfl rfl, trivial⟩ fun a hE => ?_
 obtain ⟨t_, et_, hm⟩ := bind_some hm
 refine WR.eff hE rfl rfl rfl rfl (OpTo.fn hE rfl rfl Tryz.call42 (trace_New_ok et_ H)) ?_
 rintro _ w ⟨p, al, rfl, H⟩ a hE
 rcases ho : t_.1 with _ | m_
 ·replace hm := case_n ho hm
  rw [ho] at hE H
  replace H := H.x0
  refine WR.seg hE 14 [] [1, 2, 3, 4] (Lo := [(1, .pointer (some ⟨r, 0, none⟩)), (2, .pointer (some ⟨r1, 0, none⟩)), (3, .pointer none), (4, .int .i64 t_.2)]) (obs := []) rfl (by kernel_rfl) trivial fun a hE => ?_
  refine WR.done rfl ?_
  refine Runs.seq ?_
  refine Runs.sr ?_
  refine WR.e0 hE [(19, .bool (t_.2 != 0))] fun a hE => ?_
  refine Runs.cond hE rfl (fun c => ?_) (fun c => ?_)
  ·replace hm := cond_t c hm
   refine Runs.sr ?_
   refine WR.d0 hE 2 [(21, .agg #[.slice none 0 0, .slice none 0 0, .int .i64 t_.2])] fun a hE => ?_
   refine WR.eff0 hE rfl rfl rfl (OpTo.store hE H rfl rfl rfl rfl rfl rfl (Nat.le_of_ble_eq_true rfl)) ?_
   rintro _ w H a hE
   refine WR.done rfl ?_
   refine Runs.retO (vs := [.agg #[.slice none 0 0, .slice none 0 0, .int .i64 t_.2]]) (obs := [.cell ⟨r1, 0, none⟩ (.slice none 0 0), .cell ⟨r1, 1, none⟩ (.slice none 0 0), .cell ⟨r1, 2, none⟩ (.int .i64 t_.2)]) hE Tryz.func19 rfl [.slice none 0 0, .slice none 0 0, .int .i64 t_.2] (by kernel_rfl) ⟨H.cell 0 rfl rfl, H.cell 0 rfl rfl, H.cell 0 rfl rfl, trivial⟩ ?_
   replace H := H.slNil 35 api_Reply.enc 6
   replace H := H.slNil 147 trace_Event.enc 14
   cases hm
   exact ⟨none, 0, none, 0, rfl, H.x3.x2.t2.t1.t2⟩
  ·replace hm := cond_f c hm
   refine Runs.skip ?_
   refine Runs.sr ?_
   obtain ⟨l, el, hm⟩ := bind_some hm
   obtain ⟨sb, q⟩ : ∃ z, rebase al_s.Acts_b al_s.Acts_c (Int.toNat 0) 8 = z := ⟨_, rfl⟩
   obtain ⟨sc, q1⟩ : ∃ z, al_s.Acts_c - (Int.toNat 0) = z := ⟨_, rfl⟩
   refine WR.d hE 8 [.slice al_s.Acts_b s.Acts.length al_s.Acts_c, .slice al_s.Acts_b s.Acts.length al_s.Acts_c, .slice sb l.length sc] [(22, .pointer none), (29, .slice sb l.length sc)] (obs := [.cell ⟨r, 4, none⟩ (.slice al_s.Acts_b s.Acts.length al_s.Acts_c), .cell ⟨r, 4, none⟩ (.slice al_s.Acts_b s.Acts.length al_s.Acts_c), .p (rebase al_s.Acts_b al_s.Acts_c 0 8 = sb), .p ((Int.toNat (if 256 < (s.Acts.length : Int) then 256 else (s.Acts.length : Int))) - 0 = l.length), .p (al_s.Acts_c - 0 = sc), .p (0 ≤ ((if 256 < (s.Acts.length : Int) then 256 else (s.Acts.length : Int)) : Int) ∧ ((if 256 < (s.Acts.length : Int) then 256 else (s.Acts.length : Int)) : Int) ≤ ((al_s.Acts_c : Nat) : Int))]) ⟨H.cell 1 rfl rfl, H.cell 1 rfl rfl, q, cut_len el, q1, cut_cap el hC_s_Acts, trivial⟩ fun a hE => ?_
   obtain ⟨t_1, et_1, hm⟩ := bind_some hm
   replace H := H.t2
   refine WR.eff hE rfl rfl rfl rfl (OpTo.fn hE rfl rfl Tryz.call43 (trace_Book_Run_nil0_ok (hX_l := (hX_s_Acts.cut' api_Act.enc_ok el (hC_s_Acts) q)) (hC_l := (cut_cap2 el hC_s_Acts q1)) et_1 H)) ?_
   rintro _ w ⟨sb1, sc1, rfl, H⟩ a hE
   refine WR.e0 hE [(5, .slice sb1 t_1.length sc1)] fun a hE => ?_
   refine Runs.sr ?_
   refine WR.d0 hE 2 [(31, .slice sb1 t_1.length sc1), (32, .pointer none)] fun a hE => ?_
   obtain ⟨t_2, et_2, hm⟩ := bind_some hm
   refine WR.eff hE rfl rfl rfl rfl (OpTo.fn hE rfl rfl Tryz.call44 (trace_Book_Events_nil0_ok et_2 H)) ?_
   rintro _ w ⟨sb2, sc2, rfl, H⟩ a hE
   refine WR.d0 hE 4 [(34, .agg #[.slice sb1 t_1.length sc1, .slice sb2 t_2.length sc2, .int .i64 0])] fun a hE => ?_
   refine WR.eff0 hE rfl rfl rfl (OpTo.store hE H.t3 rfl rfl rfl rfl rfl rfl (Nat.le_of_ble_eq_true rfl)) ?_
   rintro _ w H a hE
   refine WR.done rfl ?_
   refine Runs.retO (vs := [.agg #[.slice sb1 t_1.length sc1, .slice sb2 t_2.length sc2, .int .i64 0]]) (obs := [.cell ⟨r1, 0, none⟩ (.slice sb1 t_1.length sc1), .cell ⟨r1, 1, none⟩ (.slice sb2 t_2.length sc2), .cell ⟨r1, 2, none⟩ (.int .i64 0)]) hE Tryz.func19 rfl [.slice sb1 t_1.length sc1, .slice sb2 t_2.length sc2, .int .i64 0] (by kernel_rfl) ⟨H.cell 0 rfl rfl, H.cell 0 rfl rfl, H.cell 0 rfl rfl, trivial⟩ ?_
   cases hm
   exact ⟨sb1, sc1, sb2, sc2, rfl, H.x4.x0.t2.t1.t2⟩
 ·replace hm := case_s ho hm
  rw [ho] at hE H
  replace H : St w0 (trace_Book.R p al m_ :: _) _ := H
  refine WR.seg hE 14 [] [1, 2, 3, 4] (Lo := [(1, .pointer (some ⟨r, 0, none⟩)), (2, .pointer (some ⟨r1, 0, none⟩)), (3, .pointer (some ⟨p, 0, none⟩)), (4, .int .i64 t_.2)]) (obs := []) rfl (by kernel_rfl) trivial fun a hE => ?_
  refine WR.done rfl ?_
  refine Runs.seq ?_
  refine Runs.sr ?_
  refine WR.e0 hE [(19, .bool (t_.2 != 0))] fun a hE => ?_
  refine Runs.cond hE rfl (fun c => ?_) (fun c => ?_)
  ·replace hm := cond_t c hm
   refine Runs.sr ?_
   refine WR.d0 hE 2 [(21, .agg #[.slice none 0 0, .slice none 0 0, .int .i64 t_.2])] fun a hE => ?_
   refine WR.eff0 hE rfl rfl rfl (OpTo.store hE H.t1 rfl rfl rfl rfl rfl rfl (Nat.le_of_ble_eq_true rfl)) ?_
   rintro _ w H a hE
   refine WR.done rfl ?_
   refine Runs.retO (vs := [.agg #[.slice none 0 0, .slice none 0 0, .int .i64 t_.2]]) (obs := [.cell ⟨r1, 0, none⟩ (.slice none 0 0), .cell ⟨r1, 1, none⟩ (.slice none 0 0), .cell ⟨r1, 2, none⟩ (.int .i64 t_.2)]) hE Tryz.func19 rfl [.slice none 0 0, .slice none 0 0, .int .i64 t_.2] (by kernel_rfl) ⟨H.cell 0 rfl rfl, H.cell 0 rfl rfl, H.cell 0 rfl rfl, trivial⟩ ?_
   replace H := H.slNil 35 api_Reply.enc 6
   replace H := H.slNil 147 trace_Event.enc 14
   cases hm
   exact ⟨none, 0, none, 0, rfl, H.x4.x3.x2.t2.t1.t2⟩
  ·replace hm := cond_f c hm
   refine Runs.skip ?_
   refine Runs.sr ?_
   obtain ⟨l1, el1, hm⟩ := bind_some hm
   obtain ⟨sb3, q2⟩ : ∃ z, rebase al_s.Acts_b al_s.Acts_c (Int.toNat 0) 8 = z := ⟨_, rfl⟩
   obtain ⟨sc3, q3⟩ : ∃ z, al_s.Acts_c - (Int.toNat 0) = z := ⟨_, rfl⟩
   refine WR.d hE 8 [.slice al_s.Acts_b s.Acts.length al_s.Acts_c, .slice al_s.Acts_b s.Acts.length al_s.Acts_c, .slice sb3 l1.length sc3] [(22, .pointer (some ⟨p, 0, none⟩)), (29, .slice sb3 l1.length sc3)] (obs := [.cell ⟨r, 4, none⟩ (.slice al_s.Acts_b s.Acts.length al_s.Acts_c), .cell ⟨r, 4, none⟩ (.slice al_s.Acts_b s.Acts.length al_s.Acts_c), .p (rebase al_s.Acts_b al_s.Acts_c 0 8 = sb3), .p ((Int.toNat (if 256 < (s.Acts.length : Int) then 256 else (s.Acts.length : Int))) - 0 = l1.length), .p (al_s.Acts_c - 0 = sc3), .p (0 ≤ ((if 256 < (s.Acts.length : Int) then 256 else (s.Acts.length : Int)) : Int) ∧ ((if 256 < (s.Acts.length : Int) then 256 else (s.Acts.length : Int)) : Int) ≤ ((al_s.Acts_c : Nat) : Int))]) ⟨H.cell 2 rfl rfl, H.cell 2 rfl rfl, q2, cut_len el1, q3, cut_cap el1 hC_s_Acts, trivial⟩ fun a hE => ?_
   obtain ⟨t_3, et_3, hm⟩ := bind_some hm
   replace H := H.t3.t1
   refine WR.eff hE rfl rfl rfl rfl (OpTo.fn hE rfl rfl Tryz.call43 (trace_Book_Run_ok (hX_l := (hX_s_Acts.cut' api_Act.enc_ok el1 (hC_s_Acts) q2)) (hC_l := (cut_cap2 el1 hC_s_Acts q3)) et_3 H)) ?_
   rintro _ w ⟨sb4, sc4, z, z1, z2, rfl, H⟩ a hE
   refine WR.e0 hE [(5, .slice sb4 t_3.1.length sc4)] fun a hE => ?_
   refine Runs.sr ?_
   refine WR.d0 hE 2 [(31, .slice sb4 t_3.1.length sc4), (32, .pointer (some ⟨p, 0, none⟩))] fun a hE => ?_
   obtain ⟨t_4, et_4, hm⟩ := bind_some hm
   refine WR.eff hE rfl rfl rfl rfl (OpTo.fn hE rfl rfl Tryz.call44 (trace_Book_Events_ok et_4 H.t1)) ?_
   rintro _ w ⟨sb5, sc5, rfl, H⟩ a hE
   refine WR.d0 hE 4 [(34, .agg #[.slice sb4 t_3.1.length sc4, .slice sb5 t_4.length sc5, .int .i64 0])] fun a hE => ?_
   refine WR.eff0 hE rfl rfl rfl (OpTo.store hE H.t4 rfl rfl rfl rfl rfl rfl (Nat.le_of_ble_eq_true rfl)) ?_
   rintro _ w H a hE
   refine WR.done rfl ?_
   refine Runs.retO (vs := [.agg #[.slice sb4 t_3.1.length sc4, .slice sb5 t_4.length sc5, .int .i64 0]]) (obs := [.cell ⟨r1, 0, none⟩ (.slice sb4 t_3.1.length sc4), .cell ⟨r1, 1, none⟩ (.slice sb5 t_4.length sc5), .cell ⟨r1, 2, none⟩ (.int .i64 0)]) hE Tryz.func19 rfl [.slice sb4 t_3.1.length sc4, .slice sb5 t_4.length sc5, .int .i64 0] (by kernel_rfl) ⟨H.cell 0 rfl rfl, H.cell 0 rfl rfl, H.cell 0 rfl rfl, trivial⟩ ?_
   cases hm
   exact ⟨sb4, sc4, sb5, sc5, rfl, H.x5.x2.x0.t2.t1.t2⟩

theorem shell_Bytes_ok {w0 w : World} {As : List HP} {k : Nat} {sb_b : Option Addr} {sc_b : Nat} {b : List Int} {X_b : HP} {t : shell_Result} (hX_b : SlRd X_b ecU 1 sb_b b) (hC_b : b.length ≤ sc_b) (hm : shell_Bytes k b = some t) (H : St w0 (X_b :: As) w) :
    CallsR Tryz.prog 45 #[.slice sb_b b.length sc_b] w fun v w' => ∃ (sb0_Replies : Option Addr), ∃ (sc0_Replies : Nat), ∃ (sb0_Events : Option Addr), ∃ (sc0_Events : Nat), v = .agg #[.slice sb0_Replies t.Replies.length sc0_Replies, .slice sb0_Events t.Events.length sc0_Events, .int .i64 t.Why] ∧ St w0 (Sl 35 api_Reply.enc 6 sb0_Replies sc0_Replies t.Replies :: Sl 147 trace_Event.enc 14 sb0_Events sc0_Events t.Events :: X_b :: As) w' := by
 rw [shell_Bytes] at hm
 refine enter (args := [.slice sb_b b.length sc_b]) Tryz.func45 rfl rfl rfl fun a hE => ?_
 refine Runs.sr ?_
 refine WR.eff hE rfl rfl rfl rfl (OpTo.new hE H [] (.cells #[.slice none 0 0, .slice none 0 0, .int .i64 0] 56 (0, 0)) (fun r => .pointer (some ⟨r, 0, none⟩)) (obs := []) rfl (fun _ => by kernel_rfl) trivial) ?_
 rintro _ w ⟨r, rfl, H⟩ a hE
 refine WR.done rfl ?_
 refine Runs.sr ?_
 refine WR.seg hE 1 [] [2, 6] (Lo := [(2, .pointer (some ⟨r, 0, none⟩)), (6, .slice sb_b b.length sc_b)]) (obs := []) rfl (by kernel_rfl) trivial fun a hE => ?_
 obtain ⟨t_, et_, hm⟩ := bind_some hm
 replace H := H.t1
 refine WR.eff hE rfl rfl rfl rfl (OpTo.fn hE rfl rfl Tryz.call24 (shell_Decode_ok (hX_b := hX_b) (hC_b := hC_b) et_ H)) ?_
 rintro _ w ⟨sb, sc, rfl, H⟩ a hE
 refine WR.d0 hE 5 [(8, .agg #[.int .i64 t_.1.Kind, .int .i64 t_.1.Jobs, .int .i64 t_.1.Boxes, .int .i64 t_.1.Room, .slice sb t_.1.Acts.length sc]), (9, .int .i64 t_.2)] fun a hE => ?_
 refine WR.eff hE rfl rfl rfl rfl (OpTo.new hE H [] (.cells #[.int .i64 0, .int .i64 0, .int .i64 0, .int .i64 0, .slice none 0 0] 45 (0, 0)) (fun r => .pointer (some ⟨r, 0, none⟩)) (obs := []) rfl (fun _ => by kernel_rfl) trivial) ?_
 rintro _ w ⟨r1, rfl, H⟩ a hE
 refine WR.eff0 hE rfl rfl rfl (OpTo.store hE H rfl rfl rfl rfl rfl rfl (Nat.le_of_ble_eq_true rfl)) ?_
 rintro _ w H a hE
 refine WR.e0 hE [(4, .int .i64 t_.2)] fun a hE => ?_
 refine Runs.seq ?_
 refine Runs.sr ?_
 refine WR.e0 hE [(11, .bool (t_.2 != 0))] fun a hE => ?_
 refine Runs.cond hE rfl (fun c => ?_) (fun c => ?_)
 ·replace hm := cond_t c hm
  refine Runs.sr ?_
  refine WR.d0 hE 2 [(13, .agg #[.slice none 0 0, .slice none 0 0, .int .i64 t_.2])] fun a hE => ?_
  refine WR.eff0 hE rfl rfl rfl (OpTo.store hE H.t3 rfl rfl rfl rfl rfl rfl (Nat.le_of_ble_eq_true rfl)) ?_
  rintro _ w H a hE
  refine WR.done rfl ?_
  refine Runs.retO (vs := [.agg #[.slice none 0 0, .slice none 0 0, .int .i64 t_.2]]) (obs := [.cell ⟨r, 0, none⟩ (.slice none 0 0), .cell ⟨r, 1, none⟩ (.slice none 0 0), .cell ⟨r, 2, none⟩ (.int .i64 t_.2)]) hE Tryz.func45 rfl [.slice none 0 0, .slice none 0 0, .int .i64 t_.2] (by kernel_rfl) ⟨H.cell 0 rfl rfl, H.cell 0 rfl rfl, H.cell 0 rfl rfl, trivial⟩ ?_
  replace H := H.slNil 35 api_Reply.enc 6
  replace H := H.slNil 147 trace_Event.enc 14
  cases hm
  exact ⟨none, 0, none, 0, rfl, H.x4.x3.x2.t2.t1.t2⟩
 ·replace hm := cond_f c hm
  refine Runs.skip ?_
  refine Runs.sr ?_
  refine WR.d hE 1 [.int .i64 t_.1.Kind, .int .i64 t_.1.Jobs, .int .i64 t_.1.Boxes, .int .i64 t_.1.Room, .slice sb t_.1.Acts.length sc] [(14, .agg #[.int .i64 t_.1.Kind, .int .i64 t_.1.Jobs, .int .i64 t_.1.Boxes, .int .i64 t_.1.Room, .slice sb t_.1.Acts.length sc])] (obs := [.cell ⟨r1, 0, none⟩ (.int .i64 t_.1.Kind), .cell ⟨r1, 1, none⟩ (.int .i64 t_.1.Jobs), .cell ⟨r1, 2, none⟩ (.int .i64 t_.1.Boxes), .cell ⟨r1, 3, none⟩ (.int .i64 t_.1.Room), .cell ⟨r1, 4, none⟩ (.slice sb t_.1.Acts.length sc)]) ⟨H.cell 0 rfl rfl, H.cell 0 rfl rfl, H.cell 0 rfl rfl, H.cell 0 rfl rfl, H.cell 0 rfl rfl, trivial⟩ fun a hE => ?_
  obtain ⟨t_1, et_1, hm⟩ := bind_some hm
  replace H := H.t1
  have hC_ := shell_Do_ok (al_s := shell_Script.A.mk sb sc) (hX_s_Acts := (sl_rd 42 api_Act.enc 8 _ _ _)) (hC_s_Acts := (H.slCap 0 rfl).1) et_1 H
  try dsimp only at hC_
  refine WR.eff hE rfl rfl rfl rfl (OpTo.fn hE rfl rfl Tryz.call19 hC_) ?_
  rintro _ w ⟨sb1, sc1, sb2, sc2, rfl, H⟩ a hE
  refine WR.eff0 hE rfl rfl rfl (OpTo.store hE H.t5 rfl rfl rfl rfl rfl rfl (Nat.le_of_ble_eq_true rfl)) ?_
  rintro _ w H a hE
  refine WR.done rfl ?_
  refine Runs.retO (vs := [.agg #[.slice sb1 t_1.Replies.length sc1, .slice sb2 t_1.Events.length sc2, .int .i64 t_1.Why]]) (obs := [.cell ⟨r, 0, none⟩ (.slice sb1 t_1.Replies.length sc1), .cell ⟨r, 1, none⟩ (.slice sb2 t_1.Events.length sc2), .cell ⟨r, 2, none⟩ (.int .i64 t_1.Why)]) hE Tryz.func45 rfl [.slice sb1 t_1.Replies.length sc1, .slice sb2 t_1.Events.length sc2, .int .i64 t_1.Why] (by kernel_rfl) ⟨H.cell 0 rfl rfl, H.cell 0 rfl rfl, H.cell 0 rfl rfl, trivial⟩ ?_
  cases hm
  exact ⟨sb1, sc1, sb2, sc2, rfl, H.x4.x3.x0.t2.t2.t2⟩

theorem thicketlaw28_known_ok {w0 w : World} {As : List HP} {k : Nat}  {t : Bool}  (hm : thicketlaw28_known k = some t) (H : St w0 (As) w) :
    CallsR Tryz.prog 20 #[] w fun v w' => v = .bool t ∧ St w0 (As) w' := by
 rw [thicketlaw28_known] at hm
 refine enter (args := []) Tryz.func20 rfl rfl rfl fun a hE => ?_
 refine Runs.sr ?_
 refine WR.seg hE 1 [] [] (Lo := []) (obs := []) rfl (by kernel_rfl) trivial fun a hE => ?_
 refine WR.done rfl ?_
 refine Runs.sr ?_
 refine WR.d0 hE 2 [(6, .agg #[.int .i64 2, .int .i64 0, .int .i64 0, .int .i64 0, .int .i64 0, .int .i64 0, .int .i64 0, .int .i64 0]), (7, .agg #[.int .i64 4, .int .i64 0, .int .i64 0, .int .i64 0, .int .i64 0, .int .i64 0, .int .i64 0, .int .i64 0])] fun a hE => ?_
 refine WR.eff hE rfl rfl rfl rfl (OpTo.buildSl (T := 42) hE H api_Act.enc_ok ([api_Act.mk 2 0 (api_Command.mk 0 0 (api_Ref.mk 0 0) 0 0), api_Act.mk 4 0 (api_Command.mk 0 0 (api_Ref.mk 0 0) 0 0)] : List api_Act) rfl (fun _ => by kernel_rfl) rfl rfl rfl) ?_
 rintro _ w ⟨r, rfl, H⟩ a hE
 refine WR.d0 hE 4 [(9, .agg #[.int .i64 1, .int .i64 4, .int .i64 1, .int .i64 1, .slice (some ⟨r, 0, none⟩) (([api_Act.mk 2 0 (api_Command.mk 0 0 (api_Ref.mk 0 0) 0 0), api_Act.mk 4 0 (api_Command.mk 0 0 (api_Ref.mk 0 0) 0 0)] : List api_Act).length) 2])] fun a hE => ?_
 refine WR.eff hE rfl rfl rfl rfl (OpTo.new hE H [] (.cells #[.int .i64 0, .int .i64 0, .int .i64 0, .int .i64 0, .slice none 0 0] 45 (0, 0)) (fun r => .pointer (some ⟨r, 0, none⟩)) (obs := []) rfl (fun _ => by kernel_rfl) trivial) ?_
 rintro _ w ⟨r1, rfl, H⟩ a hE
 refine WR.eff0 hE rfl rfl rfl (OpTo.store hE H rfl rfl rfl rfl rfl rfl (Nat.le_of_ble_eq_true rfl)) ?_
 rintro _ w H a hE
 refine WR.done rfl ?_
 refine Runs.sr ?_
 refine WR.d hE 1 [.int .i64 1, .int .i64 4, .int .i64 1, .int .i64 1, .slice (some ⟨r, 0, none⟩) (([api_Act.mk 2 0 (api_Command.mk 0 0 (api_Ref.mk 0 0) 0 0), api_Act.mk 4 0 (api_Command.mk 0 0 (api_Ref.mk 0 0) 0 0)] : List api_Act).length) 2] [(11, .agg #[.int .i64 1, .int .i64 4, .int .i64 1, .int .i64 1, .slice (some ⟨r, 0, none⟩) (([api_Act.mk 2 0 (api_Command.mk 0 0 (api_Ref.mk 0 0) 0 0), api_Act.mk 4 0 (api_Command.mk 0 0 (api_Ref.mk 0 0) 0 0)] : List api_Act).length) 2])] (obs := [.cell ⟨r1, 0, none⟩ (.int .i64 1), .cell ⟨r1, 1, none⟩ (.int .i64 4), .cell ⟨r1, 2, none⟩ (.int .i64 1), .cell ⟨r1, 3, none⟩ (.int .i64 1), .cell ⟨r1, 4, none⟩ (.slice (some ⟨r, 0, none⟩) (([api_Act.mk 2 0 (api_Command.mk 0 0 (api_Ref.mk 0 0) 0 0), api_Act.mk 4 0 (api_Command.mk 0 0 (api_Ref.mk 0 0) 0 0)] : List api_Act).length) 2)]) ⟨H.cell 0 rfl rfl, H.cell 0 rfl rfl, H.cell 0 rfl rfl, H.cell 0 rfl rfl, H.cell 0 rfl rfl, trivial⟩ fun a hE => ?_
 obtain ⟨t_, et_, hm⟩ := bind_some hm
 replace H := H.t1
 have hC_ := shell_Encode_ok (al_s := shell_Script.A.mk (some ⟨r, 0, none⟩) 2) (hX_s_Acts := (sl_rd 42 api_Act.enc 8 _ _ _)) (hC_s_Acts := (H.slCap 0 rfl).1) et_ H
 try dsimp only at hC_
 refine WR.eff hE rfl rfl rfl rfl (OpTo.fn hE rfl rfl Tryz.call16 hC_) ?_
 rintro _ w ⟨sb, sc, rfl, H⟩ a hE
 refine WR.e0 hE [(2, .slice sb t_.1.length sc), (3, .int .i64 t_.2)] fun a hE => ?_
 refine Runs.sr ?_
 refine WR.d0 hE 1 [(15, .slice sb t_.1.length sc)] fun a hE => ?_
 obtain ⟨t_1, et_1, hm⟩ := bind_some hm
 refine WR.eff hE rfl rfl rfl rfl (OpTo.fn hE rfl rfl Tryz.call45 (shell_Bytes_ok (hX_b := (sl_rd 5 ecU 1 _ _ _)) (hC_b := (H.slCap 0 rfl).1) et_1 H)) ?_
 rintro _ w ⟨sb1, sc1, sb2, sc2, rfl, H⟩ a hE
 refine WR.eff hE rfl rfl rfl rfl (OpTo.new hE H [] (.cells #[.slice none 0 0, .slice none 0 0, .int .i64 0] 56 (0, 0)) (fun r => .pointer (some ⟨r, 0, none⟩)) (obs := []) rfl (fun _ => by kernel_rfl) trivial) ?_
 rintro _ w ⟨r2, rfl, H⟩ a hE
 refine WR.eff0 hE rfl rfl rfl (OpTo.store hE H rfl rfl rfl rfl rfl rfl (Nat.le_of_ble_eq_true rfl)) ?_
 rintro _ w H a hE
 refine WR.done rfl ?_
 refine Runs.sr ?_
 replace H := H.slNil 5 ecU 1
 obtain ⟨t_2, et_2, hm⟩ := bind_some hm
 refine WR.eff hE rfl rfl rfl rfl (OpTo.fn hE rfl rfl Tryz.call45 (shell_Bytes_ok (hX_b := (sl_rd 5 ecU 1 _ _ _)) (hC_b := (H.slCap 0 rfl).1) (sb_b := none) (b := ([] : List Int)) (sc_b := 0) et_2 H)) ?_
 rintro _ w ⟨sb3, sc3, sb4, sc4, rfl, H⟩ a hE
 refine WR.eff hE rfl rfl rfl rfl (OpTo.new hE H [] (.cells #[.slice none 0 0, .slice none 0 0, .int .i64 0] 56 (0, 0)) (fun r => .pointer (some ⟨r, 0, none⟩)) (obs := []) rfl (fun _ => by kernel_rfl) trivial) ?_
 rintro _ w ⟨r3, rfl, H⟩ a hE
 refine WR.eff0 hE rfl rfl rfl (OpTo.store hE H rfl rfl rfl rfl rfl rfl (Nat.le_of_ble_eq_true rfl)) ?_
 rintro _ w H a hE
 refine WR.done rfl ?_
 refine Runs.seq ?_
 replace H := shell_Script.shut (shell_Script.A.mk (some ⟨r, 0, none⟩) 2) (shell_Script.mk 1 4 1 1 ([api_Act.mk 2 0 (api_Command.mk 0 0 (api_Ref.mk 0 0) 0 0), api_Act.mk 4 0 (api_Command.mk 0 0 (api_Ref.mk 0 0) 0 0)] : List api_Act)) H.t8.t9
 obtain ⟨s, es, hm⟩ := bind_some hm
 refine Runs.join (fun a w => EnvOk 55 a [(0, .bool s)] ∧ St w0 (shell_Script.R r1 (shell_Script.A.mk (some ⟨r, 0, none⟩) 2) (shell_Script.mk 1 4 1 1 ([api_Act.mk 2 0 (api_Command.mk 0 0 (api_Ref.mk 0 0) 0 0), api_Act.mk 4 0 (api_Command.mk 0 0 (api_Ref.mk 0 0) 0 0)] : List api_Act)) :: As) w) (fun hk => ?_) ?_
 ·replace hm := es; clear es
  refine Runs.region ?_
  refine WR.d0 hE 3 [(20, .bool (t_.2 == 0))] fun a hE => ?_
  rcases Bool.eq_false_or_eq_true (t_.2 == 0) with c | c
  ·replace hE := hE.dec 20 c (by kernel_rfl)
   replace hm := cond_t c hm
   have c_ := c
   refine WR.d0 hE 4 [(20, .bool true), (21, .slice sb t_.1.length sc)] fun a hE => ?_
   refine WR.eff hE rfl rfl rfl rfl (OpTo.strOf hE (SlRd.all (sl_rd 5 ecU 1 _ _ _) ecU_ok H 8 rfl) rfl rfl rfl rfl rfl) ?_
   rintro _ _ ⟨rfl, rfl⟩ a hE
   refine WR.d0 hE 8 [(25, .bool ((mStr t_.1).toList == (ByteArray.mk #[1, 0, 4, 1, 1, 2, 4]).toList))] fun a hE => ?_
   rcases Bool.eq_false_or_eq_true ((mStr t_.1).toList == (ByteArray.mk #[1, 0, 4, 1, 1, 2, 4]).toList) with c | c
   ·replace hE := hE.dec 25 c (by kernel_rfl)
    replace hm := cond_t c hm
    have c_1 := c
    refine WR.d hE 13 [.int .i64 t_1.Why] [(30, .bool (t_1.Why == 0))] (obs := [.cell ⟨r2, 2, none⟩ (.int .i64 t_1.Why)]) ⟨H.cell 5 rfl rfl, trivial⟩ fun a hE => ?_
    rcases Bool.eq_false_or_eq_true (t_1.Why == 0) with c | c
    ·replace hE := hE.dec 30 c (by kernel_rfl)
     replace hm := cond_t c hm
     have c_2 := c
     refine WR.d hE 19 [.slice sb1 t_1.Replies.length sc1] [(36, .bool ((t_1.Replies.length : Int) == 2))] (obs := [.cell ⟨r2, 0, none⟩ (.slice sb1 t_1.Replies.length sc1)]) ⟨H.cell 5 rfl rfl, trivial⟩ fun a hE => ?_
     rcases Bool.eq_false_or_eq_true ((t_1.Replies.length : Int) == 2) with c | c
     ·replace hE := hE.dec 36 c (by kernel_rfl)
      replace hm := cond_t c hm
      have c_3 := c
      obtain ⟨x, ex, hm⟩ := bind_some hm
      obtain ⟨b, o, hs, hb⟩ := SlRd.base (sl_rd 35 api_Reply.enc 6 _ _ _) api_Reply.enc_ok H 6 rfl ex
      refine WR.d hE 27 [.slice sb1 t_1.Replies.length sc1, .pointer (some ⟨b, o, none⟩), .int .i64 x.Why] [(44, .bool (x.Why == 27))] (obs := [.cell ⟨r2, 0, none⟩ (.slice sb1 t_1.Replies.length sc1), .p ((sb1 : Option Addr) = some ⟨b, o, none⟩), .p (0 ≤ (0 : Int) ∧ (0 : Int) < ((t_1.Replies.length : Nat) : Int)), .cell ⟨b, o + (Int.toNat 0) * 6, none⟩ (.int .i64 x.Why)]) ⟨H.cell 5 rfl rfl, hs, hb, SlRd.cells (sl_rd 35 api_Reply.enc 6 _ _ _) api_Reply.enc_ok H 6 rfl hs ex 0 _ rfl, trivial⟩ fun a hE => ?_
      rcases Bool.eq_false_or_eq_true (x.Why == 27) with c | c
      ·replace hE := hE.dec 44 c (by kernel_rfl)
       replace hm := cond_t c hm
       have c_4 := c
       refine WR.d hE 33 [.slice sb2 t_1.Events.length sc2] [(50, .bool ((t_1.Events.length : Int) == 1))] (obs := [.cell ⟨r2, 1, none⟩ (.slice sb2 t_1.Events.length sc2)]) ⟨H.cell 5 rfl rfl, trivial⟩ fun a hE => ?_
       rcases Bool.eq_false_or_eq_true ((t_1.Events.length : Int) == 1) with c | c
       ·replace hE := hE.dec 50 c (by kernel_rfl)
        replace hm := cond_t c hm
        have c_5 := c
        refine WR.e hE [.int .i64 t_2.Why] [(0, .bool (t_2.Why == 12))] (obs := [.cell ⟨r3, 2, none⟩ (.int .i64 t_2.Why)]) ⟨H.cell 1 rfl rfl, trivial⟩ fun a hE => ?_
        cases hm
        exact hk _ _ ⟨hE.sel [0] (by kernel_rfl), H.x8.x7.x6.x5.x4.x3.x2.x1⟩
       ·replace hE := hE.dec 50 c (by kernel_rfl)
        replace hm := cond_f c hm
        have c_6 := c
        refine WR.e0 hE [(0, .bool false)] fun a hE => ?_
        cases hm
        exact hk _ _ ⟨hE.sel [0] (by kernel_rfl), H.x8.x7.x6.x5.x4.x3.x2.x1⟩
      ·replace hE := hE.dec 44 c (by kernel_rfl)
       replace hm := cond_f c hm
       have c_7 := c
       refine WR.e0 hE [(0, .bool false)] fun a hE => ?_
       cases hm
       exact hk _ _ ⟨hE.sel [0] (by kernel_rfl), H.x8.x7.x6.x5.x4.x3.x2.x1⟩
     ·replace hE := hE.dec 36 c (by kernel_rfl)
      replace hm := cond_f c hm
      have c_8 := c
      refine WR.e0 hE [(0, .bool false)] fun a hE => ?_
      cases hm
      exact hk _ _ ⟨hE.sel [0] (by kernel_rfl), H.x8.x7.x6.x5.x4.x3.x2.x1⟩
    ·replace hE := hE.dec 30 c (by kernel_rfl)
     replace hm := cond_f c hm
     have c_9 := c
     refine WR.e0 hE [(0, .bool false)] fun a hE => ?_
     cases hm
     exact hk _ _ ⟨hE.sel [0] (by kernel_rfl), H.x8.x7.x6.x5.x4.x3.x2.x1⟩
   ·replace hE := hE.dec 25 c (by kernel_rfl)
    replace hm := cond_f c hm
    have c_10 := c
    refine WR.e0 hE [(0, .bool false)] fun a hE => ?_
    cases hm
    exact hk _ _ ⟨hE.sel [0] (by kernel_rfl), H.x8.x7.x6.x5.x4.x3.x2.x1⟩
  ·replace hE := hE.dec 20 c (by kernel_rfl)
   replace hm := cond_f c hm
   have c_11 := c
   refine WR.e0 hE [(0, .bool false)] fun a hE => ?_
   cases hm
   exact hk _ _ ⟨hE.sel [0] (by kernel_rfl), H.x8.x7.x6.x5.x4.x3.x2.x1⟩
 rintro a w ⟨hE, H⟩
 refine Runs.ret hE Tryz.func20 rfl rfl ?_
 cases hm
 exact ⟨rfl, H.x0⟩

end Go.Proofs.YtdcjghailibedaaGreat
