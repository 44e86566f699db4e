import Derived.Test.YtbpkejhpmakmbaaGreatLp4
set_option linter.unusedVariables false
set_option linter.unusedSimpArgs false
set_option maxRecDepth 10000
set_option maxHeartbeats 4000000
namespace Go.Proofs.YtbpkejhpmakmbaaGreat
open Go.Th

theorem dispatch_Dispatcher_Due_ok {w0 w : World} {As : List HP} {k : Nat} {p_d : Nat} {al_d : dispatch_Dispatcher.A} {d : dispatch_Dispatcher} {queue : Int} {t : Int}  (hm : dispatch_Dispatcher_Due k d queue = some t) (H : St w0 (dispatch_Dispatcher.R p_d al_d d :: As) w) :
    CallsR Tryz.prog 44 #[.pointer (some ⟨p_d, 0, none⟩), .int .i64 queue] w fun v w' => v = .int .i64 t ∧ St w0 (dispatch_Dispatcher.R p_d al_d d :: As) w' := by
 rw [dispatch_Dispatcher_Due] at hm
 refine enter (args := [.pointer (some ⟨p_d, 0, none⟩), .int .i64 queue]) Tryz.func44 rfl rfl rfl fun a hE => ?_
 refine Runs.sr ?_
 refine WR.seg hE 1 [] [0, 1] (Lo := [(0, .pointer (some ⟨p_d, 0, none⟩)), (1, .int .i64 queue)]) (obs := []) rfl (by kernel_rfl) trivial fun a hE => ?_
 refine WR.done rfl ?_
 refine Runs.sr ?_
 refine WR.e0 hE [(5, .int .i64 0)] fun a hE => ?_
 refine Runs.seq ?_
 refine Runs.sr ?_
 replace H := dispatch_Dispatcher.open H
 refine WR.d hE 4 [.pointer (some ⟨al_d.t__p, 0, none⟩)] [(13, .pointer (some ⟨al_d.t__p, 0, none⟩))] (obs := [.cell ⟨p_d, 7, none⟩ (.pointer (some ⟨al_d.t__p, 0, none⟩))]) ⟨H.cell 0 rfl rfl, trivial⟩ fun a hE => ?_
 obtain ⟨t_, et_, hm⟩ := bind_some hm
 refine WR.eff hE rfl rfl rfl rfl (OpTo.fn hE rfl rfl Tryz.call82 (jobs_Table_All_ok et_ H.t2)) ?_
 rintro _ w ⟨sb, sc, rfl, H⟩ a hE
 refine WR.e0 hE [(15, .int .i64 (t_.length : Int)), (16, .int .i64 0)] fun a hE => ?_
 replace H := dispatch_Dispatcher.shut al_d (d) H.t5.t5.t3.t5.t5
 obtain ⟨s, es, hm⟩ := bind_some hm
 refine Runs.join (fun a w => EnvOk 46 a [(5, .int .i64 s)] ∧ St w0 (dispatch_Dispatcher.R p_d al_d d :: As) w) (fun hk => ?_) ?_
 ·replace hm := es; clear es
  refine Runs.block ?_
  refine Runs.loop (fun m a w => ∃ (n : Int), ∃ (x : Int), EnvOk 46 a [(0, .pointer (some ⟨p_d, 0, none⟩)), (1, .int .i64 queue), (5, .int .i64 n), (14, .slice sb t_.length sc), (15, .int .i64 (t_.length : Int)), (16, .int .i64 x)] ∧ St w0 (dispatch_Dispatcher.R p_d al_d d :: Sl 26 api_Ref.enc 2 sb sc t_ :: As) w ∧ dispatch_Dispatcher_Due_l0 queue (t_.length : Int) d t_ m n x = some s) k ⟨0, 0, hE.sel [0, 1, 5, 14, 15, 16] (by kernel_rfl), H.t1.t1, hm⟩ ?_
  rintro m ih a w ⟨n, x, hE, H, hm⟩
  cases m with
  | zero => simp [dispatch_Dispatcher_Due_l0] at hm
  | succ m =>
   rw [dispatch_Dispatcher_Due_l0] at hm
   refine Runs.sr ?_
   refine WR.seg hE 1 [] [0, 1, 5, 14, 15, 16, 17] (Lo := [(0, .pointer (some ⟨p_d, 0, none⟩)), (1, .int .i64 queue), (5, .int .i64 n), (14, .slice sb t_.length sc), (15, .int .i64 (t_.length : Int)), (16, .int .i64 x), (17, .bool (decide (x < (t_.length : Int))))]) (obs := []) rfl (by kernel_rfl) trivial fun a hE => ?_
   refine WR.done rfl ?_
   refine Runs.seq ?_
   refine Runs.cond hE rfl (fun c => ?_) (fun c => ?_)
   ·replace hm := cond_t c hm
    refine Runs.skip ?_
    refine Runs.seq ?_
    obtain ⟨s1, es1, hm⟩ := bind_some hm
    refine Runs.join (fun a w => EnvOk 46 a [(0, .pointer (some ⟨p_d, 0, none⟩)), (1, .int .i64 queue), (5, .int .i64 s1), (14, .slice sb t_.length sc), (15, .int .i64 (t_.length : Int)), (16, .int .i64 x)] ∧ St w0 (dispatch_Dispatcher.R p_d al_d d :: Sl 26 api_Ref.enc 2 sb sc t_ :: As) w) (fun hk => ?_) ?_
    ·replace hm := es1; clear es1
     refine Runs.block ?_
     refine Runs.sr ?_
     obtain ⟨x2, ex2, hm⟩ := bind_some hm
     obtain ⟨b, o, hs, hb⟩ := SlRd.base (sl_rd 26 api_Ref.enc 2 _ _ _) api_Ref.enc_ok H 1 rfl ex2
     refine WR.d hE 2 [.pointer (some ⟨b, o, none⟩), .int .i64 x2.At, .int .i64 x2.Gen] [(19, .agg #[.int .i64 x2.At, .int .i64 x2.Gen])] (obs := [.p ((sb : Option Addr) = some ⟨b, o, none⟩), .p (0 ≤ (x : Int) ∧ (x : Int) < ((t_.length : Nat) : Int)), .cell ⟨b, o + (Int.toNat x) * 2, none⟩ (.int .i64 x2.At), .cell ⟨b, o + (Int.toNat x) * 2 + 1, none⟩ (.int .i64 x2.Gen)]) ⟨hs, hb, SlRd.cells (sl_rd 26 api_Ref.enc 2 _ _ _) api_Ref.enc_ok H 1 rfl hs ex2 0 _ rfl, SlRd.cells (sl_rd 26 api_Ref.enc 2 _ _ _) api_Ref.enc_ok H 1 rfl hs ex2 1 _ rfl, trivial⟩ fun a hE => ?_
     refine WR.eff hE rfl rfl rfl rfl (OpTo.new hE H [] (.cells #[.int .i64 0, .int .i64 0] 26 (0, 0)) (fun r => .pointer (some ⟨r, 0, none⟩)) (obs := []) rfl (fun _ => by kernel_rfl) trivial) ?_
     rintro _ w ⟨r, rfl, H⟩ a hE
     refine WR.eff0 hE rfl rfl rfl (OpTo.store hE H rfl rfl rfl rfl rfl rfl (Nat.le_of_ble_eq_true rfl)) ?_
     rintro _ w H a hE
     refine WR.done rfl ?_
     refine Runs.seq ?_
     obtain ⟨t_1, et_1, hm⟩ := bind_some hm
     refine Runs.join (fun a w => ∃ (r2 : Nat), EnvOk 46 a [(0, .pointer (some ⟨p_d, 0, none⟩)), (1, .int .i64 queue), (5, .int .i64 n), (8, .pointer (some ⟨r2, 0, none⟩)), (14, .slice sb t_.length sc), (15, .int .i64 (t_.length : Int)), (16, .int .i64 x)] ∧ St w0 (Blk r2 127 [.int .i64 t_1.1.Queue, .int .i64 t_1.1.Time, .int .i64 t_1.1.Data, .int .i64 t_1.1.Item.At, .int .i64 t_1.1.Item.Gen] :: dispatch_Dispatcher.R p_d al_d d :: Sl 26 api_Ref.enc 2 sb sc t_ :: As) w) (fun hk => ?_) ?_
     ·refine Runs.drawn mixed (by kernel_rfl) ?_
      replace H := H.drew
      replace H := dispatch_Dispatcher.open H.t1
      refine WQ.d hE [0, 1, 2, 3, 4] [.pointer (some ⟨al_d.t__p, 0, none⟩), .int .i64 x2.At, .int .i64 x2.Gen] [(24, .pointer (some ⟨al_d.t__p, 0, none⟩)), (25, .agg #[.int .i64 x2.At, .int .i64 x2.Gen])] (obs := [.cell ⟨p_d, 7, none⟩ (.pointer (some ⟨al_d.t__p, 0, none⟩)), .cell ⟨r, 0, none⟩ (.int .i64 x2.At), .cell ⟨r, 1, none⟩ (.int .i64 x2.Gen)]) ⟨H.cell 0 rfl rfl, H.cell 5 rfl rfl, H.cell 5 rfl rfl, trivial⟩ fun a hE => ?_
      refine WQ.act2 5 9 (by kernel_rfl) ?_ ?_
      ·refine AQ.eff (j := 5) (obs := []) hE rfl rfl rfl rfl (by kernel_rfl) (OpTo.fn hE rfl rfl Tryz.call83 (jobs_Table_Get_ok et_1 H.t2)) ?_
       rintro _ w ⟨rfl, H⟩
       refine ⟨trivial, fun a hE => ?_⟩
       refine WQ.d0 hE [6, 7, 8] [(27, .agg #[.int .i64 t_1.1.Queue, .int .i64 t_1.1.Time, .int .i64 t_1.1.Data, .int .i64 t_1.1.Item.At, .int .i64 t_1.1.Item.Gen]), (28, .int .i64 t_1.2)] fun a hE => ?_
       refine WQ.eff (j := 9) (obs := []) hE (by kernel_rfl) rfl rfl rfl rfl (by kernel_rfl) (OpTo.new hE H [] (.cells #[.int .i64 0, .int .i64 0, .int .i64 0, .int .i64 0, .int .i64 0] 127 (0, 0)) (fun r => .pointer (some ⟨r, 0, none⟩)) (obs := []) rfl (fun _ => by kernel_rfl) trivial) ?_
       rintro _ w ⟨r3, rfl, H⟩
       refine ⟨trivial, fun a hE => ?_⟩
       refine WQ.eff0 (j := 10) (obs := []) hE (by kernel_rfl) rfl rfl rfl (by kernel_rfl) (OpTo.store hE H rfl rfl rfl rfl rfl rfl (Nat.le_of_ble_eq_true rfl)) ?_
       rintro _ w H
       refine ⟨trivial, fun a hE => ?_⟩
       refine WQ.d0 hE [11] [] fun a hE => ?_
       refine WQ.done (by kernel_rfl) ?_
       replace H := dispatch_Dispatcher.shut al_d (d) H.t5.t5.t3.t5.t5
       exact hk _ _ ⟨r3, hE.sel [0, 1, 5, 8, 14, 15, 16] (by kernel_rfl), H.x2.t2.t1.t2⟩
      ·refine AQ.eff (j := 9) (obs := [.cell ⟨r, 0, none⟩ (.int .i64 x2.At), .cell ⟨r, 1, none⟩ (.int .i64 x2.Gen), .cell ⟨p_d, 7, none⟩ (.pointer (some ⟨al_d.t__p, 0, none⟩))]) hE rfl rfl rfl rfl (by kernel_rfl) (OpTo.new hE H [] (.cells #[.int .i64 0, .int .i64 0, .int .i64 0, .int .i64 0, .int .i64 0] 127 (0, 0)) (fun r => .pointer (some ⟨r, 0, none⟩)) (obs := []) rfl (fun _ => by kernel_rfl) trivial) ?_
       rintro _ w ⟨r4, rfl, H⟩
       refine ⟨⟨H.cell 6 rfl rfl, H.cell 6 rfl rfl, H.cell 1 rfl rfl, trivial⟩, fun a hE => ?_⟩
       refine WQ.eff (j := 5) (obs := []) hE (by kernel_rfl) rfl rfl rfl rfl (by kernel_rfl) (OpTo.fn hE rfl rfl Tryz.call83 (jobs_Table_Get_ok et_1 H.t3)) ?_
       rintro _ w ⟨rfl, H⟩
       refine ⟨trivial, fun a hE => ?_⟩
       refine WQ.d0 hE [6, 7, 8] [(27, .agg #[.int .i64 t_1.1.Queue, .int .i64 t_1.1.Time, .int .i64 t_1.1.Data, .int .i64 t_1.1.Item.At, .int .i64 t_1.1.Item.Gen]), (28, .int .i64 t_1.2)] fun a hE => ?_
       refine WQ.eff0 (j := 10) (obs := []) hE (by kernel_rfl) rfl rfl rfl (by kernel_rfl) (OpTo.store hE H.t1 rfl rfl rfl rfl rfl rfl (Nat.le_of_ble_eq_true rfl)) ?_
       rintro _ w H
       refine ⟨trivial, fun a hE => ?_⟩
       refine WQ.d0 hE [11] [] fun a hE => ?_
       refine WQ.done (by kernel_rfl) ?_
       replace H := dispatch_Dispatcher.shut al_d (d) H.t5.t5.t3.t5.t5
       exact hk _ _ ⟨r4, hE.sel [0, 1, 5, 8, 14, 15, 16] (by kernel_rfl), H.x2.t2.t1.t2⟩
     rintro a w ⟨r2, hE, H⟩
     refine Runs.seq ?_
     obtain ⟨s2, es2, hm⟩ := bind_some hm
     refine Runs.join (fun a w => EnvOk 46 a [(0, .pointer (some ⟨p_d, 0, none⟩)), (1, .int .i64 queue), (5, .int .i64 n), (14, .slice sb t_.length sc), (15, .int .i64 (t_.length : Int)), (16, .int .i64 x), (41, .bool s2)] ∧ St w0 (dispatch_Dispatcher.R p_d al_d d :: Sl 26 api_Ref.enc 2 sb sc t_ :: As) w) (fun hk => ?_) ?_
     ·replace hm := es2; clear es2
      refine Runs.drawn mixed (by kernel_rfl) ?_
      replace H := H.drew
      refine WQ.seg hE [0, 1, 2, 3, 4] [.int .i64 t_1.1.Queue] [0, 1, 5, 8, 14, 15, 16, 33] (Lo := [(0, .pointer (some ⟨p_d, 0, none⟩)), (1, .int .i64 queue), (5, .int .i64 n), (8, .pointer (some ⟨r2, 0, none⟩)), (14, .slice sb t_.length sc), (15, .int .i64 (t_.length : Int)), (16, .int .i64 x), (33, .bool (t_1.1.Queue == queue))]) (obs := [.cell ⟨r2, 0, none⟩ (.int .i64 t_1.1.Queue)]) (by kernel_rfl) (by kernel_rfl) ⟨H.cell 0 rfl rfl, trivial⟩ fun a hE => ?_
      rcases Bool.eq_false_or_eq_true (t_1.1.Queue == queue) with c | c
      ·replace hE := hE.dec 33 c (by kernel_rfl)
       replace hm := cond_t c hm
       have c_ := c
       replace H := dispatch_Dispatcher.open H.t1
       refine WQ.d hE [5, 6, 7, 8, 9, 10] [.pointer (some ⟨al_d.clock_p, 0, none⟩), .int .i64 t_1.1.Time] [(33, .bool true), (37, .pointer (some ⟨al_d.clock_p, 0, none⟩)), (39, .int .i64 t_1.1.Time)] (obs := [.cell ⟨p_d, 9, none⟩ (.pointer (some ⟨al_d.clock_p, 0, none⟩)), .cell ⟨r2, 1, none⟩ (.int .i64 t_1.1.Time)]) ⟨H.cell 0 rfl rfl, H.cell 5 rfl rfl, trivial⟩ fun a hE => ?_
       obtain ⟨t_2, et_2, hm⟩ := bind_some hm
       refine WQ.eff (j := 11) (obs := []) hE (by kernel_rfl) rfl rfl rfl rfl (by kernel_rfl) (OpTo.fn hE rfl rfl Tryz.call86 (clock_Clock_Due_ok et_2 H.t4)) ?_
       rintro _ w ⟨rfl, H⟩
       refine ⟨trivial, fun a hE => ?_⟩
       refine WQ.d0 hE [12] [(41, .bool t_2)] fun a hE => ?_
       refine WQ.done (by kernel_rfl) ?_
       replace H := dispatch_Dispatcher.shut al_d (d) H.t4.t4.t4.t4
       cases hm
       exact hk _ _ ⟨hE.sel [0, 1, 5, 14, 15, 16, 41] (by kernel_rfl), H.x1.t1.t1⟩
      ·replace hE := hE.dec 33 c (by kernel_rfl)
       replace hm := cond_f c hm
       have c_1 := c
       refine WQ.d0 hE [5, 6, 7, 8, 9, 10, 11, 12] [(41, .bool false)] fun a hE => ?_
       refine WQ.done (by kernel_rfl) ?_
       cases hm
       exact hk _ _ ⟨hE.sel [0, 1, 5, 14, 15, 16, 41] (by kernel_rfl), H.x0.t1.t1⟩
     rintro a w ⟨hE, H⟩
     refine Runs.cond hE rfl (fun c => ?_) (fun c => ?_)
     ·replace hm := cond_t c hm
      refine Runs.region ?_
      refine WR.seg hE 3 [] [0, 1, 5, 14, 15, 16] (Lo := [(0, .pointer (some ⟨p_d, 0, none⟩)), (1, .int .i64 queue), (5, .int .i64 (w64 (n + 1))), (14, .slice sb t_.length sc), (15, .int .i64 (t_.length : Int)), (16, .int .i64 x)]) (obs := []) rfl (by kernel_rfl) trivial fun a hE => ?_
      refine WR.done rfl ?_
      refine Runs.inBlock ?_
      cases hm
      exact hk _ _ ⟨hE.sel [0, 1, 5, 14, 15, 16] (by kernel_rfl), H.t1.t1⟩
     ·replace hm := cond_f c hm
      refine Runs.skip ?_
      refine Runs.inBlock ?_
      cases hm
      exact hk _ _ ⟨hE.sel [0, 1, 5, 14, 15, 16] (by kernel_rfl), H.t1.t1⟩
    rintro a w ⟨hE, H⟩
    refine Runs.region ?_
    refine WR.seg hE 2 [] [0, 1, 5, 14, 15, 16] (Lo := [(0, .pointer (some ⟨p_d, 0, none⟩)), (1, .int .i64 queue), (5, .int .i64 s1), (14, .slice sb t_.length sc), (15, .int .i64 (t_.length : Int)), (16, .int .i64 (w64 (x + 1)))]) (obs := []) rfl (by kernel_rfl) trivial fun a hE => ?_
    refine WR.done rfl ?_
    exact ih m (Nat.lt_succ_self m) _ _ ⟨s1, w64 (x + 1), hE.sel [0, 1, 5, 14, 15, 16] (by kernel_rfl), H.t1.t1, hm⟩
   ·replace hm := cond_f c hm
    refine Runs.exit rfl ?_
    cases hm
    exact hk _ _ ⟨hE.sel [5] (by kernel_rfl), H.x1⟩
 rintro a w ⟨hE, H⟩
 refine Runs.sr ?_
 refine WR.seg hE 2 [] [4] (Lo := [(4, .int .i64 s)]) (obs := []) rfl (by kernel_rfl) trivial fun a hE => ?_
 refine WR.done rfl ?_
 refine Runs.ret hE Tryz.func44 rfl rfl ?_
 cases hm
 exact ⟨rfl, H⟩

theorem fair_Quiet_ok {w0 w : World} {As : List HP} {k : Nat} {p_d : Nat} {al_d : dispatch_Dispatcher.A} {d : dispatch_Dispatcher} {t : Bool}  (hm : fair_Quiet k d = some t) (H : St w0 (dispatch_Dispatcher.R p_d al_d d :: As) w) :
    CallsR Tryz.prog 23 #[.pointer (some ⟨p_d, 0, none⟩)] w fun v w' => v = .bool t ∧ St w0 (dispatch_Dispatcher.R p_d al_d d :: As) w' := by
 rw [fair_Quiet] at hm
 refine enter (args := [.pointer (some ⟨p_d, 0, none⟩)]) Tryz.func23 rfl rfl rfl fun a hE => ?_
 refine Runs.sr ?_
 refine WR.seg hE 1 [] [0] (Lo := [(0, .pointer (some ⟨p_d, 0, none⟩))]) (obs := []) rfl (by kernel_rfl) trivial fun a hE => ?_
 refine WR.done rfl ?_
 refine Runs.seq ?_
 obtain ⟨s, es, hm⟩ := bind_some hm
 refine Runs.join (fun a w => EnvOk 15 a [(2, .bool s)] ∧ St w0 (dispatch_Dispatcher.R p_d al_d d :: As) w) (fun hk => ?_) ?_
 ·replace hm := es; clear es
  refine Runs.region ?_
  refine WR.d0 hE 4 [(5, .bool true), (6, .pointer (some ⟨p_d, 0, none⟩))] fun a hE => ?_
  obtain ⟨t_, et_, hm⟩ := bind_some hm
  refine WR.eff hE rfl rfl rfl rfl (OpTo.fn hE rfl rfl Tryz.call44 (dispatch_Dispatcher_Due_ok et_ H)) ?_
  rintro _ w ⟨rfl, H⟩ a hE
  refine WR.d0 hE 8 [(10, .bool (t_ == 0))] fun a hE => ?_
  rcases Bool.eq_false_or_eq_true (t_ == 0) with c | c
  ·replace hE := hE.dec 10 c (by kernel_rfl)
   replace hm := cond_t c hm
   have c_ := c
   refine WR.d0 hE 9 [(10, .bool true), (11, .pointer (some ⟨p_d, 0, none⟩))] fun a hE => ?_
   obtain ⟨t_1, et_1, hm⟩ := bind_some hm
   refine WR.eff hE rfl rfl rfl rfl (OpTo.fn hE rfl rfl Tryz.call44 (dispatch_Dispatcher_Due_ok et_1 H)) ?_
   rintro _ w ⟨rfl, H⟩ a hE
   refine WR.e0 hE [(2, .bool (t_1 == 0))] fun a hE => ?_
   cases hm
   exact hk _ _ ⟨hE.sel [2] (by kernel_rfl), H⟩
  ·replace hE := hE.dec 10 c (by kernel_rfl)
   replace hm := cond_f c hm
   have c_1 := c
   refine WR.e0 hE [(2, .bool false)] fun a hE => ?_
   cases hm
   exact hk _ _ ⟨hE.sel [2] (by kernel_rfl), H⟩
 rintro a w ⟨hE, H⟩
 refine Runs.ret hE Tryz.func23 rfl rfl ?_
 cases hm
 exact ⟨rfl, H⟩

theorem fair_Quiet_nil0_ok {w0 w : World} {As : List HP}  {t : Bool}  (hm : fair_Quiet_nil0 = some t) (H : St w0 (As) w) :
    CallsR Tryz.prog 23 #[.pointer none] w fun v w' => v = .bool t ∧ St w0 (As) w' := by
 rw [fair_Quiet_nil0] at hm
 refine enter (args := [.pointer none]) Tryz.func23 rfl rfl rfl fun a hE => ?_
 refine Runs.sr ?_
 refine WR.seg hE 1 [] [0] (Lo := [(0, .pointer none)]) (obs := []) rfl (by kernel_rfl) trivial fun a hE => ?_
 refine WR.done rfl ?_
 refine Runs.sr ?_
 refine WR.e0 hE [(2, .bool false)] fun a hE => ?_
 refine Runs.ret hE Tryz.func23 rfl rfl ?_
 cases hm
 exact ⟨rfl, H⟩

theorem dispatch_Dispatcher_Run_ok {w0 w : World} {As : List HP} {k : Nat} {p_d : Nat} {al_d : dispatch_Dispatcher.A} {d : dispatch_Dispatcher} {sb_l : Option Addr} {sc_l : Nat} {l : List api_Command} {X_l : HP} {t : (List api_Reply) × dispatch_Dispatcher} (hX_l : SlRd X_l api_Command.enc 6 sb_l l) (hC_l : l.length ≤ sc_l) (hm : dispatch_Dispatcher_Run k d l = some t) (H : St w0 (dispatch_Dispatcher.R p_d al_d d :: X_l :: As) w) :
    CallsR Tryz.prog 54 #[.pointer (some ⟨p_d, 0, none⟩), .slice sb_l l.length sc_l] w fun v w' => ∃ (sb0 : Option Addr), ∃ (sc0 : Nat), ∃ (z_d_q_a : pq_Queues.A), ∃ (z_d_t__a : jobs_Table.A), v = .slice sb0 t.1.length sc0 ∧ St w0 (Sl 60 api_Reply.enc 6 sb0 sc0 t.1 :: dispatch_Dispatcher.R p_d (dispatch_Dispatcher.A.mk al_d.q_p z_d_q_a al_d.t__p z_d_t__a al_d.when_p al_d.clock_p) t.2 :: X_l :: As) w' := by
 rw [dispatch_Dispatcher_Run] at hm
 refine enter (args := [.pointer (some ⟨p_d, 0, none⟩), .slice sb_l l.length sc_l]) Tryz.func54 rfl rfl rfl fun a hE => ?_
 refine Runs.sr ?_
 refine WR.seg hE 1 [] [0, 1] (Lo := [(0, .pointer (some ⟨p_d, 0, none⟩)), (1, .slice sb_l l.length sc_l)]) (obs := []) rfl (by kernel_rfl) trivial fun a hE => ?_
 refine WR.done rfl ?_
 refine Runs.sr ?_
 refine WR.e0 hE [(5, .slice none 0 0)] fun a hE => ?_
 refine Runs.seq ?_
 refine Runs.sr ?_
 refine WR.e0 hE [(8, .slice sb_l l.length sc_l), (9, .int .i64 (l.length : Int)), (10, .int .i64 0)] fun a hE => ?_
 obtain ⟨s, es, hm⟩ := bind_some hm
 refine Runs.join (fun a w => ∃ (sb1 : Option Addr), ∃ (sc1 : Nat), ∃ (z2 : pq_Queues.A), ∃ (z3 : jobs_Table.A), EnvOk 22 a [(5, .slice sb1 s.1.length sc1)] ∧ St w0 (Sl 60 api_Reply.enc 6 sb1 sc1 s.1 :: dispatch_Dispatcher.R p_d (dispatch_Dispatcher.A.mk al_d.q_p z2 al_d.t__p z3 al_d.when_p al_d.clock_p) s.2 :: X_l :: As) w) (fun hk => ?_) ?_
 ·replace hm := es; clear es
  replace H := H.slNil 60 api_Reply.enc 6
  refine Runs.block ?_
  refine Runs.loop (fun m a w => ∃ (out : List api_Reply), ∃ (x : Int), ∃ (m_ : dispatch_Dispatcher), ∃ (sb2 : Option Addr), ∃ (sc2 : Nat), ∃ (z4 : pq_Queues.A), ∃ (z5 : jobs_Table.A), EnvOk 22 a [(0, .pointer (some ⟨p_d, 0, none⟩)), (5, .slice sb2 out.length sc2), (8, .slice sb_l l.length sc_l), (9, .int .i64 (l.length : Int)), (10, .int .i64 x)] ∧ St w0 (Sl 60 api_Reply.enc 6 sb2 sc2 out :: dispatch_Dispatcher.R p_d (dispatch_Dispatcher.A.mk al_d.q_p z4 al_d.t__p z5 al_d.when_p al_d.clock_p) m_ :: X_l :: As) w ∧ dispatch_Dispatcher_Run_l0 (l.length : Int) l m out x m_ = some s) k ⟨([] : List api_Reply), 0, d, none, 0, al_d.q_a, al_d.t__a, hE.sel [0, 5, 8, 9, 10] (by kernel_rfl), H.t2.t2.t2, hm⟩ ?_
  rintro m ih a w ⟨out, x, m_, sb2, sc2, z4, z5, hE, H, hm⟩
  cases m with
  | zero => simp [dispatch_Dispatcher_Run_l0] at hm
  | succ m =>
   rw [dispatch_Dispatcher_Run_l0] at hm
   refine Runs.sr ?_
   refine WR.seg hE 1 [] [0, 5, 8, 9, 10, 11] (Lo := [(0, .pointer (some ⟨p_d, 0, none⟩)), (5, .slice sb2 out.length sc2), (8, .slice sb_l l.length sc_l), (9, .int .i64 (l.length : Int)), (10, .int .i64 x), (11, .bool (decide (x < (l.length : Int))))]) (obs := []) rfl (by kernel_rfl) trivial fun a hE => ?_
   refine WR.done rfl ?_
   refine Runs.seq ?_
   refine Runs.cond hE rfl (fun c => ?_) (fun c => ?_)
   ·replace hm := cond_t c hm
    refine Runs.skip ?_
    refine Runs.seq ?_
    refine Runs.block ?_
    refine Runs.sr ?_
    obtain ⟨x2, ex2, hm⟩ := bind_some hm
    obtain ⟨b, o, hs, hb⟩ := SlRd.base hX_l api_Command.enc_ok H 2 rfl ex2
    refine WR.d hE 2 [.pointer (some ⟨b, o, none⟩), .int .i64 x2.Kind, .int .i64 x2.Queue, .int .i64 x2.Job.At, .int .i64 x2.Job.Gen, .int .i64 x2.Time, .int .i64 x2.Data] [(13, .agg #[.int .i64 x2.Kind, .int .i64 x2.Queue, .int .i64 x2.Job.At, .int .i64 x2.Job.Gen, .int .i64 x2.Time, .int .i64 x2.Data])] (obs := [.p ((sb_l : Option Addr) = some ⟨b, o, none⟩), .p (0 ≤ (x : Int) ∧ (x : Int) < ((l.length : Nat) : Int)), .cell ⟨b, o + (Int.toNat x) * 6, none⟩ (.int .i64 x2.Kind), .cell ⟨b, o + (Int.toNat x) * 6 + 1, none⟩ (.int .i64 x2.Queue), .cell ⟨b, o + (Int.toNat x) * 6 + 2, none⟩ (.int .i64 x2.Job.At), .cell ⟨b, o + (Int.toNat x) * 6 + 3, none⟩ (.int .i64 x2.Job.Gen), .cell ⟨b, o + (Int.toNat x) * 6 + 4, none⟩ (.int .i64 x2.Time), .cell ⟨b, o + (Int.toNat x) * 6 + 5, none⟩ (.int .i64 x2.Data)]) ⟨hs, hb, SlRd.cells hX_l api_Command.enc_ok H 2 rfl hs ex2 0 _ rfl, SlRd.cells hX_l api_Command.enc_ok H 2 rfl hs ex2 1 _ rfl, SlRd.cells hX_l api_Command.enc_ok H 2 rfl hs ex2 2 _ rfl, SlRd.cells hX_l api_Command.enc_ok H 2 rfl hs ex2 3 _ rfl, SlRd.cells hX_l api_Command.enc_ok H 2 rfl hs ex2 4 _ rfl, SlRd.cells hX_l api_Command.enc_ok H 2 rfl hs ex2 5 _ rfl, trivial⟩ fun a hE => ?_
    refine WR.eff hE rfl rfl rfl rfl (OpTo.new hE H [] (.cells #[.int .i64 0, .int .i64 0, .int .i64 0, .int .i64 0, .int .i64 0, .int .i64 0] 28 (0, 0)) (fun r => .pointer (some ⟨r, 0, none⟩)) (obs := []) rfl (fun _ => by kernel_rfl) trivial) ?_
    rintro _ w ⟨r, rfl, H⟩ a hE
    refine WR.eff0 hE rfl rfl rfl (OpTo.store hE H rfl rfl rfl rfl rfl rfl (Nat.le_of_ble_eq_true rfl)) ?_
    rintro _ w H a hE
    refine WR.done rfl ?_
    refine Runs.region ?_
    refine WR.d hE 3 [.int .i64 x2.Kind, .int .i64 x2.Queue, .int .i64 x2.Job.At, .int .i64 x2.Job.Gen, .int .i64 x2.Time, .int .i64 x2.Data] [(14, .slice sb2 out.length sc2), (15, .pointer (some ⟨p_d, 0, none⟩)), (16, .agg #[.int .i64 x2.Kind, .int .i64 x2.Queue, .int .i64 x2.Job.At, .int .i64 x2.Job.Gen, .int .i64 x2.Time, .int .i64 x2.Data])] (obs := [.cell ⟨r, 0, none⟩ (.int .i64 x2.Kind), .cell ⟨r, 1, none⟩ (.int .i64 x2.Queue), .cell ⟨r, 2, none⟩ (.int .i64 x2.Job.At), .cell ⟨r, 3, none⟩ (.int .i64 x2.Job.Gen), .cell ⟨r, 4, none⟩ (.int .i64 x2.Time), .cell ⟨r, 5, none⟩ (.int .i64 x2.Data)]) ⟨H.cell 0 rfl rfl, H.cell 0 rfl rfl, H.cell 0 rfl rfl, H.cell 0 rfl rfl, H.cell 0 rfl rfl, H.cell 0 rfl rfl, trivial⟩ fun a hE => ?_
    obtain ⟨t_, et_, hm⟩ := bind_some hm
    refine WR.eff hE rfl rfl rfl rfl (OpTo.fn hE rfl rfl Tryz.call35 (dispatch_Dispatcher_Do_ok et_ H.t2)) ?_
    rintro _ w ⟨z6, z7, rfl, H⟩ a hE
    refine WR.eff hE rfl rfl rfl rfl (OpTo.buildSl (T := 60) hE H api_Reply.enc_ok ([t_.1] : List api_Reply) rfl (fun _ => by kernel_rfl) rfl rfl rfl) ?_
    rintro _ w ⟨r1, rfl, H⟩ a hE
    obtain ⟨l2, el2, hm⟩ := bind_some hm
    replace H := H.t3
    refine WR.eff hE rfl rfl rfl rfl (OpTo.appendM el2 hE H api_Reply.enc_ok rfl rfl rfl rfl rfl rfl rfl rfl rfl rfl (SlRd.all (sl_rd 60 api_Reply.enc 6 _ _ _) api_Reply.enc_ok H 1 rfl) rfl) ?_
    rintro _ w ⟨sb3, sc3, rfl, H⟩ a hE
    refine WR.e0 hE [(5, .slice sb3 l2.length sc3)] fun a hE => ?_
    refine Runs.inBlock ?_
    refine Runs.region ?_
    refine WR.e0 hE [(10, .int .i64 (w64 (x + 1)))] fun a hE => ?_
    exact ih m (Nat.lt_succ_self m) _ _ ⟨l2, w64 (x + 1), t_.2, sb3, sc3, z6, z7, hE.sel [0, 5, 8, 9, 10] (by kernel_rfl), H.x3.x1.t2.t2.t2, hm⟩
   ·replace hm := cond_f c hm
    refine Runs.exit rfl ?_
    cases hm
    exact hk _ _ ⟨sb2, sc2, z4, z5, hE.sel [5] (by kernel_rfl), H.t2.t2.t2⟩
 rintro a w ⟨sb1, sc1, z2, z3, hE, H⟩
 refine Runs.sr ?_
 refine WR.seg hE 2 [] [4] (Lo := [(4, .slice sb1 s.1.length sc1)]) (obs := []) rfl (by kernel_rfl) trivial fun a hE => ?_
 refine WR.done rfl ?_
 refine Runs.ret hE Tryz.func54 rfl rfl ?_
 cases hm
 exact ⟨sb1, sc1, z2, z3, rfl, H.t2.t2.t2⟩

theorem fair_Drain_ok {w0 w : World} {As : List HP} {k : Nat} {p_d : Nat} {al_d : dispatch_Dispatcher.A} {d : dispatch_Dispatcher} {queue : Int} {t : Int × Bool × dispatch_Dispatcher}  (hm : fair_Drain k d queue = some t) (H : St w0 (dispatch_Dispatcher.R p_d al_d d :: As) w) :
    CallsR Tryz.prog 24 #[.pointer (some ⟨p_d, 0, none⟩), .int .i64 queue] w fun v w' => ∃ (z_d_q_a : pq_Queues.A), ∃ (z_d_t__a : jobs_Table.A), v = .tuple #[.int .i64 t.1, .bool t.2.1] ∧ St w0 (dispatch_Dispatcher.R p_d (dispatch_Dispatcher.A.mk al_d.q_p z_d_q_a al_d.t__p z_d_t__a al_d.when_p al_d.clock_p) t.2.2 :: As) w' := by
 rw [fair_Drain] at hm
 refine enter (args := [.pointer (some ⟨p_d, 0, none⟩), .int .i64 queue]) Tryz.func24 rfl rfl rfl fun a hE => ?_
 refine Runs.sr ?_
 refine WR.seg hE 2 [] [0, 1] (Lo := [(0, .pointer (some ⟨p_d, 0, none⟩)), (1, .int .i64 queue)]) (obs := []) rfl (by kernel_rfl) trivial fun a hE => ?_
 refine WR.done rfl ?_
 refine Runs.seq ?_
 refine Runs.sr ?_
 refine WR.e0 hE [(10, .bool false)] fun a hE => ?_
 refine Runs.condF hE rfl ?_
 refine Runs.skip ?_
 refine Runs.sr ?_
 refine WR.e0 hE [(6, .int .i64 0)] fun a hE => ?_
 refine Runs.seq ?_
 refine Runs.sr ?_
 refine WR.d0 hE 4 [(11, .pointer (some ⟨p_d, 0, none⟩)), (12, .int .i64 queue), (13, .pointer (some ⟨p_d, 0, none⟩)), (14, .int .i64 queue)] fun a hE => ?_
 obtain ⟨t_, et_, hm⟩ := bind_some hm
 refine WR.eff hE rfl rfl rfl rfl (OpTo.fn hE rfl rfl Tryz.call44 (dispatch_Dispatcher_Due_ok et_ H)) ?_
 rintro _ w ⟨rfl, H⟩ a hE
 obtain ⟨t_1, et_1, hm⟩ := bind_some hm
 refine WR.eff hE rfl rfl rfl rfl (OpTo.fn hE rfl rfl Tryz.call6 (fair_Fires_ok et_1 H)) ?_
 rintro _ w ⟨sb, sc, rfl, H⟩ a hE
 obtain ⟨t_2, et_2, hm⟩ := bind_some hm
 replace H := H.t1
 refine WR.eff hE rfl rfl rfl rfl (OpTo.fn hE rfl rfl Tryz.call54 (dispatch_Dispatcher_Run_ok (hX_l := (sl_rd 28 api_Command.enc 6 _ _ _)) (hC_l := (H.slCap 1 rfl).1) et_2 H)) ?_
 rintro _ w ⟨sb1, sc1, z, z1, rfl, H⟩ a hE
 refine WR.e0 hE [(18, .int .i64 (t_2.1.length : Int)), (19, .int .i64 0)] fun a hE => ?_
 obtain ⟨s, es, hm⟩ := bind_some hm
 refine Runs.join (fun a w => EnvOk 34 a [(0, .pointer (some ⟨p_d, 0, none⟩)), (1, .int .i64 queue), (6, .int .i64 s)] ∧ St w0 (dispatch_Dispatcher.R p_d (dispatch_Dispatcher.A.mk al_d.q_p z al_d.t__p z1 al_d.when_p al_d.clock_p) t_2.2 :: As) w) (fun hk => ?_) ?_
 ·replace hm := es; clear es
  refine Runs.block ?_
  refine Runs.loop (fun m a w => ∃ (n : Int), ∃ (x : Int), EnvOk 34 a [(0, .pointer (some ⟨p_d, 0, none⟩)), (1, .int .i64 queue), (6, .int .i64 n), (17, .slice sb1 t_2.1.length sc1), (18, .int .i64 (t_2.1.length : Int)), (19, .int .i64 x)] ∧ St w0 (Sl 60 api_Reply.enc 6 sb1 sc1 t_2.1 :: dispatch_Dispatcher.R p_d (dispatch_Dispatcher.A.mk al_d.q_p z al_d.t__p z1 al_d.when_p al_d.clock_p) t_2.2 :: As) w ∧ fair_Drain_l0 queue (t_2.1.length : Int) t_2.1 t_2.2 m n x = some s) k ⟨0, 0, hE.sel [0, 1, 6, 17, 18, 19] (by kernel_rfl), H.x2.t1.t1, hm⟩ ?_
  rintro m ih a w ⟨n, x, hE, H, hm⟩
  cases m with
  | zero => simp [fair_Drain_l0] at hm
  | succ m =>
   rw [fair_Drain_l0] at hm
   refine Runs.sr ?_
   refine WR.seg hE 1 [] [0, 1, 6, 17, 18, 19, 20] (Lo := [(0, .pointer (some ⟨p_d, 0, none⟩)), (1, .int .i64 queue), (6, .int .i64 n), (17, .slice sb1 t_2.1.length sc1), (18, .int .i64 (t_2.1.length : Int)), (19, .int .i64 x), (20, .bool (decide (x < (t_2.1.length : Int))))]) (obs := []) rfl (by kernel_rfl) trivial fun a hE => ?_
   refine WR.done rfl ?_
   refine Runs.seq ?_
   refine Runs.cond hE rfl (fun c => ?_) (fun c => ?_)
   ·replace hm := cond_t c hm
    refine Runs.skip ?_
    refine Runs.seq ?_
    obtain ⟨s1, es1, hm⟩ := bind_some hm
    refine Runs.join (fun a w => EnvOk 34 a [(0, .pointer (some ⟨p_d, 0, none⟩)), (1, .int .i64 queue), (6, .int .i64 s1), (17, .slice sb1 t_2.1.length sc1), (18, .int .i64 (t_2.1.length : Int)), (19, .int .i64 x)] ∧ St w0 (Sl 60 api_Reply.enc 6 sb1 sc1 t_2.1 :: dispatch_Dispatcher.R p_d (dispatch_Dispatcher.A.mk al_d.q_p z al_d.t__p z1 al_d.when_p al_d.clock_p) t_2.2 :: As) w) (fun hk => ?_) ?_
    ·replace hm := es1; clear es1
     refine Runs.block ?_
     refine Runs.sr ?_
     obtain ⟨x2, ex2, hm⟩ := bind_some hm
     obtain ⟨b, o, hs, hb⟩ := SlRd.base (sl_rd 60 api_Reply.enc 6 _ _ _) api_Reply.enc_ok H 0 rfl ex2
     refine WR.d hE 2 [.pointer (some ⟨b, o, none⟩), .int .i64 x2.Why, .int .i64 x2.Job.At, .int .i64 x2.Job.Gen, .int .i64 x2.Time, .int .i64 x2.Data, .int .i64 x2.N] [(22, .agg #[.int .i64 x2.Why, .int .i64 x2.Job.At, .int .i64 x2.Job.Gen, .int .i64 x2.Time, .int .i64 x2.Data, .int .i64 x2.N])] (obs := [.p ((sb1 : Option Addr) = some ⟨b, o, none⟩), .p (0 ≤ (x : Int) ∧ (x : Int) < ((t_2.1.length : Nat) : Int)), .cell ⟨b, o + (Int.toNat x) * 6, none⟩ (.int .i64 x2.Why), .cell ⟨b, o + (Int.toNat x) * 6 + 1, none⟩ (.int .i64 x2.Job.At), .cell ⟨b, o + (Int.toNat x) * 6 + 2, none⟩ (.int .i64 x2.Job.Gen), .cell ⟨b, o + (Int.toNat x) * 6 + 3, none⟩ (.int .i64 x2.Time), .cell ⟨b, o + (Int.toNat x) * 6 + 4, none⟩ (.int .i64 x2.Data), .cell ⟨b, o + (Int.toNat x) * 6 + 5, none⟩ (.int .i64 x2.N)]) ⟨hs, hb, SlRd.cells (sl_rd 60 api_Reply.enc 6 _ _ _) api_Reply.enc_ok H 0 rfl hs ex2 0 _ rfl, SlRd.cells (sl_rd 60 api_Reply.enc 6 _ _ _) api_Reply.enc_ok H 0 rfl hs ex2 1 _ rfl, SlRd.cells (sl_rd 60 api_Reply.enc 6 _ _ _) api_Reply.enc_ok H 0 rfl hs ex2 2 _ rfl, SlRd.cells (sl_rd 60 api_Reply.enc 6 _ _ _) api_Reply.enc_ok H 0 rfl hs ex2 3 _ rfl, SlRd.cells (sl_rd 60 api_Reply.enc 6 _ _ _) api_Reply.enc_ok H 0 rfl hs ex2 4 _ rfl, SlRd.cells (sl_rd 60 api_Reply.enc 6 _ _ _) api_Reply.enc_ok H 0 rfl hs ex2 5 _ rfl, trivial⟩ fun a hE => ?_
     refine WR.eff hE rfl rfl rfl rfl (OpTo.new hE H [] (.cells #[.int .i64 0, .int .i64 0, .int .i64 0, .int .i64 0, .int .i64 0, .int .i64 0] 60 (0, 0)) (fun r => .pointer (some ⟨r, 0, none⟩)) (obs := []) rfl (fun _ => by kernel_rfl) trivial) ?_
     rintro _ w ⟨r, rfl, H⟩ a hE
     refine WR.eff0 hE rfl rfl rfl (OpTo.store hE H rfl rfl rfl rfl rfl rfl (Nat.le_of_ble_eq_true rfl)) ?_
     rintro _ w H a hE
     refine WR.done rfl ?_
     refine Runs.sr ?_
     refine WR.e hE [.int .i64 x2.Why] [(25, .bool (x2.Why == 0))] (obs := [.cell ⟨r, 0, none⟩ (.int .i64 x2.Why)]) ⟨H.cell 0 rfl rfl, trivial⟩ fun a hE => ?_
     refine Runs.cond hE rfl (fun c => ?_) (fun c => ?_)
     ·replace hm := cond_t c hm
      refine Runs.region ?_
      refine WR.e0 hE [(6, .int .i64 (w64 (n + 1)))] fun a hE => ?_
      refine Runs.inBlock ?_
      cases hm
      exact hk _ _ ⟨hE.sel [0, 1, 6, 17, 18, 19] (by kernel_rfl), H.x0.t1.t1⟩
     ·replace hm := cond_f c hm
      refine Runs.skip ?_
      refine Runs.inBlock ?_
      cases hm
      exact hk _ _ ⟨hE.sel [0, 1, 6, 17, 18, 19] (by kernel_rfl), H.x0.t1.t1⟩
    rintro a w ⟨hE, H⟩
    refine Runs.region ?_
    refine WR.seg hE 2 [] [0, 1, 6, 17, 18, 19] (Lo := [(0, .pointer (some ⟨p_d, 0, none⟩)), (1, .int .i64 queue), (6, .int .i64 s1), (17, .slice sb1 t_2.1.length sc1), (18, .int .i64 (t_2.1.length : Int)), (19, .int .i64 (w64 (x + 1)))]) (obs := []) rfl (by kernel_rfl) trivial fun a hE => ?_
    refine WR.done rfl ?_
    exact ih m (Nat.lt_succ_self m) _ _ ⟨s1, w64 (x + 1), hE.sel [0, 1, 6, 17, 18, 19] (by kernel_rfl), H.t1.t1, hm⟩
   ·replace hm := cond_f c hm
    refine Runs.exit rfl ?_
    cases hm
    exact hk _ _ ⟨hE.sel [0, 1, 6] (by kernel_rfl), H.x0⟩
 rintro a w ⟨hE, H⟩
 refine Runs.sr ?_
 refine WR.seg hE 3 [] [29, 30, 31] (Lo := [(29, .int .i64 s), (30, .pointer (some ⟨p_d, 0, none⟩)), (31, .int .i64 queue)]) (obs := []) rfl (by kernel_rfl) trivial fun a hE => ?_
 obtain ⟨t_3, et_3, hm⟩ := bind_some hm
 refine WR.eff hE rfl rfl rfl rfl (OpTo.fn hE rfl rfl Tryz.call44 (dispatch_Dispatcher_Due_ok et_3 H)) ?_
 rintro _ w ⟨rfl, H⟩ a hE
 refine WR.e0 hE [(4, .int .i64 s), (5, .bool (t_3 == 0))] fun a hE => ?_
 refine Runs.ret hE Tryz.func24 rfl rfl ?_
 cases hm
 exact ⟨z, z1, rfl, H⟩

theorem fair_Drain_nil0_ok {w0 w : World} {As : List HP} {queue : Int} {t : Int × Bool}  (hm : fair_Drain_nil0 queue = some t) (H : St w0 (As) w) :
    CallsR Tryz.prog 24 #[.pointer none, .int .i64 queue] w fun v w' => v = .tuple #[.int .i64 t.1, .bool t.2] ∧ St w0 (As) w' := by
 rw [fair_Drain_nil0] at hm
 refine enter (args := [.pointer none, .int .i64 queue]) Tryz.func24 rfl rfl rfl fun a hE => ?_
 refine Runs.sr ?_
 refine WR.seg hE 2 [] [0, 1] (Lo := [(0, .pointer none), (1, .int .i64 queue)]) (obs := []) rfl (by kernel_rfl) trivial fun a hE => ?_
 refine WR.done rfl ?_
 refine Runs.seq ?_
 refine Runs.sr ?_
 refine WR.e0 hE [(10, .bool true)] fun a hE => ?_
 refine Runs.condT hE rfl ?_
 refine Runs.sr ?_
 refine WR.e0 hE [(4, .int .i64 0), (5, .bool false)] fun a hE => ?_
 refine Runs.ret hE Tryz.func24 rfl rfl ?_
 cases hm
 exact ⟨rfl, H⟩

theorem thicketlaw27_known_ok {w0 w : World} {As : List HP} {k : Nat}  {t : Bool}  (hm : thicketlaw27_known k = some t) (H : St w0 (As) w) :
    CallsR Tryz.prog 10 #[] w fun v w' => v = .bool t ∧ St w0 (As) w' := by
 rw [thicketlaw27_known] at hm
 refine enter (args := []) Tryz.func10 rfl rfl rfl fun a hE => ?_
 refine Runs.sr ?_
 refine WR.seg hE 1 [] [] (Lo := []) (obs := []) rfl (by kernel_rfl) trivial fun a hE => ?_
 refine WR.done rfl ?_
 refine Runs.sr ?_
 obtain ⟨t_, et_, hm⟩ := bind_some hm
 refine WR.eff hE rfl rfl rfl rfl (OpTo.fn hE rfl rfl Tryz.call21 (thicketlaw27_fresh_ok et_ H)) ?_
 rintro _ w ⟨p, al, rfl, H⟩ a hE
 rcases ho : t_ with _ | m_
 ·replace hm := case_n ho hm
  rw [ho] at hE H
  replace H := H.x0
  refine WR.seg hE 2 [] [1] (Lo := [(1, .pointer none)]) (obs := []) rfl (by kernel_rfl) trivial fun a hE => ?_
  refine WR.done rfl ?_
  refine Runs.seq ?_
  refine Runs.sr ?_
  refine WR.e0 hE [(24, .bool true)] fun a hE => ?_
  refine Runs.condT hE rfl ?_
  refine Runs.sr ?_
  refine WR.e0 hE [(0, .bool false)] fun a hE => ?_
  refine Runs.ret hE Tryz.func10 rfl rfl ?_
  cases hm
  exact ⟨rfl, H⟩
 ·replace hm := case_s ho hm
  rw [ho] at hE H
  replace H : St w0 (thicketlaw27_world.R p al m_ :: _) w := H
  refine WR.seg hE 2 [] [1] (Lo := [(1, .pointer (some ⟨p, 0, none⟩))]) (obs := []) rfl (by kernel_rfl) trivial fun a hE => ?_
  refine WR.done rfl ?_
  refine Runs.seq ?_
  refine Runs.seq ?_
  obtain ⟨s, es, hm⟩ := bind_some hm
  refine Runs.join (fun a w => ∃ (z : dispatch_Dispatcher.A), ∃ (z1 : thicketref22_Dispatcher.A), ∃ (z2 : Option Addr), ∃ (z3 : Nat), EnvOk 62 a [(1, .pointer (some ⟨p, 0, none⟩)), (24, .bool s.1)] ∧ St w0 (thicketlaw27_world.R p (thicketlaw27_world.A.mk al.d_p z al.m__p z1 z2 z3) s.2 :: As) w) (fun hk => ?_) ?_
  ·replace hm := es; clear es
   refine Runs.region ?_
   refine WR.d0 hE 5 [(9, .bool false), (10, .pointer (some ⟨p, 0, none⟩)), (11, .agg #[.int .i64 1, .int .i64 0, .int .i64 0, .int .i64 0, .int .i64 0, .int .i64 0])] fun a hE => ?_
   obtain ⟨t_1, et_1, hm⟩ := bind_some hm
   have hC_ := thicketlaw27_world_do_ok et_1 H
   try dsimp only at hC_
   refine WR.eff hE rfl rfl rfl rfl (OpTo.fn hE rfl rfl Tryz.call22 hC_) ?_
   rintro _ w ⟨z4, z5, z6, z7, rfl, H⟩ a hE
   refine WR.d0 hE 9 [(15, .bool (!t_1.1))] fun a hE => ?_
   rcases Bool.eq_false_or_eq_true (!t_1.1) with c | c
   ·replace hE := hE.dec 15 c (by kernel_rfl)
    replace hm := cond_t c hm
    have c_ := c
    refine WR.e0 hE [(24, .bool true)] fun a hE => ?_
    cases hm
    exact hk _ _ ⟨z4, z5, z6, z7, hE.sel [1, 24] (by kernel_rfl), H⟩
   ·replace hE := hE.dec 15 c (by kernel_rfl)
    replace hm := cond_f c hm
    have c_1 := c
    replace H := thicketlaw27_world.open H
    try dsimp only at H
    refine WR.d hE 13 [.pointer (some ⟨al.d_p, 0, none⟩)] [(15, .bool false), (19, .pointer (some ⟨al.d_p, 0, none⟩))] (obs := [.cell ⟨p, 0, none⟩ (.pointer (some ⟨al.d_p, 0, none⟩))]) ⟨H.cell 0 rfl rfl, trivial⟩ fun a hE => ?_
    obtain ⟨t_2, et_2, hm⟩ := bind_some hm
    refine WR.eff hE rfl rfl rfl rfl (OpTo.fn hE rfl rfl Tryz.call23 (fair_Quiet_ok et_2 H.t1)) ?_
    rintro _ w ⟨rfl, H⟩ a hE
    refine WR.d0 hE 16 [(22, .bool t_2)] fun a hE => ?_
    rcases Bool.eq_false_or_eq_true t_2 with c | c
    ·replace hE := hE.dec 22 c (by kernel_rfl)
     replace hm := cond_t c hm
     have c_2 := c
     refine WR.e0 hE [(24, .bool true)] fun a hE => ?_
     replace H := thicketlaw27_world.shut (thicketlaw27_world.A.mk al.d_p z4 al.m__p z5 z6 z7) (t_1.2) H.t3.t3.t2.t3
     cases hm
     exact hk _ _ ⟨z4, z5, z6, z7, hE.sel [1, 24] (by kernel_rfl), H⟩
    ·replace hE := hE.dec 22 c (by kernel_rfl)
     replace hm := cond_f c hm
     have c_3 := c
     obtain ⟨t_3, et_3, hm⟩ := bind_some hm
     refine WR.eff hE rfl rfl rfl rfl (OpTo.fn hE rfl rfl Tryz.call23 (fair_Quiet_nil0_ok et_3 H)) ?_
     rintro _ w ⟨rfl, H⟩ a hE
     refine WR.e0 hE [(24, .bool t_3)] fun a hE => ?_
     replace H := thicketlaw27_world.shut (thicketlaw27_world.A.mk al.d_p z4 al.m__p z5 z6 z7) (t_1.2) H.t3.t3.t2.t3
     cases hm
     exact hk _ _ ⟨z4, z5, z6, z7, hE.sel [1, 24] (by kernel_rfl), H⟩
  rintro a w ⟨z, z1, z2, z3, hE, H⟩
  refine Runs.cond hE rfl (fun c => ?_) (fun c => ?_)
  ·replace hm := cond_t c hm
   refine Runs.sr ?_
   refine WR.seg hE 1 [] [0] (Lo := [(0, .bool false)]) (obs := []) rfl (by kernel_rfl) trivial fun a hE => ?_
   refine WR.done rfl ?_
   refine Runs.ret hE Tryz.func10 rfl rfl ?_
   cases hm
   exact ⟨rfl, H.x0⟩
  ·replace hm := cond_f c hm
   refine Runs.skip ?_
   refine Runs.sr ?_
   replace H := thicketlaw27_world.open H
   try dsimp only at H
   refine WR.seg hE 4 [.pointer (some ⟨al.d_p, 0, none⟩)] [1, 29] (Lo := [(1, .pointer (some ⟨p, 0, none⟩)), (29, .pointer (some ⟨al.d_p, 0, none⟩))]) (obs := [.cell ⟨p, 0, none⟩ (.pointer (some ⟨al.d_p, 0, none⟩))]) rfl (by kernel_rfl) ⟨H.cell 0 rfl rfl, trivial⟩ fun a hE => ?_
   obtain ⟨t_4, et_4, hm⟩ := bind_some hm
   refine WR.eff hE rfl rfl rfl rfl (OpTo.fn hE rfl rfl Tryz.call24 (fair_Drain_ok et_4 H.t1)) ?_
   rintro _ w ⟨z8, z9, rfl, H⟩ a hE
   refine WR.e0 hE [(2, .int .i64 t_4.1), (3, .bool t_4.2.1)] fun a hE => ?_
   refine Runs.sr ?_
   obtain ⟨t_5, et_5, hm⟩ := bind_some hm
   refine WR.eff hE rfl rfl rfl rfl (OpTo.fn hE rfl rfl Tryz.call24 (fair_Drain_nil0_ok et_5 H)) ?_
   rintro _ w ⟨rfl, H⟩ a hE
   refine WR.e0 hE [(4, .int .i64 t_5.1), (5, .bool t_5.2)] fun a hE => ?_
   refine Runs.seq ?_
   replace H := thicketlaw27_world.shut (thicketlaw27_world.A.mk al.d_p (dispatch_Dispatcher.A.mk z.q_p z8 z.t__p z9 z.when_p z.clock_p) al.m__p z1 z2 z3) (thicketlaw27_world.mk t_4.2.2 s.2.m_ s.2.k_ s.2.told) H.t3.t3.t2.t3
   obtain ⟨s1, es1, hm⟩ := bind_some hm
   refine Runs.join (fun a w => EnvOk 62 a [(0, .bool s1)] ∧ St w0 (thicketlaw27_world.R p (thicketlaw27_world.A.mk al.d_p (dispatch_Dispatcher.A.mk z.q_p z8 z.t__p z9 z.when_p z.clock_p) al.m__p z1 z2 z3) (thicketlaw27_world.mk t_4.2.2 s.2.m_ s.2.k_ s.2.told) :: As) w) (fun hk => ?_) ?_
   ·replace hm := es1; clear es1
    refine Runs.region ?_
    refine WR.d0 hE 3 [(39, .bool (t_4.1 == 1))] fun a hE => ?_
    rcases Bool.eq_false_or_eq_true (t_4.1 == 1) with c | c
    ·replace hE := hE.dec 39 c (by kernel_rfl)
     replace hm := cond_t c hm
     have c_4 := c
     refine WR.d0 hE 6 [(42, .bool t_4.2.1)] fun a hE => ?_
     rcases Bool.eq_false_or_eq_true t_4.2.1 with c | c
     ·replace hE := hE.dec 42 c (by kernel_rfl)
      replace hm := cond_t c hm
      have c_5 := c
      refine WR.d0 hE 10 [(46, .bool (t_5.1 == 0))] fun a hE => ?_
      rcases Bool.eq_false_or_eq_true (t_5.1 == 0) with c | c
      ·replace hE := hE.dec 46 c (by kernel_rfl)
       replace hm := cond_t c hm
       have c_6 := c
       refine WR.d0 hE 14 [(50, .bool (!t_5.2))] fun a hE => ?_
       rcases Bool.eq_false_or_eq_true (!t_5.2) with c | c
       ·replace hE := hE.dec 50 c (by kernel_rfl)
        replace hm := cond_t c hm
        have c_7 := c
        replace H := thicketlaw27_world.open H
        try dsimp only at H
        refine WR.d hE 18 [.pointer (some ⟨al.d_p, 0, none⟩)] [(50, .bool true), (54, .pointer (some ⟨al.d_p, 0, none⟩))] (obs := [.cell ⟨p, 0, none⟩ (.pointer (some ⟨al.d_p, 0, none⟩))]) ⟨H.cell 0 rfl rfl, trivial⟩ fun a hE => ?_
        obtain ⟨t_6, et_6, hm⟩ := bind_some hm
        refine WR.eff hE rfl rfl rfl rfl (OpTo.fn hE rfl rfl Tryz.call23 (fair_Quiet_ok et_6 H.t1)) ?_
        rintro _ w ⟨rfl, H⟩ a hE
        refine WR.d0 hE 21 [(57, .bool t_6)] fun a hE => ?_
        rcases Bool.eq_false_or_eq_true t_6 with c | c
        ·replace hE := hE.dec 57 c (by kernel_rfl)
         replace hm := cond_t c hm
         have c_8 := c
         obtain ⟨t_7, et_7, hm⟩ := bind_some hm
         refine WR.eff hE rfl rfl rfl rfl (OpTo.fn hE rfl rfl Tryz.call6 (fair_Fires_ok et_7 H)) ?_
         rintro _ w ⟨sb, sc, rfl, H⟩ a hE
         refine WR.e0 hE [(0, .bool ((t_7.length : Int) == 0))] fun a hE => ?_
         replace H := thicketlaw27_world.shut (thicketlaw27_world.A.mk al.d_p (dispatch_Dispatcher.A.mk z.q_p z8 z.t__p z9 z.when_p z.clock_p) al.m__p z1 z2 z3) (thicketlaw27_world.mk t_4.2.2 s.2.m_ s.2.k_ s.2.told) H.t4.t4.t3.t4
         cases hm
         exact hk _ _ ⟨hE.sel [0] (by kernel_rfl), H.x1⟩
        ·replace hE := hE.dec 57 c (by kernel_rfl)
         replace hm := cond_f c hm
         have c_9 := c
         refine WR.e0 hE [(0, .bool false)] fun a hE => ?_
         replace H := thicketlaw27_world.shut (thicketlaw27_world.A.mk al.d_p (dispatch_Dispatcher.A.mk z.q_p z8 z.t__p z9 z.when_p z.clock_p) al.m__p z1 z2 z3) (thicketlaw27_world.mk t_4.2.2 s.2.m_ s.2.k_ s.2.told) H.t3.t3.t2.t3
         cases hm
         exact hk _ _ ⟨hE.sel [0] (by kernel_rfl), H⟩
       ·replace hE := hE.dec 50 c (by kernel_rfl)
        replace hm := cond_f c hm
        have c_10 := c
        refine WR.e0 hE [(0, .bool false)] fun a hE => ?_
        cases hm
        exact hk _ _ ⟨hE.sel [0] (by kernel_rfl), H⟩
      ·replace hE := hE.dec 46 c (by kernel_rfl)
       replace hm := cond_f c hm
       have c_11 := c
       refine WR.e0 hE [(0, .bool false)] fun a hE => ?_
       cases hm
       exact hk _ _ ⟨hE.sel [0] (by kernel_rfl), H⟩
     ·replace hE := hE.dec 42 c (by kernel_rfl)
      replace hm := cond_f c hm
      have c_12 := c
      refine WR.e0 hE [(0, .bool false)] fun a hE => ?_
      cases hm
      exact hk _ _ ⟨hE.sel [0] (by kernel_rfl), H⟩
    ·replace hE := hE.dec 39 c (by kernel_rfl)
     replace hm := cond_f c hm
     have c_13 := c
     refine WR.e0 hE [(0, .bool false)] fun a hE => ?_
     cases hm
     exact hk _ _ ⟨hE.sel [0] (by kernel_rfl), H⟩
   rintro a w ⟨hE, H⟩
   refine Runs.ret hE Tryz.func10 rfl rfl ?_
   cases hm
   exact ⟨rfl, H.x0⟩

theorem thicketlaw27_FairNumbers_ok {w0 w : World} {As : List HP} {k : Nat}  {t : Bool}  (hm : thicketlaw27_FairNumbers k = some t) (H : St w0 (As) w) :
    CallsR Tryz.prog 3 #[] w fun v w' => v = .bool t ∧ St w0 (As) w' := by
 rw [thicketlaw27_FairNumbers] at hm
 refine enter (args := []) Tryz.func3 rfl rfl rfl fun a hE => ?_
 refine Runs.sr ?_
 refine WR.seg hE 1 [] [] (Lo := []) (obs := []) rfl (by kernel_rfl) trivial fun a hE => ?_
 refine WR.done rfl ?_
 refine Runs.seq ?_
 refine Runs.sr ?_
 refine WR.eff hE rfl rfl rfl rfl (OpTo.buildSl (T := 3) hE H ecI_ok ([(-5), 0, 1, 7, 4096, 4105] : List Int) rfl (fun _ => by kernel_rfl) rfl rfl rfl) ?_
 rintro _ w ⟨r, rfl, H⟩ a hE
 refine WR.e0 hE [(7, .int .i64 6), (8, .int .i64 0)] fun a hE => ?_
 obtain ⟨s, es, hR⟩ := bind_some hm
 refine Runs.join (fun a w => ∃ s1, s = Sum.inr s1 ∧ EnvOk 46 a [] ∧ St w0 (As) w) (fun hk => ?_) ?_
 ·replace hm := es; clear es
  refine Runs.block ?_
  refine Runs.loop (fun m a w => ∃ (x : Int), EnvOk 46 a [(6, .slice (some ⟨r, 0, none⟩) (([(-5), 0, 1, 7, 4096, 4105] : List Int).length) 6), (7, .int .i64 6), (8, .int .i64 x)] ∧ St w0 (Sl 3 ecI 1 (some ⟨r, 0, none⟩) 6 ([(-5), 0, 1, 7, 4096, 4105] : List Int) :: As) w ∧ thicketlaw27_FairNumbers_l0 ([(-5), 0, 1, 7, 4096, 4105] : List Int) m x = some s) k ⟨0, hE.sel [6, 7, 8] (by kernel_rfl), H, hm⟩ ?_
  rintro m ih a w ⟨x, hE, H, hm⟩
  cases m with
  | zero => simp [thicketlaw27_FairNumbers_l0] at hm
  | succ m =>
   rw [thicketlaw27_FairNumbers_l0] at hm
   refine Runs.sr ?_
   refine WR.seg hE 1 [] [6, 7, 8, 9] (Lo := [(6, .slice (some ⟨r, 0, none⟩) (([(-5), 0, 1, 7, 4096, 4105] : List Int).length) 6), (7, .int .i64 6), (8, .int .i64 x), (9, .bool (decide (x < 6)))]) (obs := []) rfl (by kernel_rfl) trivial fun a hE => ?_
   refine WR.done rfl ?_
   refine Runs.seq ?_
   refine Runs.cond hE rfl (fun c => ?_) (fun c => ?_)
   ·replace hm := cond_t c hm
    refine Runs.skip ?_
    refine Runs.seq ?_
    refine Runs.block ?_
    refine Runs.sr ?_
    obtain ⟨x1, ex1, hm⟩ := bind_some hm
    obtain ⟨b, o, hs, hb⟩ := SlRd.base (sl_rd 3 ecI 1 _ _ _) ecI_ok H 0 rfl ex1
    refine WR.e hE [.pointer (some ⟨b, o, none⟩), .int .i64 x1] [(2, .int .i64 x1)] (obs := [.p (((some ⟨r, 0, none⟩) : Option Addr) = some ⟨b, o, none⟩), .p (0 ≤ (x : Int) ∧ (x : Int) < ((([(-5), 0, 1, 7, 4096, 4105] : List Int).length : Nat) : Int)), .cell ⟨b, o + (Int.toNat x) * 1, none⟩ (.int .i64 x1)]) ⟨hs, hb, SlRd.cells (sl_rd 3 ecI 1 _ _ _) ecI_ok H 0 rfl hs ex1 0 _ rfl, trivial⟩ fun a hE => ?_
    refine Runs.sr ?_
    refine WR.d0 hE 1 [(12, .int .i64 x1)] fun a hE => ?_
    obtain ⟨t_, et_, hm⟩ := bind_some hm
    refine WR.eff hE rfl rfl rfl rfl (OpTo.fn hE rfl rfl Tryz.call6 (fair_Fires_ok et_ H)) ?_
    rintro _ w ⟨sb, sc, rfl, H⟩ a hE
    refine WR.e0 hE [(3, .slice sb t_.length sc)] fun a hE => ?_
    refine Runs.seq ?_
    refine Runs.sr ?_
    refine WR.e0 hE [(19, .bool ((t_.length : Int) != (if 0 > (if 4096 < x1 then 4096 else x1) then 0 else (if 4096 < x1 then 4096 else x1))))] fun a hE => ?_
    refine Runs.cond hE rfl (fun c => ?_) (fun c => ?_)
    ·replace hm := cond_t c hm
     refine Runs.sr ?_
     refine WR.e0 hE [(0, .bool false)] fun a hE => ?_
     refine Runs.ret hE Tryz.func3 rfl rfl ?_
     cases hm
     dsimp only at hR; cases hR
     exact ⟨rfl, H.x1.x0⟩
    ·replace hm := cond_f c hm
     refine Runs.skip ?_
     refine Runs.sr ?_
     refine WR.e0 hE [(4, .int .i64 0)] fun a hE => ?_
     obtain ⟨s2, es2, hR1⟩ := bind_some hm
     refine Runs.join (fun a w => ∃ s3, s2 = Sum.inr s3 ∧ EnvOk 46 a [(6, .slice (some ⟨r, 0, none⟩) (([(-5), 0, 1, 7, 4096, 4105] : List Int).length) 6), (7, .int .i64 6), (8, .int .i64 x)] ∧ St w0 (Sl 3 ecI 1 (some ⟨r, 0, none⟩) 6 ([(-5), 0, 1, 7, 4096, 4105] : List Int) :: As) w) (fun hk => ?_) ?_
     ·replace hm := es2; clear es2
      refine Runs.block ?_
      refine Runs.loop (fun m a w => ∃ (i : Int), EnvOk 46 a [(3, .slice sb t_.length sc), (4, .int .i64 i), (6, .slice (some ⟨r, 0, none⟩) (([(-5), 0, 1, 7, 4096, 4105] : List Int).length) 6), (7, .int .i64 6), (8, .int .i64 x)] ∧ St w0 (Sl 28 api_Command.enc 6 sb sc t_ :: Sl 3 ecI 1 (some ⟨r, 0, none⟩) 6 ([(-5), 0, 1, 7, 4096, 4105] : List Int) :: As) w ∧ thicketlaw27_FairNumbers_l1 x t_ ([(-5), 0, 1, 7, 4096, 4105] : List Int) m i = some s2) m ⟨0, hE.sel [3, 4, 6, 7, 8] (by kernel_rfl), H.t1.t1, hm⟩ ?_
      rintro m ih a w ⟨i, hE, H, hm⟩
      cases m with
      | zero => simp [thicketlaw27_FairNumbers_l1] at hm
      | succ m =>
       rw [thicketlaw27_FairNumbers_l1] at hm
       refine Runs.seq ?_
       refine Runs.sr ?_
       refine WR.seg hE 4 [] [3, 4, 6, 7, 8, 23] (Lo := [(3, .slice sb t_.length sc), (4, .int .i64 i), (6, .slice (some ⟨r, 0, none⟩) (([(-5), 0, 1, 7, 4096, 4105] : List Int).length) 6), (7, .int .i64 6), (8, .int .i64 x), (23, .bool (decide (i < (t_.length : Int))))]) (obs := []) rfl (by kernel_rfl) trivial fun a hE => ?_
       refine WR.done rfl ?_
       refine Runs.cond hE rfl (fun c => ?_) (fun c => ?_)
       ·replace hm := cond_t c hm
        refine Runs.skip ?_
        refine Runs.seq ?_
        refine Runs.block ?_
        refine Runs.sr ?_
        obtain ⟨x3, ex3, hm⟩ := bind_some hm
        obtain ⟨b1, o1, hs1, hb1⟩ := SlRd.base (sl_rd 28 api_Command.enc 6 _ _ _) api_Command.enc_ok H 0 rfl ex3
        refine WR.d hE 5 [.pointer (some ⟨b1, o1, none⟩), .int .i64 x3.Kind, .int .i64 x3.Queue, .int .i64 x3.Job.At, .int .i64 x3.Job.Gen, .int .i64 x3.Time, .int .i64 x3.Data] [(29, .agg #[.int .i64 x3.Kind, .int .i64 x3.Queue, .int .i64 x3.Job.At, .int .i64 x3.Job.Gen, .int .i64 x3.Time, .int .i64 x3.Data]), (30, .agg #[.int .i64 5, .int .i64 1, .int .i64 0, .int .i64 0, .int .i64 0, .int .i64 0])] (obs := [.p ((sb : Option Addr) = some ⟨b1, o1, none⟩), .p (0 ≤ (i : Int) ∧ (i : Int) < ((t_.length : Nat) : Int)), .cell ⟨b1, o1 + (Int.toNat i) * 6, none⟩ (.int .i64 x3.Kind), .cell ⟨b1, o1 + (Int.toNat i) * 6 + 1, none⟩ (.int .i64 x3.Queue), .cell ⟨b1, o1 + (Int.toNat i) * 6 + 2, none⟩ (.int .i64 x3.Job.At), .cell ⟨b1, o1 + (Int.toNat i) * 6 + 3, none⟩ (.int .i64 x3.Job.Gen), .cell ⟨b1, o1 + (Int.toNat i) * 6 + 4, none⟩ (.int .i64 x3.Time), .cell ⟨b1, o1 + (Int.toNat i) * 6 + 5, none⟩ (.int .i64 x3.Data)]) ⟨hs1, hb1, SlRd.cells (sl_rd 28 api_Command.enc 6 _ _ _) api_Command.enc_ok H 0 rfl hs1 ex3 0 _ rfl, SlRd.cells (sl_rd 28 api_Command.enc 6 _ _ _) api_Command.enc_ok H 0 rfl hs1 ex3 1 _ rfl, SlRd.cells (sl_rd 28 api_Command.enc 6 _ _ _) api_Command.enc_ok H 0 rfl hs1 ex3 2 _ rfl, SlRd.cells (sl_rd 28 api_Command.enc 6 _ _ _) api_Command.enc_ok H 0 rfl hs1 ex3 3 _ rfl, SlRd.cells (sl_rd 28 api_Command.enc 6 _ _ _) api_Command.enc_ok H 0 rfl hs1 ex3 4 _ rfl, SlRd.cells (sl_rd 28 api_Command.enc 6 _ _ _) api_Command.enc_ok H 0 rfl hs1 ex3 5 _ rfl, trivial⟩ fun a hE => ?_
        refine WR.eff hE rfl rfl rfl rfl (OpTo.neS hE rfl rfl rfl (by kernel_rfl) (api_Command.eq_run x3 (api_Command.mk 5 1 (api_Ref.mk 0 0) 0 0))) ?_
        rintro _ _ ⟨rfl, rfl⟩ a hE
        refine WR.done rfl ?_
        refine Runs.cond hE rfl (fun c => ?_) (fun c => ?_)
        ·replace hm := cond_t c hm
         refine Runs.sr ?_
         refine WR.e0 hE [(0, .bool false)] fun a hE => ?_
         refine Runs.ret hE Tryz.func3 rfl rfl ?_
         cases hm
         dsimp only at hR1; cases hR1
         dsimp only at hR; cases hR
         exact ⟨rfl, H.x1.x0⟩
        ·replace hm := cond_f c hm
         refine Runs.skip ?_
         refine Runs.inBlock ?_
         refine Runs.region ?_
         refine WR.e0 hE [(4, .int .i64 (w64 (i + 1)))] fun a hE => ?_
         exact ih m (Nat.lt_succ_self m) _ _ ⟨w64 (i + 1), hE.sel [3, 4, 6, 7, 8] (by kernel_rfl), H.t1.t1, hm⟩
       ·replace hm := cond_f c hm
        refine Runs.exit rfl ?_
        cases hm
        exact hk _ _ ⟨_, rfl, hE.sel [6, 7, 8] (by kernel_rfl), H.x0⟩
     rintro a w ⟨s3, rfl, hE, H⟩
     replace hm := hR1; dsimp only at hm
     refine Runs.inBlock ?_
     refine Runs.region ?_
     refine WR.seg hE 2 [] [6, 7, 8] (Lo := [(6, .slice (some ⟨r, 0, none⟩) (([(-5), 0, 1, 7, 4096, 4105] : List Int).length) 6), (7, .int .i64 6), (8, .int .i64 (w64 (x + 1)))]) (obs := []) rfl (by kernel_rfl) trivial fun a hE => ?_
     refine WR.done rfl ?_
     exact ih m (Nat.lt_succ_self m) _ _ ⟨w64 (x + 1), hE.sel [6, 7, 8] (by kernel_rfl), H, hm⟩
   ·replace hm := cond_f c hm
    refine Runs.exit rfl ?_
    cases hm
    exact hk _ _ ⟨_, rfl, hE.sel [] (by kernel_rfl), H.x0⟩
 rintro a w ⟨s1, rfl, hE, H⟩
 replace hm := hR; dsimp only at hm
 refine Runs.sr ?_
 obtain ⟨t_1, et_1, hm⟩ := bind_some hm
 refine WR.eff hE rfl rfl rfl rfl (OpTo.fn hE rfl rfl Tryz.call7 (thicketlaw27_fires_ok et_1 H)) ?_
 rintro _ w ⟨sb1, sc1, rfl, H⟩ a hE
 refine WR.seg hE 2 [] [5] (Lo := [(5, .slice sb1 t_1.length sc1)]) (obs := []) rfl (by kernel_rfl) trivial fun a hE => ?_
 refine WR.done rfl ?_
 refine Runs.seq ?_
 obtain ⟨s4, es4, hm⟩ := bind_some hm
 refine Runs.join (fun a w => EnvOk 46 a [(0, .bool s4)] ∧ St w0 (As) w) (fun hk => ?_) ?_
 ·replace hm := es4; clear es4
  refine Runs.region ?_
  refine WR.d0 hE 1 [(34, .slice sb1 t_1.length sc1)] fun a hE => ?_
  obtain ⟨t_2, et_2, hm⟩ := bind_some hm
  refine WR.eff hE rfl rfl rfl rfl (OpTo.fn hE rfl rfl Tryz.call8 (fair_Order_ok (hX_l := (sl_rd 62 trace_Event.enc 14 _ _ _)) (hC_l := (H.slCap 0 rfl).1) et_2 H)) ?_
  rintro _ w ⟨rfl, H⟩ a hE
  refine WR.d0 hE 3 [(36, .bool t_2)] fun a hE => ?_
  rcases Bool.eq_false_or_eq_true t_2 with c | c
  ·replace hE := hE.dec 36 c (by kernel_rfl)
   replace hm := cond_t c hm
   have c_ := c
   refine WR.d0 hE 4 [(36, .bool true), (37, .slice sb1 t_1.length sc1)] fun a hE => ?_
   obtain ⟨t_3, et_3, hm⟩ := bind_some hm
   refine WR.eff hE rfl rfl rfl rfl (OpTo.fn hE rfl rfl Tryz.call9 (thicketlaw27_ordered_ok (hX_l := (sl_rd 62 trace_Event.enc 14 _ _ _)) (hC_l := (H.slCap 0 rfl).1) et_3 H)) ?_
   rintro _ w ⟨rfl, H⟩ a hE
   refine WR.d0 hE 7 [(40, .bool t_3)] fun a hE => ?_
   rcases Bool.eq_false_or_eq_true t_3 with c | c
   ·replace hE := hE.dec 40 c (by kernel_rfl)
    replace hm := cond_t c hm
    have c_1 := c
    replace H := H.slNil 62 trace_Event.enc 14
    obtain ⟨t_4, et_4, hm⟩ := bind_some hm
    refine WR.eff hE rfl rfl rfl rfl (OpTo.fn hE rfl rfl Tryz.call8 (fair_Order_ok (hX_l := (sl_rd 62 trace_Event.enc 14 _ _ _)) (hC_l := (H.slCap 0 rfl).1) (sb_l := none) (l := ([] : List trace_Event)) (sc_l := 0) et_4 H)) ?_
    rintro _ w ⟨rfl, H⟩ a hE
    refine WR.d0 hE 10 [(43, .bool t_4)] fun a hE => ?_
    rcases Bool.eq_false_or_eq_true t_4 with c | c
    ·replace hE := hE.dec 43 c (by kernel_rfl)
     replace hm := cond_t c hm
     have c_2 := c
     obtain ⟨t_5, et_5, hm⟩ := bind_some hm
     refine WR.eff hE rfl rfl rfl rfl (OpTo.fn hE rfl rfl Tryz.call10 (thicketlaw27_known_ok et_5 H)) ?_
     rintro _ w ⟨rfl, H⟩ a hE
     refine WR.e0 hE [(0, .bool t_5)] fun a hE => ?_
     cases hm
     exact hk _ _ ⟨hE.sel [0] (by kernel_rfl), H.x1.x0⟩
    ·replace hE := hE.dec 43 c (by kernel_rfl)
     replace hm := cond_f c hm
     have c_3 := c
     refine WR.e0 hE [(0, .bool false)] fun a hE => ?_
     cases hm
     exact hk _ _ ⟨hE.sel [0] (by kernel_rfl), H.x1.x0⟩
   ·replace hE := hE.dec 40 c (by kernel_rfl)
    replace hm := cond_f c hm
    have c_4 := c
    refine WR.e0 hE [(0, .bool false)] fun a hE => ?_
    cases hm
    exact hk _ _ ⟨hE.sel [0] (by kernel_rfl), H.x0⟩
  ·replace hE := hE.dec 36 c (by kernel_rfl)
   replace hm := cond_f c hm
   have c_5 := c
   refine WR.e0 hE [(0, .bool false)] fun a hE => ?_
   cases hm
   exact hk _ _ ⟨hE.sel [0] (by kernel_rfl), H.x0⟩
 rintro a w ⟨hE, H⟩
 refine Runs.ret hE Tryz.func3 rfl rfl ?_
 cases hm
 exact ⟨rfl, H⟩

end Go.Proofs.YtbpkejhpmakmbaaGreat
