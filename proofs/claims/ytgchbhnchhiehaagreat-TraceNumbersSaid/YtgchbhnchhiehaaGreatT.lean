import Derived.Test.YtgchbhnchhiehaaGreatTp2
set_option linter.unusedVariables false
set_option linter.unusedSimpArgs false
set_option maxRecDepth 10000
set_option maxHeartbeats 4000000
namespace Go.Proofs.YtgchbhnchhiehaaGreat
open Go.Th

theorem server_Server_Serve_ok {w0 w : World} {As : List HP} {k : Nat} {p_s : Nat} {al_s : server_Server.A} {s : server_Server} {t : api_Reply × api_Command × Bool × server_Server}  (hm : server_Server_Serve k s = some t) (H : St w0 (server_Server.R p_s al_s s :: As) w) :
    CallsR Tryz.prog 12 #[.pointer (some ⟨p_s, 0, none⟩)] w fun v w' => ∃ (z_s_d_a : dispatch_Dispatcher.A), v = .tuple #[.agg #[.int .i64 t.1.Why, .int .i64 t.1.Job.At, .int .i64 t.1.Job.Gen, .int .i64 t.1.Time, .int .i64 t.1.Data, .int .i64 t.1.N], .agg #[.int .i64 t.2.1.Kind, .int .i64 t.2.1.Queue, .int .i64 t.2.1.Job.At, .int .i64 t.2.1.Job.Gen, .int .i64 t.2.1.Time, .int .i64 t.2.1.Data], .bool t.2.2.1] ∧ St w0 (server_Server.R p_s (server_Server.A.mk al_s.d_p z_s_d_a al_s.desk_p al_s.desk_a) t.2.2.2 :: As) w' := by
 rw [server_Server_Serve] at hm
 refine enter (args := [.pointer (some ⟨p_s, 0, none⟩)]) Tryz.func12 rfl rfl rfl fun a hE => ?_
 refine Runs.sr ?_
 refine WR.eff hE rfl rfl rfl rfl (OpTo.new hE H [] (.cells #[.int .i64 0, .int .i64 0, .int .i64 0, .int .i64 0, .int .i64 0, .int .i64 0] 35 (0, 0)) (fun r => .pointer (some ⟨r, 0, none⟩)) (obs := []) rfl (fun _ => by kernel_rfl) trivial) ?_
 rintro _ w ⟨r, rfl, H⟩ a hE
 refine WR.eff hE rfl rfl rfl rfl (OpTo.new hE H [] (.cells #[.int .i64 0, .int .i64 0, .int .i64 0, .int .i64 0, .int .i64 0, .int .i64 0] 33 (0, 0)) (fun r => .pointer (some ⟨r, 0, none⟩)) (obs := []) rfl (fun _ => by kernel_rfl) trivial) ?_
 rintro _ w ⟨r1, rfl, H⟩ a hE
 refine WR.seg hE 3 [] [0, 2, 3] (Lo := [(0, .pointer (some ⟨p_s, 0, none⟩)), (2, .pointer (some ⟨r, 0, none⟩)), (3, .pointer (some ⟨r1, 0, none⟩))]) (obs := []) rfl (by kernel_rfl) trivial fun a hE => ?_
 refine WR.done rfl ?_
 refine Runs.sr ?_
 replace H := server_Server.open H.t2
 refine WR.d hE 4 [.pointer (some ⟨al_s.desk_p, 0, none⟩)] [(12, .pointer (some ⟨al_s.desk_p, 0, none⟩))] (obs := [.cell ⟨p_s, 1, none⟩ (.pointer (some ⟨al_s.desk_p, 0, none⟩))]) ⟨H.cell 0 rfl rfl, trivial⟩ fun a hE => ?_
 obtain ⟨t_, et_, hm⟩ := bind_some hm
 refine WR.eff hE rfl rfl rfl rfl (OpTo.fn hE rfl rfl Tryz.call31 (mail_Desk_api_Command_Next_ok et_ H.t2)) ?_
 rintro _ w ⟨rfl, H⟩ a hE
 refine WR.d0 hE 9 [(14, .agg #[.int .i64 t_.1.Kind, .int .i64 t_.1.Queue, .int .i64 t_.1.Job.At, .int .i64 t_.1.Job.Gen, .int .i64 t_.1.Time, .int .i64 t_.1.Data]), (15, .int .i64 t_.2.1), (16, .bool t_.2.2.1)] fun a hE => ?_
 refine WR.eff hE rfl rfl rfl rfl (OpTo.new hE H [] (.cells #[.int .i64 0, .int .i64 0, .int .i64 0, .int .i64 0, .int .i64 0, .int .i64 0] 33 (0, 0)) (fun r => .pointer (some ⟨r, 0, none⟩)) (obs := []) rfl (fun _ => by kernel_rfl) trivial) ?_
 rintro _ w ⟨r2, rfl, H⟩ a hE
 refine WR.eff0 hE rfl rfl rfl (OpTo.store hE H rfl rfl rfl rfl rfl rfl (Nat.le_of_ble_eq_true rfl)) ?_
 rintro _ w H a hE
 refine WR.e0 hE [(7, .bool t_.2.2.1)] fun a hE => ?_
 refine Runs.seq ?_
 refine Runs.sr ?_
 refine WR.e0 hE [(18, .bool (!t_.2.2.1))] fun a hE => ?_
 refine Runs.cond hE rfl (fun c => ?_) (fun c => ?_)
 ·replace hm := cond_t c hm
  refine Runs.sr ?_
  refine WR.d0 hE 2 [(19, .agg #[.int .i64 0, .int .i64 0, .int .i64 0, .int .i64 0, .int .i64 0, .int .i64 0]), (20, .agg #[.int .i64 0, .int .i64 0, .int .i64 0, .int .i64 0, .int .i64 0, .int .i64 0])] fun a hE => ?_
  refine WR.eff0 hE rfl rfl rfl (OpTo.store hE H.t5 rfl rfl rfl rfl rfl rfl (Nat.le_of_ble_eq_true rfl)) ?_
  rintro _ w H a hE
  refine WR.eff0 hE rfl rfl rfl (OpTo.store hE H.t5 rfl rfl rfl rfl rfl rfl (Nat.le_of_ble_eq_true rfl)) ?_
  rintro _ w H a hE
  refine WR.e0 hE [(4, .bool false)] fun a hE => ?_
  refine Runs.retO (vs := [.agg #[.int .i64 0, .int .i64 0, .int .i64 0, .int .i64 0, .int .i64 0, .int .i64 0], .agg #[.int .i64 0, .int .i64 0, .int .i64 0, .int .i64 0, .int .i64 0, .int .i64 0], .bool false]) (obs := [.cell ⟨r, 0, none⟩ (.int .i64 0), .cell ⟨r, 1, none⟩ (.int .i64 0), .cell ⟨r, 2, none⟩ (.int .i64 0), .cell ⟨r, 3, none⟩ (.int .i64 0), .cell ⟨r, 4, none⟩ (.int .i64 0), .cell ⟨r, 5, none⟩ (.int .i64 0), .cell ⟨r1, 0, none⟩ (.int .i64 0), .cell ⟨r1, 1, none⟩ (.int .i64 0), .cell ⟨r1, 2, none⟩ (.int .i64 0), .cell ⟨r1, 3, none⟩ (.int .i64 0), .cell ⟨r1, 4, none⟩ (.int .i64 0), .cell ⟨r1, 5, none⟩ (.int .i64 0)]) hE Tryz.func12 rfl [.int .i64 0, .int .i64 0, .int .i64 0, .int .i64 0, .int .i64 0, .int .i64 0, .int .i64 0, .int .i64 0, .int .i64 0, .int .i64 0, .int .i64 0, .int .i64 0] (by kernel_rfl) ⟨H.cell 1 rfl rfl, H.cell 1 rfl rfl, H.cell 1 rfl rfl, H.cell 1 rfl rfl, H.cell 1 rfl rfl, H.cell 1 rfl rfl, H.cell 0 rfl rfl, H.cell 0 rfl rfl, H.cell 0 rfl rfl, H.cell 0 rfl rfl, H.cell 0 rfl rfl, H.cell 0 rfl rfl, trivial⟩ ?_
  replace H := server_Server.shut al_s (server_Server.mk s.d t_.2.2.2) H.t3.t5.t5
  cases hm
  exact ⟨al_s.d_a, rfl, H.x3.x2.x1⟩
 ·replace hm := cond_f c hm
  refine Runs.skip ?_
  refine Runs.seq ?_
  refine Runs.drawn mixed (by kernel_rfl) ?_
  replace H := H.drew
  refine WQ.d hE [0, 1, 2, 3, 4, 6] [.pointer (some ⟨al_s.d_p, 0, none⟩), .int .i64 t_.1.Kind, .int .i64 t_.1.Queue, .int .i64 t_.1.Job.At, .int .i64 t_.1.Job.Gen, .int .i64 t_.1.Time, .int .i64 t_.1.Data, .int .i64 t_.1.Kind, .int .i64 t_.1.Queue, .int .i64 t_.1.Job.At, .int .i64 t_.1.Job.Gen, .int .i64 t_.1.Time, .int .i64 t_.1.Data] [(24, .pointer (some ⟨al_s.d_p, 0, none⟩)), (25, .agg #[.int .i64 t_.1.Kind, .int .i64 t_.1.Queue, .int .i64 t_.1.Job.At, .int .i64 t_.1.Job.Gen, .int .i64 t_.1.Time, .int .i64 t_.1.Data]), (27, .agg #[.int .i64 t_.1.Kind, .int .i64 t_.1.Queue, .int .i64 t_.1.Job.At, .int .i64 t_.1.Job.Gen, .int .i64 t_.1.Time, .int .i64 t_.1.Data])] (obs := [.cell ⟨p_s, 0, none⟩ (.pointer (some ⟨al_s.d_p, 0, none⟩)), .cell ⟨r2, 0, none⟩ (.int .i64 t_.1.Kind), .cell ⟨r2, 1, none⟩ (.int .i64 t_.1.Queue), .cell ⟨r2, 2, none⟩ (.int .i64 t_.1.Job.At), .cell ⟨r2, 3, none⟩ (.int .i64 t_.1.Job.Gen), .cell ⟨r2, 4, none⟩ (.int .i64 t_.1.Time), .cell ⟨r2, 5, none⟩ (.int .i64 t_.1.Data), .cell ⟨r2, 0, none⟩ (.int .i64 t_.1.Kind), .cell ⟨r2, 1, none⟩ (.int .i64 t_.1.Queue), .cell ⟨r2, 2, none⟩ (.int .i64 t_.1.Job.At), .cell ⟨r2, 3, none⟩ (.int .i64 t_.1.Job.Gen), .cell ⟨r2, 4, none⟩ (.int .i64 t_.1.Time), .cell ⟨r2, 5, none⟩ (.int .i64 t_.1.Data)]) ⟨H.cell 2 rfl rfl, H.cell 0 rfl rfl, H.cell 0 rfl rfl, H.cell 0 rfl rfl, H.cell 0 rfl rfl, H.cell 0 rfl rfl, H.cell 0 rfl rfl, H.cell 0 rfl rfl, H.cell 0 rfl rfl, H.cell 0 rfl rfl, H.cell 0 rfl rfl, H.cell 0 rfl rfl, H.cell 0 rfl rfl, trivial⟩ fun a hE => ?_
  obtain ⟨t_1, et_1, hm⟩ := bind_some hm
  refine WQ.eff (j := 5) (obs := [.cell ⟨r2, 0, none⟩ (.int .i64 t_.1.Kind), .cell ⟨r2, 1, none⟩ (.int .i64 t_.1.Queue), .cell ⟨r2, 2, none⟩ (.int .i64 t_.1.Job.At), .cell ⟨r2, 3, none⟩ (.int .i64 t_.1.Job.Gen), .cell ⟨r2, 4, none⟩ (.int .i64 t_.1.Time), .cell ⟨r2, 5, none⟩ (.int .i64 t_.1.Data)]) hE (by kernel_rfl) rfl rfl rfl rfl (by kernel_rfl) (OpTo.fn hE rfl rfl Tryz.call32 (dispatch_Dispatcher_Do_ok et_1 H.t3)) ?_
  rintro _ w ⟨z, z1, rfl, H⟩
  refine ⟨⟨H.cell 1 rfl rfl, H.cell 1 rfl rfl, H.cell 1 rfl rfl, H.cell 1 rfl rfl, H.cell 1 rfl rfl, H.cell 1 rfl rfl, trivial⟩, fun a hE => ?_⟩
  refine WQ.eff0 (j := 7) (obs := [.cell ⟨r2, 0, none⟩ (.int .i64 t_.1.Kind), .cell ⟨r2, 1, none⟩ (.int .i64 t_.1.Queue), .cell ⟨r2, 2, none⟩ (.int .i64 t_.1.Job.At), .cell ⟨r2, 3, none⟩ (.int .i64 t_.1.Job.Gen), .cell ⟨r2, 4, none⟩ (.int .i64 t_.1.Time), .cell ⟨r2, 5, none⟩ (.int .i64 t_.1.Data)]) hE (by kernel_rfl) rfl rfl rfl (by kernel_rfl) (OpTo.store hE H.t5 rfl rfl rfl rfl rfl rfl (Nat.le_of_ble_eq_true rfl)) ?_
  rintro _ w H
  refine ⟨⟨H.cell 2 rfl rfl, H.cell 2 rfl rfl, H.cell 2 rfl rfl, H.cell 2 rfl rfl, H.cell 2 rfl rfl, H.cell 2 rfl rfl, trivial⟩, fun a hE => ?_⟩
  refine WQ.eff0 (j := 8) (obs := []) hE (by kernel_rfl) rfl rfl rfl (by kernel_rfl) (OpTo.store hE H.t5 rfl rfl rfl rfl rfl rfl (Nat.le_of_ble_eq_true rfl)) ?_
  rintro _ w H
  refine ⟨trivial, fun a hE => ?_⟩
  refine WQ.d0 hE [9] [(4, .bool true)] fun a hE => ?_
  refine WQ.done (by kernel_rfl) ?_
  refine Runs.retO (vs := [.agg #[.int .i64 t_1.1.Why, .int .i64 t_1.1.Job.At, .int .i64 t_1.1.Job.Gen, .int .i64 t_1.1.Time, .int .i64 t_1.1.Data, .int .i64 t_1.1.N], .agg #[.int .i64 t_.1.Kind, .int .i64 t_.1.Queue, .int .i64 t_.1.Job.At, .int .i64 t_.1.Job.Gen, .int .i64 t_.1.Time, .int .i64 t_.1.Data], .bool true]) (obs := [.cell ⟨r, 0, none⟩ (.int .i64 t_1.1.Why), .cell ⟨r, 1, none⟩ (.int .i64 t_1.1.Job.At), .cell ⟨r, 2, none⟩ (.int .i64 t_1.1.Job.Gen), .cell ⟨r, 3, none⟩ (.int .i64 t_1.1.Time), .cell ⟨r, 4, none⟩ (.int .i64 t_1.1.Data), .cell ⟨r, 5, none⟩ (.int .i64 t_1.1.N), .cell ⟨r1, 0, none⟩ (.int .i64 t_.1.Kind), .cell ⟨r1, 1, none⟩ (.int .i64 t_.1.Queue), .cell ⟨r1, 2, none⟩ (.int .i64 t_.1.Job.At), .cell ⟨r1, 3, none⟩ (.int .i64 t_.1.Job.Gen), .cell ⟨r1, 4, none⟩ (.int .i64 t_.1.Time), .cell ⟨r1, 5, none⟩ (.int .i64 t_.1.Data)]) hE Tryz.func12 rfl [.int .i64 t_1.1.Why, .int .i64 t_1.1.Job.At, .int .i64 t_1.1.Job.Gen, .int .i64 t_1.1.Time, .int .i64 t_1.1.Data, .int .i64 t_1.1.N, .int .i64 t_.1.Kind, .int .i64 t_.1.Queue, .int .i64 t_.1.Job.At, .int .i64 t_.1.Job.Gen, .int .i64 t_.1.Time, .int .i64 t_.1.Data] (by kernel_rfl) ⟨H.cell 1 rfl rfl, H.cell 1 rfl rfl, H.cell 1 rfl rfl, H.cell 1 rfl rfl, H.cell 1 rfl rfl, H.cell 1 rfl rfl, H.cell 0 rfl rfl, H.cell 0 rfl rfl, H.cell 0 rfl rfl, H.cell 0 rfl rfl, H.cell 0 rfl rfl, H.cell 0 rfl rfl, trivial⟩ ?_
  replace H := server_Server.shut (server_Server.A.mk al_s.d_p (dispatch_Dispatcher.A.mk al_s.d_a.q_p z al_s.d_a.t__p z1 al_s.d_a.when_p al_s.d_a.clock_p) al_s.desk_p al_s.desk_a) (server_Server.mk t_1.2 t_.2.2.2) H.t4.t3.t5
  cases hm
  exact ⟨dispatch_Dispatcher.A.mk al_s.d_a.q_p z al_s.d_a.t__p z1 al_s.d_a.when_p al_s.d_a.clock_p, rfl, H.x3.x2.x1⟩

noncomputable abbrev C39p : List (PK El) := [pO dispatch_Dispatcher.D]
noncomputable def C39 : Con El := mkCon 39 C39p (fun i_ => dispatch_Dispatcher_Now i_.1.2.2) 0 0 (fun i_ t ns_ as_ => .int .i64 t) (fun i_ t ns_ as_ => dispatch_Dispatcher.D.flat i_.1.1 i_.1.2.1 i_.1.2.2)

theorem S39 : (C39).Sound Tryz.prog :=
  fn_sound mixed (C39) (n := 8) (rs := rsOf Tryz.prog 39) [] [0, 1, 2, 3, 4, 5, 6, 7, 8, 9, 10, 11, 12, 13, 14, 15, 16, 17, 18, 19, 20, 21] (gj (gI 2) []) (fun i => (.s (.seg 1 []) (.s (.seg 4 [.C 0 9]) (.s (.call K68 [.K 21] [21]) (.s (.seg 1 []) .ret))))) Tryz.func39 rfl rfl (by kernel_rfl) (fun _ => rfl) (fun i => by kernel_rfl) (fun i s => by kernel_rfl)

noncomputable def K39 : SCon El Tryz.prog := ⟨C39, S39, Tryz.call39⟩

theorem dispatch_Dispatcher_Now_ok {w0 w : World} {As : List HP} {p_d : Nat} {al_d : dispatch_Dispatcher.A} {d : dispatch_Dispatcher} {t : Int}  (hm : dispatch_Dispatcher_Now d = some t) (H : St w0 (dispatch_Dispatcher.R p_d al_d d :: As) w) :
    CallsR Tryz.prog 39 #[.pointer (some ⟨p_d, 0, none⟩)] w fun v w' => v = .int .i64 t ∧ St w0 (dispatch_Dispatcher.R p_d al_d d :: As) w' := by
  replace H := (fs0 fun As => dispatch_Dispatcher.D_st).1 H
  refine (S39 ((p_d, al_d, d), ()) t hm w0 w (As) rd0 H).mono ?_
  rintro v w' ⟨ns, as_, hn, ha, hv, H, hfx⟩
  obtain rfl := ls0 hn
  obtain rfl := ls0 ha
  refine ⟨hv, ?_⟩
  refine (fs0 fun As => dispatch_Dispatcher.D_st).2 ?_
  exact H

noncomputable abbrev C40p : List (PK El) := [pO dispatch_Dispatcher.D]
noncomputable def C40 : Con El := mkCon 40 C40p (fun i_ => dispatch_Dispatcher_Last i_.1.2.2) 0 0 (fun i_ t ns_ as_ => .int .i64 t) (fun i_ t ns_ as_ => dispatch_Dispatcher.D.flat i_.1.1 i_.1.2.1 i_.1.2.2)

theorem S40 : (C40).Sound Tryz.prog :=
  fn_sound mixed (C40) (n := 7) (rs := rsOf Tryz.prog 40) [] [0, 1, 2, 3, 4, 5, 6, 7, 8, 9, 10, 11, 12, 13, 14, 15, 16, 17, 18, 19, 20, 21] (gj (gI 2) []) (fun i => (.s (.seg 1 []) (.s (.seg 5 [.C 0 11]) .ret))) Tryz.func40 rfl rfl (by kernel_rfl) (fun _ => rfl) (fun i => by kernel_rfl) (fun i s => by kernel_rfl)

noncomputable def K40 : SCon El Tryz.prog := ⟨C40, S40, Tryz.call40⟩

theorem dispatch_Dispatcher_Last_ok {w0 w : World} {As : List HP} {p_d : Nat} {al_d : dispatch_Dispatcher.A} {d : dispatch_Dispatcher} {t : Int}  (hm : dispatch_Dispatcher_Last d = some t) (H : St w0 (dispatch_Dispatcher.R p_d al_d d :: As) w) :
    CallsR Tryz.prog 40 #[.pointer (some ⟨p_d, 0, none⟩)] w fun v w' => v = .int .i64 t ∧ St w0 (dispatch_Dispatcher.R p_d al_d d :: As) w' := by
  replace H := (fs0 fun As => dispatch_Dispatcher.D_st).1 H
  refine (S40 ((p_d, al_d, d), ()) t hm w0 w (As) rd0 H).mono ?_
  rintro v w' ⟨ns, as_, hn, ha, hv, H, hfx⟩
  obtain rfl := ls0 hn
  obtain rfl := ls0 ha
  refine ⟨hv, ?_⟩
  refine (fs0 fun As => dispatch_Dispatcher.D_st).2 ?_
  exact H

theorem trace_Book_note_ok {w0 w : World} {As : List HP} {p_b : Nat} {al_b : trace_Book.A} {b : trace_Book} {c_ : api_Command} {r : api_Reply} {t : api_Reply × trace_Book}  (hm : trace_Book_note b c_ r = some t) (H : St w0 (trace_Book.R p_b al_b b :: As) w) :
    CallsR Tryz.prog 42 #[.pointer (some ⟨p_b, 0, none⟩), .agg #[.int .i64 c_.Kind, .int .i64 c_.Queue, .int .i64 c_.Job.At, .int .i64 c_.Job.Gen, .int .i64 c_.Time, .int .i64 c_.Data], .agg #[.int .i64 r.Why, .int .i64 r.Job.At, .int .i64 r.Job.Gen, .int .i64 r.Time, .int .i64 r.Data, .int .i64 r.N]] w fun v w' => ∃ (z_b_l_b : Option Addr), ∃ (z_b_l_c : Nat), v = .agg #[.int .i64 t.1.Why, .int .i64 t.1.Job.At, .int .i64 t.1.Job.Gen, .int .i64 t.1.Time, .int .i64 t.1.Data, .int .i64 t.1.N] ∧ St w0 (trace_Book.R p_b (trace_Book.A.mk al_b.s_p al_b.s_a z_b_l_b z_b_l_c) t.2 :: As) w' := by
 rw [trace_Book_note] at hm
 refine enter (args := [.pointer (some ⟨p_b, 0, none⟩), .agg #[.int .i64 c_.Kind, .int .i64 c_.Queue, .int .i64 c_.Job.At, .int .i64 c_.Job.Gen, .int .i64 c_.Time, .int .i64 c_.Data], .agg #[.int .i64 r.Why, .int .i64 r.Job.At, .int .i64 r.Job.Gen, .int .i64 r.Time, .int .i64 r.Data, .int .i64 r.N]]) Tryz.func42 rfl rfl rfl fun a hE => ?_
 refine Runs.sr ?_
 refine WR.eff hE rfl rfl rfl rfl (OpTo.new hE H [] (.cells #[.int .i64 c_.Kind, .int .i64 c_.Queue, .int .i64 c_.Job.At, .int .i64 c_.Job.Gen, .int .i64 c_.Time, .int .i64 c_.Data] 33 (0, 0)) (fun r => .pointer (some ⟨r, 0, none⟩)) (obs := []) rfl (fun _ => by kernel_rfl) trivial) ?_
 rintro _ w ⟨r1, rfl, H⟩ a hE
 refine WR.eff hE rfl rfl rfl rfl (OpTo.new hE H [] (.cells #[.int .i64 r.Why, .int .i64 r.Job.At, .int .i64 r.Job.Gen, .int .i64 r.Time, .int .i64 r.Data, .int .i64 r.N] 35 (0, 0)) (fun r => .pointer (some ⟨r, 0, none⟩)) (obs := []) rfl (fun _ => by kernel_rfl) trivial) ?_
 rintro _ w ⟨r2, rfl, H⟩ a hE
 refine WR.eff hE rfl rfl rfl rfl (OpTo.new hE H [] (.cells #[.int .i64 0, .int .i64 0, .int .i64 0, .int .i64 0, .int .i64 0, .int .i64 0] 35 (0, 0)) (fun r => .pointer (some ⟨r, 0, none⟩)) (obs := []) rfl (fun _ => by kernel_rfl) trivial) ?_
 rintro _ w ⟨r3, rfl, H⟩ a hE
 refine WR.done rfl ?_
 refine Runs.sr ?_
 replace H := trace_Book.open H.t3
 refine WR.seg hE 4 [.pointer (some ⟨al_b.s_p, 0, none⟩)] [0, 4, 5, 6, 11] (Lo := [(0, .pointer (some ⟨p_b, 0, none⟩)), (4, .pointer (some ⟨r1, 0, none⟩)), (5, .pointer (some ⟨r2, 0, none⟩)), (6, .pointer (some ⟨r3, 0, none⟩)), (11, .pointer (some ⟨al_b.s_p, 0, none⟩))]) (obs := [.cell ⟨p_b, 0, none⟩ (.pointer (some ⟨al_b.s_p, 0, none⟩))]) rfl (by kernel_rfl) ⟨H.cell 0 rfl rfl, trivial⟩ fun a hE => ?_
 obtain ⟨t_, et_, hm⟩ := bind_some hm
 refine WR.eff hE rfl rfl rfl rfl (OpTo.fn hE rfl rfl Tryz.call24 (server_Server_Dispatcher_ok et_ H.t1)) ?_
 rintro _ w ⟨rfl, H⟩ a hE
 refine WR.e0 hE [(7, .pointer (some ⟨al_b.s_a.d_p, 0, none⟩))] fun a hE => ?_
 refine Runs.seq ?_
 refine Runs.drawn mixed (by kernel_rfl) ?_
 replace H := H.drew
 refine WQ.d hE [0, 1, 2, 3, 4, 5, 6, 7, 9] [.slice al_b.l_b b.l.length al_b.l_c, .int .i64 c_.Kind, .int .i64 c_.Queue, .int .i64 c_.Job.At, .int .i64 c_.Job.Gen, .int .i64 c_.Time, .int .i64 c_.Data, .int .i64 r.Why, .int .i64 r.Job.At, .int .i64 r.Job.Gen, .int .i64 r.Time, .int .i64 r.Data, .int .i64 r.N] [(13, .pointer (some ⟨p_b, 0, none⟩)), (17, .slice al_b.l_b b.l.length al_b.l_c), (18, .agg #[.int .i64 c_.Kind, .int .i64 c_.Queue, .int .i64 c_.Job.At, .int .i64 c_.Job.Gen, .int .i64 c_.Time, .int .i64 c_.Data]), (19, .agg #[.int .i64 r.Why, .int .i64 r.Job.At, .int .i64 r.Job.Gen, .int .i64 r.Time, .int .i64 r.Data, .int .i64 r.N]), (20, .pointer (some ⟨al_b.s_a.d_p, 0, none⟩)), (22, .pointer (some ⟨al_b.s_a.d_p, 0, none⟩))] (obs := [.cell ⟨p_b, 1, none⟩ (.slice al_b.l_b b.l.length al_b.l_c), .cell ⟨r1, 0, none⟩ (.int .i64 c_.Kind), .cell ⟨r1, 1, none⟩ (.int .i64 c_.Queue), .cell ⟨r1, 2, none⟩ (.int .i64 c_.Job.At), .cell ⟨r1, 3, none⟩ (.int .i64 c_.Job.Gen), .cell ⟨r1, 4, none⟩ (.int .i64 c_.Time), .cell ⟨r1, 5, none⟩ (.int .i64 c_.Data), .cell ⟨r2, 0, none⟩ (.int .i64 r.Why), .cell ⟨r2, 1, none⟩ (.int .i64 r.Job.At), .cell ⟨r2, 2, none⟩ (.int .i64 r.Job.Gen), .cell ⟨r2, 3, none⟩ (.int .i64 r.Time), .cell ⟨r2, 4, none⟩ (.int .i64 r.Data), .cell ⟨r2, 5, none⟩ (.int .i64 r.N)]) ⟨H.cell 1 rfl rfl, H.cell 5 rfl rfl, H.cell 5 rfl rfl, H.cell 5 rfl rfl, H.cell 5 rfl rfl, H.cell 5 rfl rfl, H.cell 5 rfl rfl, H.cell 4 rfl rfl, H.cell 4 rfl rfl, H.cell 4 rfl rfl, H.cell 4 rfl rfl, H.cell 4 rfl rfl, H.cell 4 rfl rfl, trivial⟩ fun a hE => ?_
 replace H := server_Server.open H
 obtain ⟨t_1, et_1, hm⟩ := bind_some hm
 refine WQ.eff (j := 8) (obs := [.cell ⟨r2, 0, none⟩ (.int .i64 r.Why), .cell ⟨r2, 1, none⟩ (.int .i64 r.Job.At), .cell ⟨r2, 2, none⟩ (.int .i64 r.Job.Gen), .cell ⟨r2, 3, none⟩ (.int .i64 r.Time), .cell ⟨r2, 4, none⟩ (.int .i64 r.Data), .cell ⟨r2, 5, none⟩ (.int .i64 r.N), .cell ⟨r1, 0, none⟩ (.int .i64 c_.Kind), .cell ⟨r1, 1, none⟩ (.int .i64 c_.Queue), .cell ⟨r1, 2, none⟩ (.int .i64 c_.Job.At), .cell ⟨r1, 3, none⟩ (.int .i64 c_.Job.Gen), .cell ⟨r1, 4, none⟩ (.int .i64 c_.Time), .cell ⟨r1, 5, none⟩ (.int .i64 c_.Data), .cell ⟨p_b, 1, none⟩ (.slice al_b.l_b b.l.length al_b.l_c)]) hE (by kernel_rfl) rfl rfl rfl rfl (by kernel_rfl) (OpTo.fn hE rfl rfl Tryz.call39 (dispatch_Dispatcher_Now_ok et_1 H.t1)) ?_
 rintro _ w ⟨rfl, H⟩
 refine ⟨⟨H.cell 6 rfl rfl, H.cell 6 rfl rfl, H.cell 6 rfl rfl, H.cell 6 rfl rfl, H.cell 6 rfl rfl, H.cell 6 rfl rfl, H.cell 7 rfl rfl, H.cell 7 rfl rfl, H.cell 7 rfl rfl, H.cell 7 rfl rfl, H.cell 7 rfl rfl, H.cell 7 rfl rfl, H.cell 3 rfl rfl, trivial⟩, fun a hE => ?_⟩
 obtain ⟨t_2, et_2, hm⟩ := bind_some hm
 refine WQ.eff (j := 10) (obs := [.cell ⟨r2, 0, none⟩ (.int .i64 r.Why), .cell ⟨r2, 1, none⟩ (.int .i64 r.Job.At), .cell ⟨r2, 2, none⟩ (.int .i64 r.Job.Gen), .cell ⟨r2, 3, none⟩ (.int .i64 r.Time), .cell ⟨r2, 4, none⟩ (.int .i64 r.Data), .cell ⟨r2, 5, none⟩ (.int .i64 r.N), .cell ⟨r1, 0, none⟩ (.int .i64 c_.Kind), .cell ⟨r1, 1, none⟩ (.int .i64 c_.Queue), .cell ⟨r1, 2, none⟩ (.int .i64 c_.Job.At), .cell ⟨r1, 3, none⟩ (.int .i64 c_.Job.Gen), .cell ⟨r1, 4, none⟩ (.int .i64 c_.Time), .cell ⟨r1, 5, none⟩ (.int .i64 c_.Data), .cell ⟨p_b, 1, none⟩ (.slice al_b.l_b b.l.length al_b.l_c)]) hE (by kernel_rfl) rfl rfl rfl rfl (by kernel_rfl) (OpTo.fn hE rfl rfl Tryz.call40 (dispatch_Dispatcher_Last_ok et_2 H)) ?_
 rintro _ w ⟨rfl, H⟩
 refine ⟨⟨H.cell 6 rfl rfl, H.cell 6 rfl rfl, H.cell 6 rfl rfl, H.cell 6 rfl rfl, H.cell 6 rfl rfl, H.cell 6 rfl rfl, H.cell 7 rfl rfl, H.cell 7 rfl rfl, H.cell 7 rfl rfl, H.cell 7 rfl rfl, H.cell 7 rfl rfl, H.cell 7 rfl rfl, H.cell 3 rfl rfl, trivial⟩, fun a hE => ?_⟩
 refine WQ.d0 hE [11] [(24, .agg #[.int .i64 c_.Kind, .int .i64 c_.Queue, .int .i64 c_.Job.At, .int .i64 c_.Job.Gen, .int .i64 c_.Time, .int .i64 c_.Data, .int .i64 r.Why, .int .i64 r.Job.At, .int .i64 r.Job.Gen, .int .i64 r.Time, .int .i64 r.Data, .int .i64 r.N, .int .i64 t_1, .int .i64 t_2])] fun a hE => ?_
 refine WQ.eff (j := 12) (obs := [.cell ⟨p_b, 1, none⟩ (.slice al_b.l_b b.l.length al_b.l_c)]) hE (by kernel_rfl) rfl rfl rfl rfl (by kernel_rfl) (OpTo.buildSl (T := 61) hE H trace_Event.enc_ok ([trace_Event.mk c_ r t_1 t_2] : List trace_Event) rfl (fun _ => by kernel_rfl) rfl rfl rfl) ?_
 rintro _ w ⟨r4, rfl, H⟩
 refine ⟨⟨H.cell 4 rfl rfl, trivial⟩, fun a hE => ?_⟩
 obtain ⟨l, el, hm⟩ := bind_some hm
 replace H := H.t5
 refine WQ.eff (j := 13) (obs := []) hE (by kernel_rfl) rfl rfl rfl rfl (by kernel_rfl) (OpTo.appendM el hE H trace_Event.enc_ok rfl rfl rfl rfl rfl rfl rfl rfl rfl rfl (SlRd.all (sl_rd 61 trace_Event.enc 14 _ _ _) trace_Event.enc_ok H 1 rfl) rfl) ?_
 rintro _ w ⟨sb, sc, rfl, H⟩
 refine ⟨trivial, fun a hE => ?_⟩
 refine WQ.d0 hE [14, 15] [(28, .pointer (some ⟨p_b, 1, none⟩))] fun a hE => ?_
 refine WQ.eff0 (j := 16) (obs := []) hE (by kernel_rfl) rfl rfl rfl (by kernel_rfl) (OpTo.store hE H.t5 rfl rfl rfl rfl rfl rfl (Nat.le_of_ble_eq_true rfl)) ?_
 rintro _ w H
 refine ⟨trivial, fun a hE => ?_⟩
 refine WQ.done (by kernel_rfl) ?_
 refine Runs.sr ?_
 refine WR.d hE 1 [.int .i64 r.Why, .int .i64 r.Job.At, .int .i64 r.Job.Gen, .int .i64 r.Time, .int .i64 r.Data, .int .i64 r.N] [(29, .agg #[.int .i64 r.Why, .int .i64 r.Job.At, .int .i64 r.Job.Gen, .int .i64 r.Time, .int .i64 r.Data, .int .i64 r.N])] (obs := [.cell ⟨r2, 0, none⟩ (.int .i64 r.Why), .cell ⟨r2, 1, none⟩ (.int .i64 r.Job.At), .cell ⟨r2, 2, none⟩ (.int .i64 r.Job.Gen), .cell ⟨r2, 3, none⟩ (.int .i64 r.Time), .cell ⟨r2, 4, none⟩ (.int .i64 r.Data), .cell ⟨r2, 5, none⟩ (.int .i64 r.N)]) ⟨H.cell 7 rfl rfl, H.cell 7 rfl rfl, H.cell 7 rfl rfl, H.cell 7 rfl rfl, H.cell 7 rfl rfl, H.cell 7 rfl rfl, trivial⟩ fun a hE => ?_
 refine WR.eff0 hE rfl rfl rfl (OpTo.store hE H.t6 rfl rfl rfl rfl rfl rfl (Nat.le_of_ble_eq_true rfl)) ?_
 rintro _ w H a hE
 refine WR.done rfl ?_
 refine Runs.retO (vs := [.agg #[.int .i64 r.Why, .int .i64 r.Job.At, .int .i64 r.Job.Gen, .int .i64 r.Time, .int .i64 r.Data, .int .i64 r.N]]) (obs := [.cell ⟨r3, 0, none⟩ (.int .i64 r.Why), .cell ⟨r3, 1, none⟩ (.int .i64 r.Job.At), .cell ⟨r3, 2, none⟩ (.int .i64 r.Job.Gen), .cell ⟨r3, 3, none⟩ (.int .i64 r.Time), .cell ⟨r3, 4, none⟩ (.int .i64 r.Data), .cell ⟨r3, 5, none⟩ (.int .i64 r.N)]) hE Tryz.func42 rfl [.int .i64 r.Why, .int .i64 r.Job.At, .int .i64 r.Job.Gen, .int .i64 r.Time, .int .i64 r.Data, .int .i64 r.N] (by kernel_rfl) ⟨H.cell 0 rfl rfl, H.cell 0 rfl rfl, H.cell 0 rfl rfl, H.cell 0 rfl rfl, H.cell 0 rfl rfl, H.cell 0 rfl rfl, trivial⟩ ?_
 replace H := server_Server.shut al_b.s_a (b.s) H.t6.t5.t6
 replace H := trace_Book.shut (trace_Book.A.mk al_b.s_p al_b.s_a sb sc) (trace_Book.mk b.s l) H.t3.t1.t3
 cases hm
 exact ⟨sb, sc, rfl, H.x4.x3.x2.x1⟩

theorem server_Server_Do_ok {w0 w : World} {As : List HP} {k : Nat} {p_s : Nat} {al_s : server_Server.A} {s : server_Server} {c_ : api_Command} {t : api_Reply × server_Server}  (hm : server_Server_Do k s c_ = some t) (H : St w0 (server_Server.R p_s al_s s :: As) w) :
    CallsR Tryz.prog 38 #[.pointer (some ⟨p_s, 0, none⟩), .agg #[.int .i64 c_.Kind, .int .i64 c_.Queue, .int .i64 c_.Job.At, .int .i64 c_.Job.Gen, .int .i64 c_.Time, .int .i64 c_.Data]] w fun v w' => ∃ (z_s_d_a : dispatch_Dispatcher.A), v = .agg #[.int .i64 t.1.Why, .int .i64 t.1.Job.At, .int .i64 t.1.Job.Gen, .int .i64 t.1.Time, .int .i64 t.1.Data, .int .i64 t.1.N] ∧ St w0 (server_Server.R p_s (server_Server.A.mk al_s.d_p z_s_d_a al_s.desk_p al_s.desk_a) t.2 :: As) w' := by
 rw [server_Server_Do] at hm
 refine enter (args := [.pointer (some ⟨p_s, 0, none⟩), .agg #[.int .i64 c_.Kind, .int .i64 c_.Queue, .int .i64 c_.Job.At, .int .i64 c_.Job.Gen, .int .i64 c_.Time, .int .i64 c_.Data]]) Tryz.func38 rfl rfl rfl fun a hE => ?_
 refine Runs.sr ?_
 refine WR.eff hE rfl rfl rfl rfl (OpTo.new hE H [] (.cells #[.int .i64 c_.Kind, .int .i64 c_.Queue, .int .i64 c_.Job.At, .int .i64 c_.Job.Gen, .int .i64 c_.Time, .int .i64 c_.Data] 33 (0, 0)) (fun r => .pointer (some ⟨r, 0, none⟩)) (obs := []) rfl (fun _ => by kernel_rfl) trivial) ?_
 rintro _ w ⟨r, rfl, H⟩ a hE
 refine WR.eff hE rfl rfl rfl rfl (OpTo.new hE H [] (.cells #[.int .i64 0, .int .i64 0, .int .i64 0, .int .i64 0, .int .i64 0, .int .i64 0] 35 (0, 0)) (fun r => .pointer (some ⟨r, 0, none⟩)) (obs := []) rfl (fun _ => by kernel_rfl) trivial) ?_
 rintro _ w ⟨r1, rfl, H⟩ a hE
 refine WR.done rfl ?_
 refine Runs.seq ?_
 refine Runs.drawn mixed (by kernel_rfl) ?_
 replace H := H.drew
 replace H := server_Server.open H.t2
 refine WQ.seg hE [0, 1, 2, 3, 4] [.pointer (some ⟨al_s.d_p, 0, none⟩), .int .i64 c_.Kind, .int .i64 c_.Queue, .int .i64 c_.Job.At, .int .i64 c_.Job.Gen, .int .i64 c_.Time, .int .i64 c_.Data] [4, 8, 9] (Lo := [(4, .pointer (some ⟨r1, 0, none⟩)), (8, .pointer (some ⟨al_s.d_p, 0, none⟩)), (9, .agg #[.int .i64 c_.Kind, .int .i64 c_.Queue, .int .i64 c_.Job.At, .int .i64 c_.Job.Gen, .int .i64 c_.Time, .int .i64 c_.Data])]) (obs := [.cell ⟨p_s, 0, none⟩ (.pointer (some ⟨al_s.d_p, 0, none⟩)), .cell ⟨r, 0, none⟩ (.int .i64 c_.Kind), .cell ⟨r, 1, none⟩ (.int .i64 c_.Queue), .cell ⟨r, 2, none⟩ (.int .i64 c_.Job.At), .cell ⟨r, 3, none⟩ (.int .i64 c_.Job.Gen), .cell ⟨r, 4, none⟩ (.int .i64 c_.Time), .cell ⟨r, 5, none⟩ (.int .i64 c_.Data)]) (by kernel_rfl) (by kernel_rfl) ⟨H.cell 0 rfl rfl, H.cell 4 rfl rfl, H.cell 4 rfl rfl, H.cell 4 rfl rfl, H.cell 4 rfl rfl, H.cell 4 rfl rfl, H.cell 4 rfl rfl, trivial⟩ fun a hE => ?_
 obtain ⟨t_, et_, hm⟩ := bind_some hm
 refine WQ.eff (j := 5) (obs := []) hE (by kernel_rfl) rfl rfl rfl rfl (by kernel_rfl) (OpTo.fn hE rfl rfl Tryz.call32 (dispatch_Dispatcher_Do_ok et_ H.t1)) ?_
 rintro _ w ⟨z, z1, rfl, H⟩
 refine ⟨trivial, fun a hE => ?_⟩
 refine WQ.eff0 (j := 6) (obs := []) hE (by kernel_rfl) rfl rfl rfl (by kernel_rfl) (OpTo.store hE H.t3 rfl rfl rfl rfl rfl rfl (Nat.le_of_ble_eq_true rfl)) ?_
 rintro _ w H
 refine ⟨trivial, fun a hE => ?_⟩
 refine WQ.done (by kernel_rfl) ?_
 refine Runs.retO (vs := [.agg #[.int .i64 t_.1.Why, .int .i64 t_.1.Job.At, .int .i64 t_.1.Job.Gen, .int .i64 t_.1.Time, .int .i64 t_.1.Data, .int .i64 t_.1.N]]) (obs := [.cell ⟨r1, 0, none⟩ (.int .i64 t_.1.Why), .cell ⟨r1, 1, none⟩ (.int .i64 t_.1.Job.At), .cell ⟨r1, 2, none⟩ (.int .i64 t_.1.Job.Gen), .cell ⟨r1, 3, none⟩ (.int .i64 t_.1.Time), .cell ⟨r1, 4, none⟩ (.int .i64 t_.1.Data), .cell ⟨r1, 5, none⟩ (.int .i64 t_.1.N)]) hE Tryz.func38 rfl [.int .i64 t_.1.Why, .int .i64 t_.1.Job.At, .int .i64 t_.1.Job.Gen, .int .i64 t_.1.Time, .int .i64 t_.1.Data, .int .i64 t_.1.N] (by kernel_rfl) ⟨H.cell 0 rfl rfl, H.cell 0 rfl rfl, H.cell 0 rfl rfl, H.cell 0 rfl rfl, H.cell 0 rfl rfl, H.cell 0 rfl rfl, trivial⟩ ?_
 replace H := server_Server.shut (server_Server.A.mk al_s.d_p (dispatch_Dispatcher.A.mk al_s.d_a.q_p z al_s.d_a.t__p z1 al_s.d_a.when_p al_s.d_a.clock_p) al_s.desk_p al_s.desk_a) (server_Server.mk t_.2 s.desk) H.t3.t2.t3
 cases hm
 exact ⟨dispatch_Dispatcher.A.mk al_s.d_a.q_p z al_s.d_a.t__p z1 al_s.d_a.when_p al_s.d_a.clock_p, rfl, H.x2.x1⟩

theorem trace_Book_drain_ok {w0 w : World} {As : List HP} {k : Nat} {p_b : Nat} {al_b : trace_Book.A} {b : trace_Book} {t : Int × trace_Book}  (hm : trace_Book_drain k b = some t) (H : St w0 (trace_Book.R p_b al_b b :: As) w) :
    CallsR Tryz.prog 43 #[.pointer (some ⟨p_b, 0, none⟩)] w fun v w' => ∃ (z_b_s_a : server_Server.A), ∃ (z_b_l_b : Option Addr), ∃ (z_b_l_c : Nat), v = .int .i64 t.1 ∧ St w0 (trace_Book.R p_b (trace_Book.A.mk al_b.s_p z_b_s_a z_b_l_b z_b_l_c) t.2 :: As) w' := by
 rw [trace_Book_drain] at hm
 refine enter (args := [.pointer (some ⟨p_b, 0, none⟩)]) Tryz.func43 rfl rfl rfl fun a hE => ?_
 refine Runs.sr ?_
 refine WR.seg hE 1 [] [0] (Lo := [(0, .pointer (some ⟨p_b, 0, none⟩))]) (obs := []) rfl (by kernel_rfl) trivial fun a hE => ?_
 refine WR.done rfl ?_
 refine Runs.sr ?_
 refine WR.d0 hE 1 [(5, .agg #[.int .i64 5, .int .i64 0, .int .i64 0, .int .i64 0, .int .i64 0, .int .i64 0])] fun a hE => ?_
 refine WR.eff hE rfl rfl rfl rfl (OpTo.new hE H [] (.cells #[.int .i64 0, .int .i64 0, .int .i64 0, .int .i64 0, .int .i64 0, .int .i64 0] 33 (0, 0)) (fun r => .pointer (some ⟨r, 0, none⟩)) (obs := []) rfl (fun _ => by kernel_rfl) trivial) ?_
 rintro _ w ⟨r, rfl, H⟩ a hE
 refine WR.eff0 hE rfl rfl rfl (OpTo.store hE H rfl rfl rfl rfl rfl rfl (Nat.le_of_ble_eq_true rfl)) ?_
 rintro _ w H a hE
 refine WR.done rfl ?_
 refine Runs.sr ?_
 refine WR.e0 hE [(4, .int .i64 0)] fun a hE => ?_
 refine Runs.seq ?_
 refine Runs.sr ?_
 refine WR.e0 hE [(6, .int .i64 0)] fun a hE => ?_
 obtain ⟨s, es, hm⟩ := bind_some hm
 refine Runs.join (fun a w => ∃ (z3 : server_Server.A), ∃ (z4 : Option Addr), ∃ (z5 : Nat), EnvOk 23 a [(4, .int .i64 s.1)] ∧ St w0 (trace_Book.R p_b (trace_Book.A.mk al_b.s_p z3 z4 z5) s.2 :: As) w) (fun hk => ?_) ?_
 ·replace hm := es; clear es
  refine Runs.block ?_
  refine Runs.loop (fun m a w => ∃ (n : Int), ∃ (x : Int), ∃ (m_ : trace_Book), ∃ (z6 : server_Server.A), ∃ (z7 : Option Addr), ∃ (z8 : Nat), EnvOk 23 a [(0, .pointer (some ⟨p_b, 0, none⟩)), (3, .pointer (some ⟨r, 0, none⟩)), (4, .int .i64 n), (6, .int .i64 x)] ∧ St w0 (Blk r 33 [.int .i64 5, .int .i64 0, .int .i64 0, .int .i64 0, .int .i64 0, .int .i64 0] :: trace_Book.R p_b (trace_Book.A.mk al_b.s_p z6 z7 z8) m_ :: As) w ∧ trace_Book_drain_l0 m n x m_ = some s) k ⟨0, 0, b, al_b.s_a, al_b.l_b, al_b.l_c, hE.sel [0, 3, 4, 6] (by kernel_rfl), H.t1.t1, hm⟩ ?_
  rintro m ih a w ⟨n, x, m_, z6, z7, z8, hE, H, hm⟩
  cases m with
  | zero => simp [trace_Book_drain_l0] at hm
  | succ m =>
   rw [trace_Book_drain_l0] at hm
   refine Runs.sr ?_
   refine WR.seg hE 1 [] [0, 3, 4, 6, 7] (Lo := [(0, .pointer (some ⟨p_b, 0, none⟩)), (3, .pointer (some ⟨r, 0, none⟩)), (4, .int .i64 n), (6, .int .i64 x), (7, .bool (decide (x < 4097)))]) (obs := []) rfl (by kernel_rfl) trivial fun a hE => ?_
   refine WR.done rfl ?_
   refine Runs.seq ?_
   refine Runs.cond hE rfl (fun c => ?_) (fun c => ?_)
   ·replace hm := cond_t c hm
    refine Runs.skip ?_
    refine Runs.seq ?_
    refine Runs.block ?_
    refine Runs.seq ?_
    refine Runs.seq ?_
    refine Runs.drawn mixed (by kernel_rfl) ?_
    replace H := H.drew
    replace H := trace_Book.open H.t1
    try dsimp only at H
    refine WQ.d hE [0, 1, 2, 3, 4, 5, 6] [.int .i64 5, .int .i64 0, .int .i64 0, .int .i64 0, .int .i64 0, .int .i64 0, .pointer (some ⟨al_b.s_p, 0, none⟩), .int .i64 5, .int .i64 0, .int .i64 0, .int .i64 0, .int .i64 0, .int .i64 0] [(8, .pointer (some ⟨p_b, 0, none⟩)), (9, .agg #[.int .i64 5, .int .i64 0, .int .i64 0, .int .i64 0, .int .i64 0, .int .i64 0]), (13, .pointer (some ⟨al_b.s_p, 0, none⟩)), (14, .agg #[.int .i64 5, .int .i64 0, .int .i64 0, .int .i64 0, .int .i64 0, .int .i64 0])] (obs := [.cell ⟨r, 0, none⟩ (.int .i64 5), .cell ⟨r, 1, none⟩ (.int .i64 0), .cell ⟨r, 2, none⟩ (.int .i64 0), .cell ⟨r, 3, none⟩ (.int .i64 0), .cell ⟨r, 4, none⟩ (.int .i64 0), .cell ⟨r, 5, none⟩ (.int .i64 0), .cell ⟨p_b, 0, none⟩ (.pointer (some ⟨al_b.s_p, 0, none⟩)), .cell ⟨r, 0, none⟩ (.int .i64 5), .cell ⟨r, 1, none⟩ (.int .i64 0), .cell ⟨r, 2, none⟩ (.int .i64 0), .cell ⟨r, 3, none⟩ (.int .i64 0), .cell ⟨r, 4, none⟩ (.int .i64 0), .cell ⟨r, 5, none⟩ (.int .i64 0)]) ⟨H.cell 3 rfl rfl, H.cell 3 rfl rfl, H.cell 3 rfl rfl, H.cell 3 rfl rfl, H.cell 3 rfl rfl, H.cell 3 rfl rfl, H.cell 0 rfl rfl, H.cell 3 rfl rfl, H.cell 3 rfl rfl, H.cell 3 rfl rfl, H.cell 3 rfl rfl, H.cell 3 rfl rfl, H.cell 3 rfl rfl, trivial⟩ fun a hE => ?_
    obtain ⟨t_, et_, hm⟩ := bind_some hm
    have hC_ := server_Server_Do_ok et_ H.t1
    try dsimp only at hC_
    refine WQ.eff (j := 7) (obs := [.cell ⟨r, 0, none⟩ (.int .i64 5), .cell ⟨r, 1, none⟩ (.int .i64 0), .cell ⟨r, 2, none⟩ (.int .i64 0), .cell ⟨r, 3, none⟩ (.int .i64 0), .cell ⟨r, 4, none⟩ (.int .i64 0), .cell ⟨r, 5, none⟩ (.int .i64 0)]) hE (by kernel_rfl) rfl rfl rfl rfl (by kernel_rfl) (OpTo.fn hE rfl rfl Tryz.call38 hC_) ?_
    rintro _ w ⟨z9, rfl, H⟩
    refine ⟨⟨H.cell 3 rfl rfl, H.cell 3 rfl rfl, H.cell 3 rfl rfl, H.cell 3 rfl rfl, H.cell 3 rfl rfl, H.cell 3 rfl rfl, trivial⟩, fun a hE => ?_⟩
    replace H := trace_Book.shut (trace_Book.A.mk al_b.s_p (server_Server.A.mk z6.d_p z9 z6.desk_p z6.desk_a) z7 z8) (trace_Book.mk t_.2 m_.l) H.t2.t1.t2
    obtain ⟨t_1, et_1, hm⟩ := bind_some hm
    have hC_ := trace_Book_note_ok et_1 H
    try dsimp only at hC_
    refine WQ.eff (j := 8) (obs := []) hE (by kernel_rfl) rfl rfl rfl rfl (by kernel_rfl) (OpTo.fn hE rfl rfl Tryz.call42 hC_) ?_
    rintro _ w ⟨z10, z11, rfl, H⟩
    refine ⟨trivial, fun a hE => ?_⟩
    refine WQ.d0 hE [9, 10] [(18, .bool (t_1.1.Why != 0))] fun a hE => ?_
    refine WQ.done (by kernel_rfl) ?_
    refine Runs.cond hE rfl (fun c => ?_) (fun c => ?_)
    ·replace hm := cond_t c hm
     refine Runs.exit rfl ?_
     cases hm
     exact hk _ _ ⟨server_Server.A.mk z6.d_p z9 z6.desk_p z6.desk_a, z10, z11, hE.sel [4] (by kernel_rfl), H.x1⟩
    ·replace hm := cond_f c hm
     refine Runs.skip ?_
     refine Runs.region ?_
     refine WR.e0 hE [(4, .int .i64 (w64 (n + 1)))] fun a hE => ?_
     refine Runs.inBlock ?_
     refine Runs.region ?_
     refine WR.e0 hE [(6, .int .i64 (w64 (x + 1)))] fun a hE => ?_
     exact ih m (Nat.lt_succ_self m) _ _ ⟨w64 (n + 1), w64 (x + 1), t_1.2, server_Server.A.mk z6.d_p z9 z6.desk_p z6.desk_a, z10, z11, hE.sel [0, 3, 4, 6] (by kernel_rfl), H.t1, hm⟩
   ·replace hm := cond_f c hm
    refine Runs.exit rfl ?_
    cases hm
    exact hk _ _ ⟨z6, z7, z8, hE.sel [4] (by kernel_rfl), H.x0⟩
 rintro a w ⟨z3, z4, z5, hE, H⟩
 refine Runs.sr ?_
 refine WR.seg hE 2 [] [2] (Lo := [(2, .int .i64 s.1)]) (obs := []) rfl (by kernel_rfl) trivial fun a hE => ?_
 refine WR.done rfl ?_
 refine Runs.ret hE Tryz.func43 rfl rfl ?_
 cases hm
 exact ⟨z3, z4, z5, rfl, H⟩

theorem trace_Book_Act_ok {w0 w : World} {As : List HP} {k : Nat} {p_b : Nat} {al_b : trace_Book.A} {b : trace_Book} {x : api_Act} {t : api_Reply × trace_Book}  (hm : trace_Book_Act k b x = some t) (H : St w0 (trace_Book.R p_b al_b b :: As) w) :
    CallsR Tryz.prog 17 #[.pointer (some ⟨p_b, 0, none⟩), .agg #[.int .i64 x.Kind, .int .i64 x.Box, .int .i64 x.Command.Kind, .int .i64 x.Command.Queue, .int .i64 x.Command.Job.At, .int .i64 x.Command.Job.Gen, .int .i64 x.Command.Time, .int .i64 x.Command.Data]] w fun v w' => ∃ (z_b_s_a : server_Server.A), ∃ (z_b_l_b : Option Addr), ∃ (z_b_l_c : Nat), v = .agg #[.int .i64 t.1.Why, .int .i64 t.1.Job.At, .int .i64 t.1.Job.Gen, .int .i64 t.1.Time, .int .i64 t.1.Data, .int .i64 t.1.N] ∧ St w0 (trace_Book.R p_b (trace_Book.A.mk al_b.s_p z_b_s_a z_b_l_b z_b_l_c) t.2 :: As) w' := by
 rw [trace_Book_Act] at hm
 refine enter (args := [.pointer (some ⟨p_b, 0, none⟩), .agg #[.int .i64 x.Kind, .int .i64 x.Box, .int .i64 x.Command.Kind, .int .i64 x.Command.Queue, .int .i64 x.Command.Job.At, .int .i64 x.Command.Job.Gen, .int .i64 x.Command.Time, .int .i64 x.Command.Data]]) Tryz.func17 rfl rfl rfl fun a hE => ?_
 refine Runs.sr ?_
 refine WR.eff hE rfl rfl rfl rfl (OpTo.new hE H [] (.cells #[.int .i64 x.Kind, .int .i64 x.Box, .int .i64 x.Command.Kind, .int .i64 x.Command.Queue, .int .i64 x.Command.Job.At, .int .i64 x.Command.Job.Gen, .int .i64 x.Command.Time, .int .i64 x.Command.Data] 56 (0, 0)) (fun r => .pointer (some ⟨r, 0, none⟩)) (obs := []) rfl (fun _ => by kernel_rfl) trivial) ?_
 rintro _ w ⟨r, rfl, H⟩ a hE
 refine WR.eff hE rfl rfl rfl rfl (OpTo.new hE H [] (.cells #[.int .i64 0, .int .i64 0, .int .i64 0, .int .i64 0, .int .i64 0, .int .i64 0] 35 (0, 0)) (fun r => .pointer (some ⟨r, 0, none⟩)) (obs := []) rfl (fun _ => by kernel_rfl) trivial) ?_
 rintro _ w ⟨r1, rfl, H⟩ a hE
 refine WR.done rfl ?_
 refine Runs.seq ?_
 refine Runs.sr ?_
 refine WR.seg hE 2 [.int .i64 x.Kind] [0, 3, 4, 9] (Lo := [(0, .pointer (some ⟨p_b, 0, none⟩)), (3, .pointer (some ⟨r, 0, none⟩)), (4, .pointer (some ⟨r1, 0, none⟩)), (9, .int .i64 x.Kind)]) (obs := [.cell ⟨r, 0, none⟩ (.int .i64 x.Kind)]) rfl (by kernel_rfl) ⟨H.cell 1 rfl rfl, trivial⟩ fun a hE => ?_
 refine WR.done rfl ?_
 refine Runs.block ?_
 refine Runs.sr ?_
 refine WR.e0 hE [(10, .bool (x.Kind == 1))] fun a hE => ?_
 refine Runs.cond hE rfl (fun c => ?_) (fun c => ?_)
 ·replace hm := cond_t c hm
  refine Runs.seq ?_
  refine Runs.drawn mixed (by kernel_rfl) ?_
  replace H := H.drew
  replace H := trace_Book.open H.t2
  refine WQ.d hE [0, 1, 2, 3, 4, 5, 6, 7] [.pointer (some ⟨al_b.s_p, 0, none⟩), .int .i64 x.Box, .int .i64 x.Command.Kind, .int .i64 x.Command.Queue, .int .i64 x.Command.Job.At, .int .i64 x.Command.Job.Gen, .int .i64 x.Command.Time, .int .i64 x.Command.Data] [(15, .pointer (some ⟨al_b.s_p, 0, none⟩)), (17, .int .i64 x.Box), (19, .agg #[.int .i64 x.Command.Kind, .int .i64 x.Command.Queue, .int .i64 x.Command.Job.At, .int .i64 x.Command.Job.Gen, .int .i64 x.Command.Time, .int .i64 x.Command.Data])] (obs := [.cell ⟨p_b, 0, none⟩ (.pointer (some ⟨al_b.s_p, 0, none⟩)), .cell ⟨r, 1, none⟩ (.int .i64 x.Box), .cell ⟨r, 2, none⟩ (.int .i64 x.Command.Kind), .cell ⟨r, 3, none⟩ (.int .i64 x.Command.Queue), .cell ⟨r, 4, none⟩ (.int .i64 x.Command.Job.At), .cell ⟨r, 5, none⟩ (.int .i64 x.Command.Job.Gen), .cell ⟨r, 6, none⟩ (.int .i64 x.Command.Time), .cell ⟨r, 7, none⟩ (.int .i64 x.Command.Data)]) ⟨H.cell 0 rfl rfl, H.cell 4 rfl rfl, H.cell 4 rfl rfl, H.cell 4 rfl rfl, H.cell 4 rfl rfl, H.cell 4 rfl rfl, H.cell 4 rfl rfl, H.cell 4 rfl rfl, trivial⟩ fun a hE => ?_
  obtain ⟨t_, et_, hm⟩ := bind_some hm
  refine WQ.eff (j := 8) (obs := []) hE (by kernel_rfl) rfl rfl rfl rfl (by kernel_rfl) (OpTo.fn hE rfl rfl Tryz.call11 (server_Server_Post_ok et_ H.t1)) ?_
  rintro _ w ⟨rfl, H⟩
  refine ⟨trivial, fun a hE => ?_⟩
  refine WQ.d0 hE [9] [(21, .agg #[.int .i64 t_.1, .int .i64 0, .int .i64 0, .int .i64 0, .int .i64 0, .int .i64 0])] fun a hE => ?_
  refine WQ.eff0 (j := 10) (obs := []) hE (by kernel_rfl) rfl rfl rfl (by kernel_rfl) (OpTo.store hE H.t3 rfl rfl rfl rfl rfl rfl (Nat.le_of_ble_eq_true rfl)) ?_
  rintro _ w H
  refine ⟨trivial, fun a hE => ?_⟩
  refine WQ.done (by kernel_rfl) ?_
  refine Runs.retO (vs := [.agg #[.int .i64 t_.1, .int .i64 0, .int .i64 0, .int .i64 0, .int .i64 0, .int .i64 0]]) (obs := [.cell ⟨r1, 0, none⟩ (.int .i64 t_.1), .cell ⟨r1, 1, none⟩ (.int .i64 0), .cell ⟨r1, 2, none⟩ (.int .i64 0), .cell ⟨r1, 3, none⟩ (.int .i64 0), .cell ⟨r1, 4, none⟩ (.int .i64 0), .cell ⟨r1, 5, none⟩ (.int .i64 0)]) hE Tryz.func17 rfl [.int .i64 t_.1, .int .i64 0, .int .i64 0, .int .i64 0, .int .i64 0, .int .i64 0] (by kernel_rfl) ⟨H.cell 0 rfl rfl, H.cell 0 rfl rfl, H.cell 0 rfl rfl, H.cell 0 rfl rfl, H.cell 0 rfl rfl, H.cell 0 rfl rfl, trivial⟩ ?_
  replace H := trace_Book.shut al_b (trace_Book.mk t_.2 b.l) H.t3.t2.t3
  cases hm
  exact ⟨al_b.s_a, al_b.l_b, al_b.l_c, rfl, H.x2.x1⟩
 ·replace hm := cond_f c hm
  refine Runs.sr ?_
  refine WR.e0 hE [(22, .bool (x.Kind == 2))] fun a hE => ?_
  refine Runs.cond hE rfl (fun c => ?_) (fun c => ?_)
  ·replace hm := cond_t c hm
   refine Runs.sr ?_
   replace H := trace_Book.open H.t2
   refine WR.d hE 4 [.pointer (some ⟨al_b.s_p, 0, none⟩)] [(28, .pointer (some ⟨al_b.s_p, 0, none⟩))] (obs := [.cell ⟨p_b, 0, none⟩ (.pointer (some ⟨al_b.s_p, 0, none⟩))]) ⟨H.cell 0 rfl rfl, trivial⟩ fun a hE => ?_
   obtain ⟨t_1, et_1, hm⟩ := bind_some hm
   refine WR.eff hE rfl rfl rfl rfl (OpTo.fn hE rfl rfl Tryz.call12 (server_Server_Serve_ok et_1 H.t1)) ?_
   rintro _ w ⟨z, rfl, H⟩ a hE
   refine WR.d0 hE 9 [(30, .agg #[.int .i64 t_1.1.Why, .int .i64 t_1.1.Job.At, .int .i64 t_1.1.Job.Gen, .int .i64 t_1.1.Time, .int .i64 t_1.1.Data, .int .i64 t_1.1.N]), (31, .agg #[.int .i64 t_1.2.1.Kind, .int .i64 t_1.2.1.Queue, .int .i64 t_1.2.1.Job.At, .int .i64 t_1.2.1.Job.Gen, .int .i64 t_1.2.1.Time, .int .i64 t_1.2.1.Data]), (32, .bool t_1.2.2.1)] fun a hE => ?_
   refine WR.eff hE rfl rfl rfl rfl (OpTo.new hE H [] (.cells #[.int .i64 0, .int .i64 0, .int .i64 0, .int .i64 0, .int .i64 0, .int .i64 0] 35 (0, 0)) (fun r => .pointer (some ⟨r, 0, none⟩)) (obs := []) rfl (fun _ => by kernel_rfl) trivial) ?_
   rintro _ w ⟨r2, rfl, H⟩ a hE
   refine WR.eff hE rfl rfl rfl rfl (OpTo.new hE H [] (.cells #[.int .i64 0, .int .i64 0, .int .i64 0, .int .i64 0, .int .i64 0, .int .i64 0] 33 (0, 0)) (fun r => .pointer (some ⟨r, 0, none⟩)) (obs := []) rfl (fun _ => by kernel_rfl) trivial) ?_
   rintro _ w ⟨r3, rfl, H⟩ a hE
   refine WR.eff0 hE rfl rfl rfl (OpTo.store hE H.t1 rfl rfl rfl rfl rfl rfl (Nat.le_of_ble_eq_true rfl)) ?_
   rintro _ w H a hE
   refine WR.eff0 hE rfl rfl rfl (OpTo.store hE H.t1 rfl rfl rfl rfl rfl rfl (Nat.le_of_ble_eq_true rfl)) ?_
   rintro _ w H a hE
   refine WR.e0 hE [(7, .bool t_1.2.2.1)] fun a hE => ?_
   refine Runs.seq ?_
   refine Runs.sr ?_
   refine WR.e0 hE [(34, .bool (!t_1.2.2.1))] fun a hE => ?_
   refine Runs.cond hE rfl (fun c => ?_) (fun c => ?_)
   ·replace hm := cond_t c hm
    refine Runs.sr ?_
    refine WR.d0 hE 1 [(35, .agg #[.int .i64 27, .int .i64 0, .int .i64 0, .int .i64 0, .int .i64 0, .int .i64 0])] fun a hE => ?_
    refine WR.eff0 hE rfl rfl rfl (OpTo.store hE H.t5 rfl rfl rfl rfl rfl rfl (Nat.le_of_ble_eq_true rfl)) ?_
    rintro _ w H a hE
    refine WR.done rfl ?_
    refine Runs.retO (vs := [.agg #[.int .i64 27, .int .i64 0, .int .i64 0, .int .i64 0, .int .i64 0, .int .i64 0]]) (obs := [.cell ⟨r1, 0, none⟩ (.int .i64 27), .cell ⟨r1, 1, none⟩ (.int .i64 0), .cell ⟨r1, 2, none⟩ (.int .i64 0), .cell ⟨r1, 3, none⟩ (.int .i64 0), .cell ⟨r1, 4, none⟩ (.int .i64 0), .cell ⟨r1, 5, none⟩ (.int .i64 0)]) hE Tryz.func17 rfl [.int .i64 27, .int .i64 0, .int .i64 0, .int .i64 0, .int .i64 0, .int .i64 0] (by kernel_rfl) ⟨H.cell 0 rfl rfl, H.cell 0 rfl rfl, H.cell 0 rfl rfl, H.cell 0 rfl rfl, H.cell 0 rfl rfl, H.cell 0 rfl rfl, trivial⟩ ?_
    replace H := trace_Book.shut (trace_Book.A.mk al_b.s_p (server_Server.A.mk al_b.s_a.d_p z al_b.s_a.desk_p al_b.s_a.desk_a) al_b.l_b al_b.l_c) (trace_Book.mk t_1.2.2.2 b.l) H.t5.t4.t5
    cases hm
    exact ⟨server_Server.A.mk al_b.s_a.d_p z al_b.s_a.desk_p al_b.s_a.desk_a, al_b.l_b, al_b.l_c, rfl, H.x4.x3.x2.x1⟩
   ·replace hm := cond_f c hm
    refine Runs.skip ?_
    refine Runs.sr ?_
    refine WR.d hE 3 [.int .i64 t_1.2.1.Kind, .int .i64 t_1.2.1.Queue, .int .i64 t_1.2.1.Job.At, .int .i64 t_1.2.1.Job.Gen, .int .i64 t_1.2.1.Time, .int .i64 t_1.2.1.Data, .int .i64 t_1.1.Why, .int .i64 t_1.1.Job.At, .int .i64 t_1.1.Job.Gen, .int .i64 t_1.1.Time, .int .i64 t_1.1.Data, .int .i64 t_1.1.N] [(36, .pointer (some ⟨p_b, 0, none⟩)), (37, .agg #[.int .i64 t_1.2.1.Kind, .int .i64 t_1.2.1.Queue, .int .i64 t_1.2.1.Job.At, .int .i64 t_1.2.1.Job.Gen, .int .i64 t_1.2.1.Time, .int .i64 t_1.2.1.Data]), (38, .agg #[.int .i64 t_1.1.Why, .int .i64 t_1.1.Job.At, .int .i64 t_1.1.Job.Gen, .int .i64 t_1.1.Time, .int .i64 t_1.1.Data, .int .i64 t_1.1.N])] (obs := [.cell ⟨r3, 0, none⟩ (.int .i64 t_1.2.1.Kind), .cell ⟨r3, 1, none⟩ (.int .i64 t_1.2.1.Queue), .cell ⟨r3, 2, none⟩ (.int .i64 t_1.2.1.Job.At), .cell ⟨r3, 3, none⟩ (.int .i64 t_1.2.1.Job.Gen), .cell ⟨r3, 4, none⟩ (.int .i64 t_1.2.1.Time), .cell ⟨r3, 5, none⟩ (.int .i64 t_1.2.1.Data), .cell ⟨r2, 0, none⟩ (.int .i64 t_1.1.Why), .cell ⟨r2, 1, none⟩ (.int .i64 t_1.1.Job.At), .cell ⟨r2, 2, none⟩ (.int .i64 t_1.1.Job.Gen), .cell ⟨r2, 3, none⟩ (.int .i64 t_1.1.Time), .cell ⟨r2, 4, none⟩ (.int .i64 t_1.1.Data), .cell ⟨r2, 5, none⟩ (.int .i64 t_1.1.N)]) ⟨H.cell 0 rfl rfl, H.cell 0 rfl rfl, H.cell 0 rfl rfl, H.cell 0 rfl rfl, H.cell 0 rfl rfl, H.cell 0 rfl rfl, H.cell 1 rfl rfl, H.cell 1 rfl rfl, H.cell 1 rfl rfl, H.cell 1 rfl rfl, H.cell 1 rfl rfl, H.cell 1 rfl rfl, trivial⟩ fun a hE => ?_
    replace H := trace_Book.shut (trace_Book.A.mk al_b.s_p (server_Server.A.mk al_b.s_a.d_p z al_b.s_a.desk_p al_b.s_a.desk_a) al_b.l_b al_b.l_c) (trace_Book.mk t_1.2.2.2 b.l) H.t4.t3.t4
    obtain ⟨t_2, et_2, hm⟩ := bind_some hm
    refine WR.eff hE rfl rfl rfl rfl (OpTo.fn hE rfl rfl Tryz.call42 (trace_Book_note_ok et_2 H)) ?_
    rintro _ w ⟨z1, z2, rfl, H⟩ a hE
    refine WR.eff0 hE rfl rfl rfl (OpTo.store hE H.t3 rfl rfl rfl rfl rfl rfl (Nat.le_of_ble_eq_true rfl)) ?_
    rintro _ w H a hE
    refine WR.done rfl ?_
    refine Runs.retO (vs := [.agg #[.int .i64 t_2.1.Why, .int .i64 t_2.1.Job.At, .int .i64 t_2.1.Job.Gen, .int .i64 t_2.1.Time, .int .i64 t_2.1.Data, .int .i64 t_2.1.N]]) (obs := [.cell ⟨r1, 0, none⟩ (.int .i64 t_2.1.Why), .cell ⟨r1, 1, none⟩ (.int .i64 t_2.1.Job.At), .cell ⟨r1, 2, none⟩ (.int .i64 t_2.1.Job.Gen), .cell ⟨r1, 3, none⟩ (.int .i64 t_2.1.Time), .cell ⟨r1, 4, none⟩ (.int .i64 t_2.1.Data), .cell ⟨r1, 5, none⟩ (.int .i64 t_2.1.N)]) hE Tryz.func17 rfl [.int .i64 t_2.1.Why, .int .i64 t_2.1.Job.At, .int .i64 t_2.1.Job.Gen, .int .i64 t_2.1.Time, .int .i64 t_2.1.Data, .int .i64 t_2.1.N] (by kernel_rfl) ⟨H.cell 0 rfl rfl, H.cell 0 rfl rfl, H.cell 0 rfl rfl, H.cell 0 rfl rfl, H.cell 0 rfl rfl, H.cell 0 rfl rfl, trivial⟩ ?_
    cases hm
    exact ⟨server_Server.A.mk al_b.s_a.d_p z al_b.s_a.desk_p al_b.s_a.desk_a, z1, z2, rfl, H.x4.x3.x2.x0⟩
  ·replace hm := cond_f c hm
   refine Runs.sr ?_
   refine WR.e0 hE [(40, .bool (x.Kind == 3))] fun a hE => ?_
   refine Runs.cond hE rfl (fun c => ?_) (fun c => ?_)
   ·replace hm := cond_t c hm
    refine Runs.seq ?_
    refine Runs.drawn mixed (by kernel_rfl) ?_
    replace H := H.drew
    replace H := trace_Book.open H.t2
    refine WQ.d hE [0, 1, 2, 3, 4, 5, 6, 7, 8] [.int .i64 x.Command.Kind, .int .i64 x.Command.Queue, .int .i64 x.Command.Job.At, .int .i64 x.Command.Job.Gen, .int .i64 x.Command.Time, .int .i64 x.Command.Data, .pointer (some ⟨al_b.s_p, 0, none⟩), .int .i64 x.Command.Kind, .int .i64 x.Command.Queue, .int .i64 x.Command.Job.At, .int .i64 x.Command.Job.Gen, .int .i64 x.Command.Time, .int .i64 x.Command.Data] [(42, .pointer (some ⟨p_b, 0, none⟩)), (44, .agg #[.int .i64 x.Command.Kind, .int .i64 x.Command.Queue, .int .i64 x.Command.Job.At, .int .i64 x.Command.Job.Gen, .int .i64 x.Command.Time, .int .i64 x.Command.Data]), (48, .pointer (some ⟨al_b.s_p, 0, none⟩)), (50, .agg #[.int .i64 x.Command.Kind, .int .i64 x.Command.Queue, .int .i64 x.Command.Job.At, .int .i64 x.Command.Job.Gen, .int .i64 x.Command.Time, .int .i64 x.Command.Data])] (obs := [.cell ⟨r, 2, none⟩ (.int .i64 x.Command.Kind), .cell ⟨r, 3, none⟩ (.int .i64 x.Command.Queue), .cell ⟨r, 4, none⟩ (.int .i64 x.Command.Job.At), .cell ⟨r, 5, none⟩ (.int .i64 x.Command.Job.Gen), .cell ⟨r, 6, none⟩ (.int .i64 x.Command.Time), .cell ⟨r, 7, none⟩ (.int .i64 x.Command.Data), .cell ⟨p_b, 0, none⟩ (.pointer (some ⟨al_b.s_p, 0, none⟩)), .cell ⟨r, 2, none⟩ (.int .i64 x.Command.Kind), .cell ⟨r, 3, none⟩ (.int .i64 x.Command.Queue), .cell ⟨r, 4, none⟩ (.int .i64 x.Command.Job.At), .cell ⟨r, 5, none⟩ (.int .i64 x.Command.Job.Gen), .cell ⟨r, 6, none⟩ (.int .i64 x.Command.Time), .cell ⟨r, 7, none⟩ (.int .i64 x.Command.Data)]) ⟨H.cell 4 rfl rfl, H.cell 4 rfl rfl, H.cell 4 rfl rfl, H.cell 4 rfl rfl, H.cell 4 rfl rfl, H.cell 4 rfl rfl, H.cell 0 rfl rfl, H.cell 4 rfl rfl, H.cell 4 rfl rfl, H.cell 4 rfl rfl, H.cell 4 rfl rfl, H.cell 4 rfl rfl, H.cell 4 rfl rfl, trivial⟩ fun a hE => ?_
    obtain ⟨t_3, et_3, hm⟩ := bind_some hm
    refine WQ.eff (j := 9) (obs := [.cell ⟨r, 2, none⟩ (.int .i64 x.Command.Kind), .cell ⟨r, 3, none⟩ (.int .i64 x.Command.Queue), .cell ⟨r, 4, none⟩ (.int .i64 x.Command.Job.At), .cell ⟨r, 5, none⟩ (.int .i64 x.Command.Job.Gen), .cell ⟨r, 6, none⟩ (.int .i64 x.Command.Time), .cell ⟨r, 7, none⟩ (.int .i64 x.Command.Data)]) hE (by kernel_rfl) rfl rfl rfl rfl (by kernel_rfl) (OpTo.fn hE rfl rfl Tryz.call38 (server_Server_Do_ok et_3 H.t1)) ?_
    rintro _ w ⟨z3, rfl, H⟩
    refine ⟨⟨H.cell 4 rfl rfl, H.cell 4 rfl rfl, H.cell 4 rfl rfl, H.cell 4 rfl rfl, H.cell 4 rfl rfl, H.cell 4 rfl rfl, trivial⟩, fun a hE => ?_⟩
    replace H := trace_Book.shut (trace_Book.A.mk al_b.s_p (server_Server.A.mk al_b.s_a.d_p z3 al_b.s_a.desk_p al_b.s_a.desk_a) al_b.l_b al_b.l_c) (trace_Book.mk t_3.2 b.l) H.t2.t1.t2
    obtain ⟨t_4, et_4, hm⟩ := bind_some hm
    refine WQ.eff (j := 10) (obs := []) hE (by kernel_rfl) rfl rfl rfl rfl (by kernel_rfl) (OpTo.fn hE rfl rfl Tryz.call42 (trace_Book_note_ok et_4 H)) ?_
    rintro _ w ⟨z4, z5, rfl, H⟩
    refine ⟨trivial, fun a hE => ?_⟩
    refine WQ.eff0 (j := 11) (obs := []) hE (by kernel_rfl) rfl rfl rfl (by kernel_rfl) (OpTo.store hE H.t1 rfl rfl rfl rfl rfl rfl (Nat.le_of_ble_eq_true rfl)) ?_
    rintro _ w H
    refine ⟨trivial, fun a hE => ?_⟩
    refine WQ.done (by kernel_rfl) ?_
    refine Runs.retO (vs := [.agg #[.int .i64 t_4.1.Why, .int .i64 t_4.1.Job.At, .int .i64 t_4.1.Job.Gen, .int .i64 t_4.1.Time, .int .i64 t_4.1.Data, .int .i64 t_4.1.N]]) (obs := [.cell ⟨r1, 0, none⟩ (.int .i64 t_4.1.Why), .cell ⟨r1, 1, none⟩ (.int .i64 t_4.1.Job.At), .cell ⟨r1, 2, none⟩ (.int .i64 t_4.1.Job.Gen), .cell ⟨r1, 3, none⟩ (.int .i64 t_4.1.Time), .cell ⟨r1, 4, none⟩ (.int .i64 t_4.1.Data), .cell ⟨r1, 5, none⟩ (.int .i64 t_4.1.N)]) hE Tryz.func17 rfl [.int .i64 t_4.1.Why, .int .i64 t_4.1.Job.At, .int .i64 t_4.1.Job.Gen, .int .i64 t_4.1.Time, .int .i64 t_4.1.Data, .int .i64 t_4.1.N] (by kernel_rfl) ⟨H.cell 0 rfl rfl, H.cell 0 rfl rfl, H.cell 0 rfl rfl, H.cell 0 rfl rfl, H.cell 0 rfl rfl, H.cell 0 rfl rfl, trivial⟩ ?_
    cases hm
    exact ⟨server_Server.A.mk al_b.s_a.d_p z3 al_b.s_a.desk_p al_b.s_a.desk_a, z4, z5, rfl, H.x2.x0⟩
   ·replace hm := cond_f c hm
    refine Runs.sr ?_
    refine WR.e0 hE [(53, .bool (x.Kind == 4))] fun a hE => ?_
    refine Runs.cond hE rfl (fun c => ?_) (fun c => ?_)
    ·replace hm := cond_t c hm
     refine Runs.sr ?_
     refine WR.d0 hE 1 [(55, .pointer (some ⟨p_b, 0, none⟩))] fun a hE => ?_
     obtain ⟨t_5, et_5, hm⟩ := bind_some hm
     refine WR.eff hE rfl rfl rfl rfl (OpTo.fn hE rfl rfl Tryz.call43 (trace_Book_drain_ok et_5 H.t2)) ?_
     rintro _ w ⟨z6, z7, z8, rfl, H⟩ a hE
     refine WR.d0 hE 3 [(57, .agg #[.int .i64 0, .int .i64 0, .int .i64 0, .int .i64 0, .int .i64 0, .int .i64 t_5.1])] fun a hE => ?_
     refine WR.eff0 hE rfl rfl rfl (OpTo.store hE H.t1 rfl rfl rfl rfl rfl rfl (Nat.le_of_ble_eq_true rfl)) ?_
     rintro _ w H a hE
     refine WR.done rfl ?_
     refine Runs.retO (vs := [.agg #[.int .i64 0, .int .i64 0, .int .i64 0, .int .i64 0, .int .i64 0, .int .i64 t_5.1]]) (obs := [.cell ⟨r1, 0, none⟩ (.int .i64 0), .cell ⟨r1, 1, none⟩ (.int .i64 0), .cell ⟨r1, 2, none⟩ (.int .i64 0), .cell ⟨r1, 3, none⟩ (.int .i64 0), .cell ⟨r1, 4, none⟩ (.int .i64 0), .cell ⟨r1, 5, none⟩ (.int .i64 t_5.1)]) hE Tryz.func17 rfl [.int .i64 0, .int .i64 0, .int .i64 0, .int .i64 0, .int .i64 0, .int .i64 t_5.1] (by kernel_rfl) ⟨H.cell 0 rfl rfl, H.cell 0 rfl rfl, H.cell 0 rfl rfl, H.cell 0 rfl rfl, H.cell 0 rfl rfl, H.cell 0 rfl rfl, trivial⟩ ?_
     cases hm
     exact ⟨z6, z7, z8, rfl, H.x2.x0⟩
    ·replace hm := cond_f c hm
     refine Runs.skip ?_
     refine Runs.inBlock ?_
     refine Runs.sr ?_
     refine WR.d0 hE 1 [(58, .agg #[.int .i64 12, .int .i64 0, .int .i64 0, .int .i64 0, .int .i64 0, .int .i64 0])] fun a hE => ?_
     refine WR.eff0 hE rfl rfl rfl (OpTo.store hE H rfl rfl rfl rfl rfl rfl (Nat.le_of_ble_eq_true rfl)) ?_
     rintro _ w H a hE
     refine WR.done rfl ?_
     refine Runs.retO (vs := [.agg #[.int .i64 12, .int .i64 0, .int .i64 0, .int .i64 0, .int .i64 0, .int .i64 0]]) (obs := [.cell ⟨r1, 0, none⟩ (.int .i64 12), .cell ⟨r1, 1, none⟩ (.int .i64 0), .cell ⟨r1, 2, none⟩ (.int .i64 0), .cell ⟨r1, 3, none⟩ (.int .i64 0), .cell ⟨r1, 4, none⟩ (.int .i64 0), .cell ⟨r1, 5, none⟩ (.int .i64 0)]) hE Tryz.func17 rfl [.int .i64 12, .int .i64 0, .int .i64 0, .int .i64 0, .int .i64 0, .int .i64 0] (by kernel_rfl) ⟨H.cell 0 rfl rfl, H.cell 0 rfl rfl, H.cell 0 rfl rfl, H.cell 0 rfl rfl, H.cell 0 rfl rfl, H.cell 0 rfl rfl, trivial⟩ ?_
     cases hm
     exact ⟨al_b.s_a, al_b.l_b, al_b.l_c, rfl, H.x1.x0⟩

noncomputable abbrev C62p : List (PK El) := [pI .i64]
noncomputable def C62 : Con El := mkCon 62 C62p (fun i_ => thicketref2_New i_.1) 5 4 (fun i_ t ns_ as_ => .pointer (some ⟨(nn ns_ 0), 0, none⟩)) (fun i_ t ns_ as_ => thicketref2_Pool.D.flat (nn ns_ 0) (thicketref2_Pool.A.mk (na as_ 0) (nn ns_ 1) (na as_ 1) (nn ns_ 2) (na as_ 2) (nn ns_ 3) (na as_ 3) (nn ns_ 4)) t)

theorem S62 : (C62).Sound Tryz.prog :=
  fn_sound mixed (C62) (n := 8) (rs := rsOf Tryz.prog 62) [] [1000, 1001, 1002, 1003, 1004] (gj (gO thicketref2_Pool.D [1000, 1001, 1002, 1003, 1004]) [nPk 1000, nA thicketref2_Pool.D [1000, 1001, 1002, 1003, 1004] (fun al => ([al.Gens_c, al.In_c, al.V_c, al.Back_c], [al.Gens_b, al.In_b, al.V_b, al.Back_b]))]) (fun i => (.s (.seg 1 []) (.s (.seg 4 []) (.s (.new 0 []) (.s (.seg 1 []) (.s (.nil 1 1 3) (.s (.nil 2 9 4) (.s (.nil 3 10 2) (.s (.nil 4 1 3) (.rk [(0, 1000), (1, 1001), (2, 1002), (3, 1003), (4, 1004), (1000, 91000), (1001, 91001), (1002, 91002), (1003, 91003), (1004, 91004)] .ret)))))))))) Tryz.func62 rfl rfl (by kernel_rfl) (fun _ => rfl) (fun i => by kernel_rfl) (fun i s => by kernel_rfl)

noncomputable def K62 : SCon El Tryz.prog := ⟨C62, S62, Tryz.call62⟩

noncomputable abbrev C35p : List (PK El) := [pI .i64]
noncomputable def C35 : Con El := mkCon 35 C35p (fun i_ => thicketref22_New i_.1) 7 5 (fun i_ t ns_ as_ => .pointer (some ⟨(nn ns_ 0), 0, none⟩)) (fun i_ t ns_ as_ => thicketref22_Dispatcher.D.flat (nn ns_ 0) (thicketref22_Dispatcher.A.mk (nn ns_ 1) (thicketref2_Pool.A.mk (na as_ 0) (nn ns_ 2) (na as_ 1) (nn ns_ 3) (na as_ 2) (nn ns_ 4) (na as_ 3) (nn ns_ 5)) (na as_ 4) (nn ns_ 6)) t)

theorem S35 : (C35).Sound Tryz.prog :=
  fn_sound mixed (C35) (n := 8) (rs := rsOf Tryz.prog 35) [] [1000, 1001, 1002, 1003, 1004, 1005, 1006] (gj (gO thicketref22_Dispatcher.D [1000, 1001, 1002, 1003, 1004, 1005, 1006]) [nPk 1000, nA thicketref22_Dispatcher.D [1000, 1001, 1002, 1003, 1004, 1005, 1006] (fun al => ([al.Pool_p, al.Pool_a.Gens_c, al.Pool_a.In_c, al.Pool_a.V_c, al.Pool_a.Back_c, al.L_c], [al.Pool_a.Gens_b, al.Pool_a.In_b, al.Pool_a.V_b, al.Pool_a.Back_b, al.L_b]))]) (fun i => (.s (.seg 1 []) (.s (.seg 2 []) (.s (.call K62 [] [0, 1, 2, 3, 4]) (.s (.seg 1 []) (.s (.new 5 []) (.s (.seg 1 []) (.s (.nil 6 11 139) (.rk [(5, 1000), (0, 1001), (1, 1002), (2, 1003), (3, 1004), (4, 1005), (6, 1006), (1000, 91000), (1001, 91001), (1002, 91002), (1003, 91003), (1004, 91004), (1005, 91005), (1006, 91006)] .ret))))))))) Tryz.func35 rfl rfl (by kernel_rfl) (fun _ => rfl) (fun i => by kernel_rfl) (fun i s => by kernel_rfl)

noncomputable def K35 : SCon El Tryz.prog := ⟨C35, S35, Tryz.call35⟩

noncomputable abbrev C95p : List (PK El) := [pO thicketref2_Pool.D, pI .i64]
noncomputable def C95 : Con El := mkCon 95 C95p (fun i_ => thicketref2_Pool_Take i_.1.2.2 i_.2.1) 4 4 (fun i_ t ns_ as_ => .tuple #[.agg #[.int .i64 t.1.At, .int .i64 t.1.Gen], .bool t.2.1]) (fun i_ t ns_ as_ => thicketref2_Pool.D.flat i_.1.1 (thicketref2_Pool.A.mk (na as_ 0) (nn ns_ 0) (na as_ 1) (nn ns_ 1) (na as_ 2) (nn ns_ 2) (na as_ 3) (nn ns_ 3)) t.2.2)

theorem S95 : (C95).Sound Tryz.prog :=
  fn_sound mixed (C95) (n := 103) (rs := rsOf Tryz.prog 95) [.C 2000 0, .C 2000 1] [0, 1, 2, 3, 4] (gj (g2 (gC 2000 0 2 api_Ref.dec) (g2 (gB 5) (gO thicketref2_Pool.D [0, 1, 2, 3, 4]))) [nA thicketref2_Pool.D [0, 1, 2, 3, 4] (fun al => ([al.Gens_c, al.In_c, al.V_c, al.Back_c], [al.Gens_b, al.In_b, al.V_b, al.Back_b]))]) (fun i => (.s (.new 5 []) (.s (.seg 1 []) (.s (.seg 6 [.C 0 1]) (.s (.seg 6 [.C 0 4]) (.s (.seg 2 []) (.joinR (Int × thicketref2_Pool) 4 4 (gj (g2 (gI 6) (gO thicketref2_Pool.D [0, 1, 2, 3, 4])) [nA thicketref2_Pool.D [0, 1, 2, 3, 4] (fun al => ([al.Gens_c, al.In_c, al.V_c, al.Back_c], [al.Gens_b, al.In_b, al.V_b, al.Back_b]))]) (fun st_ s_ ns_ as_ => match (gP 0) st_ with | some x_ => ([(6, .int .i64 s_.1)] ++ kp [0, 1, 4] st_, ka [5] st_ ++ zipL [0, 1, 2, 3, 4] (thicketref2_Pool.D.flat (x_) (thicketref2_Pool.A.mk (na as_ 0) (nn ns_ 0) (na as_ 1) (nn ns_ 1) (na as_ 2) (nn ns_ 2) (na as_ 3) (nn ns_ 3)) s_.2)) | none => ([], [])) (.cond (.s (.seg 6 [.C 0 4]) (.s (.idx false 4 (.tmp 25) 2) (.s (.seg 3 [.A 2, .X 2 4 0]) (.s (.seg 7 [.C 0 4]) (.s (.cut false 4 none (some (.tmp 34)) 1003) (.s (.seg 3 [.W 1003]) (.s (.sto 0) (.s (.own 1003 4) .leaf)))))))) (.s (.seg 6 [.C 0 0]) (.cond (.s (.seg 1 []) (.s (.sto 5) (.s (.seg 1 []) (.rk [(5, 2000), (2000, 92000)] .ret)))) (.jg (thicketref2_Pool) 3 3 (gj (gO thicketref2_Pool.D [0, 1, 2, 3, 4]) [nA thicketref2_Pool.D [0, 1, 2, 3, 4] (fun al => ([al.Gens_c, al.In_c, al.V_c], [al.Gens_b, al.In_b, al.V_b]))]) (fun st_ s_ ns_ as_ => match (g2 (gP 0) (gA thicketref2_Pool.D [0, 1, 2, 3, 4])) st_ with | some x_ => ([] ++ kp [0, 1, 4, 6] st_, ka [5] st_ ++ zipL [0, 1, 2, 3, 4] (thicketref2_Pool.D.flat (x_.1) (thicketref2_Pool.A.mk (na as_ 0) (nn ns_ 0) (na as_ 1) (nn ns_ 1) (na as_ 2) (nn ns_ 2) (x_.2.Back_b) (x_.2.Back_c)) s_)) | none => ([], [])) (.drw (.q [0, 1, 2, 3, 4, 5, 6, 9, 10, 11, 12, 15, 16, 17, 18] [.C 0 1, .C 0 2, .C 0 3] (.alt3 7 (.bld 38 1 3) [.C 0 3, .C 0 2, .C 0 1] (.alt3 8 (.app 1 (.O 38)) [.C 0 3, .C 0 2] (.alt2 13 (.bld 39 9 4) [.C 0 3, .C 0 2] (.alt2 14 (.app 2 (.O 39)) [.C 0 3] (.a 19 (.bld 40 10 2) [.C 0 3] (.a 20 (.app 3 (.O 40)) [] (.q [21, 22] [] (.a 23 (.sto 0) [] (.q [24, 25] [] (.a 26 (.sto 0) [] (.q [27, 28] [] (.a 29 (.sto 0) [] .leaf)))))))) 19 (.bld 41 10 2) [.C 0 3, .C 0 2] (.a 14 (.app 2 (.O 39)) [.C 0 3] (.a 20 (.app 3 (.O 41)) [] (.q [21, 22] [] (.a 23 (.sto 0) [] (.q [24, 25] [] (.a 26 (.sto 0) [] (.q [27, 28] [] (.a 29 (.sto 0) [] .leaf))))))))) 19 (.bld 42 10 2) [.C 0 3, .C 0 2] (.a 13 (.bld 43 9 4) [.C 0 3, .C 0 2] (.a 14 (.app 2 (.O 43)) [.C 0 3] (.a 20 (.app 3 (.O 42)) [] (.q [21, 22] [] (.a 23 (.sto 0) [] (.q [24, 25] [] (.a 26 (.sto 0) [] (.q [27, 28] [] (.a 29 (.sto 0) [] .leaf)))))))))) 13 (.bld 44 9 4) [.C 0 3, .C 0 2, .C 0 1] (.alt2 8 (.app 1 (.O 38)) [.C 0 3, .C 0 2] (.alt2 14 (.app 2 (.O 44)) [.C 0 3] (.a 19 (.bld 45 10 2) [.C 0 3] (.a 20 (.app 3 (.O 45)) [] (.q [21, 22] [] (.a 23 (.sto 0) [] (.q [24, 25] [] (.a 26 (.sto 0) [] (.q [27, 28] [] (.a 29 (.sto 0) [] .leaf)))))))) 19 (.bld 46 10 2) [.C 0 3, .C 0 2] (.a 14 (.app 2 (.O 44)) [.C 0 3] (.a 20 (.app 3 (.O 46)) [] (.q [21, 22] [] (.a 23 (.sto 0) [] (.q [24, 25] [] (.a 26 (.sto 0) [] (.q [27, 28] [] (.a 29 (.sto 0) [] .leaf))))))))) 19 (.bld 47 10 2) [.C 0 3, .C 0 2, .C 0 1] (.a 8 (.app 1 (.O 38)) [.C 0 3, .C 0 2] (.a 14 (.app 2 (.O 44)) [.C 0 3] (.a 20 (.app 3 (.O 47)) [] (.q [21, 22] [] (.a 23 (.sto 0) [] (.q [24, 25] [] (.a 26 (.sto 0) [] (.q [27, 28] [] (.a 29 (.sto 0) [] .leaf)))))))))) 19 (.bld 48 10 2) [.C 0 3, .C 0 2, .C 0 1] (.alt2 8 (.app 1 (.O 38)) [.C 0 3, .C 0 2] (.a 13 (.bld 49 9 4) [.C 0 3, .C 0 2] (.a 14 (.app 2 (.O 49)) [.C 0 3] (.a 20 (.app 3 (.O 48)) [] (.q [21, 22] [] (.a 23 (.sto 0) [] (.q [24, 25] [] (.a 26 (.sto 0) [] (.q [27, 28] [] (.a 29 (.sto 0) [] .leaf))))))))) 13 (.bld 50 9 4) [.C 0 3, .C 0 2, .C 0 1] (.a 8 (.app 1 (.O 38)) [.C 0 3, .C 0 2] (.a 14 (.app 2 (.O 50)) [.C 0 3] (.a 20 (.app 3 (.O 48)) [] (.q [21, 22] [] (.a 23 (.sto 0) [] (.q [24, 25] [] (.a 26 (.sto 0) [] (.q [27, 28] [] (.a 29 (.sto 0) [] .leaf))))))))))) 13 (.bld 51 9 4) [.C 0 3, .C 0 2, .C 0 1] (.alt2 7 (.bld 52 1 3) [.C 0 3, .C 0 2, .C 0 1] (.alt2 8 (.app 1 (.O 52)) [.C 0 3, .C 0 2] (.alt2 14 (.app 2 (.O 51)) [.C 0 3] (.a 19 (.bld 53 10 2) [.C 0 3] (.a 20 (.app 3 (.O 53)) [] (.q [21, 22] [] (.a 23 (.sto 0) [] (.q [24, 25] [] (.a 26 (.sto 0) [] (.q [27, 28] [] (.a 29 (.sto 0) [] .leaf)))))))) 19 (.bld 54 10 2) [.C 0 3, .C 0 2] (.a 14 (.app 2 (.O 51)) [.C 0 3] (.a 20 (.app 3 (.O 54)) [] (.q [21, 22] [] (.a 23 (.sto 0) [] (.q [24, 25] [] (.a 26 (.sto 0) [] (.q [27, 28] [] (.a 29 (.sto 0) [] .leaf))))))))) 19 (.bld 55 10 2) [.C 0 3, .C 0 2, .C 0 1] (.a 8 (.app 1 (.O 52)) [.C 0 3, .C 0 2] (.a 14 (.app 2 (.O 51)) [.C 0 3] (.a 20 (.app 3 (.O 55)) [] (.q [21, 22] [] (.a 23 (.sto 0) [] (.q [24, 25] [] (.a 26 (.sto 0) [] (.q [27, 28] [] (.a 29 (.sto 0) [] .leaf)))))))))) 19 (.bld 56 10 2) [.C 0 3, .C 0 2, .C 0 1] (.a 7 (.bld 57 1 3) [.C 0 3, .C 0 2, .C 0 1] (.a 8 (.app 1 (.O 57)) [.C 0 3, .C 0 2] (.a 14 (.app 2 (.O 51)) [.C 0 3] (.a 20 (.app 3 (.O 56)) [] (.q [21, 22] [] (.a 23 (.sto 0) [] (.q [24, 25] [] (.a 26 (.sto 0) [] (.q [27, 28] [] (.a 29 (.sto 0) [] .leaf))))))))))) 19 (.bld 58 10 2) [.C 0 3, .C 0 2, .C 0 1] (.alt2 7 (.bld 59 1 3) [.C 0 3, .C 0 2, .C 0 1] (.alt2 8 (.app 1 (.O 59)) [.C 0 3, .C 0 2] (.a 13 (.bld 60 9 4) [.C 0 3, .C 0 2] (.a 14 (.app 2 (.O 60)) [.C 0 3] (.a 20 (.app 3 (.O 58)) [] (.q [21, 22] [] (.a 23 (.sto 0) [] (.q [24, 25] [] (.a 26 (.sto 0) [] (.q [27, 28] [] (.a 29 (.sto 0) [] .leaf))))))))) 13 (.bld 61 9 4) [.C 0 3, .C 0 2, .C 0 1] (.a 8 (.app 1 (.O 59)) [.C 0 3, .C 0 2] (.a 14 (.app 2 (.O 61)) [.C 0 3] (.a 20 (.app 3 (.O 58)) [] (.q [21, 22] [] (.a 23 (.sto 0) [] (.q [24, 25] [] (.a 26 (.sto 0) [] (.q [27, 28] [] (.a 29 (.sto 0) [] .leaf)))))))))) 13 (.bld 62 9 4) [.C 0 3, .C 0 2, .C 0 1] (.a 7 (.bld 63 1 3) [.C 0 3, .C 0 2, .C 0 1] (.a 8 (.app 1 (.O 63)) [.C 0 3, .C 0 2] (.a 14 (.app 2 (.O 62)) [.C 0 3] (.a 20 (.app 3 (.O 58)) [] (.q [21, 22] [] (.a 23 (.sto 0) [] (.q [24, 25] [] (.a 26 (.sto 0) [] (.q [27, 28] [] (.a 29 (.sto 0) [] .leaf)))))))))))))) .leaf)))) (.s (.seg 5 [.C 0 1]) (.s (.idx false 1 (.tmp 76) 4) (.s (.seg 3 [.A 4, .X 4 1 0]) (.s (.idx false 1 (.tmp 76) 5) (.s (.seg 1 [.A 5]) (.s (.sset 1 5 0) (.s (.rlc 5 0 1) (.drw (.q [0, 1, 2, 3, 4, 5, 6, 7, 8, 9, 10] [.C 0 2, .C 0 3] (.s (.idx false 2 (.tmp 85) 8) (.q [11] [.A 8] (.a 12 (.sset 2 8 0) [] (.s (.rlc 8 0 2) (.s (.idx false 3 (.tmp 90) 9) (.q [13] [.A 9] (.a 14 (.sset 3 9 0) [] (.s (.rlc 9 0 3) (.s (.seg 6 [.C 0 1]) (.s (.idx false 1 (.tmp 99) 10) (.s (.seg 3 [.A 10, .X 10 1 0]) (.s (.sto 5) (.s (.seg 1 []) (.rk [(5, 2000), (2000, 92000)] .ret)))))))))))))))))))))))))))))) Tryz.func95 rfl rfl (by kernel_rfl) (fun _ => rfl) (fun i => by kernel_rfl) (fun i s => by kernel_rfl)

noncomputable def K95 : SCon El Tryz.prog := ⟨C95, S95, Tryz.call95⟩

noncomputable abbrev C134p : List (PK El) := [pV api_Entry.dv api_Entry.val, pV api_Entry.dv api_Entry.val]
noncomputable def C134 : Con El := mkCon 134 C134p (fun i_ => thicketref1_Before i_.1 i_.2.1) 0 0 (fun i_ t ns_ as_ => .bool t) (fun i_ t ns_ as_ => [])

theorem S134 : (C134).Sound Tryz.prog :=
  fn_sound mixed (C134) (n := 24) (rs := rsOf Tryz.prog 134) [] [] (gj (gB 4) []) (fun i => (.s (.new 0 []) (.s (.new 1 []) (.s (.seg 1 []) (.s (.seg 6 [.C 0 0, .C 1 0]) (.pj 10 (Bool) mB (gB 4) (fun st s_ => ([(4, .bool s_)] ++ kp [] st, ka [1, 0] st)) (.s (.seg 14 []) .leaf) (.s (.seg 6 [.C 0 0, .C 1 0]) (.pj 16 (Bool) mB (gB 4) (fun st s_ => ([(4, .bool s_)] ++ kp [] st, ka [1, 0] st)) (.s (.seg 8 [.C 0 1, .C 1 1]) .leaf) (.s (.seg 8 []) .leaf) .leaf)) .ret)))))) Tryz.func134 rfl rfl (by kernel_rfl) (fun _ => rfl) (fun i => by kernel_rfl) (fun i s => by kernel_rfl)

noncomputable def K134 : SCon El Tryz.prog := ⟨C134, S134, Tryz.call134⟩

noncomputable abbrev C96p : List (PK El) := [pO thicketref22_Dispatcher.D, pI .i64]
noncomputable def C96 (k : Nat) : Con El := mkCon 96 C96p (fun i_ => thicketref22_Dispatcher_first k i_.1.2.2 i_.2.1) 0 0 (fun i_ t ns_ as_ => .int .i64 t) (fun i_ t ns_ as_ => thicketref22_Dispatcher.D.flat i_.1.1 i_.1.2.1 i_.1.2.2)

noncomputable abbrev C96r (k : Nat) (i : Ins C96p) : Kn El → VC (C96 k).T := retC Tryz.prog (C96 k) (rsOf Tryz.prog 96) [] [0, 1, 2, 3, 4, 5, 6] (gj (gI 4) []) i

noncomputable def C96l0 (i_ : Ins C96p) : BCon El (Int) := ⟨nav [1, 1, 0, 1] (bodyOf Tryz.prog 96), Unit, Int × Int, Int, Int, fun u => .inr u, fun _ _ => none, fun x_ => [], fun x_ v_ ns_ as_ => [(0, .pointer (some ⟨i_.1.1, 0, none⟩)), (1, .int .i64 i_.2.1), (5, .int .i64 v_.1), (6, .int .i64 v_.2)], fun x_ v_ ns_ as_ => zipL [0, 1, 2, 3, 4, 5, 6] (thicketref22_Dispatcher.D.flat i_.1.1 i_.1.2.1 i_.1.2.2), 0, 0, fun x_ u_ ns_ as_ => [(5, .int .i64 u_)], fun x_ u_ ns_ as_ => zipL [0, 1, 2, 3, 4, 5, 6] (thicketref22_Dispatcher.D.flat i_.1.1 i_.1.2.1 i_.1.2.2)⟩

noncomputable def C96l0g (k : Nat) (i_ : Ins C96p) : Nat → (C96l0 i_).X → (C96l0 i_).V → Option (C96l0 i_).W := fun m_ (x_ : Unit) (v_ : Int × Int) => thicketref22_Dispatcher_first_l0 i_.2.1 i_.1.2.2 m_ v_.1 v_.2

theorem C96l0s (k : Nat) (i : Ins C96p) (m : Nat) : ((C96l0 i).at (C96l0g k i) m).Sound Tryz.prog 96 51 (C96r k i) :=
  loop_sound mixed (C96l0 i) (id := 0) (body := nav [1, 1, 0, 1, 0, 0] (bodyOf Tryz.prog 96)) (C96l0g k i) (fun _ => none) (fun u => u) (gj (g2 (gI 5) (gI 6)) []) (gj (gI 5) []) (fun m => (.s (.seg 7 [.C 0 4]) (.cond (.join (Int) 0 0 (gj (gI 5) []) (fun st_ s_ ns_ as_ => ([(5, .int .i64 s_)] ++ kp [0, 1, 6] st_, ka [0, 1, 2, 3, 4, 5, 6] st_)) (.blk (.join (Bool) 0 0 (gj (gB 48) []) (fun st_ s_ ns_ as_ => ([(48, .bool s_)] ++ kp [0, 1, 5, 6] st_, ka [0, 1, 2, 3, 4, 5, 6] st_)) (.drw (.q [0, 1, 2, 3, 4] [.C 0 4] (.s (.idx false 6 (.tmp 20) 45) (.q [5, 6, 7, 8, 9, 10] [.A 45, .X 45 6 0] (.split 26 (.q [11, 12, 13] [] (.split 29 (.q [14, 15, 16, 17, 18, 19, 20, 21, 22, 23, 24, 25, 26, 27, 28, 29, 30, 31, 32] [] .leaf) (.q [14, 15, 16, 17, 18] [.C 0 4] (.s (.idx false 6 (.tmp 34) 46) (.q [19, 20, 21, 22, 23, 24, 25, 26] [.A 46, .X 46 6 2, .X 46 6 3, .C 0 4] (.s (.idx false 6 (.tmp 42) 47) (.q [27, 28, 29] [.A 47, .X 47 6 2, .X 47 6 3] (.a 30 (.call K134 [] []) [] (.q [31, 32] [] .leaf))))))))) (.q [11, 12, 13, 14, 15, 16, 17, 18, 19, 20, 21, 22, 23, 24, 25, 26, 27, 28, 29, 30, 31, 32] [] .leaf)))))) (.cond (.s (.seg 2 []) .leaf) .leaf))) (.s (.seg 3 []) .back)) .leaf))) (by kernel_rfl) (fun _ _ => rfl) (fun r y h => by cases h) (fun u => rfl) (fun m x v n1 n2 => by kernel_rfl) (fun m x v n1 n2 s => by kernel_rfl) m

theorem S96 (k : Nat) : (C96 k).Sound Tryz.prog :=
  fn_sound mixed (C96 k) (n := 51) (rs := rsOf Tryz.prog 96) [] [0, 1, 2, 3, 4, 5, 6] (gj (gI 4) []) (fun i => (.s (.seg 1 []) (.s (.seg 1 []) (.s (.seg 1 []) (.loop ⟨(C96l0 i).at (C96l0g k i) k, C96l0s k i k⟩ (gl gU (g2 (gI 5) (gI 6)) []) (.s (.seg 2 []) .ret)))))) Tryz.func96 rfl rfl (by kernel_rfl) (fun _ => rfl) (fun i => by kernel_rfl) (fun i s => by kernel_rfl)

noncomputable def K96 (k : Nat) : SCon El Tryz.prog := ⟨C96 k, S96 k, Tryz.call96⟩

noncomputable abbrev C64p : List (PK El) := [pO thicketref2_Pool.D, pV api_Ref.dv api_Ref.val]
noncomputable def C64 : Con El := mkCon 64 C64p (fun i_ => thicketref2_Pool_Look i_.1.2.2 i_.2.1) 0 0 (fun i_ t ns_ as_ => .int .i64 t) (fun i_ t ns_ as_ => thicketref2_Pool.D.flat i_.1.1 i_.1.2.1 i_.1.2.2)

theorem S64 : (C64).Sound Tryz.prog :=
  fn_sound mixed (C64) (n := 58) (rs := rsOf Tryz.prog 64) [] [0, 1, 2, 3, 4] (gj (gI 4) []) (fun i => (.s (.new 5 []) (.s (.seg 1 []) (.join (Bool) 0 0 (gj (gB 35) []) (fun st_ s_ ns_ as_ => ([(35, .bool s_)] ++ kp [0, 3] st_, ka [5, 0, 1, 2, 3, 4] st_)) (.drw (.q [0, 1, 2, 3] [.C 5 0] (.split 8 (.q [4, 5, 6, 7, 8, 9, 10, 11, 12, 13, 14, 15, 16, 17, 18, 19, 20, 21, 22, 23, 24, 25, 26, 27, 28, 29, 30] [] .leaf) (.q [4, 5, 6, 7, 8, 9, 10, 11, 12, 13] [.C 5 0, .C 0 1] (.split 18 (.q [14, 15, 16, 17, 18, 19, 20, 21, 22, 23, 24, 25, 26, 27, 28, 29, 30] [] .leaf) (.q [14, 15, 16, 17, 18] [.C 5 1] (.split 23 (.q [19, 20, 21, 22, 23, 24, 25, 26, 27, 28, 29, 30] [] .leaf) (.q [19, 20, 21, 22, 23, 24, 25, 26] [.C 5 1, .C 0 1, .C 5 0] (.s (.idx false 1 (.tmp 31) 2) (.q [27, 28, 29, 30] [.A 2, .X 2 1 0] .leaf)))))))))) (.cond (.s (.seg 1 []) .ret) (.join (Bool) 0 0 (gj (gB 57) []) (fun st_ s_ ns_ as_ => ([(57, .bool s_)] ++ kp [] st_, ka [0, 1, 2, 3, 4] st_)) (.drw (.q [0, 1, 2, 3, 4, 5, 6, 7] [.C 5 1, .C 0 1, .C 5 0] (.s (.idx false 1 (.tmp 43) 7) (.q [8, 9, 10, 11] [.A 7, .X 7 1 0] (.split 47 (.q [12, 13, 14, 15, 16, 17, 18, 19, 20, 21] [] .leaf) (.q [12, 13, 14, 15, 16, 17] [.C 0 2, .C 5 0] (.s (.idx false 2 (.tmp 53) 8) (.q [18, 19, 20, 21] [.A 8, .X 8 2 0] .leaf)))))))) (.cond (.s (.seg 1 []) .ret) (.s (.seg 1 []) .ret)))))))) Tryz.func64 rfl rfl (by kernel_rfl) (fun _ => rfl) (fun i => by kernel_rfl) (fun i s => by kernel_rfl)

noncomputable def K64 : SCon El Tryz.prog := ⟨C64, S64, Tryz.call64⟩

noncomputable abbrev C98p : List (PK El) := [pO thicketref2_Pool.D, pV api_Ref.dv api_Ref.val]
noncomputable def C98 : Con El := mkCon 98 C98p (fun i_ => thicketref2_Pool_Give i_.1.2.2 i_.2.1) 1 1 (fun i_ t ns_ as_ => .tuple #[.int .i64 t.1, .int .i64 t.2.1]) (fun i_ t ns_ as_ => thicketref2_Pool.D.flat i_.1.1 (thicketref2_Pool.A.mk i_.1.2.1.Gens_b i_.1.2.1.Gens_c i_.1.2.1.In_b i_.1.2.1.In_c i_.1.2.1.V_b i_.1.2.1.V_c (na as_ 0) (nn ns_ 0)) t.2.2)

theorem S98 : (C98).Sound Tryz.prog :=
  fn_sound mixed (C98) (n := 41) (rs := rsOf Tryz.prog 98) [] [0, 1, 2, 3, 4] (gj (g2 (gI 4) (g2 (gI 5) (gO thicketref2_Pool.D [0, 1, 2, 3, 4]))) [nA thicketref2_Pool.D [0, 1, 2, 3, 4] (fun al => ([al.Back_c], [al.Back_b]))]) (fun i => (.s (.new 5 []) (.s (.seg 2 []) (.s (.seg 2 [.C 5 0, .C 5 1]) (.s (.call K64 [.K 0, .K 1, .K 2, .K 3, .K 4] [0, 1, 2, 3, 4]) (.s (.seg 1 []) (.s (.seg 2 []) (.cond (.s (.seg 3 []) .ret) (.drw (.q [0, 1, 2, 3, 4, 5] [.C 0 2, .C 5 0] (.s (.idx false 2 (.tmp 18) 1) (.q [6] [.A 1] (.a 7 (.sset 2 1 0) [] (.s (.rlc 1 0 2) (.jg (thicketref2_Pool) 1 1 (gj (gO thicketref2_Pool.D [0, 1, 2, 3, 4]) [nA thicketref2_Pool.D [0, 1, 2, 3, 4] (fun al => ([al.Back_c], [al.Back_b]))]) (fun st_ s_ ns_ as_ => match (g2 (gP 0) (gA thicketref2_Pool.D [0, 1, 2, 3, 4])) st_ with | some x_ => ([] ++ kp [0, 3] st_, ka [5] st_ ++ zipL [0, 1, 2, 3, 4] (thicketref2_Pool.D.flat (x_.1) (thicketref2_Pool.A.mk (x_.2.Gens_b) (x_.2.Gens_c) (x_.2.In_b) (x_.2.In_c) (x_.2.V_b) (x_.2.V_c) (na as_ 0) (nn ns_ 0)) s_)) | none => ([], [])) (.drw (.q [0, 2, 3, 4, 5, 7, 8] [.C 0 4, .C 5 0] (.alt2 1 (.bld 8 1 3) [.C 5 0, .C 0 4] (.alt2 6 (.app 8 (.O 4)) [.C 5 0] (.a 9 (.bld 9 1 3) [] (.a 10 (.app 8 (.O 9)) [] (.q [11, 12] [] (.a 13 (.sto 0) [] (.rk [(8, 4), (4, 90004)] .leaf))))) 9 (.bld 10 1 3) [.C 0 4] (.a 6 (.app 8 (.O 4)) [] (.a 10 (.app 8 (.O 10)) [] (.q [11, 12] [] (.a 13 (.sto 0) [] (.rk [(8, 4), (4, 90004)] .leaf)))))) 9 (.bld 11 1 3) [.C 0 4] (.a 1 (.bld 12 1 3) [.C 0 4] (.a 6 (.app 12 (.O 4)) [] (.a 10 (.app 12 (.O 11)) [] (.q [11, 12] [] (.a 13 (.sto 0) [] (.rk [(12, 4), (4, 90004)] .leaf))))))))) (.drw (.q [0, 1, 2, 3, 4, 5] [.C 0 3, .C 5 0] (.s (.idx false 3 (.tmp 38) 3) (.q [6, 7, 8, 9] [.A 3, .X 3 3 0] .ret))))))))))))))))))) Tryz.func98 rfl rfl (by kernel_rfl) (fun _ => rfl) (fun i => by kernel_rfl) (fun i s => by kernel_rfl)

noncomputable def K98 : SCon El Tryz.prog := ⟨C98, S98, Tryz.call98⟩

noncomputable abbrev C66p : List (PK El) := [pO thicketref22_Dispatcher.D, pI .i64]
noncomputable def C66 : Con El := mkCon 66 C66p (fun i_ => thicketref22_Dispatcher_out i_.1.2.2 i_.2.1) 5 5 (fun i_ t ns_ as_ => .agg #[.int .i64 t.1.Queue, .int .i64 t.1.Data, .int .i64 t.1.E.Key, .int .i64 t.1.E.Serial, .int .i64 t.1.R.At, .int .i64 t.1.R.Gen]) (fun i_ t ns_ as_ => thicketref22_Dispatcher.D.flat i_.1.1 (thicketref22_Dispatcher.A.mk i_.1.2.1.Pool_p (thicketref2_Pool.A.mk (na as_ 0) (nn ns_ 0) (na as_ 1) (nn ns_ 1) (na as_ 2) (nn ns_ 2) (na as_ 3) (nn ns_ 3)) (na as_ 4) (nn ns_ 4)) t.2)

theorem S66 : (C66).Sound Tryz.prog :=
  fn_sound mixed (C66) (n := 40) (rs := rsOf Tryz.prog 66) [.C 2000 0, .C 2000 1, .C 2000 2, .C 2000 3, .C 2000 4, .C 2000 5] [0, 1, 2, 3, 4, 5, 6] (gj (g2 (gC 2000 0 6 thicketref22_Job.dec) (gO thicketref22_Dispatcher.D [0, 1, 2, 3, 4, 5, 6])) [nA thicketref22_Dispatcher.D [0, 1, 2, 3, 4, 5, 6] (fun al => ([al.Pool_a.Gens_c, al.Pool_a.In_c, al.Pool_a.V_c, al.Pool_a.Back_c, al.L_c], [al.Pool_a.Gens_b, al.Pool_a.In_b, al.Pool_a.V_b, al.Pool_a.Back_b, al.L_b]))]) (fun i => (.s (.new 7 []) (.s (.seg 5 [.C 0 4]) (.s (.idx false 6 (.tmp 10) 0) (.s (.seg 2 [.A 0, .X 0 6 0, .X 0 6 1, .X 0 6 2, .X 0 6 3, .X 0 6 4, .X 0 6 5]) (.s (.new 8 []) (.s (.sto 8) (.drw (.q [0, 2, 3, 4, 5, 6] [.C 0 4] (.s (.cut false 6 none (some (.tmp 19)) 1003) (.q [7, 9, 10, 11, 12, 13, 14] [.W 1003, .C 0 4] (.s (.cut false 6 (some (.tmp 27)) none 1004) (.q [15] [.W 1004] (.a 1 (.bld 10 11 139) [.W 1004, .C 0 4, .W 1003, .C 0 4] (.a 8 (.app 10 (.W 1003 6)) [.W 1004, .C 0 4] (.a 16 (.app 10 (.W 1004 6)) [] (.q [17, 18] [] (.a 19 (.sto 0) [] (.drw (.q [0, 1, 2, 3, 4, 5] [.C 0 3, .C 8 4, .C 8 5] (.a 6 (.call K98 [.K 1, .K 2, .K 3, .K 4, .K 5] [1, 2, 3, 4, 5]) [] (.s (.seg 1 [.C 8 0, .C 8 1, .C 8 2, .C 8 3, .C 8 4, .C 8 5]) (.s (.sto 7) (.rk [(7, 2000), (10, 6), (2000, 92000), (6, 90006)] .ret)))))))))))))))))))))))) Tryz.func66 rfl rfl (by kernel_rfl) (fun _ => rfl) (fun i => by kernel_rfl) (fun i s => by kernel_rfl)

noncomputable def K66 : SCon El Tryz.prog := ⟨C66, S66, Tryz.call66⟩

noncomputable abbrev C97p : List (PK El) := [pO thicketref22_Dispatcher.D, pI .i64]
noncomputable def C97 (k : Nat) : Con El := mkCon 97 C97p (fun i_ => thicketref22_Dispatcher_Count k i_.1.2.2 i_.2.1) 0 0 (fun i_ t ns_ as_ => .int .i64 t) (fun i_ t ns_ as_ => thicketref22_Dispatcher.D.flat i_.1.1 i_.1.2.1 i_.1.2.2)

noncomputable abbrev C97r (k : Nat) (i : Ins C97p) : Kn El → VC (C97 k).T := retC Tryz.prog (C97 k) (rsOf Tryz.prog 97) [] [0, 1, 2, 3, 4, 5, 6] (gj (gI 4) []) i

noncomputable def C97l0 (i_ : Ins C97p) : BCon El (Int) := ⟨nav [1, 1, 0, 1] (bodyOf Tryz.prog 97), Unit, Int × Int, Int, Int, fun u => .inr u, fun _ _ => none, fun x_ => [], fun x_ v_ ns_ as_ => [(0, .pointer (some ⟨i_.1.1, 0, none⟩)), (1, .int .i64 i_.2.1), (5, .int .i64 v_.1), (6, .int .i64 v_.2)], fun x_ v_ ns_ as_ => zipL [0, 1, 2, 3, 4, 5, 6] (thicketref22_Dispatcher.D.flat i_.1.1 i_.1.2.1 i_.1.2.2), 0, 0, fun x_ u_ ns_ as_ => [(5, .int .i64 u_)], fun x_ u_ ns_ as_ => zipL [0, 1, 2, 3, 4, 5, 6] (thicketref22_Dispatcher.D.flat i_.1.1 i_.1.2.1 i_.1.2.2)⟩

noncomputable def C97l0g (k : Nat) (i_ : Ins C97p) : Nat → (C97l0 i_).X → (C97l0 i_).V → Option (C97l0 i_).W := fun m_ (x_ : Unit) (v_ : Int × Int) => thicketref22_Dispatcher_Count_l0 i_.2.1 i_.1.2.2 m_ v_.1 v_.2

theorem C97l0s (k : Nat) (i : Ins C97p) (m : Nat) : ((C97l0 i).at (C97l0g k i) m).Sound Tryz.prog 97 29 (C97r k i) :=
  loop_sound mixed (C97l0 i) (id := 0) (body := nav [1, 1, 0, 1, 0, 0] (bodyOf Tryz.prog 97)) (C97l0g k i) (fun _ => none) (fun u => u) (gj (g2 (gI 5) (gI 6)) []) (gj (gI 5) []) (fun m => (.s (.seg 7 [.C 0 4]) (.cond (.join (Int) 0 0 (gj (gI 5) []) (fun st_ s_ ns_ as_ => ([(5, .int .i64 s_)] ++ kp [0, 1, 6] st_, ka [0, 1, 2, 3, 4, 5, 6] st_)) (.blk (.s (.seg 5 [.C 0 4]) (.s (.idx false 6 (.tmp 20) 5) (.s (.seg 5 [.A 5, .X 5 6 0]) (.cond (.s (.seg 3 []) .leaf) .leaf))))) (.s (.seg 3 []) .back)) .leaf))) (by kernel_rfl) (fun _ _ => rfl) (fun r y h => by cases h) (fun u => rfl) (fun m x v n1 n2 => by kernel_rfl) (fun m x v n1 n2 s => by kernel_rfl) m

theorem S97 (k : Nat) : (C97 k).Sound Tryz.prog :=
  fn_sound mixed (C97 k) (n := 29) (rs := rsOf Tryz.prog 97) [] [0, 1, 2, 3, 4, 5, 6] (gj (gI 4) []) (fun i => (.s (.seg 1 []) (.s (.seg 1 []) (.s (.seg 1 []) (.loop ⟨(C97l0 i).at (C97l0g k i) k, C97l0s k i k⟩ (gl gU (g2 (gI 5) (gI 6)) []) (.s (.seg 2 []) .ret)))))) Tryz.func97 rfl rfl (by kernel_rfl) (fun _ => rfl) (fun i => by kernel_rfl) (fun i s => by kernel_rfl)

noncomputable def K97 (k : Nat) : SCon El Tryz.prog := ⟨C97 k, S97 k, Tryz.call97⟩

noncomputable abbrev C63p : List (PK El) := [pO thicketref22_Dispatcher.D, pV api_Command.dv api_Command.val]
noncomputable def C63 (k : Nat) : Con El := mkCon 63 C63p (fun i_ => thicketref22_Dispatcher_queue k i_.1.2.2 i_.2.1) 5 5 (fun i_ t ns_ as_ => .agg #[.int .i64 t.1.Why, .int .i64 t.1.Job.At, .int .i64 t.1.Job.Gen, .int .i64 t.1.Time, .int .i64 t.1.Data, .int .i64 t.1.N]) (fun i_ t ns_ as_ => thicketref22_Dispatcher.D.flat i_.1.1 (thicketref22_Dispatcher.A.mk i_.1.2.1.Pool_p (thicketref2_Pool.A.mk (na as_ 0) (nn ns_ 0) (na as_ 1) (nn ns_ 1) (na as_ 2) (nn ns_ 2) (na as_ 3) (nn ns_ 3)) (na as_ 4) (nn ns_ 4)) t.2)

noncomputable abbrev C63r (k : Nat) (i : Ins C63p) : Kn El → VC (C63 k).T := retC Tryz.prog (C63 k) (rsOf Tryz.prog 63) [.C 2000 0, .C 2000 1, .C 2000 2, .C 2000 3, .C 2000 4, .C 2000 5] [0, 1, 2, 3, 4, 5, 6] (gj (g2 (gC 2000 0 6 api_Reply.dec) (gO thicketref22_Dispatcher.D [0, 1, 2, 3, 4, 5, 6])) [nA thicketref22_Dispatcher.D [0, 1, 2, 3, 4, 5, 6] (fun al => ([al.Pool_a.Gens_c, al.Pool_a.In_c, al.Pool_a.V_c, al.Pool_a.Back_c, al.L_c], [al.Pool_a.Gens_b, al.Pool_a.In_b, al.Pool_a.V_b, al.Pool_a.Back_b, al.L_b]))]) i

noncomputable def C63l0 (i_ : Ins C63p) : BCon El (api_Reply × thicketref22_Dispatcher) := ⟨nav [1, 0, 1, 0, 1, 1, 1, 1, 1, 0, 1, 1, 0, 1] (bodyOf Tryz.prog 63), Nat, Int × Int × thicketref22_Dispatcher, Int × thicketref22_Dispatcher, Int × thicketref22_Dispatcher, fun u => .inr u, fun _ _ => none, fun x_ => [], fun x_ v_ ns_ as_ => [(0, .pointer (some ⟨i_.1.1, 0, none⟩)), (4, .pointer (some ⟨x_, 0, none⟩)), (9, .int .i64 v_.1), (10, .int .i64 v_.2.1)], fun x_ v_ ns_ as_ => zipL [8] [.blk (x_) 35 [.int .i64 0, .int .i64 0, .int .i64 0, .int .i64 0, .int .i64 0, .int .i64 0]] ++ zipL [0, 1, 2, 3, 4, 5, 6] (thicketref22_Dispatcher.D.flat i_.1.1 i_.1.2.1 v_.2.2), 0, 0, fun x_ u_ ns_ as_ => [(4, .pointer (some ⟨x_, 0, none⟩)), (9, .int .i64 u_.1)], fun x_ u_ ns_ as_ => zipL [8] [.blk (x_) 35 [.int .i64 0, .int .i64 0, .int .i64 0, .int .i64 0, .int .i64 0, .int .i64 0]] ++ zipL [0, 1, 2, 3, 4, 5, 6] (thicketref22_Dispatcher.D.flat i_.1.1 i_.1.2.1 u_.2)⟩

noncomputable def C63l0g (k : Nat) (i_ : Ins C63p) : Nat → (C63l0 i_).X → (C63l0 i_).V → Option (C63l0 i_).W := fun m_ (x_ : Nat) (v_ : Int × Int × thicketref22_Dispatcher) => thicketref22_Dispatcher_queue_l0 m_ v_.1 v_.2.1 v_.2.2

theorem C63l0s (k : Nat) (i : Ins C63p) (m : Nat) : ((C63l0 i).at (C63l0g k i) m).Sound Tryz.prog 63 139 (C63r k i) :=
  loop_sound mixed (C63l0 i) (id := 1) (body := nav [1, 0, 1, 0, 1, 1, 1, 1, 1, 0, 1, 1, 0, 1, 0, 0] (bodyOf Tryz.prog 63)) (C63l0g k i) (fun _ => none) (fun u => u) (gj (g2 (gI 9) (g2 (gI 10) (gO thicketref22_Dispatcher.D [0, 1, 2, 3, 4, 5, 6]))) []) (gj (g2 (gI 9) (gO thicketref22_Dispatcher.D [0, 1, 2, 3, 4, 5, 6])) []) (fun m => (.s (.seg 7 [.C 0 4]) (.cond (.join (Int × thicketref22_Dispatcher) 0 0 (gj (g2 (gI 9) (gO thicketref22_Dispatcher.D [0, 1, 2, 3, 4, 5, 6])) []) (fun st_ s_ ns_ as_ => match (g2 (gP 0) (gA thicketref22_Dispatcher.D [0, 1, 2, 3, 4, 5, 6])) st_ with | some x_ => ([(9, .int .i64 s_.1)] ++ kp [0, 4, 10] st_, ka [8] st_ ++ zipL [0, 1, 2, 3, 4, 5, 6] (thicketref22_Dispatcher.D.flat (x_.1) (x_.2) s_.2)) | none => ([], [])) (.blk (.s (.seg 5 [.C 0 4]) (.s (.idx false 6 (.tmp 118) 13) (.s (.seg 4 [.A 13, .X 13 6 0]) (.cond (.s (.seg 5 [.C 0 4]) (.s (.idx false 6 (.tmp 127) 14) (.s (.seg 2 [.A 14]) (.s (.sset 6 14 0) (.s (.rlc 14 0 4) (.s (.seg 3 []) .leaf)))))) .leaf))))) (.s (.seg 3 []) .back)) .leaf))) (by kernel_rfl) (fun _ _ => rfl) (fun r y h => by cases h) (fun u => rfl) (fun m x v n1 n2 => by kernel_rfl) (fun m x v n1 n2 s => by kernel_rfl) m

theorem S63 (k : Nat) : (C63 k).Sound Tryz.prog :=
  fn_sound mixed (C63 k) (n := 139) (rs := rsOf Tryz.prog 63) [.C 2000 0, .C 2000 1, .C 2000 2, .C 2000 3, .C 2000 4, .C 2000 5] [0, 1, 2, 3, 4, 5, 6] (gj (g2 (gC 2000 0 6 api_Reply.dec) (gO thicketref22_Dispatcher.D [0, 1, 2, 3, 4, 5, 6])) [nA thicketref22_Dispatcher.D [0, 1, 2, 3, 4, 5, 6] (fun al => ([al.Pool_a.Gens_c, al.Pool_a.In_c, al.Pool_a.V_c, al.Pool_a.Back_c, al.L_c], [al.Pool_a.Gens_b, al.Pool_a.In_b, al.Pool_a.V_b, al.Pool_a.Back_b, al.L_b]))]) (fun i => (.s (.new 7 []) (.s (.new 8 []) (.s (.seg 2 [.C 7 0]) (.blk (.s (.seg 2 []) (.cond (.s (.seg 4 [.C 0 3]) (.s (.call K95 [.K 1, .K 2, .K 3, .K 4, .K 5] [1, 2, 3, 4, 5]) (.s (.seg 3 []) (.s (.new 9 []) (.s (.sto 9) (.s (.seg 1 []) (.s (.seg 2 []) (.cond (.s (.seg 1 []) (.s (.sto 8) (.rk [(8, 2000), (2000, 92000)] .ret))) (.jg (thicketref22_Dispatcher) 1 1 (gj (gO thicketref22_Dispatcher.D [0, 1, 2, 3, 4, 5, 6]) [nA thicketref22_Dispatcher.D [0, 1, 2, 3, 4, 5, 6] (fun al => ([al.L_c], [al.L_b]))]) (fun st_ s_ ns_ as_ => match (g2 (gP 0) (gA thicketref22_Dispatcher.D [0, 1, 2, 3, 4, 5, 6])) st_ with | some x_ => ([] ++ kp [0, 3, 4, 5] st_, ka [9, 8, 7] st_ ++ zipL [0, 1, 2, 3, 4, 5, 6] (thicketref22_Dispatcher.D.flat (x_.1) (thicketref22_Dispatcher.A.mk (x_.2.Pool_p) (x_.2.Pool_a) (na as_ 0) (nn ns_ 0)) s_)) | none => ([], [])) (.drw (.q [0, 2, 3, 4, 5, 7, 8, 9, 10, 11, 12, 13, 14, 15, 16, 17, 18, 19] [.C 0 4, .C 7 1, .C 7 5, .C 7 4, .C 0 2, .C 9 0, .C 9 1] (.alt2 1 (.bld 12 11 139) [.C 9 0, .C 9 1, .C 0 2, .C 7 4, .C 7 5, .C 7 1, .C 0 4] (.alt2 6 (.app 12 (.O 6)) [.C 9 0, .C 9 1, .C 0 2, .C 7 4, .C 7 5, .C 7 1] (.a 20 (.bld 13 11 139) [] (.a 21 (.app 12 (.O 13)) [] (.q [22, 23] [] (.a 24 (.sto 0) [] (.rk [(12, 6), (6, 90006)] .leaf))))) 20 (.bld 14 11 139) [.C 0 4] (.a 6 (.app 12 (.O 6)) [] (.a 21 (.app 12 (.O 14)) [] (.q [22, 23] [] (.a 24 (.sto 0) [] (.rk [(12, 6), (6, 90006)] .leaf)))))) 20 (.bld 15 11 139) [.C 0 4] (.a 1 (.bld 16 11 139) [.C 0 4] (.a 6 (.app 16 (.O 6)) [] (.a 21 (.app 16 (.O 15)) [] (.q [22, 23] [] (.a 24 (.sto 0) [] (.rk [(16, 6), (6, 90006)] .leaf))))))))) (.s (.seg 7 [.C 0 2]) (.s (.sto 0) (.s (.seg 6 [.C 9 0, .C 9 1, .C 7 4, .C 7 5]) (.s (.sto 8) (.rk [(8, 2000), (2000, 92000)] .ret)))))))))))))) (.s (.seg 2 []) (.cond (.s (.seg 3 [.C 7 1]) (.s (.call (K96 k) [.K 0, .K 1, .K 2, .K 3, .K 4, .K 5, .K 6] [0, 1, 2, 3, 4, 5, 6]) (.s (.seg 1 []) (.join (Bool) 0 0 (gj (gB 86) []) (fun st_ s_ ns_ as_ => ([(86, .bool s_)] ++ kp [0, 4, 7] st_, ka [0, 1, 2, 3, 4, 5, 6, 8] st_)) (.drw (.q [0, 1, 2] [] (.split 71 (.q [3, 4, 5, 6, 7, 8, 9, 10, 11, 12, 13, 14, 15, 16, 17] [] .leaf) (.q [3, 4, 5, 6, 7] [.C 0 4] (.s (.idx false 6 (.tmp 76) 2) (.q [8, 9, 10, 11, 12, 13, 14, 15, 16, 17] [.A 2, .X 2 6 2, .C 0 1] .leaf)))))) (.cond (.s (.seg 1 []) (.s (.sto 8) (.rk [(8, 2000), (2000, 92000)] .ret))) (.s (.seg 2 []) (.s (.call K66 [.K 0, .K 1, .K 2, .K 3, .K 4, .K 5, .K 6] [0, 1, 2, 3, 4, 5, 6]) (.s (.new 17 []) (.s (.sto 17) (.s (.seg 8 [.C 17 4, .C 17 5, .C 17 2, .C 17 1]) (.s (.sto 8) (.rk [(8, 2000), (2000, 92000)] .ret)))))))))))) (.s (.seg 2 []) (.cond (.s (.seg 3 [.C 7 1]) (.cond (.s (.seg 1 []) (.s (.sto 8) (.rk [(8, 2000), (2000, 92000)] .ret))) (.s (.seg 1 []) (.s (.seg 1 []) (.loop ⟨(C63l0 i).at (C63l0g k i) k, C63l0s k i k⟩ (gl (gP 8) (g2 (gI 9) (g2 (gI 10) (gO thicketref22_Dispatcher.D [0, 1, 2, 3, 4, 5, 6]))) []) (.s (.seg 2 []) (.s (.sto 8) (.rk [(8, 2000), (2000, 92000)] .ret)))))))) (.s (.seg 3 [.C 7 1]) (.s (.call (K97 k) [.K 0, .K 1, .K 2, .K 3, .K 4, .K 5, .K 6] [0, 1, 2, 3, 4, 5, 6]) (.s (.seg 1 []) (.s (.sto 8) (.rk [(8, 2000), (2000, 92000)] .ret)))))))))))))))) Tryz.func63 rfl rfl (by kernel_rfl) (fun _ => rfl) (fun i => by kernel_rfl) (fun i s => by kernel_rfl)

noncomputable def K63 (k : Nat) : SCon El Tryz.prog := ⟨C63 k, S63 k, Tryz.call63⟩

noncomputable abbrev C65p : List (PK El) := [pO thicketref22_Dispatcher.D, pV api_Ref.dv api_Ref.val]
noncomputable def C65 (k : Nat) : Con El := mkCon 65 C65p (fun i_ => thicketref22_Dispatcher_at k i_.1.2.2 i_.2.1) 0 0 (fun i_ t ns_ as_ => .int .i64 t.1) (fun i_ t ns_ as_ => thicketref22_Dispatcher.D.flat i_.1.1 i_.1.2.1 t.2)

noncomputable abbrev C65r (k : Nat) (i : Ins C65p) : Kn El → VC (C65 k).T := retC Tryz.prog (C65 k) (rsOf Tryz.prog 65) [] [0, 1, 2, 3, 4, 5, 6] (gj (g2 (gI 4) (gO thicketref22_Dispatcher.D [0, 1, 2, 3, 4, 5, 6])) []) i

noncomputable def C65l0 (i_ : Ins C65p) : BCon El (Int × thicketref22_Dispatcher) := ⟨nav [1, 0, 1] (bodyOf Tryz.prog 65), Nat, Int, Unit, (Int × thicketref22_Dispatcher) ⊕ (Unit), fun r => r, fun _ _ => none, fun x_ => [], fun x_ v_ ns_ as_ => [(0, .pointer (some ⟨i_.1.1, 0, none⟩)), (3, .pointer (some ⟨x_, 0, none⟩)), (5, .int .i64 v_)], fun x_ v_ ns_ as_ => zipL [7] [.blk (x_) 31 [.int .i64 i_.2.1.At, .int .i64 i_.2.1.Gen]] ++ zipL [0, 1, 2, 3, 4, 5, 6] (thicketref22_Dispatcher.D.flat i_.1.1 i_.1.2.1 i_.1.2.2), 0, 0, fun x_ u_ ns_ as_ => [], fun x_ u_ ns_ as_ => zipL [0, 1, 2, 3, 4, 5, 6] (thicketref22_Dispatcher.D.flat i_.1.1 i_.1.2.1 i_.1.2.2)⟩

noncomputable def C65l0g (k : Nat) (i_ : Ins C65p) : Nat → (C65l0 i_).X → (C65l0 i_).V → Option (C65l0 i_).W := fun m_ (x_ : Nat) (v_ : Int) => thicketref22_Dispatcher_at_l0 i_.2.1.At i_.2.1.Gen i_.1.2.2 m_ v_

theorem C65l0s (k : Nat) (i : Ins C65p) (m : Nat) : ((C65l0 i).at (C65l0g k i) m).Sound Tryz.prog 65 26 (C65r k i) :=
  loop_sound mixed (C65l0 i) (id := 0) (body := nav [1, 0, 1, 0, 0] (bodyOf Tryz.prog 65)) (C65l0g k i) (fun r => some (.inl r)) (fun u => .inr u) (gj (gI 5) []) (gj gU []) (fun m => (.s (.seg 7 [.C 0 4]) (.cond (.blk (.drw (.q [0, 1, 2, 3, 4] [.C 0 4] (.s (.idx false 6 (.tmp 19) 5) (.q [5, 6, 7, 8] [.A 5, .X 5 6 4, .X 5 6 5, .C 7 0, .C 7 1] (.a 9 (.eqs api_Ref.eqD) [] (.cond (.s (.seg 2 []) .ret) (.s (.seg 3 []) .back)))))))) .leaf))) (by kernel_rfl) (fun _ _ => rfl) (fun r y h => by cases h; rfl) (fun u => rfl) (fun m x v n1 n2 => by kernel_rfl) (fun m x v n1 n2 s => by kernel_rfl) m

theorem S65 (k : Nat) : (C65 k).Sound Tryz.prog :=
  fn_sound mixed (C65 k) (n := 26) (rs := rsOf Tryz.prog 65) [] [0, 1, 2, 3, 4, 5, 6] (gj (g2 (gI 4) (gO thicketref22_Dispatcher.D [0, 1, 2, 3, 4, 5, 6])) []) (fun i => (.s (.new 7 []) (.s (.seg 1 []) (.s (.seg 1 []) (.loop ⟨(C65l0 i).at (C65l0g k i) k, C65l0s k i k⟩ (gl (gP 7) (gI 5) []) (.s (.seg 1 []) .ret)))))) Tryz.func65 rfl rfl (by kernel_rfl) (fun _ => rfl) (fun i => by kernel_rfl) (fun i s => by kernel_rfl)

noncomputable def K65 (k : Nat) : SCon El Tryz.prog := ⟨C65 k, S65 k, Tryz.call65⟩

noncomputable abbrev C67p : List (PK El) := [pI .i64, pI .i64]
noncomputable def C67 : Con El := mkCon 67 C67p (fun i_ => thicketref1_Add i_.1 i_.2.1) 0 0 (fun i_ t ns_ as_ => .int .i64 t) (fun i_ t ns_ as_ => [])

theorem S67 : (C67).Sound Tryz.prog :=
  fn_sound mixed (C67) (n := 24) (rs := rsOf Tryz.prog 67) [] [] (gj (gI 4) []) (fun i => (.s (.seg 1 []) (.s (.seg 3 []) (.pj 7 (Bool) mB (gB 12) (fun st s_ => ([(12, .bool s_)] ++ kp [0, 1] st, ka [] st)) (.s (.seg 5 []) .leaf) (.s (.seg 5 []) .leaf) (.cond (.s (.seg 1 []) .ret) (.s (.seg 3 []) (.pj 15 (Bool) mB (gB 20) (fun st s_ => ([(20, .bool s_)] ++ kp [0, 1] st, ka [] st)) (.s (.seg 5 []) .leaf) (.s (.seg 5 []) .leaf) (.cond (.s (.seg 1 []) .ret) (.s (.seg 4 []) .ret))))))))) Tryz.func67 rfl rfl (by kernel_rfl) (fun _ => rfl) (fun i => by kernel_rfl) (fun i s => by kernel_rfl)

noncomputable def K67 : SCon El Tryz.prog := ⟨C67, S67, Tryz.call67⟩

noncomputable abbrev C37p : List (PK El) := [pO thicketref22_Dispatcher.D, pV api_Command.dv api_Command.val]
noncomputable def C37 (k : Nat) : Con El := mkCon 37 C37p (fun i_ => thicketref22_Dispatcher_Do k i_.1.2.2 i_.2.1) 5 5 (fun i_ t ns_ as_ => .agg #[.int .i64 t.1.Why, .int .i64 t.1.Job.At, .int .i64 t.1.Job.Gen, .int .i64 t.1.Time, .int .i64 t.1.Data, .int .i64 t.1.N]) (fun i_ t ns_ as_ => thicketref22_Dispatcher.D.flat i_.1.1 (thicketref22_Dispatcher.A.mk i_.1.2.1.Pool_p (thicketref2_Pool.A.mk (na as_ 0) (nn ns_ 0) (na as_ 1) (nn ns_ 1) (na as_ 2) (nn ns_ 2) (na as_ 3) (nn ns_ 3)) (na as_ 4) (nn ns_ 4)) t.2)

theorem S37 (k : Nat) : (C37 k).Sound Tryz.prog :=
  fn_sound mixed (C37 k) (n := 113) (rs := rsOf Tryz.prog 37) [.C 2000 0, .C 2000 1, .C 2000 2, .C 2000 3, .C 2000 4, .C 2000 5] [0, 1, 2, 3, 4, 5, 6] (gj (g2 (gC 2000 0 6 api_Reply.dec) (gO thicketref22_Dispatcher.D [0, 1, 2, 3, 4, 5, 6])) [nA thicketref22_Dispatcher.D [0, 1, 2, 3, 4, 5, 6] (fun al => ([al.Pool_a.Gens_c, al.Pool_a.In_c, al.Pool_a.V_c, al.Pool_a.Back_c, al.L_c], [al.Pool_a.Gens_b, al.Pool_a.In_b, al.Pool_a.V_b, al.Pool_a.Back_b, al.L_b]))]) (fun i => (.s (.new 7 []) (.s (.new 8 []) (.s (.seg 2 [.C 7 0]) (.joinR (Unit) 0 0 (gj gU []) (fun st_ s_ ns_ as_ => ([] ++ kp [4] st_, ka [8, 0, 1, 2, 3, 4, 5, 6] st_)) (.blk (.s (.seg 2 []) (.join (Bool) 0 0 (gj (gB 10) []) (fun st_ s_ ns_ as_ => ([(10, .bool s_)] ++ kp [0, 3, 4, 9] st_, ka [8, 7, 0, 1, 2, 3, 4, 5, 6] st_)) (.cond .leaf (.s (.seg 2 []) (.cond .leaf (.s (.seg 2 []) (.cond .leaf (.s (.seg 2 []) .leaf)))))) (.cond (.s (.seg 4 [.C 7 1]) (.pj 18 (Bool) mB (gB 22) (fun st s_ => ([(22, .bool s_)] ++ kp [0, 3, 4] st, ka [8, 7, 0, 1, 2, 3, 4, 5, 6] st)) (.s (.seg 4 [.C 7 1]) .leaf) (.s (.seg 4 []) .leaf) (.cond (.s (.seg 1 []) (.s (.sto 8) (.rk [(8, 2000), (2000, 92000)] .ret))) (.s (.seg 2 [.C 7 0, .C 7 1, .C 7 2, .C 7 3, .C 7 4, .C 7 5]) (.s (.call (K63 k) [.K 0, .K 1, .K 2, .K 3, .K 4, .K 5, .K 6] [0, 1, 2, 3, 4, 5, 6]) (.s (.sto 8) (.rk [(8, 2000), (2000, 92000)] .ret))))))) (.s (.seg 2 []) (.join (Bool) 0 0 (gj (gB 27) []) (fun st_ s_ ns_ as_ => ([(27, .bool s_)] ++ kp [0, 3, 4, 9] st_, ka [8, 7, 0, 1, 2, 3, 4, 5, 6] st_)) (.cond .leaf (.s (.seg 2 []) .leaf)) (.cond (.drw (.q [0, 1, 2, 3, 4, 5] [.C 0 3, .C 7 2, .C 7 3] (.a 6 (.call K64 [.K 1, .K 2, .K 3, .K 4, .K 5] [1, 2, 3, 4, 5]) [] (.q [7] [] (.s (.seg 2 []) (.cond (.s (.seg 2 []) (.s (.sto 8) (.rk [(8, 2000), (2000, 92000)] .ret))) (.s (.seg 3 [.C 7 2, .C 7 3]) (.s (.call (K65 k) [.K 0, .K 1, .K 2, .K 3, .K 4, .K 5, .K 6] [0, 1, 2, 3, 4, 5, 6]) (.s (.seg 1 []) (.s (.seg 3 [.C 7 0]) (.cond (.s (.seg 2 []) (.s (.call K66 [.K 0, .K 1, .K 2, .K 3, .K 4, .K 5, .K 6] [0, 1, 2, 3, 4, 5, 6]) (.s (.new 10 []) (.s (.sto 10) (.s (.seg 6 [.C 10 2, .C 10 1]) (.s (.sto 8) (.rk [(8, 2000), (2000, 92000)] .ret))))))) (.drw (.q [0, 1, 2, 3, 4, 5, 6] [.C 7 4, .C 0 4] (.s (.idx false 6 (.tmp 63) 7) (.q [7, 8, 9, 10, 11] [.A 7, .X 7 6 2] (.cond (.s (.seg 1 []) (.s (.sto 8) (.rk [(8, 2000), (2000, 92000)] .ret))) (.drw (.q [0, 1, 2, 3, 4, 5, 6] [.C 0 4, .C 7 4] (.s (.idx false 6 (.tmp 74) 9) (.q [7, 8, 9] [.A 9] (.a 10 (.sset 6 9 2) [] (.s (.rlc 9 0 4) (.drw (.q [0, 1, 2, 3, 4, 5, 6] [.C 7 4, .C 0 4] (.s (.idx false 6 (.tmp 86) 11) (.q [7, 8, 9, 10] [.A 11, .X 11 6 1] (.a 11 (.sto 8) [] (.rk [(8, 2000), (2000, 92000)] .ret)))))))))))))))))))))))))))) (.s (.seg 2 []) (.cond (.s (.seg 3 [.C 7 4]) (.cond (.s (.seg 1 []) (.s (.sto 8) (.rk [(8, 2000), (2000, 92000)] .ret))) (.drw (.q [0, 1, 2, 3, 4, 5, 6] [.C 0 1, .C 7 4] (.a 7 (.call K67 [] []) [] (.q [8, 9] [] (.a 10 (.sto 0) [] (.s (.seg 5 [.C 0 1]) (.s (.sto 8) (.rk [(8, 2000), (2000, 92000)] .ret)))))))))) .leaf))))))))) (.s (.seg 1 []) (.s (.sto 8) (.rk [(8, 2000), (2000, 92000)] .ret)))))))) Tryz.func37 rfl rfl (by kernel_rfl) (fun _ => rfl) (fun i => by kernel_rfl) (fun i s => by kernel_rfl)

noncomputable def K37 (k : Nat) : SCon El Tryz.prog := ⟨C37 k, S37 k, Tryz.call37⟩

noncomputable abbrev C27p : List (PK El) := [pI .i64, pR 7]
noncomputable def C27 (k : Nat) : Con El := mkCon 27 C27p (fun i_ => thicketlaw25_right k i_.1 i_.2.1.2.2) 0 0 (fun i_ t ns_ as_ => .bool t) (fun i_ t ns_ as_ => [])

noncomputable abbrev C27r (k : Nat) (i : Ins C27p) : Kn El → VC (C27 k).T := retC Tryz.prog (C27 k) (rsOf Tryz.prog 27) [] [] (gj (gB 4) []) i

noncomputable def C27l0 (i_ : Ins C27p) : BCon El (Bool) := ⟨nav [1, 1, 0, 1] (bodyOf Tryz.prog 27), Nat × thicketref22_Dispatcher.A, Int × thicketref22_Dispatcher, thicketref22_Dispatcher, (Bool) ⊕ (thicketref22_Dispatcher), fun r => r, fun _ _ => none, fun x_ => [(0, ⟨7, i_.2.1.1, i_.2.1.2.1, i_.2.1.2.2⟩)], fun x_ v_ ns_ as_ => [(1, .slice i_.2.1.1 i_.2.1.2.2.length i_.2.1.2.1), (5, .pointer (some ⟨x_.1, 0, none⟩)), (6, .int .i64 v_.1)], fun x_ v_ ns_ as_ => zipL [0, 1, 2, 3, 4, 5, 6] (thicketref22_Dispatcher.D.flat (x_.1) (thicketref22_Dispatcher.A.mk (x_.2.Pool_p) (thicketref2_Pool.A.mk (na as_ 0) (nn ns_ 0) (na as_ 1) (nn ns_ 1) (na as_ 2) (nn ns_ 2) (na as_ 3) (nn ns_ 3)) (na as_ 4) (nn ns_ 4)) v_.2), 5, 5, fun x_ u_ ns_ as_ => [], fun x_ u_ ns_ as_ => zipL [0, 1, 2, 3, 4, 5, 6] (thicketref22_Dispatcher.D.flat (x_.1) (thicketref22_Dispatcher.A.mk (x_.2.Pool_p) (thicketref2_Pool.A.mk (na as_ 0) (nn ns_ 0) (na as_ 1) (nn ns_ 1) (na as_ 2) (nn ns_ 2) (na as_ 3) (nn ns_ 3)) (na as_ 4) (nn ns_ 4)) u_)⟩

noncomputable def C27l0g (k : Nat) (i_ : Ins C27p) : Nat → (C27l0 i_).X → (C27l0 i_).V → Option (C27l0 i_).W := fun m_ (x_ : Nat × thicketref22_Dispatcher.A) (v_ : Int × thicketref22_Dispatcher) => thicketlaw25_right_l0 i_.2.1.2.2 m_ v_.1 v_.2

theorem C27l0s (k : Nat) (i : Ins C27p) (m : Nat) : ((C27l0 i).at (C27l0g k i) m).Sound Tryz.prog 27 48 (C27r k i) :=
  loop_sound mixed (C27l0 i) (id := 0) (body := nav [1, 1, 0, 1, 0, 0] (bodyOf Tryz.prog 27)) (C27l0g k i) (fun r => some (.inl r)) (fun u => .inr u) (gj (g2 (gI 6) (gO thicketref22_Dispatcher.D [0, 1, 2, 3, 4, 5, 6])) [nA thicketref22_Dispatcher.D [0, 1, 2, 3, 4, 5, 6] (fun al => ([al.Pool_a.Gens_c, al.Pool_a.In_c, al.Pool_a.V_c, al.Pool_a.Back_c, al.L_c], [al.Pool_a.Gens_b, al.Pool_a.In_b, al.Pool_a.V_b, al.Pool_a.Back_b, al.L_b]))]) (gj (gO thicketref22_Dispatcher.D [0, 1, 2, 3, 4, 5, 6]) [nA thicketref22_Dispatcher.D [0, 1, 2, 3, 4, 5, 6] (fun al => ([al.Pool_a.Gens_c, al.Pool_a.In_c, al.Pool_a.V_c, al.Pool_a.Back_c, al.L_c], [al.Pool_a.Gens_b, al.Pool_a.In_b, al.Pool_a.V_b, al.Pool_a.Back_b, al.L_b]))]) (fun m => (.s (.seg 4 []) (.cond (.blk (.join (Bool × thicketref22_Dispatcher) 5 5 (gj (g2 (gB 47) (gO thicketref22_Dispatcher.D [0, 1, 2, 3, 4, 5, 6])) [nA thicketref22_Dispatcher.D [0, 1, 2, 3, 4, 5, 6] (fun al => ([al.Pool_a.Gens_c, al.Pool_a.In_c, al.Pool_a.V_c, al.Pool_a.Back_c, al.L_c], [al.Pool_a.Gens_b, al.Pool_a.In_b, al.Pool_a.V_b, al.Pool_a.Back_b, al.L_b]))]) (fun st_ s_ ns_ as_ => match (g2 (gP 0) (gA thicketref22_Dispatcher.D [0, 1, 2, 3, 4, 5, 6])) st_ with | some x_ => ([(47, .bool s_.1)] ++ kp [1, 5, 6] st_, ka [] st_ ++ zipL [0, 1, 2, 3, 4, 5, 6] (thicketref22_Dispatcher.D.flat (x_.1) (thicketref22_Dispatcher.A.mk (x_.2.Pool_p) (thicketref2_Pool.A.mk (na as_ 0) (nn ns_ 0) (na as_ 1) (nn ns_ 1) (na as_ 2) (nn ns_ 2) (na as_ 3) (nn ns_ 3)) (na as_ 4) (nn ns_ 4)) s_.2)) | none => ([], [])) (.drw (.q [0, 1, 2] [] (.s (.idx true 0 (.tmp 17) 23) (.q [3, 4, 5, 7, 8] [.A 23, .R 23 0, .R 23 1, .R 23 2, .R 23 3, .R 23 4, .R 23 5] (.s (.idx true 0 (.tmp 23) 24) (.q [9, 10, 11] [.A 24, .R 24 6, .R 24 7, .R 24 8, .R 24 9, .R 24 10, .R 24 11] (.a 6 (.call (K37 m) [.K 0, .K 1, .K 2, .K 3, .K 4, .K 5, .K 6] [0, 1, 2, 3, 4, 5, 6]) [.R 24 6, .R 24 7, .R 24 8, .R 24 9, .R 24 10, .R 24 11, .A 24] (.a 12 (.eqs api_Reply.eqD) [] (.q [13] [] (.split 28 (.q [14, 15, 16, 17, 18, 19, 20, 21, 22, 23, 24, 25, 26, 27, 28, 29, 30, 31, 32] [] .leaf) (.q [14, 15, 16, 17, 18, 19] [.C 0 1] (.s (.idx true 0 (.tmp 34) 25) (.q [20, 21, 22, 23, 24, 25] [.A 25, .R 25 12] (.split 40 (.q [26, 27, 28, 29, 30, 31, 32] [] .leaf) (.q [26, 27] [] (.s (.idx true 0 (.tmp 42) 26) (.q [28, 29, 30, 31, 32] [.A 26, .R 26 13] .leaf))))))))))))))))) (.cond (.s (.seg 1 []) .ret) (.s (.seg 3 []) .back)))) .leaf))) (by kernel_rfl) (fun _ _ => rfl) (fun r y h => by cases h; rfl) (fun u => rfl) (fun m x v n1 n2 => by kernel_rfl) (fun m x v n1 n2 s => by kernel_rfl) m

theorem S27 (k : Nat) : (C27 k).Sound Tryz.prog :=
  fn_sound mixed (C27 k) (n := 48) (rs := rsOf Tryz.prog 27) [] [] (gj (gB 4) []) (fun i => (.s (.seg 1 []) (.s (.seg 1 []) (.s (.call K35 [] [0, 1, 2, 3, 4, 5, 6]) (.s (.seg 1 []) (.s (.seg 1 []) (.loop ⟨(C27l0 i).at (C27l0g k i) k, C27l0s k i k⟩ (gl (g2 (gP 0) (gA thicketref22_Dispatcher.D [0, 1, 2, 3, 4, 5, 6])) (g2 (gI 6) (gO thicketref22_Dispatcher.D [0, 1, 2, 3, 4, 5, 6])) [nA thicketref22_Dispatcher.D [0, 1, 2, 3, 4, 5, 6] (fun al => ([al.Pool_a.Gens_c, al.Pool_a.In_c, al.Pool_a.V_c, al.Pool_a.Back_c, al.L_c], [al.Pool_a.Gens_b, al.Pool_a.In_b, al.Pool_a.V_b, al.Pool_a.Back_b, al.L_b]))]) (.s (.seg 1 []) .ret)))))))) Tryz.func27 rfl rfl (by kernel_rfl) (fun _ => rfl) (fun i => by kernel_rfl) (fun i s => by kernel_rfl)

noncomputable def K27 (k : Nat) : SCon El Tryz.prog := ⟨C27 k, S27 k, Tryz.call27⟩

theorem thicketlaw25_right_ok {w0 w : World} {As : List HP} {k : Nat} {jobs : Int} {sb_l : Option Addr} {sc_l : Nat} {l : List trace_Event} {X_l : HP} {t : Bool} (hX_l : SlRd X_l trace_Event.enc 14 sb_l l) (hC_l : l.length ≤ sc_l) (hm : thicketlaw25_right k jobs l = some t) (H : St w0 (X_l :: As) w) :
    CallsR Tryz.prog 27 #[.int .i64 jobs, .slice sb_l l.length sc_l] w fun v w' => v = .bool t ∧ St w0 (X_l :: As) w' := by
  refine (S27 k (jobs, (sb_l, sc_l, l), ()) t hm w0 w (X_l :: As) (rdc (rdH 7 (.head _) hX_l hC_l) rd0) H).mono ?_
  rintro v w' ⟨ns, as_, hn, ha, hv, H, hfx⟩
  obtain rfl := ls0 hn
  obtain rfl := ls0 ha
  refine ⟨hv, ?_⟩
  exact H

theorem thicketlaw25_known_ok {w0 w : World} {As : List HP} {k : Nat}  {t : Bool}  (hm : thicketlaw25_known k = some t) (H : St w0 (As) w) :
    CallsR Tryz.prog 22 #[] w fun v w' => v = .bool t ∧ St w0 (As) w' := by
 rw [thicketlaw25_known] at hm
 refine enter (args := []) Tryz.func22 rfl rfl rfl fun a hE => ?_
 refine Runs.sr ?_
 refine WR.seg hE 1 [] [] (Lo := []) (obs := []) rfl (by kernel_rfl) trivial fun a hE => ?_
 refine WR.done rfl ?_
 refine Runs.sr ?_
 obtain ⟨t_, et_, hm⟩ := bind_some hm
 refine WR.eff hE rfl rfl rfl rfl (OpTo.fn hE rfl rfl Tryz.call16 (trace_New_ok et_ H)) ?_
 rintro _ w ⟨p, al, rfl, H⟩ a hE
 rcases ho : t_.1 with _ | m_
 ·replace hm := case_n ho hm
  rw [ho] at hE H
  replace H := H.x0
  refine WR.seg hE 6 [] [1, 2] (Lo := [(1, .pointer none), (2, .int .i64 t_.2)]) (obs := []) rfl (by kernel_rfl) trivial fun a hE => ?_
  refine WR.done rfl ?_
  refine Runs.seq ?_
  refine Runs.sr ?_
  refine WR.e0 hE [(16, .bool true)] fun a hE => ?_
  refine Runs.condT hE rfl ?_
  refine Runs.sr ?_
  refine WR.e0 hE [(0, .bool false)] fun a hE => ?_
  refine Runs.ret hE Tryz.func22 rfl rfl ?_
  cases hm
  exact ⟨rfl, H⟩
 ·replace hm := case_s ho hm
  rw [ho] at hE H
  replace H : St w0 (trace_Book.R p al m_ :: _) _ := H
  refine WR.seg hE 6 [] [1, 2] (Lo := [(1, .pointer (some ⟨p, 0, none⟩)), (2, .int .i64 t_.2)]) (obs := []) rfl (by kernel_rfl) trivial fun a hE => ?_
  refine WR.done rfl ?_
  refine Runs.seq ?_
  refine Runs.sr ?_
  refine WR.e0 hE [(16, .bool (t_.2 != 0))] fun a hE => ?_
  refine Runs.cond hE rfl (fun c => ?_) (fun c => ?_)
  ·replace hm := cond_t c hm
   refine Runs.sr ?_
   refine WR.e0 hE [(0, .bool false)] fun a hE => ?_
   refine Runs.ret hE Tryz.func22 rfl rfl ?_
   cases hm
   exact ⟨rfl, H.x0⟩
  ·replace hm := cond_f c hm
   refine Runs.skip ?_
   refine Runs.sr ?_
   refine WR.d0 hE 3 [(17, .pointer (some ⟨p, 0, none⟩)), (19, .agg #[.int .i64 3, .int .i64 0, .int .i64 1, .int .i64 0, .int .i64 0, .int .i64 0, .int .i64 0, .int .i64 5])] fun a hE => ?_
   obtain ⟨t_1, et_1, hm⟩ := bind_some hm
   have hC_ := trace_Book_Act_ok et_1 H
   try dsimp only at hC_
   refine WR.eff hE rfl rfl rfl rfl (OpTo.fn hE rfl rfl Tryz.call17 hC_) ?_
   rintro _ w ⟨z, z1, z2, rfl, H⟩ a hE
   refine WR.eff hE rfl rfl rfl rfl (OpTo.new hE H [] (.cells #[.int .i64 0, .int .i64 0, .int .i64 0, .int .i64 0, .int .i64 0, .int .i64 0] 35 (0, 0)) (fun r => .pointer (some ⟨r, 0, none⟩)) (obs := []) rfl (fun _ => by kernel_rfl) trivial) ?_
   rintro _ w ⟨r, rfl, H⟩ a hE
   refine WR.eff0 hE rfl rfl rfl (OpTo.store hE H rfl rfl rfl rfl rfl rfl (Nat.le_of_ble_eq_true rfl)) ?_
   rintro _ w H a hE
   refine WR.done rfl ?_
   refine Runs.sr ?_
   refine WR.d0 hE 2 [(21, .pointer (some ⟨p, 0, none⟩)), (22, .agg #[.int .i64 4, .int .i64 0, .int .i64 0, .int .i64 0, .int .i64 0, .int .i64 0, .int .i64 0, .int .i64 0])] fun a hE => ?_
   obtain ⟨t_2, et_2, hm⟩ := bind_some hm
   have hC_ := trace_Book_Act_ok et_2 H.t1
   try dsimp only at hC_
   refine WR.eff hE rfl rfl rfl rfl (OpTo.fn hE rfl rfl Tryz.call17 hC_) ?_
   rintro _ w ⟨z3, z4, z5, rfl, H⟩ a hE
   refine WR.eff hE rfl rfl rfl rfl (OpTo.new hE H [] (.cells #[.int .i64 0, .int .i64 0, .int .i64 0, .int .i64 0, .int .i64 0, .int .i64 0] 35 (0, 0)) (fun r => .pointer (some ⟨r, 0, none⟩)) (obs := []) rfl (fun _ => by kernel_rfl) trivial) ?_
   rintro _ w ⟨r1, rfl, H⟩ a hE
   refine WR.eff0 hE rfl rfl rfl (OpTo.store hE H rfl rfl rfl rfl rfl rfl (Nat.le_of_ble_eq_true rfl)) ?_
   rintro _ w H a hE
   refine WR.done rfl ?_
   refine Runs.sr ?_
   refine WR.d0 hE 2 [(24, .pointer (some ⟨p, 0, none⟩)), (25, .agg #[.int .i64 2, .int .i64 0, .int .i64 0, .int .i64 0, .int .i64 0, .int .i64 0, .int .i64 0, .int .i64 0])] fun a hE => ?_
   obtain ⟨t_3, et_3, hm⟩ := bind_some hm
   have hC_ := trace_Book_Act_ok et_3 H.t1
   try dsimp only at hC_
   refine WR.eff hE rfl rfl rfl rfl (OpTo.fn hE rfl rfl Tryz.call17 hC_) ?_
   rintro _ w ⟨z6, z7, z8, rfl, H⟩ a hE
   refine WR.eff hE rfl rfl rfl rfl (OpTo.new hE H [] (.cells #[.int .i64 0, .int .i64 0, .int .i64 0, .int .i64 0, .int .i64 0, .int .i64 0] 35 (0, 0)) (fun r => .pointer (some ⟨r, 0, none⟩)) (obs := []) rfl (fun _ => by kernel_rfl) trivial) ?_
   rintro _ w ⟨r2, rfl, H⟩ a hE
   refine WR.eff0 hE rfl rfl rfl (OpTo.store hE H rfl rfl rfl rfl rfl rfl (Nat.le_of_ble_eq_true rfl)) ?_
   rintro _ w H a hE
   refine WR.done rfl ?_
   refine Runs.sr ?_
   refine WR.d0 hE 1 [(27, .pointer (some ⟨p, 0, none⟩))] fun a hE => ?_
   obtain ⟨t_4, et_4, hm⟩ := bind_some hm
   refine WR.eff hE rfl rfl rfl rfl (OpTo.fn hE rfl rfl Tryz.call21 (trace_Book_Events_ok et_4 H.t1)) ?_
   rintro _ w ⟨sb, sc, rfl, H⟩ a hE
   refine WR.e0 hE [(6, .slice sb t_4.length sc)] fun a hE => ?_
   refine Runs.seq ?_
   obtain ⟨s, es, hm⟩ := bind_some hm
   refine Runs.join (fun a w => ∃ (z9 : server_Server.A), ∃ (z10 : Option Addr), ∃ (z11 : Nat), EnvOk 70 a [(0, .bool s.1)] ∧ St w0 (trace_Book.R p (trace_Book.A.mk al.s_p z9 z10 z11) s.2 :: As) w) (fun hk => ?_) ?_
   ·replace hm := es; clear es
    refine Runs.region ?_
    refine WR.d hE 4 [.int .i64 t_1.1.Data] [(32, .bool (t_1.1.Data == 5))] (obs := [.cell ⟨r, 4, none⟩ (.int .i64 t_1.1.Data)]) ⟨H.cell 4 rfl rfl, trivial⟩ fun a hE => ?_
    rcases Bool.eq_false_or_eq_true (t_1.1.Data == 5) with c | c
    ·replace hE := hE.dec 32 c (by kernel_rfl)
     replace hm := cond_t c hm
     have c_ := c
     refine WR.d hE 6 [.int .i64 t_2.1.Why, .int .i64 t_2.1.Job.At, .int .i64 t_2.1.Job.Gen, .int .i64 t_2.1.Time, .int .i64 t_2.1.Data, .int .i64 t_2.1.N] [(32, .bool true), (33, .agg #[.int .i64 t_2.1.Why, .int .i64 t_2.1.Job.At, .int .i64 t_2.1.Job.Gen, .int .i64 t_2.1.Time, .int .i64 t_2.1.Data, .int .i64 t_2.1.N]), (34, .agg #[.int .i64 0, .int .i64 0, .int .i64 0, .int .i64 0, .int .i64 0, .int .i64 1])] (obs := [.cell ⟨r1, 0, none⟩ (.int .i64 t_2.1.Why), .cell ⟨r1, 1, none⟩ (.int .i64 t_2.1.Job.At), .cell ⟨r1, 2, none⟩ (.int .i64 t_2.1.Job.Gen), .cell ⟨r1, 3, none⟩ (.int .i64 t_2.1.Time), .cell ⟨r1, 4, none⟩ (.int .i64 t_2.1.Data), .cell ⟨r1, 5, none⟩ (.int .i64 t_2.1.N)]) ⟨H.cell 3 rfl rfl, H.cell 3 rfl rfl, H.cell 3 rfl rfl, H.cell 3 rfl rfl, H.cell 3 rfl rfl, H.cell 3 rfl rfl, trivial⟩ fun a hE => ?_
     refine WR.eff hE rfl rfl rfl rfl (OpTo.eqS hE rfl rfl rfl (by kernel_rfl) (api_Reply.eq_run t_2.1 (api_Reply.mk 0 (api_Ref.mk 0 0) 0 0 1))) ?_
     rintro _ _ ⟨rfl, rfl⟩ a hE
     refine WR.d0 hE 9 [(37, .bool (api_Reply.eq t_2.1 (api_Reply.mk 0 (api_Ref.mk 0 0) 0 0 1)))] fun a hE => ?_
     rcases Bool.eq_false_or_eq_true (api_Reply.eq t_2.1 (api_Reply.mk 0 (api_Ref.mk 0 0) 0 0 1)) with c | c
     ·replace hE := hE.dec 37 c (by kernel_rfl)
      replace hm := cond_t c hm
      have c_1 := c
      refine WR.d hE 11 [.int .i64 t_3.1.Why, .int .i64 t_3.1.Job.At, .int .i64 t_3.1.Job.Gen, .int .i64 t_3.1.Time, .int .i64 t_3.1.Data, .int .i64 t_3.1.N] [(37, .bool true), (38, .agg #[.int .i64 t_3.1.Why, .int .i64 t_3.1.Job.At, .int .i64 t_3.1.Job.Gen, .int .i64 t_3.1.Time, .int .i64 t_3.1.Data, .int .i64 t_3.1.N]), (39, .agg #[.int .i64 27, .int .i64 0, .int .i64 0, .int .i64 0, .int .i64 0, .int .i64 0])] (obs := [.cell ⟨r2, 0, none⟩ (.int .i64 t_3.1.Why), .cell ⟨r2, 1, none⟩ (.int .i64 t_3.1.Job.At), .cell ⟨r2, 2, none⟩ (.int .i64 t_3.1.Job.Gen), .cell ⟨r2, 3, none⟩ (.int .i64 t_3.1.Time), .cell ⟨r2, 4, none⟩ (.int .i64 t_3.1.Data), .cell ⟨r2, 5, none⟩ (.int .i64 t_3.1.N)]) ⟨H.cell 2 rfl rfl, H.cell 2 rfl rfl, H.cell 2 rfl rfl, H.cell 2 rfl rfl, H.cell 2 rfl rfl, H.cell 2 rfl rfl, trivial⟩ fun a hE => ?_
      refine WR.eff hE rfl rfl rfl rfl (OpTo.eqS hE rfl rfl rfl (by kernel_rfl) (api_Reply.eq_run t_3.1 (api_Reply.mk 27 (api_Ref.mk 0 0) 0 0 0))) ?_
      rintro _ _ ⟨rfl, rfl⟩ a hE
      refine WR.d0 hE 14 [(42, .bool (api_Reply.eq t_3.1 (api_Reply.mk 27 (api_Ref.mk 0 0) 0 0 0)))] fun a hE => ?_
      rcases Bool.eq_false_or_eq_true (api_Reply.eq t_3.1 (api_Reply.mk 27 (api_Ref.mk 0 0) 0 0 0)) with c | c
      ·replace hE := hE.dec 42 c (by kernel_rfl)
       replace hm := cond_t c hm
       have c_2 := c
       refine WR.d0 hE 19 [(47, .bool ((t_4.length : Int) == 3))] fun a hE => ?_
       rcases Bool.eq_false_or_eq_true ((t_4.length : Int) == 3) with c | c
       ·replace hE := hE.dec 47 c (by kernel_rfl)
        replace hm := cond_t c hm
        have c_3 := c
        obtain ⟨x, ex, hm⟩ := bind_some hm
        obtain ⟨b, o, hs, hb⟩ := SlRd.base (sl_rd 61 trace_Event.enc 14 _ _ _) trace_Event.enc_ok H 0 rfl ex
        refine WR.d hE 27 [.pointer (some ⟨b, o, none⟩), .int .i64 x.Reply.Data] [(55, .bool (x.Reply.Data == 5))] (obs := [.p ((sb : Option Addr) = some ⟨b, o, none⟩), .p (0 ≤ (1 : Int) ∧ (1 : Int) < ((t_4.length : Nat) : Int)), .cell ⟨b, o + (Int.toNat 1) * 14 + 10, none⟩ (.int .i64 x.Reply.Data)]) ⟨hs, hb, SlRd.cells (sl_rd 61 trace_Event.enc 14 _ _ _) trace_Event.enc_ok H 0 rfl hs ex 10 _ rfl, trivial⟩ fun a hE => ?_
        rcases Bool.eq_false_or_eq_true (x.Reply.Data == 5) with c | c
        ·replace hE := hE.dec 55 c (by kernel_rfl)
         replace hm := cond_t c hm
         have c_4 := c
         obtain ⟨x1, ex1, hm⟩ := bind_some hm
         obtain ⟨b1, o1, hs1, hb1⟩ := SlRd.base (sl_rd 61 trace_Event.enc 14 _ _ _) trace_Event.enc_ok H 0 rfl ex1
         refine WR.d hE 35 [.pointer (some ⟨b1, o1, none⟩), .int .i64 x1.Reply.Why] [(63, .bool (x1.Reply.Why == 28))] (obs := [.p ((sb : Option Addr) = some ⟨b1, o1, none⟩), .p (0 ≤ (2 : Int) ∧ (2 : Int) < ((t_4.length : Nat) : Int)), .cell ⟨b1, o1 + (Int.toNat 2) * 14 + 6, none⟩ (.int .i64 x1.Reply.Why)]) ⟨hs1, hb1, SlRd.cells (sl_rd 61 trace_Event.enc 14 _ _ _) trace_Event.enc_ok H 0 rfl hs1 ex1 6 _ rfl, trivial⟩ fun a hE => ?_
         rcases Bool.eq_false_or_eq_true (x1.Reply.Why == 28) with c | c
         ·replace hE := hE.dec 63 c (by kernel_rfl)
          replace hm := cond_t c hm
          have c_5 := c
          refine WR.d0 hE 37 [(63, .bool true), (64, .pointer (some ⟨p, 0, none⟩)), (65, .agg #[.int .i64 0, .int .i64 0, .int .i64 0, .int .i64 0, .int .i64 0, .int .i64 0, .int .i64 0, .int .i64 0])] fun a hE => ?_
          obtain ⟨t_5, et_5, hm⟩ := bind_some hm
          have hC_ := trace_Book_Act_ok et_5 H.t1
          try dsimp only at hC_
          refine WR.eff hE rfl rfl rfl rfl (OpTo.fn hE rfl rfl Tryz.call17 hC_) ?_
          rintro _ w ⟨z12, z13, z14, rfl, H⟩ a hE
          refine WR.e0 hE [(0, .bool (t_5.1.Why == 12))] fun a hE => ?_
          cases hm
          exact hk _ _ ⟨z12, z13, z14, hE.sel [0] (by kernel_rfl), H.x4.x3.x2.x1⟩
         ·replace hE := hE.dec 63 c (by kernel_rfl)
          replace hm := cond_f c hm
          have c_6 := c
          refine WR.e0 hE [(0, .bool false)] fun a hE => ?_
          cases hm
          exact hk _ _ ⟨z6, z7, z8, hE.sel [0] (by kernel_rfl), H.x4.x3.x2.x0⟩
        ·replace hE := hE.dec 55 c (by kernel_rfl)
         replace hm := cond_f c hm
         have c_7 := c
         refine WR.e0 hE [(0, .bool false)] fun a hE => ?_
         cases hm
         exact hk _ _ ⟨z6, z7, z8, hE.sel [0] (by kernel_rfl), H.x4.x3.x2.x0⟩
       ·replace hE := hE.dec 47 c (by kernel_rfl)
        replace hm := cond_f c hm
        have c_8 := c
        refine WR.e0 hE [(0, .bool false)] fun a hE => ?_
        cases hm
        exact hk _ _ ⟨z6, z7, z8, hE.sel [0] (by kernel_rfl), H.x4.x3.x2.x0⟩
      ·replace hE := hE.dec 42 c (by kernel_rfl)
       replace hm := cond_f c hm
       have c_9 := c
       refine WR.e0 hE [(0, .bool false)] fun a hE => ?_
       cases hm
       exact hk _ _ ⟨z6, z7, z8, hE.sel [0] (by kernel_rfl), H.x4.x3.x2.x0⟩
     ·replace hE := hE.dec 37 c (by kernel_rfl)
      replace hm := cond_f c hm
      have c_10 := c
      refine WR.e0 hE [(0, .bool false)] fun a hE => ?_
      cases hm
      exact hk _ _ ⟨z6, z7, z8, hE.sel [0] (by kernel_rfl), H.x4.x3.x2.x0⟩
    ·replace hE := hE.dec 32 c (by kernel_rfl)
     replace hm := cond_f c hm
     have c_11 := c
     refine WR.e0 hE [(0, .bool false)] fun a hE => ?_
     cases hm
     exact hk _ _ ⟨z6, z7, z8, hE.sel [0] (by kernel_rfl), H.x4.x3.x2.x0⟩
   rintro a w ⟨z9, z10, z11, hE, H⟩
   refine Runs.ret hE Tryz.func22 rfl rfl ?_
   cases hm
   exact ⟨rfl, H.x0⟩

theorem thicketlaw25_TracePlays_ok {w0 w : World} {As : List HP} {k : Nat} {k_ : Int} {jobs : Int} {sb_l : Option Addr} {sc_l : Nat} {l : List thicketlaw25_Ask} {X_l : HP} {t : Bool} (hX_l : SlRd X_l thicketlaw25_Ask.enc 21 sb_l l) (hC_l : l.length ≤ sc_l) (hm : thicketlaw25_TracePlays k k_ jobs l = some t) (H : St w0 (X_l :: As) w) :
    CallsR Tryz.prog 8 #[.int .i64 k_, .int .i64 jobs, .slice sb_l l.length sc_l] w fun v w' => v = .bool t ∧ St w0 (X_l :: As) w' := by
 rw [thicketlaw25_TracePlays] at hm
 refine enter (args := [.int .i64 k_, .int .i64 jobs, .slice sb_l l.length sc_l]) Tryz.func8 rfl rfl rfl fun a hE => ?_
 refine Runs.sr ?_
 refine WR.seg hE 1 [] [0, 1, 2] (Lo := [(0, .int .i64 k_), (1, .int .i64 jobs), (2, .slice sb_l l.length sc_l)]) (obs := []) rfl (by kernel_rfl) trivial fun a hE => ?_
 refine WR.done rfl ?_
 refine Runs.sr ?_
 refine WR.d0 hE 1 [(19, .int .i64 jobs)] fun a hE => ?_
 obtain ⟨t_, et_, hm⟩ := bind_some hm
 refine WR.eff hE rfl rfl rfl rfl (OpTo.fn hE rfl rfl Tryz.call10 (thicketbook_Within_ok et_ H)) ?_
 rintro _ w ⟨rfl, H⟩ a hE
 refine WR.e0 hE [(7, .int .i64 t_)] fun a hE => ?_
 refine Runs.sr ?_
 refine WR.d0 hE 1 [(22, .int .i64 k_)] fun a hE => ?_
 obtain ⟨t_1, et_1, hm⟩ := bind_some hm
 refine WR.eff hE rfl rfl rfl rfl (OpTo.fn hE rfl rfl Tryz.call10 (thicketbook_Within_ok et_1 H)) ?_
 rintro _ w ⟨rfl, H⟩ a hE
 refine WR.d0 hE 3 [(24, .int .i64 t_)] fun a hE => ?_
 obtain ⟨t_2, et_2, hm⟩ := bind_some hm
 refine WR.eff hE rfl rfl rfl rfl (OpTo.fn hE rfl rfl Tryz.call16 (trace_New_ok et_2 H)) ?_
 rintro _ w ⟨p, al, rfl, H⟩ a hE
 rcases ho : t_2.1 with _ | m_
 ·replace hm := case_n ho hm
  rw [ho] at hE H
  replace H := H.x0
  refine WR.seg hE 9 [] [2, 7, 8, 9] (Lo := [(2, .slice sb_l l.length sc_l), (7, .int .i64 t_), (8, .pointer none), (9, .int .i64 t_2.2)]) (obs := []) rfl (by kernel_rfl) trivial fun a hE => ?_
  refine WR.done rfl ?_
  refine Runs.seq ?_
  refine Runs.sr ?_
  refine WR.e0 hE [(44, .bool true)] fun a hE => ?_
  refine Runs.condT hE rfl ?_
  refine Runs.sr ?_
  refine WR.e0 hE [(6, .bool false)] fun a hE => ?_
  refine Runs.ret hE Tryz.func8 rfl rfl ?_
  cases hm
  exact ⟨rfl, H⟩
 ·replace hm := case_s ho hm
  rw [ho] at hE H
  replace H : St w0 (trace_Book.R p al m_ :: _) _ := H
  refine WR.seg hE 9 [] [2, 7, 8, 9] (Lo := [(2, .slice sb_l l.length sc_l), (7, .int .i64 t_), (8, .pointer (some ⟨p, 0, none⟩)), (9, .int .i64 t_2.2)]) (obs := []) rfl (by kernel_rfl) trivial fun a hE => ?_
  refine WR.done rfl ?_
  refine Runs.seq ?_
  refine Runs.seq ?_
  obtain ⟨s, es, hm⟩ := bind_some hm
  refine Runs.join (fun a w => EnvOk 230 a [(2, .slice sb_l l.length sc_l), (7, .int .i64 t_), (8, .pointer (some ⟨p, 0, none⟩)), (44, .bool s)] ∧ St w0 (trace_Book.R p al m_ :: X_l :: As) w) (fun hk => ?_) ?_
  ·replace hm := es; clear es
   refine Runs.region ?_
   refine WR.d0 hE 7 [(34, .bool (t_2.2 != 0))] fun a hE => ?_
   rcases Bool.eq_false_or_eq_true (t_2.2 != 0) with c | c
   ·replace hE := hE.dec 34 c (by kernel_rfl)
    replace hm := cond_t c hm
    have c_ := c
    refine WR.e0 hE [(44, .bool true)] fun a hE => ?_
    cases hm
    exact hk _ _ ⟨hE.sel [2, 7, 8, 44] (by kernel_rfl), H.t1.t1⟩
   ·replace hE := hE.dec 34 c (by kernel_rfl)
    replace hm := cond_f c hm
    have c_1 := c
    refine WR.d0 hE 8 [(34, .bool false), (35, .pointer (some ⟨p, 0, none⟩))] fun a hE => ?_
    obtain ⟨t_3, et_3, hm⟩ := bind_some hm
    refine WR.eff hE rfl rfl rfl rfl (OpTo.fn hE rfl rfl Tryz.call23 (trace_Book_Server_ok et_3 H)) ?_
    rintro _ w ⟨rfl, H⟩ a hE
    refine WR.d0 hE 13 [(39, .bool false), (40, .pointer (some ⟨p, 0, none⟩))] fun a hE => ?_
    obtain ⟨t_4, et_4, hm⟩ := bind_some hm
    refine WR.eff hE rfl rfl rfl rfl (OpTo.fn hE rfl rfl Tryz.call23 (trace_Book_Server_ok et_4 H)) ?_
    rintro _ w ⟨rfl, H⟩ a hE
    replace H := trace_Book.open H
    obtain ⟨t_5, et_5, hm⟩ := bind_some hm
    refine WR.eff hE rfl rfl rfl rfl (OpTo.fn hE rfl rfl Tryz.call24 (server_Server_Dispatcher_ok et_5 H.t1)) ?_
    rintro _ w ⟨rfl, H⟩ a hE
    refine WR.e0 hE [(44, .bool false)] fun a hE => ?_
    replace H := trace_Book.shut al (m_) H.t2.t1.t2
    cases hm
    exact hk _ _ ⟨hE.sel [2, 7, 8, 44] (by kernel_rfl), H.t1.t1⟩
  rintro a w ⟨hE, H⟩
  refine Runs.cond hE rfl (fun c => ?_) (fun c => ?_)
  ·replace hm := cond_t c hm
   refine Runs.sr ?_
   refine WR.seg hE 1 [] [6] (Lo := [(6, .bool false)]) (obs := []) rfl (by kernel_rfl) trivial fun a hE => ?_
   refine WR.done rfl ?_
   refine Runs.ret hE Tryz.func8 rfl rfl ?_
   cases hm
   exact ⟨rfl, H.x0⟩
  ·replace hm := cond_f c hm
   refine Runs.skip ?_
   refine Runs.sr ?_
   refine WR.seg hE 1 [] [2, 7, 8, 10] (Lo := [(2, .slice sb_l l.length sc_l), (7, .int .i64 t_), (8, .pointer (some ⟨p, 0, none⟩)), (10, .slice none 0 0)]) (obs := []) rfl (by kernel_rfl) trivial fun a hE => ?_
   refine WR.done rfl ?_
   refine Runs.seq ?_
   refine Runs.sr ?_
   refine WR.e0 hE [(11, .int .i64 0)] fun a hE => ?_
   obtain ⟨s1, es1, hR⟩ := bind_some hm
   refine Runs.join (fun a w => ∃ s2, s1 = Sum.inr s2 ∧ ∃ (z3 : server_Server.A), ∃ (z4 : Option Addr), ∃ (z5 : Nat), EnvOk 230 a [(7, .int .i64 t_), (8, .pointer (some ⟨p, 0, none⟩))] ∧ St w0 (trace_Book.R p (trace_Book.A.mk al.s_p z3 z4 z5) s2 :: X_l :: As) w) (fun hk => ?_) ?_
   ·replace hm := es1; clear es1
    replace H := H.slNil 31 api_Ref.enc 2
    refine Runs.block ?_
    refine Runs.loop (fun m a w => ∃ (told : List api_Ref), ∃ (i : Int), ∃ (m_1 : trace_Book), ∃ (sb1 : Option Addr), ∃ (sc1 : Nat), ∃ (z6 : server_Server.A), ∃ (z7 : Option Addr), ∃ (z8 : Nat), EnvOk 230 a [(2, .slice sb_l l.length sc_l), (7, .int .i64 t_), (8, .pointer (some ⟨p, 0, none⟩)), (10, .slice sb1 told.length sc1), (11, .int .i64 i)] ∧ St w0 (Sl 31 api_Ref.enc 2 sb1 sc1 told :: trace_Book.R p (trace_Book.A.mk al.s_p z6 z7 z8) m_1 :: X_l :: As) w ∧ thicketlaw25_TracePlays_l0 t_ l m told i m_1 = some s1) k ⟨([] : List api_Ref), 0, m_, none, 0, al.s_a, al.l_b, al.l_c, hE.sel [2, 7, 8, 10, 11] (by kernel_rfl), H.t2.t2.t2, hm⟩ ?_
    rintro m ih a w ⟨told, i, m_1, sb1, sc1, z6, z7, z8, hE, H, hm⟩
    cases m with
    | zero => simp [thicketlaw25_TracePlays_l0] at hm
    | succ m =>
     rw [thicketlaw25_TracePlays_l0] at hm
     refine Runs.seq ?_
     refine Runs.seq ?_
     refine Runs.join (fun a w => EnvOk 230 a [(2, .slice sb_l l.length sc_l), (7, .int .i64 t_), (8, .pointer (some ⟨p, 0, none⟩)), (10, .slice sb1 told.length sc1), (11, .int .i64 i), (52, .bool ((decide (i < (l.length : Int))) && (decide (i < 60))))] ∧ St w0 (Sl 31 api_Ref.enc 2 sb1 sc1 told :: trace_Book.R p (trace_Book.A.mk al.s_p z6 z7 z8) m_1 :: X_l :: As) w) (fun hk => ?_) ?_
     ·clear hm
      refine Runs.region ?_
      refine WR.seg hE 5 [] [2, 7, 8, 10, 11, 49] (Lo := [(2, .slice sb_l l.length sc_l), (7, .int .i64 t_), (8, .pointer (some ⟨p, 0, none⟩)), (10, .slice sb1 told.length sc1), (11, .int .i64 i), (49, .bool (decide (i < (l.length : Int))))]) (obs := []) rfl (by kernel_rfl) trivial fun a hE => ?_
      rcases Bool.eq_false_or_eq_true (decide (i < (l.length : Int))) with c | c
      ·replace hE := hE.dec 49 c (by kernel_rfl)
       have c_2 := c
       refine WR.e0 hE [(52, .bool (decide (i < 60)))] fun a hE => ?_
       refine hk _ _ ⟨?_, H.t2.t2.t2⟩
       try rw [c_2] at hE
       try rw [c_2]
       exact hE.sel [2, 7, 8, 10, 11, 52] (by kernel_rfl)
      ·replace hE := hE.dec 49 c (by kernel_rfl)
       have c_3 := c
       refine WR.e0 hE [(52, .bool false)] fun a hE => ?_
       refine hk _ _ ⟨?_, H.t2.t2.t2⟩
       try rw [c_3] at hE
       try rw [c_3]
       exact hE.sel [2, 7, 8, 10, 11, 52] (by kernel_rfl)
     rintro a w ⟨hE, H⟩
     refine Runs.cond hE rfl (fun c => ?_) (fun c => ?_)
     ·replace hm := cond_t c hm
      refine Runs.skip ?_
      refine Runs.seq ?_
      obtain ⟨s3, es3, hR1⟩ := bind_some hm
      refine Runs.join (fun a w => ∃ s4, s3 = Sum.inr s4 ∧ ∃ (sb2 : Option Addr), ∃ (sc2 : Nat), ∃ (z9 : server_Server.A), ∃ (z10 : Option Addr), ∃ (z11 : Nat), EnvOk 230 a [(2, .slice sb_l l.length sc_l), (7, .int .i64 t_), (8, .pointer (some ⟨p, 0, none⟩)), (10, .slice sb2 s4.1.length sc2), (11, .int .i64 i)] ∧ St w0 (Sl 31 api_Ref.enc 2 sb2 sc2 s4.1 :: trace_Book.R p (trace_Book.A.mk al.s_p z9 z10 z11) s4.2 :: X_l :: As) w) (fun hk => ?_) ?_
      ·replace hm := es3; clear es3
       refine Runs.block ?_
       refine Runs.sr ?_
       obtain ⟨x, ex, hm⟩ := bind_some hm
       obtain ⟨b, o, hs, hb⟩ := SlRd.base hX_l thicketlaw25_Ask.enc_ok H 2 rfl ex
       refine WR.seg hE 5 [.pointer (some ⟨b, o, none⟩), .int .i64 x.Kind, .int .i64 x.Box, .int .i64 x.D.Kind, .int .i64 x.D.Queue, .int .i64 x.D.Job, .int .i64 x.D.Data, .int .i64 x.D.Time, .int .i64 x.D.Raw.Kind, .int .i64 x.D.Raw.Queue, .int .i64 x.D.Raw.Job.At, .int .i64 x.D.Raw.Job.Gen, .int .i64 x.D.Raw.Time, .int .i64 x.D.Raw.Data, .int .i64 x.Raw.Kind, .int .i64 x.Raw.Box, .int .i64 x.Raw.Command.Kind, .int .i64 x.Raw.Command.Queue, .int .i64 x.Raw.Command.Job.At, .int .i64 x.Raw.Command.Job.Gen, .int .i64 x.Raw.Command.Time, .int .i64 x.Raw.Command.Data] [2, 7, 8, 10, 11, 58, 59] (Lo := [(2, .slice sb_l l.length sc_l), (7, .int .i64 t_), (8, .pointer (some ⟨p, 0, none⟩)), (10, .slice sb1 told.length sc1), (11, .int .i64 i), (58, .agg #[.int .i64 x.Kind, .int .i64 x.Box, .int .i64 x.D.Kind, .int .i64 x.D.Queue, .int .i64 x.D.Job, .int .i64 x.D.Data, .int .i64 x.D.Time, .int .i64 x.D.Raw.Kind, .int .i64 x.D.Raw.Queue, .int .i64 x.D.Raw.Job.At, .int .i64 x.D.Raw.Job.Gen, .int .i64 x.D.Raw.Time, .int .i64 x.D.Raw.Data, .int .i64 x.Raw.Kind, .int .i64 x.Raw.Box, .int .i64 x.Raw.Command.Kind, .int .i64 x.Raw.Command.Queue, .int .i64 x.Raw.Command.Job.At, .int .i64 x.Raw.Command.Job.Gen, .int .i64 x.Raw.Command.Time, .int .i64 x.Raw.Command.Data]), (59, .slice sb1 told.length sc1)]) (obs := [.p ((sb_l : Option Addr) = some ⟨b, o, none⟩), .p (0 ≤ (i : Int) ∧ (i : Int) < ((l.length : Nat) : Int)), .cell ⟨b, o + (Int.toNat i) * 21, none⟩ (.int .i64 x.Kind), .cell ⟨b, o + (Int.toNat i) * 21 + 1, none⟩ (.int .i64 x.Box), .cell ⟨b, o + (Int.toNat i) * 21 + 2, none⟩ (.int .i64 x.D.Kind), .cell ⟨b, o + (Int.toNat i) * 21 + 3, none⟩ (.int .i64 x.D.Queue), .cell ⟨b, o + (Int.toNat i) * 21 + 4, none⟩ (.int .i64 x.D.Job), .cell ⟨b, o + (Int.toNat i) * 21 + 5, none⟩ (.int .i64 x.D.Data), .cell ⟨b, o + (Int.toNat i) * 21 + 6, none⟩ (.int .i64 x.D.Time), .cell ⟨b, o + (Int.toNat i) * 21 + 7, none⟩ (.int .i64 x.D.Raw.Kind), .cell ⟨b, o + (Int.toNat i) * 21 + 8, none⟩ (.int .i64 x.D.Raw.Queue), .cell ⟨b, o + (Int.toNat i) * 21 + 9, none⟩ (.int .i64 x.D.Raw.Job.At), .cell ⟨b, o + (Int.toNat i) * 21 + 10, none⟩ (.int .i64 x.D.Raw.Job.Gen), .cell ⟨b, o + (Int.toNat i) * 21 + 11, none⟩ (.int .i64 x.D.Raw.Time), .cell ⟨b, o + (Int.toNat i) * 21 + 12, none⟩ (.int .i64 x.D.Raw.Data), .cell ⟨b, o + (Int.toNat i) * 21 + 13, none⟩ (.int .i64 x.Raw.Kind), .cell ⟨b, o + (Int.toNat i) * 21 + 14, none⟩ (.int .i64 x.Raw.Box), .cell ⟨b, o + (Int.toNat i) * 21 + 15, none⟩ (.int .i64 x.Raw.Command.Kind), .cell ⟨b, o + (Int.toNat i) * 21 + 16, none⟩ (.int .i64 x.Raw.Command.Queue), .cell ⟨b, o + (Int.toNat i) * 21 + 17, none⟩ (.int .i64 x.Raw.Command.Job.At), .cell ⟨b, o + (Int.toNat i) * 21 + 18, none⟩ (.int .i64 x.Raw.Command.Job.Gen), .cell ⟨b, o + (Int.toNat i) * 21 + 19, none⟩ (.int .i64 x.Raw.Command.Time), .cell ⟨b, o + (Int.toNat i) * 21 + 20, none⟩ (.int .i64 x.Raw.Command.Data)]) rfl (by kernel_rfl) ⟨hs, hb, SlRd.cells hX_l thicketlaw25_Ask.enc_ok H 2 rfl hs ex 0 _ rfl, SlRd.cells hX_l thicketlaw25_Ask.enc_ok H 2 rfl hs ex 1 _ rfl, SlRd.cells hX_l thicketlaw25_Ask.enc_ok H 2 rfl hs ex 2 _ rfl, SlRd.cells hX_l thicketlaw25_Ask.enc_ok H 2 rfl hs ex 3 _ rfl, SlRd.cells hX_l thicketlaw25_Ask.enc_ok H 2 rfl hs ex 4 _ rfl, SlRd.cells hX_l thicketlaw25_Ask.enc_ok H 2 rfl hs ex 5 _ rfl, SlRd.cells hX_l thicketlaw25_Ask.enc_ok H 2 rfl hs ex 6 _ rfl, SlRd.cells hX_l thicketlaw25_Ask.enc_ok H 2 rfl hs ex 7 _ rfl, SlRd.cells hX_l thicketlaw25_Ask.enc_ok H 2 rfl hs ex 8 _ rfl, SlRd.cells hX_l thicketlaw25_Ask.enc_ok H 2 rfl hs ex 9 _ rfl, SlRd.cells hX_l thicketlaw25_Ask.enc_ok H 2 rfl hs ex 10 _ rfl, SlRd.cells hX_l thicketlaw25_Ask.enc_ok H 2 rfl hs ex 11 _ rfl, SlRd.cells hX_l thicketlaw25_Ask.enc_ok H 2 rfl hs ex 12 _ rfl, SlRd.cells hX_l thicketlaw25_Ask.enc_ok H 2 rfl hs ex 13 _ rfl, SlRd.cells hX_l thicketlaw25_Ask.enc_ok H 2 rfl hs ex 14 _ rfl, SlRd.cells hX_l thicketlaw25_Ask.enc_ok H 2 rfl hs ex 15 _ rfl, SlRd.cells hX_l thicketlaw25_Ask.enc_ok H 2 rfl hs ex 16 _ rfl, SlRd.cells hX_l thicketlaw25_Ask.enc_ok H 2 rfl hs ex 17 _ rfl, SlRd.cells hX_l thicketlaw25_Ask.enc_ok H 2 rfl hs ex 18 _ rfl, SlRd.cells hX_l thicketlaw25_Ask.enc_ok H 2 rfl hs ex 19 _ rfl, SlRd.cells hX_l thicketlaw25_Ask.enc_ok H 2 rfl hs ex 20 _ rfl, trivial⟩ fun a hE => ?_
       obtain ⟨t_6, et_6, hm⟩ := bind_some hm
       refine WR.eff hE rfl rfl rfl rfl (OpTo.fn hE rfl rfl Tryz.call25 (thicketlaw25_act_ok (hX_told := (sl_rd 31 api_Ref.enc 2 _ _ _)) (hC_told := (H.slCap 0 rfl).1) et_6 H)) ?_
       rintro _ w ⟨rfl, H⟩ a hE
       refine WR.eff hE rfl rfl rfl rfl (OpTo.new hE H [] (.cells #[.int .i64 0, .int .i64 0, .int .i64 0, .int .i64 0, .int .i64 0, .int .i64 0, .int .i64 0, .int .i64 0] 56 (0, 0)) (fun r => .pointer (some ⟨r, 0, none⟩)) (obs := []) rfl (fun _ => by kernel_rfl) trivial) ?_
       rintro _ w ⟨r, rfl, H⟩ a hE
       refine WR.eff0 hE rfl rfl rfl (OpTo.store hE H rfl rfl rfl rfl rfl rfl (Nat.le_of_ble_eq_true rfl)) ?_
       rintro _ w H a hE
       refine WR.done rfl ?_
       refine Runs.sr ?_
       refine WR.d0 hE 1 [(61, .pointer (some ⟨p, 0, none⟩))] fun a hE => ?_
       obtain ⟨t_7, et_7, hm⟩ := bind_some hm
       refine WR.eff hE rfl rfl rfl rfl (OpTo.fn hE rfl rfl Tryz.call21 (trace_Book_Events_ok et_7 H.t2)) ?_
       rintro _ w ⟨sb3, sc3, rfl, H⟩ a hE
       refine WR.e0 hE [(13, .int .i64 (t_7.length : Int))] fun a hE => ?_
       refine Runs.sr ?_
       refine WR.d0 hE 1 [(64, .pointer (some ⟨p, 0, none⟩))] fun a hE => ?_
       obtain ⟨t_8, et_8, hm⟩ := bind_some hm
       refine WR.eff hE rfl rfl rfl rfl (OpTo.fn hE rfl rfl Tryz.call23 (trace_Book_Server_ok et_8 H.t1)) ?_
       rintro _ w ⟨rfl, H⟩ a hE
       replace H := trace_Book.open H
       try dsimp only at H
       obtain ⟨t_9, et_9, hm⟩ := bind_some hm
       refine WR.eff hE rfl rfl rfl rfl (OpTo.fn hE rfl rfl Tryz.call13 (server_Server_Waits_ok et_9 H.t1)) ?_
       rintro _ w ⟨rfl, H⟩ a hE
       refine WR.d0 hE 4 [(67, .pointer (some ⟨p, 0, none⟩))] fun a hE => ?_
       replace H := trace_Book.shut (trace_Book.A.mk al.s_p z6 z7 z8) (m_1) H.t2.t1.t2
       obtain ⟨t_10, et_10, hm⟩ := bind_some hm
       refine WR.eff hE rfl rfl rfl rfl (OpTo.fn hE rfl rfl Tryz.call23 (trace_Book_Server_ok et_10 H)) ?_
       rintro _ w ⟨rfl, H⟩ a hE
       replace H := trace_Book.open H
       try dsimp only at H
       obtain ⟨t_11, et_11, hm⟩ := bind_some hm
       refine WR.eff hE rfl rfl rfl rfl (OpTo.fn hE rfl rfl Tryz.call24 (server_Server_Dispatcher_ok et_11 H.t1)) ?_
       rintro _ w ⟨rfl, H⟩ a hE
       replace H := server_Server.open H
       obtain ⟨t_12, et_12, hm⟩ := bind_some hm
       refine WR.eff hE rfl rfl rfl rfl (OpTo.fn hE rfl rfl Tryz.call26 (dispatch_Dispatcher_Due_ok et_12 H.t1)) ?_
       rintro _ w ⟨rfl, H⟩ a hE
       refine WR.e0 hE [(14, .int .i64 t_9), (15, .int .i64 t_12)] fun a hE => ?_
       refine Runs.sr ?_
       refine WR.d hE 2 [.int .i64 t_6.Kind, .int .i64 t_6.Box, .int .i64 t_6.Command.Kind, .int .i64 t_6.Command.Queue, .int .i64 t_6.Command.Job.At, .int .i64 t_6.Command.Job.Gen, .int .i64 t_6.Command.Time, .int .i64 t_6.Command.Data] [(71, .pointer (some ⟨p, 0, none⟩)), (72, .agg #[.int .i64 t_6.Kind, .int .i64 t_6.Box, .int .i64 t_6.Command.Kind, .int .i64 t_6.Command.Queue, .int .i64 t_6.Command.Job.At, .int .i64 t_6.Command.Job.Gen, .int .i64 t_6.Command.Time, .int .i64 t_6.Command.Data])] (obs := [.cell ⟨r, 0, none⟩ (.int .i64 t_6.Kind), .cell ⟨r, 1, none⟩ (.int .i64 t_6.Box), .cell ⟨r, 2, none⟩ (.int .i64 t_6.Command.Kind), .cell ⟨r, 3, none⟩ (.int .i64 t_6.Command.Queue), .cell ⟨r, 4, none⟩ (.int .i64 t_6.Command.Job.At), .cell ⟨r, 5, none⟩ (.int .i64 t_6.Command.Job.Gen), .cell ⟨r, 6, none⟩ (.int .i64 t_6.Command.Time), .cell ⟨r, 7, none⟩ (.int .i64 t_6.Command.Data)]) ⟨H.cell 6 rfl rfl, H.cell 6 rfl rfl, H.cell 6 rfl rfl, H.cell 6 rfl rfl, H.cell 6 rfl rfl, H.cell 6 rfl rfl, H.cell 6 rfl rfl, H.cell 6 rfl rfl, trivial⟩ fun a hE => ?_
       replace H := server_Server.shut z6 (m_1.s) H.t2.t1.t2
       replace H := trace_Book.shut (trace_Book.A.mk al.s_p z6 z7 z8) (m_1) H.t2.t1.t2
       obtain ⟨t_13, et_13, hm⟩ := bind_some hm
       refine WR.eff hE rfl rfl rfl rfl (OpTo.fn hE rfl rfl Tryz.call17 (trace_Book_Act_ok et_13 H)) ?_
       rintro _ w ⟨z12, z13, z14, rfl, H⟩ a hE
       refine WR.eff hE rfl rfl rfl rfl (OpTo.new hE H [] (.cells #[.int .i64 0, .int .i64 0, .int .i64 0, .int .i64 0, .int .i64 0, .int .i64 0] 35 (0, 0)) (fun r => .pointer (some ⟨r, 0, none⟩)) (obs := []) rfl (fun _ => by kernel_rfl) trivial) ?_
       rintro _ w ⟨r1, rfl, H⟩ a hE
       refine WR.eff0 hE rfl rfl rfl (OpTo.store hE H rfl rfl rfl rfl rfl rfl (Nat.le_of_ble_eq_true rfl)) ?_
       rintro _ w H a hE
       refine WR.done rfl ?_
       refine Runs.sr ?_
       refine WR.d0 hE 1 [(74, .pointer (some ⟨p, 0, none⟩))] fun a hE => ?_
       obtain ⟨t_14, et_14, hm⟩ := bind_some hm
       refine WR.eff hE rfl rfl rfl rfl (OpTo.fn hE rfl rfl Tryz.call21 (trace_Book_Events_ok et_14 H.t1)) ?_
       rintro _ w ⟨sb4, sc4, rfl, H⟩ a hE
       refine WR.e0 hE [(17, .slice sb4 t_14.length sc4)] fun a hE => ?_
       refine Runs.sr ?_
       refine WR.e0 hE [(18, .int .i64 (w64 ((t_14.length : Int) - (t_7.length : Int))))] fun a hE => ?_
       refine Runs.seq ?_
       refine Runs.sr ?_
       refine WR.e hE [.int .i64 t_6.Kind] [(81, .int .i64 t_6.Kind)] (obs := [.cell ⟨r, 0, none⟩ (.int .i64 t_6.Kind)]) ⟨H.cell 4 rfl rfl, trivial⟩ fun a hE => ?_
       obtain ⟨s5, es5, hR2⟩ := bind_some hm
       refine Runs.join (fun a w => ∃ s6, s5 = Sum.inr s6 ∧ EnvOk 230 a [(2, .slice sb_l l.length sc_l), (7, .int .i64 t_), (8, .pointer (some ⟨p, 0, none⟩)), (10, .slice sb1 told.length sc1), (11, .int .i64 i), (13, .int .i64 (t_7.length : Int)), (17, .slice sb4 t_14.length sc4)] ∧ St w0 (Sl 61 trace_Event.enc 14 sb4 sc4 t_14 :: trace_Book.R p (trace_Book.A.mk al.s_p z12 z13 z14) t_13.2 :: Sl 31 api_Ref.enc 2 sb1 sc1 told :: X_l :: As) w) (fun hk => ?_) ?_
       ·replace hm := es5; clear es5
        refine Runs.block ?_
        refine Runs.sr ?_
        refine WR.e0 hE [(89, .bool (t_6.Kind == 1))] fun a hE => ?_
        refine Runs.cond hE rfl (fun c => ?_) (fun c => ?_)
        ·replace hm := cond_t c hm
         refine Runs.seq ?_
         obtain ⟨s7, es7, hm⟩ := bind_some hm
         refine Runs.join (fun a w => EnvOk 230 a [(2, .slice sb_l l.length sc_l), (7, .int .i64 t_), (8, .pointer (some ⟨p, 0, none⟩)), (10, .slice sb1 told.length sc1), (11, .int .i64 i), (13, .int .i64 (t_7.length : Int)), (17, .slice sb4 t_14.length sc4), (111, .bool s7)] ∧ St w0 (Sl 61 trace_Event.enc 14 sb4 sc4 t_14 :: trace_Book.R p (trace_Book.A.mk al.s_p z12 z13 z14) t_13.2 :: Sl 31 api_Ref.enc 2 sb1 sc1 told :: X_l :: As) w) (fun hk => ?_) ?_
         ·replace hm := es7; clear es7
          refine Runs.drawn mixed (by kernel_rfl) ?_
          replace H := H.drew
          refine WQ.d0 hE [0, 1, 2] [(93, .bool ((w64 ((t_14.length : Int) - (t_7.length : Int))) != 0))] fun a hE => ?_
          rcases Bool.eq_false_or_eq_true ((w64 ((t_14.length : Int) - (t_7.length : Int))) != 0) with c | c
          ·replace hE := hE.dec 93 c (by kernel_rfl)
           replace hm := cond_t c hm
           have c_4 := c
           refine WQ.d0 hE [3, 4, 5, 6, 7, 8, 9, 10, 11, 12, 13, 14, 15, 16, 17, 18, 19, 20] [(111, .bool true)] fun a hE => ?_
           refine WQ.done (by kernel_rfl) ?_
           cases hm
           exact hk _ _ ⟨hE.sel [2, 7, 8, 10, 11, 13, 17, 111] (by kernel_rfl), H.x4.x3.x2.t3.t3.t3.t3⟩
          ·replace hE := hE.dec 93 c (by kernel_rfl)
           replace hm := cond_f c hm
           have c_5 := c
           refine WQ.d hE [3, 4, 5, 6] [.int .i64 t_13.1.Why, .int .i64 t_13.1.Job.At, .int .i64 t_13.1.Job.Gen, .int .i64 t_13.1.Time, .int .i64 t_13.1.Data, .int .i64 t_13.1.N, .int .i64 t_13.1.Why] [(93, .bool false), (94, .agg #[.int .i64 t_13.1.Why, .int .i64 t_13.1.Job.At, .int .i64 t_13.1.Job.Gen, .int .i64 t_13.1.Time, .int .i64 t_13.1.Data, .int .i64 t_13.1.N]), (97, .agg #[.int .i64 t_13.1.Why, .int .i64 0, .int .i64 0, .int .i64 0, .int .i64 0, .int .i64 0])] (obs := [.cell ⟨r1, 0, none⟩ (.int .i64 t_13.1.Why), .cell ⟨r1, 1, none⟩ (.int .i64 t_13.1.Job.At), .cell ⟨r1, 2, none⟩ (.int .i64 t_13.1.Job.Gen), .cell ⟨r1, 3, none⟩ (.int .i64 t_13.1.Time), .cell ⟨r1, 4, none⟩ (.int .i64 t_13.1.Data), .cell ⟨r1, 5, none⟩ (.int .i64 t_13.1.N), .cell ⟨r1, 0, none⟩ (.int .i64 t_13.1.Why)]) ⟨H.cell 2 rfl rfl, H.cell 2 rfl rfl, H.cell 2 rfl rfl, H.cell 2 rfl rfl, H.cell 2 rfl rfl, H.cell 2 rfl rfl, H.cell 2 rfl rfl, trivial⟩ fun a hE => ?_
           refine WQ.eff (j := 7) (obs := []) hE (by kernel_rfl) rfl rfl rfl rfl (by kernel_rfl) (OpTo.neS hE rfl rfl rfl (by kernel_rfl) (api_Reply.eq_run t_13.1 (api_Reply.mk t_13.1.Why (api_Ref.mk 0 0) 0 0 0))) ?_
           rintro _ _ ⟨rfl, rfl⟩
           refine ⟨trivial, fun a hE => ?_⟩
           refine WQ.d0 hE [8, 9] [(100, .bool (!(api_Reply.eq t_13.1 (api_Reply.mk t_13.1.Why (api_Ref.mk 0 0) 0 0 0))))] fun a hE => ?_
           rcases Bool.eq_false_or_eq_true (!(api_Reply.eq t_13.1 (api_Reply.mk t_13.1.Why (api_Ref.mk 0 0) 0 0 0))) with c | c
           ·replace hE := hE.dec 100 c (by kernel_rfl)
            replace hm := cond_t c hm
            have c_6 := c
            refine WQ.d0 hE [10, 11, 12, 13, 14, 15, 16, 17, 18, 19, 20] [(111, .bool true)] fun a hE => ?_
            refine WQ.done (by kernel_rfl) ?_
            cases hm
            exact hk _ _ ⟨hE.sel [2, 7, 8, 10, 11, 13, 17, 111] (by kernel_rfl), H.x4.x3.x2.t3.t3.t3.t3⟩
           ·replace hE := hE.dec 100 c (by kernel_rfl)
            replace hm := cond_f c hm
            have c_7 := c
            refine WQ.d hE [10, 11, 12, 13, 16, 17] [.int .i64 t_13.1.Why] [(100, .bool false), (103, .bool (t_13.1.Why == 0)), (104, .pointer (some ⟨p, 0, none⟩)), (108, .int .i64 (w64 (t_9 + 1)))] (obs := [.cell ⟨r1, 0, none⟩ (.int .i64 t_13.1.Why)]) ⟨H.cell 2 rfl rfl, trivial⟩ fun a hE => ?_
            obtain ⟨t_15, et_15, hm⟩ := bind_some hm
            refine WQ.eff (j := 14) (obs := [.cell ⟨r1, 0, none⟩ (.int .i64 t_13.1.Why)]) hE (by kernel_rfl) rfl rfl rfl rfl (by kernel_rfl) (OpTo.fn hE rfl rfl Tryz.call23 (trace_Book_Server_ok et_15 H.t1)) ?_
            rintro _ w ⟨rfl, H⟩
            refine ⟨⟨H.cell 2 rfl rfl, trivial⟩, fun a hE => ?_⟩
            replace H := trace_Book.open H
            try dsimp only at H
            obtain ⟨t_16, et_16, hm⟩ := bind_some hm
            refine WQ.eff (j := 15) (obs := [.cell ⟨r1, 0, none⟩ (.int .i64 t_13.1.Why)]) hE (by kernel_rfl) rfl rfl rfl rfl (by kernel_rfl) (OpTo.fn hE rfl rfl Tryz.call13 (server_Server_Waits_ok et_16 H.t1)) ?_
            rintro _ w ⟨rfl, H⟩
            refine ⟨⟨H.cell 4 rfl rfl, trivial⟩, fun a hE => ?_⟩
            refine WQ.d0 hE [18, 19, 20] [(111, .bool (!((t_13.1.Why == 0) == (t_16 == (w64 (t_9 + 1))))))] fun a hE => ?_
            refine WQ.done (by kernel_rfl) ?_
            replace H := trace_Book.shut (trace_Book.A.mk al.s_p z12 z13 z14) (t_13.2) H.t2.t1.t2
            cases hm
            exact hk _ _ ⟨hE.sel [2, 7, 8, 10, 11, 13, 17, 111] (by kernel_rfl), H.x4.x3.x2.t3.t3.t2.t3⟩
         rintro a w ⟨hE, H⟩
         refine Runs.cond hE rfl (fun c => ?_) (fun c => ?_)
         ·replace hm := cond_t c hm
          refine Runs.sr ?_
          refine WR.seg hE 1 [] [6] (Lo := [(6, .bool false)]) (obs := []) rfl (by kernel_rfl) trivial fun a hE => ?_
          refine WR.done rfl ?_
          refine Runs.ret hE Tryz.func8 rfl rfl ?_
          cases hm
          dsimp only at hR2; cases hR2
          dsimp only at hR1; cases hR1
          dsimp only at hR; cases hR
          exact ⟨rfl, H.x2.x1.x0⟩
         ·replace hm := cond_f c hm
          refine Runs.skip ?_
          refine Runs.inBlock ?_
          cases hm
          exact hk _ _ ⟨_, rfl, hE.sel [2, 7, 8, 10, 11, 13, 17] (by kernel_rfl), H.t3.t3.t3.t3⟩
        ·replace hm := cond_f c hm
         refine Runs.sr ?_
         refine WR.e0 hE [(112, .bool (t_6.Kind == 2))] fun a hE => ?_
         refine Runs.cond hE rfl (fun c => ?_) (fun c => ?_)
         ·replace hm := cond_t c hm
          refine Runs.seq ?_
          obtain ⟨s8, es8, hm⟩ := bind_some hm
          refine Runs.join (fun a w => EnvOk 230 a [(2, .slice sb_l l.length sc_l), (7, .int .i64 t_), (8, .pointer (some ⟨p, 0, none⟩)), (10, .slice sb1 told.length sc1), (11, .int .i64 i), (13, .int .i64 (t_7.length : Int)), (17, .slice sb4 t_14.length sc4), (149, .bool s8)] ∧ St w0 (Sl 61 trace_Event.enc 14 sb4 sc4 t_14 :: trace_Book.R p (trace_Book.A.mk al.s_p z12 z13 z14) t_13.2 :: Sl 31 api_Ref.enc 2 sb1 sc1 told :: X_l :: As) w) (fun hk => ?_) ?_
          ·replace hm := es8; clear es8
           refine Runs.drawn mixed (by kernel_rfl) ?_
           replace H := H.drew
           refine WQ.d0 hE [0, 1, 2] [(116, .bool (t_9 == 0))] fun a hE => ?_
           rcases Bool.eq_false_or_eq_true (t_9 == 0) with c | c
           ·replace hE := hE.dec 116 c (by kernel_rfl)
            replace hm := cond_t c hm
            have c_8 := c
            refine WQ.d0 hE [3, 4, 5] [(116, .bool true), (119, .bool ((w64 ((t_14.length : Int) - (t_7.length : Int))) != 0))] fun a hE => ?_
            rcases Bool.eq_false_or_eq_true ((w64 ((t_14.length : Int) - (t_7.length : Int))) != 0) with c | c
            ·replace hE := hE.dec 119 c (by kernel_rfl)
             replace hm := cond_t c hm
             have c_9 := c
             refine WQ.d0 hE [6, 7, 8, 9, 10, 11, 12, 13, 14, 15, 16, 17, 18, 19, 20, 21, 22, 23, 24, 25, 26, 27, 28, 29, 30, 31, 32, 33, 34, 35] [(149, .bool true)] fun a hE => ?_
             refine WQ.done (by kernel_rfl) ?_
             cases hm
             exact hk _ _ ⟨hE.sel [2, 7, 8, 10, 11, 13, 17, 149] (by kernel_rfl), H.x4.x3.x2.t3.t3.t3.t3⟩
            ·replace hE := hE.dec 119 c (by kernel_rfl)
             replace hm := cond_f c hm
             have c_10 := c
             refine WQ.d hE [6, 7] [.int .i64 t_13.1.Why, .int .i64 t_13.1.Job.At, .int .i64 t_13.1.Job.Gen, .int .i64 t_13.1.Time, .int .i64 t_13.1.Data, .int .i64 t_13.1.N] [(119, .bool false), (120, .agg #[.int .i64 t_13.1.Why, .int .i64 t_13.1.Job.At, .int .i64 t_13.1.Job.Gen, .int .i64 t_13.1.Time, .int .i64 t_13.1.Data, .int .i64 t_13.1.N]), (121, .agg #[.int .i64 27, .int .i64 0, .int .i64 0, .int .i64 0, .int .i64 0, .int .i64 0])] (obs := [.cell ⟨r1, 0, none⟩ (.int .i64 t_13.1.Why), .cell ⟨r1, 1, none⟩ (.int .i64 t_13.1.Job.At), .cell ⟨r1, 2, none⟩ (.int .i64 t_13.1.Job.Gen), .cell ⟨r1, 3, none⟩ (.int .i64 t_13.1.Time), .cell ⟨r1, 4, none⟩ (.int .i64 t_13.1.Data), .cell ⟨r1, 5, none⟩ (.int .i64 t_13.1.N)]) ⟨H.cell 2 rfl rfl, H.cell 2 rfl rfl, H.cell 2 rfl rfl, H.cell 2 rfl rfl, H.cell 2 rfl rfl, H.cell 2 rfl rfl, trivial⟩ fun a hE => ?_
             refine WQ.eff (j := 8) (obs := []) hE (by kernel_rfl) rfl rfl rfl rfl (by kernel_rfl) (OpTo.neS hE rfl rfl rfl (by kernel_rfl) (api_Reply.eq_run t_13.1 (api_Reply.mk 27 (api_Ref.mk 0 0) 0 0 0))) ?_
             rintro _ _ ⟨rfl, rfl⟩
             refine ⟨trivial, fun a hE => ?_⟩
             refine WQ.d0 hE [9, 10, 11] [(125, .bool (!(api_Reply.eq t_13.1 (api_Reply.mk 27 (api_Ref.mk 0 0) 0 0 0))))] fun a hE => ?_
             rcases Bool.eq_false_or_eq_true (!(api_Reply.eq t_13.1 (api_Reply.mk 27 (api_Ref.mk 0 0) 0 0 0))) with c | c
             ·replace hE := hE.dec 125 c (by kernel_rfl)
              replace hm := cond_t c hm
              have c_11 := c
              refine WQ.d0 hE [12, 13, 14, 15, 16, 17, 18, 19, 20, 21, 22, 23, 24, 25, 26, 27, 28, 29, 30, 31, 32, 33, 34, 35] [(149, .bool true)] fun a hE => ?_
              refine WQ.done (by kernel_rfl) ?_
              cases hm
              exact hk _ _ ⟨hE.sel [2, 7, 8, 10, 11, 13, 17, 149] (by kernel_rfl), H.x4.x3.x2.t3.t3.t3.t3⟩
             ·replace hE := hE.dec 125 c (by kernel_rfl)
              replace hm := cond_f c hm
              have c_12 := c
              refine WQ.d0 hE [12, 13, 14] [(125, .bool false), (128, .bool (decide (t_9 > 0)))] fun a hE => ?_
              rcases Bool.eq_false_or_eq_true (decide (t_9 > 0)) with c | c
              ·replace hE := hE.dec 128 c (by kernel_rfl)
               replace hm := cond_t c hm
               have c_13 := c
               refine WQ.d0 hE [15, 16, 17] [(128, .bool true), (131, .bool ((w64 ((t_14.length : Int) - (t_7.length : Int))) != 1))] fun a hE => ?_
               rcases Bool.eq_false_or_eq_true ((w64 ((t_14.length : Int) - (t_7.length : Int))) != 1) with c | c
               ·replace hE := hE.dec 131 c (by kernel_rfl)
                replace hm := cond_t c hm
                have c_14 := c
                refine WQ.d0 hE [18, 19, 20, 21, 22, 23, 24, 25, 26, 27, 28, 29, 30, 31, 32, 33, 34, 35] [(149, .bool true)] fun a hE => ?_
                refine WQ.done (by kernel_rfl) ?_
                cases hm
                exact hk _ _ ⟨hE.sel [2, 7, 8, 10, 11, 13, 17, 149] (by kernel_rfl), H.x4.x3.x2.t3.t3.t3.t3⟩
               ·replace hE := hE.dec 131 c (by kernel_rfl)
                replace hm := cond_f c hm
                have c_15 := c
                obtain ⟨x1, ex1, hm⟩ := bind_some hm
                obtain ⟨b1, o1, hs1, hb1⟩ := SlRd.base (sl_rd 61 trace_Event.enc 14 _ _ _) trace_Event.enc_ok H 0 rfl ex1
                refine WQ.d hE [18, 19, 20, 21, 22, 23] [.pointer (some ⟨b1, o1, none⟩), .int .i64 x1.Reply.Why, .int .i64 x1.Reply.Job.At, .int .i64 x1.Reply.Job.Gen, .int .i64 x1.Reply.Time, .int .i64 x1.Reply.Data, .int .i64 x1.Reply.N, .int .i64 t_13.1.Why, .int .i64 t_13.1.Job.At, .int .i64 t_13.1.Job.Gen, .int .i64 t_13.1.Time, .int .i64 t_13.1.Data, .int .i64 t_13.1.N] [(131, .bool false), (136, .agg #[.int .i64 x1.Reply.Why, .int .i64 x1.Reply.Job.At, .int .i64 x1.Reply.Job.Gen, .int .i64 x1.Reply.Time, .int .i64 x1.Reply.Data, .int .i64 x1.Reply.N]), (137, .agg #[.int .i64 t_13.1.Why, .int .i64 t_13.1.Job.At, .int .i64 t_13.1.Job.Gen, .int .i64 t_13.1.Time, .int .i64 t_13.1.Data, .int .i64 t_13.1.N])] (obs := [.p ((sb4 : Option Addr) = some ⟨b1, o1, none⟩), .p (0 ≤ ((t_7.length : Int) : Int) ∧ ((t_7.length : Int) : Int) < ((t_14.length : Nat) : Int)), .cell ⟨b1, o1 + (Int.toNat (t_7.length : Int)) * 14 + 6, none⟩ (.int .i64 x1.Reply.Why), .cell ⟨b1, o1 + (Int.toNat (t_7.length : Int)) * 14 + 7, none⟩ (.int .i64 x1.Reply.Job.At), .cell ⟨b1, o1 + (Int.toNat (t_7.length : Int)) * 14 + 8, none⟩ (.int .i64 x1.Reply.Job.Gen), .cell ⟨b1, o1 + (Int.toNat (t_7.length : Int)) * 14 + 9, none⟩ (.int .i64 x1.Reply.Time), .cell ⟨b1, o1 + (Int.toNat (t_7.length : Int)) * 14 + 10, none⟩ (.int .i64 x1.Reply.Data), .cell ⟨b1, o1 + (Int.toNat (t_7.length : Int)) * 14 + 11, none⟩ (.int .i64 x1.Reply.N), .cell ⟨r1, 0, none⟩ (.int .i64 t_13.1.Why), .cell ⟨r1, 1, none⟩ (.int .i64 t_13.1.Job.At), .cell ⟨r1, 2, none⟩ (.int .i64 t_13.1.Job.Gen), .cell ⟨r1, 3, none⟩ (.int .i64 t_13.1.Time), .cell ⟨r1, 4, none⟩ (.int .i64 t_13.1.Data), .cell ⟨r1, 5, none⟩ (.int .i64 t_13.1.N)]) ⟨hs1, hb1, SlRd.cells (sl_rd 61 trace_Event.enc 14 _ _ _) trace_Event.enc_ok H 0 rfl hs1 ex1 6 _ rfl, SlRd.cells (sl_rd 61 trace_Event.enc 14 _ _ _) trace_Event.enc_ok H 0 rfl hs1 ex1 7 _ rfl, SlRd.cells (sl_rd 61 trace_Event.enc 14 _ _ _) trace_Event.enc_ok H 0 rfl hs1 ex1 8 _ rfl, SlRd.cells (sl_rd 61 trace_Event.enc 14 _ _ _) trace_Event.enc_ok H 0 rfl hs1 ex1 9 _ rfl, SlRd.cells (sl_rd 61 trace_Event.enc 14 _ _ _) trace_Event.enc_ok H 0 rfl hs1 ex1 10 _ rfl, SlRd.cells (sl_rd 61 trace_Event.enc 14 _ _ _) trace_Event.enc_ok H 0 rfl hs1 ex1 11 _ rfl, H.cell 2 rfl rfl, H.cell 2 rfl rfl, H.cell 2 rfl rfl, H.cell 2 rfl rfl, H.cell 2 rfl rfl, H.cell 2 rfl rfl, trivial⟩ fun a hE => ?_
                refine WQ.eff (j := 24) (obs := []) hE (by kernel_rfl) rfl rfl rfl rfl (by kernel_rfl) (OpTo.neS hE rfl rfl rfl (by kernel_rfl) (api_Reply.eq_run x1.Reply t_13.1)) ?_
                rintro _ _ ⟨rfl, rfl⟩
                refine ⟨trivial, fun a hE => ?_⟩
                refine WQ.d0 hE [25, 26] [(140, .bool (!(api_Reply.eq x1.Reply t_13.1)))] fun a hE => ?_
                rcases Bool.eq_false_or_eq_true (!(api_Reply.eq x1.Reply t_13.1)) with c | c
                ·replace hE := hE.dec 140 c (by kernel_rfl)
                 replace hm := cond_t c hm
                 have c_16 := c
                 refine WQ.d0 hE [27, 28, 29, 30, 31, 32, 33, 34, 35] [(149, .bool true)] fun a hE => ?_
                 refine WQ.done (by kernel_rfl) ?_
                 cases hm
                 exact hk _ _ ⟨hE.sel [2, 7, 8, 10, 11, 13, 17, 149] (by kernel_rfl), H.x4.x3.x2.t3.t3.t3.t3⟩
                ·replace hE := hE.dec 140 c (by kernel_rfl)
                 replace hm := cond_f c hm
                 have c_17 := c
                 refine WQ.d0 hE [27, 30, 31] [(140, .bool false), (141, .pointer (some ⟨p, 0, none⟩)), (145, .int .i64 (w64 (t_9 - 1)))] fun a hE => ?_
                 obtain ⟨t_17, et_17, hm⟩ := bind_some hm
                 refine WQ.eff (j := 28) (obs := []) hE (by kernel_rfl) rfl rfl rfl rfl (by kernel_rfl) (OpTo.fn hE rfl rfl Tryz.call23 (trace_Book_Server_ok et_17 H.t1)) ?_
                 rintro _ w ⟨rfl, H⟩
                 refine ⟨trivial, fun a hE => ?_⟩
                 replace H := trace_Book.open H
                 try dsimp only at H
                 obtain ⟨t_18, et_18, hm⟩ := bind_some hm
                 refine WQ.eff (j := 29) (obs := []) hE (by kernel_rfl) rfl rfl rfl rfl (by kernel_rfl) (OpTo.fn hE rfl rfl Tryz.call13 (server_Server_Waits_ok et_18 H.t1)) ?_
                 rintro _ w ⟨rfl, H⟩
                 refine ⟨trivial, fun a hE => ?_⟩
                 refine WQ.d0 hE [32, 33, 34, 35] [(149, .bool (t_18 != (w64 (t_9 - 1))))] fun a hE => ?_
                 refine WQ.done (by kernel_rfl) ?_
                 replace H := trace_Book.shut (trace_Book.A.mk al.s_p z12 z13 z14) (t_13.2) H.t2.t1.t2
                 cases hm
                 exact hk _ _ ⟨hE.sel [2, 7, 8, 10, 11, 13, 17, 149] (by kernel_rfl), H.x4.x3.x2.t3.t3.t2.t3⟩
              ·replace hE := hE.dec 128 c (by kernel_rfl)
               replace hm := cond_f c hm
               have c_18 := c
               refine WQ.d0 hE [15, 16, 17, 18, 19, 20, 21, 22, 23, 24, 25, 26, 27, 28, 29, 30, 31, 32, 33, 34, 35] [(149, .bool false)] fun a hE => ?_
               refine WQ.done (by kernel_rfl) ?_
               cases hm
               exact hk _ _ ⟨hE.sel [2, 7, 8, 10, 11, 13, 17, 149] (by kernel_rfl), H.x4.x3.x2.t3.t3.t3.t3⟩
           ·replace hE := hE.dec 116 c (by kernel_rfl)
            replace hm := cond_f c hm
            have c_19 := c
            refine WQ.d0 hE [3, 4, 5, 6, 7, 8, 9, 10, 11, 12, 13, 14] [(125, .bool false), (128, .bool (decide (t_9 > 0)))] fun a hE => ?_
            rcases Bool.eq_false_or_eq_true (decide (t_9 > 0)) with c | c
            ·replace hE := hE.dec 128 c (by kernel_rfl)
             replace hm := cond_t c hm
             have c_20 := c
             refine WQ.d0 hE [15, 16, 17] [(128, .bool true), (131, .bool ((w64 ((t_14.length : Int) - (t_7.length : Int))) != 1))] fun a hE => ?_
             rcases Bool.eq_false_or_eq_true ((w64 ((t_14.length : Int) - (t_7.length : Int))) != 1) with c | c
             ·replace hE := hE.dec 131 c (by kernel_rfl)
              replace hm := cond_t c hm
              have c_21 := c
              refine WQ.d0 hE [18, 19, 20, 21, 22, 23, 24, 25, 26, 27, 28, 29, 30, 31, 32, 33, 34, 35] [(149, .bool true)] fun a hE => ?_
              refine WQ.done (by kernel_rfl) ?_
              cases hm
              exact hk _ _ ⟨hE.sel [2, 7, 8, 10, 11, 13, 17, 149] (by kernel_rfl), H.x4.x3.x2.t3.t3.t3.t3⟩
             ·replace hE := hE.dec 131 c (by kernel_rfl)
              replace hm := cond_f c hm
              have c_22 := c
              obtain ⟨x2, ex2, hm⟩ := bind_some hm
              obtain ⟨b2, o2, hs2, hb2⟩ := SlRd.base (sl_rd 61 trace_Event.enc 14 _ _ _) trace_Event.enc_ok H 0 rfl ex2
              refine WQ.d hE [18, 19, 20, 21, 22, 23] [.pointer (some ⟨b2, o2, none⟩), .int .i64 x2.Reply.Why, .int .i64 x2.Reply.Job.At, .int .i64 x2.Reply.Job.Gen, .int .i64 x2.Reply.Time, .int .i64 x2.Reply.Data, .int .i64 x2.Reply.N, .int .i64 t_13.1.Why, .int .i64 t_13.1.Job.At, .int .i64 t_13.1.Job.Gen, .int .i64 t_13.1.Time, .int .i64 t_13.1.Data, .int .i64 t_13.1.N] [(131, .bool false), (136, .agg #[.int .i64 x2.Reply.Why, .int .i64 x2.Reply.Job.At, .int .i64 x2.Reply.Job.Gen, .int .i64 x2.Reply.Time, .int .i64 x2.Reply.Data, .int .i64 x2.Reply.N]), (137, .agg #[.int .i64 t_13.1.Why, .int .i64 t_13.1.Job.At, .int .i64 t_13.1.Job.Gen, .int .i64 t_13.1.Time, .int .i64 t_13.1.Data, .int .i64 t_13.1.N])] (obs := [.p ((sb4 : Option Addr) = some ⟨b2, o2, none⟩), .p (0 ≤ ((t_7.length : Int) : Int) ∧ ((t_7.length : Int) : Int) < ((t_14.length : Nat) : Int)), .cell ⟨b2, o2 + (Int.toNat (t_7.length : Int)) * 14 + 6, none⟩ (.int .i64 x2.Reply.Why), .cell ⟨b2, o2 + (Int.toNat (t_7.length : Int)) * 14 + 7, none⟩ (.int .i64 x2.Reply.Job.At), .cell ⟨b2, o2 + (Int.toNat (t_7.length : Int)) * 14 + 8, none⟩ (.int .i64 x2.Reply.Job.Gen), .cell ⟨b2, o2 + (Int.toNat (t_7.length : Int)) * 14 + 9, none⟩ (.int .i64 x2.Reply.Time), .cell ⟨b2, o2 + (Int.toNat (t_7.length : Int)) * 14 + 10, none⟩ (.int .i64 x2.Reply.Data), .cell ⟨b2, o2 + (Int.toNat (t_7.length : Int)) * 14 + 11, none⟩ (.int .i64 x2.Reply.N), .cell ⟨r1, 0, none⟩ (.int .i64 t_13.1.Why), .cell ⟨r1, 1, none⟩ (.int .i64 t_13.1.Job.At), .cell ⟨r1, 2, none⟩ (.int .i64 t_13.1.Job.Gen), .cell ⟨r1, 3, none⟩ (.int .i64 t_13.1.Time), .cell ⟨r1, 4, none⟩ (.int .i64 t_13.1.Data), .cell ⟨r1, 5, none⟩ (.int .i64 t_13.1.N)]) ⟨hs2, hb2, SlRd.cells (sl_rd 61 trace_Event.enc 14 _ _ _) trace_Event.enc_ok H 0 rfl hs2 ex2 6 _ rfl, SlRd.cells (sl_rd 61 trace_Event.enc 14 _ _ _) trace_Event.enc_ok H 0 rfl hs2 ex2 7 _ rfl, SlRd.cells (sl_rd 61 trace_Event.enc 14 _ _ _) trace_Event.enc_ok H 0 rfl hs2 ex2 8 _ rfl, SlRd.cells (sl_rd 61 trace_Event.enc 14 _ _ _) trace_Event.enc_ok H 0 rfl hs2 ex2 9 _ rfl, SlRd.cells (sl_rd 61 trace_Event.enc 14 _ _ _) trace_Event.enc_ok H 0 rfl hs2 ex2 10 _ rfl, SlRd.cells (sl_rd 61 trace_Event.enc 14 _ _ _) trace_Event.enc_ok H 0 rfl hs2 ex2 11 _ rfl, H.cell 2 rfl rfl, H.cell 2 rfl rfl, H.cell 2 rfl rfl, H.cell 2 rfl rfl, H.cell 2 rfl rfl, H.cell 2 rfl rfl, trivial⟩ fun a hE => ?_
              refine WQ.eff (j := 24) (obs := []) hE (by kernel_rfl) rfl rfl rfl rfl (by kernel_rfl) (OpTo.neS hE rfl rfl rfl (by kernel_rfl) (api_Reply.eq_run x2.Reply t_13.1)) ?_
              rintro _ _ ⟨rfl, rfl⟩
              refine ⟨trivial, fun a hE => ?_⟩
              refine WQ.d0 hE [25, 26] [(140, .bool (!(api_Reply.eq x2.Reply t_13.1)))] fun a hE => ?_
              rcases Bool.eq_false_or_eq_true (!(api_Reply.eq x2.Reply t_13.1)) with c | c
              ·replace hE := hE.dec 140 c (by kernel_rfl)
               replace hm := cond_t c hm
               have c_23 := c
               refine WQ.d0 hE [27, 28, 29, 30, 31, 32, 33, 34, 35] [(149, .bool true)] fun a hE => ?_
               refine WQ.done (by kernel_rfl) ?_
               cases hm
               exact hk _ _ ⟨hE.sel [2, 7, 8, 10, 11, 13, 17, 149] (by kernel_rfl), H.x4.x3.x2.t3.t3.t3.t3⟩
              ·replace hE := hE.dec 140 c (by kernel_rfl)
               replace hm := cond_f c hm
               have c_24 := c
               refine WQ.d0 hE [27, 30, 31] [(140, .bool false), (141, .pointer (some ⟨p, 0, none⟩)), (145, .int .i64 (w64 (t_9 - 1)))] fun a hE => ?_
               obtain ⟨t_19, et_19, hm⟩ := bind_some hm
               refine WQ.eff (j := 28) (obs := []) hE (by kernel_rfl) rfl rfl rfl rfl (by kernel_rfl) (OpTo.fn hE rfl rfl Tryz.call23 (trace_Book_Server_ok et_19 H.t1)) ?_
               rintro _ w ⟨rfl, H⟩
               refine ⟨trivial, fun a hE => ?_⟩
               replace H := trace_Book.open H
               try dsimp only at H
               obtain ⟨t_20, et_20, hm⟩ := bind_some hm
               refine WQ.eff (j := 29) (obs := []) hE (by kernel_rfl) rfl rfl rfl rfl (by kernel_rfl) (OpTo.fn hE rfl rfl Tryz.call13 (server_Server_Waits_ok et_20 H.t1)) ?_
               rintro _ w ⟨rfl, H⟩
               refine ⟨trivial, fun a hE => ?_⟩
               refine WQ.d0 hE [32, 33, 34, 35] [(149, .bool (t_20 != (w64 (t_9 - 1))))] fun a hE => ?_
               refine WQ.done (by kernel_rfl) ?_
               replace H := trace_Book.shut (trace_Book.A.mk al.s_p z12 z13 z14) (t_13.2) H.t2.t1.t2
               cases hm
               exact hk _ _ ⟨hE.sel [2, 7, 8, 10, 11, 13, 17, 149] (by kernel_rfl), H.x4.x3.x2.t3.t3.t2.t3⟩
            ·replace hE := hE.dec 128 c (by kernel_rfl)
             replace hm := cond_f c hm
             have c_25 := c
             refine WQ.d0 hE [15, 16, 17, 18, 19, 20, 21, 22, 23, 24, 25, 26, 27, 28, 29, 30, 31, 32, 33, 34, 35] [(149, .bool false)] fun a hE => ?_
             refine WQ.done (by kernel_rfl) ?_
             cases hm
             exact hk _ _ ⟨hE.sel [2, 7, 8, 10, 11, 13, 17, 149] (by kernel_rfl), H.x4.x3.x2.t3.t3.t3.t3⟩
          rintro a w ⟨hE, H⟩
          refine Runs.cond hE rfl (fun c => ?_) (fun c => ?_)
          ·replace hm := cond_t c hm
           refine Runs.sr ?_
           refine WR.seg hE 1 [] [6] (Lo := [(6, .bool false)]) (obs := []) rfl (by kernel_rfl) trivial fun a hE => ?_
           refine WR.done rfl ?_
           refine Runs.ret hE Tryz.func8 rfl rfl ?_
           cases hm
           dsimp only at hR2; cases hR2
           dsimp only at hR1; cases hR1
           dsimp only at hR; cases hR
           exact ⟨rfl, H.x2.x1.x0⟩
          ·replace hm := cond_f c hm
           refine Runs.skip ?_
           refine Runs.inBlock ?_
           cases hm
           exact hk _ _ ⟨_, rfl, hE.sel [2, 7, 8, 10, 11, 13, 17] (by kernel_rfl), H.t3.t3.t3.t3⟩
         ·replace hm := cond_f c hm
          refine Runs.sr ?_
          refine WR.e0 hE [(150, .bool (t_6.Kind == 3))] fun a hE => ?_
          refine Runs.cond hE rfl (fun c => ?_) (fun c => ?_)
          ·replace hm := cond_t c hm
           refine Runs.seq ?_
           obtain ⟨s9, es9, hm⟩ := bind_some hm
           refine Runs.join (fun a w => EnvOk 230 a [(2, .slice sb_l l.length sc_l), (7, .int .i64 t_), (8, .pointer (some ⟨p, 0, none⟩)), (10, .slice sb1 told.length sc1), (11, .int .i64 i), (13, .int .i64 (t_7.length : Int)), (17, .slice sb4 t_14.length sc4), (172, .bool s9)] ∧ St w0 (Sl 61 trace_Event.enc 14 sb4 sc4 t_14 :: trace_Book.R p (trace_Book.A.mk al.s_p z12 z13 z14) t_13.2 :: Sl 31 api_Ref.enc 2 sb1 sc1 told :: X_l :: As) w) (fun hk => ?_) ?_
           ·replace hm := es9; clear es9
            refine Runs.drawn mixed (by kernel_rfl) ?_
            replace H := H.drew
            refine WQ.d0 hE [0, 1, 2] [(154, .bool ((w64 ((t_14.length : Int) - (t_7.length : Int))) != 1))] fun a hE => ?_
            rcases Bool.eq_false_or_eq_true ((w64 ((t_14.length : Int) - (t_7.length : Int))) != 1) with c | c
            ·replace hE := hE.dec 154 c (by kernel_rfl)
             replace hm := cond_t c hm
             have c_26 := c
             refine WQ.d0 hE [3, 4, 5, 6, 7, 8, 9, 10, 11, 12, 13, 14, 15, 16, 17, 18, 19, 20] [(172, .bool true)] fun a hE => ?_
             refine WQ.done (by kernel_rfl) ?_
             cases hm
             exact hk _ _ ⟨hE.sel [2, 7, 8, 10, 11, 13, 17, 172] (by kernel_rfl), H.x4.x3.x2.t3.t3.t3.t3⟩
            ·replace hE := hE.dec 154 c (by kernel_rfl)
             replace hm := cond_f c hm
             have c_27 := c
             obtain ⟨x4, ex4, hm⟩ := bind_some hm
             obtain ⟨b4, o4, hs4, hb4⟩ := SlRd.base (sl_rd 61 trace_Event.enc 14 _ _ _) trace_Event.enc_ok H 0 rfl ex4
             refine WQ.d hE [3, 4, 5, 6, 7, 8] [.pointer (some ⟨b4, o4, none⟩), .int .i64 x4.Reply.Why, .int .i64 x4.Reply.Job.At, .int .i64 x4.Reply.Job.Gen, .int .i64 x4.Reply.Time, .int .i64 x4.Reply.Data, .int .i64 x4.Reply.N, .int .i64 t_13.1.Why, .int .i64 t_13.1.Job.At, .int .i64 t_13.1.Job.Gen, .int .i64 t_13.1.Time, .int .i64 t_13.1.Data, .int .i64 t_13.1.N] [(154, .bool false), (159, .agg #[.int .i64 x4.Reply.Why, .int .i64 x4.Reply.Job.At, .int .i64 x4.Reply.Job.Gen, .int .i64 x4.Reply.Time, .int .i64 x4.Reply.Data, .int .i64 x4.Reply.N]), (160, .agg #[.int .i64 t_13.1.Why, .int .i64 t_13.1.Job.At, .int .i64 t_13.1.Job.Gen, .int .i64 t_13.1.Time, .int .i64 t_13.1.Data, .int .i64 t_13.1.N])] (obs := [.p ((sb4 : Option Addr) = some ⟨b4, o4, none⟩), .p (0 ≤ ((t_7.length : Int) : Int) ∧ ((t_7.length : Int) : Int) < ((t_14.length : Nat) : Int)), .cell ⟨b4, o4 + (Int.toNat (t_7.length : Int)) * 14 + 6, none⟩ (.int .i64 x4.Reply.Why), .cell ⟨b4, o4 + (Int.toNat (t_7.length : Int)) * 14 + 7, none⟩ (.int .i64 x4.Reply.Job.At), .cell ⟨b4, o4 + (Int.toNat (t_7.length : Int)) * 14 + 8, none⟩ (.int .i64 x4.Reply.Job.Gen), .cell ⟨b4, o4 + (Int.toNat (t_7.length : Int)) * 14 + 9, none⟩ (.int .i64 x4.Reply.Time), .cell ⟨b4, o4 + (Int.toNat (t_7.length : Int)) * 14 + 10, none⟩ (.int .i64 x4.Reply.Data), .cell ⟨b4, o4 + (Int.toNat (t_7.length : Int)) * 14 + 11, none⟩ (.int .i64 x4.Reply.N), .cell ⟨r1, 0, none⟩ (.int .i64 t_13.1.Why), .cell ⟨r1, 1, none⟩ (.int .i64 t_13.1.Job.At), .cell ⟨r1, 2, none⟩ (.int .i64 t_13.1.Job.Gen), .cell ⟨r1, 3, none⟩ (.int .i64 t_13.1.Time), .cell ⟨r1, 4, none⟩ (.int .i64 t_13.1.Data), .cell ⟨r1, 5, none⟩ (.int .i64 t_13.1.N)]) ⟨hs4, hb4, SlRd.cells (sl_rd 61 trace_Event.enc 14 _ _ _) trace_Event.enc_ok H 0 rfl hs4 ex4 6 _ rfl, SlRd.cells (sl_rd 61 trace_Event.enc 14 _ _ _) trace_Event.enc_ok H 0 rfl hs4 ex4 7 _ rfl, SlRd.cells (sl_rd 61 trace_Event.enc 14 _ _ _) trace_Event.enc_ok H 0 rfl hs4 ex4 8 _ rfl, SlRd.cells (sl_rd 61 trace_Event.enc 14 _ _ _) trace_Event.enc_ok H 0 rfl hs4 ex4 9 _ rfl, SlRd.cells (sl_rd 61 trace_Event.enc 14 _ _ _) trace_Event.enc_ok H 0 rfl hs4 ex4 10 _ rfl, SlRd.cells (sl_rd 61 trace_Event.enc 14 _ _ _) trace_Event.enc_ok H 0 rfl hs4 ex4 11 _ rfl, H.cell 2 rfl rfl, H.cell 2 rfl rfl, H.cell 2 rfl rfl, H.cell 2 rfl rfl, H.cell 2 rfl rfl, H.cell 2 rfl rfl, trivial⟩ fun a hE => ?_
             refine WQ.eff (j := 9) (obs := []) hE (by kernel_rfl) rfl rfl rfl rfl (by kernel_rfl) (OpTo.neS hE rfl rfl rfl (by kernel_rfl) (api_Reply.eq_run x4.Reply t_13.1)) ?_
             rintro _ _ ⟨rfl, rfl⟩
             refine ⟨trivial, fun a hE => ?_⟩
             refine WQ.d0 hE [10, 11] [(163, .bool (!(api_Reply.eq x4.Reply t_13.1)))] fun a hE => ?_
             rcases Bool.eq_false_or_eq_true (!(api_Reply.eq x4.Reply t_13.1)) with c | c
             ·replace hE := hE.dec 163 c (by kernel_rfl)
              replace hm := cond_t c hm
              have c_28 := c
              refine WQ.d0 hE [12, 13, 14, 15, 16, 17, 18, 19, 20] [(172, .bool true)] fun a hE => ?_
              refine WQ.done (by kernel_rfl) ?_
              cases hm
              exact hk _ _ ⟨hE.sel [2, 7, 8, 10, 11, 13, 17, 172] (by kernel_rfl), H.x4.x3.x2.t3.t3.t3.t3⟩
             ·replace hE := hE.dec 163 c (by kernel_rfl)
              replace hm := cond_f c hm
              have c_29 := c
              obtain ⟨x5, ex5, hm⟩ := bind_some hm
              obtain ⟨b5, o5, hs5, hb5⟩ := SlRd.base (sl_rd 61 trace_Event.enc 14 _ _ _) trace_Event.enc_ok H 0 rfl ex5
              refine WQ.d hE [12, 13, 14, 15, 16, 17, 18] [.pointer (some ⟨b5, o5, none⟩), .int .i64 x5.Command.Kind, .int .i64 x5.Command.Queue, .int .i64 x5.Command.Job.At, .int .i64 x5.Command.Job.Gen, .int .i64 x5.Command.Time, .int .i64 x5.Command.Data, .int .i64 t_6.Command.Kind, .int .i64 t_6.Command.Queue, .int .i64 t_6.Command.Job.At, .int .i64 t_6.Command.Job.Gen, .int .i64 t_6.Command.Time, .int .i64 t_6.Command.Data] [(163, .bool false), (168, .agg #[.int .i64 x5.Command.Kind, .int .i64 x5.Command.Queue, .int .i64 x5.Command.Job.At, .int .i64 x5.Command.Job.Gen, .int .i64 x5.Command.Time, .int .i64 x5.Command.Data]), (170, .agg #[.int .i64 t_6.Command.Kind, .int .i64 t_6.Command.Queue, .int .i64 t_6.Command.Job.At, .int .i64 t_6.Command.Job.Gen, .int .i64 t_6.Command.Time, .int .i64 t_6.Command.Data])] (obs := [.p ((sb4 : Option Addr) = some ⟨b5, o5, none⟩), .p (0 ≤ ((t_7.length : Int) : Int) ∧ ((t_7.length : Int) : Int) < ((t_14.length : Nat) : Int)), .cell ⟨b5, o5 + (Int.toNat (t_7.length : Int)) * 14, none⟩ (.int .i64 x5.Command.Kind), .cell ⟨b5, o5 + (Int.toNat (t_7.length : Int)) * 14 + 1, none⟩ (.int .i64 x5.Command.Queue), .cell ⟨b5, o5 + (Int.toNat (t_7.length : Int)) * 14 + 2, none⟩ (.int .i64 x5.Command.Job.At), .cell ⟨b5, o5 + (Int.toNat (t_7.length : Int)) * 14 + 3, none⟩ (.int .i64 x5.Command.Job.Gen), .cell ⟨b5, o5 + (Int.toNat (t_7.length : Int)) * 14 + 4, none⟩ (.int .i64 x5.Command.Time), .cell ⟨b5, o5 + (Int.toNat (t_7.length : Int)) * 14 + 5, none⟩ (.int .i64 x5.Command.Data), .cell ⟨r, 2, none⟩ (.int .i64 t_6.Command.Kind), .cell ⟨r, 3, none⟩ (.int .i64 t_6.Command.Queue), .cell ⟨r, 4, none⟩ (.int .i64 t_6.Command.Job.At), .cell ⟨r, 5, none⟩ (.int .i64 t_6.Command.Job.Gen), .cell ⟨r, 6, none⟩ (.int .i64 t_6.Command.Time), .cell ⟨r, 7, none⟩ (.int .i64 t_6.Command.Data)]) ⟨hs5, hb5, SlRd.cells (sl_rd 61 trace_Event.enc 14 _ _ _) trace_Event.enc_ok H 0 rfl hs5 ex5 0 _ rfl, SlRd.cells (sl_rd 61 trace_Event.enc 14 _ _ _) trace_Event.enc_ok H 0 rfl hs5 ex5 1 _ rfl, SlRd.cells (sl_rd 61 trace_Event.enc 14 _ _ _) trace_Event.enc_ok H 0 rfl hs5 ex5 2 _ rfl, SlRd.cells (sl_rd 61 trace_Event.enc 14 _ _ _) trace_Event.enc_ok H 0 rfl hs5 ex5 3 _ rfl, SlRd.cells (sl_rd 61 trace_Event.enc 14 _ _ _) trace_Event.enc_ok H 0 rfl hs5 ex5 4 _ rfl, SlRd.cells (sl_rd 61 trace_Event.enc 14 _ _ _) trace_Event.enc_ok H 0 rfl hs5 ex5 5 _ rfl, H.cell 4 rfl rfl, H.cell 4 rfl rfl, H.cell 4 rfl rfl, H.cell 4 rfl rfl, H.cell 4 rfl rfl, H.cell 4 rfl rfl, trivial⟩ fun a hE => ?_
              refine WQ.eff (j := 19) (obs := []) hE (by kernel_rfl) rfl rfl rfl rfl (by kernel_rfl) (OpTo.neS hE rfl rfl rfl (by kernel_rfl) (api_Command.eq_run x5.Command t_6.Command)) ?_
              rintro _ _ ⟨rfl, rfl⟩
              refine ⟨trivial, fun a hE => ?_⟩
              refine WQ.d0 hE [20] [(172, .bool (!(api_Command.eq x5.Command t_6.Command)))] fun a hE => ?_
              refine WQ.done (by kernel_rfl) ?_
              cases hm
              exact hk _ _ ⟨hE.sel [2, 7, 8, 10, 11, 13, 17, 172] (by kernel_rfl), H.x4.x3.x2.t3.t3.t3.t3⟩
           rintro a w ⟨hE, H⟩
           refine Runs.cond hE rfl (fun c => ?_) (fun c => ?_)
           ·replace hm := cond_t c hm
            refine Runs.sr ?_
            refine WR.seg hE 1 [] [6] (Lo := [(6, .bool false)]) (obs := []) rfl (by kernel_rfl) trivial fun a hE => ?_
            refine WR.done rfl ?_
            refine Runs.ret hE Tryz.func8 rfl rfl ?_
            cases hm
            dsimp only at hR2; cases hR2
            dsimp only at hR1; cases hR1
            dsimp only at hR; cases hR
            exact ⟨rfl, H.x2.x1.x0⟩
           ·replace hm := cond_f c hm
            refine Runs.skip ?_
            refine Runs.inBlock ?_
            cases hm
            exact hk _ _ ⟨_, rfl, hE.sel [2, 7, 8, 10, 11, 13, 17] (by kernel_rfl), H.t3.t3.t3.t3⟩
          ·replace hm := cond_f c hm
           refine Runs.sr ?_
           refine WR.e0 hE [(173, .bool (t_6.Kind == 4))] fun a hE => ?_
           refine Runs.cond hE rfl (fun c => ?_) (fun c => ?_)
           ·replace hm := cond_t c hm
            refine Runs.seq ?_
            obtain ⟨s10, es10, hm⟩ := bind_some hm
            refine Runs.join (fun a w => EnvOk 230 a [(2, .slice sb_l l.length sc_l), (7, .int .i64 t_), (8, .pointer (some ⟨p, 0, none⟩)), (10, .slice sb1 told.length sc1), (11, .int .i64 i), (13, .int .i64 (t_7.length : Int)), (17, .slice sb4 t_14.length sc4), (191, .bool s10)] ∧ St w0 (Sl 61 trace_Event.enc 14 sb4 sc4 t_14 :: trace_Book.R p (trace_Book.A.mk al.s_p z12 z13 z14) t_13.2 :: Sl 31 api_Ref.enc 2 sb1 sc1 told :: X_l :: As) w) (fun hk => ?_) ?_
            ·replace hm := es10; clear es10
             refine Runs.region ?_
             refine WR.d hE 3 [.int .i64 t_13.1.Why, .int .i64 t_13.1.Job.At, .int .i64 t_13.1.Job.Gen, .int .i64 t_13.1.Time, .int .i64 t_13.1.Data, .int .i64 t_13.1.N] [(175, .agg #[.int .i64 t_13.1.Why, .int .i64 t_13.1.Job.At, .int .i64 t_13.1.Job.Gen, .int .i64 t_13.1.Time, .int .i64 t_13.1.Data, .int .i64 t_13.1.N]), (177, .agg #[.int .i64 0, .int .i64 0, .int .i64 0, .int .i64 0, .int .i64 0, .int .i64 t_12])] (obs := [.cell ⟨r1, 0, none⟩ (.int .i64 t_13.1.Why), .cell ⟨r1, 1, none⟩ (.int .i64 t_13.1.Job.At), .cell ⟨r1, 2, none⟩ (.int .i64 t_13.1.Job.Gen), .cell ⟨r1, 3, none⟩ (.int .i64 t_13.1.Time), .cell ⟨r1, 4, none⟩ (.int .i64 t_13.1.Data), .cell ⟨r1, 5, none⟩ (.int .i64 t_13.1.N)]) ⟨H.cell 2 rfl rfl, H.cell 2 rfl rfl, H.cell 2 rfl rfl, H.cell 2 rfl rfl, H.cell 2 rfl rfl, H.cell 2 rfl rfl, trivial⟩ fun a hE => ?_
             refine WR.eff hE rfl rfl rfl rfl (OpTo.neS hE rfl rfl rfl (by kernel_rfl) (api_Reply.eq_run t_13.1 (api_Reply.mk 0 (api_Ref.mk 0 0) 0 0 t_12))) ?_
             rintro _ _ ⟨rfl, rfl⟩ a hE
             refine WR.d0 hE 5 [(179, .bool (!(api_Reply.eq t_13.1 (api_Reply.mk 0 (api_Ref.mk 0 0) 0 0 t_12))))] fun a hE => ?_
             rcases Bool.eq_false_or_eq_true (!(api_Reply.eq t_13.1 (api_Reply.mk 0 (api_Ref.mk 0 0) 0 0 t_12))) with c | c
             ·replace hE := hE.dec 179 c (by kernel_rfl)
              replace hm := cond_t c hm
              have c_30 := c
              refine WR.e0 hE [(191, .bool true)] fun a hE => ?_
              cases hm
              exact hk _ _ ⟨hE.sel [2, 7, 8, 10, 11, 13, 17, 191] (by kernel_rfl), H.x4.x3.x2.t3.t3.t3.t3⟩
             ·replace hE := hE.dec 179 c (by kernel_rfl)
              replace hm := cond_f c hm
              have c_31 := c
              refine WR.d0 hE 11 [(185, .bool ((w64 ((t_14.length : Int) - (t_7.length : Int))) != (w64 (t_12 + 1))))] fun a hE => ?_
              rcases Bool.eq_false_or_eq_true ((w64 ((t_14.length : Int) - (t_7.length : Int))) != (w64 (t_12 + 1))) with c | c
              ·replace hE := hE.dec 185 c (by kernel_rfl)
               replace hm := cond_t c hm
               have c_32 := c
               refine WR.e0 hE [(191, .bool true)] fun a hE => ?_
               cases hm
               exact hk _ _ ⟨hE.sel [2, 7, 8, 10, 11, 13, 17, 191] (by kernel_rfl), H.x4.x3.x2.t3.t3.t3.t3⟩
              ·replace hE := hE.dec 185 c (by kernel_rfl)
               replace hm := cond_f c hm
               have c_33 := c
               refine WR.d0 hE 12 [(185, .bool false), (186, .pointer (some ⟨p, 0, none⟩))] fun a hE => ?_
               obtain ⟨t_21, et_21, hm⟩ := bind_some hm
               refine WR.eff hE rfl rfl rfl rfl (OpTo.fn hE rfl rfl Tryz.call23 (trace_Book_Server_ok et_21 H.t1)) ?_
               rintro _ w ⟨rfl, H⟩ a hE
               replace H := trace_Book.open H
               try dsimp only at H
               obtain ⟨t_22, et_22, hm⟩ := bind_some hm
               refine WR.eff hE rfl rfl rfl rfl (OpTo.fn hE rfl rfl Tryz.call24 (server_Server_Dispatcher_ok et_22 H.t1)) ?_
               rintro _ w ⟨rfl, H⟩ a hE
               replace H := server_Server.open H
               obtain ⟨t_23, et_23, hm⟩ := bind_some hm
               refine WR.eff hE rfl rfl rfl rfl (OpTo.fn hE rfl rfl Tryz.call26 (dispatch_Dispatcher_Due_ok et_23 H.t1)) ?_
               rintro _ w ⟨rfl, H⟩ a hE
               refine WR.e0 hE [(191, .bool (t_23 != 0))] fun a hE => ?_
               replace H := server_Server.shut z12 (t_13.2.s) H.t2.t1.t2
               replace H := trace_Book.shut (trace_Book.A.mk al.s_p z12 z13 z14) (t_13.2) H.t2.t1.t2
               cases hm
               exact hk _ _ ⟨hE.sel [2, 7, 8, 10, 11, 13, 17, 191] (by kernel_rfl), H.x4.x3.x2.t3.t3.t2.t3⟩
            rintro a w ⟨hE, H⟩
            refine Runs.cond hE rfl (fun c => ?_) (fun c => ?_)
            ·replace hm := cond_t c hm
             refine Runs.sr ?_
             refine WR.seg hE 1 [] [6] (Lo := [(6, .bool false)]) (obs := []) rfl (by kernel_rfl) trivial fun a hE => ?_
             refine WR.done rfl ?_
             refine Runs.ret hE Tryz.func8 rfl rfl ?_
             cases hm
             dsimp only at hR2; cases hR2
             dsimp only at hR1; cases hR1
             dsimp only at hR; cases hR
             exact ⟨rfl, H.x2.x1.x0⟩
            ·replace hm := cond_f c hm
             refine Runs.skip ?_
             refine Runs.inBlock ?_
             cases hm
             exact hk _ _ ⟨_, rfl, hE.sel [2, 7, 8, 10, 11, 13, 17] (by kernel_rfl), H.t3.t3.t3.t3⟩
           ·replace hm := cond_f c hm
            refine Runs.seq ?_
            obtain ⟨s11, es11, hm⟩ := bind_some hm
            refine Runs.join (fun a w => EnvOk 230 a [(2, .slice sb_l l.length sc_l), (7, .int .i64 t_), (8, .pointer (some ⟨p, 0, none⟩)), (10, .slice sb1 told.length sc1), (11, .int .i64 i), (13, .int .i64 (t_7.length : Int)), (17, .slice sb4 t_14.length sc4), (88, .bool s11)] ∧ St w0 (Sl 61 trace_Event.enc 14 sb4 sc4 t_14 :: trace_Book.R p (trace_Book.A.mk al.s_p z12 z13 z14) t_13.2 :: Sl 31 api_Ref.enc 2 sb1 sc1 told :: X_l :: As) w) (fun hk => ?_) ?_
            ·replace hm := es11; clear es11
             refine Runs.region ?_
             refine WR.d hE 2 [.int .i64 t_13.1.Why, .int .i64 t_13.1.Job.At, .int .i64 t_13.1.Job.Gen, .int .i64 t_13.1.Time, .int .i64 t_13.1.Data, .int .i64 t_13.1.N] [(82, .agg #[.int .i64 t_13.1.Why, .int .i64 t_13.1.Job.At, .int .i64 t_13.1.Job.Gen, .int .i64 t_13.1.Time, .int .i64 t_13.1.Data, .int .i64 t_13.1.N]), (83, .agg #[.int .i64 12, .int .i64 0, .int .i64 0, .int .i64 0, .int .i64 0, .int .i64 0])] (obs := [.cell ⟨r1, 0, none⟩ (.int .i64 t_13.1.Why), .cell ⟨r1, 1, none⟩ (.int .i64 t_13.1.Job.At), .cell ⟨r1, 2, none⟩ (.int .i64 t_13.1.Job.Gen), .cell ⟨r1, 3, none⟩ (.int .i64 t_13.1.Time), .cell ⟨r1, 4, none⟩ (.int .i64 t_13.1.Data), .cell ⟨r1, 5, none⟩ (.int .i64 t_13.1.N)]) ⟨H.cell 2 rfl rfl, H.cell 2 rfl rfl, H.cell 2 rfl rfl, H.cell 2 rfl rfl, H.cell 2 rfl rfl, H.cell 2 rfl rfl, trivial⟩ fun a hE => ?_
             refine WR.eff hE rfl rfl rfl rfl (OpTo.neS hE rfl rfl rfl (by kernel_rfl) (api_Reply.eq_run t_13.1 (api_Reply.mk 12 (api_Ref.mk 0 0) 0 0 0))) ?_
             rintro _ _ ⟨rfl, rfl⟩ a hE
             refine WR.d0 hE 4 [(85, .bool (!(api_Reply.eq t_13.1 (api_Reply.mk 12 (api_Ref.mk 0 0) 0 0 0))))] fun a hE => ?_
             rcases Bool.eq_false_or_eq_true (!(api_Reply.eq t_13.1 (api_Reply.mk 12 (api_Ref.mk 0 0) 0 0 0))) with c | c
             ·replace hE := hE.dec 85 c (by kernel_rfl)
              replace hm := cond_t c hm
              have c_34 := c
              refine WR.e0 hE [(88, .bool true)] fun a hE => ?_
              cases hm
              exact hk _ _ ⟨hE.sel [2, 7, 8, 10, 11, 13, 17, 88] (by kernel_rfl), H.x4.x3.x2.t3.t3.t3.t3⟩
             ·replace hE := hE.dec 85 c (by kernel_rfl)
              replace hm := cond_f c hm
              have c_35 := c
              refine WR.e0 hE [(88, .bool ((w64 ((t_14.length : Int) - (t_7.length : Int))) != 0))] fun a hE => ?_
              cases hm
              exact hk _ _ ⟨hE.sel [2, 7, 8, 10, 11, 13, 17, 88] (by kernel_rfl), H.x4.x3.x2.t3.t3.t3.t3⟩
            rintro a w ⟨hE, H⟩
            refine Runs.cond hE rfl (fun c => ?_) (fun c => ?_)
            ·replace hm := cond_t c hm
             refine Runs.sr ?_
             refine WR.seg hE 1 [] [6] (Lo := [(6, .bool false)]) (obs := []) rfl (by kernel_rfl) trivial fun a hE => ?_
             refine WR.done rfl ?_
             refine Runs.ret hE Tryz.func8 rfl rfl ?_
             cases hm
             dsimp only at hR2; cases hR2
             dsimp only at hR1; cases hR1
             dsimp only at hR; cases hR
             exact ⟨rfl, H.x2.x1.x0⟩
            ·replace hm := cond_f c hm
             refine Runs.skip ?_
             refine Runs.inBlock ?_
             cases hm
             exact hk _ _ ⟨_, rfl, hE.sel [2, 7, 8, 10, 11, 13, 17] (by kernel_rfl), H.t3.t3.t3.t3⟩
       rintro a w ⟨s6, rfl, hE, H⟩
       replace hm := hR2; dsimp only at hm
       obtain ⟨s12, es12, hm⟩ := bind_some hm
       refine Runs.join (fun a w => ∃ (sb6 : Option Addr), ∃ (sc6 : Nat), EnvOk 230 a [(2, .slice sb_l l.length sc_l), (7, .int .i64 t_), (8, .pointer (some ⟨p, 0, none⟩)), (10, .slice sb6 s12.length sc6), (11, .int .i64 i)] ∧ St w0 (Sl 31 api_Ref.enc 2 sb6 sc6 s12 :: trace_Book.R p (trace_Book.A.mk al.s_p z12 z13 z14) t_13.2 :: X_l :: As) w) (fun hk => ?_) ?_
       ·replace hm := es12; clear es12
        refine Runs.block ?_
        refine Runs.loop (fun m a w => ∃ (told1 : List api_Ref), ∃ (was : Int), ∃ (sb7 : Option Addr), ∃ (sc7 : Nat), EnvOk 230 a [(2, .slice sb_l l.length sc_l), (7, .int .i64 t_), (8, .pointer (some ⟨p, 0, none⟩)), (10, .slice sb7 told1.length sc7), (11, .int .i64 i), (13, .int .i64 was), (17, .slice sb4 t_14.length sc4)] ∧ St w0 (Sl 31 api_Ref.enc 2 sb7 sc7 told1 :: Sl 61 trace_Event.enc 14 sb4 sc4 t_14 :: trace_Book.R p (trace_Book.A.mk al.s_p z12 z13 z14) t_13.2 :: X_l :: As) w ∧ thicketlaw25_TracePlays_l1 t_ i t_14 t_13.2 l m told1 was = some s12) m ⟨told, (t_7.length : Int), sb1, sc1, hE.sel [2, 7, 8, 10, 11, 13, 17] (by kernel_rfl), H.t3.t2.t2.t3, hm⟩ ?_
        rintro m ih a w ⟨told1, was, sb7, sc7, hE, H, hm⟩
        cases m with
        | zero => simp [thicketlaw25_TracePlays_l1] at hm
        | succ m =>
         rw [thicketlaw25_TracePlays_l1] at hm
         refine Runs.seq ?_
         refine Runs.sr ?_
         refine WR.seg hE 4 [] [2, 7, 8, 10, 11, 13, 17, 195] (Lo := [(2, .slice sb_l l.length sc_l), (7, .int .i64 t_), (8, .pointer (some ⟨p, 0, none⟩)), (10, .slice sb7 told1.length sc7), (11, .int .i64 i), (13, .int .i64 was), (17, .slice sb4 t_14.length sc4), (195, .bool (decide (was < (t_14.length : Int))))]) (obs := []) rfl (by kernel_rfl) trivial fun a hE => ?_
         refine WR.done rfl ?_
         refine Runs.cond hE rfl (fun c => ?_) (fun c => ?_)
         ·replace hm := cond_t c hm
          refine Runs.skip ?_
          refine Runs.seq ?_
          obtain ⟨s13, es13, hm⟩ := bind_some hm
          refine Runs.join (fun a w => ∃ (sb8 : Option Addr), ∃ (sc8 : Nat), EnvOk 230 a [(2, .slice sb_l l.length sc_l), (7, .int .i64 t_), (8, .pointer (some ⟨p, 0, none⟩)), (10, .slice sb8 s13.length sc8), (11, .int .i64 i), (13, .int .i64 was), (17, .slice sb4 t_14.length sc4)] ∧ St w0 (Sl 31 api_Ref.enc 2 sb8 sc8 s13 :: Sl 61 trace_Event.enc 14 sb4 sc4 t_14 :: trace_Book.R p (trace_Book.A.mk al.s_p z12 z13 z14) t_13.2 :: X_l :: As) w) (fun hk => ?_) ?_
          ·replace hm := es13; clear es13
           refine Runs.block ?_
           refine Runs.seq ?_
           obtain ⟨s14, es14, hm⟩ := bind_some hm
           refine Runs.join (fun a w => EnvOk 230 a [(2, .slice sb_l l.length sc_l), (7, .int .i64 t_), (8, .pointer (some ⟨p, 0, none⟩)), (10, .slice sb7 told1.length sc7), (11, .int .i64 i), (13, .int .i64 was), (17, .slice sb4 t_14.length sc4), (213, .bool s14)] ∧ St w0 (Sl 31 api_Ref.enc 2 sb7 sc7 told1 :: Sl 61 trace_Event.enc 14 sb4 sc4 t_14 :: trace_Book.R p (trace_Book.A.mk al.s_p z12 z13 z14) t_13.2 :: X_l :: As) w) (fun hk => ?_) ?_
           ·replace hm := es14; clear es14
            refine Runs.region ?_
            obtain ⟨x8, ex8, hm⟩ := bind_some hm
            obtain ⟨b8, o8, hs8, hb8⟩ := SlRd.base (sl_rd 61 trace_Event.enc 14 _ _ _) trace_Event.enc_ok H 1 rfl ex8
            refine WR.d hE 8 [.pointer (some ⟨b8, o8, none⟩), .int .i64 x8.Command.Kind] [(205, .bool (x8.Command.Kind == 1))] (obs := [.p ((sb4 : Option Addr) = some ⟨b8, o8, none⟩), .p (0 ≤ (was : Int) ∧ (was : Int) < ((t_14.length : Nat) : Int)), .cell ⟨b8, o8 + (Int.toNat was) * 14, none⟩ (.int .i64 x8.Command.Kind)]) ⟨hs8, hb8, SlRd.cells (sl_rd 61 trace_Event.enc 14 _ _ _) trace_Event.enc_ok H 1 rfl hs8 ex8 0 _ rfl, trivial⟩ fun a hE => ?_
            rcases Bool.eq_false_or_eq_true (x8.Command.Kind == 1) with c | c
            ·replace hE := hE.dec 205 c (by kernel_rfl)
             replace hm := cond_t c hm
             have c_36 := c
             obtain ⟨x9, ex9, hm⟩ := bind_some hm
             obtain ⟨b9, o9, hs9, hb9⟩ := SlRd.base (sl_rd 61 trace_Event.enc 14 _ _ _) trace_Event.enc_ok H 1 rfl ex9
             refine WR.e hE [.pointer (some ⟨b9, o9, none⟩), .int .i64 x9.Reply.Why] [(213, .bool (x9.Reply.Why == 0))] (obs := [.p ((sb4 : Option Addr) = some ⟨b9, o9, none⟩), .p (0 ≤ (was : Int) ∧ (was : Int) < ((t_14.length : Nat) : Int)), .cell ⟨b9, o9 + (Int.toNat was) * 14 + 6, none⟩ (.int .i64 x9.Reply.Why)]) ⟨hs9, hb9, SlRd.cells (sl_rd 61 trace_Event.enc 14 _ _ _) trace_Event.enc_ok H 1 rfl hs9 ex9 6 _ rfl, trivial⟩ fun a hE => ?_
             cases hm
             exact hk _ _ ⟨hE.sel [2, 7, 8, 10, 11, 13, 17, 213] (by kernel_rfl), H.t3.t3.t3.t3⟩
            ·replace hE := hE.dec 205 c (by kernel_rfl)
             replace hm := cond_f c hm
             have c_37 := c
             refine WR.e0 hE [(213, .bool false)] fun a hE => ?_
             cases hm
             exact hk _ _ ⟨hE.sel [2, 7, 8, 10, 11, 13, 17, 213] (by kernel_rfl), H.t3.t3.t3.t3⟩
           rintro a w ⟨hE, H⟩
           refine Runs.cond hE rfl (fun c => ?_) (fun c => ?_)
           ·replace hm := cond_t c hm
            refine Runs.region ?_
            obtain ⟨x10, ex10, hm⟩ := bind_some hm
            obtain ⟨b10, o10, hs10, hb10⟩ := SlRd.base (sl_rd 61 trace_Event.enc 14 _ _ _) trace_Event.enc_ok H 1 rfl ex10
            refine WR.seg hE 7 [.pointer (some ⟨b10, o10, none⟩), .int .i64 x10.Reply.Job.At, .int .i64 x10.Reply.Job.Gen] [2, 7, 8, 10, 11, 13, 17, 214, 220] (Lo := [(2, .slice sb_l l.length sc_l), (7, .int .i64 t_), (8, .pointer (some ⟨p, 0, none⟩)), (10, .slice sb7 told1.length sc7), (11, .int .i64 i), (13, .int .i64 was), (17, .slice sb4 t_14.length sc4), (214, .slice sb7 told1.length sc7), (220, .agg #[.int .i64 x10.Reply.Job.At, .int .i64 x10.Reply.Job.Gen])]) (obs := [.p ((sb4 : Option Addr) = some ⟨b10, o10, none⟩), .p (0 ≤ (was : Int) ∧ (was : Int) < ((t_14.length : Nat) : Int)), .cell ⟨b10, o10 + (Int.toNat was) * 14 + 7, none⟩ (.int .i64 x10.Reply.Job.At), .cell ⟨b10, o10 + (Int.toNat was) * 14 + 8, none⟩ (.int .i64 x10.Reply.Job.Gen)]) rfl (by kernel_rfl) ⟨hs10, hb10, SlRd.cells (sl_rd 61 trace_Event.enc 14 _ _ _) trace_Event.enc_ok H 1 rfl hs10 ex10 7 _ rfl, SlRd.cells (sl_rd 61 trace_Event.enc 14 _ _ _) trace_Event.enc_ok H 1 rfl hs10 ex10 8 _ rfl, trivial⟩ fun a hE => ?_
            refine WR.eff hE rfl rfl rfl rfl (OpTo.buildSl (T := 31) hE H api_Ref.enc_ok ([x10.Reply.Job] : List api_Ref) rfl (fun _ => by kernel_rfl) rfl rfl rfl) ?_
            rintro _ w ⟨r2, rfl, H⟩ a hE
            obtain ⟨l4, el4, hm⟩ := bind_some hm
            replace H := H.t1
            refine WR.eff hE rfl rfl rfl rfl (OpTo.appendM el4 hE H api_Ref.enc_ok rfl rfl rfl rfl rfl rfl rfl rfl rfl rfl (SlRd.all (sl_rd 31 api_Ref.enc 2 _ _ _) api_Ref.enc_ok H 1 rfl) rfl) ?_
            rintro _ w ⟨sb9, sc9, rfl, H⟩ a hE
            refine WR.e0 hE [(10, .slice sb9 l4.length sc9)] fun a hE => ?_
            refine Runs.inBlock ?_
            cases hm
            exact hk _ _ ⟨sb9, sc9, hE.sel [2, 7, 8, 10, 11, 13, 17] (by kernel_rfl), H.x1.t3.t3.t3.t3⟩
           ·replace hm := cond_f c hm
            refine Runs.skip ?_
            refine Runs.inBlock ?_
            cases hm
            exact hk _ _ ⟨sb7, sc7, hE.sel [2, 7, 8, 10, 11, 13, 17] (by kernel_rfl), H.t3.t3.t3.t3⟩
          rintro a w ⟨sb8, sc8, hE, H⟩
          refine Runs.region ?_
          refine WR.seg hE 3 [] [2, 7, 8, 10, 11, 13, 17] (Lo := [(2, .slice sb_l l.length sc_l), (7, .int .i64 t_), (8, .pointer (some ⟨p, 0, none⟩)), (10, .slice sb8 s13.length sc8), (11, .int .i64 i), (13, .int .i64 (w64 (was + 1))), (17, .slice sb4 t_14.length sc4)]) (obs := []) rfl (by kernel_rfl) trivial fun a hE => ?_
          refine WR.done rfl ?_
          exact ih m (Nat.lt_succ_self m) _ _ ⟨s13, w64 (was + 1), sb8, sc8, hE.sel [2, 7, 8, 10, 11, 13, 17] (by kernel_rfl), H.t3.t3.t3.t3, hm⟩
         ·replace hm := cond_f c hm
          refine Runs.exit rfl ?_
          cases hm
          exact hk _ _ ⟨sb7, sc7, hE.sel [2, 7, 8, 10, 11] (by kernel_rfl), H.x1.t2.t2.t2⟩
       rintro a w ⟨sb6, sc6, hE, H⟩
       refine Runs.inBlock ?_
       cases hm
       exact hk _ _ ⟨_, rfl, sb6, sc6, z12, z13, z14, hE.sel [2, 7, 8, 10, 11] (by kernel_rfl), H.t2.t2.t2⟩
      rintro a w ⟨s4, rfl, sb2, sc2, z9, z10, z11, hE, H⟩
      replace hm := hR1; dsimp only at hm
      refine Runs.region ?_
      refine WR.seg hE 3 [] [2, 7, 8, 10, 11] (Lo := [(2, .slice sb_l l.length sc_l), (7, .int .i64 t_), (8, .pointer (some ⟨p, 0, none⟩)), (10, .slice sb2 s4.1.length sc2), (11, .int .i64 (w64 (i + 1)))]) (obs := []) rfl (by kernel_rfl) trivial fun a hE => ?_
      refine WR.done rfl ?_
      exact ih m (Nat.lt_succ_self m) _ _ ⟨s4.1, w64 (i + 1), s4.2, sb2, sc2, z9, z10, z11, hE.sel [2, 7, 8, 10, 11] (by kernel_rfl), H.t2.t2.t2, hm⟩
     ·replace hm := cond_f c hm
      refine Runs.exit rfl ?_
      cases hm
      exact hk _ _ ⟨_, rfl, z6, z7, z8, hE.sel [7, 8] (by kernel_rfl), H.x0.t1.t1⟩
   rintro a w ⟨s2, rfl, z3, z4, z5, hE, H⟩
   replace hm := hR; dsimp only at hm
   refine Runs.seq ?_
   obtain ⟨s15, es15, hm⟩ := bind_some hm
   refine Runs.join (fun a w => EnvOk 230 a [(6, .bool s15)] ∧ St w0 (trace_Book.R p (trace_Book.A.mk al.s_p z3 z4 z5) s2 :: X_l :: As) w) (fun hk => ?_) ?_
   ·replace hm := es15; clear es15
    refine Runs.region ?_
    refine WR.seg hE 2 [] [223, 224] (Lo := [(223, .int .i64 t_), (224, .pointer (some ⟨p, 0, none⟩))]) (obs := []) rfl (by kernel_rfl) trivial fun a hE => ?_
    obtain ⟨t_24, et_24, hm⟩ := bind_some hm
    refine WR.eff hE rfl rfl rfl rfl (OpTo.fn hE rfl rfl Tryz.call21 (trace_Book_Events_ok et_24 H)) ?_
    rintro _ w ⟨sb10, sc10, rfl, H⟩ a hE
    obtain ⟨t_25, et_25, hm⟩ := bind_some hm
    refine WR.eff hE rfl rfl rfl rfl (OpTo.fn hE rfl rfl Tryz.call27 (thicketlaw25_right_ok (hX_l := (sl_rd 61 trace_Event.enc 14 _ _ _)) (hC_l := (H.slCap 0 rfl).1) et_25 H)) ?_
    rintro _ w ⟨rfl, H⟩ a hE
    refine WR.d0 hE 5 [(227, .bool t_25)] fun a hE => ?_
    rcases Bool.eq_false_or_eq_true t_25 with c | c
    ·replace hE := hE.dec 227 c (by kernel_rfl)
     replace hm := cond_t c hm
     have c_38 := c
     obtain ⟨t_26, et_26, hm⟩ := bind_some hm
     refine WR.eff hE rfl rfl rfl rfl (OpTo.fn hE rfl rfl Tryz.call22 (thicketlaw25_known_ok et_26 H)) ?_
     rintro _ w ⟨rfl, H⟩ a hE
     refine WR.e0 hE [(6, .bool t_26)] fun a hE => ?_
     cases hm
     exact hk _ _ ⟨hE.sel [6] (by kernel_rfl), H.x0.t1.t1⟩
    ·replace hE := hE.dec 227 c (by kernel_rfl)
     replace hm := cond_f c hm
     have c_39 := c
     refine WR.e0 hE [(6, .bool false)] fun a hE => ?_
     cases hm
     exact hk _ _ ⟨hE.sel [6] (by kernel_rfl), H.x0.t1.t1⟩
   rintro a w ⟨hE, H⟩
   refine Runs.ret hE Tryz.func8 rfl rfl ?_
   cases hm
   exact ⟨rfl, H.x0⟩

theorem thicketlaw25_TraceNumbers_ok {w0 w : World} {As : List HP} {k : Nat}  {t : Bool}  (hm : thicketlaw25_TraceNumbers k = some t) (H : St w0 (As) w) :
    CallsR Tryz.prog 7 #[] w fun v w' => v = .bool t ∧ St w0 (As) w' := by
 rw [thicketlaw25_TraceNumbers] at hm
 refine enter (args := []) Tryz.func7 rfl rfl rfl fun a hE => ?_
 refine Runs.sr ?_
 refine WR.seg hE 1 [] [] (Lo := []) (obs := []) rfl (by kernel_rfl) trivial fun a hE => ?_
 refine WR.done rfl ?_
 refine Runs.sr ?_
 obtain ⟨t_, et_, hm⟩ := bind_some hm
 refine WR.eff hE rfl rfl rfl rfl (OpTo.fn hE rfl rfl Tryz.call16 (trace_New_ok et_ H)) ?_
 rintro _ w ⟨p, al, rfl, H⟩ a hE
 rcases ho : t_.1 with _ | m_
 ·replace hm := case_n ho hm
  rw [ho] at hE H
  replace H := H.x0
  refine WR.seg hE 6 [] [2] (Lo := [(2, .int .i64 t_.2)]) (obs := []) rfl (by kernel_rfl) trivial fun a hE => ?_
  refine WR.done rfl ?_
  refine Runs.sr ?_
  obtain ⟨t_1, et_1, hm⟩ := bind_some hm
  refine WR.eff hE rfl rfl rfl rfl (OpTo.fn hE rfl rfl Tryz.call16 (trace_New_ok et_1 H)) ?_
  rintro _ w ⟨p1, al1, rfl, H⟩ a hE
  rcases ho1 : t_1.1 with _ | m_1
  ·replace hm := case_n ho1 hm
   rw [ho1] at hE H
   replace H := H.x0
   refine WR.seg hE 6 [] [2, 4] (Lo := [(2, .int .i64 t_.2), (4, .int .i64 t_1.2)]) (obs := []) rfl (by kernel_rfl) trivial fun a hE => ?_
   refine WR.done rfl ?_
   refine Runs.sr ?_
   refine WR.e0 hE [(5, .slice none 0 0)] fun a hE => ?_
   refine Runs.seq ?_
   refine Runs.sr ?_
   refine WR.e0 hE [(6, .int .i64 0)] fun a hE => ?_
   obtain ⟨s, es, hm⟩ := bind_some hm
   refine Runs.join (fun a w => ∃ (sb1 : Option Addr), ∃ (sc1 : Nat), EnvOk 60 a [(2, .int .i64 t_.2), (4, .int .i64 t_1.2), (5, .slice sb1 s.length sc1)] ∧ St w0 (Sl 67 thicketlaw25_Ask.enc 21 sb1 sc1 s :: As) w) (fun hk => ?_) ?_
   ·replace hm := es; clear es
    replace H := H.slNil 67 thicketlaw25_Ask.enc 21
    refine Runs.block ?_
    refine Runs.loop (fun m a w => ∃ (l : List thicketlaw25_Ask), ∃ (i : Int), ∃ (sb2 : Option Addr), ∃ (sc2 : Nat), EnvOk 60 a [(2, .int .i64 t_.2), (4, .int .i64 t_1.2), (5, .slice sb2 l.length sc2), (6, .int .i64 i)] ∧ St w0 (Sl 67 thicketlaw25_Ask.enc 21 sb2 sc2 l :: As) w ∧ thicketlaw25_TraceNumbers_l0 t_.2 t_1.2 m l i = some s) k ⟨([] : List thicketlaw25_Ask), 0, none, 0, hE.sel [2, 4, 5, 6] (by kernel_rfl), H, hm⟩ ?_
    rintro m ih a w ⟨l, i, sb2, sc2, hE, H, hm⟩
    cases m with
    | zero => simp [thicketlaw25_TraceNumbers_l0] at hm
    | succ m =>
     rw [thicketlaw25_TraceNumbers_l0] at hm
     refine Runs.seq ?_
     refine Runs.sr ?_
     refine WR.seg hE 2 [] [2, 4, 5, 6, 16] (Lo := [(2, .int .i64 t_.2), (4, .int .i64 t_1.2), (5, .slice sb2 l.length sc2), (6, .int .i64 i), (16, .bool (decide (i < 60)))]) (obs := []) rfl (by kernel_rfl) trivial fun a hE => ?_
     refine WR.done rfl ?_
     refine Runs.cond hE rfl (fun c => ?_) (fun c => ?_)
     ·replace hm := cond_t c hm
      refine Runs.skip ?_
      refine Runs.seq ?_
      refine Runs.block ?_
      refine Runs.region ?_
      refine WR.d0 hE 1 [(19, .slice sb2 l.length sc2)] fun a hE => ?_
      refine WR.eff hE rfl rfl rfl rfl (OpTo.buildSl (T := 3) hE H ecI_ok ([4, 0, 5, 2, 6, 8, 1, 3, 9, 7] : List Int) rfl (fun _ => by kernel_rfl) rfl rfl rfl) ?_
      rintro _ w ⟨r, rfl, H⟩ a hE
      obtain ⟨x, ex, hm⟩ := bind_some hm
      obtain ⟨b, o, hs, hb⟩ := SlRd.base (sl_rd 3 ecI 1 _ _ _) ecI_ok H 0 rfl ex
      refine WR.d hE 26 [.pointer (some ⟨b, o, none⟩), .int .i64 x] [(44, .agg #[.int .i64 x, .int .i64 (Int.tmod i 3), .int .i64 (Int.tmod (w64 (i * 3)) 11), .int .i64 (Int.tmod i 2), .int .i64 (Int.tmod i 13), .int .i64 i, .int .i64 (Int.tmod i 9), .int .i64 0, .int .i64 0, .int .i64 0, .int .i64 0, .int .i64 0, .int .i64 0, .int .i64 (Int.tmod i 7), .int .i64 (w64 ((Int.tmod i 5) - 1)), .int .i64 0, .int .i64 0, .int .i64 0, .int .i64 0, .int .i64 0, .int .i64 0])] (obs := [.p ((10 : Int) ≠ 0), .p (((some ⟨r, 0, none⟩) : Option Addr) = some ⟨b, o, none⟩), .p (0 ≤ ((Int.tmod i 10) : Int) ∧ ((Int.tmod i 10) : Int) < ((([4, 0, 5, 2, 6, 8, 1, 3, 9, 7] : List Int).length : Nat) : Int)), .cell ⟨b, o + (Int.toNat (Int.tmod i 10)) * 1, none⟩ (.int .i64 x), .p ((3 : Int) ≠ 0), .p ((11 : Int) ≠ 0), .p ((2 : Int) ≠ 0), .p ((13 : Int) ≠ 0), .p ((9 : Int) ≠ 0), .p ((7 : Int) ≠ 0), .p ((5 : Int) ≠ 0)]) ⟨(by show _ ≠ _; decide), hs, hb, SlRd.cells (sl_rd 3 ecI 1 _ _ _) ecI_ok H 0 rfl hs ex 0 _ rfl, (by show _ ≠ _; decide), (by show _ ≠ _; decide), (by show _ ≠ _; decide), (by show _ ≠ _; decide), (by show _ ≠ _; decide), (by show _ ≠ _; decide), (by show _ ≠ _; decide), trivial⟩ fun a hE => ?_
      refine WR.eff hE rfl rfl rfl rfl (OpTo.buildSl (T := 67) hE H thicketlaw25_Ask.enc_ok ([thicketlaw25_Ask.mk x (Int.tmod i 3) (thicketkeep_D.mk (Int.tmod (w64 (i * 3)) 11) (Int.tmod i 2) (Int.tmod i 13) i (Int.tmod i 9) (api_Command.mk 0 0 (api_Ref.mk 0 0) 0 0)) (api_Act.mk (Int.tmod i 7) (w64 ((Int.tmod i 5) - 1)) (api_Command.mk 0 0 (api_Ref.mk 0 0) 0 0))] : List thicketlaw25_Ask) rfl (fun _ => by kernel_rfl) rfl rfl rfl) ?_
      rintro _ w ⟨r1, rfl, H⟩ a hE
      obtain ⟨l1, el1, hm⟩ := bind_some hm
      replace H := H.t2
      refine WR.eff hE rfl rfl rfl rfl (OpTo.appendM el1 hE H thicketlaw25_Ask.enc_ok rfl rfl rfl rfl rfl rfl rfl rfl rfl rfl (SlRd.all (sl_rd 67 thicketlaw25_Ask.enc 21 _ _ _) thicketlaw25_Ask.enc_ok H 1 rfl) rfl) ?_
      rintro _ w ⟨sb3, sc3, rfl, H⟩ a hE
      refine WR.e0 hE [(5, .slice sb3 l1.length sc3)] fun a hE => ?_
      refine Runs.inBlock ?_
      refine Runs.region ?_
      refine WR.e0 hE [(6, .int .i64 (w64 (i + 1)))] fun a hE => ?_
      exact ih m (Nat.lt_succ_self m) _ _ ⟨l1, w64 (i + 1), sb3, sc3, hE.sel [2, 4, 5, 6] (by kernel_rfl), H.x2.x1, hm⟩
     ·replace hm := cond_f c hm
      refine Runs.exit rfl ?_
      cases hm
      exact hk _ _ ⟨sb2, sc2, hE.sel [2, 4, 5] (by kernel_rfl), H⟩
   rintro a w ⟨sb1, sc1, hE, H⟩
   refine Runs.seq ?_
   obtain ⟨s1, es1, hm⟩ := bind_some hm
   refine Runs.join (fun a w => EnvOk 60 a [(0, .bool s1)] ∧ St w0 (As) w) (fun hk => ?_) ?_
   ·replace hm := es1; clear es1
    refine Runs.region ?_
    refine WR.seg hE 3 [] [4, 5, 49] (Lo := [(4, .int .i64 t_1.2), (5, .slice sb1 s.length sc1), (49, .bool (t_.2 == 24))]) (obs := []) rfl (by kernel_rfl) trivial fun a hE => ?_
    rcases Bool.eq_false_or_eq_true (t_.2 == 24) with c | c
    ·replace hE := hE.dec 49 c (by kernel_rfl)
     replace hm := cond_t c hm
     have c_ := c
     refine WR.d0 hE 7 [(53, .bool (t_1.2 == 1))] fun a hE => ?_
     rcases Bool.eq_false_or_eq_true (t_1.2 == 1) with c | c
     ·replace hE := hE.dec 53 c (by kernel_rfl)
      replace hm := cond_t c hm
      have c_1 := c
      refine WR.d0 hE 8 [(53, .bool true), (54, .slice sb1 s.length sc1)] fun a hE => ?_
      obtain ⟨t_2, et_2, hm⟩ := bind_some hm
      refine WR.eff hE rfl rfl rfl rfl (OpTo.fn hE rfl rfl Tryz.call8 (thicketlaw25_TracePlays_ok (hX_l := (sl_rd 67 thicketlaw25_Ask.enc 21 _ _ _)) (hC_l := (H.slCap 0 rfl).1) et_2 H)) ?_
      rintro _ w ⟨rfl, H⟩ a hE
      refine WR.d0 hE 11 [(57, .bool t_2)] fun a hE => ?_
      rcases Bool.eq_false_or_eq_true t_2 with c | c
      ·replace hE := hE.dec 57 c (by kernel_rfl)
       replace hm := cond_t c hm
       have c_2 := c
       obtain ⟨t_3, et_3, hm⟩ := bind_some hm
       refine WR.eff hE rfl rfl rfl rfl (OpTo.fn hE rfl rfl Tryz.call22 (thicketlaw25_known_ok et_3 H)) ?_
       rintro _ w ⟨rfl, H⟩ a hE
       refine WR.e0 hE [(0, .bool t_3)] fun a hE => ?_
       cases hm
       exact hk _ _ ⟨hE.sel [0] (by kernel_rfl), H.x0⟩
      ·replace hE := hE.dec 57 c (by kernel_rfl)
       replace hm := cond_f c hm
       have c_3 := c
       refine WR.e0 hE [(0, .bool false)] fun a hE => ?_
       cases hm
       exact hk _ _ ⟨hE.sel [0] (by kernel_rfl), H.x0⟩
     ·replace hE := hE.dec 53 c (by kernel_rfl)
      replace hm := cond_f c hm
      have c_4 := c
      refine WR.e0 hE [(0, .bool false)] fun a hE => ?_
      cases hm
      exact hk _ _ ⟨hE.sel [0] (by kernel_rfl), H.x0⟩
    ·replace hE := hE.dec 49 c (by kernel_rfl)
     replace hm := cond_f c hm
     have c_5 := c
     refine WR.e0 hE [(0, .bool false)] fun a hE => ?_
     cases hm
     exact hk _ _ ⟨hE.sel [0] (by kernel_rfl), H.x0⟩
   rintro a w ⟨hE, H⟩
   refine Runs.ret hE Tryz.func7 rfl rfl ?_
   cases hm
   exact ⟨rfl, H⟩
  ·replace hm := case_s ho1 hm
   rw [ho1] at hE H
   replace H : St w0 (trace_Book.R p1 al1 m_1 :: _) _ := H
   refine WR.seg hE 6 [] [2, 4] (Lo := [(2, .int .i64 t_.2), (4, .int .i64 t_1.2)]) (obs := []) rfl (by kernel_rfl) trivial fun a hE => ?_
   refine WR.done rfl ?_
   refine Runs.sr ?_
   refine WR.e0 hE [(5, .slice none 0 0)] fun a hE => ?_
   refine Runs.seq ?_
   refine Runs.sr ?_
   refine WR.e0 hE [(6, .int .i64 0)] fun a hE => ?_
   obtain ⟨s2, es2, hm⟩ := bind_some hm
   refine Runs.join (fun a w => ∃ (sb5 : Option Addr), ∃ (sc5 : Nat), EnvOk 60 a [(2, .int .i64 t_.2), (4, .int .i64 t_1.2), (5, .slice sb5 s2.length sc5)] ∧ St w0 (Sl 67 thicketlaw25_Ask.enc 21 sb5 sc5 s2 :: trace_Book.R p1 al1 m_1 :: As) w) (fun hk => ?_) ?_
   ·replace hm := es2; clear es2
    replace H := H.slNil 67 thicketlaw25_Ask.enc 21
    refine Runs.block ?_
    refine Runs.loop (fun m a w => ∃ (l2 : List thicketlaw25_Ask), ∃ (i1 : Int), ∃ (sb6 : Option Addr), ∃ (sc6 : Nat), EnvOk 60 a [(2, .int .i64 t_.2), (4, .int .i64 t_1.2), (5, .slice sb6 l2.length sc6), (6, .int .i64 i1)] ∧ St w0 (Sl 67 thicketlaw25_Ask.enc 21 sb6 sc6 l2 :: trace_Book.R p1 al1 m_1 :: As) w ∧ thicketlaw25_TraceNumbers_l0_c1 t_.2 t_1.2 m_1 m l2 i1 = some s2) k ⟨([] : List thicketlaw25_Ask), 0, none, 0, hE.sel [2, 4, 5, 6] (by kernel_rfl), H.t1.t1, hm⟩ ?_
    rintro m ih a w ⟨l2, i1, sb6, sc6, hE, H, hm⟩
    cases m with
    | zero => simp [thicketlaw25_TraceNumbers_l0_c1] at hm
    | succ m =>
     rw [thicketlaw25_TraceNumbers_l0_c1] at hm
     refine Runs.seq ?_
     refine Runs.sr ?_
     refine WR.seg hE 2 [] [2, 4, 5, 6, 16] (Lo := [(2, .int .i64 t_.2), (4, .int .i64 t_1.2), (5, .slice sb6 l2.length sc6), (6, .int .i64 i1), (16, .bool (decide (i1 < 60)))]) (obs := []) rfl (by kernel_rfl) trivial fun a hE => ?_
     refine WR.done rfl ?_
     refine Runs.cond hE rfl (fun c => ?_) (fun c => ?_)
     ·replace hm := cond_t c hm
      refine Runs.skip ?_
      refine Runs.seq ?_
      refine Runs.block ?_
      refine Runs.region ?_
      refine WR.d0 hE 1 [(19, .slice sb6 l2.length sc6)] fun a hE => ?_
      refine WR.eff hE rfl rfl rfl rfl (OpTo.buildSl (T := 3) hE H ecI_ok ([4, 0, 5, 2, 6, 8, 1, 3, 9, 7] : List Int) rfl (fun _ => by kernel_rfl) rfl rfl rfl) ?_
      rintro _ w ⟨r2, rfl, H⟩ a hE
      obtain ⟨x1, ex1, hm⟩ := bind_some hm
      obtain ⟨b1, o1, hs1, hb1⟩ := SlRd.base (sl_rd 3 ecI 1 _ _ _) ecI_ok H 0 rfl ex1
      refine WR.d hE 26 [.pointer (some ⟨b1, o1, none⟩), .int .i64 x1] [(44, .agg #[.int .i64 x1, .int .i64 (Int.tmod i1 3), .int .i64 (Int.tmod (w64 (i1 * 3)) 11), .int .i64 (Int.tmod i1 2), .int .i64 (Int.tmod i1 13), .int .i64 i1, .int .i64 (Int.tmod i1 9), .int .i64 0, .int .i64 0, .int .i64 0, .int .i64 0, .int .i64 0, .int .i64 0, .int .i64 (Int.tmod i1 7), .int .i64 (w64 ((Int.tmod i1 5) - 1)), .int .i64 0, .int .i64 0, .int .i64 0, .int .i64 0, .int .i64 0, .int .i64 0])] (obs := [.p ((10 : Int) ≠ 0), .p (((some ⟨r2, 0, none⟩) : Option Addr) = some ⟨b1, o1, none⟩), .p (0 ≤ ((Int.tmod i1 10) : Int) ∧ ((Int.tmod i1 10) : Int) < ((([4, 0, 5, 2, 6, 8, 1, 3, 9, 7] : List Int).length : Nat) : Int)), .cell ⟨b1, o1 + (Int.toNat (Int.tmod i1 10)) * 1, none⟩ (.int .i64 x1), .p ((3 : Int) ≠ 0), .p ((11 : Int) ≠ 0), .p ((2 : Int) ≠ 0), .p ((13 : Int) ≠ 0), .p ((9 : Int) ≠ 0), .p ((7 : Int) ≠ 0), .p ((5 : Int) ≠ 0)]) ⟨(by show _ ≠ _; decide), hs1, hb1, SlRd.cells (sl_rd 3 ecI 1 _ _ _) ecI_ok H 0 rfl hs1 ex1 0 _ rfl, (by show _ ≠ _; decide), (by show _ ≠ _; decide), (by show _ ≠ _; decide), (by show _ ≠ _; decide), (by show _ ≠ _; decide), (by show _ ≠ _; decide), (by show _ ≠ _; decide), trivial⟩ fun a hE => ?_
      refine WR.eff hE rfl rfl rfl rfl (OpTo.buildSl (T := 67) hE H thicketlaw25_Ask.enc_ok ([thicketlaw25_Ask.mk x1 (Int.tmod i1 3) (thicketkeep_D.mk (Int.tmod (w64 (i1 * 3)) 11) (Int.tmod i1 2) (Int.tmod i1 13) i1 (Int.tmod i1 9) (api_Command.mk 0 0 (api_Ref.mk 0 0) 0 0)) (api_Act.mk (Int.tmod i1 7) (w64 ((Int.tmod i1 5) - 1)) (api_Command.mk 0 0 (api_Ref.mk 0 0) 0 0))] : List thicketlaw25_Ask) rfl (fun _ => by kernel_rfl) rfl rfl rfl) ?_
      rintro _ w ⟨r3, rfl, H⟩ a hE
      obtain ⟨l3, el3, hm⟩ := bind_some hm
      replace H := H.t2
      refine WR.eff hE rfl rfl rfl rfl (OpTo.appendM el3 hE H thicketlaw25_Ask.enc_ok rfl rfl rfl rfl rfl rfl rfl rfl rfl rfl (SlRd.all (sl_rd 67 thicketlaw25_Ask.enc 21 _ _ _) thicketlaw25_Ask.enc_ok H 1 rfl) rfl) ?_
      rintro _ w ⟨sb7, sc7, rfl, H⟩ a hE
      refine WR.e0 hE [(5, .slice sb7 l3.length sc7)] fun a hE => ?_
      refine Runs.inBlock ?_
      refine Runs.region ?_
      refine WR.e0 hE [(6, .int .i64 (w64 (i1 + 1)))] fun a hE => ?_
      exact ih m (Nat.lt_succ_self m) _ _ ⟨l3, w64 (i1 + 1), sb7, sc7, hE.sel [2, 4, 5, 6] (by kernel_rfl), H.x2.x1.t1.t1, hm⟩
     ·replace hm := cond_f c hm
      refine Runs.exit rfl ?_
      cases hm
      exact hk _ _ ⟨sb6, sc6, hE.sel [2, 4, 5] (by kernel_rfl), H.t1.t1⟩
   rintro a w ⟨sb5, sc5, hE, H⟩
   refine Runs.seq ?_
   obtain ⟨s3, es3, hm⟩ := bind_some hm
   refine Runs.join (fun a w => EnvOk 60 a [(0, .bool s3)] ∧ St w0 (trace_Book.R p1 al1 m_1 :: As) w) (fun hk => ?_) ?_
   ·replace hm := es3; clear es3
    refine Runs.region ?_
    refine WR.seg hE 3 [] [4, 5, 49] (Lo := [(4, .int .i64 t_1.2), (5, .slice sb5 s2.length sc5), (49, .bool (t_.2 == 24))]) (obs := []) rfl (by kernel_rfl) trivial fun a hE => ?_
    rcases Bool.eq_false_or_eq_true (t_.2 == 24) with c | c
    ·replace hE := hE.dec 49 c (by kernel_rfl)
     replace hm := cond_t c hm
     have c_6 := c
     refine WR.d0 hE 7 [(53, .bool (t_1.2 == 1))] fun a hE => ?_
     rcases Bool.eq_false_or_eq_true (t_1.2 == 1) with c | c
     ·replace hE := hE.dec 53 c (by kernel_rfl)
      replace hm := cond_t c hm
      have c_7 := c
      refine WR.d0 hE 8 [(53, .bool true), (54, .slice sb5 s2.length sc5)] fun a hE => ?_
      obtain ⟨t_4, et_4, hm⟩ := bind_some hm
      refine WR.eff hE rfl rfl rfl rfl (OpTo.fn hE rfl rfl Tryz.call8 (thicketlaw25_TracePlays_ok (hX_l := (sl_rd 67 thicketlaw25_Ask.enc 21 _ _ _)) (hC_l := (H.slCap 0 rfl).1) et_4 H)) ?_
      rintro _ w ⟨rfl, H⟩ a hE
      refine WR.d0 hE 11 [(57, .bool t_4)] fun a hE => ?_
      rcases Bool.eq_false_or_eq_true t_4 with c | c
      ·replace hE := hE.dec 57 c (by kernel_rfl)
       replace hm := cond_t c hm
       have c_8 := c
       obtain ⟨t_5, et_5, hm⟩ := bind_some hm
       refine WR.eff hE rfl rfl rfl rfl (OpTo.fn hE rfl rfl Tryz.call22 (thicketlaw25_known_ok et_5 H)) ?_
       rintro _ w ⟨rfl, H⟩ a hE
       refine WR.e0 hE [(0, .bool t_5)] fun a hE => ?_
       cases hm
       exact hk _ _ ⟨hE.sel [0] (by kernel_rfl), H.x0⟩
      ·replace hE := hE.dec 57 c (by kernel_rfl)
       replace hm := cond_f c hm
       have c_9 := c
       refine WR.e0 hE [(0, .bool false)] fun a hE => ?_
       cases hm
       exact hk _ _ ⟨hE.sel [0] (by kernel_rfl), H.x0⟩
     ·replace hE := hE.dec 53 c (by kernel_rfl)
      replace hm := cond_f c hm
      have c_10 := c
      refine WR.e0 hE [(0, .bool false)] fun a hE => ?_
      cases hm
      exact hk _ _ ⟨hE.sel [0] (by kernel_rfl), H.x0⟩
    ·replace hE := hE.dec 49 c (by kernel_rfl)
     replace hm := cond_f c hm
     have c_11 := c
     refine WR.e0 hE [(0, .bool false)] fun a hE => ?_
     cases hm
     exact hk _ _ ⟨hE.sel [0] (by kernel_rfl), H.x0⟩
   rintro a w ⟨hE, H⟩
   refine Runs.ret hE Tryz.func7 rfl rfl ?_
   cases hm
   exact ⟨rfl, H.x0⟩
 ·replace hm := case_s ho hm
  rw [ho] at hE H
  replace H : St w0 (trace_Book.R p al m_ :: _) _ := H
  refine WR.seg hE 6 [] [2] (Lo := [(2, .int .i64 t_.2)]) (obs := []) rfl (by kernel_rfl) trivial fun a hE => ?_
  refine WR.done rfl ?_
  refine Runs.sr ?_
  obtain ⟨t_6, et_6, hm⟩ := bind_some hm
  refine WR.eff hE rfl rfl rfl rfl (OpTo.fn hE rfl rfl Tryz.call16 (trace_New_ok et_6 H)) ?_
  rintro _ w ⟨p2, al2, rfl, H⟩ a hE
  rcases ho2 : t_6.1 with _ | m_3
  ·replace hm := case_n ho2 hm
   rw [ho2] at hE H
   replace H := H.x0
   refine WR.seg hE 6 [] [2, 4] (Lo := [(2, .int .i64 t_.2), (4, .int .i64 t_6.2)]) (obs := []) rfl (by kernel_rfl) trivial fun a hE => ?_
   refine WR.done rfl ?_
   refine Runs.sr ?_
   refine WR.e0 hE [(5, .slice none 0 0)] fun a hE => ?_
   refine Runs.seq ?_
   refine Runs.sr ?_
   refine WR.e0 hE [(6, .int .i64 0)] fun a hE => ?_
   obtain ⟨s4, es4, hm⟩ := bind_some hm
   refine Runs.join (fun a w => ∃ (sb9 : Option Addr), ∃ (sc9 : Nat), EnvOk 60 a [(2, .int .i64 t_.2), (4, .int .i64 t_6.2), (5, .slice sb9 s4.length sc9)] ∧ St w0 (Sl 67 thicketlaw25_Ask.enc 21 sb9 sc9 s4 :: trace_Book.R p al m_ :: As) w) (fun hk => ?_) ?_
   ·replace hm := es4; clear es4
    replace H := H.slNil 67 thicketlaw25_Ask.enc 21
    refine Runs.block ?_
    refine Runs.loop (fun m a w => ∃ (l4 : List thicketlaw25_Ask), ∃ (i2 : Int), ∃ (sb10 : Option Addr), ∃ (sc10 : Nat), EnvOk 60 a [(2, .int .i64 t_.2), (4, .int .i64 t_6.2), (5, .slice sb10 l4.length sc10), (6, .int .i64 i2)] ∧ St w0 (Sl 67 thicketlaw25_Ask.enc 21 sb10 sc10 l4 :: trace_Book.R p al m_ :: As) w ∧ thicketlaw25_TraceNumbers_l0_c1 t_.2 t_6.2 m_ m l4 i2 = some s4) k ⟨([] : List thicketlaw25_Ask), 0, none, 0, hE.sel [2, 4, 5, 6] (by kernel_rfl), H.t1.t1, hm⟩ ?_
    rintro m ih a w ⟨l4, i2, sb10, sc10, hE, H, hm⟩
    cases m with
    | zero => simp [thicketlaw25_TraceNumbers_l0_c1] at hm
    | succ m =>
     rw [thicketlaw25_TraceNumbers_l0_c1] at hm
     refine Runs.seq ?_
     refine Runs.sr ?_
     refine WR.seg hE 2 [] [2, 4, 5, 6, 16] (Lo := [(2, .int .i64 t_.2), (4, .int .i64 t_6.2), (5, .slice sb10 l4.length sc10), (6, .int .i64 i2), (16, .bool (decide (i2 < 60)))]) (obs := []) rfl (by kernel_rfl) trivial fun a hE => ?_
     refine WR.done rfl ?_
     refine Runs.cond hE rfl (fun c => ?_) (fun c => ?_)
     ·replace hm := cond_t c hm
      refine Runs.skip ?_
      refine Runs.seq ?_
      refine Runs.block ?_
      refine Runs.region ?_
      refine WR.d0 hE 1 [(19, .slice sb10 l4.length sc10)] fun a hE => ?_
      refine WR.eff hE rfl rfl rfl rfl (OpTo.buildSl (T := 3) hE H ecI_ok ([4, 0, 5, 2, 6, 8, 1, 3, 9, 7] : List Int) rfl (fun _ => by kernel_rfl) rfl rfl rfl) ?_
      rintro _ w ⟨r4, rfl, H⟩ a hE
      obtain ⟨x2, ex2, hm⟩ := bind_some hm
      obtain ⟨b2, o2, hs2, hb2⟩ := SlRd.base (sl_rd 3 ecI 1 _ _ _) ecI_ok H 0 rfl ex2
      refine WR.d hE 26 [.pointer (some ⟨b2, o2, none⟩), .int .i64 x2] [(44, .agg #[.int .i64 x2, .int .i64 (Int.tmod i2 3), .int .i64 (Int.tmod (w64 (i2 * 3)) 11), .int .i64 (Int.tmod i2 2), .int .i64 (Int.tmod i2 13), .int .i64 i2, .int .i64 (Int.tmod i2 9), .int .i64 0, .int .i64 0, .int .i64 0, .int .i64 0, .int .i64 0, .int .i64 0, .int .i64 (Int.tmod i2 7), .int .i64 (w64 ((Int.tmod i2 5) - 1)), .int .i64 0, .int .i64 0, .int .i64 0, .int .i64 0, .int .i64 0, .int .i64 0])] (obs := [.p ((10 : Int) ≠ 0), .p (((some ⟨r4, 0, none⟩) : Option Addr) = some ⟨b2, o2, none⟩), .p (0 ≤ ((Int.tmod i2 10) : Int) ∧ ((Int.tmod i2 10) : Int) < ((([4, 0, 5, 2, 6, 8, 1, 3, 9, 7] : List Int).length : Nat) : Int)), .cell ⟨b2, o2 + (Int.toNat (Int.tmod i2 10)) * 1, none⟩ (.int .i64 x2), .p ((3 : Int) ≠ 0), .p ((11 : Int) ≠ 0), .p ((2 : Int) ≠ 0), .p ((13 : Int) ≠ 0), .p ((9 : Int) ≠ 0), .p ((7 : Int) ≠ 0), .p ((5 : Int) ≠ 0)]) ⟨(by show _ ≠ _; decide), hs2, hb2, SlRd.cells (sl_rd 3 ecI 1 _ _ _) ecI_ok H 0 rfl hs2 ex2 0 _ rfl, (by show _ ≠ _; decide), (by show _ ≠ _; decide), (by show _ ≠ _; decide), (by show _ ≠ _; decide), (by show _ ≠ _; decide), (by show _ ≠ _; decide), (by show _ ≠ _; decide), trivial⟩ fun a hE => ?_
      refine WR.eff hE rfl rfl rfl rfl (OpTo.buildSl (T := 67) hE H thicketlaw25_Ask.enc_ok ([thicketlaw25_Ask.mk x2 (Int.tmod i2 3) (thicketkeep_D.mk (Int.tmod (w64 (i2 * 3)) 11) (Int.tmod i2 2) (Int.tmod i2 13) i2 (Int.tmod i2 9) (api_Command.mk 0 0 (api_Ref.mk 0 0) 0 0)) (api_Act.mk (Int.tmod i2 7) (w64 ((Int.tmod i2 5) - 1)) (api_Command.mk 0 0 (api_Ref.mk 0 0) 0 0))] : List thicketlaw25_Ask) rfl (fun _ => by kernel_rfl) rfl rfl rfl) ?_
      rintro _ w ⟨r5, rfl, H⟩ a hE
      obtain ⟨l5, el5, hm⟩ := bind_some hm
      replace H := H.t2
      refine WR.eff hE rfl rfl rfl rfl (OpTo.appendM el5 hE H thicketlaw25_Ask.enc_ok rfl rfl rfl rfl rfl rfl rfl rfl rfl rfl (SlRd.all (sl_rd 67 thicketlaw25_Ask.enc 21 _ _ _) thicketlaw25_Ask.enc_ok H 1 rfl) rfl) ?_
      rintro _ w ⟨sb11, sc11, rfl, H⟩ a hE
      refine WR.e0 hE [(5, .slice sb11 l5.length sc11)] fun a hE => ?_
      refine Runs.inBlock ?_
      refine Runs.region ?_
      refine WR.e0 hE [(6, .int .i64 (w64 (i2 + 1)))] fun a hE => ?_
      exact ih m (Nat.lt_succ_self m) _ _ ⟨l5, w64 (i2 + 1), sb11, sc11, hE.sel [2, 4, 5, 6] (by kernel_rfl), H.x2.x1.t1.t1, hm⟩
     ·replace hm := cond_f c hm
      refine Runs.exit rfl ?_
      cases hm
      exact hk _ _ ⟨sb10, sc10, hE.sel [2, 4, 5] (by kernel_rfl), H.t1.t1⟩
   rintro a w ⟨sb9, sc9, hE, H⟩
   refine Runs.seq ?_
   obtain ⟨s5, es5, hm⟩ := bind_some hm
   refine Runs.join (fun a w => EnvOk 60 a [(0, .bool s5)] ∧ St w0 (trace_Book.R p al m_ :: As) w) (fun hk => ?_) ?_
   ·replace hm := es5; clear es5
    refine Runs.region ?_
    refine WR.seg hE 3 [] [4, 5, 49] (Lo := [(4, .int .i64 t_6.2), (5, .slice sb9 s4.length sc9), (49, .bool (t_.2 == 24))]) (obs := []) rfl (by kernel_rfl) trivial fun a hE => ?_
    rcases Bool.eq_false_or_eq_true (t_.2 == 24) with c | c
    ·replace hE := hE.dec 49 c (by kernel_rfl)
     replace hm := cond_t c hm
     have c_12 := c
     refine WR.d0 hE 7 [(53, .bool (t_6.2 == 1))] fun a hE => ?_
     rcases Bool.eq_false_or_eq_true (t_6.2 == 1) with c | c
     ·replace hE := hE.dec 53 c (by kernel_rfl)
      replace hm := cond_t c hm
      have c_13 := c
      refine WR.d0 hE 8 [(53, .bool true), (54, .slice sb9 s4.length sc9)] fun a hE => ?_
      obtain ⟨t_7, et_7, hm⟩ := bind_some hm
      refine WR.eff hE rfl rfl rfl rfl (OpTo.fn hE rfl rfl Tryz.call8 (thicketlaw25_TracePlays_ok (hX_l := (sl_rd 67 thicketlaw25_Ask.enc 21 _ _ _)) (hC_l := (H.slCap 0 rfl).1) et_7 H)) ?_
      rintro _ w ⟨rfl, H⟩ a hE
      refine WR.d0 hE 11 [(57, .bool t_7)] fun a hE => ?_
      rcases Bool.eq_false_or_eq_true t_7 with c | c
      ·replace hE := hE.dec 57 c (by kernel_rfl)
       replace hm := cond_t c hm
       have c_14 := c
       obtain ⟨t_8, et_8, hm⟩ := bind_some hm
       refine WR.eff hE rfl rfl rfl rfl (OpTo.fn hE rfl rfl Tryz.call22 (thicketlaw25_known_ok et_8 H)) ?_
       rintro _ w ⟨rfl, H⟩ a hE
       refine WR.e0 hE [(0, .bool t_8)] fun a hE => ?_
       cases hm
       exact hk _ _ ⟨hE.sel [0] (by kernel_rfl), H.x0⟩
      ·replace hE := hE.dec 57 c (by kernel_rfl)
       replace hm := cond_f c hm
       have c_15 := c
       refine WR.e0 hE [(0, .bool false)] fun a hE => ?_
       cases hm
       exact hk _ _ ⟨hE.sel [0] (by kernel_rfl), H.x0⟩
     ·replace hE := hE.dec 53 c (by kernel_rfl)
      replace hm := cond_f c hm
      have c_16 := c
      refine WR.e0 hE [(0, .bool false)] fun a hE => ?_
      cases hm
      exact hk _ _ ⟨hE.sel [0] (by kernel_rfl), H.x0⟩
    ·replace hE := hE.dec 49 c (by kernel_rfl)
     replace hm := cond_f c hm
     have c_17 := c
     refine WR.e0 hE [(0, .bool false)] fun a hE => ?_
     cases hm
     exact hk _ _ ⟨hE.sel [0] (by kernel_rfl), H.x0⟩
   rintro a w ⟨hE, H⟩
   refine Runs.ret hE Tryz.func7 rfl rfl ?_
   cases hm
   exact ⟨rfl, H.x0⟩
  ·replace hm := case_s ho2 hm
   rw [ho2] at hE H
   replace H : St w0 (trace_Book.R p2 al2 m_3 :: _) _ := H
   refine WR.seg hE 6 [] [2, 4] (Lo := [(2, .int .i64 t_.2), (4, .int .i64 t_6.2)]) (obs := []) rfl (by kernel_rfl) trivial fun a hE => ?_
   refine WR.done rfl ?_
   refine Runs.sr ?_
   refine WR.e0 hE [(5, .slice none 0 0)] fun a hE => ?_
   refine Runs.seq ?_
   refine Runs.sr ?_
   refine WR.e0 hE [(6, .int .i64 0)] fun a hE => ?_
   obtain ⟨s6, es6, hm⟩ := bind_some hm
   refine Runs.join (fun a w => ∃ (sb13 : Option Addr), ∃ (sc13 : Nat), EnvOk 60 a [(2, .int .i64 t_.2), (4, .int .i64 t_6.2), (5, .slice sb13 s6.length sc13)] ∧ St w0 (Sl 67 thicketlaw25_Ask.enc 21 sb13 sc13 s6 :: trace_Book.R p2 al2 m_3 :: trace_Book.R p al m_ :: As) w) (fun hk => ?_) ?_
   ·replace hm := es6; clear es6
    replace H := H.slNil 67 thicketlaw25_Ask.enc 21
    refine Runs.block ?_
    refine Runs.loop (fun m a w => ∃ (l6 : List thicketlaw25_Ask), ∃ (i3 : Int), ∃ (sb14 : Option Addr), ∃ (sc14 : Nat), EnvOk 60 a [(2, .int .i64 t_.2), (4, .int .i64 t_6.2), (5, .slice sb14 l6.length sc14), (6, .int .i64 i3)] ∧ St w0 (Sl 67 thicketlaw25_Ask.enc 21 sb14 sc14 l6 :: trace_Book.R p2 al2 m_3 :: trace_Book.R p al m_ :: As) w ∧ thicketlaw25_TraceNumbers_l0_c2 t_.2 t_6.2 m_3 m_ m l6 i3 = some s6) k ⟨([] : List thicketlaw25_Ask), 0, none, 0, hE.sel [2, 4, 5, 6] (by kernel_rfl), H.t2.t2.t2, hm⟩ ?_
    rintro m ih a w ⟨l6, i3, sb14, sc14, hE, H, hm⟩
    cases m with
    | zero => simp [thicketlaw25_TraceNumbers_l0_c2] at hm
    | succ m =>
     rw [thicketlaw25_TraceNumbers_l0_c2] at hm
     refine Runs.seq ?_
     refine Runs.sr ?_
     refine WR.seg hE 2 [] [2, 4, 5, 6, 16] (Lo := [(2, .int .i64 t_.2), (4, .int .i64 t_6.2), (5, .slice sb14 l6.length sc14), (6, .int .i64 i3), (16, .bool (decide (i3 < 60)))]) (obs := []) rfl (by kernel_rfl) trivial fun a hE => ?_
     refine WR.done rfl ?_
     refine Runs.cond hE rfl (fun c => ?_) (fun c => ?_)
     ·replace hm := cond_t c hm
      refine Runs.skip ?_
      refine Runs.seq ?_
      refine Runs.block ?_
      refine Runs.region ?_
      refine WR.d0 hE 1 [(19, .slice sb14 l6.length sc14)] fun a hE => ?_
      refine WR.eff hE rfl rfl rfl rfl (OpTo.buildSl (T := 3) hE H ecI_ok ([4, 0, 5, 2, 6, 8, 1, 3, 9, 7] : List Int) rfl (fun _ => by kernel_rfl) rfl rfl rfl) ?_
      rintro _ w ⟨r6, rfl, H⟩ a hE
      obtain ⟨x3, ex3, hm⟩ := bind_some hm
      obtain ⟨b3, o3, hs3, hb3⟩ := SlRd.base (sl_rd 3 ecI 1 _ _ _) ecI_ok H 0 rfl ex3
      refine WR.d hE 26 [.pointer (some ⟨b3, o3, none⟩), .int .i64 x3] [(44, .agg #[.int .i64 x3, .int .i64 (Int.tmod i3 3), .int .i64 (Int.tmod (w64 (i3 * 3)) 11), .int .i64 (Int.tmod i3 2), .int .i64 (Int.tmod i3 13), .int .i64 i3, .int .i64 (Int.tmod i3 9), .int .i64 0, .int .i64 0, .int .i64 0, .int .i64 0, .int .i64 0, .int .i64 0, .int .i64 (Int.tmod i3 7), .int .i64 (w64 ((Int.tmod i3 5) - 1)), .int .i64 0, .int .i64 0, .int .i64 0, .int .i64 0, .int .i64 0, .int .i64 0])] (obs := [.p ((10 : Int) ≠ 0), .p (((some ⟨r6, 0, none⟩) : Option Addr) = some ⟨b3, o3, none⟩), .p (0 ≤ ((Int.tmod i3 10) : Int) ∧ ((Int.tmod i3 10) : Int) < ((([4, 0, 5, 2, 6, 8, 1, 3, 9, 7] : List Int).length : Nat) : Int)), .cell ⟨b3, o3 + (Int.toNat (Int.tmod i3 10)) * 1, none⟩ (.int .i64 x3), .p ((3 : Int) ≠ 0), .p ((11 : Int) ≠ 0), .p ((2 : Int) ≠ 0), .p ((13 : Int) ≠ 0), .p ((9 : Int) ≠ 0), .p ((7 : Int) ≠ 0), .p ((5 : Int) ≠ 0)]) ⟨(by show _ ≠ _; decide), hs3, hb3, SlRd.cells (sl_rd 3 ecI 1 _ _ _) ecI_ok H 0 rfl hs3 ex3 0 _ rfl, (by show _ ≠ _; decide), (by show _ ≠ _; decide), (by show _ ≠ _; decide), (by show _ ≠ _; decide), (by show _ ≠ _; decide), (by show _ ≠ _; decide), (by show _ ≠ _; decide), trivial⟩ fun a hE => ?_
      refine WR.eff hE rfl rfl rfl rfl (OpTo.buildSl (T := 67) hE H thicketlaw25_Ask.enc_ok ([thicketlaw25_Ask.mk x3 (Int.tmod i3 3) (thicketkeep_D.mk (Int.tmod (w64 (i3 * 3)) 11) (Int.tmod i3 2) (Int.tmod i3 13) i3 (Int.tmod i3 9) (api_Command.mk 0 0 (api_Ref.mk 0 0) 0 0)) (api_Act.mk (Int.tmod i3 7) (w64 ((Int.tmod i3 5) - 1)) (api_Command.mk 0 0 (api_Ref.mk 0 0) 0 0))] : List thicketlaw25_Ask) rfl (fun _ => by kernel_rfl) rfl rfl rfl) ?_
      rintro _ w ⟨r7, rfl, H⟩ a hE
      obtain ⟨l7, el7, hm⟩ := bind_some hm
      replace H := H.t2
      refine WR.eff hE rfl rfl rfl rfl (OpTo.appendM el7 hE H thicketlaw25_Ask.enc_ok rfl rfl rfl rfl rfl rfl rfl rfl rfl rfl (SlRd.all (sl_rd 67 thicketlaw25_Ask.enc 21 _ _ _) thicketlaw25_Ask.enc_ok H 1 rfl) rfl) ?_
      rintro _ w ⟨sb15, sc15, rfl, H⟩ a hE
      refine WR.e0 hE [(5, .slice sb15 l7.length sc15)] fun a hE => ?_
      refine Runs.inBlock ?_
      refine Runs.region ?_
      refine WR.e0 hE [(6, .int .i64 (w64 (i3 + 1)))] fun a hE => ?_
      exact ih m (Nat.lt_succ_self m) _ _ ⟨l7, w64 (i3 + 1), sb15, sc15, hE.sel [2, 4, 5, 6] (by kernel_rfl), H.x2.x1.t2.t2.t2, hm⟩
     ·replace hm := cond_f c hm
      refine Runs.exit rfl ?_
      cases hm
      exact hk _ _ ⟨sb14, sc14, hE.sel [2, 4, 5] (by kernel_rfl), H.t2.t2.t2⟩
   rintro a w ⟨sb13, sc13, hE, H⟩
   refine Runs.seq ?_
   obtain ⟨s7, es7, hm⟩ := bind_some hm
   refine Runs.join (fun a w => EnvOk 60 a [(0, .bool s7)] ∧ St w0 (trace_Book.R p2 al2 m_3 :: trace_Book.R p al m_ :: As) w) (fun hk => ?_) ?_
   ·replace hm := es7; clear es7
    refine Runs.region ?_
    refine WR.seg hE 3 [] [4, 5, 49] (Lo := [(4, .int .i64 t_6.2), (5, .slice sb13 s6.length sc13), (49, .bool (t_.2 == 24))]) (obs := []) rfl (by kernel_rfl) trivial fun a hE => ?_
    rcases Bool.eq_false_or_eq_true (t_.2 == 24) with c | c
    ·replace hE := hE.dec 49 c (by kernel_rfl)
     replace hm := cond_t c hm
     have c_18 := c
     refine WR.d0 hE 7 [(53, .bool (t_6.2 == 1))] fun a hE => ?_
     rcases Bool.eq_false_or_eq_true (t_6.2 == 1) with c | c
     ·replace hE := hE.dec 53 c (by kernel_rfl)
      replace hm := cond_t c hm
      have c_19 := c
      refine WR.d0 hE 8 [(53, .bool true), (54, .slice sb13 s6.length sc13)] fun a hE => ?_
      obtain ⟨t_9, et_9, hm⟩ := bind_some hm
      refine WR.eff hE rfl rfl rfl rfl (OpTo.fn hE rfl rfl Tryz.call8 (thicketlaw25_TracePlays_ok (hX_l := (sl_rd 67 thicketlaw25_Ask.enc 21 _ _ _)) (hC_l := (H.slCap 0 rfl).1) et_9 H)) ?_
      rintro _ w ⟨rfl, H⟩ a hE
      refine WR.d0 hE 11 [(57, .bool t_9)] fun a hE => ?_
      rcases Bool.eq_false_or_eq_true t_9 with c | c
      ·replace hE := hE.dec 57 c (by kernel_rfl)
       replace hm := cond_t c hm
       have c_20 := c
       obtain ⟨t_10, et_10, hm⟩ := bind_some hm
       refine WR.eff hE rfl rfl rfl rfl (OpTo.fn hE rfl rfl Tryz.call22 (thicketlaw25_known_ok et_10 H)) ?_
       rintro _ w ⟨rfl, H⟩ a hE
       refine WR.e0 hE [(0, .bool t_10)] fun a hE => ?_
       cases hm
       exact hk _ _ ⟨hE.sel [0] (by kernel_rfl), H.x0.t1.t1⟩
      ·replace hE := hE.dec 57 c (by kernel_rfl)
       replace hm := cond_f c hm
       have c_21 := c
       refine WR.e0 hE [(0, .bool false)] fun a hE => ?_
       cases hm
       exact hk _ _ ⟨hE.sel [0] (by kernel_rfl), H.x0.t1.t1⟩
     ·replace hE := hE.dec 53 c (by kernel_rfl)
      replace hm := cond_f c hm
      have c_22 := c
      refine WR.e0 hE [(0, .bool false)] fun a hE => ?_
      cases hm
      exact hk _ _ ⟨hE.sel [0] (by kernel_rfl), H.x0.t1.t1⟩
    ·replace hE := hE.dec 49 c (by kernel_rfl)
     replace hm := cond_f c hm
     have c_23 := c
     refine WR.e0 hE [(0, .bool false)] fun a hE => ?_
     cases hm
     exact hk _ _ ⟨hE.sel [0] (by kernel_rfl), H.x0.t1.t1⟩
   rintro a w ⟨hE, H⟩
   refine Runs.ret hE Tryz.func7 rfl rfl ?_
   cases hm
   exact ⟨rfl, H.x1.x0⟩

end Go.Proofs.YtgchbhnchhiehaaGreat
