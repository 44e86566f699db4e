import Derived.Test.YtdcjghailibedaaGreatUp3
set_option linter.unusedVariables false
set_option linter.unusedSimpArgs false
set_option maxRecDepth 10000
set_option maxHeartbeats 4000000
namespace Go.Proofs.YtdcjghailibedaaGreat
open Go.Th

theorem thicketlaw28_ShellNumbers_ok {w0 w : World} {As : List HP} {k : Nat}  {t : Bool}  (hm : thicketlaw28_ShellNumbers k = some t) (H : St w0 (As) w) :
    CallsR Tryz.prog 4 #[] w fun v w' => v = .bool t ∧ St w0 (As) w' := by
 rw [thicketlaw28_ShellNumbers] at hm
 refine enter (args := []) Tryz.func4 rfl rfl rfl fun a hE => ?_
 refine Runs.sr ?_
 refine WR.seg hE 1 [] [] (Lo := []) (obs := []) rfl (by kernel_rfl) trivial fun a hE => ?_
 refine WR.done rfl ?_
 refine Runs.sr ?_
 refine WR.d0 hE 7 [(13, .agg #[.int .i64 1, .int .i64 255, .int .i64 255, .int .i64 1, .int .i64 65535, .int .i64 258, .int .i64 (-5), .int .i64 65535]), (14, .agg #[.int .i64 2, .int .i64 0, .int .i64 0, .int .i64 0, .int .i64 0, .int .i64 0, .int .i64 0, .int .i64 0]), (16, .agg #[.int .i64 3, .int .i64 0, .int .i64 1, .int .i64 0, .int .i64 0, .int .i64 0, .int .i64 9223372036854775807, .int .i64 0]), (17, .agg #[.int .i64 4, .int .i64 0, .int .i64 0, .int .i64 0, .int .i64 0, .int .i64 0, .int .i64 0, .int .i64 0])] fun a hE => ?_
 refine WR.eff hE rfl rfl rfl rfl (OpTo.buildSl (T := 42) hE H api_Act.enc_ok ([api_Act.mk 1 255 (api_Command.mk 255 1 (api_Ref.mk 65535 258) (-5) 65535), api_Act.mk 2 0 (api_Command.mk 0 0 (api_Ref.mk 0 0) 0 0), api_Act.mk 3 0 (api_Command.mk 1 0 (api_Ref.mk 0 0) 9223372036854775807 0), api_Act.mk 4 0 (api_Command.mk 0 0 (api_Ref.mk 0 0) 0 0)] : List api_Act) rfl (fun _ => by kernel_rfl) rfl rfl rfl) ?_
 rintro _ w ⟨r, rfl, H⟩ a hE
 refine WR.d0 hE 9 [(19, .agg #[.int .i64 255, .int .i64 65535, .int .i64 9, .int .i64 255, .slice (some ⟨r, 0, none⟩) (([api_Act.mk 1 255 (api_Command.mk 255 1 (api_Ref.mk 65535 258) (-5) 65535), api_Act.mk 2 0 (api_Command.mk 0 0 (api_Ref.mk 0 0) 0 0), api_Act.mk 3 0 (api_Command.mk 1 0 (api_Ref.mk 0 0) 9223372036854775807 0), api_Act.mk 4 0 (api_Command.mk 0 0 (api_Ref.mk 0 0) 0 0)] : List api_Act).length) 4])] fun a hE => ?_
 refine WR.eff hE rfl rfl rfl rfl (OpTo.new hE H [] (.cells #[.int .i64 0, .int .i64 0, .int .i64 0, .int .i64 0, .slice none 0 0] 45 (0, 0)) (fun r => .pointer (some ⟨r, 0, none⟩)) (obs := []) rfl (fun _ => by kernel_rfl) trivial) ?_
 rintro _ w ⟨r1, rfl, H⟩ a hE
 refine WR.eff0 hE rfl rfl rfl (OpTo.store hE H rfl rfl rfl rfl rfl rfl (Nat.le_of_ble_eq_true rfl)) ?_
 rintro _ w H a hE
 refine WR.done rfl ?_
 refine Runs.sr ?_
 refine WR.d hE 1 [.int .i64 255, .int .i64 65535, .int .i64 9, .int .i64 255, .slice (some ⟨r, 0, none⟩) (([api_Act.mk 1 255 (api_Command.mk 255 1 (api_Ref.mk 65535 258) (-5) 65535), api_Act.mk 2 0 (api_Command.mk 0 0 (api_Ref.mk 0 0) 0 0), api_Act.mk 3 0 (api_Command.mk 1 0 (api_Ref.mk 0 0) 9223372036854775807 0), api_Act.mk 4 0 (api_Command.mk 0 0 (api_Ref.mk 0 0) 0 0)] : List api_Act).length) 4] [(20, .agg #[.int .i64 255, .int .i64 65535, .int .i64 9, .int .i64 255, .slice (some ⟨r, 0, none⟩) (([api_Act.mk 1 255 (api_Command.mk 255 1 (api_Ref.mk 65535 258) (-5) 65535), api_Act.mk 2 0 (api_Command.mk 0 0 (api_Ref.mk 0 0) 0 0), api_Act.mk 3 0 (api_Command.mk 1 0 (api_Ref.mk 0 0) 9223372036854775807 0), api_Act.mk 4 0 (api_Command.mk 0 0 (api_Ref.mk 0 0) 0 0)] : List api_Act).length) 4])] (obs := [.cell ⟨r1, 0, none⟩ (.int .i64 255), .cell ⟨r1, 1, none⟩ (.int .i64 65535), .cell ⟨r1, 2, none⟩ (.int .i64 9), .cell ⟨r1, 3, none⟩ (.int .i64 255), .cell ⟨r1, 4, none⟩ (.slice (some ⟨r, 0, none⟩) (([api_Act.mk 1 255 (api_Command.mk 255 1 (api_Ref.mk 65535 258) (-5) 65535), api_Act.mk 2 0 (api_Command.mk 0 0 (api_Ref.mk 0 0) 0 0), api_Act.mk 3 0 (api_Command.mk 1 0 (api_Ref.mk 0 0) 9223372036854775807 0), api_Act.mk 4 0 (api_Command.mk 0 0 (api_Ref.mk 0 0) 0 0)] : List api_Act).length) 4)]) ⟨H.cell 0 rfl rfl, H.cell 0 rfl rfl, H.cell 0 rfl rfl, H.cell 0 rfl rfl, H.cell 0 rfl rfl, trivial⟩ fun a hE => ?_
 obtain ⟨t_, et_, hm⟩ := bind_some hm
 replace H := H.t1
 have hC_ := thicketlaw28_written_ok (al_s := shell_Script.A.mk (some ⟨r, 0, none⟩) 4) (hX_s_Acts := (sl_rd 42 api_Act.enc 8 _ _ _)) (hC_s_Acts := (H.slCap 0 rfl).1) et_ H
 try dsimp only at hC_
 refine WR.eff hE rfl rfl rfl rfl (OpTo.fn hE rfl rfl Tryz.call15 hC_) ?_
 rintro _ w ⟨sb, sc, rfl, H⟩ a hE
 refine WR.e0 hE [(2, .slice sb t_.length sc)] fun a hE => ?_
 refine Runs.sr ?_
 refine WR.d hE 1 [.int .i64 255, .int .i64 65535, .int .i64 9, .int .i64 255, .slice (some ⟨r, 0, none⟩) (([api_Act.mk 1 255 (api_Command.mk 255 1 (api_Ref.mk 65535 258) (-5) 65535), api_Act.mk 2 0 (api_Command.mk 0 0 (api_Ref.mk 0 0) 0 0), api_Act.mk 3 0 (api_Command.mk 1 0 (api_Ref.mk 0 0) 9223372036854775807 0), api_Act.mk 4 0 (api_Command.mk 0 0 (api_Ref.mk 0 0) 0 0)] : List api_Act).length) 4] [(23, .agg #[.int .i64 255, .int .i64 65535, .int .i64 9, .int .i64 255, .slice (some ⟨r, 0, none⟩) (([api_Act.mk 1 255 (api_Command.mk 255 1 (api_Ref.mk 65535 258) (-5) 65535), api_Act.mk 2 0 (api_Command.mk 0 0 (api_Ref.mk 0 0) 0 0), api_Act.mk 3 0 (api_Command.mk 1 0 (api_Ref.mk 0 0) 9223372036854775807 0), api_Act.mk 4 0 (api_Command.mk 0 0 (api_Ref.mk 0 0) 0 0)] : List api_Act).length) 4])] (obs := [.cell ⟨r1, 0, none⟩ (.int .i64 255), .cell ⟨r1, 1, none⟩ (.int .i64 65535), .cell ⟨r1, 2, none⟩ (.int .i64 9), .cell ⟨r1, 3, none⟩ (.int .i64 255), .cell ⟨r1, 4, none⟩ (.slice (some ⟨r, 0, none⟩) (([api_Act.mk 1 255 (api_Command.mk 255 1 (api_Ref.mk 65535 258) (-5) 65535), api_Act.mk 2 0 (api_Command.mk 0 0 (api_Ref.mk 0 0) 0 0), api_Act.mk 3 0 (api_Command.mk 1 0 (api_Ref.mk 0 0) 9223372036854775807 0), api_Act.mk 4 0 (api_Command.mk 0 0 (api_Ref.mk 0 0) 0 0)] : List api_Act).length) 4)]) ⟨H.cell 2 rfl rfl, H.cell 2 rfl rfl, H.cell 2 rfl rfl, H.cell 2 rfl rfl, H.cell 2 rfl rfl, trivial⟩ fun a hE => ?_
 obtain ⟨t_1, et_1, hm⟩ := bind_some hm
 replace H := H.t1
 have hC_ := shell_Encode_ok (al_s := shell_Script.A.mk (some ⟨r, 0, none⟩) 4) (hX_s_Acts := (sl_rd 42 api_Act.enc 8 _ _ _)) (hC_s_Acts := (H.slCap 0 rfl).1) et_1 H
 try dsimp only at hC_
 refine WR.eff hE rfl rfl rfl rfl (OpTo.fn hE rfl rfl Tryz.call16 hC_) ?_
 rintro _ w ⟨sb1, sc1, rfl, H⟩ a hE
 refine WR.e0 hE [(3, .slice sb1 t_1.1.length sc1), (4, .int .i64 t_1.2)] fun a hE => ?_
 refine Runs.seq ?_
 refine Runs.sr ?_
 refine WR.e0 hE [(5, .int .i64 0)] fun a hE => ?_
 replace H := shell_Script.shut (shell_Script.A.mk (some ⟨r, 0, none⟩) 4) (shell_Script.mk 255 65535 9 255 ([api_Act.mk 1 255 (api_Command.mk 255 1 (api_Ref.mk 65535 258) (-5) 65535), api_Act.mk 2 0 (api_Command.mk 0 0 (api_Ref.mk 0 0) 0 0), api_Act.mk 3 0 (api_Command.mk 1 0 (api_Ref.mk 0 0) 9223372036854775807 0), api_Act.mk 4 0 (api_Command.mk 0 0 (api_Ref.mk 0 0) 0 0)] : List api_Act)) H.t1.t3
 obtain ⟨s, es, hR⟩ := bind_some hm
 refine Runs.join (fun a w => ∃ s1, s = Sum.inr s1 ∧ EnvOk 159 a [(2, .slice sb t_.length sc), (3, .slice sb1 t_1.1.length sc1), (4, .int .i64 t_1.2)] ∧ St w0 (shell_Script.R r1 (shell_Script.A.mk (some ⟨r, 0, none⟩) 4) (shell_Script.mk 255 65535 9 255 ([api_Act.mk 1 255 (api_Command.mk 255 1 (api_Ref.mk 65535 258) (-5) 65535), api_Act.mk 2 0 (api_Command.mk 0 0 (api_Ref.mk 0 0) 0 0), api_Act.mk 3 0 (api_Command.mk 1 0 (api_Ref.mk 0 0) 9223372036854775807 0), api_Act.mk 4 0 (api_Command.mk 0 0 (api_Ref.mk 0 0) 0 0)] : List api_Act)) :: Sl 5 ecU 1 sb1 sc1 t_1.1 :: Sl 5 ecU 1 sb sc t_ :: As) w) (fun hk => ?_) ?_
 ·replace hm := es; clear es
  refine Runs.block ?_
  refine Runs.loop (fun m a w => ∃ (k_ : Int), EnvOk 159 a [(2, .slice sb t_.length sc), (3, .slice sb1 t_1.1.length sc1), (4, .int .i64 t_1.2), (5, .int .i64 k_)] ∧ St w0 (shell_Script.R r1 (shell_Script.A.mk (some ⟨r, 0, none⟩) 4) (shell_Script.mk 255 65535 9 255 ([api_Act.mk 1 255 (api_Command.mk 255 1 (api_Ref.mk 65535 258) (-5) 65535), api_Act.mk 2 0 (api_Command.mk 0 0 (api_Ref.mk 0 0) 0 0), api_Act.mk 3 0 (api_Command.mk 1 0 (api_Ref.mk 0 0) 9223372036854775807 0), api_Act.mk 4 0 (api_Command.mk 0 0 (api_Ref.mk 0 0) 0 0)] : List api_Act)) :: Sl 5 ecU 1 sb1 sc1 t_1.1 :: Sl 5 ecU 1 sb sc t_ :: As) w ∧ thicketlaw28_ShellNumbers_l0 t_1.2 (shell_Script.mk 255 65535 9 255 ([api_Act.mk 1 255 (api_Command.mk 255 1 (api_Ref.mk 65535 258) (-5) 65535), api_Act.mk 2 0 (api_Command.mk 0 0 (api_Ref.mk 0 0) 0 0), api_Act.mk 3 0 (api_Command.mk 1 0 (api_Ref.mk 0 0) 9223372036854775807 0), api_Act.mk 4 0 (api_Command.mk 0 0 (api_Ref.mk 0 0) 0 0)] : List api_Act)) t_1.1 t_ m k_ = some s) k ⟨0, hE.sel [2, 3, 4, 5] (by kernel_rfl), H.t2.t2.t2, hm⟩ ?_
  rintro m ih a w ⟨k_, hE, H, hm⟩
  cases m with
  | zero => simp [thicketlaw28_ShellNumbers_l0] at hm
  | succ m =>
   rw [thicketlaw28_ShellNumbers_l0] at hm
   refine Runs.seq ?_
   refine Runs.sr ?_
   refine WR.seg hE 4 [] [2, 3, 4, 5, 30] (Lo := [(2, .slice sb t_.length sc), (3, .slice sb1 t_1.1.length sc1), (4, .int .i64 t_1.2), (5, .int .i64 k_), (30, .bool (decide (k_ ≤ (t_.length : Int))))]) (obs := []) rfl (by kernel_rfl) trivial fun a hE => ?_
   refine WR.done rfl ?_
   refine Runs.cond hE rfl (fun c => ?_) (fun c => ?_)
   ·replace hm := cond_t c hm
    refine Runs.skip ?_
    refine Runs.seq ?_
    refine Runs.block ?_
    refine Runs.sr ?_
    obtain ⟨l2, el2, hm⟩ := bind_some hm
    obtain ⟨sb2, q⟩ : ∃ z, rebase sb sc (Int.toNat 0) 1 = z := ⟨_, rfl⟩
    obtain ⟨sc2, q1⟩ : ∃ z, sc - (Int.toNat 0) = z := ⟨_, rfl⟩
    refine WR.d hE 3 [.slice sb2 l2.length sc2] [(35, .slice sb2 l2.length sc2)] (obs := [.p (rebase sb sc 0 1 = sb2), .p ((Int.toNat k_) - 0 = l2.length), .p (sc - 0 = sc2), .p (0 ≤ (k_ : Int) ∧ (k_ : Int) ≤ ((sc : Nat) : Int))]) ⟨q, cut_len el2, q1, cut_cap el2 (H.slCap 2 rfl).1, trivial⟩ fun a hE => ?_
    obtain ⟨t_2, et_2, hm⟩ := bind_some hm
    replace H := H.t2
    refine WR.eff hE rfl rfl rfl rfl (OpTo.fn hE rfl rfl Tryz.call17 (thicketlaw28_reads_ok (hX_b := ((sl_rd 5 ecU 1 _ _ _).cut' ecU_ok el2 ((H.slCap 0 rfl).1) q)) (hC_b := (cut_cap2 el2 (H.slCap 0 rfl).1 q1)) et_2 H)) ?_
    rintro _ w ⟨rfl, H⟩ a hE
    refine WR.e0 hE [(37, .bool (!t_2))] fun a hE => ?_
    refine Runs.cond hE rfl (fun c => ?_) (fun c => ?_)
    ·replace hm := cond_t c hm
     refine Runs.sr ?_
     refine WR.e0 hE [(0, .bool false)] fun a hE => ?_
     refine Runs.ret hE Tryz.func4 rfl rfl ?_
     cases hm
     dsimp only at hR; cases hR
     exact ⟨rfl, H.x2.x1.x0⟩
    ·replace hm := cond_f c hm
     refine Runs.skip ?_
     refine Runs.inBlock ?_
     refine Runs.region ?_
     refine WR.e0 hE [(5, .int .i64 (w64 (k_ + 1)))] fun a hE => ?_
     exact ih m (Nat.lt_succ_self m) _ _ ⟨w64 (k_ + 1), hE.sel [2, 3, 4, 5] (by kernel_rfl), H.t2.t2, hm⟩
   ·replace hm := cond_f c hm
    refine Runs.exit rfl ?_
    cases hm
    exact hk _ _ ⟨_, rfl, hE.sel [2, 3, 4] (by kernel_rfl), H.t2.t2.t2⟩
 rintro a w ⟨s1, rfl, hE, H⟩
 replace hm := hR; dsimp only at hm
 refine Runs.seq ?_
 refine Runs.sr ?_
 refine WR.seg hE 1 [] [2, 3, 4, 6] (Lo := [(2, .slice sb t_.length sc), (3, .slice sb1 t_1.1.length sc1), (4, .int .i64 t_1.2), (6, .int .i64 0)]) (obs := []) rfl (by kernel_rfl) trivial fun a hE => ?_
 refine WR.done rfl ?_
 obtain ⟨s2, es2, hR1⟩ := bind_some hm
 refine Runs.join (fun a w => ∃ s3, s2 = Sum.inr s3 ∧ EnvOk 159 a [(2, .slice sb t_.length sc), (3, .slice sb1 t_1.1.length sc1), (4, .int .i64 t_1.2)] ∧ St w0 (shell_Script.R r1 (shell_Script.A.mk (some ⟨r, 0, none⟩) 4) (shell_Script.mk 255 65535 9 255 ([api_Act.mk 1 255 (api_Command.mk 255 1 (api_Ref.mk 65535 258) (-5) 65535), api_Act.mk 2 0 (api_Command.mk 0 0 (api_Ref.mk 0 0) 0 0), api_Act.mk 3 0 (api_Command.mk 1 0 (api_Ref.mk 0 0) 9223372036854775807 0), api_Act.mk 4 0 (api_Command.mk 0 0 (api_Ref.mk 0 0) 0 0)] : List api_Act)) :: Sl 5 ecU 1 sb1 sc1 t_1.1 :: Sl 5 ecU 1 sb sc t_ :: As) w) (fun hk => ?_) ?_
 ·replace hm := es2; clear es2
  refine Runs.block ?_
  refine Runs.loop (fun m a w => ∃ (how : Int), EnvOk 159 a [(2, .slice sb t_.length sc), (3, .slice sb1 t_1.1.length sc1), (4, .int .i64 t_1.2), (6, .int .i64 how)] ∧ St w0 (shell_Script.R r1 (shell_Script.A.mk (some ⟨r, 0, none⟩) 4) (shell_Script.mk 255 65535 9 255 ([api_Act.mk 1 255 (api_Command.mk 255 1 (api_Ref.mk 65535 258) (-5) 65535), api_Act.mk 2 0 (api_Command.mk 0 0 (api_Ref.mk 0 0) 0 0), api_Act.mk 3 0 (api_Command.mk 1 0 (api_Ref.mk 0 0) 9223372036854775807 0), api_Act.mk 4 0 (api_Command.mk 0 0 (api_Ref.mk 0 0) 0 0)] : List api_Act)) :: Sl 5 ecU 1 sb1 sc1 t_1.1 :: Sl 5 ecU 1 sb sc t_ :: As) w ∧ thicketlaw28_ShellNumbers_l1 t_1.2 (shell_Script.mk 255 65535 9 255 ([api_Act.mk 1 255 (api_Command.mk 255 1 (api_Ref.mk 65535 258) (-5) 65535), api_Act.mk 2 0 (api_Command.mk 0 0 (api_Ref.mk 0 0) 0 0), api_Act.mk 3 0 (api_Command.mk 1 0 (api_Ref.mk 0 0) 9223372036854775807 0), api_Act.mk 4 0 (api_Command.mk 0 0 (api_Ref.mk 0 0) 0 0)] : List api_Act)) t_1.1 t_ m how = some s2) k ⟨0, hE.sel [2, 3, 4, 6] (by kernel_rfl), H.t2.t2.t2, hm⟩ ?_
  rintro m ih a w ⟨how, hE, H, hm⟩
  cases m with
  | zero => simp [thicketlaw28_ShellNumbers_l1] at hm
  | succ m =>
   rw [thicketlaw28_ShellNumbers_l1] at hm
   refine Runs.seq ?_
   refine Runs.sr ?_
   refine WR.seg hE 2 [] [2, 3, 4, 6, 39] (Lo := [(2, .slice sb t_.length sc), (3, .slice sb1 t_1.1.length sc1), (4, .int .i64 t_1.2), (6, .int .i64 how), (39, .bool (decide (how < 15)))]) (obs := []) rfl (by kernel_rfl) trivial fun a hE => ?_
   refine WR.done rfl ?_
   refine Runs.cond hE rfl (fun c => ?_) (fun c => ?_)
   ·replace hm := cond_t c hm
    refine Runs.skip ?_
    refine Runs.seq ?_
    obtain ⟨s4, es4, hR2⟩ := bind_some hm
    refine Runs.join (fun a w => ∃ s5, s4 = Sum.inr s5 ∧ EnvOk 159 a [(2, .slice sb t_.length sc), (3, .slice sb1 t_1.1.length sc1), (4, .int .i64 t_1.2), (6, .int .i64 how)] ∧ St w0 (shell_Script.R r1 (shell_Script.A.mk (some ⟨r, 0, none⟩) 4) (shell_Script.mk 255 65535 9 255 ([api_Act.mk 1 255 (api_Command.mk 255 1 (api_Ref.mk 65535 258) (-5) 65535), api_Act.mk 2 0 (api_Command.mk 0 0 (api_Ref.mk 0 0) 0 0), api_Act.mk 3 0 (api_Command.mk 1 0 (api_Ref.mk 0 0) 9223372036854775807 0), api_Act.mk 4 0 (api_Command.mk 0 0 (api_Ref.mk 0 0) 0 0)] : List api_Act)) :: Sl 5 ecU 1 sb1 sc1 t_1.1 :: Sl 5 ecU 1 sb sc t_ :: As) w) (fun hk => ?_) ?_
    ·replace hm := es4; clear es4
     refine Runs.block ?_
     refine Runs.sr ?_
     refine WR.d0 hE 1 [(42, .agg #[.int .i64 3, .int .i64 0, .int .i64 0, .int .i64 0, .int .i64 0, .int .i64 0, .int .i64 0, .int .i64 0])] fun a hE => ?_
     refine WR.eff hE rfl rfl rfl rfl (OpTo.buildSl (T := 42) hE H api_Act.enc_ok ([api_Act.mk 3 0 (api_Command.mk 0 0 (api_Ref.mk 0 0) 0 0)] : List api_Act) rfl (fun _ => by kernel_rfl) rfl rfl rfl) ?_
     rintro _ w ⟨r2, rfl, H⟩ a hE
     refine WR.d0 hE 3 [(44, .agg #[.int .i64 1, .int .i64 1, .int .i64 0, .int .i64 0, .slice (some ⟨r2, 0, none⟩) (([api_Act.mk 3 0 (api_Command.mk 0 0 (api_Ref.mk 0 0) 0 0)] : List api_Act).length) 1])] fun a hE => ?_
     refine WR.eff hE rfl rfl rfl rfl (OpTo.new hE H [] (.cells #[.int .i64 0, .int .i64 0, .int .i64 0, .int .i64 0, .slice none 0 0] 45 (0, 0)) (fun r => .pointer (some ⟨r, 0, none⟩)) (obs := []) rfl (fun _ => by kernel_rfl) trivial) ?_
     rintro _ w ⟨r3, rfl, H⟩ a hE
     refine WR.eff0 hE rfl rfl rfl (OpTo.store hE H rfl rfl rfl rfl rfl rfl (Nat.le_of_ble_eq_true rfl)) ?_
     rintro _ w H a hE
     refine WR.done rfl ?_
     refine Runs.sr ?_
     obtain ⟨b, o, hs, hb⟩ := SlRd.base (sl_rd 42 api_Act.enc 8 _ _ _) api_Act.enc_ok H 1 rfl (rfl : mIdx ([api_Act.mk 3 0 (api_Command.mk 0 0 (api_Ref.mk 0 0) 0 0)] : List api_Act) (0 : Int) = some (api_Act.mk 3 0 (api_Command.mk 0 0 (api_Ref.mk 0 0) 0 0)))
     refine WR.e hE [.slice (some ⟨r2, 0, none⟩) (([api_Act.mk 3 0 (api_Command.mk 0 0 (api_Ref.mk 0 0) 0 0)] : List api_Act).length) 1, .pointer (some ⟨b, o, none⟩)] [(8, .pointer (some ⟨b, o + (Int.toNat 0) * 8 + 2, none⟩))] (obs := [.cell ⟨r3, 4, none⟩ (.slice (some ⟨r2, 0, none⟩) (([api_Act.mk 3 0 (api_Command.mk 0 0 (api_Ref.mk 0 0) 0 0)] : List api_Act).length) 1), .p (((some ⟨r2, 0, none⟩) : Option Addr) = some ⟨b, o, none⟩), .p (0 ≤ (0 : Int) ∧ (0 : Int) < ((([api_Act.mk 3 0 (api_Command.mk 0 0 (api_Ref.mk 0 0) 0 0)] : List api_Act).length : Nat) : Int))]) ⟨H.cell 0 rfl rfl, hs, hb, trivial⟩ fun a hE => ?_
     refine Runs.seq ?_
     refine Runs.sr ?_
     refine WR.e0 hE [(49, .int .i64 how)] fun a hE => ?_
     replace H := shell_Script.shut (shell_Script.A.mk (some ⟨r2, 0, none⟩) 1) (shell_Script.mk 1 1 0 0 ([api_Act.mk 3 0 (api_Command.mk 0 0 (api_Ref.mk 0 0) 0 0)] : List api_Act)) H.t1.t1
     obtain ⟨s6, es6, hm⟩ := bind_some hm
     refine Runs.join (fun a w => ∃ (z : Option Addr), ∃ (z1 : Nat), EnvOk 159 a [(2, .slice sb t_.length sc), (3, .slice sb1 t_1.1.length sc1), (4, .int .i64 t_1.2), (6, .int .i64 how), (7, .pointer (some ⟨r3, 0, none⟩))] ∧ St w0 (shell_Script.R r3 (shell_Script.A.mk z z1) s6 :: shell_Script.R r1 (shell_Script.A.mk (some ⟨r, 0, none⟩) 4) (shell_Script.mk 255 65535 9 255 ([api_Act.mk 1 255 (api_Command.mk 255 1 (api_Ref.mk 65535 258) (-5) 65535), api_Act.mk 2 0 (api_Command.mk 0 0 (api_Ref.mk 0 0) 0 0), api_Act.mk 3 0 (api_Command.mk 1 0 (api_Ref.mk 0 0) 9223372036854775807 0), api_Act.mk 4 0 (api_Command.mk 0 0 (api_Ref.mk 0 0) 0 0)] : List api_Act)) :: Sl 5 ecU 1 sb1 sc1 t_1.1 :: Sl 5 ecU 1 sb sc t_ :: As) w) (fun hk => ?_) ?_
     ·replace hm := es6; clear es6
      refine Runs.block ?_
      refine Runs.sr ?_
      refine WR.e0 hE [(50, .bool (how == 0))] fun a hE => ?_
      refine Runs.cond hE rfl (fun c => ?_) (fun c => ?_)
      ·replace hm := cond_t c hm
       refine Runs.region ?_
       refine WR.d0 hE 1 [(52, .pointer (some ⟨r3, 0, none⟩))] fun a hE => ?_
       replace H := shell_Script.open H
       try dsimp only at H
       refine WR.eff0 hE rfl rfl rfl (OpTo.store hE H rfl rfl rfl rfl rfl rfl (Nat.le_of_ble_eq_true rfl)) ?_
       rintro _ w H a hE
       refine WR.done rfl ?_
       refine Runs.inBlock ?_
       replace H := shell_Script.shut (shell_Script.A.mk (some ⟨r2, 0, none⟩) 1) (shell_Script.mk (-1) 1 0 0 ([api_Act.mk 3 0 (api_Command.mk 0 0 (api_Ref.mk 0 0) 0 0)] : List api_Act)) H.t1.t1
       cases hm
       exact hk _ _ ⟨(some ⟨r2, 0, none⟩), 1, hE.sel [2, 3, 4, 6, 7] (by kernel_rfl), H.t3.t3.t3.t3⟩
      ·replace hm := cond_f c hm
       refine Runs.sr ?_
       refine WR.e0 hE [(53, .bool (how == 1))] fun a hE => ?_
       refine Runs.cond hE rfl (fun c => ?_) (fun c => ?_)
       ·replace hm := cond_t c hm
        refine Runs.region ?_
        refine WR.d0 hE 1 [(55, .pointer (some ⟨r3, 0, none⟩))] fun a hE => ?_
        replace H := shell_Script.open H
        try dsimp only at H
        refine WR.eff0 hE rfl rfl rfl (OpTo.store hE H rfl rfl rfl rfl rfl rfl (Nat.le_of_ble_eq_true rfl)) ?_
        rintro _ w H a hE
        refine WR.done rfl ?_
        refine Runs.inBlock ?_
        replace H := shell_Script.shut (shell_Script.A.mk (some ⟨r2, 0, none⟩) 1) (shell_Script.mk 256 1 0 0 ([api_Act.mk 3 0 (api_Command.mk 0 0 (api_Ref.mk 0 0) 0 0)] : List api_Act)) H.t1.t1
        cases hm
        exact hk _ _ ⟨(some ⟨r2, 0, none⟩), 1, hE.sel [2, 3, 4, 6, 7] (by kernel_rfl), H.t3.t3.t3.t3⟩
       ·replace hm := cond_f c hm
        refine Runs.sr ?_
        refine WR.e0 hE [(56, .bool (how == 2))] fun a hE => ?_
        refine Runs.cond hE rfl (fun c => ?_) (fun c => ?_)
        ·replace hm := cond_t c hm
         refine Runs.region ?_
         refine WR.d0 hE 1 [(58, .pointer (some ⟨r3, 1, none⟩))] fun a hE => ?_
         replace H := shell_Script.open H
         try dsimp only at H
         refine WR.eff0 hE rfl rfl rfl (OpTo.store hE H rfl rfl rfl rfl rfl rfl (Nat.le_of_ble_eq_true rfl)) ?_
         rintro _ w H a hE
         refine WR.done rfl ?_
         refine Runs.inBlock ?_
         replace H := shell_Script.shut (shell_Script.A.mk (some ⟨r2, 0, none⟩) 1) (shell_Script.mk 1 65536 0 0 ([api_Act.mk 3 0 (api_Command.mk 0 0 (api_Ref.mk 0 0) 0 0)] : List api_Act)) H.t1.t1
         cases hm
         exact hk _ _ ⟨(some ⟨r2, 0, none⟩), 1, hE.sel [2, 3, 4, 6, 7] (by kernel_rfl), H.t3.t3.t3.t3⟩
        ·replace hm := cond_f c hm
         refine Runs.sr ?_
         refine WR.e0 hE [(59, .bool (how == 3))] fun a hE => ?_
         refine Runs.cond hE rfl (fun c => ?_) (fun c => ?_)
         ·replace hm := cond_t c hm
          refine Runs.region ?_
          refine WR.d0 hE 1 [(61, .pointer (some ⟨r3, 2, none⟩))] fun a hE => ?_
          replace H := shell_Script.open H
          try dsimp only at H
          refine WR.eff0 hE rfl rfl rfl (OpTo.store hE H rfl rfl rfl rfl rfl rfl (Nat.le_of_ble_eq_true rfl)) ?_
          rintro _ w H a hE
          refine WR.done rfl ?_
          refine Runs.inBlock ?_
          replace H := shell_Script.shut (shell_Script.A.mk (some ⟨r2, 0, none⟩) 1) (shell_Script.mk 1 1 (-1) 0 ([api_Act.mk 3 0 (api_Command.mk 0 0 (api_Ref.mk 0 0) 0 0)] : List api_Act)) H.t1.t1
          cases hm
          exact hk _ _ ⟨(some ⟨r2, 0, none⟩), 1, hE.sel [2, 3, 4, 6, 7] (by kernel_rfl), H.t3.t3.t3.t3⟩
         ·replace hm := cond_f c hm
          refine Runs.sr ?_
          refine WR.e0 hE [(62, .bool (how == 4))] fun a hE => ?_
          refine Runs.cond hE rfl (fun c => ?_) (fun c => ?_)
          ·replace hm := cond_t c hm
           refine Runs.region ?_
           refine WR.d0 hE 1 [(64, .pointer (some ⟨r3, 3, none⟩))] fun a hE => ?_
           replace H := shell_Script.open H
           try dsimp only at H
           refine WR.eff0 hE rfl rfl rfl (OpTo.store hE H rfl rfl rfl rfl rfl rfl (Nat.le_of_ble_eq_true rfl)) ?_
           rintro _ w H a hE
           refine WR.done rfl ?_
           refine Runs.inBlock ?_
           replace H := shell_Script.shut (shell_Script.A.mk (some ⟨r2, 0, none⟩) 1) (shell_Script.mk 1 1 0 256 ([api_Act.mk 3 0 (api_Command.mk 0 0 (api_Ref.mk 0 0) 0 0)] : List api_Act)) H.t1.t1
           cases hm
           exact hk _ _ ⟨(some ⟨r2, 0, none⟩), 1, hE.sel [2, 3, 4, 6, 7] (by kernel_rfl), H.t3.t3.t3.t3⟩
          ·replace hm := cond_f c hm
           refine Runs.sr ?_
           refine WR.e0 hE [(65, .bool (how == 5))] fun a hE => ?_
           refine Runs.cond hE rfl (fun c => ?_) (fun c => ?_)
           ·replace hm := cond_t c hm
            refine Runs.region ?_
            obtain ⟨l5, el5, hm⟩ := bind_some hm
            refine WR.eff hE rfl rfl rfl rfl (OpTo.make el5 hE H api_Act.enc_ok rfl rfl rfl rfl rfl rfl rfl rfl) ?_
            rintro _ w ⟨r4, rfl, H⟩ a hE
            refine WR.d0 hE 2 [(68, .pointer (some ⟨r3, 4, none⟩))] fun a hE => ?_
            replace H := shell_Script.open H.t1
            try dsimp only at H
            refine WR.eff0 hE rfl rfl rfl (OpTo.store hE H rfl rfl rfl rfl rfl rfl (Nat.le_of_ble_eq_true rfl)) ?_
            rintro _ w H a hE
            refine WR.done rfl ?_
            refine Runs.inBlock ?_
            replace H := shell_Script.shut (shell_Script.A.mk (some ⟨r4, 0, none⟩) l5.length) (shell_Script.mk 1 1 0 0 l5) H.t2.t1
            cases hm
            exact hk _ _ ⟨(some ⟨r4, 0, none⟩), l5.length, hE.sel [2, 3, 4, 6, 7] (by kernel_rfl), H.x1.t3.t3.t3.t3⟩
           ·replace hm := cond_f c hm
            refine Runs.sr ?_
            refine WR.e0 hE [(69, .bool (how == 6))] fun a hE => ?_
            refine Runs.cond hE rfl (fun c => ?_) (fun c => ?_)
            ·replace hm := cond_t c hm
             refine Runs.region ?_
             replace H := shell_Script.open H
             try dsimp only at H
             obtain ⟨x, ex, hm⟩ := bind_some hm
             obtain ⟨b1, o1, hs1, hb1⟩ := SlRd.base (sl_rd 42 api_Act.enc 8 _ _ _) api_Act.enc_ok H 1 rfl ex
             refine WR.d hE 4 [.slice (some ⟨r2, 0, none⟩) (([api_Act.mk 3 0 (api_Command.mk 0 0 (api_Ref.mk 0 0) 0 0)] : List api_Act).length) 1, .pointer (some ⟨b1, o1, none⟩)] [(74, .pointer (some ⟨b1, o1 + (Int.toNat 0) * 8, none⟩))] (obs := [.cell ⟨r3, 4, none⟩ (.slice (some ⟨r2, 0, none⟩) (([api_Act.mk 3 0 (api_Command.mk 0 0 (api_Ref.mk 0 0) 0 0)] : List api_Act).length) 1), .p (((some ⟨r2, 0, none⟩) : Option Addr) = some ⟨b1, o1, none⟩), .p (0 ≤ (0 : Int) ∧ (0 : Int) < ((([api_Act.mk 3 0 (api_Command.mk 0 0 (api_Ref.mk 0 0) 0 0)] : List api_Act).length : Nat) : Int))]) ⟨H.cell 0 rfl rfl, hs1, hb1, trivial⟩ fun a hE => ?_
             refine WR.eff0 hE rfl rfl rfl (OpTo.storeSl (q := 0) (x' := (api_Act.mk 0 x.Box x.Command)) hE H.t1 api_Act.enc_ok rfl hs1 ex rfl rfl rfl rfl rfl (Nat.le_of_ble_eq_true rfl) rfl) ?_
             rintro _ w H a hE
             rw [← mSet_len ([api_Act.mk 3 0 (api_Command.mk 0 0 (api_Ref.mk 0 0) 0 0)] : List api_Act) 0 (api_Act.mk 0 x.Box x.Command)] at H
             refine WR.done rfl ?_
             refine Runs.inBlock ?_
             replace H := shell_Script.shut (shell_Script.A.mk (some ⟨r2, 0, none⟩) 1) (shell_Script.mk 1 1 0 0 (mSet ([api_Act.mk 3 0 (api_Command.mk 0 0 (api_Ref.mk 0 0) 0 0)] : List api_Act) 0 (api_Act.mk 0 x.Box x.Command))) H.t1
             cases hm
             exact hk _ _ ⟨(some ⟨r2, 0, none⟩), 1, hE.sel [2, 3, 4, 6, 7] (by kernel_rfl), H.t3.t3.t3.t3⟩
            ·replace hm := cond_f c hm
             refine Runs.sr ?_
             refine WR.e0 hE [(75, .bool (how == 7))] fun a hE => ?_
             refine Runs.cond hE rfl (fun c => ?_) (fun c => ?_)
             ·replace hm := cond_t c hm
              refine Runs.region ?_
              replace H := shell_Script.open H
              try dsimp only at H
              obtain ⟨x1, ex1, hm⟩ := bind_some hm
              obtain ⟨b2, o2, hs2, hb2⟩ := SlRd.base (sl_rd 42 api_Act.enc 8 _ _ _) api_Act.enc_ok H 1 rfl ex1
              refine WR.d hE 4 [.slice (some ⟨r2, 0, none⟩) (([api_Act.mk 3 0 (api_Command.mk 0 0 (api_Ref.mk 0 0) 0 0)] : List api_Act).length) 1, .pointer (some ⟨b2, o2, none⟩)] [(80, .pointer (some ⟨b2, o2 + (Int.toNat 0) * 8, none⟩))] (obs := [.cell ⟨r3, 4, none⟩ (.slice (some ⟨r2, 0, none⟩) (([api_Act.mk 3 0 (api_Command.mk 0 0 (api_Ref.mk 0 0) 0 0)] : List api_Act).length) 1), .p (((some ⟨r2, 0, none⟩) : Option Addr) = some ⟨b2, o2, none⟩), .p (0 ≤ (0 : Int) ∧ (0 : Int) < ((([api_Act.mk 3 0 (api_Command.mk 0 0 (api_Ref.mk 0 0) 0 0)] : List api_Act).length : Nat) : Int))]) ⟨H.cell 0 rfl rfl, hs2, hb2, trivial⟩ fun a hE => ?_
              refine WR.eff0 hE rfl rfl rfl (OpTo.storeSl (q := 0) (x' := (api_Act.mk 5 x1.Box x1.Command)) hE H.t1 api_Act.enc_ok rfl hs2 ex1 rfl rfl rfl rfl rfl (Nat.le_of_ble_eq_true rfl) rfl) ?_
              rintro _ w H a hE
              rw [← mSet_len ([api_Act.mk 3 0 (api_Command.mk 0 0 (api_Ref.mk 0 0) 0 0)] : List api_Act) 0 (api_Act.mk 5 x1.Box x1.Command)] at H
              refine WR.done rfl ?_
              refine Runs.inBlock ?_
              replace H := shell_Script.shut (shell_Script.A.mk (some ⟨r2, 0, none⟩) 1) (shell_Script.mk 1 1 0 0 (mSet ([api_Act.mk 3 0 (api_Command.mk 0 0 (api_Ref.mk 0 0) 0 0)] : List api_Act) 0 (api_Act.mk 5 x1.Box x1.Command))) H.t1
              cases hm
              exact hk _ _ ⟨(some ⟨r2, 0, none⟩), 1, hE.sel [2, 3, 4, 6, 7] (by kernel_rfl), H.t3.t3.t3.t3⟩
             ·replace hm := cond_f c hm
              refine Runs.sr ?_
              refine WR.e0 hE [(81, .bool (how == 8))] fun a hE => ?_
              refine Runs.cond hE rfl (fun c => ?_) (fun c => ?_)
              ·replace hm := cond_t c hm
               refine Runs.drawn mixed (by kernel_rfl) ?_
               replace H := H.drew
               replace H := shell_Script.open H
               try dsimp only at H
               obtain ⟨x2, ex2, hm⟩ := bind_some hm
               obtain ⟨b3, o3, hs3, hb3⟩ := SlRd.base (sl_rd 42 api_Act.enc 8 _ _ _) api_Act.enc_ok H 1 rfl ex2
               refine WQ.d hE [0, 1, 2, 3, 4, 5] [.slice (some ⟨r2, 0, none⟩) (([api_Act.mk 3 0 (api_Command.mk 0 0 (api_Ref.mk 0 0) 0 0)] : List api_Act).length) 1, .slice (some ⟨r2, 0, none⟩) (([api_Act.mk 3 0 (api_Command.mk 0 0 (api_Ref.mk 0 0) 0 0)] : List api_Act).length) 1, .pointer (some ⟨b3, o3, none⟩)] [(86, .slice (some ⟨r2, 0, none⟩) (([api_Act.mk 3 0 (api_Command.mk 0 0 (api_Ref.mk 0 0) 0 0)] : List api_Act).length) 1), (88, .pointer (some ⟨b3, o3 + (Int.toNat 0) * 8, none⟩))] (obs := [.cell ⟨r3, 4, none⟩ (.slice (some ⟨r2, 0, none⟩) (([api_Act.mk 3 0 (api_Command.mk 0 0 (api_Ref.mk 0 0) 0 0)] : List api_Act).length) 1), .cell ⟨r3, 4, none⟩ (.slice (some ⟨r2, 0, none⟩) (([api_Act.mk 3 0 (api_Command.mk 0 0 (api_Ref.mk 0 0) 0 0)] : List api_Act).length) 1), .p (((some ⟨r2, 0, none⟩) : Option Addr) = some ⟨b3, o3, none⟩), .p (0 ≤ (0 : Int) ∧ (0 : Int) < ((([api_Act.mk 3 0 (api_Command.mk 0 0 (api_Ref.mk 0 0) 0 0)] : List api_Act).length : Nat) : Int))]) ⟨H.cell 0 rfl rfl, H.cell 0 rfl rfl, hs3, hb3, trivial⟩ fun a hE => ?_
               refine WQ.eff0 (j := 6) (obs := [.cell ⟨r3, 4, none⟩ (.slice (some ⟨r2, 0, none⟩) (([api_Act.mk 3 0 (api_Command.mk 0 0 (api_Ref.mk 0 0) 0 0)] : List api_Act).length) 1)]) hE (by kernel_rfl) rfl rfl rfl (by kernel_rfl) (OpTo.storeSl (q := 0) (x' := (api_Act.mk 1 x2.Box x2.Command)) hE H.t1 api_Act.enc_ok rfl hs3 ex2 rfl rfl rfl rfl rfl (Nat.le_of_ble_eq_true rfl) rfl) ?_
               rintro _ w H
               rw [← mSet_len ([api_Act.mk 3 0 (api_Command.mk 0 0 (api_Ref.mk 0 0) 0 0)] : List api_Act) 0 (api_Act.mk 1 x2.Box x2.Command)] at H
               refine ⟨⟨H.cell 1 rfl rfl, trivial⟩, fun a hE => ?_⟩
               try rw [← mSet_len ([api_Act.mk 3 0 (api_Command.mk 0 0 (api_Ref.mk 0 0) 0 0)] : List api_Act) 0 (api_Act.mk 1 x2.Box x2.Command)] at hE
               obtain ⟨x3, ex3, hm⟩ := bind_some hm
               obtain ⟨b4, o4, hs4, hb4⟩ := SlRd.base (sl_rd 42 api_Act.enc 8 _ _ _) api_Act.enc_ok H 0 rfl ex3
               refine WQ.seg hE [7, 8] [.pointer (some ⟨b4, o4, none⟩)] [2, 3, 4, 6, 7, 90] (Lo := [(2, .slice sb t_.length sc), (3, .slice sb1 t_1.1.length sc1), (4, .int .i64 t_1.2), (6, .int .i64 how), (7, .pointer (some ⟨r3, 0, none⟩)), (90, .pointer (some ⟨b4, o4 + (Int.toNat 0) * 8 + 1, none⟩))]) (obs := [.p (((some ⟨r2, 0, none⟩) : Option Addr) = some ⟨b4, o4, none⟩), .p (0 ≤ (0 : Int) ∧ (0 : Int) < (((mSet ([api_Act.mk 3 0 (api_Command.mk 0 0 (api_Ref.mk 0 0) 0 0)] : List api_Act) 0 (api_Act.mk 1 x2.Box x2.Command)).length : Nat) : Int))]) (by kernel_rfl) (by kernel_rfl) ⟨hs4, hb4, trivial⟩ fun a hE => ?_
               refine WQ.eff0 (j := 9) (obs := []) hE (by kernel_rfl) rfl rfl rfl (by kernel_rfl) (OpTo.storeSl (q := 1) (x' := (api_Act.mk x3.Kind 256 x3.Command)) hE H api_Act.enc_ok rfl hs4 ex3 rfl rfl rfl rfl rfl (Nat.le_of_ble_eq_true rfl) rfl) ?_
               rintro _ w H
               rw [← mSet_len (mSet ([api_Act.mk 3 0 (api_Command.mk 0 0 (api_Ref.mk 0 0) 0 0)] : List api_Act) 0 (api_Act.mk 1 x2.Box x2.Command)) 0 (api_Act.mk x3.Kind 256 x3.Command)] at H
               refine ⟨trivial, fun a hE => ?_⟩
               refine WQ.done (by kernel_rfl) ?_
               refine Runs.inBlock ?_
               replace H := shell_Script.shut (shell_Script.A.mk (some ⟨r2, 0, none⟩) 1) (shell_Script.mk 1 1 0 0 (mSet (mSet ([api_Act.mk 3 0 (api_Command.mk 0 0 (api_Ref.mk 0 0) 0 0)] : List api_Act) 0 (api_Act.mk 1 x2.Box x2.Command)) 0 (api_Act.mk x3.Kind 256 x3.Command))) H.t1
               cases hm
               exact hk _ _ ⟨(some ⟨r2, 0, none⟩), 1, hE.sel [2, 3, 4, 6, 7] (by kernel_rfl), H.t3.t3.t3.t3⟩
              ·replace hm := cond_f c hm
               refine Runs.sr ?_
               refine WR.e0 hE [(91, .bool (how == 9))] fun a hE => ?_
               refine Runs.cond hE rfl (fun c => ?_) (fun c => ?_)
               ·replace hm := cond_t c hm
                refine Runs.region ?_
                replace H := shell_Script.open H
                try dsimp only at H
                refine WR.d0 hE 3 [(95, .pointer (some ⟨b, o + (Int.toNat 0) * 8 + 2, none⟩))] fun a hE => ?_
                refine WR.eff0 hE rfl rfl rfl (OpTo.storeSl (q := 2) (x' := (api_Act.mk 3 0 (api_Command.mk (-1) 0 (api_Ref.mk 0 0) 0 0))) hE H.t1 api_Act.enc_ok rfl hs (rfl : mIdx ([api_Act.mk 3 0 (api_Command.mk 0 0 (api_Ref.mk 0 0) 0 0)] : List api_Act) (0 : Int) = some (api_Act.mk 3 0 (api_Command.mk 0 0 (api_Ref.mk 0 0) 0 0))) rfl rfl rfl rfl rfl (Nat.le_of_ble_eq_true rfl) rfl) ?_
                rintro _ w H a hE
                rw [← mSet_len ([api_Act.mk 3 0 (api_Command.mk 0 0 (api_Ref.mk 0 0) 0 0)] : List api_Act) 0 (api_Act.mk 3 0 (api_Command.mk (-1) 0 (api_Ref.mk 0 0) 0 0))] at H
                refine WR.done rfl ?_
                refine Runs.inBlock ?_
                replace H := shell_Script.shut (shell_Script.A.mk (some ⟨r2, 0, none⟩) 1) (shell_Script.mk 1 1 0 0 (mSet ([api_Act.mk 3 0 (api_Command.mk 0 0 (api_Ref.mk 0 0) 0 0)] : List api_Act) 0 (api_Act.mk 3 0 (api_Command.mk (-1) 0 (api_Ref.mk 0 0) 0 0)))) H.t1
                cases hm
                exact hk _ _ ⟨(some ⟨r2, 0, none⟩), 1, hE.sel [2, 3, 4, 6, 7] (by kernel_rfl), H.t3.t3.t3.t3⟩
               ·replace hm := cond_f c hm
                refine Runs.sr ?_
                refine WR.e0 hE [(96, .bool (how == 10))] fun a hE => ?_
                refine Runs.cond hE rfl (fun c => ?_) (fun c => ?_)
                ·replace hm := cond_t c hm
                 refine Runs.region ?_
                 replace H := shell_Script.open H
                 try dsimp only at H
                 refine WR.d0 hE 3 [(100, .pointer (some ⟨b, o + (Int.toNat 0) * 8 + 3, none⟩))] fun a hE => ?_
                 refine WR.eff0 hE rfl rfl rfl (OpTo.storeSl (q := 3) (x' := (api_Act.mk 3 0 (api_Command.mk 0 2 (api_Ref.mk 0 0) 0 0))) hE H.t1 api_Act.enc_ok rfl hs (rfl : mIdx ([api_Act.mk 3 0 (api_Command.mk 0 0 (api_Ref.mk 0 0) 0 0)] : List api_Act) (0 : Int) = some (api_Act.mk 3 0 (api_Command.mk 0 0 (api_Ref.mk 0 0) 0 0))) rfl rfl rfl rfl rfl (Nat.le_of_ble_eq_true rfl) rfl) ?_
                 rintro _ w H a hE
                 rw [← mSet_len ([api_Act.mk 3 0 (api_Command.mk 0 0 (api_Ref.mk 0 0) 0 0)] : List api_Act) 0 (api_Act.mk 3 0 (api_Command.mk 0 2 (api_Ref.mk 0 0) 0 0))] at H
                 refine WR.done rfl ?_
                 refine Runs.inBlock ?_
                 replace H := shell_Script.shut (shell_Script.A.mk (some ⟨r2, 0, none⟩) 1) (shell_Script.mk 1 1 0 0 (mSet ([api_Act.mk 3 0 (api_Command.mk 0 0 (api_Ref.mk 0 0) 0 0)] : List api_Act) 0 (api_Act.mk 3 0 (api_Command.mk 0 2 (api_Ref.mk 0 0) 0 0)))) H.t1
                 cases hm
                 exact hk _ _ ⟨(some ⟨r2, 0, none⟩), 1, hE.sel [2, 3, 4, 6, 7] (by kernel_rfl), H.t3.t3.t3.t3⟩
                ·replace hm := cond_f c hm
                 refine Runs.sr ?_
                 refine WR.e0 hE [(101, .bool (how == 11))] fun a hE => ?_
                 refine Runs.cond hE rfl (fun c => ?_) (fun c => ?_)
                 ·replace hm := cond_t c hm
                  refine Runs.region ?_
                  replace H := shell_Script.open H
                  try dsimp only at H
                  refine WR.d0 hE 4 [(106, .pointer (some ⟨b, o + (Int.toNat 0) * 8 + 4, none⟩))] fun a hE => ?_
                  refine WR.eff0 hE rfl rfl rfl (OpTo.storeSl (q := 4) (x' := (api_Act.mk 3 0 (api_Command.mk 0 0 (api_Ref.mk (-1) 0) 0 0))) hE H.t1 api_Act.enc_ok rfl hs (rfl : mIdx ([api_Act.mk 3 0 (api_Command.mk 0 0 (api_Ref.mk 0 0) 0 0)] : List api_Act) (0 : Int) = some (api_Act.mk 3 0 (api_Command.mk 0 0 (api_Ref.mk 0 0) 0 0))) rfl rfl rfl rfl rfl (Nat.le_of_ble_eq_true rfl) rfl) ?_
                  rintro _ w H a hE
                  rw [← mSet_len ([api_Act.mk 3 0 (api_Command.mk 0 0 (api_Ref.mk 0 0) 0 0)] : List api_Act) 0 (api_Act.mk 3 0 (api_Command.mk 0 0 (api_Ref.mk (-1) 0) 0 0))] at H
                  refine WR.done rfl ?_
                  refine Runs.inBlock ?_
                  replace H := shell_Script.shut (shell_Script.A.mk (some ⟨r2, 0, none⟩) 1) (shell_Script.mk 1 1 0 0 (mSet ([api_Act.mk 3 0 (api_Command.mk 0 0 (api_Ref.mk 0 0) 0 0)] : List api_Act) 0 (api_Act.mk 3 0 (api_Command.mk 0 0 (api_Ref.mk (-1) 0) 0 0)))) H.t1
                  cases hm
                  exact hk _ _ ⟨(some ⟨r2, 0, none⟩), 1, hE.sel [2, 3, 4, 6, 7] (by kernel_rfl), H.t3.t3.t3.t3⟩
                 ·replace hm := cond_f c hm
                  refine Runs.sr ?_
                  refine WR.e0 hE [(107, .bool (how == 12))] fun a hE => ?_
                  refine Runs.cond hE rfl (fun c => ?_) (fun c => ?_)
                  ·replace hm := cond_t c hm
                   refine Runs.region ?_
                   replace H := shell_Script.open H
                   try dsimp only at H
                   refine WR.d0 hE 4 [(112, .pointer (some ⟨b, o + (Int.toNat 0) * 8 + 5, none⟩))] fun a hE => ?_
                   refine WR.eff0 hE rfl rfl rfl (OpTo.storeSl (q := 5) (x' := (api_Act.mk 3 0 (api_Command.mk 0 0 (api_Ref.mk 0 65536) 0 0))) hE H.t1 api_Act.enc_ok rfl hs (rfl : mIdx ([api_Act.mk 3 0 (api_Command.mk 0 0 (api_Ref.mk 0 0) 0 0)] : List api_Act) (0 : Int) = some (api_Act.mk 3 0 (api_Command.mk 0 0 (api_Ref.mk 0 0) 0 0))) rfl rfl rfl rfl rfl (Nat.le_of_ble_eq_true rfl) rfl) ?_
                   rintro _ w H a hE
                   rw [← mSet_len ([api_Act.mk 3 0 (api_Command.mk 0 0 (api_Ref.mk 0 0) 0 0)] : List api_Act) 0 (api_Act.mk 3 0 (api_Command.mk 0 0 (api_Ref.mk 0 65536) 0 0))] at H
                   refine WR.done rfl ?_
                   refine Runs.inBlock ?_
                   replace H := shell_Script.shut (shell_Script.A.mk (some ⟨r2, 0, none⟩) 1) (shell_Script.mk 1 1 0 0 (mSet ([api_Act.mk 3 0 (api_Command.mk 0 0 (api_Ref.mk 0 0) 0 0)] : List api_Act) 0 (api_Act.mk 3 0 (api_Command.mk 0 0 (api_Ref.mk 0 65536) 0 0)))) H.t1
                   cases hm
                   exact hk _ _ ⟨(some ⟨r2, 0, none⟩), 1, hE.sel [2, 3, 4, 6, 7] (by kernel_rfl), H.t3.t3.t3.t3⟩
                  ·replace hm := cond_f c hm
                   refine Runs.sr ?_
                   refine WR.e0 hE [(113, .bool (how == 13))] fun a hE => ?_
                   refine Runs.cond hE rfl (fun c => ?_) (fun c => ?_)
                   ·replace hm := cond_t c hm
                    refine Runs.region ?_
                    replace H := shell_Script.open H
                    try dsimp only at H
                    refine WR.d0 hE 3 [(117, .pointer (some ⟨b, o + (Int.toNat 0) * 8 + 7, none⟩))] fun a hE => ?_
                    refine WR.eff0 hE rfl rfl rfl (OpTo.storeSl (q := 7) (x' := (api_Act.mk 3 0 (api_Command.mk 0 0 (api_Ref.mk 0 0) 0 (-1)))) hE H.t1 api_Act.enc_ok rfl hs (rfl : mIdx ([api_Act.mk 3 0 (api_Command.mk 0 0 (api_Ref.mk 0 0) 0 0)] : List api_Act) (0 : Int) = some (api_Act.mk 3 0 (api_Command.mk 0 0 (api_Ref.mk 0 0) 0 0))) rfl rfl rfl rfl rfl (Nat.le_of_ble_eq_true rfl) rfl) ?_
                    rintro _ w H a hE
                    rw [← mSet_len ([api_Act.mk 3 0 (api_Command.mk 0 0 (api_Ref.mk 0 0) 0 0)] : List api_Act) 0 (api_Act.mk 3 0 (api_Command.mk 0 0 (api_Ref.mk 0 0) 0 (-1)))] at H
                    refine WR.done rfl ?_
                    refine Runs.inBlock ?_
                    replace H := shell_Script.shut (shell_Script.A.mk (some ⟨r2, 0, none⟩) 1) (shell_Script.mk 1 1 0 0 (mSet ([api_Act.mk 3 0 (api_Command.mk 0 0 (api_Ref.mk 0 0) 0 0)] : List api_Act) 0 (api_Act.mk 3 0 (api_Command.mk 0 0 (api_Ref.mk 0 0) 0 (-1))))) H.t1
                    cases hm
                    exact hk _ _ ⟨(some ⟨r2, 0, none⟩), 1, hE.sel [2, 3, 4, 6, 7] (by kernel_rfl), H.t3.t3.t3.t3⟩
                   ·replace hm := cond_f c hm
                    refine Runs.sr ?_
                    refine WR.e0 hE [(118, .bool (how == 14))] fun a hE => ?_
                    refine Runs.cond hE rfl (fun c => ?_) (fun c => ?_)
                    ·replace hm := cond_t c hm
                     refine Runs.region ?_
                     replace H := shell_Script.open H
                     try dsimp only at H
                     refine WR.d0 hE 3 [(122, .pointer (some ⟨b, o + (Int.toNat 0) * 8 + 7, none⟩))] fun a hE => ?_
                     refine WR.eff0 hE rfl rfl rfl (OpTo.storeSl (q := 7) (x' := (api_Act.mk 3 0 (api_Command.mk 0 0 (api_Ref.mk 0 0) 0 65536))) hE H.t1 api_Act.enc_ok rfl hs (rfl : mIdx ([api_Act.mk 3 0 (api_Command.mk 0 0 (api_Ref.mk 0 0) 0 0)] : List api_Act) (0 : Int) = some (api_Act.mk 3 0 (api_Command.mk 0 0 (api_Ref.mk 0 0) 0 0))) rfl rfl rfl rfl rfl (Nat.le_of_ble_eq_true rfl) rfl) ?_
                     rintro _ w H a hE
                     rw [← mSet_len ([api_Act.mk 3 0 (api_Command.mk 0 0 (api_Ref.mk 0 0) 0 0)] : List api_Act) 0 (api_Act.mk 3 0 (api_Command.mk 0 0 (api_Ref.mk 0 0) 0 65536))] at H
                     refine WR.done rfl ?_
                     refine Runs.inBlock ?_
                     replace H := shell_Script.shut (shell_Script.A.mk (some ⟨r2, 0, none⟩) 1) (shell_Script.mk 1 1 0 0 (mSet ([api_Act.mk 3 0 (api_Command.mk 0 0 (api_Ref.mk 0 0) 0 0)] : List api_Act) 0 (api_Act.mk 3 0 (api_Command.mk 0 0 (api_Ref.mk 0 0) 0 65536)))) H.t1
                     cases hm
                     exact hk _ _ ⟨(some ⟨r2, 0, none⟩), 1, hE.sel [2, 3, 4, 6, 7] (by kernel_rfl), H.t3.t3.t3.t3⟩
                    ·replace hm := cond_f c hm
                     refine Runs.skip ?_
                     refine Runs.inBlock ?_
                     cases hm
                     exact hk _ _ ⟨(some ⟨r2, 0, none⟩), 1, hE.sel [2, 3, 4, 6, 7] (by kernel_rfl), H.t3.t3.t3.t3⟩
     rintro a w ⟨z, z1, hE, H⟩
     refine Runs.sr ?_
     replace H := shell_Script.open H
     try dsimp only at H
     refine WR.seg hE 1 [.int .i64 s6.Kind, .int .i64 s6.Jobs, .int .i64 s6.Boxes, .int .i64 s6.Room, .slice z s6.Acts.length z1] [2, 3, 4, 6, 7, 124] (Lo := [(2, .slice sb t_.length sc), (3, .slice sb1 t_1.1.length sc1), (4, .int .i64 t_1.2), (6, .int .i64 how), (7, .pointer (some ⟨r3, 0, none⟩)), (124, .agg #[.int .i64 s6.Kind, .int .i64 s6.Jobs, .int .i64 s6.Boxes, .int .i64 s6.Room, .slice z s6.Acts.length z1])]) (obs := [.cell ⟨r3, 0, none⟩ (.int .i64 s6.Kind), .cell ⟨r3, 1, none⟩ (.int .i64 s6.Jobs), .cell ⟨r3, 2, none⟩ (.int .i64 s6.Boxes), .cell ⟨r3, 3, none⟩ (.int .i64 s6.Room), .cell ⟨r3, 4, none⟩ (.slice z s6.Acts.length z1)]) rfl (by kernel_rfl) ⟨H.cell 0 rfl rfl, H.cell 0 rfl rfl, H.cell 0 rfl rfl, H.cell 0 rfl rfl, H.cell 0 rfl rfl, trivial⟩ fun a hE => ?_
     obtain ⟨t_3, et_3, hm⟩ := bind_some hm
     replace H := H.t1
     have hC_ := shell_Encode_ok (al_s := shell_Script.A.mk z z1) (hX_s_Acts := (sl_rd 42 api_Act.enc 8 _ _ _)) (hC_s_Acts := (H.slCap 0 rfl).1) et_3 H
     try dsimp only at hC_
     refine WR.eff hE rfl rfl rfl rfl (OpTo.fn hE rfl rfl Tryz.call16 hC_) ?_
     rintro _ w ⟨sb3, sc3, rfl, H⟩ a hE
     refine WR.e0 hE [(9, .slice sb3 t_3.1.length sc3), (10, .int .i64 t_3.2)] fun a hE => ?_
     refine Runs.seq ?_
     replace H := shell_Script.shut (shell_Script.A.mk z z1) (s6) H.t1.t2
     obtain ⟨s7, es7, hm⟩ := bind_some hm
     refine Runs.join (fun a w => EnvOk 159 a [(2, .slice sb t_.length sc), (3, .slice sb1 t_1.1.length sc1), (4, .int .i64 t_1.2), (6, .int .i64 how), (140, .bool s7)] ∧ St w0 (shell_Script.R r3 (shell_Script.A.mk z z1) s6 :: shell_Script.R r1 (shell_Script.A.mk (some ⟨r, 0, none⟩) 4) (shell_Script.mk 255 65535 9 255 ([api_Act.mk 1 255 (api_Command.mk 255 1 (api_Ref.mk 65535 258) (-5) 65535), api_Act.mk 2 0 (api_Command.mk 0 0 (api_Ref.mk 0 0) 0 0), api_Act.mk 3 0 (api_Command.mk 1 0 (api_Ref.mk 0 0) 9223372036854775807 0), api_Act.mk 4 0 (api_Command.mk 0 0 (api_Ref.mk 0 0) 0 0)] : List api_Act)) :: Sl 5 ecU 1 sb1 sc1 t_1.1 :: Sl 5 ecU 1 sb sc t_ :: As) w) (fun hk => ?_) ?_
     ·replace hm := es7; clear es7
      refine Runs.region ?_
      refine WR.d0 hE 3 [(130, .bool (t_3.2 == 0))] fun a hE => ?_
      rcases Bool.eq_false_or_eq_true (t_3.2 == 0) with c | c
      ·replace hE := hE.dec 130 c (by kernel_rfl)
       replace hm := cond_t c hm
       have c_ := c
       refine WR.e0 hE [(140, .bool true)] fun a hE => ?_
       cases hm
       exact hk _ _ ⟨hE.sel [2, 3, 4, 6, 140] (by kernel_rfl), H.x1.t3.t3.t3.t3⟩
      ·replace hE := hE.dec 130 c (by kernel_rfl)
       replace hm := cond_f c hm
       have c_1 := c
       replace H := shell_Script.open H
       try dsimp only at H
       refine WR.d hE 5 [.int .i64 s6.Kind, .int .i64 s6.Jobs, .int .i64 s6.Boxes, .int .i64 s6.Room, .slice z s6.Acts.length z1] [(130, .bool false), (131, .int .i64 t_3.2), (132, .agg #[.int .i64 s6.Kind, .int .i64 s6.Jobs, .int .i64 s6.Boxes, .int .i64 s6.Room, .slice z s6.Acts.length z1])] (obs := [.cell ⟨r3, 0, none⟩ (.int .i64 s6.Kind), .cell ⟨r3, 1, none⟩ (.int .i64 s6.Jobs), .cell ⟨r3, 2, none⟩ (.int .i64 s6.Boxes), .cell ⟨r3, 3, none⟩ (.int .i64 s6.Room), .cell ⟨r3, 4, none⟩ (.slice z s6.Acts.length z1)]) ⟨H.cell 0 rfl rfl, H.cell 0 rfl rfl, H.cell 0 rfl rfl, H.cell 0 rfl rfl, H.cell 0 rfl rfl, trivial⟩ fun a hE => ?_
       obtain ⟨t_4, et_4, hm⟩ := bind_some hm
       replace H := H.t1
       have hC_ := thicketlaw28_right_ok (al_s := shell_Script.A.mk z z1) (hX_s_Acts := (sl_rd 42 api_Act.enc 8 _ _ _)) (hC_s_Acts := (H.slCap 0 rfl).1) et_4 H
       try dsimp only at hC_
       refine WR.eff hE rfl rfl rfl rfl (OpTo.fn hE rfl rfl Tryz.call18 hC_) ?_
       rintro _ w ⟨rfl, H⟩ a hE
       refine WR.d0 hE 9 [(136, .bool (t_3.2 != t_4))] fun a hE => ?_
       rcases Bool.eq_false_or_eq_true (t_3.2 != t_4) with c | c
       ·replace hE := hE.dec 136 c (by kernel_rfl)
        replace hm := cond_t c hm
        have c_2 := c
        refine WR.e0 hE [(140, .bool true)] fun a hE => ?_
        replace H := shell_Script.shut (shell_Script.A.mk z z1) (s6) H.t1
        cases hm
        exact hk _ _ ⟨hE.sel [2, 3, 4, 6, 140] (by kernel_rfl), H.x1.t3.t3.t3.t3⟩
       ·replace hE := hE.dec 136 c (by kernel_rfl)
        replace hm := cond_f c hm
        have c_3 := c
        refine WR.e0 hE [(140, .bool ((t_3.1.length : Int) != 0))] fun a hE => ?_
        replace H := shell_Script.shut (shell_Script.A.mk z z1) (s6) H.t1
        cases hm
        exact hk _ _ ⟨hE.sel [2, 3, 4, 6, 140] (by kernel_rfl), H.x1.t3.t3.t3.t3⟩
     rintro a w ⟨hE, H⟩
     refine Runs.cond hE rfl (fun c => ?_) (fun c => ?_)
     ·replace hm := cond_t c hm
      refine Runs.sr ?_
      refine WR.seg hE 1 [] [0] (Lo := [(0, .bool false)]) (obs := []) rfl (by kernel_rfl) trivial fun a hE => ?_
      refine WR.done rfl ?_
      refine Runs.ret hE Tryz.func4 rfl rfl ?_
      cases hm
      dsimp only at hR2; cases hR2
      dsimp only at hR1; cases hR1
      exact ⟨rfl, H.x3.x2.x1.x0⟩
     ·replace hm := cond_f c hm
      refine Runs.skip ?_
      refine Runs.inBlock ?_
      cases hm
      exact hk _ _ ⟨_, rfl, hE.sel [2, 3, 4, 6] (by kernel_rfl), H.x0.t2.t2.t2⟩
    rintro a w ⟨s5, rfl, hE, H⟩
    replace hm := hR2; dsimp only at hm
    refine Runs.region ?_
    refine WR.seg hE 3 [] [2, 3, 4, 6] (Lo := [(2, .slice sb t_.length sc), (3, .slice sb1 t_1.1.length sc1), (4, .int .i64 t_1.2), (6, .int .i64 (w64 (how + 1)))]) (obs := []) rfl (by kernel_rfl) trivial fun a hE => ?_
    refine WR.done rfl ?_
    exact ih m (Nat.lt_succ_self m) _ _ ⟨w64 (how + 1), hE.sel [2, 3, 4, 6] (by kernel_rfl), H.t2.t2.t2, hm⟩
   ·replace hm := cond_f c hm
    refine Runs.exit rfl ?_
    cases hm
    exact hk _ _ ⟨_, rfl, hE.sel [2, 3, 4] (by kernel_rfl), H.t2.t2.t2⟩
 rintro a w ⟨s3, rfl, hE, H⟩
 replace hm := hR1; dsimp only at hm
 refine Runs.seq ?_
 obtain ⟨s8, es8, hm⟩ := bind_some hm
 refine Runs.join (fun a w => EnvOk 159 a [(0, .bool s8)] ∧ St w0 (shell_Script.R r1 (shell_Script.A.mk (some ⟨r, 0, none⟩) 4) (shell_Script.mk 255 65535 9 255 ([api_Act.mk 1 255 (api_Command.mk 255 1 (api_Ref.mk 65535 258) (-5) 65535), api_Act.mk 2 0 (api_Command.mk 0 0 (api_Ref.mk 0 0) 0 0), api_Act.mk 3 0 (api_Command.mk 1 0 (api_Ref.mk 0 0) 9223372036854775807 0), api_Act.mk 4 0 (api_Command.mk 0 0 (api_Ref.mk 0 0) 0 0)] : List api_Act)) :: As) w) (fun hk => ?_) ?_
 ·replace hm := es8; clear es8
  refine Runs.region ?_
  refine WR.seg hE 3 [] [2, 3, 143] (Lo := [(2, .slice sb t_.length sc), (3, .slice sb1 t_1.1.length sc1), (143, .bool (t_1.2 == 0))]) (obs := []) rfl (by kernel_rfl) trivial fun a hE => ?_
  rcases Bool.eq_false_or_eq_true (t_1.2 == 0) with c | c
  ·replace hE := hE.dec 143 c (by kernel_rfl)
   replace hm := cond_t c hm
   have c_4 := c
   refine WR.d0 hE 4 [(143, .bool true), (144, .slice sb1 t_1.1.length sc1)] fun a hE => ?_
   refine WR.eff hE rfl rfl rfl rfl (OpTo.strOf hE (SlRd.all (sl_rd 5 ecU 1 _ _ _) ecU_ok H 1 rfl) rfl rfl rfl rfl rfl) ?_
   rintro _ _ ⟨rfl, rfl⟩ a hE
   refine WR.d0 hE 6 [(146, .slice sb t_.length sc)] fun a hE => ?_
   refine WR.eff hE rfl rfl rfl rfl (OpTo.strOf hE (SlRd.all (sl_rd 5 ecU 1 _ _ _) ecU_ok H 2 rfl) rfl rfl rfl rfl rfl) ?_
   rintro _ _ ⟨rfl, rfl⟩ a hE
   refine WR.d0 hE 10 [(150, .bool ((mStr t_1.1).toList == (mStr t_).toList))] fun a hE => ?_
   rcases Bool.eq_false_or_eq_true ((mStr t_1.1).toList == (mStr t_).toList) with c | c
   ·replace hE := hE.dec 150 c (by kernel_rfl)
    replace hm := cond_t c hm
    have c_5 := c
    refine WR.d0 hE 11 [(150, .bool true), (151, .agg #[.int .i64 0, .int .i64 0, .int .i64 0, .int .i64 0, .slice none 0 0])] fun a hE => ?_
    replace H : St w0 (Pure True :: _) _ := St.pureI trivial H
    obtain ⟨t_5, et_5, hm⟩ := bind_some hm
    have hC_ := shell_Do_ok (al_s := shell_Script.A.mk none 0) (hX_s_Acts := fun _ _ => .inl rfl) (hC_s_Acts := Nat.le_refl _) et_5 H
    try dsimp only at hC_
    refine WR.eff hE rfl rfl rfl rfl (OpTo.fn hE rfl rfl Tryz.call19 hC_) ?_
    rintro _ w ⟨sb4, sc4, sb5, sc5, rfl, H⟩ a hE
    refine WR.d0 hE 16 [(156, .bool (t_5.Why == 24))] fun a hE => ?_
    rcases Bool.eq_false_or_eq_true (t_5.Why == 24) with c | c
    ·replace hE := hE.dec 156 c (by kernel_rfl)
     replace hm := cond_t c hm
     have c_6 := c
     obtain ⟨t_6, et_6, hm⟩ := bind_some hm
     refine WR.eff hE rfl rfl rfl rfl (OpTo.fn hE rfl rfl Tryz.call20 (thicketlaw28_known_ok et_6 H)) ?_
     rintro _ w ⟨rfl, H⟩ a hE
     refine WR.e0 hE [(0, .bool t_6)] fun a hE => ?_
     cases hm
     exact hk _ _ ⟨hE.sel [0] (by kernel_rfl), H.x5.x4.x2.x1.x0⟩
    ·replace hE := hE.dec 156 c (by kernel_rfl)
     replace hm := cond_f c hm
     have c_7 := c
     refine WR.e0 hE [(0, .bool false)] fun a hE => ?_
     cases hm
     exact hk _ _ ⟨hE.sel [0] (by kernel_rfl), H.x5.x4.x2.x1.x0⟩
   ·replace hE := hE.dec 150 c (by kernel_rfl)
    replace hm := cond_f c hm
    have c_8 := c
    refine WR.e0 hE [(0, .bool false)] fun a hE => ?_
    cases hm
    exact hk _ _ ⟨hE.sel [0] (by kernel_rfl), H.x2.x1⟩
  ·replace hE := hE.dec 143 c (by kernel_rfl)
   replace hm := cond_f c hm
   have c_9 := c
   refine WR.e0 hE [(0, .bool false)] fun a hE => ?_
   cases hm
   exact hk _ _ ⟨hE.sel [0] (by kernel_rfl), H.x2.x1⟩
 rintro a w ⟨hE, H⟩
 refine Runs.ret hE Tryz.func4 rfl rfl ?_
 cases hm
 exact ⟨rfl, H.x0⟩

end Go.Proofs.YtdcjghailibedaaGreat
