import Derived.Test.YtdcjghailibedaaGreatYp3
set_option linter.unusedVariables false
set_option linter.unusedSimpArgs false
set_option maxRecDepth 10000
set_option maxHeartbeats 4000000
namespace Go.Proofs.YtdcjghailibedaaGreat
open Go.Th

theorem thicketlaw28_ShellBack_ok {w0 w : World} {As : List HP} {k : Nat} {x : thicketlaw28_Raw} {al_x : thicketlaw28_Raw.A} {X_x : HP} {at_ : Int} {t : Bool} (hX_x_L : SlRd X_x thicketkeep_D.enc 11 al_x.L_b x.L) (hC_x_L : x.L.length ≤ al_x.L_c) (hX_x_Kinds : SlRd X_x ecI 1 al_x.Kinds_b x.Kinds) (hC_x_Kinds : x.Kinds.length ≤ al_x.Kinds_c) (hX_x_Acts : SlRd X_x api_Act.enc 8 al_x.Acts_b x.Acts) (hC_x_Acts : x.Acts.length ≤ al_x.Acts_c) (hm : thicketlaw28_ShellBack k x at_ = some t) (H : St w0 (X_x :: As) w) :
    CallsR Tryz.prog 7 #[.agg #[.int .i64 x.Kind, .int .i64 x.Jobs, .int .i64 x.Boxes, .int .i64 x.Room, .slice al_x.L_b x.L.length al_x.L_c, .slice al_x.Kinds_b x.Kinds.length al_x.Kinds_c, .slice al_x.Acts_b x.Acts.length al_x.Acts_c, .bool x.Tame], .int .i64 at_] w fun v w' => v = .bool t ∧ St w0 (X_x :: As) w' := by
 rw [thicketlaw28_ShellBack] at hm
 refine enter (args := [.agg #[.int .i64 x.Kind, .int .i64 x.Jobs, .int .i64 x.Boxes, .int .i64 x.Room, .slice al_x.L_b x.L.length al_x.L_c, .slice al_x.Kinds_b x.Kinds.length al_x.Kinds_c, .slice al_x.Acts_b x.Acts.length al_x.Acts_c, .bool x.Tame], .int .i64 at_]) Tryz.func7 rfl rfl rfl fun a hE => ?_
 refine Runs.sr ?_
 refine WR.eff hE rfl rfl rfl rfl (OpTo.new hE H [] (.cells #[.int .i64 x.Kind, .int .i64 x.Jobs, .int .i64 x.Boxes, .int .i64 x.Room, .slice al_x.L_b x.L.length al_x.L_c, .slice al_x.Kinds_b x.Kinds.length al_x.Kinds_c, .slice al_x.Acts_b x.Acts.length al_x.Acts_c, .bool x.Tame] 60 (0, 0)) (fun r => .pointer (some ⟨r, 0, none⟩)) (obs := []) rfl (fun _ => by kernel_rfl) trivial) ?_
 rintro _ w ⟨r, rfl, H⟩ a hE
 refine WR.seg hE 2 [] [1, 2] (Lo := [(1, .int .i64 at_), (2, .pointer (some ⟨r, 0, none⟩))]) (obs := []) rfl (by kernel_rfl) trivial fun a hE => ?_
 refine WR.done rfl ?_
 refine Runs.sr ?_
 refine WR.d hE 1 [.int .i64 x.Kind, .int .i64 x.Jobs, .int .i64 x.Boxes, .int .i64 x.Room, .slice al_x.L_b x.L.length al_x.L_c, .slice al_x.Kinds_b x.Kinds.length al_x.Kinds_c, .slice al_x.Acts_b x.Acts.length al_x.Acts_c, .bool x.Tame] [(14, .agg #[.int .i64 x.Kind, .int .i64 x.Jobs, .int .i64 x.Boxes, .int .i64 x.Room, .slice al_x.L_b x.L.length al_x.L_c, .slice al_x.Kinds_b x.Kinds.length al_x.Kinds_c, .slice al_x.Acts_b x.Acts.length al_x.Acts_c, .bool x.Tame])] (obs := [.cell ⟨r, 0, none⟩ (.int .i64 x.Kind), .cell ⟨r, 1, none⟩ (.int .i64 x.Jobs), .cell ⟨r, 2, none⟩ (.int .i64 x.Boxes), .cell ⟨r, 3, none⟩ (.int .i64 x.Room), .cell ⟨r, 4, none⟩ (.slice al_x.L_b x.L.length al_x.L_c), .cell ⟨r, 5, none⟩ (.slice al_x.Kinds_b x.Kinds.length al_x.Kinds_c), .cell ⟨r, 6, none⟩ (.slice al_x.Acts_b x.Acts.length al_x.Acts_c), .cell ⟨r, 7, none⟩ (.bool x.Tame)]) ⟨H.cell 0 rfl rfl, H.cell 0 rfl rfl, H.cell 0 rfl rfl, H.cell 0 rfl rfl, H.cell 0 rfl rfl, H.cell 0 rfl rfl, H.cell 0 rfl rfl, H.cell 0 rfl rfl, trivial⟩ fun a hE => ?_
 obtain ⟨t_, et_, hm⟩ := bind_some hm
 replace H := H.t1
 have hC_ := thicketlaw28_made_ok (al_x := thicketlaw28_Raw.A.mk al_x.L_b al_x.L_c al_x.Kinds_b al_x.Kinds_c al_x.Acts_b al_x.Acts_c) (hX_x_L := hX_x_L) (hC_x_L := hC_x_L) (hX_x_Kinds := hX_x_Kinds) (hC_x_Kinds := hC_x_Kinds) (hX_x_Acts := hX_x_Acts) (hC_x_Acts := hC_x_Acts) et_ H
 try dsimp only at hC_
 refine WR.eff hE rfl rfl rfl rfl (OpTo.fn hE rfl rfl Tryz.call21 hC_) ?_
 rintro _ w ⟨sb, sc, rfl, H⟩ a hE
 refine WR.eff hE rfl rfl rfl rfl (OpTo.new hE H [] (.cells #[.int .i64 0, .int .i64 0, .int .i64 0, .int .i64 0, .slice none 0 0] 45 (0, 0)) (fun r => .pointer (some ⟨r, 0, none⟩)) (obs := []) rfl (fun _ => by kernel_rfl) trivial) ?_
 rintro _ w ⟨r1, rfl, H⟩ a hE
 refine WR.eff0 hE rfl rfl rfl (OpTo.store hE H rfl rfl rfl rfl rfl rfl (Nat.le_of_ble_eq_true rfl)) ?_
 rintro _ w H a hE
 refine WR.done rfl ?_
 refine Runs.seq ?_
 refine Runs.sr ?_
 refine WR.d hE 1 [.int .i64 t_.Kind, .int .i64 t_.Jobs, .int .i64 t_.Boxes, .int .i64 t_.Room, .slice sb t_.Acts.length sc] [(16, .agg #[.int .i64 t_.Kind, .int .i64 t_.Jobs, .int .i64 t_.Boxes, .int .i64 t_.Room, .slice sb t_.Acts.length sc])] (obs := [.cell ⟨r1, 0, none⟩ (.int .i64 t_.Kind), .cell ⟨r1, 1, none⟩ (.int .i64 t_.Jobs), .cell ⟨r1, 2, none⟩ (.int .i64 t_.Boxes), .cell ⟨r1, 3, none⟩ (.int .i64 t_.Room), .cell ⟨r1, 4, none⟩ (.slice sb t_.Acts.length sc)]) ⟨H.cell 0 rfl rfl, H.cell 0 rfl rfl, H.cell 0 rfl rfl, H.cell 0 rfl rfl, H.cell 0 rfl rfl, trivial⟩ fun a hE => ?_
 obtain ⟨t_1, et_1, hm⟩ := bind_some hm
 replace H := H.t1
 have hC_ := thicketlaw28_right_ok (al_s := shell_Script.A.mk sb sc) (hX_s_Acts := (sl_rd 42 api_Act.enc 8 _ _ _)) (hC_s_Acts := (H.slCap 0 rfl).1) et_1 H
 try dsimp only at hC_
 refine WR.eff hE rfl rfl rfl rfl (OpTo.fn hE rfl rfl Tryz.call18 hC_) ?_
 rintro _ w ⟨rfl, H⟩ a hE
 refine WR.e0 hE [(18, .bool (t_1 != 0))] fun a hE => ?_
 refine Runs.cond hE rfl (fun c => ?_) (fun c => ?_)
 ·replace hm := cond_t c hm
  refine Runs.sr ?_
  obtain ⟨t_2, et_2, hm⟩ := bind_some hm
  refine WR.eff hE rfl rfl rfl rfl (OpTo.fn hE rfl rfl Tryz.call20 (thicketlaw28_known_ok et_2 H)) ?_
  rintro _ w ⟨rfl, H⟩ a hE
  refine WR.e0 hE [(4, .bool t_2)] fun a hE => ?_
  refine Runs.ret hE Tryz.func7 rfl rfl ?_
  cases hm
  exact ⟨rfl, H.x3.x1.x0⟩
 ·replace hm := cond_f c hm
  refine Runs.skip ?_
  refine Runs.sr ?_
  refine WR.d hE 1 [.int .i64 t_.Kind, .int .i64 t_.Jobs, .int .i64 t_.Boxes, .int .i64 t_.Room, .slice sb t_.Acts.length sc] [(21, .agg #[.int .i64 t_.Kind, .int .i64 t_.Jobs, .int .i64 t_.Boxes, .int .i64 t_.Room, .slice sb t_.Acts.length sc])] (obs := [.cell ⟨r1, 0, none⟩ (.int .i64 t_.Kind), .cell ⟨r1, 1, none⟩ (.int .i64 t_.Jobs), .cell ⟨r1, 2, none⟩ (.int .i64 t_.Boxes), .cell ⟨r1, 3, none⟩ (.int .i64 t_.Room), .cell ⟨r1, 4, none⟩ (.slice sb t_.Acts.length sc)]) ⟨H.cell 1 rfl rfl, H.cell 1 rfl rfl, H.cell 1 rfl rfl, H.cell 1 rfl rfl, H.cell 1 rfl rfl, trivial⟩ fun a hE => ?_
  obtain ⟨t_3, et_3, hm⟩ := bind_some hm
  have hC_ := shell_Encode_ok (al_s := shell_Script.A.mk sb sc) (hX_s_Acts := (sl_rd 42 api_Act.enc 8 _ _ _)) (hC_s_Acts := (H.slCap 0 rfl).1) et_3 H
  try dsimp only at hC_
  refine WR.eff hE rfl rfl rfl rfl (OpTo.fn hE rfl rfl Tryz.call16 hC_) ?_
  rintro _ w ⟨sb1, sc1, rfl, H⟩ a hE
  refine WR.e0 hE [(6, .slice sb1 t_3.1.length sc1), (7, .int .i64 t_3.2)] fun a hE => ?_
  refine Runs.seq ?_
  refine Runs.sr ?_
  refine WR.e0 hE [(8, .int .i64 0)] fun a hE => ?_
  replace H := shell_Script.shut (shell_Script.A.mk sb sc) (t_) H.t1.t2
  obtain ⟨s, es, hm⟩ := bind_some hm
  refine Runs.join (fun a w => EnvOk 121 a [(1, .int .i64 at_), (5, .pointer (some ⟨r1, 0, none⟩)), (6, .slice sb1 t_3.1.length sc1), (7, .int .i64 t_3.2)] ∧ St w0 (shell_Script.R r1 (shell_Script.A.mk sb sc) s :: Sl 5 ecU 1 sb1 sc1 t_3.1 :: X_x :: As) w) (fun hk => ?_) ?_
  ·replace hm := es; clear es
   refine Runs.block ?_
   refine Runs.loop (fun m a w => ∃ (i : Int), ∃ (m_ : shell_Script), EnvOk 121 a [(1, .int .i64 at_), (5, .pointer (some ⟨r1, 0, none⟩)), (6, .slice sb1 t_3.1.length sc1), (7, .int .i64 t_3.2), (8, .int .i64 i)] ∧ St w0 (shell_Script.R r1 (shell_Script.A.mk sb sc) m_ :: Sl 5 ecU 1 sb1 sc1 t_3.1 :: X_x :: As) w ∧ thicketlaw28_ShellBack_l0 at_ t_3.2 t_3.1 m i m_ = some s) k ⟨0, t_, hE.sel [1, 5, 6, 7, 8] (by kernel_rfl), H.x3.t2.t2.t2, hm⟩ ?_
   rintro m ih a w ⟨i, m_, hE, H, hm⟩
   cases m with
   | zero => simp [thicketlaw28_ShellBack_l0] at hm
   | succ m =>
    rw [thicketlaw28_ShellBack_l0] at hm
    refine Runs.seq ?_
    refine Runs.sr ?_
    replace H := shell_Script.open H
    try dsimp only at H
    refine WR.seg hE 5 [.slice sb m_.Acts.length sc] [1, 5, 6, 7, 8, 29] (Lo := [(1, .int .i64 at_), (5, .pointer (some ⟨r1, 0, none⟩)), (6, .slice sb1 t_3.1.length sc1), (7, .int .i64 t_3.2), (8, .int .i64 i), (29, .bool (decide (i < (m_.Acts.length : Int))))]) (obs := [.cell ⟨r1, 4, none⟩ (.slice sb m_.Acts.length sc)]) rfl (by kernel_rfl) ⟨H.cell 0 rfl rfl, trivial⟩ fun a hE => ?_
    refine WR.done rfl ?_
    refine Runs.cond hE rfl (fun c => ?_) (fun c => ?_)
    ·replace hm := cond_t c hm
     refine Runs.skip ?_
     refine Runs.seq ?_
     replace H := shell_Script.shut (shell_Script.A.mk sb sc) (m_) H.t1.t1
     obtain ⟨s1, es1, hm⟩ := bind_some hm
     refine Runs.join (fun a w => EnvOk 121 a [(1, .int .i64 at_), (5, .pointer (some ⟨r1, 0, none⟩)), (6, .slice sb1 t_3.1.length sc1), (7, .int .i64 t_3.2), (8, .int .i64 i)] ∧ St w0 (shell_Script.R r1 (shell_Script.A.mk sb sc) s1 :: Sl 5 ecU 1 sb1 sc1 t_3.1 :: X_x :: As) w) (fun hk => ?_) ?_
     ·replace hm := es1; clear es1
      refine Runs.block ?_
      refine Runs.seq ?_
      refine Runs.sr ?_
      replace H := shell_Script.open H
      try dsimp only at H
      obtain ⟨x1, ex1, hm⟩ := bind_some hm
      obtain ⟨b, o, hs, hb⟩ := SlRd.base (sl_rd 42 api_Act.enc 8 _ _ _) api_Act.enc_ok H 1 rfl ex1
      refine WR.e hE [.slice sb m_.Acts.length sc, .pointer (some ⟨b, o, none⟩), .int .i64 x1.Kind] [(38, .bool (x1.Kind != 1))] (obs := [.cell ⟨r1, 4, none⟩ (.slice sb m_.Acts.length sc), .p ((sb : Option Addr) = some ⟨b, o, none⟩), .p (0 ≤ (i : Int) ∧ (i : Int) < ((m_.Acts.length : Nat) : Int)), .cell ⟨b, o + (Int.toNat i) * 8, none⟩ (.int .i64 x1.Kind)]) ⟨H.cell 0 rfl rfl, hs, hb, SlRd.cells (sl_rd 42 api_Act.enc 8 _ _ _) api_Act.enc_ok H 1 rfl hs ex1 0 _ rfl, trivial⟩ fun a hE => ?_
      replace H := shell_Script.shut (shell_Script.A.mk sb sc) (m_) H.t1.t1
      obtain ⟨s2, es2, hm⟩ := bind_some hm
      refine Runs.join (fun a w => EnvOk 121 a [(1, .int .i64 at_), (5, .pointer (some ⟨r1, 0, none⟩)), (6, .slice sb1 t_3.1.length sc1), (7, .int .i64 t_3.2), (8, .int .i64 i)] ∧ St w0 (shell_Script.R r1 (shell_Script.A.mk sb sc) s2 :: Sl 5 ecU 1 sb1 sc1 t_3.1 :: X_x :: As) w) (fun hk => ?_) ?_
      ·replace hm := es2; clear es2
       refine Runs.cond hE rfl (fun c => ?_) (fun c => ?_)
       ·replace hm := cond_t c hm
        refine Runs.region ?_
        replace H := shell_Script.open H
        try dsimp only at H
        obtain ⟨x2, ex2, hm⟩ := bind_some hm
        obtain ⟨b1, o1, hs1, hb1⟩ := SlRd.base (sl_rd 42 api_Act.enc 8 _ _ _) api_Act.enc_ok H 1 rfl ex2
        refine WR.d hE 5 [.slice sb m_.Acts.length sc, .pointer (some ⟨b1, o1, none⟩)] [(43, .pointer (some ⟨b1, o1 + (Int.toNat i) * 8 + 1, none⟩))] (obs := [.cell ⟨r1, 4, none⟩ (.slice sb m_.Acts.length sc), .p ((sb : Option Addr) = some ⟨b1, o1, none⟩), .p (0 ≤ (i : Int) ∧ (i : Int) < ((m_.Acts.length : Nat) : Int))]) ⟨H.cell 0 rfl rfl, hs1, hb1, trivial⟩ fun a hE => ?_
        refine WR.eff0 hE rfl rfl rfl (OpTo.storeSl (q := 1) (x' := (api_Act.mk x2.Kind 0 x2.Command)) hE H.t1 api_Act.enc_ok rfl hs1 ex2 rfl rfl rfl rfl rfl (Nat.le_of_ble_eq_true rfl) rfl) ?_
        rintro _ w H a hE
        rw [← mSet_len m_.Acts i (api_Act.mk x2.Kind 0 x2.Command)] at H
        refine WR.done rfl ?_
        replace H := shell_Script.shut (shell_Script.A.mk sb sc) (shell_Script.mk m_.Kind m_.Jobs m_.Boxes m_.Room (mSet m_.Acts i (api_Act.mk x2.Kind 0 x2.Command))) H.t1
        cases hm
        exact hk _ _ ⟨hE.sel [1, 5, 6, 7, 8] (by kernel_rfl), H.t2.t2.t2⟩
       ·replace hm := cond_f c hm
        refine Runs.skip ?_
        cases hm
        exact hk _ _ ⟨hE.sel [1, 5, 6, 7, 8] (by kernel_rfl), H.t2.t2.t2⟩
      rintro a w ⟨hE, H⟩
      refine Runs.seq ?_
      obtain ⟨s3, es3, hm⟩ := bind_some hm
      refine Runs.join (fun a w => EnvOk 121 a [(1, .int .i64 at_), (5, .pointer (some ⟨r1, 0, none⟩)), (6, .slice sb1 t_3.1.length sc1), (7, .int .i64 t_3.2), (8, .int .i64 i), (59, .bool s3)] ∧ St w0 (shell_Script.R r1 (shell_Script.A.mk sb sc) s2 :: Sl 5 ecU 1 sb1 sc1 t_3.1 :: X_x :: As) w) (fun hk => ?_) ?_
      ·replace hm := es3; clear es3
       refine Runs.region ?_
       replace H := shell_Script.open H
       try dsimp only at H
       obtain ⟨x5, ex5, hm⟩ := bind_some hm
       obtain ⟨b4, o4, hs4, hb4⟩ := SlRd.base (sl_rd 42 api_Act.enc 8 _ _ _) api_Act.enc_ok H 1 rfl ex5
       refine WR.seg hE 8 [.slice sb s2.Acts.length sc, .pointer (some ⟨b4, o4, none⟩), .int .i64 x5.Kind] [1, 5, 6, 7, 8, 51] (Lo := [(1, .int .i64 at_), (5, .pointer (some ⟨r1, 0, none⟩)), (6, .slice sb1 t_3.1.length sc1), (7, .int .i64 t_3.2), (8, .int .i64 i), (51, .bool (x5.Kind != 1))]) (obs := [.cell ⟨r1, 4, none⟩ (.slice sb s2.Acts.length sc), .p ((sb : Option Addr) = some ⟨b4, o4, none⟩), .p (0 ≤ (i : Int) ∧ (i : Int) < ((s2.Acts.length : Nat) : Int)), .cell ⟨b4, o4 + (Int.toNat i) * 8, none⟩ (.int .i64 x5.Kind)]) rfl (by kernel_rfl) ⟨H.cell 0 rfl rfl, hs4, hb4, SlRd.cells (sl_rd 42 api_Act.enc 8 _ _ _) api_Act.enc_ok H 1 rfl hs4 ex5 0 _ rfl, trivial⟩ fun a hE => ?_
       rcases Bool.eq_false_or_eq_true (x5.Kind != 1) with c | c
       ·replace hE := hE.dec 51 c (by kernel_rfl)
        replace hm := cond_t c hm
        have c_ := c
        obtain ⟨x6, ex6, hm⟩ := bind_some hm
        obtain ⟨b5, o5, hs5, hb5⟩ := SlRd.base (sl_rd 42 api_Act.enc 8 _ _ _) api_Act.enc_ok H 1 rfl ex6
        refine WR.e hE [.slice sb s2.Acts.length sc, .pointer (some ⟨b5, o5, none⟩), .int .i64 x6.Kind] [(59, .bool (x6.Kind != 3))] (obs := [.cell ⟨r1, 4, none⟩ (.slice sb s2.Acts.length sc), .p ((sb : Option Addr) = some ⟨b5, o5, none⟩), .p (0 ≤ (i : Int) ∧ (i : Int) < ((s2.Acts.length : Nat) : Int)), .cell ⟨b5, o5 + (Int.toNat i) * 8, none⟩ (.int .i64 x6.Kind)]) ⟨H.cell 0 rfl rfl, hs5, hb5, SlRd.cells (sl_rd 42 api_Act.enc 8 _ _ _) api_Act.enc_ok H 1 rfl hs5 ex6 0 _ rfl, trivial⟩ fun a hE => ?_
        replace H := shell_Script.shut (shell_Script.A.mk sb sc) (s2) H.t1.t1
        cases hm
        exact hk _ _ ⟨hE.sel [1, 5, 6, 7, 8, 59] (by kernel_rfl), H.t2.t2.t2⟩
       ·replace hE := hE.dec 51 c (by kernel_rfl)
        replace hm := cond_f c hm
        have c_1 := c
        refine WR.e0 hE [(59, .bool false)] fun a hE => ?_
        replace H := shell_Script.shut (shell_Script.A.mk sb sc) (s2) H.t1.t1
        cases hm
        exact hk _ _ ⟨hE.sel [1, 5, 6, 7, 8, 59] (by kernel_rfl), H.t2.t2.t2⟩
      rintro a w ⟨hE, H⟩
      refine Runs.cond hE rfl (fun c => ?_) (fun c => ?_)
      ·replace hm := cond_t c hm
       refine Runs.region ?_
       replace H := shell_Script.open H
       try dsimp only at H
       obtain ⟨x7, ex7, hm⟩ := bind_some hm
       obtain ⟨b6, o6, hs6, hb6⟩ := SlRd.base (sl_rd 42 api_Act.enc 8 _ _ _) api_Act.enc_ok H 1 rfl ex7
       refine WR.seg hE 6 [.slice sb s2.Acts.length sc, .pointer (some ⟨b6, o6, none⟩)] [1, 5, 6, 7, 8, 63, 65] (Lo := [(1, .int .i64 at_), (5, .pointer (some ⟨r1, 0, none⟩)), (6, .slice sb1 t_3.1.length sc1), (7, .int .i64 t_3.2), (8, .int .i64 i), (63, .agg #[.int .i64 0, .int .i64 0, .int .i64 0, .int .i64 0, .int .i64 0, .int .i64 0]), (65, .pointer (some ⟨b6, o6 + (Int.toNat i) * 8 + 2, none⟩))]) (obs := [.cell ⟨r1, 4, none⟩ (.slice sb s2.Acts.length sc), .p ((sb : Option Addr) = some ⟨b6, o6, none⟩), .p (0 ≤ (i : Int) ∧ (i : Int) < ((s2.Acts.length : Nat) : Int))]) rfl (by kernel_rfl) ⟨H.cell 0 rfl rfl, hs6, hb6, trivial⟩ fun a hE => ?_
       refine WR.eff0 hE rfl rfl rfl (OpTo.storeSl (q := 2) (x' := (api_Act.mk x7.Kind x7.Box (api_Command.mk 0 0 (api_Ref.mk 0 0) 0 0))) hE H.t1 api_Act.enc_ok rfl hs6 ex7 rfl rfl rfl rfl rfl (Nat.le_of_ble_eq_true rfl) rfl) ?_
       rintro _ w H a hE
       rw [← mSet_len s2.Acts i (api_Act.mk x7.Kind x7.Box (api_Command.mk 0 0 (api_Ref.mk 0 0) 0 0))] at H
       refine WR.done rfl ?_
       refine Runs.inBlock ?_
       replace H := shell_Script.shut (shell_Script.A.mk sb sc) (shell_Script.mk s2.Kind s2.Jobs s2.Boxes s2.Room (mSet s2.Acts i (api_Act.mk x7.Kind x7.Box (api_Command.mk 0 0 (api_Ref.mk 0 0) 0 0)))) H.t1
       cases hm
       exact hk _ _ ⟨hE.sel [1, 5, 6, 7, 8] (by kernel_rfl), H.t2.t2.t2⟩
      ·replace hm := cond_f c hm
       refine Runs.skip ?_
       refine Runs.inBlock ?_
       cases hm
       exact hk _ _ ⟨hE.sel [1, 5, 6, 7, 8] (by kernel_rfl), H.t2.t2.t2⟩
     rintro a w ⟨hE, H⟩
     refine Runs.region ?_
     refine WR.seg hE 3 [] [1, 5, 6, 7, 8] (Lo := [(1, .int .i64 at_), (5, .pointer (some ⟨r1, 0, none⟩)), (6, .slice sb1 t_3.1.length sc1), (7, .int .i64 t_3.2), (8, .int .i64 (w64 (i + 1)))]) (obs := []) rfl (by kernel_rfl) trivial fun a hE => ?_
     refine WR.done rfl ?_
     exact ih m (Nat.lt_succ_self m) _ _ ⟨w64 (i + 1), s1, hE.sel [1, 5, 6, 7, 8] (by kernel_rfl), H.t2.t2.t2, hm⟩
    ·replace hm := cond_f c hm
     refine Runs.exit rfl ?_
     replace H := shell_Script.shut (shell_Script.A.mk sb sc) (m_) H.t1.t1
     cases hm
     exact hk _ _ ⟨hE.sel [1, 5, 6, 7] (by kernel_rfl), H.t2.t2.t2⟩
  rintro a w ⟨hE, H⟩
  refine Runs.sr ?_
  refine WR.seg hE 1 [] [1, 5, 6, 7, 67] (Lo := [(1, .int .i64 at_), (5, .pointer (some ⟨r1, 0, none⟩)), (6, .slice sb1 t_3.1.length sc1), (7, .int .i64 t_3.2), (67, .slice sb1 t_3.1.length sc1)]) (obs := []) rfl (by kernel_rfl) trivial fun a hE => ?_
  obtain ⟨t_4, et_4, hm⟩ := bind_some hm
  replace H := H.t1
  refine WR.eff hE rfl rfl rfl rfl (OpTo.fn hE rfl rfl Tryz.call24 (shell_Decode_ok (hX_b := (sl_rd 5 ecU 1 _ _ _)) (hC_b := (H.slCap 0 rfl).1) et_4 H)) ?_
  rintro _ w ⟨sb2, sc2, rfl, H⟩ a hE
  refine WR.d0 hE 5 [(69, .agg #[.int .i64 t_4.1.Kind, .int .i64 t_4.1.Jobs, .int .i64 t_4.1.Boxes, .int .i64 t_4.1.Room, .slice sb2 t_4.1.Acts.length sc2]), (70, .int .i64 t_4.2)] fun a hE => ?_
  refine WR.eff hE rfl rfl rfl rfl (OpTo.new hE H [] (.cells #[.int .i64 0, .int .i64 0, .int .i64 0, .int .i64 0, .slice none 0 0] 45 (0, 0)) (fun r => .pointer (some ⟨r, 0, none⟩)) (obs := []) rfl (fun _ => by kernel_rfl) trivial) ?_
  rintro _ w ⟨r2, rfl, H⟩ a hE
  refine WR.eff0 hE rfl rfl rfl (OpTo.store hE H rfl rfl rfl rfl rfl rfl (Nat.le_of_ble_eq_true rfl)) ?_
  rintro _ w H a hE
  refine WR.e0 hE [(10, .int .i64 t_4.2)] fun a hE => ?_
  refine Runs.seq ?_
  refine Runs.seq ?_
  replace H := shell_Script.shut (shell_Script.A.mk sb2 sc2) (t_4.1) H.t1.t1
  obtain ⟨s4, es4, hm⟩ := bind_some hm
  refine Runs.join (fun a w => EnvOk 121 a [(1, .int .i64 at_), (5, .pointer (some ⟨r1, 0, none⟩)), (6, .slice sb1 t_3.1.length sc1), (87, .bool s4)] ∧ St w0 (shell_Script.R r2 (shell_Script.A.mk sb2 sc2) t_4.1 :: Sl 5 ecU 1 sb1 sc1 t_3.1 :: shell_Script.R r1 (shell_Script.A.mk sb sc) s :: X_x :: As) w) (fun hk => ?_) ?_
  ·replace hm := es4; clear es4
   refine Runs.region ?_
   refine WR.d0 hE 3 [(73, .bool (t_3.2 != 0))] fun a hE => ?_
   rcases Bool.eq_false_or_eq_true (t_3.2 != 0) with c | c
   ·replace hE := hE.dec 73 c (by kernel_rfl)
    replace hm := cond_t c hm
    have c_2 := c
    refine WR.e0 hE [(87, .bool true)] fun a hE => ?_
    cases hm
    exact hk _ _ ⟨hE.sel [1, 5, 6, 87] (by kernel_rfl), H.t3.t3.t3.t3⟩
   ·replace hE := hE.dec 73 c (by kernel_rfl)
    replace hm := cond_f c hm
    have c_3 := c
    refine WR.d0 hE 7 [(77, .bool (t_4.2 != 0))] fun a hE => ?_
    rcases Bool.eq_false_or_eq_true (t_4.2 != 0) with c | c
    ·replace hE := hE.dec 77 c (by kernel_rfl)
     replace hm := cond_t c hm
     have c_4 := c
     refine WR.e0 hE [(87, .bool true)] fun a hE => ?_
     cases hm
     exact hk _ _ ⟨hE.sel [1, 5, 6, 87] (by kernel_rfl), H.t3.t3.t3.t3⟩
    ·replace hE := hE.dec 77 c (by kernel_rfl)
     replace hm := cond_f c hm
     have c_5 := c
     replace H := shell_Script.open H
     try dsimp only at H
     replace H := shell_Script.open H.t3
     try dsimp only at H
     refine WR.d hE 9 [.int .i64 t_4.1.Kind, .int .i64 t_4.1.Jobs, .int .i64 t_4.1.Boxes, .int .i64 t_4.1.Room, .slice sb2 t_4.1.Acts.length sc2, .int .i64 s.Kind, .int .i64 s.Jobs, .int .i64 s.Boxes, .int .i64 s.Room, .slice sb s.Acts.length sc] [(77, .bool false), (78, .agg #[.int .i64 t_4.1.Kind, .int .i64 t_4.1.Jobs, .int .i64 t_4.1.Boxes, .int .i64 t_4.1.Room, .slice sb2 t_4.1.Acts.length sc2]), (79, .agg #[.int .i64 s.Kind, .int .i64 s.Jobs, .int .i64 s.Boxes, .int .i64 s.Room, .slice sb s.Acts.length sc])] (obs := [.cell ⟨r2, 0, none⟩ (.int .i64 t_4.1.Kind), .cell ⟨r2, 1, none⟩ (.int .i64 t_4.1.Jobs), .cell ⟨r2, 2, none⟩ (.int .i64 t_4.1.Boxes), .cell ⟨r2, 3, none⟩ (.int .i64 t_4.1.Room), .cell ⟨r2, 4, none⟩ (.slice sb2 t_4.1.Acts.length sc2), .cell ⟨r1, 0, none⟩ (.int .i64 s.Kind), .cell ⟨r1, 1, none⟩ (.int .i64 s.Jobs), .cell ⟨r1, 2, none⟩ (.int .i64 s.Boxes), .cell ⟨r1, 3, none⟩ (.int .i64 s.Room), .cell ⟨r1, 4, none⟩ (.slice sb s.Acts.length sc)]) ⟨H.cell 2 rfl rfl, H.cell 2 rfl rfl, H.cell 2 rfl rfl, H.cell 2 rfl rfl, H.cell 2 rfl rfl, H.cell 0 rfl rfl, H.cell 0 rfl rfl, H.cell 0 rfl rfl, H.cell 0 rfl rfl, H.cell 0 rfl rfl, trivial⟩ fun a hE => ?_
     obtain ⟨t_5, et_5, hm⟩ := bind_some hm
     replace H := H.t1.t3
     have hC_ := thicketlaw28_same_ok (al_a_ := shell_Script.A.mk sb2 sc2) (hX_a__Acts := (sl_rd 42 api_Act.enc 8 _ _ _)) (hC_a__Acts := (H.slCap 0 rfl).1) (al_b := shell_Script.A.mk sb sc) (hX_b_Acts := (sl_rd 42 api_Act.enc 8 _ _ _)) (hC_b_Acts := (H.slCap 1 rfl).1) et_5 H
     try dsimp only at hC_
     refine WR.eff hE rfl rfl rfl rfl (OpTo.fn hE rfl rfl Tryz.call25 hC_) ?_
     rintro _ w ⟨rfl, H⟩ a hE
     refine WR.d0 hE 13 [(83, .bool (!t_5))] fun a hE => ?_
     rcases Bool.eq_false_or_eq_true (!t_5) with c | c
     ·replace hE := hE.dec 83 c (by kernel_rfl)
      replace hm := cond_t c hm
      have c_6 := c
      refine WR.e0 hE [(87, .bool true)] fun a hE => ?_
      replace H := shell_Script.shut (shell_Script.A.mk sb sc) (s) H.t1.t2
      replace H := shell_Script.shut (shell_Script.A.mk sb2 sc2) (t_4.1) H.t1.t2
      cases hm
      exact hk _ _ ⟨hE.sel [1, 5, 6, 87] (by kernel_rfl), H.t3.t2.t3.t3⟩
     ·replace hE := hE.dec 83 c (by kernel_rfl)
      replace hm := cond_f c hm
      have c_7 := c
      refine WR.e0 hE [(87, .bool (decide ((t_3.1.length : Int) < 5)))] fun a hE => ?_
      replace H := shell_Script.shut (shell_Script.A.mk sb sc) (s) H.t1.t2
      replace H := shell_Script.shut (shell_Script.A.mk sb2 sc2) (t_4.1) H.t1.t2
      cases hm
      exact hk _ _ ⟨hE.sel [1, 5, 6, 87] (by kernel_rfl), H.t3.t2.t3.t3⟩
  rintro a w ⟨hE, H⟩
  refine Runs.cond hE rfl (fun c => ?_) (fun c => ?_)
  ·replace hm := cond_t c hm
   refine Runs.sr ?_
   refine WR.seg hE 1 [] [4] (Lo := [(4, .bool false)]) (obs := []) rfl (by kernel_rfl) trivial fun a hE => ?_
   refine WR.done rfl ?_
   refine Runs.ret hE Tryz.func7 rfl rfl ?_
   cases hm
   exact ⟨rfl, H.x2.x1.x0⟩
  ·replace hm := cond_f c hm
   refine Runs.skip ?_
   refine Runs.sr ?_
   refine WR.seg hE 4 [] [5, 89, 90, 92] (Lo := [(5, .pointer (some ⟨r1, 0, none⟩)), (89, .slice sb1 t_3.1.length sc1), (90, .int .i64 at_), (92, .int .i64 (t_3.1.length : Int))]) (obs := []) rfl (by kernel_rfl) trivial fun a hE => ?_
   obtain ⟨t_6, et_6, hm⟩ := bind_some hm
   refine WR.eff hE rfl rfl rfl rfl (OpTo.fn hE rfl rfl Tryz.call10 (thicketbook_Within_ok et_6 H)) ?_
   rintro _ w ⟨rfl, H⟩ a hE
   obtain ⟨l1, el1, hm⟩ := bind_some hm
   obtain ⟨sb3, q⟩ : ∃ z, rebase sb1 sc1 (Int.toNat 0) 1 = z := ⟨_, rfl⟩
   obtain ⟨sc3, q1⟩ : ∃ z, sc1 - (Int.toNat 0) = z := ⟨_, rfl⟩
   refine WR.d hE 6 [.slice sb3 l1.length sc3] [(94, .slice sb3 l1.length sc3)] (obs := [.p (rebase sb1 sc1 0 1 = sb3), .p ((Int.toNat t_6) - 0 = l1.length), .p (sc1 - 0 = sc3), .p (0 ≤ (t_6 : Int) ∧ (t_6 : Int) ≤ ((sc1 : Nat) : Int))]) ⟨q, cut_len el1, q1, cut_cap el1 (H.slCap 1 rfl).1, trivial⟩ fun a hE => ?_
   obtain ⟨t_7, et_7, hm⟩ := bind_some hm
   replace H := H.t1
   refine WR.eff hE rfl rfl rfl rfl (OpTo.fn hE rfl rfl Tryz.call24 (shell_Decode_ok (hX_b := ((sl_rd 5 ecU 1 _ _ _).cut' ecU_ok el1 ((H.slCap 0 rfl).1) q)) (hC_b := (cut_cap2 el1 (H.slCap 0 rfl).1 q1)) et_7 H)) ?_
   rintro _ w ⟨sb4, sc4, rfl, H⟩ a hE
   refine WR.d0 hE 10 [(96, .agg #[.int .i64 t_7.1.Kind, .int .i64 t_7.1.Jobs, .int .i64 t_7.1.Boxes, .int .i64 t_7.1.Room, .slice sb4 t_7.1.Acts.length sc4]), (97, .int .i64 t_7.2)] fun a hE => ?_
   refine WR.eff hE rfl rfl rfl rfl (OpTo.new hE H [] (.cells #[.int .i64 0, .int .i64 0, .int .i64 0, .int .i64 0, .slice none 0 0] 45 (0, 0)) (fun r => .pointer (some ⟨r, 0, none⟩)) (obs := []) rfl (fun _ => by kernel_rfl) trivial) ?_
   rintro _ w ⟨r3, rfl, H⟩ a hE
   refine WR.eff0 hE rfl rfl rfl (OpTo.store hE H rfl rfl rfl rfl rfl rfl (Nat.le_of_ble_eq_true rfl)) ?_
   rintro _ w H a hE
   refine WR.e0 hE [(12, .int .i64 t_7.2)] fun a hE => ?_
   refine Runs.sr ?_
   refine WR.e hE [.slice sb4 t_7.1.Acts.length sc4] [(13, .int .i64 (t_7.1.Acts.length : Int))] (obs := [.cell ⟨r3, 4, none⟩ (.slice sb4 t_7.1.Acts.length sc4)]) ⟨H.cell 0 rfl rfl, trivial⟩ fun a hE => ?_
   refine Runs.seq ?_
   refine Runs.sr ?_
   replace H := shell_Script.open H.t4
   try dsimp only at H
   refine WR.e hE [.slice sb s.Acts.length sc] [(105, .bool (decide ((t_7.1.Acts.length : Int) > (s.Acts.length : Int))))] (obs := [.cell ⟨r1, 4, none⟩ (.slice sb s.Acts.length sc)]) ⟨H.cell 0 rfl rfl, trivial⟩ fun a hE => ?_
   refine Runs.cond hE rfl (fun c => ?_) (fun c => ?_)
   ·replace hm := cond_t c hm
    refine Runs.sr ?_
    refine WR.e0 hE [(4, .bool false)] fun a hE => ?_
    refine Runs.ret hE Tryz.func7 rfl rfl ?_
    cases hm
    exact ⟨rfl, H.x5.x4.x3.x2.x1.x0⟩
   ·replace hm := cond_f c hm
    refine Runs.skip ?_
    refine Runs.sr ?_
    obtain ⟨l2, el2, hm⟩ := bind_some hm
    obtain ⟨sb5, q2⟩ : ∃ z, rebase sb sc (Int.toNat 0) 8 = z := ⟨_, rfl⟩
    obtain ⟨sc5, q3⟩ : ∃ z, sc - (Int.toNat 0) = z := ⟨_, rfl⟩
    refine WR.d hE 5 [.slice sb s.Acts.length sc, .slice sb5 l2.length sc5] [(109, .slice sb5 l2.length sc5), (110, .pointer (some ⟨r1, 4, none⟩))] (obs := [.cell ⟨r1, 4, none⟩ (.slice sb s.Acts.length sc), .p (rebase sb sc 0 8 = sb5), .p ((Int.toNat (t_7.1.Acts.length : Int)) - 0 = l2.length), .p (sc - 0 = sc5), .p (0 ≤ ((t_7.1.Acts.length : Int) : Int) ∧ ((t_7.1.Acts.length : Int) : Int) ≤ ((sc : Nat) : Int))]) ⟨H.cell 0 rfl rfl, q2, cut_len el2, q3, cut_cap el2 (H.slCap 1 rfl).1, trivial⟩ fun a hE => ?_
    refine WR.eff0 hE rfl rfl rfl (OpTo.store hE H rfl rfl rfl rfl rfl rfl (Nat.le_of_ble_eq_true rfl)) ?_
    rintro _ w H a hE
    refine WR.done rfl ?_
    refine Runs.seq ?_
    replace H := H.t1.slCut' api_Act.enc_ok el2 q2 q3
    replace H := shell_Script.shut (shell_Script.A.mk sb5 sc5) (shell_Script.mk s.Kind s.Jobs s.Boxes s.Room l2) H.t1
    replace H := shell_Script.shut (shell_Script.A.mk sb4 sc4) (t_7.1) H.t2.t2
    obtain ⟨s5, es5, hm⟩ := bind_some hm
    refine Runs.join (fun a w => EnvOk 121 a [(4, .bool s5)] ∧ St w0 (shell_Script.R r3 (shell_Script.A.mk sb4 sc4) t_7.1 :: shell_Script.R r1 (shell_Script.A.mk sb5 sc5) (shell_Script.mk s.Kind s.Jobs s.Boxes s.Room l2) :: shell_Script.R r2 (shell_Script.A.mk sb2 sc2) t_4.1 :: X_x :: As) w) (fun hk => ?_) ?_
    ·replace hm := es5; clear es5
     refine Runs.region ?_
     refine WR.d0 hE 3 [(113, .bool (t_7.2 == 0))] fun a hE => ?_
     rcases Bool.eq_false_or_eq_true (t_7.2 == 0) with c | c
     ·replace hE := hE.dec 113 c (by kernel_rfl)
      replace hm := cond_t c hm
      have c_8 := c
      replace H := shell_Script.open H
      try dsimp only at H
      replace H := shell_Script.open H.t2
      try dsimp only at H
      refine WR.d hE 5 [.int .i64 t_7.1.Kind, .int .i64 t_7.1.Jobs, .int .i64 t_7.1.Boxes, .int .i64 t_7.1.Room, .slice sb4 t_7.1.Acts.length sc4, .int .i64 s.Kind, .int .i64 s.Jobs, .int .i64 s.Boxes, .int .i64 s.Room, .slice sb5 l2.length sc5] [(113, .bool true), (114, .agg #[.int .i64 t_7.1.Kind, .int .i64 t_7.1.Jobs, .int .i64 t_7.1.Boxes, .int .i64 t_7.1.Room, .slice sb4 t_7.1.Acts.length sc4]), (115, .agg #[.int .i64 s.Kind, .int .i64 s.Jobs, .int .i64 s.Boxes, .int .i64 s.Room, .slice sb5 l2.length sc5])] (obs := [.cell ⟨r3, 0, none⟩ (.int .i64 t_7.1.Kind), .cell ⟨r3, 1, none⟩ (.int .i64 t_7.1.Jobs), .cell ⟨r3, 2, none⟩ (.int .i64 t_7.1.Boxes), .cell ⟨r3, 3, none⟩ (.int .i64 t_7.1.Room), .cell ⟨r3, 4, none⟩ (.slice sb4 t_7.1.Acts.length sc4), .cell ⟨r1, 0, none⟩ (.int .i64 s.Kind), .cell ⟨r1, 1, none⟩ (.int .i64 s.Jobs), .cell ⟨r1, 2, none⟩ (.int .i64 s.Boxes), .cell ⟨r1, 3, none⟩ (.int .i64 s.Room), .cell ⟨r1, 4, none⟩ (.slice sb5 l2.length sc5)]) ⟨H.cell 2 rfl rfl, H.cell 2 rfl rfl, H.cell 2 rfl rfl, H.cell 2 rfl rfl, H.cell 2 rfl rfl, H.cell 0 rfl rfl, H.cell 0 rfl rfl, H.cell 0 rfl rfl, H.cell 0 rfl rfl, H.cell 0 rfl rfl, trivial⟩ fun a hE => ?_
      obtain ⟨t_8, et_8, hm⟩ := bind_some hm
      replace H := H.t1.t3
      have hC_ := thicketlaw28_same_ok (al_a_ := shell_Script.A.mk sb4 sc4) (hX_a__Acts := (sl_rd 42 api_Act.enc 8 _ _ _)) (hC_a__Acts := (H.slCap 0 rfl).1) (al_b := shell_Script.A.mk sb5 sc5) (hX_b_Acts := (sl_rd 42 api_Act.enc 8 _ _ _)) (hC_b_Acts := (H.slCap 1 rfl).1) et_8 H
      try dsimp only at hC_
      refine WR.eff hE rfl rfl rfl rfl (OpTo.fn hE rfl rfl Tryz.call25 hC_) ?_
      rintro _ w ⟨rfl, H⟩ a hE
      refine WR.d0 hE 8 [(118, .bool t_8)] fun a hE => ?_
      rcases Bool.eq_false_or_eq_true t_8 with c | c
      ·replace hE := hE.dec 118 c (by kernel_rfl)
       replace hm := cond_t c hm
       have c_9 := c
       obtain ⟨t_9, et_9, hm⟩ := bind_some hm
       refine WR.eff hE rfl rfl rfl rfl (OpTo.fn hE rfl rfl Tryz.call20 (thicketlaw28_known_ok et_9 H)) ?_
       rintro _ w ⟨rfl, H⟩ a hE
       refine WR.e0 hE [(4, .bool t_9)] fun a hE => ?_
       replace H := shell_Script.shut (shell_Script.A.mk sb5 sc5) (shell_Script.mk s.Kind s.Jobs s.Boxes s.Room l2) H.t1.t2
       replace H := shell_Script.shut (shell_Script.A.mk sb4 sc4) (t_7.1) H.t1.t2
       cases hm
       exact hk _ _ ⟨hE.sel [4] (by kernel_rfl), H.x2.t3.t3.t3.t3⟩
      ·replace hE := hE.dec 118 c (by kernel_rfl)
       replace hm := cond_f c hm
       have c_10 := c
       refine WR.e0 hE [(4, .bool false)] fun a hE => ?_
       replace H := shell_Script.shut (shell_Script.A.mk sb5 sc5) (shell_Script.mk s.Kind s.Jobs s.Boxes s.Room l2) H.t1.t2
       replace H := shell_Script.shut (shell_Script.A.mk sb4 sc4) (t_7.1) H.t1.t2
       cases hm
       exact hk _ _ ⟨hE.sel [4] (by kernel_rfl), H.x2.t3.t3.t3.t3⟩
     ·replace hE := hE.dec 113 c (by kernel_rfl)
      replace hm := cond_f c hm
      have c_11 := c
      refine WR.e0 hE [(4, .bool false)] fun a hE => ?_
      cases hm
      exact hk _ _ ⟨hE.sel [4] (by kernel_rfl), H.x2.t3.t3.t3.t3⟩
    rintro a w ⟨hE, H⟩
    refine Runs.ret hE Tryz.func7 rfl rfl ?_
    cases hm
    exact ⟨rfl, H.x2.x1.x0⟩

theorem thicketlaw28_ShellCuts_ok {w0 w : World} {As : List HP} {k : Nat} {x : thicketlaw28_Raw} {al_x : thicketlaw28_Raw.A} {X_x : HP} {sb_more : Option Addr} {sc_more : Nat} {more : List Int} {cut : Int} {t : Bool} (hX_x_L : SlRd X_x thicketkeep_D.enc 11 al_x.L_b x.L) (hC_x_L : x.L.length ≤ al_x.L_c) (hX_x_Kinds : SlRd X_x ecI 1 al_x.Kinds_b x.Kinds) (hC_x_Kinds : x.Kinds.length ≤ al_x.Kinds_c) (hX_x_Acts : SlRd X_x api_Act.enc 8 al_x.Acts_b x.Acts) (hC_x_Acts : x.Acts.length ≤ al_x.Acts_c) (hX_more : SlRd X_x ecU 1 sb_more more) (hC_more : more.length ≤ sc_more) (hm : thicketlaw28_ShellCuts k x more cut = some t) (H : St w0 (X_x :: As) w) :
    CallsR Tryz.prog 8 #[.agg #[.int .i64 x.Kind, .int .i64 x.Jobs, .int .i64 x.Boxes, .int .i64 x.Room, .slice al_x.L_b x.L.length al_x.L_c, .slice al_x.Kinds_b x.Kinds.length al_x.Kinds_c, .slice al_x.Acts_b x.Acts.length al_x.Acts_c, .bool x.Tame], .slice sb_more more.length sc_more, .int .i64 cut] w fun v w' => v = .bool t ∧ St w0 (X_x :: As) w' := by
 rw [thicketlaw28_ShellCuts] at hm
 refine enter (args := [.agg #[.int .i64 x.Kind, .int .i64 x.Jobs, .int .i64 x.Boxes, .int .i64 x.Room, .slice al_x.L_b x.L.length al_x.L_c, .slice al_x.Kinds_b x.Kinds.length al_x.Kinds_c, .slice al_x.Acts_b x.Acts.length al_x.Acts_c, .bool x.Tame], .slice sb_more more.length sc_more, .int .i64 cut]) Tryz.func8 rfl rfl rfl fun a hE => ?_
 refine Runs.sr ?_
 refine WR.eff hE rfl rfl rfl rfl (OpTo.new hE H [] (.cells #[.int .i64 x.Kind, .int .i64 x.Jobs, .int .i64 x.Boxes, .int .i64 x.Room, .slice al_x.L_b x.L.length al_x.L_c, .slice al_x.Kinds_b x.Kinds.length al_x.Kinds_c, .slice al_x.Acts_b x.Acts.length al_x.Acts_c, .bool x.Tame] 60 (0, 0)) (fun r => .pointer (some ⟨r, 0, none⟩)) (obs := []) rfl (fun _ => by kernel_rfl) trivial) ?_
 rintro _ w ⟨r, rfl, H⟩ a hE
 refine WR.seg hE 2 [] [1, 2, 3] (Lo := [(1, .slice sb_more more.length sc_more), (2, .int .i64 cut), (3, .pointer (some ⟨r, 0, none⟩))]) (obs := []) rfl (by kernel_rfl) trivial fun a hE => ?_
 refine WR.done rfl ?_
 refine Runs.sr ?_
 refine WR.d hE 1 [.int .i64 x.Kind, .int .i64 x.Jobs, .int .i64 x.Boxes, .int .i64 x.Room, .slice al_x.L_b x.L.length al_x.L_c, .slice al_x.Kinds_b x.Kinds.length al_x.Kinds_c, .slice al_x.Acts_b x.Acts.length al_x.Acts_c, .bool x.Tame] [(16, .agg #[.int .i64 x.Kind, .int .i64 x.Jobs, .int .i64 x.Boxes, .int .i64 x.Room, .slice al_x.L_b x.L.length al_x.L_c, .slice al_x.Kinds_b x.Kinds.length al_x.Kinds_c, .slice al_x.Acts_b x.Acts.length al_x.Acts_c, .bool x.Tame])] (obs := [.cell ⟨r, 0, none⟩ (.int .i64 x.Kind), .cell ⟨r, 1, none⟩ (.int .i64 x.Jobs), .cell ⟨r, 2, none⟩ (.int .i64 x.Boxes), .cell ⟨r, 3, none⟩ (.int .i64 x.Room), .cell ⟨r, 4, none⟩ (.slice al_x.L_b x.L.length al_x.L_c), .cell ⟨r, 5, none⟩ (.slice al_x.Kinds_b x.Kinds.length al_x.Kinds_c), .cell ⟨r, 6, none⟩ (.slice al_x.Acts_b x.Acts.length al_x.Acts_c), .cell ⟨r, 7, none⟩ (.bool x.Tame)]) ⟨H.cell 0 rfl rfl, H.cell 0 rfl rfl, H.cell 0 rfl rfl, H.cell 0 rfl rfl, H.cell 0 rfl rfl, H.cell 0 rfl rfl, H.cell 0 rfl rfl, H.cell 0 rfl rfl, trivial⟩ fun a hE => ?_
 obtain ⟨t_, et_, hm⟩ := bind_some hm
 replace H := H.t1
 have hC_ := thicketlaw28_made_ok (al_x := thicketlaw28_Raw.A.mk al_x.L_b al_x.L_c al_x.Kinds_b al_x.Kinds_c al_x.Acts_b al_x.Acts_c) (hX_x_L := hX_x_L) (hC_x_L := hC_x_L) (hX_x_Kinds := hX_x_Kinds) (hC_x_Kinds := hC_x_Kinds) (hX_x_Acts := hX_x_Acts) (hC_x_Acts := hC_x_Acts) et_ H
 try dsimp only at hC_
 refine WR.eff hE rfl rfl rfl rfl (OpTo.fn hE rfl rfl Tryz.call21 hC_) ?_
 rintro _ w ⟨sb, sc, rfl, H⟩ a hE
 refine WR.eff hE rfl rfl rfl rfl (OpTo.new hE H [] (.cells #[.int .i64 0, .int .i64 0, .int .i64 0, .int .i64 0, .slice none 0 0] 45 (0, 0)) (fun r => .pointer (some ⟨r, 0, none⟩)) (obs := []) rfl (fun _ => by kernel_rfl) trivial) ?_
 rintro _ w ⟨r1, rfl, H⟩ a hE
 refine WR.eff0 hE rfl rfl rfl (OpTo.store hE H rfl rfl rfl rfl rfl rfl (Nat.le_of_ble_eq_true rfl)) ?_
 rintro _ w H a hE
 refine WR.done rfl ?_
 refine Runs.seq ?_
 refine Runs.sr ?_
 refine WR.d hE 1 [.int .i64 t_.Kind, .int .i64 t_.Jobs, .int .i64 t_.Boxes, .int .i64 t_.Room, .slice sb t_.Acts.length sc] [(18, .agg #[.int .i64 t_.Kind, .int .i64 t_.Jobs, .int .i64 t_.Boxes, .int .i64 t_.Room, .slice sb t_.Acts.length sc])] (obs := [.cell ⟨r1, 0, none⟩ (.int .i64 t_.Kind), .cell ⟨r1, 1, none⟩ (.int .i64 t_.Jobs), .cell ⟨r1, 2, none⟩ (.int .i64 t_.Boxes), .cell ⟨r1, 3, none⟩ (.int .i64 t_.Room), .cell ⟨r1, 4, none⟩ (.slice sb t_.Acts.length sc)]) ⟨H.cell 0 rfl rfl, H.cell 0 rfl rfl, H.cell 0 rfl rfl, H.cell 0 rfl rfl, H.cell 0 rfl rfl, trivial⟩ fun a hE => ?_
 obtain ⟨t_1, et_1, hm⟩ := bind_some hm
 replace H := H.t1
 have hC_ := thicketlaw28_right_ok (al_s := shell_Script.A.mk sb sc) (hX_s_Acts := (sl_rd 42 api_Act.enc 8 _ _ _)) (hC_s_Acts := (H.slCap 0 rfl).1) et_1 H
 try dsimp only at hC_
 refine WR.eff hE rfl rfl rfl rfl (OpTo.fn hE rfl rfl Tryz.call18 hC_) ?_
 rintro _ w ⟨rfl, H⟩ a hE
 refine WR.e0 hE [(20, .bool (t_1 != 0))] fun a hE => ?_
 refine Runs.cond hE rfl (fun c => ?_) (fun c => ?_)
 ·replace hm := cond_t c hm
  refine Runs.sr ?_
  obtain ⟨t_2, et_2, hm⟩ := bind_some hm
  refine WR.eff hE rfl rfl rfl rfl (OpTo.fn hE rfl rfl Tryz.call20 (thicketlaw28_known_ok et_2 H)) ?_
  rintro _ w ⟨rfl, H⟩ a hE
  refine WR.e0 hE [(6, .bool t_2)] fun a hE => ?_
  refine Runs.ret hE Tryz.func8 rfl rfl ?_
  cases hm
  exact ⟨rfl, H.x3.x1.x0⟩
 ·replace hm := cond_f c hm
  refine Runs.skip ?_
  refine Runs.sr ?_
  refine WR.d hE 1 [.int .i64 t_.Kind, .int .i64 t_.Jobs, .int .i64 t_.Boxes, .int .i64 t_.Room, .slice sb t_.Acts.length sc] [(23, .agg #[.int .i64 t_.Kind, .int .i64 t_.Jobs, .int .i64 t_.Boxes, .int .i64 t_.Room, .slice sb t_.Acts.length sc])] (obs := [.cell ⟨r1, 0, none⟩ (.int .i64 t_.Kind), .cell ⟨r1, 1, none⟩ (.int .i64 t_.Jobs), .cell ⟨r1, 2, none⟩ (.int .i64 t_.Boxes), .cell ⟨r1, 3, none⟩ (.int .i64 t_.Room), .cell ⟨r1, 4, none⟩ (.slice sb t_.Acts.length sc)]) ⟨H.cell 1 rfl rfl, H.cell 1 rfl rfl, H.cell 1 rfl rfl, H.cell 1 rfl rfl, H.cell 1 rfl rfl, trivial⟩ fun a hE => ?_
  obtain ⟨t_3, et_3, hm⟩ := bind_some hm
  have hC_ := shell_Encode_ok (al_s := shell_Script.A.mk sb sc) (hX_s_Acts := (sl_rd 42 api_Act.enc 8 _ _ _)) (hC_s_Acts := (H.slCap 0 rfl).1) et_3 H
  try dsimp only at hC_
  refine WR.eff hE rfl rfl rfl rfl (OpTo.fn hE rfl rfl Tryz.call16 hC_) ?_
  rintro _ w ⟨sb1, sc1, rfl, H⟩ a hE
  refine WR.e0 hE [(8, .slice sb1 t_3.1.length sc1), (9, .int .i64 t_3.2)] fun a hE => ?_
  refine Runs.seq ?_
  refine Runs.sr ?_
  refine WR.e0 hE [(29, .bool (decide ((more.length : Int) > 30)))] fun a hE => ?_
  replace H := shell_Script.shut (shell_Script.A.mk sb sc) (t_) H.t1.t2
  obtain ⟨s, es, hm⟩ := bind_some hm
  refine Runs.join (fun a w => ∃ (sb2 : Option Addr), ∃ (sc2 : Nat), EnvOk 102 a [(1, .slice sb2 s.length sc2), (2, .int .i64 cut), (7, .pointer (some ⟨r1, 0, none⟩)), (8, .slice sb1 t_3.1.length sc1), (9, .int .i64 t_3.2)] ∧ (SlRd X_x ecU 1 sb2 s) ∧ (s.length ≤ sc2) ∧ St w0 (shell_Script.R r1 (shell_Script.A.mk sb sc) t_ :: Sl 5 ecU 1 sb1 sc1 t_3.1 :: X_x :: As) w) (fun hk => ?_) ?_
  ·replace hm := es; clear es
   refine Runs.cond hE rfl (fun c => ?_) (fun c => ?_)
   ·replace hm := cond_t c hm
    refine Runs.region ?_
    obtain ⟨l, el, hm⟩ := bind_some hm
    obtain ⟨sb3, q⟩ : ∃ z, rebase sb_more sc_more (Int.toNat 0) 1 = z := ⟨_, rfl⟩
    obtain ⟨sc3, q1⟩ : ∃ z, sc_more - (Int.toNat 0) = z := ⟨_, rfl⟩
    refine WR.e hE [.slice sb3 l.length sc3] [(1, .slice sb3 l.length sc3)] (obs := [.p (rebase sb_more sc_more 0 1 = sb3), .p ((Int.toNat 30) - 0 = l.length), .p (sc_more - 0 = sc3), .p (0 ≤ (30 : Int) ∧ (30 : Int) ≤ ((sc_more : Nat) : Int))]) ⟨q, cut_len el, q1, cut_cap el hC_more, trivial⟩ fun a hE => ?_
    cases hm
    exact hk _ _ ⟨sb3, sc3, hE.sel [1, 2, 7, 8, 9] (by kernel_rfl), (hX_more.cut' ecU_ok el (hC_more) q), (cut_cap2 el hC_more q1), H.x3.t2.t2.t2⟩
   ·replace hm := cond_f c hm
    refine Runs.skip ?_
    cases hm
    exact hk _ _ ⟨sb_more, sc_more, hE.sel [1, 2, 7, 8, 9] (by kernel_rfl), hX_more, hC_more, H.x3.t2.t2.t2⟩
  rintro a w ⟨sb2, sc2, hE, hX, hC, H⟩
  refine Runs.seq ?_
  refine Runs.seq ?_
  refine Runs.join (fun a w => EnvOk 102 a [(1, .slice sb2 s.length sc2), (2, .int .i64 cut), (7, .pointer (some ⟨r1, 0, none⟩)), (8, .slice sb1 t_3.1.length sc1), (38, .bool ((t_3.2 != 0) || (decide ((t_3.1.length : Int) < 5))))] ∧ St w0 (shell_Script.R r1 (shell_Script.A.mk sb sc) t_ :: Sl 5 ecU 1 sb1 sc1 t_3.1 :: X_x :: As) w) (fun hk => ?_) ?_
  ·clear hm
   refine Runs.region ?_
   refine WR.seg hE 3 [] [1, 2, 7, 8, 34] (Lo := [(1, .slice sb2 s.length sc2), (2, .int .i64 cut), (7, .pointer (some ⟨r1, 0, none⟩)), (8, .slice sb1 t_3.1.length sc1), (34, .bool (t_3.2 != 0))]) (obs := []) rfl (by kernel_rfl) trivial fun a hE => ?_
   rcases Bool.eq_false_or_eq_true (t_3.2 != 0) with c | c
   ·replace hE := hE.dec 34 c (by kernel_rfl)
    have c_ := c
    refine WR.e0 hE [(38, .bool true)] fun a hE => ?_
    refine hk _ _ ⟨?_, H.t2.t2.t2⟩
    try rw [c_] at hE
    try rw [c_]
    exact hE.sel [1, 2, 7, 8, 38] (by kernel_rfl)
   ·replace hE := hE.dec 34 c (by kernel_rfl)
    have c_1 := c
    refine WR.e0 hE [(38, .bool (decide ((t_3.1.length : Int) < 5)))] fun a hE => ?_
    refine hk _ _ ⟨?_, H.t2.t2.t2⟩
    try rw [c_1] at hE
    try rw [c_1]
    exact hE.sel [1, 2, 7, 8, 38] (by kernel_rfl)
  rintro a w ⟨hE, H⟩
  refine Runs.cond hE rfl (fun c => ?_) (fun c => ?_)
  ·replace hm := cond_t c hm
   refine Runs.sr ?_
   refine WR.seg hE 1 [] [6] (Lo := [(6, .bool false)]) (obs := []) rfl (by kernel_rfl) trivial fun a hE => ?_
   refine WR.done rfl ?_
   refine Runs.ret hE Tryz.func8 rfl rfl ?_
   cases hm
   exact ⟨rfl, H.x1.x0⟩
  ·replace hm := cond_f c hm
   refine Runs.skip ?_
   refine Runs.sr ?_
   refine WR.seg hE 2 [] [1, 7, 8, 40, 41] (Lo := [(1, .slice sb2 s.length sc2), (7, .pointer (some ⟨r1, 0, none⟩)), (8, .slice sb1 t_3.1.length sc1), (40, .slice sb1 t_3.1.length sc1), (41, .int .i64 cut)]) (obs := []) rfl (by kernel_rfl) trivial fun a hE => ?_
   obtain ⟨t_4, et_4, hm⟩ := bind_some hm
   refine WR.eff hE rfl rfl rfl rfl (OpTo.fn hE rfl rfl Tryz.call10 (thicketbook_Within_ok et_4 H)) ?_
   rintro _ w ⟨rfl, H⟩ a hE
   obtain ⟨l1, el1, hm⟩ := bind_some hm
   obtain ⟨sb4, q2⟩ : ∃ z, rebase sb1 sc1 (Int.toNat 0) 1 = z := ⟨_, rfl⟩
   obtain ⟨sc4, q3⟩ : ∃ z, sc1 - (Int.toNat 0) = z := ⟨_, rfl⟩
   refine WR.d hE 4 [.slice sb4 l1.length sc4] [(43, .slice sb4 l1.length sc4)] (obs := [.p (rebase sb1 sc1 0 1 = sb4), .p ((Int.toNat t_4) - 0 = l1.length), .p (sc1 - 0 = sc4), .p (0 ≤ (t_4 : Int) ∧ (t_4 : Int) ≤ ((sc1 : Nat) : Int))]) ⟨q2, cut_len el1, q3, cut_cap el1 (H.slCap 1 rfl).1, trivial⟩ fun a hE => ?_
   obtain ⟨t_5, et_5, hm⟩ := bind_some hm
   replace H := H.t1
   refine WR.eff hE rfl rfl rfl rfl (OpTo.fn hE rfl rfl Tryz.call24 (shell_Decode_ok (hX_b := ((sl_rd 5 ecU 1 _ _ _).cut' ecU_ok el1 ((H.slCap 0 rfl).1) q2)) (hC_b := (cut_cap2 el1 (H.slCap 0 rfl).1 q3)) et_5 H)) ?_
   rintro _ w ⟨sb5, sc5, rfl, H⟩ a hE
   refine WR.d0 hE 8 [(45, .agg #[.int .i64 t_5.1.Kind, .int .i64 t_5.1.Jobs, .int .i64 t_5.1.Boxes, .int .i64 t_5.1.Room, .slice sb5 t_5.1.Acts.length sc5]), (46, .int .i64 t_5.2)] fun a hE => ?_
   refine WR.eff hE rfl rfl rfl rfl (OpTo.new hE H [] (.cells #[.int .i64 0, .int .i64 0, .int .i64 0, .int .i64 0, .slice none 0 0] 45 (0, 0)) (fun r => .pointer (some ⟨r, 0, none⟩)) (obs := []) rfl (fun _ => by kernel_rfl) trivial) ?_
   rintro _ w ⟨r2, rfl, H⟩ a hE
   refine WR.eff0 hE rfl rfl rfl (OpTo.store hE H rfl rfl rfl rfl rfl rfl (Nat.le_of_ble_eq_true rfl)) ?_
   rintro _ w H a hE
   refine WR.e0 hE [(11, .int .i64 t_5.2)] fun a hE => ?_
   refine Runs.sr ?_
   refine WR.eff hE rfl rfl rfl rfl (OpTo.buildSl (T := 5) hE H ecU_ok ([] : List Int) rfl (fun _ => by kernel_rfl) rfl rfl rfl) ?_
   rintro _ w ⟨r3, rfl, H⟩ a hE
   refine WR.d0 hE 2 [(49, .slice sb1 t_3.1.length sc1)] fun a hE => ?_
   obtain ⟨l2, el2, hm⟩ := bind_some hm
   refine WR.eff hE rfl rfl rfl rfl (OpTo.appendM el2 hE H ecU_ok rfl rfl rfl rfl rfl rfl rfl rfl rfl rfl (SlRd.all (sl_rd 5 ecU 1 _ _ _) ecU_ok H 3 rfl) rfl) ?_
   rintro _ w ⟨sb6, sc6, rfl, H⟩ a hE
   refine WR.d0 hE 4 [(51, .slice sb2 s.length sc2)] fun a hE => ?_
   obtain ⟨l3, el3, hm⟩ := bind_some hm
   refine WR.eff hE rfl rfl rfl rfl (OpTo.appendM el3 hE H ecU_ok rfl rfl rfl rfl rfl rfl rfl rfl rfl rfl (SlRd.all hX ecU_ok H 5 rfl) rfl) ?_
   rintro _ w ⟨sb7, sc7, rfl, H⟩ a hE
   obtain ⟨t_6, et_6, hm⟩ := bind_some hm
   refine WR.eff hE rfl rfl rfl rfl (OpTo.fn hE rfl rfl Tryz.call24 (shell_Decode_ok (hX_b := (sl_rd 5 ecU 1 _ _ _)) (hC_b := (H.slCap 0 rfl).1) et_6 H)) ?_
   rintro _ w ⟨sb8, sc8, rfl, H⟩ a hE
   refine WR.d0 hE 9 [(54, .agg #[.int .i64 t_6.1.Kind, .int .i64 t_6.1.Jobs, .int .i64 t_6.1.Boxes, .int .i64 t_6.1.Room, .slice sb8 t_6.1.Acts.length sc8]), (55, .int .i64 t_6.2)] fun a hE => ?_
   refine WR.eff hE rfl rfl rfl rfl (OpTo.new hE H [] (.cells #[.int .i64 0, .int .i64 0, .int .i64 0, .int .i64 0, .slice none 0 0] 45 (0, 0)) (fun r => .pointer (some ⟨r, 0, none⟩)) (obs := []) rfl (fun _ => by kernel_rfl) trivial) ?_
   rintro _ w ⟨r4, rfl, H⟩ a hE
   refine WR.eff0 hE rfl rfl rfl (OpTo.store hE H rfl rfl rfl rfl rfl rfl (Nat.le_of_ble_eq_true rfl)) ?_
   rintro _ w H a hE
   refine WR.e0 hE [(13, .int .i64 t_6.2)] fun a hE => ?_
   refine Runs.sr ?_
   refine WR.d0 hE 1 [(57, .slice sb1 t_3.1.length sc1)] fun a hE => ?_
   obtain ⟨t_7, et_7, hm⟩ := bind_some hm
   replace H := H.t5
   refine WR.eff hE rfl rfl rfl rfl (OpTo.fn hE rfl rfl Tryz.call24 (shell_Decode_ok (hX_b := (sl_rd 5 ecU 1 _ _ _)) (hC_b := (H.slCap 0 rfl).1) et_7 H)) ?_
   rintro _ w ⟨sb9, sc9, rfl, H⟩ a hE
   refine WR.d0 hE 5 [(59, .agg #[.int .i64 t_7.1.Kind, .int .i64 t_7.1.Jobs, .int .i64 t_7.1.Boxes, .int .i64 t_7.1.Room, .slice sb9 t_7.1.Acts.length sc9]), (60, .int .i64 t_7.2)] fun a hE => ?_
   refine WR.eff hE rfl rfl rfl rfl (OpTo.new hE H [] (.cells #[.int .i64 0, .int .i64 0, .int .i64 0, .int .i64 0, .slice none 0 0] 45 (0, 0)) (fun r => .pointer (some ⟨r, 0, none⟩)) (obs := []) rfl (fun _ => by kernel_rfl) trivial) ?_
   rintro _ w ⟨r5, rfl, H⟩ a hE
   refine WR.eff0 hE rfl rfl rfl (OpTo.store hE H rfl rfl rfl rfl rfl rfl (Nat.le_of_ble_eq_true rfl)) ?_
   rintro _ w H a hE
   refine WR.e0 hE [(15, .int .i64 t_7.2)] fun a hE => ?_
   refine Runs.seq ?_
   refine Runs.seq ?_
   replace H := shell_Script.shut (shell_Script.A.mk sb9 sc9) (t_7.1) H.t1.t1
   replace H := shell_Script.shut (shell_Script.A.mk sb8 sc8) (t_6.1) H.t3.t3
   replace H := shell_Script.shut (shell_Script.A.mk sb5 sc5) (t_5.1) H.t5.t5
   obtain ⟨s1, es1, hm⟩ := bind_some hm
   refine Runs.join (fun a w => EnvOk 102 a [(12, .pointer (some ⟨r4, 0, none⟩)), (14, .pointer (some ⟨r5, 0, none⟩)), (88, .bool s1)] ∧ St w0 (shell_Script.R r2 (shell_Script.A.mk sb5 sc5) t_5.1 :: shell_Script.R r4 (shell_Script.A.mk sb8 sc8) t_6.1 :: shell_Script.R r5 (shell_Script.A.mk sb9 sc9) t_7.1 :: shell_Script.R r1 (shell_Script.A.mk sb sc) t_ :: X_x :: As) w) (fun hk => ?_) ?_
   ·replace hm := es1; clear es1
    refine Runs.region ?_
    refine WR.d0 hE 3 [(63, .bool (t_5.2 != 12))] fun a hE => ?_
    rcases Bool.eq_false_or_eq_true (t_5.2 != 12) with c | c
    ·replace hE := hE.dec 63 c (by kernel_rfl)
     replace hm := cond_t c hm
     have c_2 := c
     refine WR.e0 hE [(88, .bool true)] fun a hE => ?_
     cases hm
     exact hk _ _ ⟨hE.sel [12, 14, 88] (by kernel_rfl), H.x4.x3.t4.t4.t4.t4.t4⟩
    ·replace hE := hE.dec 63 c (by kernel_rfl)
     replace hm := cond_f c hm
     have c_3 := c
     refine WR.d0 hE 7 [(67, .bool (t_6.2 != 0))] fun a hE => ?_
     rcases Bool.eq_false_or_eq_true (t_6.2 != 0) with c | c
     ·replace hE := hE.dec 67 c (by kernel_rfl)
      replace hm := cond_t c hm
      have c_4 := c
      refine WR.e0 hE [(88, .bool true)] fun a hE => ?_
      cases hm
      exact hk _ _ ⟨hE.sel [12, 14, 88] (by kernel_rfl), H.x4.x3.t4.t4.t4.t4.t4⟩
     ·replace hE := hE.dec 67 c (by kernel_rfl)
      replace hm := cond_f c hm
      have c_5 := c
      refine WR.d0 hE 11 [(71, .bool (t_7.2 != 0))] fun a hE => ?_
      rcases Bool.eq_false_or_eq_true (t_7.2 != 0) with c | c
      ·replace hE := hE.dec 71 c (by kernel_rfl)
       replace hm := cond_t c hm
       have c_6 := c
       refine WR.e0 hE [(88, .bool true)] fun a hE => ?_
       cases hm
       exact hk _ _ ⟨hE.sel [12, 14, 88] (by kernel_rfl), H.x4.x3.t4.t4.t4.t4.t4⟩
      ·replace hE := hE.dec 71 c (by kernel_rfl)
       replace hm := cond_f c hm
       have c_7 := c
       replace H := shell_Script.open H.t1
       try dsimp only at H
       replace H := shell_Script.open H.t3
       try dsimp only at H
       refine WR.d hE 20 [.slice sb8 t_6.1.Acts.length sc8, .slice sb9 t_7.1.Acts.length sc9] [(80, .bool (decide ((t_6.1.Acts.length : Int) < (t_7.1.Acts.length : Int))))] (obs := [.cell ⟨r4, 4, none⟩ (.slice sb8 t_6.1.Acts.length sc8), .cell ⟨r5, 4, none⟩ (.slice sb9 t_7.1.Acts.length sc9)]) ⟨H.cell 2 rfl rfl, H.cell 0 rfl rfl, trivial⟩ fun a hE => ?_
       rcases Bool.eq_false_or_eq_true (decide ((t_6.1.Acts.length : Int) < (t_7.1.Acts.length : Int))) with c | c
       ·replace hE := hE.dec 80 c (by kernel_rfl)
        replace hm := cond_t c hm
        have c_8 := c
        refine WR.e0 hE [(88, .bool true)] fun a hE => ?_
        replace H := shell_Script.shut (shell_Script.A.mk sb9 sc9) (t_7.1) H.t1.t1
        replace H := shell_Script.shut (shell_Script.A.mk sb8 sc8) (t_6.1) H.t2.t2
        cases hm
        exact hk _ _ ⟨hE.sel [12, 14, 88] (by kernel_rfl), H.x4.x3.t4.t4.t3.t3.t4⟩
       ·replace hE := hE.dec 80 c (by kernel_rfl)
        replace hm := cond_f c hm
        have c_9 := c
        replace H := shell_Script.open H.t7
        try dsimp only at H
        refine WR.e hE [.slice sb9 t_7.1.Acts.length sc9, .slice sb t_.Acts.length sc] [(88, .bool ((t_7.1.Acts.length : Int) != (t_.Acts.length : Int)))] (obs := [.cell ⟨r5, 4, none⟩ (.slice sb9 t_7.1.Acts.length sc9), .cell ⟨r1, 4, none⟩ (.slice sb t_.Acts.length sc)]) ⟨H.cell 2 rfl rfl, H.cell 0 rfl rfl, trivial⟩ fun a hE => ?_
        replace H := shell_Script.shut (shell_Script.A.mk sb sc) (t_) H.t1.t1
        replace H := shell_Script.shut (shell_Script.A.mk sb9 sc9) (t_7.1) H.t2.t2
        replace H := shell_Script.shut (shell_Script.A.mk sb8 sc8) (t_6.1) H.t3.t3
        cases hm
        exact hk _ _ ⟨hE.sel [12, 14, 88] (by kernel_rfl), H.x5.x4.t4.t3.t3.t3.t4⟩
   rintro a w ⟨hE, H⟩
   refine Runs.cond hE rfl (fun c => ?_) (fun c => ?_)
   ·replace hm := cond_t c hm
    refine Runs.sr ?_
    refine WR.seg hE 1 [] [6] (Lo := [(6, .bool false)]) (obs := []) rfl (by kernel_rfl) trivial fun a hE => ?_
    refine WR.done rfl ?_
    refine Runs.ret hE Tryz.func8 rfl rfl ?_
    cases hm
    exact ⟨rfl, H.x3.x2.x1.x0⟩
   ·replace hm := cond_f c hm
    refine Runs.skip ?_
    refine Runs.sr ?_
    replace H := shell_Script.open H.t1
    try dsimp only at H
    replace H := shell_Script.open H.t3
    try dsimp only at H
    obtain ⟨l4, el4, hm⟩ := bind_some hm
    obtain ⟨sb10, q6⟩ : ∃ z, rebase sb8 sc8 (Int.toNat 0) 8 = z := ⟨_, rfl⟩
    obtain ⟨sc10, q7⟩ : ∃ z, sc8 - (Int.toNat 0) = z := ⟨_, rfl⟩
    refine WR.seg hE 7 [.slice sb8 t_6.1.Acts.length sc8, .slice sb9 t_7.1.Acts.length sc9, .slice sb10 l4.length sc10] [12, 14, 94, 95] (Lo := [(12, .pointer (some ⟨r4, 0, none⟩)), (14, .pointer (some ⟨r5, 0, none⟩)), (94, .slice sb10 l4.length sc10), (95, .pointer (some ⟨r4, 4, none⟩))]) (obs := [.cell ⟨r4, 4, none⟩ (.slice sb8 t_6.1.Acts.length sc8), .cell ⟨r5, 4, none⟩ (.slice sb9 t_7.1.Acts.length sc9), .p (rebase sb8 sc8 0 8 = sb10), .p ((Int.toNat (t_7.1.Acts.length : Int)) - 0 = l4.length), .p (sc8 - 0 = sc10), .p (0 ≤ ((t_7.1.Acts.length : Int) : Int) ∧ ((t_7.1.Acts.length : Int) : Int) ≤ ((sc8 : Nat) : Int))]) rfl (by kernel_rfl) ⟨H.cell 2 rfl rfl, H.cell 0 rfl rfl, q6, cut_len el4, q7, cut_cap el4 (H.slCap 3 rfl).1, trivial⟩ fun a hE => ?_
    refine WR.eff0 hE rfl rfl rfl (OpTo.store hE H.t2 rfl rfl rfl rfl rfl rfl (Nat.le_of_ble_eq_true rfl)) ?_
    rintro _ w H a hE
    refine WR.done rfl ?_
    refine Runs.seq ?_
    replace H := H.t3.slCut' api_Act.enc_ok el4 q6 q7
    replace H := shell_Script.shut (shell_Script.A.mk sb10 sc10) (shell_Script.mk t_6.1.Kind t_6.1.Jobs t_6.1.Boxes t_6.1.Room l4) H.t1
    replace H := shell_Script.shut (shell_Script.A.mk sb9 sc9) (t_7.1) H.t2.t2
    obtain ⟨s2, es2, hm⟩ := bind_some hm
    refine Runs.join (fun a w => EnvOk 102 a [(6, .bool s2)] ∧ St w0 (shell_Script.R r5 (shell_Script.A.mk sb9 sc9) t_7.1 :: shell_Script.R r4 (shell_Script.A.mk sb10 sc10) (shell_Script.mk t_6.1.Kind t_6.1.Jobs t_6.1.Boxes t_6.1.Room l4) :: shell_Script.R r2 (shell_Script.A.mk sb5 sc5) t_5.1 :: shell_Script.R r1 (shell_Script.A.mk sb sc) t_ :: X_x :: As) w) (fun hk => ?_) ?_
    ·replace hm := es2; clear es2
     refine Runs.region ?_
     replace H := shell_Script.open H.t1
     try dsimp only at H
     replace H := shell_Script.open H.t2
     try dsimp only at H
     refine WR.d hE 2 [.int .i64 t_6.1.Kind, .int .i64 t_6.1.Jobs, .int .i64 t_6.1.Boxes, .int .i64 t_6.1.Room, .slice sb10 l4.length sc10, .int .i64 t_7.1.Kind, .int .i64 t_7.1.Jobs, .int .i64 t_7.1.Boxes, .int .i64 t_7.1.Room, .slice sb9 t_7.1.Acts.length sc9] [(96, .agg #[.int .i64 t_6.1.Kind, .int .i64 t_6.1.Jobs, .int .i64 t_6.1.Boxes, .int .i64 t_6.1.Room, .slice sb10 l4.length sc10]), (97, .agg #[.int .i64 t_7.1.Kind, .int .i64 t_7.1.Jobs, .int .i64 t_7.1.Boxes, .int .i64 t_7.1.Room, .slice sb9 t_7.1.Acts.length sc9])] (obs := [.cell ⟨r4, 0, none⟩ (.int .i64 t_6.1.Kind), .cell ⟨r4, 1, none⟩ (.int .i64 t_6.1.Jobs), .cell ⟨r4, 2, none⟩ (.int .i64 t_6.1.Boxes), .cell ⟨r4, 3, none⟩ (.int .i64 t_6.1.Room), .cell ⟨r4, 4, none⟩ (.slice sb10 l4.length sc10), .cell ⟨r5, 0, none⟩ (.int .i64 t_7.1.Kind), .cell ⟨r5, 1, none⟩ (.int .i64 t_7.1.Jobs), .cell ⟨r5, 2, none⟩ (.int .i64 t_7.1.Boxes), .cell ⟨r5, 3, none⟩ (.int .i64 t_7.1.Room), .cell ⟨r5, 4, none⟩ (.slice sb9 t_7.1.Acts.length sc9)]) ⟨H.cell 2 rfl rfl, H.cell 2 rfl rfl, H.cell 2 rfl rfl, H.cell 2 rfl rfl, H.cell 2 rfl rfl, H.cell 0 rfl rfl, H.cell 0 rfl rfl, H.cell 0 rfl rfl, H.cell 0 rfl rfl, H.cell 0 rfl rfl, trivial⟩ fun a hE => ?_
     obtain ⟨t_8, et_8, hm⟩ := bind_some hm
     replace H := H.t1.t3
     have hC_ := thicketlaw28_same_ok (al_a_ := shell_Script.A.mk sb10 sc10) (hX_a__Acts := (sl_rd 42 api_Act.enc 8 _ _ _)) (hC_a__Acts := (H.slCap 0 rfl).1) (al_b := shell_Script.A.mk sb9 sc9) (hX_b_Acts := (sl_rd 42 api_Act.enc 8 _ _ _)) (hC_b_Acts := (H.slCap 1 rfl).1) et_8 H
     try dsimp only at hC_
     refine WR.eff hE rfl rfl rfl rfl (OpTo.fn hE rfl rfl Tryz.call25 hC_) ?_
     rintro _ w ⟨rfl, H⟩ a hE
     refine WR.d0 hE 4 [(99, .bool t_8)] fun a hE => ?_
     rcases Bool.eq_false_or_eq_true t_8 with c | c
     ·replace hE := hE.dec 99 c (by kernel_rfl)
      replace hm := cond_t c hm
      have c_10 := c
      obtain ⟨t_9, et_9, hm⟩ := bind_some hm
      refine WR.eff hE rfl rfl rfl rfl (OpTo.fn hE rfl rfl Tryz.call20 (thicketlaw28_known_ok et_9 H)) ?_
      rintro _ w ⟨rfl, H⟩ a hE
      refine WR.e0 hE [(6, .bool t_9)] fun a hE => ?_
      replace H := shell_Script.shut (shell_Script.A.mk sb9 sc9) (t_7.1) H.t1.t2
      replace H := shell_Script.shut (shell_Script.A.mk sb10 sc10) (shell_Script.mk t_6.1.Kind t_6.1.Jobs t_6.1.Boxes t_6.1.Room l4) H.t1.t2
      cases hm
      exact hk _ _ ⟨hE.sel [6] (by kernel_rfl), H.t4.t4.t4.t3.t4⟩
     ·replace hE := hE.dec 99 c (by kernel_rfl)
      replace hm := cond_f c hm
      have c_11 := c
      refine WR.e0 hE [(6, .bool false)] fun a hE => ?_
      replace H := shell_Script.shut (shell_Script.A.mk sb9 sc9) (t_7.1) H.t1.t2
      replace H := shell_Script.shut (shell_Script.A.mk sb10 sc10) (shell_Script.mk t_6.1.Kind t_6.1.Jobs t_6.1.Boxes t_6.1.Room l4) H.t1.t2
      cases hm
      exact hk _ _ ⟨hE.sel [6] (by kernel_rfl), H.t4.t4.t4.t3.t4⟩
    rintro a w ⟨hE, H⟩
    refine Runs.ret hE Tryz.func8 rfl rfl ?_
    cases hm
    exact ⟨rfl, H.x3.x2.x1.x0⟩

end Go.Proofs.YtdcjghailibedaaGreat
