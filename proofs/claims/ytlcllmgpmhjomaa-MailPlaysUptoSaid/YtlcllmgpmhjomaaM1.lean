import Derived.Test.YtlcllmgpmhjomaaM1p1
set_option linter.unusedVariables false
set_option linter.unusedSimpArgs false
set_option maxRecDepth 10000
set_option maxHeartbeats 4000000
namespace Go.Proofs.Ytlcllmgpmhjomaa
open Go.Th

theorem thicketlaw23_play_ok {w0 w : World} {As : List HP} {k : Nat} {boxes : Int} {room : Int} {sb_l : Option Addr} {sc_l : Nat} {l : List thicketlaw23_Ask} {X_l : HP} {t : Bool} (hX_l : SlRd X_l thicketlaw23_Ask.enc 3 sb_l l) (hC_l : l.length ≤ sc_l) (hm : thicketlaw23_play k boxes room l = some t) (H : St w0 (X_l :: As) w) :
    CallsR Try.prog 19 #[.int .i64 boxes, .int .i64 room, .slice sb_l l.length sc_l] w fun v w' => v = .bool t ∧ St w0 (X_l :: As) w' := by
  rw [thicketlaw23_play] at hm
  refine enter (args := [.int .i64 boxes, .int .i64 room, .slice sb_l l.length sc_l]) Try.func19 rfl rfl rfl fun a hE => ?_
  refine Runs.seq ?_
  refine Runs.region ?_
  refine WR.seg hE 1 [] [0, 1, 2] (Lo := [(0, .int .i64 boxes), (1, .int .i64 room), (2, .slice sb_l l.length sc_l)]) (obs := []) rfl (by kernel_rfl) trivial fun a hE => ?_
  refine WR.done rfl ?_
  refine Runs.seq ?_
  refine Runs.region ?_
  refine WR.seg hE 2 [] [0, 1, 2, 20, 21] (Lo := [(0, .int .i64 boxes), (1, .int .i64 room), (2, .slice sb_l l.length sc_l), (20, .int .i64 boxes), (21, .int .i64 room)]) (obs := []) rfl (by kernel_rfl) trivial fun a hE => ?_
  obtain ⟨t_, et_, hm⟩ := bind_some hm
  refine WR.eff hE rfl rfl rfl rfl (OpTo.fn hE rfl rfl Try.call20 (mail_NewDesk_int64_ok et_ H)) ?_
  rintro _ w ⟨p, al, rfl, H⟩ a hE
  refine WR.seg hE 4 [] [0, 1, 2, 7] (Lo := [(0, .int .i64 boxes), (1, .int .i64 room), (2, .slice sb_l l.length sc_l), (7, .pointer (some ⟨p, 0, none⟩))]) (obs := []) rfl (by kernel_rfl) trivial fun a hE => ?_
  refine WR.done rfl ?_
  refine Runs.seq ?_
  refine Runs.region ?_
  refine WR.seg hE 4 [] [1, 2, 7, 8] (Lo := [(1, .int .i64 room), (2, .slice sb_l l.length sc_l), (7, .pointer (some ⟨p, 0, none⟩)), (8, .int .i64 (if 1 > (if 4 < boxes then 4 else boxes) then 1 else (if 4 < boxes then 4 else boxes)))]) (obs := []) rfl (by kernel_rfl) trivial fun a hE => ?_
  refine WR.done rfl ?_
  refine Runs.seq ?_
  refine Runs.region ?_
  refine WR.seg hE 4 [] [2, 7, 8, 9] (Lo := [(2, .slice sb_l l.length sc_l), (7, .pointer (some ⟨p, 0, none⟩)), (8, .int .i64 (if 1 > (if 4 < boxes then 4 else boxes) then 1 else (if 4 < boxes then 4 else boxes))), (9, .int .i64 (if 1 > (if 4096 < room then 4096 else room) then 1 else (if 4096 < room then 4096 else room)))]) (obs := []) rfl (by kernel_rfl) trivial fun a hE => ?_
  refine WR.done rfl ?_
  refine Runs.seq ?_
  refine Runs.region ?_
  refine WR.seg hE 1 [] [2, 7, 8, 9, 29] (Lo := [(2, .slice sb_l l.length sc_l), (7, .pointer (some ⟨p, 0, none⟩)), (8, .int .i64 (if 1 > (if 4 < boxes then 4 else boxes) then 1 else (if 4 < boxes then 4 else boxes))), (9, .int .i64 (if 1 > (if 4096 < room then 4096 else room) then 1 else (if 4096 < room then 4096 else room))), (29, .int .i64 (if 1 > (if 4 < boxes then 4 else boxes) then 1 else (if 4 < boxes then 4 else boxes)))]) (obs := []) rfl (by kernel_rfl) trivial fun a hE => ?_
  obtain ⟨l1, el1, hm⟩ := bind_some hm
  refine WR.eff hE rfl rfl rfl rfl (OpTo.makeX (T := 2) (T' := 69) (enc := encI) (sz := 1) el1 hE H rfl rfl rfl rfl rfl rfl rfl rfl) ?_
  rintro _ w ⟨r, rfl, H⟩ a hE
  refine WR.seg hE 3 [] [2, 7, 8, 9, 10] (Lo := [(2, .slice sb_l l.length sc_l), (7, .pointer (some ⟨p, 0, none⟩)), (8, .int .i64 (if 1 > (if 4 < boxes then 4 else boxes) then 1 else (if 4 < boxes then 4 else boxes))), (9, .int .i64 (if 1 > (if 4096 < room then 4096 else room) then 1 else (if 4096 < room then 4096 else room))), (10, .slice (some ⟨r, 0, none⟩) l1.length l1.length)]) (obs := []) rfl (by kernel_rfl) trivial fun a hE => ?_
  refine WR.done rfl ?_
  refine Runs.seq ?_
  refine Runs.seq ?_
  refine Runs.region ?_
  refine WR.seg hE 1 [] [2, 7, 8, 9, 10, 11] (Lo := [(2, .slice sb_l l.length sc_l), (7, .pointer (some ⟨p, 0, none⟩)), (8, .int .i64 (if 1 > (if 4 < boxes then 4 else boxes) then 1 else (if 4 < boxes then 4 else boxes))), (9, .int .i64 (if 1 > (if 4096 < room then 4096 else room) then 1 else (if 4096 < room then 4096 else room))), (10, .slice (some ⟨r, 0, none⟩) l1.length l1.length), (11, .int .i64 0)]) (obs := []) rfl (by kernel_rfl) trivial fun a hE => ?_
  refine WR.done rfl ?_
  obtain ⟨s, es, hR⟩ := bind_some hm
  refine Runs.join (fun a w => ∃ s1, s = Sum.inr s1 ∧ EnvOk 201 a [(7, .pointer (some ⟨p, 0, none⟩))] ∧ St w0 (mail_Desk_int64.R p al s1 :: X_l :: As) w) (fun hk => ?_) ?_
  · replace hm := es; clear es
    refine Runs.block ?_
    refine Runs.loop (fun m a w => ∃ (i : Int), ∃ (m_ : List (List Int)), ∃ (m_1 : mail_Desk_int64), EnvOk 201 a [(2, .slice sb_l l.length sc_l), (7, .pointer (some ⟨p, 0, none⟩)), (8, .int .i64 (if 1 > (if 4 < boxes then 4 else boxes) then 1 else (if 4 < boxes then 4 else boxes))), (9, .int .i64 (if 1 > (if 4096 < room then 4096 else room) then 1 else (if 4096 < room then 4096 else room))), (10, .slice (some ⟨r, 0, none⟩) m_.length l1.length), (11, .int .i64 i)] ∧ St w0 (SlX 69 encH (RS 2 encI 1) (some ⟨r, 0, none⟩) l1.length m_ :: mail_Desk_int64.R p al m_1 :: X_l :: As) w ∧ thicketlaw23_play_l0 (if 1 > (if 4 < boxes then 4 else boxes) then 1 else (if 4 < boxes then 4 else boxes)) (if 1 > (if 4096 < room then 4096 else room) then 1 else (if 4096 < room then 4096 else room)) l m i m_ m_1 = some s) k ⟨0, l1, t_, hE.sel [2, 7, 8, 9, 10, 11] (by kernel_rfl), H.t2.t2.t2, hm⟩ ?_
    rintro m ih a w ⟨i, m_, m_1, hE, H, hm⟩
    cases m with
    | zero => simp [thicketlaw23_play_l0] at hm
    | succ m =>
      rw [thicketlaw23_play_l0] at hm
      refine Runs.seq ?_
      refine Runs.seq ?_
      refine Runs.join (fun a w => EnvOk 201 a [(2, .slice sb_l l.length sc_l), (7, .pointer (some ⟨p, 0, none⟩)), (8, .int .i64 (if 1 > (if 4 < boxes then 4 else boxes) then 1 else (if 4 < boxes then 4 else boxes))), (9, .int .i64 (if 1 > (if 4096 < room then 4096 else room) then 1 else (if 4096 < room then 4096 else room))), (10, .slice (some ⟨r, 0, none⟩) m_.length l1.length), (11, .int .i64 i), (38, .bool ((decide (i < (l.length : Int))) && (decide (i < 100))))] ∧ St w0 (SlX 69 encH (RS 2 encI 1) (some ⟨r, 0, none⟩) l1.length m_ :: mail_Desk_int64.R p al m_1 :: X_l :: As) w) (fun hk => ?_) ?_
      · clear hm
        refine Runs.region ?_
        refine WR.seg hE 5 [] [2, 7, 8, 9, 10, 11, 35] (Lo := [(2, .slice sb_l l.length sc_l), (7, .pointer (some ⟨p, 0, none⟩)), (8, .int .i64 (if 1 > (if 4 < boxes then 4 else boxes) then 1 else (if 4 < boxes then 4 else boxes))), (9, .int .i64 (if 1 > (if 4096 < room then 4096 else room) then 1 else (if 4096 < room then 4096 else room))), (10, .slice (some ⟨r, 0, none⟩) m_.length l1.length), (11, .int .i64 i), (35, .bool (decide (i < (l.length : Int))))]) (obs := []) rfl (by kernel_rfl) trivial fun a hE => ?_
        rcases Bool.eq_false_or_eq_true (decide (i < (l.length : Int))) with c | c
        · replace hE := hE.dec 35 c (by kernel_rfl)
          have c_ := c
          refine WR.seg hE 8 [] [2, 7, 8, 9, 10, 11, 38] (Lo := [(2, .slice sb_l l.length sc_l), (7, .pointer (some ⟨p, 0, none⟩)), (8, .int .i64 (if 1 > (if 4 < boxes then 4 else boxes) then 1 else (if 4 < boxes then 4 else boxes))), (9, .int .i64 (if 1 > (if 4096 < room then 4096 else room) then 1 else (if 4096 < room then 4096 else room))), (10, .slice (some ⟨r, 0, none⟩) m_.length l1.length), (11, .int .i64 i), (38, .bool (decide (i < 100)))]) (obs := []) rfl (by kernel_rfl) trivial fun a hE => ?_
          refine WR.done rfl ?_
          refine hk _ _ ⟨?_, H.t2.t2.t2⟩
          try rw [c_] at hE
          try rw [c_]
          exact hE.sel [2, 7, 8, 9, 10, 11, 38] (by kernel_rfl)
        · replace hE := hE.dec 35 c (by kernel_rfl)
          have c_1 := c
          refine WR.seg hE 8 [] [2, 7, 8, 9, 10, 11, 38] (Lo := [(2, .slice sb_l l.length sc_l), (7, .pointer (some ⟨p, 0, none⟩)), (8, .int .i64 (if 1 > (if 4 < boxes then 4 else boxes) then 1 else (if 4 < boxes then 4 else boxes))), (9, .int .i64 (if 1 > (if 4096 < room then 4096 else room) then 1 else (if 4096 < room then 4096 else room))), (10, .slice (some ⟨r, 0, none⟩) m_.length l1.length), (11, .int .i64 i), (38, .bool false)]) (obs := []) rfl (by kernel_rfl) trivial fun a hE => ?_
          refine WR.done rfl ?_
          refine hk _ _ ⟨?_, H.t2.t2.t2⟩
          try rw [c_1] at hE
          try rw [c_1]
          exact hE.sel [2, 7, 8, 9, 10, 11, 38] (by kernel_rfl)
      rintro a w ⟨hE, H⟩
      refine Runs.cond hE rfl (fun c => ?_) (fun c => ?_)
      · replace hm := cond_t c hm
        refine Runs.skip ?_
        refine Runs.seq ?_
        obtain ⟨s2, es2, hR1⟩ := bind_some hm
        refine Runs.join (fun a w => ∃ s3, s2 = Sum.inr s3 ∧ EnvOk 201 a [(2, .slice sb_l l.length sc_l), (7, .pointer (some ⟨p, 0, none⟩)), (8, .int .i64 (if 1 > (if 4 < boxes then 4 else boxes) then 1 else (if 4 < boxes then 4 else boxes))), (9, .int .i64 (if 1 > (if 4096 < room then 4096 else room) then 1 else (if 4096 < room then 4096 else room))), (10, .slice (some ⟨r, 0, none⟩) s3.1.length l1.length), (11, .int .i64 i)] ∧ St w0 (SlX 69 encH (RS 2 encI 1) (some ⟨r, 0, none⟩) l1.length s3.1 :: mail_Desk_int64.R p al s3.2 :: X_l :: As) w) (fun hk => ?_) ?_
        · replace hm := es2; clear es2
          refine Runs.block ?_
          refine Runs.seq ?_
          refine Runs.seq ?_
          refine Runs.region ?_
          refine WR.seg hE 2 [] [2, 7, 8, 9, 10, 11, 42] (Lo := [(2, .slice sb_l l.length sc_l), (7, .pointer (some ⟨p, 0, none⟩)), (8, .int .i64 (if 1 > (if 4 < boxes then 4 else boxes) then 1 else (if 4 < boxes then 4 else boxes))), (9, .int .i64 (if 1 > (if 4096 < room then 4096 else room) then 1 else (if 4096 < room then 4096 else room))), (10, .slice (some ⟨r, 0, none⟩) m_.length l1.length), (11, .int .i64 i), (42, .bool false)]) (obs := []) rfl (by kernel_rfl) trivial fun a hE => ?_
          refine WR.done rfl ?_
          refine Runs.condF hE rfl ?_
          refine Runs.skip ?_
          refine Runs.seq ?_
          refine Runs.seq ?_
          refine Runs.region ?_
          obtain ⟨x, ex, hm⟩ := bind_some hm
          obtain ⟨b, o, hs, hb⟩ := SlRd.base hX_l thicketlaw23_Ask.enc_ok H 2 rfl ex
          refine WR.seg hE 5 [.pointer (some ⟨b, o, none⟩), .int .i64 x.Kind] [2, 7, 8, 9, 10, 11, 47] (Lo := [(2, .slice sb_l l.length sc_l), (7, .pointer (some ⟨p, 0, none⟩)), (8, .int .i64 (if 1 > (if 4 < boxes then 4 else boxes) then 1 else (if 4 < boxes then 4 else boxes))), (9, .int .i64 (if 1 > (if 4096 < room then 4096 else room) then 1 else (if 4096 < room then 4096 else room))), (10, .slice (some ⟨r, 0, none⟩) m_.length l1.length), (11, .int .i64 i), (47, .int .i64 x.Kind)]) (obs := [.p ((sb_l : Option Addr) = some ⟨b, o, none⟩), .p (0 ≤ (i : Int) ∧ (i : Int) < ((l.length : Nat) : Int)), .cell ⟨b, o + (Int.toNat i) * 3, none⟩ (.int .i64 x.Kind)]) rfl (by kernel_rfl) ⟨hs, hb, SlRd.cells hX_l thicketlaw23_Ask.enc_ok H 2 rfl hs ex 0 _ rfl, trivial⟩ fun a hE => ?_
          refine WR.done rfl ?_
          obtain ⟨s4, es4, hR2⟩ := bind_some hm
          refine Runs.join (fun a w => ∃ s5, s4 = Sum.inr s5 ∧ EnvOk 201 a [(2, .slice sb_l l.length sc_l), (7, .pointer (some ⟨p, 0, none⟩)), (8, .int .i64 (if 1 > (if 4 < boxes then 4 else boxes) then 1 else (if 4 < boxes then 4 else boxes))), (9, .int .i64 (if 1 > (if 4096 < room then 4096 else room) then 1 else (if 4096 < room then 4096 else room))), (10, .slice (some ⟨r, 0, none⟩) s5.1.length l1.length), (11, .int .i64 i)] ∧ St w0 (SlX 69 encH (RS 2 encI 1) (some ⟨r, 0, none⟩) l1.length s5.1 :: mail_Desk_int64.R p al s5.2 :: X_l :: As) w) (fun hk => ?_) ?_
          · replace hm := es4; clear es4
            refine Runs.block ?_
            refine Runs.seq ?_
            refine Runs.seq ?_
            refine Runs.region ?_
            refine WR.seg hE 2 [] [2, 7, 8, 9, 10, 11, 47, 95] (Lo := [(2, .slice sb_l l.length sc_l), (7, .pointer (some ⟨p, 0, none⟩)), (8, .int .i64 (if 1 > (if 4 < boxes then 4 else boxes) then 1 else (if 4 < boxes then 4 else boxes))), (9, .int .i64 (if 1 > (if 4096 < room then 4096 else room) then 1 else (if 4096 < room then 4096 else room))), (10, .slice (some ⟨r, 0, none⟩) m_.length l1.length), (11, .int .i64 i), (47, .int .i64 x.Kind), (95, .bool (x.Kind == 3))]) (obs := []) rfl (by kernel_rfl) trivial fun a hE => ?_
            refine WR.done rfl ?_
            obtain ⟨s6, es6, hm⟩ := bind_some hm
            refine Runs.join (fun a w => EnvOk 201 a [(2, .slice sb_l l.length sc_l), (7, .pointer (some ⟨p, 0, none⟩)), (8, .int .i64 (if 1 > (if 4 < boxes then 4 else boxes) then 1 else (if 4 < boxes then 4 else boxes))), (9, .int .i64 (if 1 > (if 4096 < room then 4096 else room) then 1 else (if 4096 < room then 4096 else room))), (10, .slice (some ⟨r, 0, none⟩) m_.length l1.length), (11, .int .i64 i), (95, .bool s6)] ∧ St w0 (SlX 69 encH (RS 2 encI 1) (some ⟨r, 0, none⟩) l1.length m_ :: mail_Desk_int64.R p al m_1 :: X_l :: As) w) (fun hk => ?_) ?_
            · replace hm := es6; clear es6
              refine Runs.cond hE rfl (fun c => ?_) (fun c => ?_)
              · replace hm := cond_t c hm
                refine Runs.skip ?_
                cases hm
                exact hk _ _ ⟨hE.sel [2, 7, 8, 9, 10, 11, 95] (by kernel_rfl), H.t2.t2.t2⟩
              · replace hm := cond_f c hm
                refine Runs.region ?_
                refine WR.seg hE 2 [] [2, 7, 8, 9, 10, 11, 95] (Lo := [(2, .slice sb_l l.length sc_l), (7, .pointer (some ⟨p, 0, none⟩)), (8, .int .i64 (if 1 > (if 4 < boxes then 4 else boxes) then 1 else (if 4 < boxes then 4 else boxes))), (9, .int .i64 (if 1 > (if 4096 < room then 4096 else room) then 1 else (if 4096 < room then 4096 else room))), (10, .slice (some ⟨r, 0, none⟩) m_.length l1.length), (11, .int .i64 i), (95, .bool (x.Kind == 4))]) (obs := []) rfl (by kernel_rfl) trivial fun a hE => ?_
                refine WR.done rfl ?_
                cases hm
                exact hk _ _ ⟨hE.sel [2, 7, 8, 9, 10, 11, 95] (by kernel_rfl), H.t2.t2.t2⟩
            rintro a w ⟨hE, H⟩
            refine Runs.cond hE rfl (fun c => ?_) (fun c => ?_)
            · replace hm := cond_t c hm
              refine Runs.seq ?_
              refine Runs.region ?_
              refine WR.seg hE 1 [] [2, 7, 8, 9, 10, 11, 99] (Lo := [(2, .slice sb_l l.length sc_l), (7, .pointer (some ⟨p, 0, none⟩)), (8, .int .i64 (if 1 > (if 4 < boxes then 4 else boxes) then 1 else (if 4 < boxes then 4 else boxes))), (9, .int .i64 (if 1 > (if 4096 < room then 4096 else room) then 1 else (if 4096 < room then 4096 else room))), (10, .slice (some ⟨r, 0, none⟩) m_.length l1.length), (11, .int .i64 i), (99, .pointer (some ⟨p, 0, none⟩))]) (obs := []) rfl (by kernel_rfl) trivial fun a hE => ?_
              obtain ⟨t_1, et_1, hm⟩ := bind_some hm
              refine WR.eff hE rfl rfl rfl rfl (OpTo.fn hE rfl rfl Try.call22 (mail_Desk_int64_Next_ok et_1 H.t1)) ?_
              rintro _ w ⟨rfl, H⟩ a hE
              refine WR.seg hE 9 [] [2, 7, 8, 9, 10, 11, 12, 13, 14] (Lo := [(2, .slice sb_l l.length sc_l), (7, .pointer (some ⟨p, 0, none⟩)), (8, .int .i64 (if 1 > (if 4 < boxes then 4 else boxes) then 1 else (if 4 < boxes then 4 else boxes))), (9, .int .i64 (if 1 > (if 4096 < room then 4096 else room) then 1 else (if 4096 < room then 4096 else room))), (10, .slice (some ⟨r, 0, none⟩) m_.length l1.length), (11, .int .i64 i), (12, .int .i64 t_1.1), (13, .int .i64 t_1.2.1), (14, .bool t_1.2.2.1)]) (obs := []) rfl (by kernel_rfl) trivial fun a hE => ?_
              refine WR.done rfl ?_
              refine Runs.seq ?_
              refine Runs.region ?_
              refine WR.seg hE 1 [] [2, 7, 8, 9, 10, 11, 12, 13, 14, 15] (Lo := [(2, .slice sb_l l.length sc_l), (7, .pointer (some ⟨p, 0, none⟩)), (8, .int .i64 (if 1 > (if 4 < boxes then 4 else boxes) then 1 else (if 4 < boxes then 4 else boxes))), (9, .int .i64 (if 1 > (if 4096 < room then 4096 else room) then 1 else (if 4096 < room then 4096 else room))), (10, .slice (some ⟨r, 0, none⟩) m_.length l1.length), (11, .int .i64 i), (12, .int .i64 t_1.1), (13, .int .i64 t_1.2.1), (14, .bool t_1.2.2.1), (15, .int .i64 0)]) (obs := []) rfl (by kernel_rfl) trivial fun a hE => ?_
              refine WR.done rfl ?_
              refine Runs.seq ?_
              obtain ⟨s7, es7, hm⟩ := bind_some hm
              refine Runs.join (fun a w => EnvOk 201 a [(2, .slice sb_l l.length sc_l), (7, .pointer (some ⟨p, 0, none⟩)), (8, .int .i64 (if 1 > (if 4 < boxes then 4 else boxes) then 1 else (if 4 < boxes then 4 else boxes))), (9, .int .i64 (if 1 > (if 4096 < room then 4096 else room) then 1 else (if 4096 < room then 4096 else room))), (10, .slice (some ⟨r, 0, none⟩) m_.length l1.length), (11, .int .i64 i), (12, .int .i64 t_1.1), (13, .int .i64 t_1.2.1), (14, .bool t_1.2.2.1), (15, .int .i64 s7)] ∧ St w0 (mail_Desk_int64.R p al t_1.2.2.2 :: SlX 69 encH (RS 2 encI 1) (some ⟨r, 0, none⟩) l1.length m_ :: X_l :: As) w) (fun hk => ?_) ?_
              · replace hm := es7; clear es7
                refine Runs.block ?_
                refine Runs.loop (fun m a w => ∃ (k_ : Int), EnvOk 201 a [(2, .slice sb_l l.length sc_l), (7, .pointer (some ⟨p, 0, none⟩)), (8, .int .i64 (if 1 > (if 4 < boxes then 4 else boxes) then 1 else (if 4 < boxes then 4 else boxes))), (9, .int .i64 (if 1 > (if 4096 < room then 4096 else room) then 1 else (if 4096 < room then 4096 else room))), (10, .slice (some ⟨r, 0, none⟩) m_.length l1.length), (11, .int .i64 i), (12, .int .i64 t_1.1), (13, .int .i64 t_1.2.1), (14, .bool t_1.2.2.1), (15, .int .i64 k_)] ∧ St w0 (mail_Desk_int64.R p al t_1.2.2.2 :: SlX 69 encH (RS 2 encI 1) (some ⟨r, 0, none⟩) l1.length m_ :: X_l :: As) w ∧ thicketlaw23_play_l1 (if 1 > (if 4 < boxes then 4 else boxes) then 1 else (if 4 < boxes then 4 else boxes)) (if 1 > (if 4096 < room then 4096 else room) then 1 else (if 4096 < room then 4096 else room)) i t_1.1 t_1.2.1 t_1.2.2.1 t_1.2.2.2 m_ l m k_ = some s7) m ⟨0, hE.sel [2, 7, 8, 9, 10, 11, 12, 13, 14, 15] (by kernel_rfl), H.t2.t2.t2, hm⟩ ?_
                rintro m ih a w ⟨k_, hE, H, hm⟩
                cases m with
                | zero => simp [thicketlaw23_play_l1] at hm
                | succ m =>
                  rw [thicketlaw23_play_l1] at hm
                  refine Runs.seq ?_
                  refine Runs.seq ?_
                  obtain ⟨s8, es8, hm⟩ := bind_some hm
                  refine Runs.join (fun a w => EnvOk 201 a [(2, .slice sb_l l.length sc_l), (7, .pointer (some ⟨p, 0, none⟩)), (8, .int .i64 (if 1 > (if 4 < boxes then 4 else boxes) then 1 else (if 4 < boxes then 4 else boxes))), (9, .int .i64 (if 1 > (if 4096 < room then 4096 else room) then 1 else (if 4096 < room then 4096 else room))), (10, .slice (some ⟨r, 0, none⟩) m_.length l1.length), (11, .int .i64 i), (12, .int .i64 t_1.1), (13, .int .i64 t_1.2.1), (14, .bool t_1.2.2.1), (15, .int .i64 k_), (114, .bool s8)] ∧ St w0 (mail_Desk_int64.R p al t_1.2.2.2 :: SlX 69 encH (RS 2 encI 1) (some ⟨r, 0, none⟩) l1.length m_ :: X_l :: As) w) (fun hk => ?_) ?_
                  · replace hm := es8; clear es8
                    refine Runs.region ?_
                    refine WR.seg hE 4 [] [2, 7, 8, 9, 10, 11, 12, 13, 14, 15, 107] (Lo := [(2, .slice sb_l l.length sc_l), (7, .pointer (some ⟨p, 0, none⟩)), (8, .int .i64 (if 1 > (if 4 < boxes then 4 else boxes) then 1 else (if 4 < boxes then 4 else boxes))), (9, .int .i64 (if 1 > (if 4096 < room then 4096 else room) then 1 else (if 4096 < room then 4096 else room))), (10, .slice (some ⟨r, 0, none⟩) m_.length l1.length), (11, .int .i64 i), (12, .int .i64 t_1.1), (13, .int .i64 t_1.2.1), (14, .bool t_1.2.2.1), (15, .int .i64 k_), (107, .bool (decide (k_ < (if 1 > (if 4 < boxes then 4 else boxes) then 1 else (if 4 < boxes then 4 else boxes)))))]) (obs := []) rfl (by kernel_rfl) trivial fun a hE => ?_
                    rcases Bool.eq_false_or_eq_true (decide (k_ < (if 1 > (if 4 < boxes then 4 else boxes) then 1 else (if 4 < boxes then 4 else boxes)))) with c | c
                    · replace hE := hE.dec 107 c (by kernel_rfl)
                      replace hm := cond_t c hm
                      have c_2 := c
                      obtain ⟨x2, ex2, hm⟩ := bind_some hm
                      obtain ⟨gs1, sb1, sc1, hgl1, hg1, H⟩ := St.sxTake H.t1 ex2
                      obtain ⟨b2, o2, hs2, hb2⟩ := SlRd.base (sl_rd 69 encH 1 _ _ _) encH_ok H 1 rfl hg1
                      refine WR.seg hE 11 [.pointer (some ⟨b2, o2, none⟩), .slice sb1 x2.length sc1] [2, 7, 8, 9, 10, 11, 12, 13, 14, 15, 114] (Lo := [(2, .slice sb_l l.length sc_l), (7, .pointer (some ⟨p, 0, none⟩)), (8, .int .i64 (if 1 > (if 4 < boxes then 4 else boxes) then 1 else (if 4 < boxes then 4 else boxes))), (9, .int .i64 (if 1 > (if 4096 < room then 4096 else room) then 1 else (if 4096 < room then 4096 else room))), (10, .slice (some ⟨r, 0, none⟩) m_.length l1.length), (11, .int .i64 i), (12, .int .i64 t_1.1), (13, .int .i64 t_1.2.1), (14, .bool t_1.2.2.1), (15, .int .i64 k_), (114, .bool ((x2.length : Int) == 0))]) (obs := [.p (((some ⟨r, 0, none⟩) : Option Addr) = some ⟨b2, o2, none⟩), .p (0 ≤ (k_ : Int) ∧ (k_ : Int) < ((m_.length : Nat) : Int)), .cell ⟨b2, o2 + (Int.toNat k_) * 1, none⟩ (.slice sb1 x2.length sc1)]) rfl (by kernel_rfl) ⟨hs2, (by have h_ := hb2; rw [hgl1] at h_; exact h_), SlRd.cells (sl_rd 69 encH 1 _ _ _) encH_ok H 1 rfl hs2 hg1 0 _ rfl, trivial⟩ fun a hE => ?_
                      refine WR.done rfl ?_
                      replace H := St.sxPut0 H.t2.t2.t2 ex2 hgl1 hg1
                      cases hm
                      exact hk _ _ ⟨hE.sel [2, 7, 8, 9, 10, 11, 12, 13, 14, 15, 114] (by kernel_rfl), H.t2.t1.t2⟩
                    · replace hE := hE.dec 107 c (by kernel_rfl)
                      replace hm := cond_f c hm
                      have c_3 := c
                      refine WR.seg hE 11 [] [2, 7, 8, 9, 10, 11, 12, 13, 14, 15, 114] (Lo := [(2, .slice sb_l l.length sc_l), (7, .pointer (some ⟨p, 0, none⟩)), (8, .int .i64 (if 1 > (if 4 < boxes then 4 else boxes) then 1 else (if 4 < boxes then 4 else boxes))), (9, .int .i64 (if 1 > (if 4096 < room then 4096 else room) then 1 else (if 4096 < room then 4096 else room))), (10, .slice (some ⟨r, 0, none⟩) m_.length l1.length), (11, .int .i64 i), (12, .int .i64 t_1.1), (13, .int .i64 t_1.2.1), (14, .bool t_1.2.2.1), (15, .int .i64 k_), (114, .bool false)]) (obs := []) rfl (by kernel_rfl) trivial fun a hE => ?_
                      refine WR.done rfl ?_
                      cases hm
                      exact hk _ _ ⟨hE.sel [2, 7, 8, 9, 10, 11, 12, 13, 14, 15, 114] (by kernel_rfl), H.t2.t2.t2⟩
                  rintro a w ⟨hE, H⟩
                  refine Runs.cond hE rfl (fun c => ?_) (fun c => ?_)
                  · replace hm := cond_t c hm
                    refine Runs.skip ?_
                    refine Runs.block ?_
                    refine Runs.region ?_
                    refine WR.seg hE 3 [] [2, 7, 8, 9, 10, 11, 12, 13, 14, 15] (Lo := [(2, .slice sb_l l.length sc_l), (7, .pointer (some ⟨p, 0, none⟩)), (8, .int .i64 (if 1 > (if 4 < boxes then 4 else boxes) then 1 else (if 4 < boxes then 4 else boxes))), (9, .int .i64 (if 1 > (if 4096 < room then 4096 else room) then 1 else (if 4096 < room then 4096 else room))), (10, .slice (some ⟨r, 0, none⟩) m_.length l1.length), (11, .int .i64 i), (12, .int .i64 t_1.1), (13, .int .i64 t_1.2.1), (14, .bool t_1.2.2.1), (15, .int .i64 (w64 (k_ + 1)))]) (obs := []) rfl (by kernel_rfl) trivial fun a hE => ?_
                    refine WR.done rfl ?_
                    refine Runs.inBlock ?_
                    exact ih m (Nat.lt_succ_self m) _ _ ⟨w64 (k_ + 1), hE.sel [2, 7, 8, 9, 10, 11, 12, 13, 14, 15] (by kernel_rfl), H.t2.t2.t2, hm⟩
                  · replace hm := cond_f c hm
                    refine Runs.exit rfl ?_
                    cases hm
                    exact hk _ _ ⟨hE.sel [2, 7, 8, 9, 10, 11, 12, 13, 14, 15] (by kernel_rfl), H.t2.t2.t2⟩
              rintro a w ⟨hE, H⟩
              refine Runs.seq ?_
              refine Runs.seq ?_
              obtain ⟨s9, es9, hm⟩ := bind_some hm
              refine Runs.join (fun a w => EnvOk 201 a [(2, .slice sb_l l.length sc_l), (7, .pointer (some ⟨p, 0, none⟩)), (8, .int .i64 (if 1 > (if 4 < boxes then 4 else boxes) then 1 else (if 4 < boxes then 4 else boxes))), (9, .int .i64 (if 1 > (if 4096 < room then 4096 else room) then 1 else (if 4096 < room then 4096 else room))), (10, .slice (some ⟨r, 0, none⟩) m_.length l1.length), (11, .int .i64 i), (14, .bool t_1.2.2.1), (15, .int .i64 s7), (151, .bool s9)] ∧ St w0 (mail_Desk_int64.R p al t_1.2.2.2 :: SlX 69 encH (RS 2 encI 1) (some ⟨r, 0, none⟩) l1.length m_ :: X_l :: As) w) (fun hk => ?_) ?_
              · replace hm := es9; clear es9
                refine Runs.region ?_
                refine WR.seg hE 6 [] [2, 7, 8, 9, 10, 11, 12, 13, 14, 15, 122] (Lo := [(2, .slice sb_l l.length sc_l), (7, .pointer (some ⟨p, 0, none⟩)), (8, .int .i64 (if 1 > (if 4 < boxes then 4 else boxes) then 1 else (if 4 < boxes then 4 else boxes))), (9, .int .i64 (if 1 > (if 4096 < room then 4096 else room) then 1 else (if 4096 < room then 4096 else room))), (10, .slice (some ⟨r, 0, none⟩) m_.length l1.length), (11, .int .i64 i), (12, .int .i64 t_1.1), (13, .int .i64 t_1.2.1), (14, .bool t_1.2.2.1), (15, .int .i64 s7), (122, .bool (!(t_1.2.2.1 == (decide (s7 < (if 1 > (if 4 < boxes then 4 else boxes) then 1 else (if 4 < boxes then 4 else boxes)))))))]) (obs := []) rfl (by kernel_rfl) trivial fun a hE => ?_
                rcases Bool.eq_false_or_eq_true (!(t_1.2.2.1 == (decide (s7 < (if 1 > (if 4 < boxes then 4 else boxes) then 1 else (if 4 < boxes then 4 else boxes)))))) with c | c
                · replace hE := hE.dec 122 c (by kernel_rfl)
                  replace hm := cond_t c hm
                  have c_4 := c
                  refine WR.seg hE 35 [] [2, 7, 8, 9, 10, 11, 14, 15, 151] (Lo := [(2, .slice sb_l l.length sc_l), (7, .pointer (some ⟨p, 0, none⟩)), (8, .int .i64 (if 1 > (if 4 < boxes then 4 else boxes) then 1 else (if 4 < boxes then 4 else boxes))), (9, .int .i64 (if 1 > (if 4096 < room then 4096 else room) then 1 else (if 4096 < room then 4096 else room))), (10, .slice (some ⟨r, 0, none⟩) m_.length l1.length), (11, .int .i64 i), (14, .bool t_1.2.2.1), (15, .int .i64 s7), (151, .bool true)]) (obs := []) rfl (by kernel_rfl) trivial fun a hE => ?_
                  refine WR.done rfl ?_
                  cases hm
                  exact hk _ _ ⟨hE.sel [2, 7, 8, 9, 10, 11, 14, 15, 151] (by kernel_rfl), H.t2.t2.t2⟩
                · replace hE := hE.dec 122 c (by kernel_rfl)
                  replace hm := cond_f c hm
                  have c_5 := c
                  refine WR.seg hE 9 [] [2, 7, 8, 9, 10, 11, 12, 13, 14, 15, 122, 125] (Lo := [(2, .slice sb_l l.length sc_l), (7, .pointer (some ⟨p, 0, none⟩)), (8, .int .i64 (if 1 > (if 4 < boxes then 4 else boxes) then 1 else (if 4 < boxes then 4 else boxes))), (9, .int .i64 (if 1 > (if 4096 < room then 4096 else room) then 1 else (if 4096 < room then 4096 else room))), (10, .slice (some ⟨r, 0, none⟩) m_.length l1.length), (11, .int .i64 i), (12, .int .i64 t_1.1), (13, .int .i64 t_1.2.1), (14, .bool t_1.2.2.1), (15, .int .i64 s7), (122, .bool false), (125, .bool (!t_1.2.2.1))]) (obs := []) rfl (by kernel_rfl) trivial fun a hE => ?_
                  rcases Bool.eq_false_or_eq_true (!t_1.2.2.1) with c | c
                  · replace hE := hE.dec 125 c (by kernel_rfl)
                    replace hm := cond_t c hm
                    have c_6 := c
                    refine WR.seg hE 12 [] [2, 7, 8, 9, 10, 11, 12, 13, 14, 15, 122, 125, 128] (Lo := [(2, .slice sb_l l.length sc_l), (7, .pointer (some ⟨p, 0, none⟩)), (8, .int .i64 (if 1 > (if 4 < boxes then 4 else boxes) then 1 else (if 4 < boxes then 4 else boxes))), (9, .int .i64 (if 1 > (if 4096 < room then 4096 else room) then 1 else (if 4096 < room then 4096 else room))), (10, .slice (some ⟨r, 0, none⟩) m_.length l1.length), (11, .int .i64 i), (12, .int .i64 t_1.1), (13, .int .i64 t_1.2.1), (14, .bool t_1.2.2.1), (15, .int .i64 s7), (122, .bool false), (125, .bool true), (128, .bool (t_1.1 != 0))]) (obs := []) rfl (by kernel_rfl) trivial fun a hE => ?_
                    rcases Bool.eq_false_or_eq_true (t_1.1 != 0) with c | c
                    · replace hE := hE.dec 128 c (by kernel_rfl)
                      replace hm := cond_t c hm
                      have c_7 := c
                      refine WR.seg hE 35 [] [2, 7, 8, 9, 10, 11, 14, 15, 151] (Lo := [(2, .slice sb_l l.length sc_l), (7, .pointer (some ⟨p, 0, none⟩)), (8, .int .i64 (if 1 > (if 4 < boxes then 4 else boxes) then 1 else (if 4 < boxes then 4 else boxes))), (9, .int .i64 (if 1 > (if 4096 < room then 4096 else room) then 1 else (if 4096 < room then 4096 else room))), (10, .slice (some ⟨r, 0, none⟩) m_.length l1.length), (11, .int .i64 i), (14, .bool t_1.2.2.1), (15, .int .i64 s7), (151, .bool true)]) (obs := []) rfl (by kernel_rfl) trivial fun a hE => ?_
                      refine WR.done rfl ?_
                      cases hm
                      exact hk _ _ ⟨hE.sel [2, 7, 8, 9, 10, 11, 14, 15, 151] (by kernel_rfl), H.t2.t2.t2⟩
                    · replace hE := hE.dec 128 c (by kernel_rfl)
                      replace hm := cond_f c hm
                      have c_8 := c
                      refine WR.seg hE 18 [] [2, 7, 8, 9, 10, 11, 12, 13, 14, 15, 134] (Lo := [(2, .slice sb_l l.length sc_l), (7, .pointer (some ⟨p, 0, none⟩)), (8, .int .i64 (if 1 > (if 4 < boxes then 4 else boxes) then 1 else (if 4 < boxes then 4 else boxes))), (9, .int .i64 (if 1 > (if 4096 < room then 4096 else room) then 1 else (if 4096 < room then 4096 else room))), (10, .slice (some ⟨r, 0, none⟩) m_.length l1.length), (11, .int .i64 i), (12, .int .i64 t_1.1), (13, .int .i64 t_1.2.1), (14, .bool t_1.2.2.1), (15, .int .i64 s7), (134, .bool (t_1.2.1 != 0))]) (obs := []) rfl (by kernel_rfl) trivial fun a hE => ?_
                      rcases Bool.eq_false_or_eq_true (t_1.2.1 != 0) with c | c
                      · replace hE := hE.dec 134 c (by kernel_rfl)
                        replace hm := cond_t c hm
                        have c_9 := c
                        refine WR.seg hE 35 [] [2, 7, 8, 9, 10, 11, 14, 15, 151] (Lo := [(2, .slice sb_l l.length sc_l), (7, .pointer (some ⟨p, 0, none⟩)), (8, .int .i64 (if 1 > (if 4 < boxes then 4 else boxes) then 1 else (if 4 < boxes then 4 else boxes))), (9, .int .i64 (if 1 > (if 4096 < room then 4096 else room) then 1 else (if 4096 < room then 4096 else room))), (10, .slice (some ⟨r, 0, none⟩) m_.length l1.length), (11, .int .i64 i), (14, .bool t_1.2.2.1), (15, .int .i64 s7), (151, .bool true)]) (obs := []) rfl (by kernel_rfl) trivial fun a hE => ?_
                        refine WR.done rfl ?_
                        cases hm
                        exact hk _ _ ⟨hE.sel [2, 7, 8, 9, 10, 11, 14, 15, 151] (by kernel_rfl), H.t2.t2.t2⟩
                      · replace hE := hE.dec 134 c (by kernel_rfl)
                        replace hm := cond_f c hm
                        have c_10 := c
                        refine WR.seg hE 20 [] [2, 7, 8, 9, 10, 11, 12, 13, 14, 15, 134, 136] (Lo := [(2, .slice sb_l l.length sc_l), (7, .pointer (some ⟨p, 0, none⟩)), (8, .int .i64 (if 1 > (if 4 < boxes then 4 else boxes) then 1 else (if 4 < boxes then 4 else boxes))), (9, .int .i64 (if 1 > (if 4096 < room then 4096 else room) then 1 else (if 4096 < room then 4096 else room))), (10, .slice (some ⟨r, 0, none⟩) m_.length l1.length), (11, .int .i64 i), (12, .int .i64 t_1.1), (13, .int .i64 t_1.2.1), (14, .bool t_1.2.2.1), (15, .int .i64 s7), (134, .bool false), (136, .bool t_1.2.2.1)]) (obs := []) rfl (by kernel_rfl) trivial fun a hE => ?_
                        rcases Bool.eq_false_or_eq_true t_1.2.2.1 with c | c
                        · replace hE := hE.dec 136 c (by kernel_rfl)
                          replace hm := cond_t c hm
                          have c_11 := c
                          refine WR.seg hE 24 [] [2, 7, 8, 9, 10, 11, 12, 14, 15, 134, 136, 140] (Lo := [(2, .slice sb_l l.length sc_l), (7, .pointer (some ⟨p, 0, none⟩)), (8, .int .i64 (if 1 > (if 4 < boxes then 4 else boxes) then 1 else (if 4 < boxes then 4 else boxes))), (9, .int .i64 (if 1 > (if 4096 < room then 4096 else room) then 1 else (if 4096 < room then 4096 else room))), (10, .slice (some ⟨r, 0, none⟩) m_.length l1.length), (11, .int .i64 i), (12, .int .i64 t_1.1), (14, .bool t_1.2.2.1), (15, .int .i64 s7), (134, .bool false), (136, .bool true), (140, .bool (t_1.2.1 != s7))]) (obs := []) rfl (by kernel_rfl) trivial fun a hE => ?_
                          rcases Bool.eq_false_or_eq_true (t_1.2.1 != s7) with c | c
                          · replace hE := hE.dec 140 c (by kernel_rfl)
                            replace hm := cond_t c hm
                            have c_12 := c
                            refine WR.seg hE 35 [] [2, 7, 8, 9, 10, 11, 14, 15, 151] (Lo := [(2, .slice sb_l l.length sc_l), (7, .pointer (some ⟨p, 0, none⟩)), (8, .int .i64 (if 1 > (if 4 < boxes then 4 else boxes) then 1 else (if 4 < boxes then 4 else boxes))), (9, .int .i64 (if 1 > (if 4096 < room then 4096 else room) then 1 else (if 4096 < room then 4096 else room))), (10, .slice (some ⟨r, 0, none⟩) m_.length l1.length), (11, .int .i64 i), (14, .bool t_1.2.2.1), (15, .int .i64 s7), (151, .bool true)]) (obs := []) rfl (by kernel_rfl) trivial fun a hE => ?_
                            refine WR.done rfl ?_
                            cases hm
                            exact hk _ _ ⟨hE.sel [2, 7, 8, 9, 10, 11, 14, 15, 151] (by kernel_rfl), H.t2.t2.t2⟩
                          · replace hE := hE.dec 140 c (by kernel_rfl)
                            replace hm := cond_f c hm
                            have c_13 := c
                            obtain ⟨x4, ex4, hm⟩ := bind_some hm
                            obtain ⟨gs3, sb3, sc3, hgl3, hg3, H⟩ := St.sxTake H.t1 ex4
                            obtain ⟨b4, o4, hs4, hb4⟩ := SlRd.base (sl_rd 69 encH 1 _ _ _) encH_ok H 1 rfl hg3
                            obtain ⟨x5, ex5, hm⟩ := bind_some hm
                            obtain ⟨b5, o5, hs5, hb5⟩ := SlRd.base (sl_rd 2 encI 1 _ _ _) encI_ok H 0 rfl ex5
                            refine WR.seg hE 35 [.pointer (some ⟨b4, o4, none⟩), .slice sb3 x4.length sc3, .pointer (some ⟨b5, o5, none⟩), .int .i64 x5] [2, 7, 8, 9, 10, 11, 14, 15, 151] (Lo := [(2, .slice sb_l l.length sc_l), (7, .pointer (some ⟨p, 0, none⟩)), (8, .int .i64 (if 1 > (if 4 < boxes then 4 else boxes) then 1 else (if 4 < boxes then 4 else boxes))), (9, .int .i64 (if 1 > (if 4096 < room then 4096 else room) then 1 else (if 4096 < room then 4096 else room))), (10, .slice (some ⟨r, 0, none⟩) m_.length l1.length), (11, .int .i64 i), (14, .bool t_1.2.2.1), (15, .int .i64 s7), (151, .bool (t_1.1 != x5))]) (obs := [.p (((some ⟨r, 0, none⟩) : Option Addr) = some ⟨b4, o4, none⟩), .p (0 ≤ (s7 : Int) ∧ (s7 : Int) < ((m_.length : Nat) : Int)), .cell ⟨b4, o4 + (Int.toNat s7) * 1, none⟩ (.slice sb3 x4.length sc3), .p ((sb3 : Option Addr) = some ⟨b5, o5, none⟩), .p (0 ≤ (0 : Int) ∧ (0 : Int) < ((x4.length : Nat) : Int)), .cell ⟨b5, o5 + (Int.toNat 0) * 1, none⟩ (.int .i64 x5)]) rfl (by kernel_rfl) ⟨hs4, (by have h_ := hb4; rw [hgl3] at h_; exact h_), SlRd.cells (sl_rd 69 encH 1 _ _ _) encH_ok H 1 rfl hs4 hg3 0 _ rfl, hs5, hb5, SlRd.cells (sl_rd 2 encI 1 _ _ _) encI_ok H 0 rfl hs5 ex5 0 _ rfl, trivial⟩ fun a hE => ?_
                            refine WR.done rfl ?_
                            replace H := St.sxPut0 H.t2.t2.t2 ex4 hgl3 hg3
                            cases hm
                            exact hk _ _ ⟨hE.sel [2, 7, 8, 9, 10, 11, 14, 15, 151] (by kernel_rfl), H.t2.t1.t2⟩
                        · replace hE := hE.dec 136 c (by kernel_rfl)
                          replace hm := cond_f c hm
                          have c_14 := c
                          refine WR.seg hE 35 [] [2, 7, 8, 9, 10, 11, 14, 15, 151] (Lo := [(2, .slice sb_l l.length sc_l), (7, .pointer (some ⟨p, 0, none⟩)), (8, .int .i64 (if 1 > (if 4 < boxes then 4 else boxes) then 1 else (if 4 < boxes then 4 else boxes))), (9, .int .i64 (if 1 > (if 4096 < room then 4096 else room) then 1 else (if 4096 < room then 4096 else room))), (10, .slice (some ⟨r, 0, none⟩) m_.length l1.length), (11, .int .i64 i), (14, .bool t_1.2.2.1), (15, .int .i64 s7), (151, .bool false)]) (obs := []) rfl (by kernel_rfl) trivial fun a hE => ?_
                          refine WR.done rfl ?_
                          cases hm
                          exact hk _ _ ⟨hE.sel [2, 7, 8, 9, 10, 11, 14, 15, 151] (by kernel_rfl), H.t2.t2.t2⟩
                  · replace hE := hE.dec 125 c (by kernel_rfl)
                    replace hm := cond_f c hm
                    have c_15 := c
                    refine WR.seg hE 20 [] [2, 7, 8, 9, 10, 11, 12, 13, 14, 15, 134, 136] (Lo := [(2, .slice sb_l l.length sc_l), (7, .pointer (some ⟨p, 0, none⟩)), (8, .int .i64 (if 1 > (if 4 < boxes then 4 else boxes) then 1 else (if 4 < boxes then 4 else boxes))), (9, .int .i64 (if 1 > (if 4096 < room then 4096 else room) then 1 else (if 4096 < room then 4096 else room))), (10, .slice (some ⟨r, 0, none⟩) m_.length l1.length), (11, .int .i64 i), (12, .int .i64 t_1.1), (13, .int .i64 t_1.2.1), (14, .bool t_1.2.2.1), (15, .int .i64 s7), (134, .bool false), (136, .bool t_1.2.2.1)]) (obs := []) rfl (by kernel_rfl) trivial fun a hE => ?_
                    rcases Bool.eq_false_or_eq_true t_1.2.2.1 with c | c
                    · replace hE := hE.dec 136 c (by kernel_rfl)
                      replace hm := cond_t c hm
                      have c_16 := c
                      refine WR.seg hE 24 [] [2, 7, 8, 9, 10, 11, 12, 14, 15, 134, 136, 140] (Lo := [(2, .slice sb_l l.length sc_l), (7, .pointer (some ⟨p, 0, none⟩)), (8, .int .i64 (if 1 > (if 4 < boxes then 4 else boxes) then 1 else (if 4 < boxes then 4 else boxes))), (9, .int .i64 (if 1 > (if 4096 < room then 4096 else room) then 1 else (if 4096 < room then 4096 else room))), (10, .slice (some ⟨r, 0, none⟩) m_.length l1.length), (11, .int .i64 i), (12, .int .i64 t_1.1), (14, .bool t_1.2.2.1), (15, .int .i64 s7), (134, .bool false), (136, .bool true), (140, .bool (t_1.2.1 != s7))]) (obs := []) rfl (by kernel_rfl) trivial fun a hE => ?_
                      rcases Bool.eq_false_or_eq_true (t_1.2.1 != s7) with c | c
                      · replace hE := hE.dec 140 c (by kernel_rfl)
                        replace hm := cond_t c hm
                        have c_17 := c
                        refine WR.seg hE 35 [] [2, 7, 8, 9, 10, 11, 14, 15, 151] (Lo := [(2, .slice sb_l l.length sc_l), (7, .pointer (some ⟨p, 0, none⟩)), (8, .int .i64 (if 1 > (if 4 < boxes then 4 else boxes) then 1 else (if 4 < boxes then 4 else boxes))), (9, .int .i64 (if 1 > (if 4096 < room then 4096 else room) then 1 else (if 4096 < room then 4096 else room))), (10, .slice (some ⟨r, 0, none⟩) m_.length l1.length), (11, .int .i64 i), (14, .bool t_1.2.2.1), (15, .int .i64 s7), (151, .bool true)]) (obs := []) rfl (by kernel_rfl) trivial fun a hE => ?_
                        refine WR.done rfl ?_
                        cases hm
                        exact hk _ _ ⟨hE.sel [2, 7, 8, 9, 10, 11, 14, 15, 151] (by kernel_rfl), H.t2.t2.t2⟩
                      · replace hE := hE.dec 140 c (by kernel_rfl)
                        replace hm := cond_f c hm
                        have c_18 := c
                        obtain ⟨x6, ex6, hm⟩ := bind_some hm
                        obtain ⟨gs4, sb4, sc4, hgl4, hg4, H⟩ := St.sxTake H.t1 ex6
                        obtain ⟨b6, o6, hs6, hb6⟩ := SlRd.base (sl_rd 69 encH 1 _ _ _) encH_ok H 1 rfl hg4
                        obtain ⟨x7, ex7, hm⟩ := bind_some hm
                        obtain ⟨b7, o7, hs7, hb7⟩ := SlRd.base (sl_rd 2 encI 1 _ _ _) encI_ok H 0 rfl ex7
                        refine WR.seg hE 35 [.pointer (some ⟨b6, o6, none⟩), .slice sb4 x6.length sc4, .pointer (some ⟨b7, o7, none⟩), .int .i64 x7] [2, 7, 8, 9, 10, 11, 14, 15, 151] (Lo := [(2, .slice sb_l l.length sc_l), (7, .pointer (some ⟨p, 0, none⟩)), (8, .int .i64 (if 1 > (if 4 < boxes then 4 else boxes) then 1 else (if 4 < boxes then 4 else boxes))), (9, .int .i64 (if 1 > (if 4096 < room then 4096 else room) then 1 else (if 4096 < room then 4096 else room))), (10, .slice (some ⟨r, 0, none⟩) m_.length l1.length), (11, .int .i64 i), (14, .bool t_1.2.2.1), (15, .int .i64 s7), (151, .bool (t_1.1 != x7))]) (obs := [.p (((some ⟨r, 0, none⟩) : Option Addr) = some ⟨b6, o6, none⟩), .p (0 ≤ (s7 : Int) ∧ (s7 : Int) < ((m_.length : Nat) : Int)), .cell ⟨b6, o6 + (Int.toNat s7) * 1, none⟩ (.slice sb4 x6.length sc4), .p ((sb4 : Option Addr) = some ⟨b7, o7, none⟩), .p (0 ≤ (0 : Int) ∧ (0 : Int) < ((x6.length : Nat) : Int)), .cell ⟨b7, o7 + (Int.toNat 0) * 1, none⟩ (.int .i64 x7)]) rfl (by kernel_rfl) ⟨hs6, (by have h_ := hb6; rw [hgl4] at h_; exact h_), SlRd.cells (sl_rd 69 encH 1 _ _ _) encH_ok H 1 rfl hs6 hg4 0 _ rfl, hs7, hb7, SlRd.cells (sl_rd 2 encI 1 _ _ _) encI_ok H 0 rfl hs7 ex7 0 _ rfl, trivial⟩ fun a hE => ?_
                        refine WR.done rfl ?_
                        replace H := St.sxPut0 H.t2.t2.t2 ex6 hgl4 hg4
                        cases hm
                        exact hk _ _ ⟨hE.sel [2, 7, 8, 9, 10, 11, 14, 15, 151] (by kernel_rfl), H.t2.t1.t2⟩
                    · replace hE := hE.dec 136 c (by kernel_rfl)
                      replace hm := cond_f c hm
                      have c_19 := c
                      refine WR.seg hE 35 [] [2, 7, 8, 9, 10, 11, 14, 15, 151] (Lo := [(2, .slice sb_l l.length sc_l), (7, .pointer (some ⟨p, 0, none⟩)), (8, .int .i64 (if 1 > (if 4 < boxes then 4 else boxes) then 1 else (if 4 < boxes then 4 else boxes))), (9, .int .i64 (if 1 > (if 4096 < room then 4096 else room) then 1 else (if 4096 < room then 4096 else room))), (10, .slice (some ⟨r, 0, none⟩) m_.length l1.length), (11, .int .i64 i), (14, .bool t_1.2.2.1), (15, .int .i64 s7), (151, .bool false)]) (obs := []) rfl (by kernel_rfl) trivial fun a hE => ?_
                      refine WR.done rfl ?_
                      cases hm
                      exact hk _ _ ⟨hE.sel [2, 7, 8, 9, 10, 11, 14, 15, 151] (by kernel_rfl), H.t2.t2.t2⟩
              rintro a w ⟨hE, H⟩
              refine Runs.cond hE rfl (fun c => ?_) (fun c => ?_)
              · replace hm := cond_t c hm
                refine Runs.seq ?_
                refine Runs.region ?_
                refine WR.seg hE 1 [] [6] (Lo := [(6, .bool false)]) (obs := []) rfl (by kernel_rfl) trivial fun a hE => ?_
                refine WR.done rfl ?_
                refine Runs.ret hE Try.func19 rfl rfl ?_
                cases hm
                dsimp only at hR2; cases hR2
                dsimp only at hR1; cases hR1
                dsimp only at hR; cases hR
                exact ⟨rfl, H.x1.x0⟩
              · replace hm := cond_f c hm
                refine Runs.skip ?_
                refine Runs.seq ?_
                refine Runs.region ?_
                refine WR.seg hE 1 [] [2, 7, 8, 9, 10, 11, 15, 152] (Lo := [(2, .slice sb_l l.length sc_l), (7, .pointer (some ⟨p, 0, none⟩)), (8, .int .i64 (if 1 > (if 4 < boxes then 4 else boxes) then 1 else (if 4 < boxes then 4 else boxes))), (9, .int .i64 (if 1 > (if 4096 < room then 4096 else room) then 1 else (if 4096 < room then 4096 else room))), (10, .slice (some ⟨r, 0, none⟩) m_.length l1.length), (11, .int .i64 i), (15, .int .i64 s7), (152, .bool t_1.2.2.1)]) (obs := []) rfl (by kernel_rfl) trivial fun a hE => ?_
                refine WR.done rfl ?_
                refine Runs.cond hE rfl (fun c => ?_) (fun c => ?_)
                · replace hm := cond_t c hm
                  refine Runs.region ?_
                  refine WR.seg hE 2 [] [2, 7, 8, 9, 10, 11, 15, 153, 154] (Lo := [(2, .slice sb_l l.length sc_l), (7, .pointer (some ⟨p, 0, none⟩)), (8, .int .i64 (if 1 > (if 4 < boxes then 4 else boxes) then 1 else (if 4 < boxes then 4 else boxes))), (9, .int .i64 (if 1 > (if 4096 < room then 4096 else room) then 1 else (if 4096 < room then 4096 else room))), (10, .slice (some ⟨r, 0, none⟩) m_.length l1.length), (11, .int .i64 i), (15, .int .i64 s7), (153, .slice (some ⟨r, 0, none⟩) m_.length l1.length), (154, .int .i64 s7)]) (obs := []) rfl (by kernel_rfl) trivial fun a hE => ?_
                  refine WR.eff hE rfl rfl rfl rfl (OpTo.buildSl (T := 2) hE H encI_ok ([] : List Int) rfl (fun _ => by kernel_rfl) rfl rfl rfl) ?_
                  rintro _ w ⟨r1, rfl, H⟩ a hE
                  obtain ⟨x8, ex8, hm⟩ := bind_some hm
                  obtain ⟨gs5, sb5, sc5, hgl5, hg5, H⟩ := St.sxTake H.t2 ex8
                  obtain ⟨b8, o8, hs8, hb8⟩ := SlRd.base (sl_rd 69 encH 1 _ _ _) encH_ok H 1 rfl hg5
                  obtain ⟨l5, el5, hm⟩ := bind_some hm
                  obtain ⟨sb6, q⟩ : ∃ z, rebase sb5 sc5 (Int.toNat 1) 1 = z := ⟨_, rfl⟩
                  obtain ⟨sc6, q1⟩ : ∃ z, sc5 - (Int.toNat 1) = z := ⟨_, rfl⟩
                  refine WR.seg hE 8 [.pointer (some ⟨b8, o8, none⟩), .slice sb5 x8.length sc5, .slice sb6 l5.length sc6] [2, 7, 8, 9, 10, 11, 153, 154, 155, 160] (Lo := [(2, .slice sb_l l.length sc_l), (7, .pointer (some ⟨p, 0, none⟩)), (8, .int .i64 (if 1 > (if 4 < boxes then 4 else boxes) then 1 else (if 4 < boxes then 4 else boxes))), (9, .int .i64 (if 1 > (if 4096 < room then 4096 else room) then 1 else (if 4096 < room then 4096 else room))), (10, .slice (some ⟨r, 0, none⟩) m_.length l1.length), (11, .int .i64 i), (153, .slice (some ⟨r, 0, none⟩) m_.length l1.length), (154, .int .i64 s7), (155, .slice (some ⟨r1, 0, none⟩) (([] : List Int).length) 0), (160, .slice sb6 l5.length sc6)]) (obs := [.p (((some ⟨r, 0, none⟩) : Option Addr) = some ⟨b8, o8, none⟩), .p (0 ≤ (s7 : Int) ∧ (s7 : Int) < ((m_.length : Nat) : Int)), .cell ⟨b8, o8 + (Int.toNat s7) * 1, none⟩ (.slice sb5 x8.length sc5), .p (rebase sb5 sc5 (Int.toNat 1) 1 = sb6), .p (x8.length - (Int.toNat 1) = l5.length), .p (sc5 - (Int.toNat 1) = sc6), .p (0 ≤ (1 : Int) ∧ (1 : Int) ≤ ((x8.length : Nat) : Int))]) rfl (by kernel_rfl) ⟨hs8, (by have h_ := hb8; rw [hgl5] at h_; exact h_), SlRd.cells (sl_rd 69 encH 1 _ _ _) encH_ok H 1 rfl hs8 hg5 0 _ rfl, q, cut_len el5, q1, cut_bd0 el5, trivial⟩ fun a hE => ?_
                  obtain ⟨l6, el6, hm⟩ := bind_some hm
                  replace H := H.t3
                  refine WR.eff hE rfl rfl rfl rfl (OpTo.appendM el6 hE H encI_ok rfl rfl rfl rfl rfl rfl rfl rfl rfl rfl (SlRd.all ((sl_rd 2 encI 1 _ _ _).cut' encI_ok el5 ((H.slCap 1 rfl).1) q) encI_ok H 1 rfl) rfl) ?_
                  rintro _ w ⟨sb7, sc7, rfl, H⟩ a hE
                  obtain ⟨b9, o9, hs9, hb9⟩ := SlRd.base (sl_rd 69 encH 1 _ _ _) encH_ok H 2 rfl hg5
                  refine WR.seg hE 10 [.pointer (some ⟨b9, o9, none⟩)] [2, 7, 8, 9, 10, 11, 161, 162] (Lo := [(2, .slice sb_l l.length sc_l), (7, .pointer (some ⟨p, 0, none⟩)), (8, .int .i64 (if 1 > (if 4 < boxes then 4 else boxes) then 1 else (if 4 < boxes then 4 else boxes))), (9, .int .i64 (if 1 > (if 4096 < room then 4096 else room) then 1 else (if 4096 < room then 4096 else room))), (10, .slice (some ⟨r, 0, none⟩) m_.length l1.length), (11, .int .i64 i), (161, .slice sb7 l6.length sc7), (162, .pointer (some ⟨b9, o9 + (Int.toNat s7) * 1, none⟩))]) (obs := [.p (((some ⟨r, 0, none⟩) : Option Addr) = some ⟨b9, o9, none⟩), .p (0 ≤ (s7 : Int) ∧ (s7 : Int) < ((m_.length : Nat) : Int))]) rfl (by kernel_rfl) ⟨hs9, (by have h_ := hb9; rw [hgl5] at h_; exact h_), trivial⟩ fun a hE => ?_
                  refine WR.eff0 hE rfl rfl rfl (OpTo.storeSl (q := 0) (x' := (sb7, l6.length, sc7)) hE H.t2 encH_ok rfl hs9 hg5 rfl rfl rfl rfl rfl (Nat.le_of_ble_eq_true rfl) rfl) ?_
                  rintro _ w H a hE
                  refine WR.done rfl ?_
                  refine Runs.inBlock ?_
                  replace H := St.sxPutN H.t3.t1.t2 ex8 hgl5 hg5
                  try rw [← mSet_len m_ s7 l6] at hE
                  cases hm
                  exact hk _ _ ⟨_, rfl, hE.sel [2, 7, 8, 9, 10, 11] (by kernel_rfl), H.x1.t2.t2.t2⟩
                · replace hm := cond_f c hm
                  refine Runs.skip ?_
                  refine Runs.inBlock ?_
                  cases hm
                  exact hk _ _ ⟨_, rfl, hE.sel [2, 7, 8, 9, 10, 11] (by kernel_rfl), H.t2.t1.t2⟩
            · replace hm := cond_f c hm
              refine Runs.seq ?_
              refine Runs.region ?_
              obtain ⟨x9, ex9, hm⟩ := bind_some hm
              obtain ⟨b10, o10, hs10, hb10⟩ := SlRd.base hX_l thicketlaw23_Ask.enc_ok H 2 rfl ex9
              refine WR.seg hE 6 [.pointer (some ⟨b10, o10, none⟩), .int .i64 x9.Box] [2, 7, 8, 9, 10, 11, 16] (Lo := [(2, .slice sb_l l.length sc_l), (7, .pointer (some ⟨p, 0, none⟩)), (8, .int .i64 (if 1 > (if 4 < boxes then 4 else boxes) then 1 else (if 4 < boxes then 4 else boxes))), (9, .int .i64 (if 1 > (if 4096 < room then 4096 else room) then 1 else (if 4096 < room then 4096 else room))), (10, .slice (some ⟨r, 0, none⟩) m_.length l1.length), (11, .int .i64 i), (16, .int .i64 x9.Box)]) (obs := [.p ((sb_l : Option Addr) = some ⟨b10, o10, none⟩), .p (0 ≤ (i : Int) ∧ (i : Int) < ((l.length : Nat) : Int)), .cell ⟨b10, o10 + (Int.toNat i) * 3 + 1, none⟩ (.int .i64 x9.Box)]) rfl (by kernel_rfl) ⟨hs10, hb10, SlRd.cells hX_l thicketlaw23_Ask.enc_ok H 2 rfl hs10 ex9 1 _ rfl, trivial⟩ fun a hE => ?_
              refine WR.done rfl ?_
              refine Runs.seq ?_
              refine Runs.region ?_
              refine WR.seg hE 1 [] [2, 7, 8, 9, 10, 11, 16, 17] (Lo := [(2, .slice sb_l l.length sc_l), (7, .pointer (some ⟨p, 0, none⟩)), (8, .int .i64 (if 1 > (if 4 < boxes then 4 else boxes) then 1 else (if 4 < boxes then 4 else boxes))), (9, .int .i64 (if 1 > (if 4096 < room then 4096 else room) then 1 else (if 4096 < room then 4096 else room))), (10, .slice (some ⟨r, 0, none⟩) m_.length l1.length), (11, .int .i64 i), (16, .int .i64 x9.Box), (17, .int .i64 0)]) (obs := []) rfl (by kernel_rfl) trivial fun a hE => ?_
              refine WR.done rfl ?_
              refine Runs.seq ?_
              refine Runs.seq ?_
              refine Runs.join (fun a w => EnvOk 201 a [(2, .slice sb_l l.length sc_l), (7, .pointer (some ⟨p, 0, none⟩)), (8, .int .i64 (if 1 > (if 4 < boxes then 4 else boxes) then 1 else (if 4 < boxes then 4 else boxes))), (9, .int .i64 (if 1 > (if 4096 < room then 4096 else room) then 1 else (if 4096 < room then 4096 else room))), (10, .slice (some ⟨r, 0, none⟩) m_.length l1.length), (11, .int .i64 i), (16, .int .i64 x9.Box), (17, .int .i64 0), (59, .bool ((decide (x9.Box < 0)) || (decide (x9.Box ≥ (if 1 > (if 4 < boxes then 4 else boxes) then 1 else (if 4 < boxes then 4 else boxes))))))] ∧ St w0 (SlX 69 encH (RS 2 encI 1) (some ⟨r, 0, none⟩) l1.length m_ :: mail_Desk_int64.R p al m_1 :: X_l :: As) w) (fun hk => ?_) ?_
              · clear hm
                refine Runs.region ?_
                refine WR.seg hE 3 [] [2, 7, 8, 9, 10, 11, 16, 17, 55] (Lo := [(2, .slice sb_l l.length sc_l), (7, .pointer (some ⟨p, 0, none⟩)), (8, .int .i64 (if 1 > (if 4 < boxes then 4 else boxes) then 1 else (if 4 < boxes then 4 else boxes))), (9, .int .i64 (if 1 > (if 4096 < room then 4096 else room) then 1 else (if 4096 < room then 4096 else room))), (10, .slice (some ⟨r, 0, none⟩) m_.length l1.length), (11, .int .i64 i), (16, .int .i64 x9.Box), (17, .int .i64 0), (55, .bool (decide (x9.Box < 0)))]) (obs := []) rfl (by kernel_rfl) trivial fun a hE => ?_
                rcases Bool.eq_false_or_eq_true (decide (x9.Box < 0)) with c | c
                · replace hE := hE.dec 55 c (by kernel_rfl)
                  have c_20 := c
                  refine WR.seg hE 7 [] [2, 7, 8, 9, 10, 11, 16, 17, 59] (Lo := [(2, .slice sb_l l.length sc_l), (7, .pointer (some ⟨p, 0, none⟩)), (8, .int .i64 (if 1 > (if 4 < boxes then 4 else boxes) then 1 else (if 4 < boxes then 4 else boxes))), (9, .int .i64 (if 1 > (if 4096 < room then 4096 else room) then 1 else (if 4096 < room then 4096 else room))), (10, .slice (some ⟨r, 0, none⟩) m_.length l1.length), (11, .int .i64 i), (16, .int .i64 x9.Box), (17, .int .i64 0), (59, .bool true)]) (obs := []) rfl (by kernel_rfl) trivial fun a hE => ?_
                  refine WR.done rfl ?_
                  refine hk _ _ ⟨?_, H.t2.t2.t2⟩
                  try rw [c_20] at hE
                  try rw [c_20]
                  exact hE.sel [2, 7, 8, 9, 10, 11, 16, 17, 59] (by kernel_rfl)
                · replace hE := hE.dec 55 c (by kernel_rfl)
                  have c_21 := c
                  refine WR.seg hE 7 [] [2, 7, 8, 9, 10, 11, 16, 17, 59] (Lo := [(2, .slice sb_l l.length sc_l), (7, .pointer (some ⟨p, 0, none⟩)), (8, .int .i64 (if 1 > (if 4 < boxes then 4 else boxes) then 1 else (if 4 < boxes then 4 else boxes))), (9, .int .i64 (if 1 > (if 4096 < room then 4096 else room) then 1 else (if 4096 < room then 4096 else room))), (10, .slice (some ⟨r, 0, none⟩) m_.length l1.length), (11, .int .i64 i), (16, .int .i64 x9.Box), (17, .int .i64 0), (59, .bool (decide (x9.Box ≥ (if 1 > (if 4 < boxes then 4 else boxes) then 1 else (if 4 < boxes then 4 else boxes)))))]) (obs := []) rfl (by kernel_rfl) trivial fun a hE => ?_
                  refine WR.done rfl ?_
                  refine hk _ _ ⟨?_, H.t2.t2.t2⟩
                  try rw [c_21] at hE
                  try rw [c_21]
                  exact hE.sel [2, 7, 8, 9, 10, 11, 16, 17, 59] (by kernel_rfl)
              rintro a w ⟨hE, H⟩
              obtain ⟨s10, es10, hm⟩ := bind_some hm
              refine Runs.join (fun a w => EnvOk 201 a [(2, .slice sb_l l.length sc_l), (7, .pointer (some ⟨p, 0, none⟩)), (8, .int .i64 (if 1 > (if 4 < boxes then 4 else boxes) then 1 else (if 4 < boxes then 4 else boxes))), (9, .int .i64 (if 1 > (if 4096 < room then 4096 else room) then 1 else (if 4096 < room then 4096 else room))), (10, .slice (some ⟨r, 0, none⟩) m_.length l1.length), (11, .int .i64 i), (16, .int .i64 x9.Box), (17, .int .i64 s10)] ∧ St w0 (SlX 69 encH (RS 2 encI 1) (some ⟨r, 0, none⟩) l1.length m_ :: mail_Desk_int64.R p al m_1 :: X_l :: As) w) (fun hk => ?_) ?_
              · replace hm := es10; clear es10
                refine Runs.cond hE rfl (fun c => ?_) (fun c => ?_)
                · replace hm := cond_t c hm
                  refine Runs.region ?_
                  refine WR.seg hE 1 [] [2, 7, 8, 9, 10, 11, 16, 17] (Lo := [(2, .slice sb_l l.length sc_l), (7, .pointer (some ⟨p, 0, none⟩)), (8, .int .i64 (if 1 > (if 4 < boxes then 4 else boxes) then 1 else (if 4 < boxes then 4 else boxes))), (9, .int .i64 (if 1 > (if 4096 < room then 4096 else room) then 1 else (if 4096 < room then 4096 else room))), (10, .slice (some ⟨r, 0, none⟩) m_.length l1.length), (11, .int .i64 i), (16, .int .i64 x9.Box), (17, .int .i64 30)]) (obs := []) rfl (by kernel_rfl) trivial fun a hE => ?_
                  refine WR.done rfl ?_
                  cases hm
                  exact hk _ _ ⟨hE.sel [2, 7, 8, 9, 10, 11, 16, 17] (by kernel_rfl), H.t2.t2.t2⟩
                · replace hm := cond_f c hm
                  refine Runs.seq ?_
                  refine Runs.region ?_
                  obtain ⟨x10, ex10, hm⟩ := bind_some hm
                  obtain ⟨gs6, sb8, sc8, hgl6, hg6, H⟩ := St.sxTake H ex10
                  obtain ⟨b11, o11, hs11, hb11⟩ := SlRd.base (sl_rd 69 encH 1 _ _ _) encH_ok H 1 rfl hg6
                  refine WR.seg hE 7 [.pointer (some ⟨b11, o11, none⟩), .slice sb8 x10.length sc8] [2, 7, 8, 9, 10, 11, 16, 17, 66] (Lo := [(2, .slice sb_l l.length sc_l), (7, .pointer (some ⟨p, 0, none⟩)), (8, .int .i64 (if 1 > (if 4 < boxes then 4 else boxes) then 1 else (if 4 < boxes then 4 else boxes))), (9, .int .i64 (if 1 > (if 4096 < room then 4096 else room) then 1 else (if 4096 < room then 4096 else room))), (10, .slice (some ⟨r, 0, none⟩) m_.length l1.length), (11, .int .i64 i), (16, .int .i64 x9.Box), (17, .int .i64 0), (66, .bool (decide ((x10.length : Int) ≥ (if 1 > (if 4096 < room then 4096 else room) then 1 else (if 4096 < room then 4096 else room)))))]) (obs := [.p (((some ⟨r, 0, none⟩) : Option Addr) = some ⟨b11, o11, none⟩), .p (0 ≤ (x9.Box : Int) ∧ (x9.Box : Int) < ((m_.length : Nat) : Int)), .cell ⟨b11, o11 + (Int.toNat x9.Box) * 1, none⟩ (.slice sb8 x10.length sc8)]) rfl (by kernel_rfl) ⟨hs11, (by have h_ := hb11; rw [hgl6] at h_; exact h_), SlRd.cells (sl_rd 69 encH 1 _ _ _) encH_ok H 1 rfl hs11 hg6 0 _ rfl, trivial⟩ fun a hE => ?_
                  refine WR.done rfl ?_
                  refine Runs.cond hE rfl (fun c => ?_) (fun c => ?_)
                  · replace hm := cond_t c hm
                    refine Runs.region ?_
                    refine WR.seg hE 1 [] [2, 7, 8, 9, 10, 11, 16, 17] (Lo := [(2, .slice sb_l l.length sc_l), (7, .pointer (some ⟨p, 0, none⟩)), (8, .int .i64 (if 1 > (if 4 < boxes then 4 else boxes) then 1 else (if 4 < boxes then 4 else boxes))), (9, .int .i64 (if 1 > (if 4096 < room then 4096 else room) then 1 else (if 4096 < room then 4096 else room))), (10, .slice (some ⟨r, 0, none⟩) m_.length l1.length), (11, .int .i64 i), (16, .int .i64 x9.Box), (17, .int .i64 13)]) (obs := []) rfl (by kernel_rfl) trivial fun a hE => ?_
                    refine WR.done rfl ?_
                    replace H := St.sxPut0 H.t2.t2.t2 ex10 hgl6 hg6
                    cases hm
                    exact hk _ _ ⟨hE.sel [2, 7, 8, 9, 10, 11, 16, 17] (by kernel_rfl), H.t2.t2.t2⟩
                  · replace hm := cond_f c hm
                    refine Runs.skip ?_
                    replace H := St.sxPut0 H.t2.t2.t2 ex10 hgl6 hg6
                    cases hm
                    exact hk _ _ ⟨hE.sel [2, 7, 8, 9, 10, 11, 16, 17] (by kernel_rfl), H.t2.t2.t2⟩
              rintro a w ⟨hE, H⟩
              refine Runs.seq ?_
              refine Runs.seq ?_
              refine Runs.region ?_
              obtain ⟨x11, ex11, hm⟩ := bind_some hm
              obtain ⟨b12, o12, hs12, hb12⟩ := SlRd.base hX_l thicketlaw23_Ask.enc_ok H 2 rfl ex11
              refine WR.seg hE 7 [.pointer (some ⟨b12, o12, none⟩), .int .i64 x11.V] [2, 7, 8, 9, 10, 11, 16, 17, 67, 68, 73] (Lo := [(2, .slice sb_l l.length sc_l), (7, .pointer (some ⟨p, 0, none⟩)), (8, .int .i64 (if 1 > (if 4 < boxes then 4 else boxes) then 1 else (if 4 < boxes then 4 else boxes))), (9, .int .i64 (if 1 > (if 4096 < room then 4096 else room) then 1 else (if 4096 < room then 4096 else room))), (10, .slice (some ⟨r, 0, none⟩) m_.length l1.length), (11, .int .i64 i), (16, .int .i64 x9.Box), (17, .int .i64 s10), (67, .pointer (some ⟨p, 0, none⟩)), (68, .int .i64 x9.Box), (73, .int .i64 x11.V)]) (obs := [.p ((sb_l : Option Addr) = some ⟨b12, o12, none⟩), .p (0 ≤ (i : Int) ∧ (i : Int) < ((l.length : Nat) : Int)), .cell ⟨b12, o12 + (Int.toNat i) * 3 + 2, none⟩ (.int .i64 x11.V)]) rfl (by kernel_rfl) ⟨hs12, hb12, SlRd.cells hX_l thicketlaw23_Ask.enc_ok H 2 rfl hs12 ex11 2 _ rfl, trivial⟩ fun a hE => ?_
              obtain ⟨t_2, et_2, hm⟩ := bind_some hm
              refine WR.eff hE rfl rfl rfl rfl (OpTo.fn hE rfl rfl Try.call21 (mail_Desk_int64_Post_ok et_2 H.t1)) ?_
              rintro _ w ⟨rfl, H⟩ a hE
              refine WR.seg hE 10 [] [2, 7, 8, 9, 10, 11, 16, 17, 76] (Lo := [(2, .slice sb_l l.length sc_l), (7, .pointer (some ⟨p, 0, none⟩)), (8, .int .i64 (if 1 > (if 4 < boxes then 4 else boxes) then 1 else (if 4 < boxes then 4 else boxes))), (9, .int .i64 (if 1 > (if 4096 < room then 4096 else room) then 1 else (if 4096 < room then 4096 else room))), (10, .slice (some ⟨r, 0, none⟩) m_.length l1.length), (11, .int .i64 i), (16, .int .i64 x9.Box), (17, .int .i64 s10), (76, .bool (t_2.1 != s10))]) (obs := []) rfl (by kernel_rfl) trivial fun a hE => ?_
              refine WR.done rfl ?_
              refine Runs.cond hE rfl (fun c => ?_) (fun c => ?_)
              · replace hm := cond_t c hm
                refine Runs.seq ?_
                refine Runs.region ?_
                refine WR.seg hE 1 [] [6] (Lo := [(6, .bool false)]) (obs := []) rfl (by kernel_rfl) trivial fun a hE => ?_
                refine WR.done rfl ?_
                refine Runs.ret hE Try.func19 rfl rfl ?_
                cases hm
                dsimp only at hR2; cases hR2
                dsimp only at hR1; cases hR1
                dsimp only at hR; cases hR
                exact ⟨rfl, H.x1.x0⟩
              · replace hm := cond_f c hm
                refine Runs.skip ?_
                refine Runs.seq ?_
                refine Runs.region ?_
                refine WR.seg hE 2 [] [2, 7, 8, 9, 10, 11, 16, 78] (Lo := [(2, .slice sb_l l.length sc_l), (7, .pointer (some ⟨p, 0, none⟩)), (8, .int .i64 (if 1 > (if 4 < boxes then 4 else boxes) then 1 else (if 4 < boxes then 4 else boxes))), (9, .int .i64 (if 1 > (if 4096 < room then 4096 else room) then 1 else (if 4096 < room then 4096 else room))), (10, .slice (some ⟨r, 0, none⟩) m_.length l1.length), (11, .int .i64 i), (16, .int .i64 x9.Box), (78, .bool (s10 == 0))]) (obs := []) rfl (by kernel_rfl) trivial fun a hE => ?_
                refine WR.done rfl ?_
                refine Runs.cond hE rfl (fun c => ?_) (fun c => ?_)
                · replace hm := cond_t c hm
                  obtain ⟨x12, ex12, hm⟩ := bind_some hm
                  obtain ⟨x13, ex13, hm⟩ := bind_some hm
                  obtain ⟨l7, el7, hm⟩ := bind_some hm
                  obtain ⟨l8, el8, hm⟩ := bind_some hm
                  refine Runs.join (fun a w => EnvOk 201 a [(2, .slice sb_l l.length sc_l), (7, .pointer (some ⟨p, 0, none⟩)), (8, .int .i64 (if 1 > (if 4 < boxes then 4 else boxes) then 1 else (if 4 < boxes then 4 else boxes))), (9, .int .i64 (if 1 > (if 4096 < room then 4096 else room) then 1 else (if 4096 < room then 4096 else room))), (10, .slice (some ⟨r, 0, none⟩) ((mSet m_ x9.Box l8).length) l1.length), (11, .int .i64 i)] ∧ St w0 (mail_Desk_int64.R p al t_2.2 :: SlX 69 encH (RS 2 encI 1) (some ⟨r, 0, none⟩) l1.length (mSet m_ x9.Box l8) :: X_l :: As) w) (fun hk => ?_) ?_
                  ·
                    refine Runs.drawn mixed (by kernel_rfl) ?_
                    replace H := H.drew
                    obtain ⟨gs8, sb12, sc12, hgl8, hg8, H⟩ := St.sxTake H.t1 ex12
                    obtain ⟨b16, o16, hs16, hb16⟩ := SlRd.base (sl_rd 69 encH 1 _ _ _) encH_ok H 1 rfl hg8
                    obtain ⟨b17, o17, hs17, hb17⟩ := SlRd.base hX_l thicketlaw23_Ask.enc_ok H 4 rfl ex13
                    refine WQ.seg hE [0, 1, 3, 4, 5, 6, 8, 9, 10, 11, 12] [.pointer (some ⟨b16, o16, none⟩), .slice sb12 x12.length sc12, .pointer (some ⟨b17, o17, none⟩), .int .i64 x13.V] [2, 7, 8, 9, 10, 11, 79, 80, 85, 91] (Lo := [(2, .slice sb_l l.length sc_l), (7, .pointer (some ⟨p, 0, none⟩)), (8, .int .i64 (if 1 > (if 4 < boxes then 4 else boxes) then 1 else (if 4 < boxes then 4 else boxes))), (9, .int .i64 (if 1 > (if 4096 < room then 4096 else room) then 1 else (if 4096 < room then 4096 else room))), (10, .slice (some ⟨r, 0, none⟩) m_.length l1.length), (11, .int .i64 i), (79, .slice (some ⟨r, 0, none⟩) m_.length l1.length), (80, .int .i64 x9.Box), (85, .slice sb12 x12.length sc12), (91, .int .i64 x13.V)]) (obs := [.p (((some ⟨r, 0, none⟩) : Option Addr) = some ⟨b16, o16, none⟩), .p (0 ≤ (x9.Box : Int) ∧ (x9.Box : Int) < ((m_.length : Nat) : Int)), .cell ⟨b16, o16 + (Int.toNat x9.Box) * 1, none⟩ (.slice sb12 x12.length sc12), .p ((sb_l : Option Addr) = some ⟨b17, o17, none⟩), .p (0 ≤ (i : Int) ∧ (i : Int) < ((l.length : Nat) : Int)), .cell ⟨b17, o17 + (Int.toNat i) * 3 + 2, none⟩ (.int .i64 x13.V)]) (by kernel_rfl) (by kernel_rfl) ⟨hs16, (by have h_ := hb16; rw [hgl8] at h_; exact h_), SlRd.cells (sl_rd 69 encH 1 _ _ _) encH_ok H 1 rfl hs16 hg8 0 _ rfl, hs17, hb17, SlRd.cells hX_l thicketlaw23_Ask.enc_ok H 4 rfl hs17 ex13 2 _ rfl, trivial⟩ fun a hE => ?_
                    refine WQ.act2 2 13 (by kernel_rfl) ?_ ?_
                    ·
                      refine AQ.eff (j := 2) (obs := [.cell ⟨b17, o17 + (Int.toNat i) * 3 + 2, none⟩ (.int .i64 x13.V), .p ((sb_l : Option Addr) = some ⟨b17, o17, none⟩), .p (0 ≤ (i : Int) ∧ (i : Int) < ((l.length : Nat) : Int)), .cell ⟨b16, o16 + (Int.toNat x9.Box) * 1, none⟩ (.slice sb12 x12.length sc12), .p (((some ⟨r, 0, none⟩) : Option Addr) = some ⟨b16, o16, none⟩), .p (0 ≤ (x9.Box : Int) ∧ (x9.Box : Int) < ((m_.length : Nat) : Int))]) hE rfl rfl rfl rfl (by kernel_rfl) (OpTo.buildSl (T := 2) hE H encI_ok ([] : List Int) rfl (fun _ => by kernel_rfl) rfl rfl rfl) ?_
                      rintro _ w ⟨r4, rfl, H⟩
                      refine ⟨⟨SlRd.cells hX_l thicketlaw23_Ask.enc_ok H 5 rfl hs17 ex13 2 _ rfl, hs17, hb17, SlRd.cells (sl_rd 69 encH 1 _ _ _) encH_ok H 2 rfl hs16 hg8 0 _ rfl, hs16, (by have h_ := hb16; rw [hgl8] at h_; exact h_), trivial⟩, fun a hE => ?_⟩
                      refine WQ.act2 7 13 (by kernel_rfl) ?_ ?_
                      ·
                        refine AQ.eff (j := 7) (obs := [.cell ⟨b17, o17 + (Int.toNat i) * 3 + 2, none⟩ (.int .i64 x13.V), .p ((sb_l : Option Addr) = some ⟨b17, o17, none⟩), .p (0 ≤ (i : Int) ∧ (i : Int) < ((l.length : Nat) : Int))]) hE rfl rfl rfl rfl (by kernel_rfl) (OpTo.appendM el7 hE H encI_ok rfl rfl rfl rfl rfl rfl rfl rfl rfl rfl (SlRd.all (sl_rd 2 encI 1 _ _ _) encI_ok H 1 rfl) rfl) ?_
                        rintro _ w ⟨sb13, sc13, rfl, H⟩
                        refine ⟨⟨SlRd.cells hX_l thicketlaw23_Ask.enc_ok H 5 rfl hs17 ex13 2 _ rfl, hs17, hb17, trivial⟩, fun a hE => ?_⟩
                        refine WQ.eff (j := 13) (obs := []) hE (by kernel_rfl) rfl rfl rfl rfl (by kernel_rfl) (OpTo.buildSl (T := 2) hE H encI_ok ([x13.V] : List Int) rfl (fun _ => by kernel_rfl) rfl rfl rfl) ?_
                        rintro _ w ⟨r5, rfl, H⟩
                        refine ⟨trivial, fun a hE => ?_⟩
                        replace H := H.t1
                        refine WQ.eff (j := 14) (obs := []) hE (by kernel_rfl) rfl rfl rfl rfl (by kernel_rfl) (OpTo.appendM el8 hE H encI_ok rfl rfl rfl rfl rfl rfl rfl rfl rfl rfl (SlRd.all (sl_rd 2 encI 1 _ _ _) encI_ok H 1 rfl) rfl) ?_
                        rintro _ w ⟨sb14, sc14, rfl, H⟩
                        refine ⟨trivial, fun a hE => ?_⟩
                        obtain ⟨b18, o18, hs18, hb18⟩ := SlRd.base (sl_rd 69 encH 1 _ _ _) encH_ok H 3 rfl hg8
                        refine WQ.seg hE [15] [.pointer (some ⟨b18, o18, none⟩)] [2, 7, 8, 9, 10, 11, 93, 94] (Lo := [(2, .slice sb_l l.length sc_l), (7, .pointer (some ⟨p, 0, none⟩)), (8, .int .i64 (if 1 > (if 4 < boxes then 4 else boxes) then 1 else (if 4 < boxes then 4 else boxes))), (9, .int .i64 (if 1 > (if 4096 < room then 4096 else room) then 1 else (if 4096 < room then 4096 else room))), (10, .slice (some ⟨r, 0, none⟩) m_.length l1.length), (11, .int .i64 i), (93, .slice sb14 l8.length sc14), (94, .pointer (some ⟨b18, o18 + (Int.toNat x9.Box) * 1, none⟩))]) (obs := [.p (((some ⟨r, 0, none⟩) : Option Addr) = some ⟨b18, o18, none⟩), .p (0 ≤ (x9.Box : Int) ∧ (x9.Box : Int) < ((m_.length : Nat) : Int))]) (by kernel_rfl) (by kernel_rfl) ⟨hs18, (by have h_ := hb18; rw [hgl8] at h_; exact h_), trivial⟩ fun a hE => ?_
                        refine WQ.eff0 (j := 16) (obs := []) hE (by kernel_rfl) rfl rfl rfl (by kernel_rfl) (OpTo.storeSl (q := 0) (x' := (sb14, l8.length, sc14)) hE H.t3 encH_ok rfl hs18 hg8 rfl rfl rfl rfl rfl (Nat.le_of_ble_eq_true rfl) rfl) ?_
                        rintro _ w H
                        refine ⟨trivial, fun a hE => ?_⟩
                        refine WQ.done (by kernel_rfl) ?_
                        replace H := St.sxPutN H.t4.t1.t2 ex12 hgl8 hg8
                        try rw [← mSet_len m_ x9.Box l8] at hE
                        exact hk _ _ ⟨hE.sel [2, 7, 8, 9, 10, 11] (by kernel_rfl), H.x2.x1.t2.t1.t2⟩
                      ·
                        refine AQ.eff (j := 13) (obs := [.cell ⟨b16, o16 + (Int.toNat x9.Box) * 1, none⟩ (.slice sb12 x12.length sc12), .p (((some ⟨r, 0, none⟩) : Option Addr) = some ⟨b16, o16, none⟩), .p (0 ≤ (x9.Box : Int) ∧ (x9.Box : Int) < ((m_.length : Nat) : Int))]) hE rfl rfl rfl rfl (by kernel_rfl) (OpTo.buildSl (T := 2) hE H encI_ok ([x13.V] : List Int) rfl (fun _ => by kernel_rfl) rfl rfl rfl) ?_
                        rintro _ w ⟨r6, rfl, H⟩
                        refine ⟨⟨SlRd.cells (sl_rd 69 encH 1 _ _ _) encH_ok H 3 rfl hs16 hg8 0 _ rfl, hs16, (by have h_ := hb16; rw [hgl8] at h_; exact h_), trivial⟩, fun a hE => ?_⟩
                        replace H := H.t1
                        refine WQ.eff (j := 7) (obs := []) hE (by kernel_rfl) rfl rfl rfl rfl (by kernel_rfl) (OpTo.appendM el7 hE H encI_ok rfl rfl rfl rfl rfl rfl rfl rfl rfl rfl (SlRd.all (sl_rd 2 encI 1 _ _ _) encI_ok H 2 rfl) rfl) ?_
                        rintro _ w ⟨sb15, sc15, rfl, H⟩
                        refine ⟨trivial, fun a hE => ?_⟩
                        refine WQ.eff (j := 14) (obs := []) hE (by kernel_rfl) rfl rfl rfl rfl (by kernel_rfl) (OpTo.appendM el8 hE H encI_ok rfl rfl rfl rfl rfl rfl rfl rfl rfl rfl (SlRd.all (sl_rd 2 encI 1 _ _ _) encI_ok H 1 rfl) rfl) ?_
                        rintro _ w ⟨sb16, sc16, rfl, H⟩
                        refine ⟨trivial, fun a hE => ?_⟩
                        obtain ⟨b19, o19, hs19, hb19⟩ := SlRd.base (sl_rd 69 encH 1 _ _ _) encH_ok H 3 rfl hg8
                        refine WQ.seg hE [15] [.pointer (some ⟨b19, o19, none⟩)] [2, 7, 8, 9, 10, 11, 93, 94] (Lo := [(2, .slice sb_l l.length sc_l), (7, .pointer (some ⟨p, 0, none⟩)), (8, .int .i64 (if 1 > (if 4 < boxes then 4 else boxes) then 1 else (if 4 < boxes then 4 else boxes))), (9, .int .i64 (if 1 > (if 4096 < room then 4096 else room) then 1 else (if 4096 < room then 4096 else room))), (10, .slice (some ⟨r, 0, none⟩) m_.length l1.length), (11, .int .i64 i), (93, .slice sb16 l8.length sc16), (94, .pointer (some ⟨b19, o19 + (Int.toNat x9.Box) * 1, none⟩))]) (obs := [.p (((some ⟨r, 0, none⟩) : Option Addr) = some ⟨b19, o19, none⟩), .p (0 ≤ (x9.Box : Int) ∧ (x9.Box : Int) < ((m_.length : Nat) : Int))]) (by kernel_rfl) (by kernel_rfl) ⟨hs19, (by have h_ := hb19; rw [hgl8] at h_; exact h_), trivial⟩ fun a hE => ?_
                        refine WQ.eff0 (j := 16) (obs := []) hE (by kernel_rfl) rfl rfl rfl (by kernel_rfl) (OpTo.storeSl (q := 0) (x' := (sb16, l8.length, sc16)) hE H.t3 encH_ok rfl hs19 hg8 rfl rfl rfl rfl rfl (Nat.le_of_ble_eq_true rfl) rfl) ?_
                        rintro _ w H
                        refine ⟨trivial, fun a hE => ?_⟩
                        refine WQ.done (by kernel_rfl) ?_
                        replace H := St.sxPutN H.t4.t1.t2 ex12 hgl8 hg8
                        try rw [← mSet_len m_ x9.Box l8] at hE
                        exact hk _ _ ⟨hE.sel [2, 7, 8, 9, 10, 11] (by kernel_rfl), H.x2.x1.t2.t1.t2⟩
                    ·
                      refine AQ.eff (j := 13) (obs := [.cell ⟨b16, o16 + (Int.toNat x9.Box) * 1, none⟩ (.slice sb12 x12.length sc12), .p (((some ⟨r, 0, none⟩) : Option Addr) = some ⟨b16, o16, none⟩), .p (0 ≤ (x9.Box : Int) ∧ (x9.Box : Int) < ((m_.length : Nat) : Int))]) hE rfl rfl rfl rfl (by kernel_rfl) (OpTo.buildSl (T := 2) hE H encI_ok ([x13.V] : List Int) rfl (fun _ => by kernel_rfl) rfl rfl rfl) ?_
                      rintro _ w ⟨r7, rfl, H⟩
                      refine ⟨⟨SlRd.cells (sl_rd 69 encH 1 _ _ _) encH_ok H 2 rfl hs16 hg8 0 _ rfl, hs16, (by have h_ := hb16; rw [hgl8] at h_; exact h_), trivial⟩, fun a hE => ?_⟩
                      refine WQ.eff (j := 2) (obs := [.cell ⟨b16, o16 + (Int.toNat x9.Box) * 1, none⟩ (.slice sb12 x12.length sc12), .p (((some ⟨r, 0, none⟩) : Option Addr) = some ⟨b16, o16, none⟩), .p (0 ≤ (x9.Box : Int) ∧ (x9.Box : Int) < ((m_.length : Nat) : Int))]) hE (by kernel_rfl) rfl rfl rfl rfl (by kernel_rfl) (OpTo.buildSl (T := 2) hE H encI_ok ([] : List Int) rfl (fun _ => by kernel_rfl) rfl rfl rfl) ?_
                      rintro _ w ⟨r8, rfl, H⟩
                      refine ⟨⟨SlRd.cells (sl_rd 69 encH 1 _ _ _) encH_ok H 3 rfl hs16 hg8 0 _ rfl, hs16, (by have h_ := hb16; rw [hgl8] at h_; exact h_), trivial⟩, fun a hE => ?_⟩
                      refine WQ.eff (j := 7) (obs := []) hE (by kernel_rfl) rfl rfl rfl rfl (by kernel_rfl) (OpTo.appendM el7 hE H encI_ok rfl rfl rfl rfl rfl rfl rfl rfl rfl rfl (SlRd.all (sl_rd 2 encI 1 _ _ _) encI_ok H 2 rfl) rfl) ?_
                      rintro _ w ⟨sb17, sc17, rfl, H⟩
                      refine ⟨trivial, fun a hE => ?_⟩
                      refine WQ.eff (j := 14) (obs := []) hE (by kernel_rfl) rfl rfl rfl rfl (by kernel_rfl) (OpTo.appendM el8 hE H encI_ok rfl rfl rfl rfl rfl rfl rfl rfl rfl rfl (SlRd.all (sl_rd 2 encI 1 _ _ _) encI_ok H 1 rfl) rfl) ?_
                      rintro _ w ⟨sb18, sc18, rfl, H⟩
                      refine ⟨trivial, fun a hE => ?_⟩
                      obtain ⟨b20, o20, hs20, hb20⟩ := SlRd.base (sl_rd 69 encH 1 _ _ _) encH_ok H 3 rfl hg8
                      refine WQ.seg hE [15] [.pointer (some ⟨b20, o20, none⟩)] [2, 7, 8, 9, 10, 11, 93, 94] (Lo := [(2, .slice sb_l l.length sc_l), (7, .pointer (some ⟨p, 0, none⟩)), (8, .int .i64 (if 1 > (if 4 < boxes then 4 else boxes) then 1 else (if 4 < boxes then 4 else boxes))), (9, .int .i64 (if 1 > (if 4096 < room then 4096 else room) then 1 else (if 4096 < room then 4096 else room))), (10, .slice (some ⟨r, 0, none⟩) m_.length l1.length), (11, .int .i64 i), (93, .slice sb18 l8.length sc18), (94, .pointer (some ⟨b20, o20 + (Int.toNat x9.Box) * 1, none⟩))]) (obs := [.p (((some ⟨r, 0, none⟩) : Option Addr) = some ⟨b20, o20, none⟩), .p (0 ≤ (x9.Box : Int) ∧ (x9.Box : Int) < ((m_.length : Nat) : Int))]) (by kernel_rfl) (by kernel_rfl) ⟨hs20, (by have h_ := hb20; rw [hgl8] at h_; exact h_), trivial⟩ fun a hE => ?_
                      refine WQ.eff0 (j := 16) (obs := []) hE (by kernel_rfl) rfl rfl rfl (by kernel_rfl) (OpTo.storeSl (q := 0) (x' := (sb18, l8.length, sc18)) hE H.t3 encH_ok rfl hs20 hg8 rfl rfl rfl rfl rfl (Nat.le_of_ble_eq_true rfl) rfl) ?_
                      rintro _ w H
                      refine ⟨trivial, fun a hE => ?_⟩
                      refine WQ.done (by kernel_rfl) ?_
                      replace H := St.sxPutN H.t4.t1.t2 ex12 hgl8 hg8
                      try rw [← mSet_len m_ x9.Box l8] at hE
                      exact hk _ _ ⟨hE.sel [2, 7, 8, 9, 10, 11] (by kernel_rfl), H.x2.x1.t2.t1.t2⟩
                  rintro a w ⟨hE, H⟩
                  refine Runs.inBlock ?_
                  cases hm
                  exact hk _ _ ⟨_, rfl, hE.sel [2, 7, 8, 9, 10, 11] (by kernel_rfl), H.t2.t1.t2⟩
                · replace hm := cond_f c hm
                  refine Runs.skip ?_
                  refine Runs.inBlock ?_
                  cases hm
                  exact hk _ _ ⟨_, rfl, hE.sel [2, 7, 8, 9, 10, 11] (by kernel_rfl), H.t2.t1.t2⟩
          rintro a w ⟨s5, rfl, hE, H⟩
          replace hm := hR2; dsimp only at hm
          refine Runs.seq ?_
          refine Runs.region ?_
          refine WR.seg hE 1 [] [2, 7, 8, 9, 10, 11, 18] (Lo := [(2, .slice sb_l l.length sc_l), (7, .pointer (some ⟨p, 0, none⟩)), (8, .int .i64 (if 1 > (if 4 < boxes then 4 else boxes) then 1 else (if 4 < boxes then 4 else boxes))), (9, .int .i64 (if 1 > (if 4096 < room then 4096 else room) then 1 else (if 4096 < room then 4096 else room))), (10, .slice (some ⟨r, 0, none⟩) s5.1.length l1.length), (11, .int .i64 i), (18, .int .i64 0)]) (obs := []) rfl (by kernel_rfl) trivial fun a hE => ?_
          refine WR.done rfl ?_
          refine Runs.seq ?_
          refine Runs.seq ?_
          refine Runs.region ?_
          refine WR.seg hE 1 [] [2, 7, 8, 9, 10, 11, 18, 19] (Lo := [(2, .slice sb_l l.length sc_l), (7, .pointer (some ⟨p, 0, none⟩)), (8, .int .i64 (if 1 > (if 4 < boxes then 4 else boxes) then 1 else (if 4 < boxes then 4 else boxes))), (9, .int .i64 (if 1 > (if 4096 < room then 4096 else room) then 1 else (if 4096 < room then 4096 else room))), (10, .slice (some ⟨r, 0, none⟩) s5.1.length l1.length), (11, .int .i64 i), (18, .int .i64 0), (19, .int .i64 0)]) (obs := []) rfl (by kernel_rfl) trivial fun a hE => ?_
          refine WR.done rfl ?_
          obtain ⟨s11, es11, hR3⟩ := bind_some hm
          refine Runs.join (fun a w => ∃ s12, s11 = Sum.inr s12 ∧ EnvOk 201 a [(2, .slice sb_l l.length sc_l), (7, .pointer (some ⟨p, 0, none⟩)), (8, .int .i64 (if 1 > (if 4 < boxes then 4 else boxes) then 1 else (if 4 < boxes then 4 else boxes))), (9, .int .i64 (if 1 > (if 4096 < room then 4096 else room) then 1 else (if 4096 < room then 4096 else room))), (10, .slice (some ⟨r, 0, none⟩) s5.1.length l1.length), (11, .int .i64 i), (18, .int .i64 s12)] ∧ St w0 (SlX 69 encH (RS 2 encI 1) (some ⟨r, 0, none⟩) l1.length s5.1 :: mail_Desk_int64.R p al s5.2 :: X_l :: As) w) (fun hk => ?_) ?_
          · replace hm := es11; clear es11
            refine Runs.block ?_
            refine Runs.loop (fun m a w => ∃ (all : Int), ∃ (k_1 : Int), EnvOk 201 a [(2, .slice sb_l l.length sc_l), (7, .pointer (some ⟨p, 0, none⟩)), (8, .int .i64 (if 1 > (if 4 < boxes then 4 else boxes) then 1 else (if 4 < boxes then 4 else boxes))), (9, .int .i64 (if 1 > (if 4096 < room then 4096 else room) then 1 else (if 4096 < room then 4096 else room))), (10, .slice (some ⟨r, 0, none⟩) s5.1.length l1.length), (11, .int .i64 i), (18, .int .i64 all), (19, .int .i64 k_1)] ∧ St w0 (SlX 69 encH (RS 2 encI 1) (some ⟨r, 0, none⟩) l1.length s5.1 :: mail_Desk_int64.R p al s5.2 :: X_l :: As) w ∧ thicketlaw23_play_l2 (if 1 > (if 4 < boxes then 4 else boxes) then 1 else (if 4 < boxes then 4 else boxes)) (if 1 > (if 4096 < room then 4096 else room) then 1 else (if 4096 < room then 4096 else room)) i s5.1 s5.2 l m all k_1 = some s11) m ⟨0, 0, hE.sel [2, 7, 8, 9, 10, 11, 18, 19] (by kernel_rfl), H.t2.t2.t2, hm⟩ ?_
            rintro m ih a w ⟨all, k_1, hE, H, hm⟩
            cases m with
            | zero => simp [thicketlaw23_play_l2] at hm
            | succ m =>
              rw [thicketlaw23_play_l2] at hm
              refine Runs.seq ?_
              refine Runs.seq ?_
              refine Runs.region ?_
              refine WR.seg hE 3 [] [2, 7, 8, 9, 10, 11, 18, 19, 165] (Lo := [(2, .slice sb_l l.length sc_l), (7, .pointer (some ⟨p, 0, none⟩)), (8, .int .i64 (if 1 > (if 4 < boxes then 4 else boxes) then 1 else (if 4 < boxes then 4 else boxes))), (9, .int .i64 (if 1 > (if 4096 < room then 4096 else room) then 1 else (if 4096 < room then 4096 else room))), (10, .slice (some ⟨r, 0, none⟩) s5.1.length l1.length), (11, .int .i64 i), (18, .int .i64 all), (19, .int .i64 k_1), (165, .bool (decide (k_1 < (if 1 > (if 4 < boxes then 4 else boxes) then 1 else (if 4 < boxes then 4 else boxes)))))]) (obs := []) rfl (by kernel_rfl) trivial fun a hE => ?_
              refine WR.done rfl ?_
              refine Runs.cond hE rfl (fun c => ?_) (fun c => ?_)
              · replace hm := cond_t c hm
                refine Runs.skip ?_
                refine Runs.seq ?_
                refine Runs.block ?_
                refine Runs.seq ?_
                refine Runs.region ?_
                obtain ⟨x14, ex14, hm⟩ := bind_some hm
                obtain ⟨gs9, sb19, sc19, hgl9, hg9, H⟩ := St.sxTake H ex14
                obtain ⟨b21, o21, hs21, hb21⟩ := SlRd.base (sl_rd 69 encH 1 _ _ _) encH_ok H 1 rfl hg9
                refine WR.seg hE 8 [.pointer (some ⟨b21, o21, none⟩), .slice sb19 x14.length sc19] [2, 7, 8, 9, 10, 11, 18, 19] (Lo := [(2, .slice sb_l l.length sc_l), (7, .pointer (some ⟨p, 0, none⟩)), (8, .int .i64 (if 1 > (if 4 < boxes then 4 else boxes) then 1 else (if 4 < boxes then 4 else boxes))), (9, .int .i64 (if 1 > (if 4096 < room then 4096 else room) then 1 else (if 4096 < room then 4096 else room))), (10, .slice (some ⟨r, 0, none⟩) s5.1.length l1.length), (11, .int .i64 i), (18, .int .i64 (w64 (all + (x14.length : Int)))), (19, .int .i64 k_1)]) (obs := [.p (((some ⟨r, 0, none⟩) : Option Addr) = some ⟨b21, o21, none⟩), .p (0 ≤ (k_1 : Int) ∧ (k_1 : Int) < ((s5.1.length : Nat) : Int)), .cell ⟨b21, o21 + (Int.toNat k_1) * 1, none⟩ (.slice sb19 x14.length sc19)]) rfl (by kernel_rfl) ⟨hs21, (by have h_ := hb21; rw [hgl9] at h_; exact h_), SlRd.cells (sl_rd 69 encH 1 _ _ _) encH_ok H 1 rfl hs21 hg9 0 _ rfl, trivial⟩ fun a hE => ?_
                refine WR.done rfl ?_
                refine Runs.seq ?_
                refine Runs.drawn mixed (by kernel_rfl) ?_
                replace H := H.drew
                obtain ⟨b22, o22, hs22, hb22⟩ := SlRd.base (sl_rd 69 encH 1 _ _ _) encH_ok H 1 rfl hg9
                refine WQ.seg hE [0, 1, 3, 4, 5, 6, 7] [.pointer (some ⟨b22, o22, none⟩), .slice sb19 x14.length sc19] [2, 7, 8, 9, 10, 11, 18, 19, 175, 176, 182] (Lo := [(2, .slice sb_l l.length sc_l), (7, .pointer (some ⟨p, 0, none⟩)), (8, .int .i64 (if 1 > (if 4 < boxes then 4 else boxes) then 1 else (if 4 < boxes then 4 else boxes))), (9, .int .i64 (if 1 > (if 4096 < room then 4096 else room) then 1 else (if 4096 < room then 4096 else room))), (10, .slice (some ⟨r, 0, none⟩) s5.1.length l1.length), (11, .int .i64 i), (18, .int .i64 (w64 (all + (x14.length : Int)))), (19, .int .i64 k_1), (175, .pointer (some ⟨p, 0, none⟩)), (176, .int .i64 k_1), (182, .int .i64 (x14.length : Int))]) (obs := [.p (((some ⟨r, 0, none⟩) : Option Addr) = some ⟨b22, o22, none⟩), .p (0 ≤ (k_1 : Int) ∧ (k_1 : Int) < ((s5.1.length : Nat) : Int)), .cell ⟨b22, o22 + (Int.toNat k_1) * 1, none⟩ (.slice sb19 x14.length sc19)]) (by kernel_rfl) (by kernel_rfl) ⟨hs22, (by have h_ := hb22; rw [hgl9] at h_; exact h_), SlRd.cells (sl_rd 69 encH 1 _ _ _) encH_ok H 1 rfl hs22 hg9 0 _ rfl, trivial⟩ fun a hE => ?_
                obtain ⟨t_3, et_3, hm⟩ := bind_some hm
                refine WQ.eff (j := 2) (obs := [.cell ⟨b22, o22 + (Int.toNat k_1) * 1, none⟩ (.slice sb19 x14.length sc19), .p (((some ⟨r, 0, none⟩) : Option Addr) = some ⟨b22, o22, none⟩), .p (0 ≤ (k_1 : Int) ∧ (k_1 : Int) < ((s5.1.length : Nat) : Int))]) hE (by kernel_rfl) rfl rfl rfl rfl (by kernel_rfl) (OpTo.fn hE rfl rfl Try.call29 (mail_Desk_int64_In_ok et_3 H.t3)) ?_
                rintro _ w ⟨rfl, H⟩
                refine ⟨⟨SlRd.cells (sl_rd 69 encH 1 _ _ _) encH_ok H 2 rfl hs22 hg9 0 _ rfl, hs22, (by have h_ := hb22; rw [hgl9] at h_; exact h_), trivial⟩, fun a hE => ?_⟩
                refine WQ.seg hE [8] [] [2, 7, 8, 9, 10, 11, 18, 19, 183] (Lo := [(2, .slice sb_l l.length sc_l), (7, .pointer (some ⟨p, 0, none⟩)), (8, .int .i64 (if 1 > (if 4 < boxes then 4 else boxes) then 1 else (if 4 < boxes then 4 else boxes))), (9, .int .i64 (if 1 > (if 4096 < room then 4096 else room) then 1 else (if 4096 < room then 4096 else room))), (10, .slice (some ⟨r, 0, none⟩) s5.1.length l1.length), (11, .int .i64 i), (18, .int .i64 (w64 (all + (x14.length : Int)))), (19, .int .i64 k_1), (183, .bool (t_3 != (x14.length : Int)))]) (obs := []) (by kernel_rfl) (by kernel_rfl) trivial fun a hE => ?_
                refine WQ.done (by kernel_rfl) ?_
                refine Runs.cond hE rfl (fun c => ?_) (fun c => ?_)
                · replace hm := cond_t c hm
                  refine Runs.seq ?_
                  refine Runs.region ?_
                  refine WR.seg hE 1 [] [6] (Lo := [(6, .bool false)]) (obs := []) rfl (by kernel_rfl) trivial fun a hE => ?_
                  refine WR.done rfl ?_
                  refine Runs.ret hE Try.func19 rfl rfl ?_
                  cases hm
                  dsimp only at hR3; cases hR3
                  dsimp only at hR1; cases hR1
                  dsimp only at hR; cases hR
                  exact ⟨rfl, H.x3.x2.x1.x0⟩
                · replace hm := cond_f c hm
                  refine Runs.skip ?_
                  refine Runs.inBlock ?_
                  refine Runs.region ?_
                  refine WR.seg hE 3 [] [2, 7, 8, 9, 10, 11, 18, 19] (Lo := [(2, .slice sb_l l.length sc_l), (7, .pointer (some ⟨p, 0, none⟩)), (8, .int .i64 (if 1 > (if 4 < boxes then 4 else boxes) then 1 else (if 4 < boxes then 4 else boxes))), (9, .int .i64 (if 1 > (if 4096 < room then 4096 else room) then 1 else (if 4096 < room then 4096 else room))), (10, .slice (some ⟨r, 0, none⟩) s5.1.length l1.length), (11, .int .i64 i), (18, .int .i64 (w64 (all + (x14.length : Int)))), (19, .int .i64 (w64 (k_1 + 1)))]) (obs := []) rfl (by kernel_rfl) trivial fun a hE => ?_
                  refine WR.done rfl ?_
                  replace H := St.sxPut0 H.t3.t3.t3 ex14 hgl9 hg9
                  exact ih m (Nat.lt_succ_self m) _ _ ⟨w64 (all + (x14.length : Int)), w64 (k_1 + 1), hE.sel [2, 7, 8, 9, 10, 11, 18, 19] (by kernel_rfl), H.t2.t2.t2, hm⟩
              · replace hm := cond_f c hm
                refine Runs.exit rfl ?_
                cases hm
                exact hk _ _ ⟨_, rfl, hE.sel [2, 7, 8, 9, 10, 11, 18] (by kernel_rfl), H.t2.t2.t2⟩
          rintro a w ⟨s12, rfl, hE, H⟩
          replace hm := hR3; dsimp only at hm
          refine Runs.seq ?_
          obtain ⟨s13, es13, hm⟩ := bind_some hm
          refine Runs.join (fun a w => EnvOk 201 a [(2, .slice sb_l l.length sc_l), (7, .pointer (some ⟨p, 0, none⟩)), (8, .int .i64 (if 1 > (if 4 < boxes then 4 else boxes) then 1 else (if 4 < boxes then 4 else boxes))), (9, .int .i64 (if 1 > (if 4096 < room then 4096 else room) then 1 else (if 4096 < room then 4096 else room))), (10, .slice (some ⟨r, 0, none⟩) s5.1.length l1.length), (11, .int .i64 i), (198, .bool s13)] ∧ St w0 (SlX 69 encH (RS 2 encI 1) (some ⟨r, 0, none⟩) l1.length s5.1 :: mail_Desk_int64.R p al s5.2 :: X_l :: As) w) (fun hk => ?_) ?_
          · replace hm := es13; clear es13
            refine Runs.region ?_
            refine WR.seg hE 1 [] [2, 7, 8, 9, 10, 11, 18, 184] (Lo := [(2, .slice sb_l l.length sc_l), (7, .pointer (some ⟨p, 0, none⟩)), (8, .int .i64 (if 1 > (if 4 < boxes then 4 else boxes) then 1 else (if 4 < boxes then 4 else boxes))), (9, .int .i64 (if 1 > (if 4096 < room then 4096 else room) then 1 else (if 4096 < room then 4096 else room))), (10, .slice (some ⟨r, 0, none⟩) s5.1.length l1.length), (11, .int .i64 i), (18, .int .i64 s12), (184, .pointer (some ⟨p, 0, none⟩))]) (obs := []) rfl (by kernel_rfl) trivial fun a hE => ?_
            obtain ⟨t_4, et_4, hm⟩ := bind_some hm
            refine WR.eff hE rfl rfl rfl rfl (OpTo.fn hE rfl rfl Try.call23 (mail_Desk_int64_Len_ok et_4 H.t1)) ?_
            rintro _ w ⟨rfl, H⟩ a hE
            refine WR.seg hE 5 [] [2, 7, 8, 9, 10, 11, 188] (Lo := [(2, .slice sb_l l.length sc_l), (7, .pointer (some ⟨p, 0, none⟩)), (8, .int .i64 (if 1 > (if 4 < boxes then 4 else boxes) then 1 else (if 4 < boxes then 4 else boxes))), (9, .int .i64 (if 1 > (if 4096 < room then 4096 else room) then 1 else (if 4096 < room then 4096 else room))), (10, .slice (some ⟨r, 0, none⟩) s5.1.length l1.length), (11, .int .i64 i), (188, .bool (t_4 != s12))]) (obs := []) rfl (by kernel_rfl) trivial fun a hE => ?_
            rcases Bool.eq_false_or_eq_true (t_4 != s12) with c | c
            · replace hE := hE.dec 188 c (by kernel_rfl)
              replace hm := cond_t c hm
              have c_22 := c
              refine WR.seg hE 15 [] [2, 7, 8, 9, 10, 11, 198] (Lo := [(2, .slice sb_l l.length sc_l), (7, .pointer (some ⟨p, 0, none⟩)), (8, .int .i64 (if 1 > (if 4 < boxes then 4 else boxes) then 1 else (if 4 < boxes then 4 else boxes))), (9, .int .i64 (if 1 > (if 4096 < room then 4096 else room) then 1 else (if 4096 < room then 4096 else room))), (10, .slice (some ⟨r, 0, none⟩) s5.1.length l1.length), (11, .int .i64 i), (198, .bool true)]) (obs := []) rfl (by kernel_rfl) trivial fun a hE => ?_
              refine WR.done rfl ?_
              cases hm
              exact hk _ _ ⟨hE.sel [2, 7, 8, 9, 10, 11, 198] (by kernel_rfl), H.t2.t1.t2⟩
            · replace hE := hE.dec 188 c (by kernel_rfl)
              replace hm := cond_f c hm
              have c_23 := c
              refine WR.seg hE 6 [] [2, 7, 8, 9, 10, 11, 188, 189] (Lo := [(2, .slice sb_l l.length sc_l), (7, .pointer (some ⟨p, 0, none⟩)), (8, .int .i64 (if 1 > (if 4 < boxes then 4 else boxes) then 1 else (if 4 < boxes then 4 else boxes))), (9, .int .i64 (if 1 > (if 4096 < room then 4096 else room) then 1 else (if 4096 < room then 4096 else room))), (10, .slice (some ⟨r, 0, none⟩) s5.1.length l1.length), (11, .int .i64 i), (188, .bool false), (189, .pointer (some ⟨p, 0, none⟩))]) (obs := []) rfl (by kernel_rfl) trivial fun a hE => ?_
              obtain ⟨t_5, et_5, hm⟩ := bind_some hm
              refine WR.eff hE rfl rfl rfl rfl (OpTo.fn hE rfl rfl Try.call29 (mail_Desk_int64_In_ok et_5 H)) ?_
              rintro _ w ⟨rfl, H⟩ a hE
              refine WR.seg hE 10 [] [2, 7, 8, 9, 10, 11, 193] (Lo := [(2, .slice sb_l l.length sc_l), (7, .pointer (some ⟨p, 0, none⟩)), (8, .int .i64 (if 1 > (if 4 < boxes then 4 else boxes) then 1 else (if 4 < boxes then 4 else boxes))), (9, .int .i64 (if 1 > (if 4096 < room then 4096 else room) then 1 else (if 4096 < room then 4096 else room))), (10, .slice (some ⟨r, 0, none⟩) s5.1.length l1.length), (11, .int .i64 i), (193, .bool (t_5 != 0))]) (obs := []) rfl (by kernel_rfl) trivial fun a hE => ?_
              rcases Bool.eq_false_or_eq_true (t_5 != 0) with c | c
              · replace hE := hE.dec 193 c (by kernel_rfl)
                replace hm := cond_t c hm
                have c_24 := c
                refine WR.seg hE 15 [] [2, 7, 8, 9, 10, 11, 198] (Lo := [(2, .slice sb_l l.length sc_l), (7, .pointer (some ⟨p, 0, none⟩)), (8, .int .i64 (if 1 > (if 4 < boxes then 4 else boxes) then 1 else (if 4 < boxes then 4 else boxes))), (9, .int .i64 (if 1 > (if 4096 < room then 4096 else room) then 1 else (if 4096 < room then 4096 else room))), (10, .slice (some ⟨r, 0, none⟩) s5.1.length l1.length), (11, .int .i64 i), (198, .bool true)]) (obs := []) rfl (by kernel_rfl) trivial fun a hE => ?_
                refine WR.done rfl ?_
                cases hm
                exact hk _ _ ⟨hE.sel [2, 7, 8, 9, 10, 11, 198] (by kernel_rfl), H.t2.t1.t2⟩
              · replace hE := hE.dec 193 c (by kernel_rfl)
                replace hm := cond_f c hm
                have c_25 := c
                refine WR.seg hE 12 [] [2, 7, 8, 9, 10, 11, 193, 194, 195] (Lo := [(2, .slice sb_l l.length sc_l), (7, .pointer (some ⟨p, 0, none⟩)), (8, .int .i64 (if 1 > (if 4 < boxes then 4 else boxes) then 1 else (if 4 < boxes then 4 else boxes))), (9, .int .i64 (if 1 > (if 4096 < room then 4096 else room) then 1 else (if 4096 < room then 4096 else room))), (10, .slice (some ⟨r, 0, none⟩) s5.1.length l1.length), (11, .int .i64 i), (193, .bool false), (194, .pointer (some ⟨p, 0, none⟩)), (195, .int .i64 (if 1 > (if 4 < boxes then 4 else boxes) then 1 else (if 4 < boxes then 4 else boxes)))]) (obs := []) rfl (by kernel_rfl) trivial fun a hE => ?_
                obtain ⟨t_6, et_6, hm⟩ := bind_some hm
                refine WR.eff hE rfl rfl rfl rfl (OpTo.fn hE rfl rfl Try.call29 (mail_Desk_int64_In_ok et_6 H)) ?_
                rintro _ w ⟨rfl, H⟩ a hE
                refine WR.seg hE 15 [] [2, 7, 8, 9, 10, 11, 198] (Lo := [(2, .slice sb_l l.length sc_l), (7, .pointer (some ⟨p, 0, none⟩)), (8, .int .i64 (if 1 > (if 4 < boxes then 4 else boxes) then 1 else (if 4 < boxes then 4 else boxes))), (9, .int .i64 (if 1 > (if 4096 < room then 4096 else room) then 1 else (if 4096 < room then 4096 else room))), (10, .slice (some ⟨r, 0, none⟩) s5.1.length l1.length), (11, .int .i64 i), (198, .bool (t_6 != 0))]) (obs := []) rfl (by kernel_rfl) trivial fun a hE => ?_
                refine WR.done rfl ?_
                cases hm
                exact hk _ _ ⟨hE.sel [2, 7, 8, 9, 10, 11, 198] (by kernel_rfl), H.t2.t1.t2⟩
          rintro a w ⟨hE, H⟩
          refine Runs.cond hE rfl (fun c => ?_) (fun c => ?_)
          · replace hm := cond_t c hm
            refine Runs.seq ?_
            refine Runs.region ?_
            refine WR.seg hE 1 [] [6] (Lo := [(6, .bool false)]) (obs := []) rfl (by kernel_rfl) trivial fun a hE => ?_
            refine WR.done rfl ?_
            refine Runs.ret hE Try.func19 rfl rfl ?_
            cases hm
            dsimp only at hR1; cases hR1
            dsimp only at hR; cases hR
            exact ⟨rfl, H.x1.x0⟩
          · replace hm := cond_f c hm
            refine Runs.skip ?_
            refine Runs.inBlock ?_
            cases hm
            exact hk _ _ ⟨_, rfl, hE.sel [2, 7, 8, 9, 10, 11] (by kernel_rfl), H.t2.t2.t2⟩
        rintro a w ⟨s3, rfl, hE, H⟩
        replace hm := hR1; dsimp only at hm
        refine Runs.region ?_
        refine WR.seg hE 3 [] [2, 7, 8, 9, 10, 11] (Lo := [(2, .slice sb_l l.length sc_l), (7, .pointer (some ⟨p, 0, none⟩)), (8, .int .i64 (if 1 > (if 4 < boxes then 4 else boxes) then 1 else (if 4 < boxes then 4 else boxes))), (9, .int .i64 (if 1 > (if 4096 < room then 4096 else room) then 1 else (if 4096 < room then 4096 else room))), (10, .slice (some ⟨r, 0, none⟩) s3.1.length l1.length), (11, .int .i64 (w64 (i + 1)))]) (obs := []) rfl (by kernel_rfl) trivial fun a hE => ?_
        refine WR.done rfl ?_
        exact ih m (Nat.lt_succ_self m) _ _ ⟨w64 (i + 1), s3.1, s3.2, hE.sel [2, 7, 8, 9, 10, 11] (by kernel_rfl), H.t2.t2.t2, hm⟩
      · replace hm := cond_f c hm
        refine Runs.exit rfl ?_
        cases hm
        exact hk _ _ ⟨_, rfl, hE.sel [7] (by kernel_rfl), H.x0.t1.t1⟩
  rintro a w ⟨s1, rfl, hE, H⟩
  replace hm := hR; dsimp only at hm
  refine Runs.seq ?_
  refine Runs.region ?_
  refine WR.seg hE 3 [] [6] (Lo := [(6, .bool true)]) (obs := []) rfl (by kernel_rfl) trivial fun a hE => ?_
  refine WR.done rfl ?_
  refine Runs.ret hE Try.func19 rfl rfl ?_
  cases hm
  exact ⟨rfl, H.x0⟩

theorem thicketlaw23_MailNumbers_ok {w0 w : World} {As : List HP} {k : Nat}  {t : Bool}  (hm : thicketlaw23_MailNumbers k = some t) (H : St w0 (As) w) :
    CallsR Try.prog 5 #[] w fun v w' => v = .bool t ∧ St w0 (As) w' := by
  rw [thicketlaw23_MailNumbers] at hm
  refine enter (args := []) Try.func5 rfl rfl rfl fun a hE => ?_
  refine Runs.seq ?_
  refine Runs.region ?_
  refine WR.seg hE 1 [] [] (Lo := []) (obs := []) rfl (by kernel_rfl) trivial fun a hE => ?_
  refine WR.done rfl ?_
  refine Runs.seq ?_
  refine Runs.region ?_
  refine WR.seg hE 1 [] [1] (Lo := [(1, .slice none 0 0)]) (obs := []) rfl (by kernel_rfl) trivial fun a hE => ?_
  refine WR.done rfl ?_
  refine Runs.seq ?_
  refine Runs.seq ?_
  refine Runs.region ?_
  refine WR.seg hE 1 [] [1, 2] (Lo := [(1, .slice none 0 0), (2, .int .i64 0)]) (obs := []) rfl (by kernel_rfl) trivial fun a hE => ?_
  refine WR.done rfl ?_
  obtain ⟨s, es, hm⟩ := bind_some hm
  refine Runs.join (fun a w => ∃ (sb1 : Option Addr), ∃ (sc1 : Nat), EnvOk 37 a [(1, .slice sb1 s.length sc1)] ∧ St w0 (Sl 47 thicketlaw23_Ask.enc 3 sb1 sc1 s :: As) w) (fun hk => ?_) ?_
  · replace hm := es; clear es
    replace H := H.slNil 47 thicketlaw23_Ask.enc 3
    refine Runs.block ?_
    refine Runs.loop (fun m a w => ∃ (l : List thicketlaw23_Ask), ∃ (i : Int), ∃ (sb2 : Option Addr), ∃ (sc2 : Nat), EnvOk 37 a [(1, .slice sb2 l.length sc2), (2, .int .i64 i)] ∧ St w0 (Sl 47 thicketlaw23_Ask.enc 3 sb2 sc2 l :: As) w ∧ thicketlaw23_MailNumbers_l0 m l i = some s) k ⟨([] : List thicketlaw23_Ask), 0, none, 0, hE.sel [1, 2] (by kernel_rfl), H, hm⟩ ?_
    rintro m ih a w ⟨l, i, sb2, sc2, hE, H, hm⟩
    cases m with
    | zero => simp [thicketlaw23_MailNumbers_l0] at hm
    | succ m =>
      rw [thicketlaw23_MailNumbers_l0] at hm
      refine Runs.seq ?_
      refine Runs.seq ?_
      refine Runs.region ?_
      refine WR.seg hE 2 [] [1, 2, 6] (Lo := [(1, .slice sb2 l.length sc2), (2, .int .i64 i), (6, .bool (decide (i < 90)))]) (obs := []) rfl (by kernel_rfl) trivial fun a hE => ?_
      refine WR.done rfl ?_
      refine Runs.cond hE rfl (fun c => ?_) (fun c => ?_)
      · replace hm := cond_t c hm
        refine Runs.skip ?_
        refine Runs.seq ?_
        refine Runs.block ?_
        refine Runs.region ?_
        refine WR.seg hE 1 [] [1, 2, 9] (Lo := [(1, .slice sb2 l.length sc2), (2, .int .i64 i), (9, .slice sb2 l.length sc2)]) (obs := []) rfl (by kernel_rfl) trivial fun a hE => ?_
        refine WR.eff hE rfl rfl rfl rfl (OpTo.buildSl (T := 3) hE H encI_ok ([0, 0, 0, 3, 0, 0, 4, 0] : List Int) rfl (fun _ => by kernel_rfl) rfl rfl rfl) ?_
        rintro _ w ⟨r, rfl, H⟩ a hE
        obtain ⟨x, ex, hm⟩ := bind_some hm
        obtain ⟨b, o, hs, hb⟩ := SlRd.base (sl_rd 3 encI 1 _ _ _) encI_ok H 0 rfl ex
        refine WR.seg hE 12 [.pointer (some ⟨b, o, none⟩), .int .i64 x] [1, 2, 9, 20] (Lo := [(1, .slice sb2 l.length sc2), (2, .int .i64 i), (9, .slice sb2 l.length sc2), (20, .agg #[.int .i64 x, .int .i64 (w64 ((Int.tmod (w64 (i * 5)) 7) - 1)), .int .i64 i])]) (obs := [.p ((8 : Int) ≠ 0), .p (((some ⟨r, 0, none⟩) : Option Addr) = some ⟨b, o, none⟩), .p (0 ≤ ((Int.tmod i 8) : Int) ∧ ((Int.tmod i 8) : Int) < ((([0, 0, 0, 3, 0, 0, 4, 0] : List Int).length : Nat) : Int)), .cell ⟨b, o + (Int.toNat (Int.tmod i 8)) * 1, none⟩ (.int .i64 x), .p ((7 : Int) ≠ 0)]) rfl (by kernel_rfl) ⟨(by show _ ≠ _; decide), hs, hb, SlRd.cells (sl_rd 3 encI 1 _ _ _) encI_ok H 0 rfl hs ex 0 _ rfl, (by show _ ≠ _; decide), trivial⟩ fun a hE => ?_
        refine WR.eff hE rfl rfl rfl rfl (OpTo.buildSl (T := 47) hE H thicketlaw23_Ask.enc_ok ([thicketlaw23_Ask.mk x (w64 ((Int.tmod (w64 (i * 5)) 7) - 1)) i] : List thicketlaw23_Ask) rfl (fun _ => by kernel_rfl) rfl rfl rfl) ?_
        rintro _ w ⟨r1, rfl, H⟩ a hE
        obtain ⟨l1, el1, hm⟩ := bind_some hm
        replace H := H.t2
        refine WR.eff hE rfl rfl rfl rfl (OpTo.appendM el1 hE H thicketlaw23_Ask.enc_ok rfl rfl rfl rfl rfl rfl rfl rfl rfl rfl (SlRd.all (sl_rd 47 thicketlaw23_Ask.enc 3 _ _ _) thicketlaw23_Ask.enc_ok H 1 rfl) rfl) ?_
        rintro _ w ⟨sb3, sc3, rfl, H⟩ a hE
        refine WR.seg hE 15 [] [1, 2] (Lo := [(1, .slice sb3 l1.length sc3), (2, .int .i64 i)]) (obs := []) rfl (by kernel_rfl) trivial fun a hE => ?_
        refine WR.done rfl ?_
        refine Runs.inBlock ?_
        refine Runs.region ?_
        refine WR.seg hE 3 [] [1, 2] (Lo := [(1, .slice sb3 l1.length sc3), (2, .int .i64 (w64 (i + 1)))]) (obs := []) rfl (by kernel_rfl) trivial fun a hE => ?_
        refine WR.done rfl ?_
        exact ih m (Nat.lt_succ_self m) _ _ ⟨l1, w64 (i + 1), sb3, sc3, hE.sel [1, 2] (by kernel_rfl), H.x2.x1, hm⟩
      · replace hm := cond_f c hm
        refine Runs.exit rfl ?_
        cases hm
        exact hk _ _ ⟨sb2, sc2, hE.sel [1] (by kernel_rfl), H⟩
  rintro a w ⟨sb1, sc1, hE, H⟩
  refine Runs.seq ?_
  refine Runs.seq ?_
  refine Runs.region ?_
  refine WR.seg hE 1 [] [1, 3] (Lo := [(1, .slice sb1 s.length sc1), (3, .int .i64 (-1))]) (obs := []) rfl (by kernel_rfl) trivial fun a hE => ?_
  refine WR.done rfl ?_
  obtain ⟨s1, es1, hR⟩ := bind_some hm
  refine Runs.join (fun a w => ∃ s2, s1 = Sum.inr s2 ∧ EnvOk 37 a [] ∧ St w0 (As) w) (fun hk => ?_) ?_
  · replace hm := es1; clear es1
    refine Runs.block ?_
    refine Runs.loop (fun m a w => ∃ (boxes : Int), EnvOk 37 a [(1, .slice sb1 s.length sc1), (3, .int .i64 boxes)] ∧ St w0 (Sl 47 thicketlaw23_Ask.enc 3 sb1 sc1 s :: As) w ∧ thicketlaw23_MailNumbers_l1 s m boxes = some s1) k ⟨(-1), hE.sel [1, 3] (by kernel_rfl), H, hm⟩ ?_
    rintro m ih a w ⟨boxes, hE, H, hm⟩
    cases m with
    | zero => simp [thicketlaw23_MailNumbers_l1] at hm
    | succ m =>
      rw [thicketlaw23_MailNumbers_l1] at hm
      refine Runs.seq ?_
      refine Runs.seq ?_
      refine Runs.region ?_
      refine WR.seg hE 2 [] [1, 3, 24] (Lo := [(1, .slice sb1 s.length sc1), (3, .int .i64 boxes), (24, .bool (decide (boxes < 7)))]) (obs := []) rfl (by kernel_rfl) trivial fun a hE => ?_
      refine WR.done rfl ?_
      refine Runs.cond hE rfl (fun c => ?_) (fun c => ?_)
      · replace hm := cond_t c hm
        refine Runs.skip ?_
        refine Runs.seq ?_
        refine Runs.block ?_
        refine Runs.seq ?_
        refine Runs.region ?_
        refine WR.seg hE 1 [] [1, 3, 4] (Lo := [(1, .slice sb1 s.length sc1), (3, .int .i64 boxes), (4, .int .i64 0)]) (obs := []) rfl (by kernel_rfl) trivial fun a hE => ?_
        refine WR.done rfl ?_
        obtain ⟨s3, es3, hR1⟩ := bind_some hm
        refine Runs.join (fun a w => ∃ s4, s3 = Sum.inr s4 ∧ EnvOk 37 a [(1, .slice sb1 s.length sc1), (3, .int .i64 boxes)] ∧ St w0 (Sl 47 thicketlaw23_Ask.enc 3 sb1 sc1 s :: As) w) (fun hk => ?_) ?_
        · replace hm := es3; clear es3
          refine Runs.block ?_
          refine Runs.loop (fun m a w => ∃ (room : Int), EnvOk 37 a [(1, .slice sb1 s.length sc1), (3, .int .i64 boxes), (4, .int .i64 room)] ∧ St w0 (Sl 47 thicketlaw23_Ask.enc 3 sb1 sc1 s :: As) w ∧ thicketlaw23_MailNumbers_l2 boxes s m room = some s3) m ⟨0, hE.sel [1, 3, 4] (by kernel_rfl), H, hm⟩ ?_
          rintro m ih a w ⟨room, hE, H, hm⟩
          cases m with
          | zero => simp [thicketlaw23_MailNumbers_l2] at hm
          | succ m =>
            rw [thicketlaw23_MailNumbers_l2] at hm
            refine Runs.seq ?_
            refine Runs.seq ?_
            refine Runs.region ?_
            refine WR.seg hE 2 [] [1, 3, 4, 28] (Lo := [(1, .slice sb1 s.length sc1), (3, .int .i64 boxes), (4, .int .i64 room), (28, .bool (decide (room < 4)))]) (obs := []) rfl (by kernel_rfl) trivial fun a hE => ?_
            refine WR.done rfl ?_
            refine Runs.cond hE rfl (fun c => ?_) (fun c => ?_)
            · replace hm := cond_t c hm
              refine Runs.skip ?_
              refine Runs.seq ?_
              refine Runs.block ?_
              refine Runs.seq ?_
              refine Runs.region ?_
              refine WR.seg hE 3 [] [1, 3, 4, 31, 32, 33] (Lo := [(1, .slice sb1 s.length sc1), (3, .int .i64 boxes), (4, .int .i64 room), (31, .int .i64 boxes), (32, .int .i64 room), (33, .slice sb1 s.length sc1)]) (obs := []) rfl (by kernel_rfl) trivial fun a hE => ?_
              obtain ⟨t_, et_, hm⟩ := bind_some hm
              refine WR.eff hE rfl rfl rfl rfl (OpTo.fn hE rfl rfl Try.call19 (thicketlaw23_play_ok (hX_l := (sl_rd 47 thicketlaw23_Ask.enc 3 _ _ _)) (hC_l := (H.slCap 0 rfl).1) et_ H)) ?_
              rintro _ w ⟨rfl, H⟩ a hE
              refine WR.seg hE 5 [] [1, 3, 4, 35] (Lo := [(1, .slice sb1 s.length sc1), (3, .int .i64 boxes), (4, .int .i64 room), (35, .bool (!t_))]) (obs := []) rfl (by kernel_rfl) trivial fun a hE => ?_
              refine WR.done rfl ?_
              refine Runs.cond hE rfl (fun c => ?_) (fun c => ?_)
              · replace hm := cond_t c hm
                refine Runs.seq ?_
                refine Runs.region ?_
                refine WR.seg hE 1 [] [0] (Lo := [(0, .bool false)]) (obs := []) rfl (by kernel_rfl) trivial fun a hE => ?_
                refine WR.done rfl ?_
                refine Runs.ret hE Try.func5 rfl rfl ?_
                cases hm
                dsimp only at hR1; cases hR1
                dsimp only at hR; cases hR
                exact ⟨rfl, H.x0⟩
              · replace hm := cond_f c hm
                refine Runs.skip ?_
                refine Runs.inBlock ?_
                refine Runs.region ?_
                refine WR.seg hE 3 [] [1, 3, 4] (Lo := [(1, .slice sb1 s.length sc1), (3, .int .i64 boxes), (4, .int .i64 (w64 (room + 1)))]) (obs := []) rfl (by kernel_rfl) trivial fun a hE => ?_
                refine WR.done rfl ?_
                exact ih m (Nat.lt_succ_self m) _ _ ⟨w64 (room + 1), hE.sel [1, 3, 4] (by kernel_rfl), H, hm⟩
            · replace hm := cond_f c hm
              refine Runs.exit rfl ?_
              cases hm
              exact hk _ _ ⟨_, rfl, hE.sel [1, 3] (by kernel_rfl), H⟩
        rintro a w ⟨s4, rfl, hE, H⟩
        replace hm := hR1; dsimp only at hm
        refine Runs.inBlock ?_
        refine Runs.region ?_
        refine WR.seg hE 3 [] [1, 3] (Lo := [(1, .slice sb1 s.length sc1), (3, .int .i64 (w64 (boxes + 1)))]) (obs := []) rfl (by kernel_rfl) trivial fun a hE => ?_
        refine WR.done rfl ?_
        exact ih m (Nat.lt_succ_self m) _ _ ⟨w64 (boxes + 1), hE.sel [1, 3] (by kernel_rfl), H, hm⟩
      · replace hm := cond_f c hm
        refine Runs.exit rfl ?_
        cases hm
        exact hk _ _ ⟨_, rfl, hE.sel [] (by kernel_rfl), H.x0⟩
  rintro a w ⟨s2, rfl, hE, H⟩
  replace hm := hR; dsimp only at hm
  refine Runs.seq ?_
  refine Runs.region ?_
  obtain ⟨t_1, et_1, hm⟩ := bind_some hm
  refine WR.eff hE rfl rfl rfl rfl (OpTo.fn hE rfl rfl Try.call13 (thicketlaw23_known_ok et_1 H)) ?_
  rintro _ w ⟨rfl, H⟩ a hE
  refine WR.seg hE 2 [] [0] (Lo := [(0, .bool t_1)]) (obs := []) rfl (by kernel_rfl) trivial fun a hE => ?_
  refine WR.done rfl ?_
  refine Runs.ret hE Try.func5 rfl rfl ?_
  cases hm
  exact ⟨rfl, H⟩

theorem thicketlaw23_MailPlays_ok {w0 w : World} {As : List HP} {k : Nat} {boxes : Int} {room : Int} {sb_l : Option Addr} {sc_l : Nat} {l : List thicketlaw23_Ask} {X_l : HP} {t : Bool} (hX_l : SlRd X_l thicketlaw23_Ask.enc 3 sb_l l) (hC_l : l.length ≤ sc_l) (hm : thicketlaw23_MailPlays k boxes room l = some t) (H : St w0 (X_l :: As) w) :
    CallsR Try.prog 6 #[.int .i64 boxes, .int .i64 room, .slice sb_l l.length sc_l] w fun v w' => v = .bool t ∧ St w0 (X_l :: As) w' := by
  rw [thicketlaw23_MailPlays] at hm
  refine enter (args := [.int .i64 boxes, .int .i64 room, .slice sb_l l.length sc_l]) Try.func6 rfl rfl rfl fun a hE => ?_
  refine Runs.seq ?_
  refine Runs.region ?_
  refine WR.seg hE 1 [] [0, 1, 2] (Lo := [(0, .int .i64 boxes), (1, .int .i64 room), (2, .slice sb_l l.length sc_l)]) (obs := []) rfl (by kernel_rfl) trivial fun a hE => ?_
  refine WR.done rfl ?_
  refine Runs.seq ?_
  refine Runs.region ?_
  refine WR.seg hE 1 [] [0, 1, 2, 7] (Lo := [(0, .int .i64 boxes), (1, .int .i64 room), (2, .slice sb_l l.length sc_l), (7, .slice none 0 0)]) (obs := []) rfl (by kernel_rfl) trivial fun a hE => ?_
  refine WR.done rfl ?_
  refine Runs.seq ?_
  refine Runs.seq ?_
  refine Runs.region ?_
  refine WR.seg hE 1 [] [0, 1, 2, 7, 8] (Lo := [(0, .int .i64 boxes), (1, .int .i64 room), (2, .slice sb_l l.length sc_l), (7, .slice none 0 0), (8, .int .i64 0)]) (obs := []) rfl (by kernel_rfl) trivial fun a hE => ?_
  refine WR.done rfl ?_
  obtain ⟨s, es, hm⟩ := bind_some hm
  refine Runs.join (fun a w => ∃ (sb1 : Option Addr), ∃ (sc1 : Nat), EnvOk 44 a [(0, .int .i64 boxes), (1, .int .i64 room), (2, .slice sb_l l.length sc_l), (7, .slice sb1 s.length sc1)] ∧ St w0 (Sl 47 thicketlaw23_Ask.enc 3 sb1 sc1 s :: X_l :: As) w) (fun hk => ?_) ?_
  · replace hm := es; clear es
    replace H := H.slNil 47 thicketlaw23_Ask.enc 3
    refine Runs.block ?_
    refine Runs.loop (fun m a w => ∃ (near : List thicketlaw23_Ask), ∃ (i : Int), ∃ (sb2 : Option Addr), ∃ (sc2 : Nat), EnvOk 44 a [(0, .int .i64 boxes), (1, .int .i64 room), (2, .slice sb_l l.length sc_l), (7, .slice sb2 near.length sc2), (8, .int .i64 i)] ∧ St w0 (Sl 47 thicketlaw23_Ask.enc 3 sb2 sc2 near :: X_l :: As) w ∧ thicketlaw23_MailPlays_l0 boxes room l m near i = some s) k ⟨([] : List thicketlaw23_Ask), 0, none, 0, hE.sel [0, 1, 2, 7, 8] (by kernel_rfl), H.t1.t1, hm⟩ ?_
    rintro m ih a w ⟨near, i, sb2, sc2, hE, H, hm⟩
    cases m with
    | zero => simp [thicketlaw23_MailPlays_l0] at hm
    | succ m =>
      rw [thicketlaw23_MailPlays_l0] at hm
      refine Runs.seq ?_
      refine Runs.seq ?_
      refine Runs.region ?_
      refine WR.seg hE 4 [] [0, 1, 2, 7, 8, 13] (Lo := [(0, .int .i64 boxes), (1, .int .i64 room), (2, .slice sb_l l.length sc_l), (7, .slice sb2 near.length sc2), (8, .int .i64 i), (13, .bool (decide (i < (l.length : Int))))]) (obs := []) rfl (by kernel_rfl) trivial fun a hE => ?_
      refine WR.done rfl ?_
      refine Runs.cond hE rfl (fun c => ?_) (fun c => ?_)
      · replace hm := cond_t c hm
        refine Runs.skip ?_
        refine Runs.seq ?_
        refine Runs.block ?_
        refine Runs.seq ?_
        refine Runs.region ?_
        obtain ⟨x, ex, hm⟩ := bind_some hm
        obtain ⟨b, o, hs, hb⟩ := SlRd.base hX_l thicketlaw23_Ask.enc_ok H 1 rfl ex
        refine WR.seg hE 4 [.pointer (some ⟨b, o, none⟩), .int .i64 x.Kind, .int .i64 x.Box, .int .i64 x.V] [0, 1, 2, 7, 8, 19] (Lo := [(0, .int .i64 boxes), (1, .int .i64 room), (2, .slice sb_l l.length sc_l), (7, .slice sb2 near.length sc2), (8, .int .i64 i), (19, .agg #[.int .i64 x.Kind, .int .i64 x.Box, .int .i64 x.V])]) (obs := [.p ((sb_l : Option Addr) = some ⟨b, o, none⟩), .p (0 ≤ (i : Int) ∧ (i : Int) < ((l.length : Nat) : Int)), .cell ⟨b, o + (Int.toNat i) * 3, none⟩ (.int .i64 x.Kind), .cell ⟨b, o + (Int.toNat i) * 3 + 1, none⟩ (.int .i64 x.Box), .cell ⟨b, o + (Int.toNat i) * 3 + 2, none⟩ (.int .i64 x.V)]) rfl (by kernel_rfl) ⟨hs, hb, SlRd.cells hX_l thicketlaw23_Ask.enc_ok H 1 rfl hs ex 0 _ rfl, SlRd.cells hX_l thicketlaw23_Ask.enc_ok H 1 rfl hs ex 1 _ rfl, SlRd.cells hX_l thicketlaw23_Ask.enc_ok H 1 rfl hs ex 2 _ rfl, trivial⟩ fun a hE => ?_
        refine WR.eff hE rfl rfl rfl rfl (OpTo.new hE H [] (.cells #[.int .i64 0, .int .i64 0, .int .i64 0] 47 (0, 0)) (fun r => .pointer (some ⟨r, 0, none⟩)) (obs := []) rfl (fun _ => by kernel_rfl) trivial) ?_
        rintro _ w ⟨r, rfl, H⟩ a hE
        refine WR.eff0 hE rfl rfl rfl (OpTo.store hE H rfl rfl rfl rfl rfl rfl (Nat.le_of_ble_eq_true rfl)) ?_
        rintro _ w H a hE
        refine WR.done rfl ?_
        refine Runs.seq ?_
        refine Runs.region ?_
        refine WR.seg hE 2 [.int .i64 x.Box] [0, 1, 2, 7, 8, 9, 21] (Lo := [(0, .int .i64 boxes), (1, .int .i64 room), (2, .slice sb_l l.length sc_l), (7, .slice sb2 near.length sc2), (8, .int .i64 i), (9, .pointer (some ⟨r, 0, none⟩)), (21, .int .i64 x.Box)]) (obs := [.cell ⟨r, 1, none⟩ (.int .i64 x.Box)]) rfl (by kernel_rfl) ⟨H.cell 0 rfl rfl, trivial⟩ fun a hE => ?_
        obtain ⟨t_, et_, hm⟩ := bind_some hm
        refine WR.eff hE rfl rfl rfl rfl (OpTo.fn hE rfl rfl Try.call14 (thicketbook_Within_ok et_ H)) ?_
        rintro _ w ⟨rfl, H⟩ a hE
        refine WR.seg hE 4 [] [0, 1, 2, 7, 8, 9, 22, 23] (Lo := [(0, .int .i64 boxes), (1, .int .i64 room), (2, .slice sb_l l.length sc_l), (7, .slice sb2 near.length sc2), (8, .int .i64 i), (9, .pointer (some ⟨r, 0, none⟩)), (22, .int .i64 t_), (23, .pointer (some ⟨r, 1, none⟩))]) (obs := []) rfl (by kernel_rfl) trivial fun a hE => ?_
        refine WR.eff0 hE rfl rfl rfl (OpTo.store hE H rfl rfl rfl rfl rfl rfl (Nat.le_of_ble_eq_true rfl)) ?_
        rintro _ w H a hE
        refine WR.done rfl ?_
        refine Runs.region ?_
        refine WR.seg hE 2 [.int .i64 x.Kind, .int .i64 t_, .int .i64 x.V] [0, 1, 2, 7, 8, 24, 25] (Lo := [(0, .int .i64 boxes), (1, .int .i64 room), (2, .slice sb_l l.length sc_l), (7, .slice sb2 near.length sc2), (8, .int .i64 i), (24, .slice sb2 near.length sc2), (25, .agg #[.int .i64 x.Kind, .int .i64 t_, .int .i64 x.V])]) (obs := [.cell ⟨r, 0, none⟩ (.int .i64 x.Kind), .cell ⟨r, 1, none⟩ (.int .i64 t_), .cell ⟨r, 2, none⟩ (.int .i64 x.V)]) rfl (by kernel_rfl) ⟨H.cell 0 rfl rfl, H.cell 0 rfl rfl, H.cell 0 rfl rfl, trivial⟩ fun a hE => ?_
        refine WR.eff hE rfl rfl rfl rfl (OpTo.buildSl (T := 47) hE H thicketlaw23_Ask.enc_ok ([thicketlaw23_Ask.mk x.Kind t_ x.V] : List thicketlaw23_Ask) rfl (fun _ => by kernel_rfl) rfl rfl rfl) ?_
        rintro _ w ⟨r1, rfl, H⟩ a hE
        obtain ⟨l2, el2, hm⟩ := bind_some hm
        replace H := H.t2
        refine WR.eff hE rfl rfl rfl rfl (OpTo.appendM el2 hE H thicketlaw23_Ask.enc_ok rfl rfl rfl rfl rfl rfl rfl rfl rfl rfl (SlRd.all (sl_rd 47 thicketlaw23_Ask.enc 3 _ _ _) thicketlaw23_Ask.enc_ok H 1 rfl) rfl) ?_
        rintro _ w ⟨sb3, sc3, rfl, H⟩ a hE
        refine WR.seg hE 5 [] [0, 1, 2, 7, 8] (Lo := [(0, .int .i64 boxes), (1, .int .i64 room), (2, .slice sb_l l.length sc_l), (7, .slice sb3 l2.length sc3), (8, .int .i64 i)]) (obs := []) rfl (by kernel_rfl) trivial fun a hE => ?_
        refine WR.done rfl ?_
        refine Runs.inBlock ?_
        refine Runs.region ?_
        refine WR.seg hE 3 [] [0, 1, 2, 7, 8] (Lo := [(0, .int .i64 boxes), (1, .int .i64 room), (2, .slice sb_l l.length sc_l), (7, .slice sb3 l2.length sc3), (8, .int .i64 (w64 (i + 1)))]) (obs := []) rfl (by kernel_rfl) trivial fun a hE => ?_
        refine WR.done rfl ?_
        exact ih m (Nat.lt_succ_self m) _ _ ⟨l2, w64 (i + 1), sb3, sc3, hE.sel [0, 1, 2, 7, 8] (by kernel_rfl), H.x2.x1.t1.t1, hm⟩
      · replace hm := cond_f c hm
        refine Runs.exit rfl ?_
        cases hm
        exact hk _ _ ⟨sb2, sc2, hE.sel [0, 1, 2, 7] (by kernel_rfl), H.t1.t1⟩
  rintro a w ⟨sb1, sc1, hE, H⟩
  refine Runs.seq ?_
  obtain ⟨s1, es1, hm⟩ := bind_some hm
  refine Runs.join (fun a w => EnvOk 44 a [(6, .bool s1)] ∧ St w0 (X_l :: As) w) (fun hk => ?_) ?_
  · replace hm := es1; clear es1
    refine Runs.region ?_
    refine WR.seg hE 1 [] [0, 1, 2, 7, 28] (Lo := [(0, .int .i64 boxes), (1, .int .i64 room), (2, .slice sb_l l.length sc_l), (7, .slice sb1 s.length sc1), (28, .int .i64 boxes)]) (obs := []) rfl (by kernel_rfl) trivial fun a hE => ?_
    obtain ⟨t_1, et_1, hm⟩ := bind_some hm
    refine WR.eff hE rfl rfl rfl rfl (OpTo.fn hE rfl rfl Try.call14 (thicketbook_Within_ok et_1 H)) ?_
    rintro _ w ⟨rfl, H⟩ a hE
    refine WR.seg hE 3 [] [0, 1, 2, 7, 29, 30] (Lo := [(0, .int .i64 boxes), (1, .int .i64 room), (2, .slice sb_l l.length sc_l), (7, .slice sb1 s.length sc1), (29, .int .i64 t_1), (30, .int .i64 room)]) (obs := []) rfl (by kernel_rfl) trivial fun a hE => ?_
    obtain ⟨t_2, et_2, hm⟩ := bind_some hm
    refine WR.eff hE rfl rfl rfl rfl (OpTo.fn hE rfl rfl Try.call14 (thicketbook_Within_ok et_2 H)) ?_
    rintro _ w ⟨rfl, H⟩ a hE
    refine WR.seg hE 5 [] [0, 1, 2, 29, 31, 32] (Lo := [(0, .int .i64 boxes), (1, .int .i64 room), (2, .slice sb_l l.length sc_l), (29, .int .i64 t_1), (31, .int .i64 t_2), (32, .slice sb1 s.length sc1)]) (obs := []) rfl (by kernel_rfl) trivial fun a hE => ?_
    obtain ⟨t_3, et_3, hm⟩ := bind_some hm
    refine WR.eff hE rfl rfl rfl rfl (OpTo.fn hE rfl rfl Try.call19 (thicketlaw23_play_ok (hX_l := (sl_rd 47 thicketlaw23_Ask.enc 3 _ _ _)) (hC_l := (H.slCap 0 rfl).1) et_3 H)) ?_
    rintro _ w ⟨rfl, H⟩ a hE
    refine WR.seg hE 7 [] [0, 1, 2, 34] (Lo := [(0, .int .i64 boxes), (1, .int .i64 room), (2, .slice sb_l l.length sc_l), (34, .bool t_3)]) (obs := []) rfl (by kernel_rfl) trivial fun a hE => ?_
    rcases Bool.eq_false_or_eq_true t_3 with c | c
    · replace hE := hE.dec 34 c (by kernel_rfl)
      replace hm := cond_t c hm
      have c_ := c
      refine WR.seg hE 9 [] [2, 34, 35, 36] (Lo := [(2, .slice sb_l l.length sc_l), (34, .bool true), (35, .int .i64 boxes), (36, .int .i64 room)]) (obs := []) rfl (by kernel_rfl) trivial fun a hE => ?_
      obtain ⟨t_4, et_4, hm⟩ := bind_some hm
      refine WR.eff hE rfl rfl rfl rfl (OpTo.fn hE rfl rfl Try.call14 (thicketbook_Within_ok et_4 H)) ?_
      rintro _ w ⟨rfl, H⟩ a hE
      refine WR.seg hE 11 [] [34, 35, 37, 38] (Lo := [(34, .bool true), (35, .int .i64 boxes), (37, .int .i64 t_4), (38, .slice sb_l l.length sc_l)]) (obs := []) rfl (by kernel_rfl) trivial fun a hE => ?_
      obtain ⟨t_5, et_5, hm⟩ := bind_some hm
      replace H := H.t1
      refine WR.eff hE rfl rfl rfl rfl (OpTo.fn hE rfl rfl Try.call19 (thicketlaw23_play_ok (hX_l := hX_l) (hC_l := hC_l) et_5 H)) ?_
      rintro _ w ⟨rfl, H⟩ a hE
      refine WR.seg hE 14 [] [41] (Lo := [(41, .bool t_5)]) (obs := []) rfl (by kernel_rfl) trivial fun a hE => ?_
      rcases Bool.eq_false_or_eq_true t_5 with c | c
      · replace hE := hE.dec 41 c (by kernel_rfl)
        replace hm := cond_t c hm
        have c_1 := c
        obtain ⟨t_6, et_6, hm⟩ := bind_some hm
        refine WR.eff hE rfl rfl rfl rfl (OpTo.fn hE rfl rfl Try.call13 (thicketlaw23_known_ok et_6 H)) ?_
        rintro _ w ⟨rfl, H⟩ a hE
        refine WR.seg hE 17 [] [6] (Lo := [(6, .bool t_6)]) (obs := []) rfl (by kernel_rfl) trivial fun a hE => ?_
        refine WR.done rfl ?_
        cases hm
        exact hk _ _ ⟨hE.sel [6] (by kernel_rfl), H.x1⟩
      · replace hE := hE.dec 41 c (by kernel_rfl)
        replace hm := cond_f c hm
        have c_2 := c
        refine WR.seg hE 17 [] [6] (Lo := [(6, .bool false)]) (obs := []) rfl (by kernel_rfl) trivial fun a hE => ?_
        refine WR.done rfl ?_
        cases hm
        exact hk _ _ ⟨hE.sel [6] (by kernel_rfl), H.x1⟩
    · replace hE := hE.dec 34 c (by kernel_rfl)
      replace hm := cond_f c hm
      have c_3 := c
      refine WR.seg hE 17 [] [6] (Lo := [(6, .bool false)]) (obs := []) rfl (by kernel_rfl) trivial fun a hE => ?_
      refine WR.done rfl ?_
      cases hm
      exact hk _ _ ⟨hE.sel [6] (by kernel_rfl), H.x0⟩
  rintro a w ⟨hE, H⟩
  refine Runs.ret hE Try.func6 rfl rfl ?_
  cases hm
  exact ⟨rfl, H⟩

end Go.Proofs.Ytlcllmgpmhjomaa
