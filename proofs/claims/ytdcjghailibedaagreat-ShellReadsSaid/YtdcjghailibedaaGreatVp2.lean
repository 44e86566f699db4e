import Derived.Test.YtdcjghailibedaaGreatVp1
set_option linter.unusedVariables false
set_option linter.unusedSimpArgs false
set_option maxRecDepth 10000
set_option maxHeartbeats 4000000
namespace Go.Proofs.YtdcjghailibedaaGreat
open Go.Th

theorem thicketlaw28_parse_ok {w0 w : World} {As : List HP} {k : Nat} {sb_b : Option Addr} {sc_b : Nat} {b : List Int} {X_b : HP} {t : shell_Script × Bool} (hX_b : SlRd X_b ecU 1 sb_b b) (hC_b : b.length ≤ sc_b) (hm : thicketlaw28_parse k b = some t) (H : St w0 (X_b :: As) w) :
    CallsR Tryz.prog 39 #[.slice sb_b b.length sc_b] w fun v w' => ∃ (sb0_Acts : Option Addr), ∃ (sc0_Acts : Nat), v = .tuple #[.agg #[.int .i64 t.1.Kind, .int .i64 t.1.Jobs, .int .i64 t.1.Boxes, .int .i64 t.1.Room, .slice sb0_Acts t.1.Acts.length sc0_Acts], .bool t.2] ∧ St w0 (Sl 42 api_Act.enc 8 sb0_Acts sc0_Acts t.1.Acts :: X_b :: As) w' := by
 rw [thicketlaw28_parse] at hm
 refine enter (args := [.slice sb_b b.length sc_b]) Tryz.func39 rfl rfl rfl fun a hE => ?_
 refine Runs.sr ?_
 refine WR.eff hE rfl rfl rfl rfl (OpTo.new hE H [] (.cells #[.int .i64 0, .int .i64 0, .int .i64 0, .int .i64 0, .slice none 0 0] 45 (0, 0)) (fun r => .pointer (some ⟨r, 0, none⟩)) (obs := []) rfl (fun _ => by kernel_rfl) trivial) ?_
 rintro _ w ⟨r, rfl, H⟩ a hE
 refine WR.seg hE 2 [] [0, 2] (Lo := [(0, .slice sb_b b.length sc_b), (2, .pointer (some ⟨r, 0, none⟩))]) (obs := []) rfl (by kernel_rfl) trivial fun a hE => ?_
 refine WR.done rfl ?_
 refine Runs.seq ?_
 refine Runs.sr ?_
 refine WR.e0 hE [(10, .bool (decide ((b.length : Int) < 5)))] fun a hE => ?_
 refine Runs.cond hE rfl (fun c => ?_) (fun c => ?_)
 ·replace hm := cond_t c hm
  refine Runs.sr ?_
  refine WR.d0 hE 1 [(11, .agg #[.int .i64 0, .int .i64 0, .int .i64 0, .int .i64 0, .slice none 0 0])] fun a hE => ?_
  refine WR.eff0 hE rfl rfl rfl (OpTo.store hE H rfl rfl rfl rfl rfl rfl (Nat.le_of_ble_eq_true rfl)) ?_
  rintro _ w H a hE
  refine WR.e0 hE [(3, .bool false)] fun a hE => ?_
  refine Runs.retO (vs := [.agg #[.int .i64 0, .int .i64 0, .int .i64 0, .int .i64 0, .slice none 0 0], .bool false]) (obs := [.cell ⟨r, 0, none⟩ (.int .i64 0), .cell ⟨r, 1, none⟩ (.int .i64 0), .cell ⟨r, 2, none⟩ (.int .i64 0), .cell ⟨r, 3, none⟩ (.int .i64 0), .cell ⟨r, 4, none⟩ (.slice none 0 0)]) hE Tryz.func39 rfl [.int .i64 0, .int .i64 0, .int .i64 0, .int .i64 0, .slice none 0 0] (by kernel_rfl) ⟨H.cell 0 rfl rfl, H.cell 0 rfl rfl, H.cell 0 rfl rfl, H.cell 0 rfl rfl, H.cell 0 rfl rfl, trivial⟩ ?_
  replace H := H.slNil 42 api_Act.enc 8
  cases hm
  exact ⟨none, 0, rfl, H.x1.t1.t1⟩
 ·replace hm := cond_f c hm
  refine Runs.skip ?_
  refine Runs.seq ?_
  refine Runs.drawn mixed (by kernel_rfl) ?_
  replace H := H.drew
  obtain ⟨x, ex, hm⟩ := bind_some hm
  obtain ⟨b1, o, hs, hb⟩ := SlRd.base hX_b ecU_ok H 1 rfl ex
  obtain ⟨x1, ex1, hm⟩ := bind_some hm
  obtain ⟨b2, o1, hs1, hb1⟩ := SlRd.base hX_b ecU_ok H 1 rfl ex1
  obtain ⟨x2, ex2, hm⟩ := bind_some hm
  obtain ⟨b3, o2, hs2, hb2⟩ := SlRd.base hX_b ecU_ok H 1 rfl ex2
  obtain ⟨x3, ex3, hm⟩ := bind_some hm
  obtain ⟨b4, o3, hs3, hb3⟩ := SlRd.base hX_b ecU_ok H 1 rfl ex3
  obtain ⟨x4, ex4, hm⟩ := bind_some hm
  obtain ⟨b5, o4, hs4, hb4⟩ := SlRd.base hX_b ecU_ok H 1 rfl ex4
  refine WQ.d hE [0, 1, 2, 3, 4, 5, 6, 7, 8, 9, 10, 11, 12, 13, 14, 15, 16, 17, 18, 19, 20, 21, 22] [.pointer (some ⟨b1, o, none⟩), .int .u8 x, .pointer (some ⟨b2, o1, none⟩), .int .u8 x1, .pointer (some ⟨b3, o2, none⟩), .int .u8 x2, .pointer (some ⟨b4, o3, none⟩), .int .u8 x3, .pointer (some ⟨b5, o4, none⟩), .int .u8 x4] [(34, .agg #[.int .i64 (w64 (x)), .int .i64 (IntKind.wrap .i64 ((BitVec.ofInt 64 (w64 ((w64 (x1)) * 2 ^ (min (Int.toNat 8) 64))) ||| BitVec.ofInt 64 (w64 (x2))).toNat : Int)), .int .i64 (w64 (x3)), .int .i64 (w64 (x4)), .slice none 0 0])] (obs := [.p ((sb_b : Option Addr) = some ⟨b1, o, none⟩), .p (0 ≤ (0 : Int) ∧ (0 : Int) < ((b.length : Nat) : Int)), .cell ⟨b1, o + (Int.toNat 0) * 1, none⟩ (.int .u8 x), .p ((sb_b : Option Addr) = some ⟨b2, o1, none⟩), .p (0 ≤ (1 : Int) ∧ (1 : Int) < ((b.length : Nat) : Int)), .cell ⟨b2, o1 + (Int.toNat 1) * 1, none⟩ (.int .u8 x1), .p (0 ≤ (8 : Int)), .p ((sb_b : Option Addr) = some ⟨b3, o2, none⟩), .p (0 ≤ (2 : Int) ∧ (2 : Int) < ((b.length : Nat) : Int)), .cell ⟨b3, o2 + (Int.toNat 2) * 1, none⟩ (.int .u8 x2), .p ((sb_b : Option Addr) = some ⟨b4, o3, none⟩), .p (0 ≤ (3 : Int) ∧ (3 : Int) < ((b.length : Nat) : Int)), .cell ⟨b4, o3 + (Int.toNat 3) * 1, none⟩ (.int .u8 x3), .p ((sb_b : Option Addr) = some ⟨b5, o4, none⟩), .p (0 ≤ (4 : Int) ∧ (4 : Int) < ((b.length : Nat) : Int)), .cell ⟨b5, o4 + (Int.toNat 4) * 1, none⟩ (.int .u8 x4)]) ⟨hs, hb, SlRd.cells hX_b ecU_ok H 1 rfl hs ex 0 _ rfl, hs1, hb1, SlRd.cells hX_b ecU_ok H 1 rfl hs1 ex1 0 _ rfl, (by show _ ≤ _; decide), hs2, hb2, SlRd.cells hX_b ecU_ok H 1 rfl hs2 ex2 0 _ rfl, hs3, hb3, SlRd.cells hX_b ecU_ok H 1 rfl hs3 ex3 0 _ rfl, hs4, hb4, SlRd.cells hX_b ecU_ok H 1 rfl hs4 ex4 0 _ rfl, trivial⟩ fun a hE => ?_
  refine WQ.eff (j := 23) (obs := [.cell ⟨b5, o4 + (Int.toNat 4) * 1, none⟩ (.int .u8 x4), .p ((sb_b : Option Addr) = some ⟨b5, o4, none⟩), .p (0 ≤ (4 : Int) ∧ (4 : Int) < ((b.length : Nat) : Int)), .cell ⟨b4, o3 + (Int.toNat 3) * 1, none⟩ (.int .u8 x3), .p ((sb_b : Option Addr) = some ⟨b4, o3, none⟩), .p (0 ≤ (3 : Int) ∧ (3 : Int) < ((b.length : Nat) : Int)), .cell ⟨b3, o2 + (Int.toNat 2) * 1, none⟩ (.int .u8 x2), .p ((sb_b : Option Addr) = some ⟨b3, o2, none⟩), .p (0 ≤ (2 : Int) ∧ (2 : Int) < ((b.length : Nat) : Int)), .p (0 ≤ (8 : Int)), .cell ⟨b2, o1 + (Int.toNat 1) * 1, none⟩ (.int .u8 x1), .p ((sb_b : Option Addr) = some ⟨b2, o1, none⟩), .p (0 ≤ (1 : Int) ∧ (1 : Int) < ((b.length : Nat) : Int)), .cell ⟨b1, o + (Int.toNat 0) * 1, none⟩ (.int .u8 x), .p ((sb_b : Option Addr) = some ⟨b1, o, none⟩), .p (0 ≤ (0 : Int) ∧ (0 : Int) < ((b.length : Nat) : Int))]) hE (by kernel_rfl) rfl rfl rfl rfl (by kernel_rfl) (OpTo.new hE H [] (.cells #[.int .i64 0, .int .i64 0, .int .i64 0, .int .i64 0, .slice none 0 0] 45 (0, 0)) (fun r => .pointer (some ⟨r, 0, none⟩)) (obs := []) rfl (fun _ => by kernel_rfl) trivial) ?_
  rintro _ w ⟨r1, rfl, H⟩
  refine ⟨⟨SlRd.cells hX_b ecU_ok H 2 rfl hs4 ex4 0 _ rfl, hs4, hb4, SlRd.cells hX_b ecU_ok H 2 rfl hs3 ex3 0 _ rfl, hs3, hb3, SlRd.cells hX_b ecU_ok H 2 rfl hs2 ex2 0 _ rfl, hs2, hb2, (by show _ ≤ _; decide), SlRd.cells hX_b ecU_ok H 2 rfl hs1 ex1 0 _ rfl, hs1, hb1, SlRd.cells hX_b ecU_ok H 2 rfl hs ex 0 _ rfl, hs, hb, trivial⟩, fun a hE => ?_⟩
  refine WQ.eff0 (j := 24) (obs := []) hE (by kernel_rfl) rfl rfl rfl (by kernel_rfl) (OpTo.store hE H rfl rfl rfl rfl rfl rfl (Nat.le_of_ble_eq_true rfl)) ?_
  rintro _ w H
  refine ⟨trivial, fun a hE => ?_⟩
  refine WQ.done (by kernel_rfl) ?_
  refine Runs.sr ?_
  obtain ⟨l, el, hm⟩ := bind_some hm
  obtain ⟨sb, q⟩ : ∃ z, rebase sb_b sc_b (Int.toNat 5) 1 = z := ⟨_, rfl⟩
  obtain ⟨sc, q1⟩ : ∃ z, sc_b - (Int.toNat 5) = z := ⟨_, rfl⟩
  refine WR.e hE [.slice sb l.length sc] [(0, .slice sb l.length sc)] (obs := [.p (rebase sb_b sc_b (Int.toNat 5) 1 = sb), .p (b.length - (Int.toNat 5) = l.length), .p (sc_b - (Int.toNat 5) = sc), .p (0 ≤ (5 : Int) ∧ (5 : Int) ≤ ((b.length : Nat) : Int))]) ⟨q, cut_len el, q1, cut_bd0 el, trivial⟩ fun a hE => ?_
  refine Runs.seq ?_
  replace H := H.slNil 42 api_Act.enc 8
  replace H := shell_Script.shut (shell_Script.A.mk none 0) (shell_Script.mk (w64 (x)) (IntKind.wrap .i64 ((BitVec.ofInt 64 (w64 ((w64 (x1)) * 2 ^ (min (Int.toNat 8) 64))) ||| BitVec.ofInt 64 (w64 (x2))).toNat : Int)) (w64 (x3)) (w64 (x4)) ([] : List api_Act)) H.t1
  replace H := H.slNil 42 api_Act.enc 8
  replace H := shell_Script.shut (shell_Script.A.mk none 0) (shell_Script.mk 0 0 0 0 ([] : List api_Act)) H.t2
  obtain ⟨s, es, hm⟩ := bind_some hm
  refine Runs.join (fun a w => ∃ (z2 : Option Addr), ∃ (z3 : Nat), EnvOk 104 a [(2, .pointer (some ⟨r, 0, none⟩)), (4, .pointer (some ⟨r1, 0, none⟩))] ∧ St w0 (shell_Script.R r (shell_Script.A.mk none 0) (shell_Script.mk 0 0 0 0 ([] : List api_Act)) :: shell_Script.R r1 (shell_Script.A.mk z2 z3) s :: X_b :: As) w) (fun hk => ?_) ?_
  ·replace hm := es; clear es
   refine Runs.block ?_
   refine Runs.loop (fun m a w => ∃ (b6 : List Int), ∃ (m_ : shell_Script), ∃ (sb2 : Option Addr), ∃ (sc2 : Nat), ∃ (z4 : Option Addr), ∃ (z5 : Nat), EnvOk 104 a [(0, .slice sb2 b6.length sc2), (2, .pointer (some ⟨r, 0, none⟩)), (4, .pointer (some ⟨r1, 0, none⟩))] ∧ (SlRd X_b ecU 1 sb2 b6) ∧ (b6.length ≤ sc2) ∧ St w0 (shell_Script.R r (shell_Script.A.mk none 0) (shell_Script.mk 0 0 0 0 ([] : List api_Act)) :: shell_Script.R r1 (shell_Script.A.mk z4 z5) m_ :: X_b :: As) w ∧ thicketlaw28_parse_l0 (shell_Script.mk 0 0 0 0 ([] : List api_Act)) b m b6 m_ = some s) k ⟨l, shell_Script.mk (w64 (x)) (IntKind.wrap .i64 ((BitVec.ofInt 64 (w64 ((w64 (x1)) * 2 ^ (min (Int.toNat 8) 64))) ||| BitVec.ofInt 64 (w64 (x2))).toNat : Int)) (w64 (x3)) (w64 (x4)) ([] : List api_Act), sb, sc, none, 0, hE.sel [0, 2, 4] (by kernel_rfl), (hX_b.cut' ecU_ok el (hC_b) q), (cut_cap2 el hC_b q1), H.t2.t2.t2, hm⟩ ?_
   rintro m ih a w ⟨b6, m_, sb2, sc2, z4, z5, hE, hX1, hC1, H, hm⟩
   cases m with
   | zero => simp [thicketlaw28_parse_l0] at hm
   | succ m =>
    rw [thicketlaw28_parse_l0] at hm
    refine Runs.seq ?_
    refine Runs.seq ?_
    obtain ⟨s1, es1, hm⟩ := bind_some hm
    refine Runs.join (fun a w => EnvOk 104 a [(0, .slice sb2 b6.length sc2), (2, .pointer (some ⟨r, 0, none⟩)), (4, .pointer (some ⟨r1, 0, none⟩)), (45, .bool s1)] ∧ St w0 (shell_Script.R r (shell_Script.A.mk none 0) (shell_Script.mk 0 0 0 0 ([] : List api_Act)) :: shell_Script.R r1 (shell_Script.A.mk z4 z5) m_ :: X_b :: As) w) (fun hk => ?_) ?_
    ·replace hm := es1; clear es1
     refine Runs.region ?_
     refine WR.seg hE 4 [] [0, 2, 4, 40] (Lo := [(0, .slice sb2 b6.length sc2), (2, .pointer (some ⟨r, 0, none⟩)), (4, .pointer (some ⟨r1, 0, none⟩)), (40, .bool (decide ((b6.length : Int) > 0)))]) (obs := []) rfl (by kernel_rfl) trivial fun a hE => ?_
     rcases Bool.eq_false_or_eq_true (decide ((b6.length : Int) > 0)) with c | c
     ·replace hE := hE.dec 40 c (by kernel_rfl)
      replace hm := cond_t c hm
      have c_ := c
      replace H := shell_Script.open H.t1
      try dsimp only at H
      refine WR.e hE [.slice z4 m_.Acts.length z5] [(45, .bool (decide ((m_.Acts.length : Int) < 256)))] (obs := [.cell ⟨r1, 4, none⟩ (.slice z4 m_.Acts.length z5)]) ⟨H.cell 0 rfl rfl, trivial⟩ fun a hE => ?_
      replace H := shell_Script.shut (shell_Script.A.mk z4 z5) (m_) H.t1.t1
      cases hm
      exact hk _ _ ⟨hE.sel [0, 2, 4, 45] (by kernel_rfl), H.t2.t1.t2⟩
     ·replace hE := hE.dec 40 c (by kernel_rfl)
      replace hm := cond_f c hm
      have c_1 := c
      refine WR.e0 hE [(45, .bool false)] fun a hE => ?_
      cases hm
      exact hk _ _ ⟨hE.sel [0, 2, 4, 45] (by kernel_rfl), H.t2.t2.t2⟩
    rintro a w ⟨hE, H⟩
    refine Runs.cond hE rfl (fun c => ?_) (fun c => ?_)
    ·replace hm := cond_t c hm
     refine Runs.skip ?_
     refine Runs.block ?_
     refine Runs.sr ?_
     obtain ⟨x5, ex5, hm⟩ := bind_some hm
     obtain ⟨b7, o5, hs5, hb5⟩ := SlRd.base hX1 ecU_ok H 2 rfl ex5
     refine WR.seg hE 5 [.pointer (some ⟨b7, o5, none⟩), .int .u8 x5] [0, 2, 4, 50] (Lo := [(0, .slice sb2 b6.length sc2), (2, .pointer (some ⟨r, 0, none⟩)), (4, .pointer (some ⟨r1, 0, none⟩)), (50, .agg #[.int .i64 (w64 (x5)), .int .i64 0, .int .i64 0, .int .i64 0, .int .i64 0, .int .i64 0, .int .i64 0, .int .i64 0])]) (obs := [.p ((sb2 : Option Addr) = some ⟨b7, o5, none⟩), .p (0 ≤ (0 : Int) ∧ (0 : Int) < ((b6.length : Nat) : Int)), .cell ⟨b7, o5 + (Int.toNat 0) * 1, none⟩ (.int .u8 x5)]) rfl (by kernel_rfl) ⟨hs5, hb5, SlRd.cells hX1 ecU_ok H 2 rfl hs5 ex5 0 _ rfl, trivial⟩ fun a hE => ?_
     refine WR.eff hE rfl rfl rfl rfl (OpTo.new hE H [] (.cells #[.int .i64 0, .int .i64 0, .int .i64 0, .int .i64 0, .int .i64 0, .int .i64 0, .int .i64 0, .int .i64 0] 42 (0, 0)) (fun r => .pointer (some ⟨r, 0, none⟩)) (obs := []) rfl (fun _ => by kernel_rfl) trivial) ?_
     rintro _ w ⟨r2, rfl, H⟩ a hE
     refine WR.eff0 hE rfl rfl rfl (OpTo.store hE H rfl rfl rfl rfl rfl rfl (Nat.le_of_ble_eq_true rfl)) ?_
     rintro _ w H a hE
     refine WR.done rfl ?_
     refine Runs.sr ?_
     obtain ⟨l2, el2, hm⟩ := bind_some hm
     obtain ⟨sb3, q2⟩ : ∃ z, rebase sb2 sc2 (Int.toNat 1) 1 = z := ⟨_, rfl⟩
     obtain ⟨sc3, q3⟩ : ∃ z, sc2 - (Int.toNat 1) = z := ⟨_, rfl⟩
     refine WR.e hE [.slice sb3 l2.length sc3] [(0, .slice sb3 l2.length sc3)] (obs := [.p (rebase sb2 sc2 (Int.toNat 1) 1 = sb3), .p (b6.length - (Int.toNat 1) = l2.length), .p (sc2 - (Int.toNat 1) = sc3), .p (0 ≤ (1 : Int) ∧ (1 : Int) ≤ ((b6.length : Nat) : Int))]) ⟨q2, cut_len el2, q3, cut_bd0 el2, trivial⟩ fun a hE => ?_
     refine Runs.seq ?_
     refine Runs.seq ?_
     refine Runs.join (fun a w => EnvOk 104 a [(0, .slice sb3 l2.length sc3), (2, .pointer (some ⟨r, 0, none⟩)), (4, .pointer (some ⟨r1, 0, none⟩)), (5, .pointer (some ⟨r2, 0, none⟩)), (60, .bool ((decide (w64 (x5) < 1)) || (decide (w64 (x5) > 4))))] ∧ St w0 (Blk r2 42 [.int .i64 (w64 (x5)), .int .i64 0, .int .i64 0, .int .i64 0, .int .i64 0, .int .i64 0, .int .i64 0, .int .i64 0] :: shell_Script.R r (shell_Script.A.mk none 0) (shell_Script.mk 0 0 0 0 ([] : List api_Act)) :: shell_Script.R r1 (shell_Script.A.mk z4 z5) m_ :: X_b :: As) w) (fun hk => ?_) ?_
     ·clear hm
      refine Runs.region ?_
      refine WR.d hE 4 [.int .i64 (w64 (x5))] [(56, .bool (decide (w64 (x5) < 1)))] (obs := [.cell ⟨r2, 0, none⟩ (.int .i64 (w64 (x5)))]) ⟨H.cell 0 rfl rfl, trivial⟩ fun a hE => ?_
      rcases Bool.eq_false_or_eq_true (decide (w64 (x5) < 1)) with c | c
      ·replace hE := hE.dec 56 c (by kernel_rfl)
       have c_2 := c
       refine WR.e0 hE [(60, .bool true)] fun a hE => ?_
       refine hk _ _ ⟨?_, H.t3.t3.t3.t3⟩
       try rw [c_2] at hE
       try rw [c_2]
       exact hE.sel [0, 2, 4, 5, 60] (by kernel_rfl)
      ·replace hE := hE.dec 56 c (by kernel_rfl)
       have c_3 := c
       refine WR.e hE [.int .i64 (w64 (x5))] [(60, .bool (decide (w64 (x5) > 4)))] (obs := [.cell ⟨r2, 0, none⟩ (.int .i64 (w64 (x5)))]) ⟨H.cell 0 rfl rfl, trivial⟩ fun a hE => ?_
       refine hk _ _ ⟨?_, H.t3.t3.t3.t3⟩
       try rw [c_3] at hE
       try rw [c_3]
       exact hE.sel [0, 2, 4, 5, 60] (by kernel_rfl)
     rintro a w ⟨hE, H⟩
     refine Runs.cond hE rfl (fun c => ?_) (fun c => ?_)
     ·replace hm := cond_t c hm
      refine Runs.exit rfl ?_
      exact ih m (Nat.lt_succ_self m) _ _ ⟨l2, m_, sb3, sc3, z4, z5, hE.sel [0, 2, 4] (by kernel_rfl), (hX1.cut' ecU_ok el2 (hC1) q2), (cut_cap2 el2 hC1 q3), H.x0.t2.t2.t2, hm⟩
     ·replace hm := cond_f c hm
      refine Runs.skip ?_
      refine Runs.seq ?_
      refine Runs.sr ?_
      refine WR.seg hE 3 [.int .i64 (w64 (x5))] [0, 2, 4, 5, 63] (Lo := [(0, .slice sb3 l2.length sc3), (2, .pointer (some ⟨r, 0, none⟩)), (4, .pointer (some ⟨r1, 0, none⟩)), (5, .pointer (some ⟨r2, 0, none⟩)), (63, .bool ((w64 (x5)) == 1))]) (obs := [.cell ⟨r2, 0, none⟩ (.int .i64 (w64 (x5)))]) rfl (by kernel_rfl) ⟨H.cell 0 rfl rfl, trivial⟩ fun a hE => ?_
      refine WR.done rfl ?_
      refine Runs.cond hE rfl (fun c => ?_) (fun c => ?_)
      ·replace hm := cond_t c hm
       refine Runs.seq ?_
       refine Runs.sr ?_
       refine WR.e0 hE [(66, .bool ((l2.length : Int) == 0))] fun a hE => ?_
       refine Runs.cond hE rfl (fun c => ?_) (fun c => ?_)
       ·replace hm := cond_t c hm
        refine Runs.exit rfl ?_
        cases hm
        exact hk _ _ ⟨z4, z5, hE.sel [2, 4] (by kernel_rfl), H.x0.t2.t2.t2⟩
       ·replace hm := cond_f c hm
        refine Runs.skip ?_
        refine Runs.sr ?_
        obtain ⟨x6, ex6, hm⟩ := bind_some hm
        obtain ⟨b8, o6, hs6, hb6⟩ := SlRd.base (hX1.cut' ecU_ok el2 (hC1) q2) ecU_ok H 3 rfl ex6
        refine WR.d hE 5 [.pointer (some ⟨b8, o6, none⟩), .int .u8 x6] [(70, .int .i64 (w64 (x6))), (71, .pointer (some ⟨r2, 1, none⟩))] (obs := [.p ((sb3 : Option Addr) = some ⟨b8, o6, none⟩), .p (0 ≤ (0 : Int) ∧ (0 : Int) < ((l2.length : Nat) : Int)), .cell ⟨b8, o6 + (Int.toNat 0) * 1, none⟩ (.int .u8 x6)]) ⟨hs6, hb6, SlRd.cells (hX1.cut' ecU_ok el2 (hC1) q2) ecU_ok H 3 rfl hs6 ex6 0 _ rfl, trivial⟩ fun a hE => ?_
        refine WR.eff0 hE rfl rfl rfl (OpTo.store hE H rfl rfl rfl rfl rfl rfl (Nat.le_of_ble_eq_true rfl)) ?_
        rintro _ w H a hE
        refine WR.done rfl ?_
        refine Runs.region ?_
        obtain ⟨l3, el3, hm⟩ := bind_some hm
        obtain ⟨sb4, q4⟩ : ∃ z, rebase sb3 sc3 (Int.toNat 1) 1 = z := ⟨_, rfl⟩
        obtain ⟨sc4, q5⟩ : ∃ z, sc3 - (Int.toNat 1) = z := ⟨_, rfl⟩
        refine WR.e hE [.slice sb4 l3.length sc4] [(0, .slice sb4 l3.length sc4)] (obs := [.p (rebase sb3 sc3 (Int.toNat 1) 1 = sb4), .p (l2.length - (Int.toNat 1) = l3.length), .p (sc3 - (Int.toNat 1) = sc4), .p (0 ≤ (1 : Int) ∧ (1 : Int) ≤ ((l2.length : Nat) : Int))]) ⟨q4, cut_len el3, q5, cut_bd0 el3, trivial⟩ fun a hE => ?_
        refine Runs.seq ?_
        refine Runs.seq ?_
        refine Runs.join (fun a w => EnvOk 104 a [(0, .slice sb4 l3.length sc4), (2, .pointer (some ⟨r, 0, none⟩)), (4, .pointer (some ⟨r1, 0, none⟩)), (5, .pointer (some ⟨r2, 0, none⟩)), (81, .bool (((w64 (x5)) == 1) || ((w64 (x5)) == 3)))] ∧ St w0 (Blk r2 42 [.int .i64 (w64 (x5)), .int .i64 (w64 (x6)), .int .i64 0, .int .i64 0, .int .i64 0, .int .i64 0, .int .i64 0, .int .i64 0] :: shell_Script.R r (shell_Script.A.mk none 0) (shell_Script.mk 0 0 0 0 ([] : List api_Act)) :: shell_Script.R r1 (shell_Script.A.mk z4 z5) m_ :: X_b :: As) w) (fun hk => ?_) ?_
        ·clear hm
         refine Runs.region ?_
         refine WR.d hE 4 [.int .i64 (w64 (x5))] [(77, .bool ((w64 (x5)) == 1))] (obs := [.cell ⟨r2, 0, none⟩ (.int .i64 (w64 (x5)))]) ⟨H.cell 0 rfl rfl, trivial⟩ fun a hE => ?_
         rcases Bool.eq_false_or_eq_true ((w64 (x5)) == 1) with c | c
         ·replace hE := hE.dec 77 c (by kernel_rfl)
          have c_4 := c
          refine WR.e0 hE [(81, .bool true)] fun a hE => ?_
          refine hk _ _ ⟨?_, H.t3.t3.t3.t3⟩
          try rw [c_4] at hE
          try rw [c_4]
          exact hE.sel [0, 2, 4, 5, 81] (by kernel_rfl)
         ·replace hE := hE.dec 77 c (by kernel_rfl)
          have c_5 := c
          refine WR.e hE [.int .i64 (w64 (x5))] [(81, .bool ((w64 (x5)) == 3))] (obs := [.cell ⟨r2, 0, none⟩ (.int .i64 (w64 (x5)))]) ⟨H.cell 0 rfl rfl, trivial⟩ fun a hE => ?_
          refine hk _ _ ⟨?_, H.t3.t3.t3.t3⟩
          try rw [c_5] at hE
          try rw [c_5]
          exact hE.sel [0, 2, 4, 5, 81] (by kernel_rfl)
        rintro a w ⟨hE, H⟩
        refine Runs.cond hE rfl (fun c => ?_) (fun c => ?_)
        ·replace hm := cond_t c hm
         refine Runs.seq ?_
         refine Runs.sr ?_
         refine WR.seg hE 3 [] [0, 2, 4, 5, 84] (Lo := [(0, .slice sb4 l3.length sc4), (2, .pointer (some ⟨r, 0, none⟩)), (4, .pointer (some ⟨r1, 0, none⟩)), (5, .pointer (some ⟨r2, 0, none⟩)), (84, .bool (decide ((l3.length : Int) < 16)))]) (obs := []) rfl (by kernel_rfl) trivial fun a hE => ?_
         refine WR.done rfl ?_
         refine Runs.cond hE rfl (fun c => ?_) (fun c => ?_)
         ·replace hm := cond_t c hm
          refine Runs.exit rfl ?_
          cases hm
          exact hk _ _ ⟨z4, z5, hE.sel [2, 4] (by kernel_rfl), H.x0.t2.t2.t2⟩
         ·replace hm := cond_f c hm
          refine Runs.skip ?_
          refine Runs.sr ?_
          obtain ⟨l4, el4, hm⟩ := bind_some hm
          obtain ⟨sb5, q6⟩ : ∃ z, rebase sb4 sc4 (Int.toNat 0) 1 = z := ⟨_, rfl⟩
          obtain ⟨sc5, q7⟩ : ∃ z, sc4 - (Int.toNat 0) = z := ⟨_, rfl⟩
          refine WR.d hE 2 [.slice sb5 l4.length sc5] [(87, .slice sb5 l4.length sc5)] (obs := [.p (rebase sb4 sc4 0 1 = sb5), .p ((Int.toNat 16) - 0 = l4.length), .p (sc4 - 0 = sc5), .p (0 ≤ (16 : Int) ∧ (16 : Int) ≤ ((sc4 : Nat) : Int))]) ⟨q6, cut_len el4, q7, cut_cap el4 (cut_cap2 el3 (cut_cap2 el2 hC1 q3) q5), trivial⟩ fun a hE => ?_
          obtain ⟨t_, et_, hm⟩ := bind_some hm
          replace H := H.t3
          refine WR.eff hE rfl rfl rfl rfl (OpTo.fn hE rfl rfl Tryz.call66 (thicketlaw28_command_ok (hX_b := (((hX1.cut' ecU_ok el2 (hC1) q2).cut' ecU_ok el3 ((cut_cap2 el2 hC1 q3)) q4).cut' ecU_ok el4 ((cut_cap2 el3 (cut_cap2 el2 hC1 q3) q5)) q6)) (hC_b := (cut_cap2 el4 (cut_cap2 el3 (cut_cap2 el2 hC1 q3) q5) q7)) et_ H)) ?_
          rintro _ w ⟨rfl, H⟩ a hE
          refine WR.d0 hE 6 [(89, .agg #[.int .i64 t_.1.Kind, .int .i64 t_.1.Queue, .int .i64 t_.1.Job.At, .int .i64 t_.1.Job.Gen, .int .i64 t_.1.Time, .int .i64 t_.1.Data]), (90, .bool t_.2)] fun a hE => ?_
          refine WR.eff hE rfl rfl rfl rfl (OpTo.new hE H [] (.cells #[.int .i64 0, .int .i64 0, .int .i64 0, .int .i64 0, .int .i64 0, .int .i64 0] 33 (0, 0)) (fun r => .pointer (some ⟨r, 0, none⟩)) (obs := []) rfl (fun _ => by kernel_rfl) trivial) ?_
          rintro _ w ⟨r3, rfl, H⟩ a hE
          refine WR.eff0 hE rfl rfl rfl (OpTo.store hE H rfl rfl rfl rfl rfl rfl (Nat.le_of_ble_eq_true rfl)) ?_
          rintro _ w H a hE
          refine WR.e0 hE [(7, .bool t_.2)] fun a hE => ?_
          refine Runs.seq ?_
          refine Runs.sr ?_
          refine WR.e0 hE [(92, .bool (!t_.2))] fun a hE => ?_
          refine Runs.cond hE rfl (fun c => ?_) (fun c => ?_)
          ·replace hm := cond_t c hm
           refine Runs.exit rfl ?_
           cases hm
           exact hk _ _ ⟨z4, z5, hE.sel [2, 4] (by kernel_rfl), H.x2.x0.t2.t2⟩
          ·replace hm := cond_f c hm
           refine Runs.skip ?_
           refine Runs.sr ?_
           refine WR.d hE 2 [.int .i64 t_.1.Kind, .int .i64 t_.1.Queue, .int .i64 t_.1.Job.At, .int .i64 t_.1.Job.Gen, .int .i64 t_.1.Time, .int .i64 t_.1.Data] [(93, .agg #[.int .i64 t_.1.Kind, .int .i64 t_.1.Queue, .int .i64 t_.1.Job.At, .int .i64 t_.1.Job.Gen, .int .i64 t_.1.Time, .int .i64 t_.1.Data]), (94, .pointer (some ⟨r2, 2, none⟩))] (obs := [.cell ⟨r3, 0, none⟩ (.int .i64 t_.1.Kind), .cell ⟨r3, 1, none⟩ (.int .i64 t_.1.Queue), .cell ⟨r3, 2, none⟩ (.int .i64 t_.1.Job.At), .cell ⟨r3, 3, none⟩ (.int .i64 t_.1.Job.Gen), .cell ⟨r3, 4, none⟩ (.int .i64 t_.1.Time), .cell ⟨r3, 5, none⟩ (.int .i64 t_.1.Data)]) ⟨H.cell 0 rfl rfl, H.cell 0 rfl rfl, H.cell 0 rfl rfl, H.cell 0 rfl rfl, H.cell 0 rfl rfl, H.cell 0 rfl rfl, trivial⟩ fun a hE => ?_
           refine WR.eff0 hE rfl rfl rfl (OpTo.store hE H.t2 rfl rfl rfl rfl rfl rfl (Nat.le_of_ble_eq_true rfl)) ?_
           rintro _ w H a hE
           refine WR.done rfl ?_
           refine Runs.region ?_
           obtain ⟨l5, el5, hm⟩ := bind_some hm
           obtain ⟨sb6, q8⟩ : ∃ z, rebase sb4 sc4 (Int.toNat 16) 1 = z := ⟨_, rfl⟩
           obtain ⟨sc6, q9⟩ : ∃ z, sc4 - (Int.toNat 16) = z := ⟨_, rfl⟩
           refine WR.e hE [.slice sb6 l5.length sc6] [(0, .slice sb6 l5.length sc6)] (obs := [.p (rebase sb4 sc4 (Int.toNat 16) 1 = sb6), .p (l3.length - (Int.toNat 16) = l5.length), .p (sc4 - (Int.toNat 16) = sc6), .p (0 ≤ (16 : Int) ∧ (16 : Int) ≤ ((l3.length : Nat) : Int))]) ⟨q8, cut_len el5, q9, cut_bd0 el5, trivial⟩ fun a hE => ?_
           refine Runs.region ?_
           replace H := shell_Script.open H.t4
           try dsimp only at H
           refine WR.d hE 3 [.slice z4 m_.Acts.length z5, .int .i64 (w64 (x5)), .int .i64 (w64 (x6)), .int .i64 t_.1.Kind, .int .i64 t_.1.Queue, .int .i64 t_.1.Job.At, .int .i64 t_.1.Job.Gen, .int .i64 t_.1.Time, .int .i64 t_.1.Data] [(98, .slice z4 m_.Acts.length z5), (99, .agg #[.int .i64 (w64 (x5)), .int .i64 (w64 (x6)), .int .i64 t_.1.Kind, .int .i64 t_.1.Queue, .int .i64 t_.1.Job.At, .int .i64 t_.1.Job.Gen, .int .i64 t_.1.Time, .int .i64 t_.1.Data])] (obs := [.cell ⟨r1, 4, none⟩ (.slice z4 m_.Acts.length z5), .cell ⟨r2, 0, none⟩ (.int .i64 (w64 (x5))), .cell ⟨r2, 1, none⟩ (.int .i64 (w64 (x6))), .cell ⟨r2, 2, none⟩ (.int .i64 t_.1.Kind), .cell ⟨r2, 3, none⟩ (.int .i64 t_.1.Queue), .cell ⟨r2, 4, none⟩ (.int .i64 t_.1.Job.At), .cell ⟨r2, 5, none⟩ (.int .i64 t_.1.Job.Gen), .cell ⟨r2, 6, none⟩ (.int .i64 t_.1.Time), .cell ⟨r2, 7, none⟩ (.int .i64 t_.1.Data)]) ⟨H.cell 0 rfl rfl, H.cell 2 rfl rfl, H.cell 2 rfl rfl, H.cell 2 rfl rfl, H.cell 2 rfl rfl, H.cell 2 rfl rfl, H.cell 2 rfl rfl, H.cell 2 rfl rfl, H.cell 2 rfl rfl, trivial⟩ fun a hE => ?_
           refine WR.eff hE rfl rfl rfl rfl (OpTo.buildSl (T := 42) hE H api_Act.enc_ok ([api_Act.mk (w64 (x5)) (w64 (x6)) t_.1] : List api_Act) rfl (fun _ => by kernel_rfl) rfl rfl rfl) ?_
           rintro _ w ⟨r4, rfl, H⟩ a hE
           obtain ⟨l6, el6, hm⟩ := bind_some hm
           replace H := H.t2
           refine WR.eff hE rfl rfl rfl rfl (OpTo.appendM el6 hE H api_Act.enc_ok rfl rfl rfl rfl rfl rfl rfl rfl rfl rfl (SlRd.all (sl_rd 42 api_Act.enc 8 _ _ _) api_Act.enc_ok H 1 rfl) rfl) ?_
           rintro _ w ⟨sb7, sc7, rfl, H⟩ a hE
           refine WR.d0 hE 6 [(102, .pointer (some ⟨r1, 4, none⟩))] fun a hE => ?_
           refine WR.eff0 hE rfl rfl rfl (OpTo.store hE H.t2 rfl rfl rfl rfl rfl rfl (Nat.le_of_ble_eq_true rfl)) ?_
           rintro _ w H a hE
           refine WR.done rfl ?_
           refine Runs.inBlock ?_
           replace H := shell_Script.shut (shell_Script.A.mk sb7 sc7) (shell_Script.mk m_.Kind m_.Jobs m_.Boxes m_.Room l6) H.t1.t1
           exact ih m (Nat.lt_succ_self m) _ _ ⟨l5, shell_Script.mk m_.Kind m_.Jobs m_.Boxes m_.Room l6, sb6, sc6, sb7, sc7, hE.sel [0, 2, 4] (by kernel_rfl), (((hX1.cut' ecU_ok el2 (hC1) q2).cut' ecU_ok el3 ((cut_cap2 el2 hC1 q3)) q4).cut' ecU_ok el5 ((cut_cap2 el3 (cut_cap2 el2 hC1 q3) q5)) q8), (cut_cap2 el5 (cut_cap2 el3 (cut_cap2 el2 hC1 q3) q5) q9), H.x3.x2.x1.t1.t1.t2, hm⟩
        ·replace hm := cond_f c hm
         refine Runs.skip ?_
         refine Runs.region ?_
         replace H := shell_Script.open H.t2
         try dsimp only at H
         refine WR.seg hE 3 [.slice z4 m_.Acts.length z5, .int .i64 (w64 (x5)), .int .i64 (w64 (x6)), .int .i64 0, .int .i64 0, .int .i64 0, .int .i64 0, .int .i64 0, .int .i64 0] [0, 2, 4, 98, 99] (Lo := [(0, .slice sb4 l3.length sc4), (2, .pointer (some ⟨r, 0, none⟩)), (4, .pointer (some ⟨r1, 0, none⟩)), (98, .slice z4 m_.Acts.length z5), (99, .agg #[.int .i64 (w64 (x5)), .int .i64 (w64 (x6)), .int .i64 0, .int .i64 0, .int .i64 0, .int .i64 0, .int .i64 0, .int .i64 0])]) (obs := [.cell ⟨r1, 4, none⟩ (.slice z4 m_.Acts.length z5), .cell ⟨r2, 0, none⟩ (.int .i64 (w64 (x5))), .cell ⟨r2, 1, none⟩ (.int .i64 (w64 (x6))), .cell ⟨r2, 2, none⟩ (.int .i64 0), .cell ⟨r2, 3, none⟩ (.int .i64 0), .cell ⟨r2, 4, none⟩ (.int .i64 0), .cell ⟨r2, 5, none⟩ (.int .i64 0), .cell ⟨r2, 6, none⟩ (.int .i64 0), .cell ⟨r2, 7, none⟩ (.int .i64 0)]) rfl (by kernel_rfl) ⟨H.cell 0 rfl rfl, H.cell 2 rfl rfl, H.cell 2 rfl rfl, H.cell 2 rfl rfl, H.cell 2 rfl rfl, H.cell 2 rfl rfl, H.cell 2 rfl rfl, H.cell 2 rfl rfl, H.cell 2 rfl rfl, trivial⟩ fun a hE => ?_
         refine WR.eff hE rfl rfl rfl rfl (OpTo.buildSl (T := 42) hE H api_Act.enc_ok ([api_Act.mk (w64 (x5)) (w64 (x6)) (api_Command.mk 0 0 (api_Ref.mk 0 0) 0 0)] : List api_Act) rfl (fun _ => by kernel_rfl) rfl rfl rfl) ?_
         rintro _ w ⟨r5, rfl, H⟩ a hE
         obtain ⟨l7, el7, hm⟩ := bind_some hm
         replace H := H.t2
         refine WR.eff hE rfl rfl rfl rfl (OpTo.appendM el7 hE H api_Act.enc_ok rfl rfl rfl rfl rfl rfl rfl rfl rfl rfl (SlRd.all (sl_rd 42 api_Act.enc 8 _ _ _) api_Act.enc_ok H 1 rfl) rfl) ?_
         rintro _ w ⟨sb8, sc8, rfl, H⟩ a hE
         refine WR.d0 hE 6 [(102, .pointer (some ⟨r1, 4, none⟩))] fun a hE => ?_
         refine WR.eff0 hE rfl rfl rfl (OpTo.store hE H.t2 rfl rfl rfl rfl rfl rfl (Nat.le_of_ble_eq_true rfl)) ?_
         rintro _ w H a hE
         refine WR.done rfl ?_
         refine Runs.inBlock ?_
         replace H := shell_Script.shut (shell_Script.A.mk sb8 sc8) (shell_Script.mk m_.Kind m_.Jobs m_.Boxes m_.Room l7) H.t1.t1
         exact ih m (Nat.lt_succ_self m) _ _ ⟨l3, shell_Script.mk m_.Kind m_.Jobs m_.Boxes m_.Room l7, sb4, sc4, sb8, sc8, hE.sel [0, 2, 4] (by kernel_rfl), ((hX1.cut' ecU_ok el2 (hC1) q2).cut' ecU_ok el3 ((cut_cap2 el2 hC1 q3)) q4), (cut_cap2 el3 (cut_cap2 el2 hC1 q3) q5), H.x2.x1.t2.t1.t2, hm⟩
      ·replace hm := cond_f c hm
       refine Runs.skip ?_
       refine Runs.seq ?_
       refine Runs.seq ?_
       refine Runs.join (fun a w => EnvOk 104 a [(0, .slice sb3 l2.length sc3), (2, .pointer (some ⟨r, 0, none⟩)), (4, .pointer (some ⟨r1, 0, none⟩)), (5, .pointer (some ⟨r2, 0, none⟩)), (81, .bool (((w64 (x5)) == 1) || ((w64 (x5)) == 3)))] ∧ St w0 (Blk r2 42 [.int .i64 (w64 (x5)), .int .i64 0, .int .i64 0, .int .i64 0, .int .i64 0, .int .i64 0, .int .i64 0, .int .i64 0] :: shell_Script.R r (shell_Script.A.mk none 0) (shell_Script.mk 0 0 0 0 ([] : List api_Act)) :: shell_Script.R r1 (shell_Script.A.mk z4 z5) m_ :: X_b :: As) w) (fun hk => ?_) ?_
       ·clear hm
        refine Runs.region ?_
        refine WR.d hE 4 [.int .i64 (w64 (x5))] [(77, .bool ((w64 (x5)) == 1))] (obs := [.cell ⟨r2, 0, none⟩ (.int .i64 (w64 (x5)))]) ⟨H.cell 0 rfl rfl, trivial⟩ fun a hE => ?_
        rcases Bool.eq_false_or_eq_true ((w64 (x5)) == 1) with c | c
        ·replace hE := hE.dec 77 c (by kernel_rfl)
         have c_6 := c
         refine WR.e0 hE [(81, .bool true)] fun a hE => ?_
         refine hk _ _ ⟨?_, H.t3.t3.t3.t3⟩
         try rw [c_6] at hE
         try rw [c_6]
         exact hE.sel [0, 2, 4, 5, 81] (by kernel_rfl)
        ·replace hE := hE.dec 77 c (by kernel_rfl)
         have c_7 := c
         refine WR.e hE [.int .i64 (w64 (x5))] [(81, .bool ((w64 (x5)) == 3))] (obs := [.cell ⟨r2, 0, none⟩ (.int .i64 (w64 (x5)))]) ⟨H.cell 0 rfl rfl, trivial⟩ fun a hE => ?_
         refine hk _ _ ⟨?_, H.t3.t3.t3.t3⟩
         try rw [c_7] at hE
         try rw [c_7]
         exact hE.sel [0, 2, 4, 5, 81] (by kernel_rfl)
       rintro a w ⟨hE, H⟩
       refine Runs.cond hE rfl (fun c => ?_) (fun c => ?_)
       ·replace hm := cond_t c hm
        refine Runs.seq ?_
        refine Runs.sr ?_
        refine WR.seg hE 3 [] [0, 2, 4, 5, 84] (Lo := [(0, .slice sb3 l2.length sc3), (2, .pointer (some ⟨r, 0, none⟩)), (4, .pointer (some ⟨r1, 0, none⟩)), (5, .pointer (some ⟨r2, 0, none⟩)), (84, .bool (decide ((l2.length : Int) < 16)))]) (obs := []) rfl (by kernel_rfl) trivial fun a hE => ?_
        refine WR.done rfl ?_
        refine Runs.cond hE rfl (fun c => ?_) (fun c => ?_)
        ·replace hm := cond_t c hm
         refine Runs.exit rfl ?_
         cases hm
         exact hk _ _ ⟨z4, z5, hE.sel [2, 4] (by kernel_rfl), H.x0.t2.t2.t2⟩
        ·replace hm := cond_f c hm
         refine Runs.skip ?_
         refine Runs.sr ?_
         obtain ⟨l8, el8, hm⟩ := bind_some hm
         obtain ⟨sb9, q12⟩ : ∃ z, rebase sb3 sc3 (Int.toNat 0) 1 = z := ⟨_, rfl⟩
         obtain ⟨sc9, q13⟩ : ∃ z, sc3 - (Int.toNat 0) = z := ⟨_, rfl⟩
         refine WR.d hE 2 [.slice sb9 l8.length sc9] [(87, .slice sb9 l8.length sc9)] (obs := [.p (rebase sb3 sc3 0 1 = sb9), .p ((Int.toNat 16) - 0 = l8.length), .p (sc3 - 0 = sc9), .p (0 ≤ (16 : Int) ∧ (16 : Int) ≤ ((sc3 : Nat) : Int))]) ⟨q12, cut_len el8, q13, cut_cap el8 (cut_cap2 el2 hC1 q3), trivial⟩ fun a hE => ?_
         obtain ⟨t_1, et_1, hm⟩ := bind_some hm
         replace H := H.t3
         refine WR.eff hE rfl rfl rfl rfl (OpTo.fn hE rfl rfl Tryz.call66 (thicketlaw28_command_ok (hX_b := ((hX1.cut' ecU_ok el2 (hC1) q2).cut' ecU_ok el8 ((cut_cap2 el2 hC1 q3)) q12)) (hC_b := (cut_cap2 el8 (cut_cap2 el2 hC1 q3) q13)) et_1 H)) ?_
         rintro _ w ⟨rfl, H⟩ a hE
         refine WR.d0 hE 6 [(89, .agg #[.int .i64 t_1.1.Kind, .int .i64 t_1.1.Queue, .int .i64 t_1.1.Job.At, .int .i64 t_1.1.Job.Gen, .int .i64 t_1.1.Time, .int .i64 t_1.1.Data]), (90, .bool t_1.2)] fun a hE => ?_
         refine WR.eff hE rfl rfl rfl rfl (OpTo.new hE H [] (.cells #[.int .i64 0, .int .i64 0, .int .i64 0, .int .i64 0, .int .i64 0, .int .i64 0] 33 (0, 0)) (fun r => .pointer (some ⟨r, 0, none⟩)) (obs := []) rfl (fun _ => by kernel_rfl) trivial) ?_
         rintro _ w ⟨r6, rfl, H⟩ a hE
         refine WR.eff0 hE rfl rfl rfl (OpTo.store hE H rfl rfl rfl rfl rfl rfl (Nat.le_of_ble_eq_true rfl)) ?_
         rintro _ w H a hE
         refine WR.e0 hE [(7, .bool t_1.2)] fun a hE => ?_
         refine Runs.seq ?_
         refine Runs.sr ?_
         refine WR.e0 hE [(92, .bool (!t_1.2))] fun a hE => ?_
         refine Runs.cond hE rfl (fun c => ?_) (fun c => ?_)
         ·replace hm := cond_t c hm
          refine Runs.exit rfl ?_
          cases hm
          exact hk _ _ ⟨z4, z5, hE.sel [2, 4] (by kernel_rfl), H.x2.x0.t2.t2⟩
         ·replace hm := cond_f c hm
          refine Runs.skip ?_
          refine Runs.sr ?_
          refine WR.d hE 2 [.int .i64 t_1.1.Kind, .int .i64 t_1.1.Queue, .int .i64 t_1.1.Job.At, .int .i64 t_1.1.Job.Gen, .int .i64 t_1.1.Time, .int .i64 t_1.1.Data] [(93, .agg #[.int .i64 t_1.1.Kind, .int .i64 t_1.1.Queue, .int .i64 t_1.1.Job.At, .int .i64 t_1.1.Job.Gen, .int .i64 t_1.1.Time, .int .i64 t_1.1.Data]), (94, .pointer (some ⟨r2, 2, none⟩))] (obs := [.cell ⟨r6, 0, none⟩ (.int .i64 t_1.1.Kind), .cell ⟨r6, 1, none⟩ (.int .i64 t_1.1.Queue), .cell ⟨r6, 2, none⟩ (.int .i64 t_1.1.Job.At), .cell ⟨r6, 3, none⟩ (.int .i64 t_1.1.Job.Gen), .cell ⟨r6, 4, none⟩ (.int .i64 t_1.1.Time), .cell ⟨r6, 5, none⟩ (.int .i64 t_1.1.Data)]) ⟨H.cell 0 rfl rfl, H.cell 0 rfl rfl, H.cell 0 rfl rfl, H.cell 0 rfl rfl, H.cell 0 rfl rfl, H.cell 0 rfl rfl, trivial⟩ fun a hE => ?_
          refine WR.eff0 hE rfl rfl rfl (OpTo.store hE H.t2 rfl rfl rfl rfl rfl rfl (Nat.le_of_ble_eq_true rfl)) ?_
          rintro _ w H a hE
          refine WR.done rfl ?_
          refine Runs.region ?_
          obtain ⟨l9, el9, hm⟩ := bind_some hm
          obtain ⟨sb10, q14⟩ : ∃ z, rebase sb3 sc3 (Int.toNat 16) 1 = z := ⟨_, rfl⟩
          obtain ⟨sc10, q15⟩ : ∃ z, sc3 - (Int.toNat 16) = z := ⟨_, rfl⟩
          refine WR.e hE [.slice sb10 l9.length sc10] [(0, .slice sb10 l9.length sc10)] (obs := [.p (rebase sb3 sc3 (Int.toNat 16) 1 = sb10), .p (l2.length - (Int.toNat 16) = l9.length), .p (sc3 - (Int.toNat 16) = sc10), .p (0 ≤ (16 : Int) ∧ (16 : Int) ≤ ((l2.length : Nat) : Int))]) ⟨q14, cut_len el9, q15, cut_bd0 el9, trivial⟩ fun a hE => ?_
          refine Runs.region ?_
          replace H := shell_Script.open H.t4
          try dsimp only at H
          refine WR.d hE 3 [.slice z4 m_.Acts.length z5, .int .i64 (w64 (x5)), .int .i64 0, .int .i64 t_1.1.Kind, .int .i64 t_1.1.Queue, .int .i64 t_1.1.Job.At, .int .i64 t_1.1.Job.Gen, .int .i64 t_1.1.Time, .int .i64 t_1.1.Data] [(98, .slice z4 m_.Acts.length z5), (99, .agg #[.int .i64 (w64 (x5)), .int .i64 0, .int .i64 t_1.1.Kind, .int .i64 t_1.1.Queue, .int .i64 t_1.1.Job.At, .int .i64 t_1.1.Job.Gen, .int .i64 t_1.1.Time, .int .i64 t_1.1.Data])] (obs := [.cell ⟨r1, 4, none⟩ (.slice z4 m_.Acts.length z5), .cell ⟨r2, 0, none⟩ (.int .i64 (w64 (x5))), .cell ⟨r2, 1, none⟩ (.int .i64 0), .cell ⟨r2, 2, none⟩ (.int .i64 t_1.1.Kind), .cell ⟨r2, 3, none⟩ (.int .i64 t_1.1.Queue), .cell ⟨r2, 4, none⟩ (.int .i64 t_1.1.Job.At), .cell ⟨r2, 5, none⟩ (.int .i64 t_1.1.Job.Gen), .cell ⟨r2, 6, none⟩ (.int .i64 t_1.1.Time), .cell ⟨r2, 7, none⟩ (.int .i64 t_1.1.Data)]) ⟨H.cell 0 rfl rfl, H.cell 2 rfl rfl, H.cell 2 rfl rfl, H.cell 2 rfl rfl, H.cell 2 rfl rfl, H.cell 2 rfl rfl, H.cell 2 rfl rfl, H.cell 2 rfl rfl, H.cell 2 rfl rfl, trivial⟩ fun a hE => ?_
          refine WR.eff hE rfl rfl rfl rfl (OpTo.buildSl (T := 42) hE H api_Act.enc_ok ([api_Act.mk (w64 (x5)) 0 t_1.1] : List api_Act) rfl (fun _ => by kernel_rfl) rfl rfl rfl) ?_
          rintro _ w ⟨r7, rfl, H⟩ a hE
          obtain ⟨l10, el10, hm⟩ := bind_some hm
          replace H := H.t2
          refine WR.eff hE rfl rfl rfl rfl (OpTo.appendM el10 hE H api_Act.enc_ok rfl rfl rfl rfl rfl rfl rfl rfl rfl rfl (SlRd.all (sl_rd 42 api_Act.enc 8 _ _ _) api_Act.enc_ok H 1 rfl) rfl) ?_
          rintro _ w ⟨sb11, sc11, rfl, H⟩ a hE
          refine WR.d0 hE 6 [(102, .pointer (some ⟨r1, 4, none⟩))] fun a hE => ?_
          refine WR.eff0 hE rfl rfl rfl (OpTo.store hE H.t2 rfl rfl rfl rfl rfl rfl (Nat.le_of_ble_eq_true rfl)) ?_
          rintro _ w H a hE
          refine WR.done rfl ?_
          refine Runs.inBlock ?_
          replace H := shell_Script.shut (shell_Script.A.mk sb11 sc11) (shell_Script.mk m_.Kind m_.Jobs m_.Boxes m_.Room l10) H.t1.t1
          exact ih m (Nat.lt_succ_self m) _ _ ⟨l9, shell_Script.mk m_.Kind m_.Jobs m_.Boxes m_.Room l10, sb10, sc10, sb11, sc11, hE.sel [0, 2, 4] (by kernel_rfl), ((hX1.cut' ecU_ok el2 (hC1) q2).cut' ecU_ok el9 ((cut_cap2 el2 hC1 q3)) q14), (cut_cap2 el9 (cut_cap2 el2 hC1 q3) q15), H.x3.x2.x1.t1.t1.t2, hm⟩
       ·replace hm := cond_f c hm
        refine Runs.skip ?_
        refine Runs.region ?_
        replace H := shell_Script.open H.t2
        try dsimp only at H
        refine WR.seg hE 3 [.slice z4 m_.Acts.length z5, .int .i64 (w64 (x5)), .int .i64 0, .int .i64 0, .int .i64 0, .int .i64 0, .int .i64 0, .int .i64 0, .int .i64 0] [0, 2, 4, 98, 99] (Lo := [(0, .slice sb3 l2.length sc3), (2, .pointer (some ⟨r, 0, none⟩)), (4, .pointer (some ⟨r1, 0, none⟩)), (98, .slice z4 m_.Acts.length z5), (99, .agg #[.int .i64 (w64 (x5)), .int .i64 0, .int .i64 0, .int .i64 0, .int .i64 0, .int .i64 0, .int .i64 0, .int .i64 0])]) (obs := [.cell ⟨r1, 4, none⟩ (.slice z4 m_.Acts.length z5), .cell ⟨r2, 0, none⟩ (.int .i64 (w64 (x5))), .cell ⟨r2, 1, none⟩ (.int .i64 0), .cell ⟨r2, 2, none⟩ (.int .i64 0), .cell ⟨r2, 3, none⟩ (.int .i64 0), .cell ⟨r2, 4, none⟩ (.int .i64 0), .cell ⟨r2, 5, none⟩ (.int .i64 0), .cell ⟨r2, 6, none⟩ (.int .i64 0), .cell ⟨r2, 7, none⟩ (.int .i64 0)]) rfl (by kernel_rfl) ⟨H.cell 0 rfl rfl, H.cell 2 rfl rfl, H.cell 2 rfl rfl, H.cell 2 rfl rfl, H.cell 2 rfl rfl, H.cell 2 rfl rfl, H.cell 2 rfl rfl, H.cell 2 rfl rfl, H.cell 2 rfl rfl, trivial⟩ fun a hE => ?_
        refine WR.eff hE rfl rfl rfl rfl (OpTo.buildSl (T := 42) hE H api_Act.enc_ok ([api_Act.mk (w64 (x5)) 0 (api_Command.mk 0 0 (api_Ref.mk 0 0) 0 0)] : List api_Act) rfl (fun _ => by kernel_rfl) rfl rfl rfl) ?_
        rintro _ w ⟨r8, rfl, H⟩ a hE
        obtain ⟨l11, el11, hm⟩ := bind_some hm
        replace H := H.t2
        refine WR.eff hE rfl rfl rfl rfl (OpTo.appendM el11 hE H api_Act.enc_ok rfl rfl rfl rfl rfl rfl rfl rfl rfl rfl (SlRd.all (sl_rd 42 api_Act.enc 8 _ _ _) api_Act.enc_ok H 1 rfl) rfl) ?_
        rintro _ w ⟨sb12, sc12, rfl, H⟩ a hE
        refine WR.d0 hE 6 [(102, .pointer (some ⟨r1, 4, none⟩))] fun a hE => ?_
        refine WR.eff0 hE rfl rfl rfl (OpTo.store hE H.t2 rfl rfl rfl rfl rfl rfl (Nat.le_of_ble_eq_true rfl)) ?_
        rintro _ w H a hE
        refine WR.done rfl ?_
        refine Runs.inBlock ?_
        replace H := shell_Script.shut (shell_Script.A.mk sb12 sc12) (shell_Script.mk m_.Kind m_.Jobs m_.Boxes m_.Room l11) H.t1.t1
        exact ih m (Nat.lt_succ_self m) _ _ ⟨l2, shell_Script.mk m_.Kind m_.Jobs m_.Boxes m_.Room l11, sb3, sc3, sb12, sc12, hE.sel [0, 2, 4] (by kernel_rfl), (hX1.cut' ecU_ok el2 (hC1) q2), (cut_cap2 el2 hC1 q3), H.x2.x1.t2.t1.t2, hm⟩
    ·replace hm := cond_f c hm
     refine Runs.exit rfl ?_
     cases hm
     exact hk _ _ ⟨z4, z5, hE.sel [2, 4] (by kernel_rfl), H.t2.t2.t2⟩
  rintro a w ⟨z2, z3, hE, H⟩
  refine Runs.sr ?_
  replace H := shell_Script.open H.t1
  try dsimp only at H
  refine WR.seg hE 1 [.int .i64 s.Kind, .int .i64 s.Jobs, .int .i64 s.Boxes, .int .i64 s.Room, .slice z2 s.Acts.length z3] [2, 103] (Lo := [(2, .pointer (some ⟨r, 0, none⟩)), (103, .agg #[.int .i64 s.Kind, .int .i64 s.Jobs, .int .i64 s.Boxes, .int .i64 s.Room, .slice z2 s.Acts.length z3])]) (obs := [.cell ⟨r1, 0, none⟩ (.int .i64 s.Kind), .cell ⟨r1, 1, none⟩ (.int .i64 s.Jobs), .cell ⟨r1, 2, none⟩ (.int .i64 s.Boxes), .cell ⟨r1, 3, none⟩ (.int .i64 s.Room), .cell ⟨r1, 4, none⟩ (.slice z2 s.Acts.length z3)]) rfl (by kernel_rfl) ⟨H.cell 0 rfl rfl, H.cell 0 rfl rfl, H.cell 0 rfl rfl, H.cell 0 rfl rfl, H.cell 0 rfl rfl, trivial⟩ fun a hE => ?_
  replace H := shell_Script.open H.t2
  try dsimp only at H
  refine WR.eff0 hE rfl rfl rfl (OpTo.store hE H rfl rfl rfl rfl rfl rfl (Nat.le_of_ble_eq_true rfl)) ?_
  rintro _ w H a hE
  refine WR.e0 hE [(3, .bool true)] fun a hE => ?_
  refine Runs.retO (vs := [.agg #[.int .i64 s.Kind, .int .i64 s.Jobs, .int .i64 s.Boxes, .int .i64 s.Room, .slice z2 s.Acts.length z3], .bool true]) (obs := [.cell ⟨r, 0, none⟩ (.int .i64 s.Kind), .cell ⟨r, 1, none⟩ (.int .i64 s.Jobs), .cell ⟨r, 2, none⟩ (.int .i64 s.Boxes), .cell ⟨r, 3, none⟩ (.int .i64 s.Room), .cell ⟨r, 4, none⟩ (.slice z2 s.Acts.length z3)]) hE Tryz.func39 rfl [.int .i64 s.Kind, .int .i64 s.Jobs, .int .i64 s.Boxes, .int .i64 s.Room, .slice z2 s.Acts.length z3] (by kernel_rfl) ⟨H.cell 0 rfl rfl, H.cell 0 rfl rfl, H.cell 0 rfl rfl, H.cell 0 rfl rfl, H.cell 0 rfl rfl, trivial⟩ ?_
  cases hm
  exact ⟨z2, z3, rfl, H.x2.x1.x0.t1.t1⟩

theorem thicketbook_Same_api_Act_ok {w0 w : World} {As : List HP} {k : Nat} {sb_a_ : Option Addr} {sc_a_ : Nat} {a_ : List api_Act} {X_a_ : HP} {sb_b : Option Addr} {sc_b : Nat} {b : List api_Act} {X_b : HP} {t : Bool} (hX_a_ : SlRd X_a_ api_Act.enc 8 sb_a_ a_) (hC_a_ : a_.length ≤ sc_a_) (hX_b : SlRd X_b api_Act.enc 8 sb_b b) (hC_b : b.length ≤ sc_b) (hm : thicketbook_Same_api_Act k a_ b = some t) (H : St w0 (X_a_ :: X_b :: As) w) :
    CallsR Tryz.prog 50 #[.slice sb_a_ a_.length sc_a_, .slice sb_b b.length sc_b] w fun v w' => v = .bool t ∧ St w0 (X_a_ :: X_b :: As) w' := by
 rw [thicketbook_Same_api_Act] at hm
 refine enter (args := [.slice sb_a_ a_.length sc_a_, .slice sb_b b.length sc_b]) Tryz.func50 rfl rfl rfl fun a hE => ?_
 refine Runs.sr ?_
 refine WR.seg hE 1 [] [0, 1] (Lo := [(0, .slice sb_a_ a_.length sc_a_), (1, .slice sb_b b.length sc_b)]) (obs := []) rfl (by kernel_rfl) trivial fun a hE => ?_
 refine WR.done rfl ?_
 refine Runs.seq ?_
 refine Runs.sr ?_
 refine WR.e0 hE [(10, .bool ((a_.length : Int) != (b.length : Int)))] fun a hE => ?_
 refine Runs.cond hE rfl (fun c => ?_) (fun c => ?_)
 ·replace hm := cond_t c hm
  refine Runs.sr ?_
  refine WR.e0 hE [(4, .bool false)] fun a hE => ?_
  refine Runs.ret hE Tryz.func50 rfl rfl ?_
  cases hm
  exact ⟨rfl, H.t1.t1⟩
 ·replace hm := cond_f c hm
  refine Runs.skip ?_
  refine Runs.seq ?_
  refine Runs.sr ?_
  refine WR.e0 hE [(5, .int .i64 0)] fun a hE => ?_
  obtain ⟨s, es, hR⟩ := bind_some hm
  refine Runs.join (fun a w => ∃ s1, s = Sum.inr s1 ∧ EnvOk 26 a [] ∧ St w0 (X_a_ :: X_b :: As) w) (fun hk => ?_) ?_
  ·replace hm := es; clear es
   refine Runs.block ?_
   refine Runs.loop (fun m a w => ∃ (i : Int), EnvOk 26 a [(0, .slice sb_a_ a_.length sc_a_), (1, .slice sb_b b.length sc_b), (5, .int .i64 i)] ∧ St w0 (X_a_ :: X_b :: As) w ∧ thicketbook_Same_api_Act_l0 a_ b m i = some s) k ⟨0, hE.sel [0, 1, 5] (by kernel_rfl), H.t1.t1, hm⟩ ?_
   rintro m ih a w ⟨i, hE, H, hm⟩
   cases m with
   | zero => simp [thicketbook_Same_api_Act_l0] at hm
   | succ m =>
    rw [thicketbook_Same_api_Act_l0] at hm
    refine Runs.seq ?_
    refine Runs.sr ?_
    refine WR.seg hE 4 [] [0, 1, 5, 14] (Lo := [(0, .slice sb_a_ a_.length sc_a_), (1, .slice sb_b b.length sc_b), (5, .int .i64 i), (14, .bool (decide (i < (a_.length : Int))))]) (obs := []) rfl (by kernel_rfl) trivial fun a hE => ?_
    refine WR.done rfl ?_
    refine Runs.cond hE rfl (fun c => ?_) (fun c => ?_)
    ·replace hm := cond_t c hm
     refine Runs.skip ?_
     refine Runs.seq ?_
     refine Runs.block ?_
     refine Runs.seq ?_
     refine Runs.drawn mixed (by kernel_rfl) ?_
     replace H := H.drew
     obtain ⟨x, ex, hm⟩ := bind_some hm
     obtain ⟨b1, o, hs, hb⟩ := SlRd.base hX_a_ api_Act.enc_ok H 0 rfl ex
     obtain ⟨x1, ex1, hm⟩ := bind_some hm
     obtain ⟨b2, o1, hs1, hb1⟩ := SlRd.base hX_b api_Act.enc_ok H 1 rfl ex1
     refine WQ.d hE [0, 1, 2, 3, 4, 5, 6, 7] [.pointer (some ⟨b1, o, none⟩), .int .i64 x.Kind, .int .i64 x.Box, .int .i64 x.Command.Kind, .int .i64 x.Command.Queue, .int .i64 x.Command.Job.At, .int .i64 x.Command.Job.Gen, .int .i64 x.Command.Time, .int .i64 x.Command.Data, .pointer (some ⟨b2, o1, none⟩), .int .i64 x1.Kind, .int .i64 x1.Box, .int .i64 x1.Command.Kind, .int .i64 x1.Command.Queue, .int .i64 x1.Command.Job.At, .int .i64 x1.Command.Job.Gen, .int .i64 x1.Command.Time, .int .i64 x1.Command.Data] [(20, .agg #[.int .i64 x.Kind, .int .i64 x.Box, .int .i64 x.Command.Kind, .int .i64 x.Command.Queue, .int .i64 x.Command.Job.At, .int .i64 x.Command.Job.Gen, .int .i64 x.Command.Time, .int .i64 x.Command.Data]), (24, .agg #[.int .i64 x1.Kind, .int .i64 x1.Box, .int .i64 x1.Command.Kind, .int .i64 x1.Command.Queue, .int .i64 x1.Command.Job.At, .int .i64 x1.Command.Job.Gen, .int .i64 x1.Command.Time, .int .i64 x1.Command.Data])] (obs := [.p ((sb_a_ : Option Addr) = some ⟨b1, o, none⟩), .p (0 ≤ (i : Int) ∧ (i : Int) < ((a_.length : Nat) : Int)), .cell ⟨b1, o + (Int.toNat i) * 8, none⟩ (.int .i64 x.Kind), .cell ⟨b1, o + (Int.toNat i) * 8 + 1, none⟩ (.int .i64 x.Box), .cell ⟨b1, o + (Int.toNat i) * 8 + 2, none⟩ (.int .i64 x.Command.Kind), .cell ⟨b1, o + (Int.toNat i) * 8 + 3, none⟩ (.int .i64 x.Command.Queue), .cell ⟨b1, o + (Int.toNat i) * 8 + 4, none⟩ (.int .i64 x.Command.Job.At), .cell ⟨b1, o + (Int.toNat i) * 8 + 5, none⟩ (.int .i64 x.Command.Job.Gen), .cell ⟨b1, o + (Int.toNat i) * 8 + 6, none⟩ (.int .i64 x.Command.Time), .cell ⟨b1, o + (Int.toNat i) * 8 + 7, none⟩ (.int .i64 x.Command.Data), .p ((sb_b : Option Addr) = some ⟨b2, o1, none⟩), .p (0 ≤ (i : Int) ∧ (i : Int) < ((b.length : Nat) : Int)), .cell ⟨b2, o1 + (Int.toNat i) * 8, none⟩ (.int .i64 x1.Kind), .cell ⟨b2, o1 + (Int.toNat i) * 8 + 1, none⟩ (.int .i64 x1.Box), .cell ⟨b2, o1 + (Int.toNat i) * 8 + 2, none⟩ (.int .i64 x1.Command.Kind), .cell ⟨b2, o1 + (Int.toNat i) * 8 + 3, none⟩ (.int .i64 x1.Command.Queue), .cell ⟨b2, o1 + (Int.toNat i) * 8 + 4, none⟩ (.int .i64 x1.Command.Job.At), .cell ⟨b2, o1 + (Int.toNat i) * 8 + 5, none⟩ (.int .i64 x1.Command.Job.Gen), .cell ⟨b2, o1 + (Int.toNat i) * 8 + 6, none⟩ (.int .i64 x1.Command.Time), .cell ⟨b2, o1 + (Int.toNat i) * 8 + 7, none⟩ (.int .i64 x1.Command.Data)]) ⟨hs, hb, SlRd.cells hX_a_ api_Act.enc_ok H 0 rfl hs ex 0 _ rfl, SlRd.cells hX_a_ api_Act.enc_ok H 0 rfl hs ex 1 _ rfl, SlRd.cells hX_a_ api_Act.enc_ok H 0 rfl hs ex 2 _ rfl, SlRd.cells hX_a_ api_Act.enc_ok H 0 rfl hs ex 3 _ rfl, SlRd.cells hX_a_ api_Act.enc_ok H 0 rfl hs ex 4 _ rfl, SlRd.cells hX_a_ api_Act.enc_ok H 0 rfl hs ex 5 _ rfl, SlRd.cells hX_a_ api_Act.enc_ok H 0 rfl hs ex 6 _ rfl, SlRd.cells hX_a_ api_Act.enc_ok H 0 rfl hs ex 7 _ rfl, hs1, hb1, SlRd.cells hX_b api_Act.enc_ok H 1 rfl hs1 ex1 0 _ rfl, SlRd.cells hX_b api_Act.enc_ok H 1 rfl hs1 ex1 1 _ rfl, SlRd.cells hX_b api_Act.enc_ok H 1 rfl hs1 ex1 2 _ rfl, SlRd.cells hX_b api_Act.enc_ok H 1 rfl hs1 ex1 3 _ rfl, SlRd.cells hX_b api_Act.enc_ok H 1 rfl hs1 ex1 4 _ rfl, SlRd.cells hX_b api_Act.enc_ok H 1 rfl hs1 ex1 5 _ rfl, SlRd.cells hX_b api_Act.enc_ok H 1 rfl hs1 ex1 6 _ rfl, SlRd.cells hX_b api_Act.enc_ok H 1 rfl hs1 ex1 7 _ rfl, trivial⟩ fun a hE => ?_
     refine WQ.eff (j := 8) (obs := []) hE (by kernel_rfl) rfl rfl rfl rfl (by kernel_rfl) (OpTo.neS hE rfl rfl rfl (by kernel_rfl) (api_Act.eq_run x x1)) ?_
     rintro _ _ ⟨rfl, rfl⟩
     refine ⟨trivial, fun a hE => ?_⟩
     refine WQ.done (by kernel_rfl) ?_
     refine Runs.cond hE rfl (fun c => ?_) (fun c => ?_)
     ·replace hm := cond_t c hm
      refine Runs.sr ?_
      refine WR.e0 hE [(4, .bool false)] fun a hE => ?_
      refine Runs.ret hE Tryz.func50 rfl rfl ?_
      cases hm
      dsimp only at hR; cases hR
      exact ⟨rfl, H.t1.t1⟩
     ·replace hm := cond_f c hm
      refine Runs.skip ?_
      refine Runs.inBlock ?_
      refine Runs.region ?_
      refine WR.e0 hE [(5, .int .i64 (w64 (i + 1)))] fun a hE => ?_
      exact ih m (Nat.lt_succ_self m) _ _ ⟨w64 (i + 1), hE.sel [0, 1, 5] (by kernel_rfl), H.t1.t1, hm⟩
    ·replace hm := cond_f c hm
     refine Runs.exit rfl ?_
     cases hm
     exact hk _ _ ⟨_, rfl, hE.sel [] (by kernel_rfl), H.t1.t1⟩
  rintro a w ⟨s1, rfl, hE, H⟩
  replace hm := hR; dsimp only at hm
  refine Runs.sr ?_
  refine WR.seg hE 1 [] [4] (Lo := [(4, .bool true)]) (obs := []) rfl (by kernel_rfl) trivial fun a hE => ?_
  refine WR.done rfl ?_
  refine Runs.ret hE Tryz.func50 rfl rfl ?_
  cases hm
  exact ⟨rfl, H.t1.t1⟩

theorem thicketlaw28_same_ok {w0 w : World} {As : List HP} {k : Nat} {a_ : shell_Script} {al_a_ : shell_Script.A} {X_a_ : HP} {b : shell_Script} {al_b : shell_Script.A} {X_b : HP} {t : Bool} (hX_a__Acts : SlRd X_a_ api_Act.enc 8 al_a_.Acts_b a_.Acts) (hC_a__Acts : a_.Acts.length ≤ al_a_.Acts_c) (hX_b_Acts : SlRd X_b api_Act.enc 8 al_b.Acts_b b.Acts) (hC_b_Acts : b.Acts.length ≤ al_b.Acts_c) (hm : thicketlaw28_same k a_ b = some t) (H : St w0 (X_a_ :: X_b :: As) w) :
    CallsR Tryz.prog 25 #[.agg #[.int .i64 a_.Kind, .int .i64 a_.Jobs, .int .i64 a_.Boxes, .int .i64 a_.Room, .slice al_a_.Acts_b a_.Acts.length al_a_.Acts_c], .agg #[.int .i64 b.Kind, .int .i64 b.Jobs, .int .i64 b.Boxes, .int .i64 b.Room, .slice al_b.Acts_b b.Acts.length al_b.Acts_c]] w fun v w' => v = .bool t ∧ St w0 (X_a_ :: X_b :: As) w' := by
 rw [thicketlaw28_same] at hm
 refine enter (args := [.agg #[.int .i64 a_.Kind, .int .i64 a_.Jobs, .int .i64 a_.Boxes, .int .i64 a_.Room, .slice al_a_.Acts_b a_.Acts.length al_a_.Acts_c], .agg #[.int .i64 b.Kind, .int .i64 b.Jobs, .int .i64 b.Boxes, .int .i64 b.Room, .slice al_b.Acts_b b.Acts.length al_b.Acts_c]]) Tryz.func25 rfl rfl rfl fun a hE => ?_
 refine Runs.sr ?_
 refine WR.eff hE rfl rfl rfl rfl (OpTo.new hE H [] (.cells #[.int .i64 a_.Kind, .int .i64 a_.Jobs, .int .i64 a_.Boxes, .int .i64 a_.Room, .slice al_a_.Acts_b a_.Acts.length al_a_.Acts_c] 45 (0, 0)) (fun r => .pointer (some ⟨r, 0, none⟩)) (obs := []) rfl (fun _ => by kernel_rfl) trivial) ?_
 rintro _ w ⟨r, rfl, H⟩ a hE
 refine WR.eff hE rfl rfl rfl rfl (OpTo.new hE H [] (.cells #[.int .i64 b.Kind, .int .i64 b.Jobs, .int .i64 b.Boxes, .int .i64 b.Room, .slice al_b.Acts_b b.Acts.length al_b.Acts_c] 45 (0, 0)) (fun r => .pointer (some ⟨r, 0, none⟩)) (obs := []) rfl (fun _ => by kernel_rfl) trivial) ?_
 rintro _ w ⟨r1, rfl, H⟩ a hE
 refine WR.seg hE 3 [] [2, 3] (Lo := [(2, .pointer (some ⟨r, 0, none⟩)), (3, .pointer (some ⟨r1, 0, none⟩))]) (obs := []) rfl (by kernel_rfl) trivial fun a hE => ?_
 refine WR.done rfl ?_
 refine Runs.seq ?_
 obtain ⟨s, es, hm⟩ := bind_some hm
 refine Runs.join (fun a w => EnvOk 38 a [(4, .bool s)] ∧ St w0 (X_a_ :: X_b :: As) w) (fun hk => ?_) ?_
 ·replace hm := es; clear es
  refine Runs.region ?_
  refine WR.d hE 6 [.int .i64 a_.Kind, .int .i64 b.Kind] [(10, .bool (a_.Kind == b.Kind))] (obs := [.cell ⟨r, 0, none⟩ (.int .i64 a_.Kind), .cell ⟨r1, 0, none⟩ (.int .i64 b.Kind)]) ⟨H.cell 1 rfl rfl, H.cell 0 rfl rfl, trivial⟩ fun a hE => ?_
  rcases Bool.eq_false_or_eq_true (a_.Kind == b.Kind) with c | c
  ·replace hE := hE.dec 10 c (by kernel_rfl)
   replace hm := cond_t c hm
   have c_ := c
   refine WR.d hE 13 [.int .i64 a_.Jobs, .int .i64 b.Jobs] [(17, .bool (a_.Jobs == b.Jobs))] (obs := [.cell ⟨r, 1, none⟩ (.int .i64 a_.Jobs), .cell ⟨r1, 1, none⟩ (.int .i64 b.Jobs)]) ⟨H.cell 1 rfl rfl, H.cell 0 rfl rfl, trivial⟩ fun a hE => ?_
   rcases Bool.eq_false_or_eq_true (a_.Jobs == b.Jobs) with c | c
   ·replace hE := hE.dec 17 c (by kernel_rfl)
    replace hm := cond_t c hm
    have c_1 := c
    refine WR.d hE 20 [.int .i64 a_.Boxes, .int .i64 b.Boxes] [(24, .bool (a_.Boxes == b.Boxes))] (obs := [.cell ⟨r, 2, none⟩ (.int .i64 a_.Boxes), .cell ⟨r1, 2, none⟩ (.int .i64 b.Boxes)]) ⟨H.cell 1 rfl rfl, H.cell 0 rfl rfl, trivial⟩ fun a hE => ?_
    rcases Bool.eq_false_or_eq_true (a_.Boxes == b.Boxes) with c | c
    ·replace hE := hE.dec 24 c (by kernel_rfl)
     replace hm := cond_t c hm
     have c_2 := c
     refine WR.d hE 27 [.int .i64 a_.Room, .int .i64 b.Room] [(31, .bool (a_.Room == b.Room))] (obs := [.cell ⟨r, 3, none⟩ (.int .i64 a_.Room), .cell ⟨r1, 3, none⟩ (.int .i64 b.Room)]) ⟨H.cell 1 rfl rfl, H.cell 0 rfl rfl, trivial⟩ fun a hE => ?_
     rcases Bool.eq_false_or_eq_true (a_.Room == b.Room) with c | c
     ·replace hE := hE.dec 31 c (by kernel_rfl)
      replace hm := cond_t c hm
      have c_3 := c
      refine WR.d hE 31 [.slice al_a_.Acts_b a_.Acts.length al_a_.Acts_c, .slice al_b.Acts_b b.Acts.length al_b.Acts_c] [(31, .bool true), (33, .slice al_a_.Acts_b a_.Acts.length al_a_.Acts_c), (35, .slice al_b.Acts_b b.Acts.length al_b.Acts_c)] (obs := [.cell ⟨r, 4, none⟩ (.slice al_a_.Acts_b a_.Acts.length al_a_.Acts_c), .cell ⟨r1, 4, none⟩ (.slice al_b.Acts_b b.Acts.length al_b.Acts_c)]) ⟨H.cell 1 rfl rfl, H.cell 0 rfl rfl, trivial⟩ fun a hE => ?_
      obtain ⟨t_, et_, hm⟩ := bind_some hm
      replace H := H.t3.t3
      refine WR.eff hE rfl rfl rfl rfl (OpTo.fn hE rfl rfl Tryz.call50 (thicketbook_Same_api_Act_ok (hX_a_ := hX_a__Acts) (hC_a_ := hC_a__Acts) (hX_b := hX_b_Acts) (hC_b := hC_b_Acts) et_ H)) ?_
      rintro _ w ⟨rfl, H⟩ a hE
      refine WR.e0 hE [(4, .bool t_)] fun a hE => ?_
      cases hm
      exact hk _ _ ⟨hE.sel [4] (by kernel_rfl), H.x3.x2.t1.t1⟩
     ·replace hE := hE.dec 31 c (by kernel_rfl)
      replace hm := cond_f c hm
      have c_4 := c
      refine WR.e0 hE [(4, .bool false)] fun a hE => ?_
      cases hm
      exact hk _ _ ⟨hE.sel [4] (by kernel_rfl), H.x1.x0.t1.t1⟩
    ·replace hE := hE.dec 24 c (by kernel_rfl)
     replace hm := cond_f c hm
     have c_5 := c
     refine WR.e0 hE [(4, .bool false)] fun a hE => ?_
     cases hm
     exact hk _ _ ⟨hE.sel [4] (by kernel_rfl), H.x1.x0.t1.t1⟩
   ·replace hE := hE.dec 17 c (by kernel_rfl)
    replace hm := cond_f c hm
    have c_6 := c
    refine WR.e0 hE [(4, .bool false)] fun a hE => ?_
    cases hm
    exact hk _ _ ⟨hE.sel [4] (by kernel_rfl), H.x1.x0.t1.t1⟩
  ·replace hE := hE.dec 10 c (by kernel_rfl)
   replace hm := cond_f c hm
   have c_7 := c
   refine WR.e0 hE [(4, .bool false)] fun a hE => ?_
   cases hm
   exact hk _ _ ⟨hE.sel [4] (by kernel_rfl), H.x1.x0.t1.t1⟩
 rintro a w ⟨hE, H⟩
 refine Runs.ret hE Tryz.func25 rfl rfl ?_
 cases hm
 exact ⟨rfl, H.t1.t1⟩

theorem thicketlaw28_reads_ok {w0 w : World} {As : List HP} {k : Nat} {sb_b : Option Addr} {sc_b : Nat} {b : List Int} {X_b : HP} {t : Bool} (hX_b : SlRd X_b ecU 1 sb_b b) (hC_b : b.length ≤ sc_b) (hm : thicketlaw28_reads k b = some t) (H : St w0 (X_b :: As) w) :
    CallsR Tryz.prog 17 #[.slice sb_b b.length sc_b] w fun v w' => v = .bool t ∧ St w0 (X_b :: As) w' := by
 rw [thicketlaw28_reads] at hm
 refine enter (args := [.slice sb_b b.length sc_b]) Tryz.func17 rfl rfl rfl fun a hE => ?_
 refine Runs.sr ?_
 refine WR.seg hE 1 [] [0] (Lo := [(0, .slice sb_b b.length sc_b)]) (obs := []) rfl (by kernel_rfl) trivial fun a hE => ?_
 refine WR.done rfl ?_
 refine Runs.sr ?_
 refine WR.d0 hE 1 [(8, .slice sb_b b.length sc_b)] fun a hE => ?_
 obtain ⟨t_, et_, hm⟩ := bind_some hm
 refine WR.eff hE rfl rfl rfl rfl (OpTo.fn hE rfl rfl Tryz.call24 (shell_Decode_ok (hX_b := hX_b) (hC_b := hC_b) et_ H)) ?_
 rintro _ w ⟨sb, sc, rfl, H⟩ a hE
 refine WR.d0 hE 5 [(10, .agg #[.int .i64 t_.1.Kind, .int .i64 t_.1.Jobs, .int .i64 t_.1.Boxes, .int .i64 t_.1.Room, .slice sb t_.1.Acts.length sc]), (11, .int .i64 t_.2)] fun a hE => ?_
 refine WR.eff hE rfl rfl rfl rfl (OpTo.new hE H [] (.cells #[.int .i64 0, .int .i64 0, .int .i64 0, .int .i64 0, .slice none 0 0] 45 (0, 0)) (fun r => .pointer (some ⟨r, 0, none⟩)) (obs := []) rfl (fun _ => by kernel_rfl) trivial) ?_
 rintro _ w ⟨r, rfl, H⟩ a hE
 refine WR.eff0 hE rfl rfl rfl (OpTo.store hE H rfl rfl rfl rfl rfl rfl (Nat.le_of_ble_eq_true rfl)) ?_
 rintro _ w H a hE
 refine WR.e0 hE [(4, .int .i64 t_.2)] fun a hE => ?_
 refine Runs.sr ?_
 refine WR.d0 hE 1 [(13, .slice sb_b b.length sc_b)] fun a hE => ?_
 obtain ⟨t_1, et_1, hm⟩ := bind_some hm
 replace H := H.t2
 refine WR.eff hE rfl rfl rfl rfl (OpTo.fn hE rfl rfl Tryz.call39 (thicketlaw28_parse_ok (hX_b := hX_b) (hC_b := hC_b) et_1 H)) ?_
 rintro _ w ⟨sb1, sc1, rfl, H⟩ a hE
 refine WR.d0 hE 5 [(15, .agg #[.int .i64 t_1.1.Kind, .int .i64 t_1.1.Jobs, .int .i64 t_1.1.Boxes, .int .i64 t_1.1.Room, .slice sb1 t_1.1.Acts.length sc1]), (16, .bool t_1.2)] fun a hE => ?_
 refine WR.eff hE rfl rfl rfl rfl (OpTo.new hE H [] (.cells #[.int .i64 0, .int .i64 0, .int .i64 0, .int .i64 0, .slice none 0 0] 45 (0, 0)) (fun r => .pointer (some ⟨r, 0, none⟩)) (obs := []) rfl (fun _ => by kernel_rfl) trivial) ?_
 rintro _ w ⟨r1, rfl, H⟩ a hE
 refine WR.eff0 hE rfl rfl rfl (OpTo.store hE H rfl rfl rfl rfl rfl rfl (Nat.le_of_ble_eq_true rfl)) ?_
 rintro _ w H a hE
 refine WR.e0 hE [(6, .bool t_1.2)] fun a hE => ?_
 refine Runs.seq ?_
 replace H := shell_Script.shut (shell_Script.A.mk sb1 sc1) (t_1.1) H.t1.t1
 replace H := shell_Script.shut (shell_Script.A.mk sb sc) (t_.1) H.t3.t3
 obtain ⟨s, es, hm⟩ := bind_some hm
 refine Runs.join (fun a w => EnvOk 33 a [(2, .bool s)] ∧ St w0 (shell_Script.R r (shell_Script.A.mk sb sc) t_.1 :: shell_Script.R r1 (shell_Script.A.mk sb1 sc1) t_1.1 :: X_b :: As) w) (fun hk => ?_) ?_
 ·replace hm := es; clear es
  refine Runs.region ?_
  refine WR.d0 hE 5 [(21, .bool ((t_.2 == 0) == t_1.2))] fun a hE => ?_
  rcases Bool.eq_false_or_eq_true ((t_.2 == 0) == t_1.2) with c | c
  ·replace hE := hE.dec 21 c (by kernel_rfl)
   replace hm := cond_t c hm
   have c_ := c
   replace H := shell_Script.open H
   try dsimp only at H
   replace H := shell_Script.open H.t2
   try dsimp only at H
   refine WR.d hE 7 [.int .i64 t_.1.Kind, .int .i64 t_.1.Jobs, .int .i64 t_.1.Boxes, .int .i64 t_.1.Room, .slice sb t_.1.Acts.length sc, .int .i64 t_1.1.Kind, .int .i64 t_1.1.Jobs, .int .i64 t_1.1.Boxes, .int .i64 t_1.1.Room, .slice sb1 t_1.1.Acts.length sc1] [(21, .bool true), (22, .agg #[.int .i64 t_.1.Kind, .int .i64 t_.1.Jobs, .int .i64 t_.1.Boxes, .int .i64 t_.1.Room, .slice sb t_.1.Acts.length sc]), (23, .agg #[.int .i64 t_1.1.Kind, .int .i64 t_1.1.Jobs, .int .i64 t_1.1.Boxes, .int .i64 t_1.1.Room, .slice sb1 t_1.1.Acts.length sc1])] (obs := [.cell ⟨r, 0, none⟩ (.int .i64 t_.1.Kind), .cell ⟨r, 1, none⟩ (.int .i64 t_.1.Jobs), .cell ⟨r, 2, none⟩ (.int .i64 t_.1.Boxes), .cell ⟨r, 3, none⟩ (.int .i64 t_.1.Room), .cell ⟨r, 4, none⟩ (.slice sb t_.1.Acts.length sc), .cell ⟨r1, 0, none⟩ (.int .i64 t_1.1.Kind), .cell ⟨r1, 1, none⟩ (.int .i64 t_1.1.Jobs), .cell ⟨r1, 2, none⟩ (.int .i64 t_1.1.Boxes), .cell ⟨r1, 3, none⟩ (.int .i64 t_1.1.Room), .cell ⟨r1, 4, none⟩ (.slice sb1 t_1.1.Acts.length sc1)]) ⟨H.cell 2 rfl rfl, H.cell 2 rfl rfl, H.cell 2 rfl rfl, H.cell 2 rfl rfl, H.cell 2 rfl rfl, H.cell 0 rfl rfl, H.cell 0 rfl rfl, H.cell 0 rfl rfl, H.cell 0 rfl rfl, H.cell 0 rfl rfl, trivial⟩ fun a hE => ?_
   obtain ⟨t_2, et_2, hm⟩ := bind_some hm
   replace H := H.t1.t3
   have hC_ := thicketlaw28_same_ok (al_a_ := shell_Script.A.mk sb sc) (hX_a__Acts := (sl_rd 42 api_Act.enc 8 _ _ _)) (hC_a__Acts := (H.slCap 0 rfl).1) (al_b := shell_Script.A.mk sb1 sc1) (hX_b_Acts := (sl_rd 42 api_Act.enc 8 _ _ _)) (hC_b_Acts := (H.slCap 1 rfl).1) et_2 H
   try dsimp only at hC_
   refine WR.eff hE rfl rfl rfl rfl (OpTo.fn hE rfl rfl Tryz.call25 hC_) ?_
   rintro _ w ⟨rfl, H⟩ a hE
   refine WR.d0 hE 10 [(26, .bool t_2)] fun a hE => ?_
   rcases Bool.eq_false_or_eq_true t_2 with c | c
   ·replace hE := hE.dec 26 c (by kernel_rfl)
    replace hm := cond_t c hm
    have c_1 := c
    refine WR.d0 hE 12 [(26, .bool true), (28, .bool t_1.2)] fun a hE => ?_
    rcases Bool.eq_false_or_eq_true t_1.2 with c | c
    ·replace hE := hE.dec 28 c (by kernel_rfl)
     replace hm := cond_t c hm
     have c_2 := c
     refine WR.e0 hE [(2, .bool true)] fun a hE => ?_
     replace H := shell_Script.shut (shell_Script.A.mk sb1 sc1) (t_1.1) H.t1.t2
     replace H := shell_Script.shut (shell_Script.A.mk sb sc) (t_.1) H.t1.t2
     cases hm
     exact hk _ _ ⟨hE.sel [2] (by kernel_rfl), H.t2.t2.t2⟩
    ·replace hE := hE.dec 28 c (by kernel_rfl)
     replace hm := cond_f c hm
     have c_3 := c
     refine WR.e0 hE [(2, .bool (t_.2 == 12))] fun a hE => ?_
     replace H := shell_Script.shut (shell_Script.A.mk sb1 sc1) (t_1.1) H.t1.t2
     replace H := shell_Script.shut (shell_Script.A.mk sb sc) (t_.1) H.t1.t2
     cases hm
     exact hk _ _ ⟨hE.sel [2] (by kernel_rfl), H.t2.t2.t2⟩
   ·replace hE := hE.dec 26 c (by kernel_rfl)
    replace hm := cond_f c hm
    have c_4 := c
    refine WR.e0 hE [(2, .bool false)] fun a hE => ?_
    replace H := shell_Script.shut (shell_Script.A.mk sb1 sc1) (t_1.1) H.t1.t2
    replace H := shell_Script.shut (shell_Script.A.mk sb sc) (t_.1) H.t1.t2
    cases hm
    exact hk _ _ ⟨hE.sel [2] (by kernel_rfl), H.t2.t2.t2⟩
  ·replace hE := hE.dec 21 c (by kernel_rfl)
   replace hm := cond_f c hm
   have c_5 := c
   refine WR.e0 hE [(2, .bool false)] fun a hE => ?_
   cases hm
   exact hk _ _ ⟨hE.sel [2] (by kernel_rfl), H.t2.t2.t2⟩
 rintro a w ⟨hE, H⟩
 refine Runs.ret hE Tryz.func17 rfl rfl ?_
 cases hm
 exact ⟨rfl, H.x1.x0⟩

theorem thicketbook_Same_byte_ok {w0 w : World} {As : List HP} {k : Nat} {sb_a_ : Option Addr} {sc_a_ : Nat} {a_ : List Int} {X_a_ : HP} {sb_b : Option Addr} {sc_b : Nat} {b : List Int} {X_b : HP} {t : Bool} (hX_a_ : SlRd X_a_ ecU 1 sb_a_ a_) (hC_a_ : a_.length ≤ sc_a_) (hX_b : SlRd X_b ecU 1 sb_b b) (hC_b : b.length ≤ sc_b) (hm : thicketbook_Same_byte k a_ b = some t) (H : St w0 (X_a_ :: X_b :: As) w) :
    CallsR Tryz.prog 47 #[.slice sb_a_ a_.length sc_a_, .slice sb_b b.length sc_b] w fun v w' => v = .bool t ∧ St w0 (X_a_ :: X_b :: As) w' := by
 rw [thicketbook_Same_byte] at hm
 refine enter (args := [.slice sb_a_ a_.length sc_a_, .slice sb_b b.length sc_b]) Tryz.func47 rfl rfl rfl fun a hE => ?_
 refine Runs.sr ?_
 refine WR.seg hE 1 [] [0, 1] (Lo := [(0, .slice sb_a_ a_.length sc_a_), (1, .slice sb_b b.length sc_b)]) (obs := []) rfl (by kernel_rfl) trivial fun a hE => ?_
 refine WR.done rfl ?_
 refine Runs.seq ?_
 refine Runs.sr ?_
 refine WR.e0 hE [(10, .bool ((a_.length : Int) != (b.length : Int)))] fun a hE => ?_
 refine Runs.cond hE rfl (fun c => ?_) (fun c => ?_)
 ·replace hm := cond_t c hm
  refine Runs.sr ?_
  refine WR.e0 hE [(4, .bool false)] fun a hE => ?_
  refine Runs.ret hE Tryz.func47 rfl rfl ?_
  cases hm
  exact ⟨rfl, H.t1.t1⟩
 ·replace hm := cond_f c hm
  refine Runs.skip ?_
  refine Runs.seq ?_
  refine Runs.sr ?_
  refine WR.e0 hE [(5, .int .i64 0)] fun a hE => ?_
  obtain ⟨s, es, hR⟩ := bind_some hm
  refine Runs.join (fun a w => ∃ s1, s = Sum.inr s1 ∧ EnvOk 26 a [] ∧ St w0 (X_a_ :: X_b :: As) w) (fun hk => ?_) ?_
  ·replace hm := es; clear es
   refine Runs.block ?_
   refine Runs.loop (fun m a w => ∃ (i : Int), EnvOk 26 a [(0, .slice sb_a_ a_.length sc_a_), (1, .slice sb_b b.length sc_b), (5, .int .i64 i)] ∧ St w0 (X_a_ :: X_b :: As) w ∧ thicketbook_Same_byte_l0 a_ b m i = some s) k ⟨0, hE.sel [0, 1, 5] (by kernel_rfl), H.t1.t1, hm⟩ ?_
   rintro m ih a w ⟨i, hE, H, hm⟩
   cases m with
   | zero => simp [thicketbook_Same_byte_l0] at hm
   | succ m =>
    rw [thicketbook_Same_byte_l0] at hm
    refine Runs.seq ?_
    refine Runs.sr ?_
    refine WR.seg hE 4 [] [0, 1, 5, 14] (Lo := [(0, .slice sb_a_ a_.length sc_a_), (1, .slice sb_b b.length sc_b), (5, .int .i64 i), (14, .bool (decide (i < (a_.length : Int))))]) (obs := []) rfl (by kernel_rfl) trivial fun a hE => ?_
    refine WR.done rfl ?_
    refine Runs.cond hE rfl (fun c => ?_) (fun c => ?_)
    ·replace hm := cond_t c hm
     refine Runs.skip ?_
     refine Runs.seq ?_
     refine Runs.block ?_
     refine Runs.seq ?_
     refine Runs.drawn mixed (by kernel_rfl) ?_
     replace H := H.drew
     obtain ⟨x, ex, hm⟩ := bind_some hm
     obtain ⟨b1, o, hs, hb⟩ := SlRd.base hX_a_ ecU_ok H 0 rfl ex
     obtain ⟨x1, ex1, hm⟩ := bind_some hm
     obtain ⟨b2, o1, hs1, hb1⟩ := SlRd.base hX_b ecU_ok H 1 rfl ex1
     refine WQ.d hE [0, 1, 2, 3, 4, 5, 6, 7, 8] [.pointer (some ⟨b1, o, none⟩), .int .u8 x, .pointer (some ⟨b2, o1, none⟩), .int .u8 x1] [(25, .bool (x != x1))] (obs := [.p ((sb_a_ : Option Addr) = some ⟨b1, o, none⟩), .p (0 ≤ (i : Int) ∧ (i : Int) < ((a_.length : Nat) : Int)), .cell ⟨b1, o + (Int.toNat i) * 1, none⟩ (.int .u8 x), .p ((sb_b : Option Addr) = some ⟨b2, o1, none⟩), .p (0 ≤ (i : Int) ∧ (i : Int) < ((b.length : Nat) : Int)), .cell ⟨b2, o1 + (Int.toNat i) * 1, none⟩ (.int .u8 x1)]) ⟨hs, hb, SlRd.cells hX_a_ ecU_ok H 0 rfl hs ex 0 _ rfl, hs1, hb1, SlRd.cells hX_b ecU_ok H 1 rfl hs1 ex1 0 _ rfl, trivial⟩ fun a hE => ?_
     refine WQ.done (by kernel_rfl) ?_
     refine Runs.cond hE rfl (fun c => ?_) (fun c => ?_)
     ·replace hm := cond_t c hm
      refine Runs.sr ?_
      refine WR.e0 hE [(4, .bool false)] fun a hE => ?_
      refine Runs.ret hE Tryz.func47 rfl rfl ?_
      cases hm
      dsimp only at hR; cases hR
      exact ⟨rfl, H.t1.t1⟩
     ·replace hm := cond_f c hm
      refine Runs.skip ?_
      refine Runs.inBlock ?_
      refine Runs.region ?_
      refine WR.e0 hE [(5, .int .i64 (w64 (i + 1)))] fun a hE => ?_
      exact ih m (Nat.lt_succ_self m) _ _ ⟨w64 (i + 1), hE.sel [0, 1, 5] (by kernel_rfl), H.t1.t1, hm⟩
    ·replace hm := cond_f c hm
     refine Runs.exit rfl ?_
     cases hm
     exact hk _ _ ⟨_, rfl, hE.sel [] (by kernel_rfl), H.t1.t1⟩
  rintro a w ⟨s1, rfl, hE, H⟩
  replace hm := hR; dsimp only at hm
  refine Runs.sr ?_
  refine WR.seg hE 1 [] [4] (Lo := [(4, .bool true)]) (obs := []) rfl (by kernel_rfl) trivial fun a hE => ?_
  refine WR.done rfl ?_
  refine Runs.ret hE Tryz.func47 rfl rfl ?_
  cases hm
  exact ⟨rfl, H.t1.t1⟩

theorem thicketbook_Intact_byte_ok {w0 w : World} {As : List HP} {k : Nat} {sb_full : Option Addr} {sc_full : Nat} {full : List Int} {X_full : HP} {sb_was : Option Addr} {sc_was : Nat} {was : List Int} {X_was : HP} {mark : Int} {t : Bool} (hX_full : SlRd X_full ecU 1 sb_full full) (hC_full : full.length ≤ sc_full) (hX_was : SlRd X_was ecU 1 sb_was was) (hC_was : was.length ≤ sc_was) (hm : thicketbook_Intact_byte k full was mark = some t) (H : St w0 (X_full :: X_was :: As) w) :
    CallsR Tryz.prog 23 #[.slice sb_full full.length sc_full, .slice sb_was was.length sc_was, .int .u8 mark] w fun v w' => v = .bool t ∧ St w0 (X_full :: X_was :: As) w' := by
 rw [thicketbook_Intact_byte] at hm
 refine enter (args := [.slice sb_full full.length sc_full, .slice sb_was was.length sc_was, .int .u8 mark]) Tryz.func23 rfl rfl rfl fun a hE => ?_
 refine Runs.sr ?_
 refine WR.seg hE 1 [] [0, 1, 2] (Lo := [(0, .slice sb_full full.length sc_full), (1, .slice sb_was was.length sc_was), (2, .int .u8 mark)]) (obs := []) rfl (by kernel_rfl) trivial fun a hE => ?_
 refine WR.done rfl ?_
 refine Runs.seq ?_
 refine Runs.seq ?_
 obtain ⟨s, es, hm⟩ := bind_some hm
 refine Runs.join (fun a w => EnvOk 37 a [(0, .slice sb_full full.length sc_full), (1, .slice sb_was was.length sc_was), (2, .int .u8 mark), (22, .bool s)] ∧ St w0 (X_full :: X_was :: As) w) (fun hk => ?_) ?_
 ·replace hm := es; clear es
  refine Runs.region ?_
  refine WR.d0 hE 7 [(14, .bool ((full.length : Int) != (w64 ((was.length : Int) + 80))))] fun a hE => ?_
  rcases Bool.eq_false_or_eq_true ((full.length : Int) != (w64 ((was.length : Int) + 80))) with c | c
  ·replace hE := hE.dec 14 c (by kernel_rfl)
   replace hm := cond_t c hm
   have c_ := c
   refine WR.e0 hE [(22, .bool true)] fun a hE => ?_
   cases hm
   exact hk _ _ ⟨hE.sel [0, 1, 2, 22] (by kernel_rfl), H.t1.t1⟩
  ·replace hE := hE.dec 14 c (by kernel_rfl)
   replace hm := cond_f c hm
   have c_1 := c
   obtain ⟨l1, el1, hm⟩ := bind_some hm
   obtain ⟨sb1, q2⟩ : ∃ z, rebase sb_full sc_full (Int.toNat 0) 1 = z := ⟨_, rfl⟩
   obtain ⟨sc1, q3⟩ : ∃ z, sc_full - (Int.toNat 0) = z := ⟨_, rfl⟩
   refine WR.d hE 12 [.slice sb1 l1.length sc1] [(14, .bool false), (18, .slice sb1 l1.length sc1), (19, .slice sb_was was.length sc_was)] (obs := [.p (rebase sb_full sc_full 0 1 = sb1), .p ((Int.toNat (was.length : Int)) - 0 = l1.length), .p (sc_full - 0 = sc1), .p (0 ≤ ((was.length : Int) : Int) ∧ ((was.length : Int) : Int) ≤ ((sc_full : Nat) : Int))]) ⟨q2, cut_len el1, q3, cut_cap el1 hC_full, trivial⟩ fun a hE => ?_
   obtain ⟨t_, et_, hm⟩ := bind_some hm
   replace H := H.t1.t1
   refine WR.eff hE rfl rfl rfl rfl (OpTo.fn hE rfl rfl Tryz.call47 (thicketbook_Same_byte_ok (hX_a_ := (hX_full.cut' ecU_ok el1 (hC_full) q2)) (hC_a_ := (cut_cap2 el1 hC_full q3)) (hX_b := hX_was) (hC_b := hC_was) et_ H)) ?_
   rintro _ w ⟨rfl, H⟩ a hE
   refine WR.e0 hE [(22, .bool (!t_))] fun a hE => ?_
   cases hm
   exact hk _ _ ⟨hE.sel [0, 1, 2, 22] (by kernel_rfl), H.t1.t1⟩
 rintro a w ⟨hE, H⟩
 refine Runs.cond hE rfl (fun c => ?_) (fun c => ?_)
 ·replace hm := cond_t c hm
  refine Runs.sr ?_
  refine WR.seg hE 1 [] [6] (Lo := [(6, .bool false)]) (obs := []) rfl (by kernel_rfl) trivial fun a hE => ?_
  refine WR.done rfl ?_
  refine Runs.ret hE Tryz.func23 rfl rfl ?_
  cases hm
  exact ⟨rfl, H.t1.t1⟩
 ·replace hm := cond_f c hm
  refine Runs.skip ?_
  refine Runs.seq ?_
  refine Runs.sr ?_
  refine WR.seg hE 3 [] [0, 2, 7] (Lo := [(0, .slice sb_full full.length sc_full), (2, .int .u8 mark), (7, .int .i64 (was.length : Int))]) (obs := []) rfl (by kernel_rfl) trivial fun a hE => ?_
  refine WR.done rfl ?_
  obtain ⟨s1, es1, hR⟩ := bind_some hm
  refine Runs.join (fun a w => ∃ s2, s1 = Sum.inr s2 ∧ EnvOk 37 a [] ∧ St w0 (X_full :: X_was :: As) w) (fun hk => ?_) ?_
  ·replace hm := es1; clear es1
   refine Runs.block ?_
   refine Runs.loop (fun m a w => ∃ (i : Int), EnvOk 37 a [(0, .slice sb_full full.length sc_full), (2, .int .u8 mark), (7, .int .i64 i)] ∧ St w0 (X_full :: X_was :: As) w ∧ thicketbook_Intact_byte_l0 mark full was m i = some s1) k ⟨(was.length : Int), hE.sel [0, 2, 7] (by kernel_rfl), H.t1.t1, hm⟩ ?_
   rintro m ih a w ⟨i, hE, H, hm⟩
   cases m with
   | zero => simp [thicketbook_Intact_byte_l0] at hm
   | succ m =>
    rw [thicketbook_Intact_byte_l0] at hm
    refine Runs.seq ?_
    refine Runs.sr ?_
    refine WR.seg hE 4 [] [0, 2, 7, 28] (Lo := [(0, .slice sb_full full.length sc_full), (2, .int .u8 mark), (7, .int .i64 i), (28, .bool (decide (i < (full.length : Int))))]) (obs := []) rfl (by kernel_rfl) trivial fun a hE => ?_
    refine WR.done rfl ?_
    refine Runs.cond hE rfl (fun c => ?_) (fun c => ?_)
    ·replace hm := cond_t c hm
     refine Runs.skip ?_
     refine Runs.seq ?_
     refine Runs.block ?_
     refine Runs.sr ?_
     obtain ⟨x, ex, hm⟩ := bind_some hm
     obtain ⟨b, o, hs, hb⟩ := SlRd.base hX_full ecU_ok H 0 rfl ex
     refine WR.e hE [.pointer (some ⟨b, o, none⟩), .int .u8 x] [(36, .bool (x != mark))] (obs := [.p ((sb_full : Option Addr) = some ⟨b, o, none⟩), .p (0 ≤ (i : Int) ∧ (i : Int) < ((full.length : Nat) : Int)), .cell ⟨b, o + (Int.toNat i) * 1, none⟩ (.int .u8 x)]) ⟨hs, hb, SlRd.cells hX_full ecU_ok H 0 rfl hs ex 0 _ rfl, trivial⟩ fun a hE => ?_
     refine Runs.cond hE rfl (fun c => ?_) (fun c => ?_)
     ·replace hm := cond_t c hm
      refine Runs.sr ?_
      refine WR.e0 hE [(6, .bool false)] fun a hE => ?_
      refine Runs.ret hE Tryz.func23 rfl rfl ?_
      cases hm
      dsimp only at hR; cases hR
      exact ⟨rfl, H.t1.t1⟩
     ·replace hm := cond_f c hm
      refine Runs.skip ?_
      refine Runs.inBlock ?_
      refine Runs.region ?_
      refine WR.e0 hE [(7, .int .i64 (w64 (i + 1)))] fun a hE => ?_
      exact ih m (Nat.lt_succ_self m) _ _ ⟨w64 (i + 1), hE.sel [0, 2, 7] (by kernel_rfl), H.t1.t1, hm⟩
    ·replace hm := cond_f c hm
     refine Runs.exit rfl ?_
     cases hm
     exact hk _ _ ⟨_, rfl, hE.sel [] (by kernel_rfl), H.t1.t1⟩
  rintro a w ⟨s2, rfl, hE, H⟩
  replace hm := hR; dsimp only at hm
  refine Runs.sr ?_
  refine WR.seg hE 1 [] [6] (Lo := [(6, .bool true)]) (obs := []) rfl (by kernel_rfl) trivial fun a hE => ?_
  refine WR.done rfl ?_
  refine Runs.ret hE Tryz.func23 rfl rfl ?_
  cases hm
  exact ⟨rfl, H.t1.t1⟩

theorem shell_number_ok {w0 w : World} {As : List HP} {k : Nat} {sb_b : Option Addr} {sc_b : Nat} {b : List Int} {n : Int} {bytes : Int} {t : (List Int)}  (hm : shell_number k b n bytes = some t) (H : St w0 (Sl 5 ecU 1 sb_b sc_b b :: As) w) :
    CallsR Tryz.prog 36 #[.slice sb_b b.length sc_b, .int .u64 n, .int .i64 bytes] w fun v w' => ∃ (sb0 : Option Addr), ∃ (sc0 : Nat), v = .slice sb0 t.length sc0 ∧ St w0 (Sl 5 ecU 1 sb0 sc0 t :: As) w' := by
 rw [shell_number] at hm
 refine enter (args := [.slice sb_b b.length sc_b, .int .u64 n, .int .i64 bytes]) Tryz.func36 rfl rfl rfl fun a hE => ?_
 refine Runs.sr ?_
 refine WR.seg hE 1 [] [0, 1, 2] (Lo := [(0, .slice sb_b b.length sc_b), (1, .int .u64 n), (2, .int .i64 bytes)]) (obs := []) rfl (by kernel_rfl) trivial fun a hE => ?_
 refine WR.done rfl ?_
 refine Runs.seq ?_
 refine Runs.sr ?_
 refine WR.e0 hE [(7, .int .i64 (w64 (bytes - 1)))] fun a hE => ?_
 obtain ⟨s, es, hm⟩ := bind_some hm
 refine Runs.join (fun a w => ∃ (sb1 : Option Addr), ∃ (sc1 : Nat), EnvOk 23 a [(0, .slice sb1 s.length sc1)] ∧ St w0 (Sl 5 ecU 1 sb1 sc1 s :: As) w) (fun hk => ?_) ?_
 ·replace hm := es; clear es
  refine Runs.block ?_
  refine Runs.loop (fun m a w => ∃ (b1 : List Int), ∃ (k_ : Int), ∃ (sb2 : Option Addr), ∃ (sc2 : Nat), EnvOk 23 a [(0, .slice sb2 b1.length sc2), (1, .int .u64 n), (7, .int .i64 k_)] ∧ St w0 (Sl 5 ecU 1 sb2 sc2 b1 :: As) w ∧ shell_number_l0 n m b1 k_ = some s) k ⟨b, w64 (bytes - 1), sb_b, sc_b, hE.sel [0, 1, 7] (by kernel_rfl), H, hm⟩ ?_
  rintro m ih a w ⟨b1, k_, sb2, sc2, hE, H, hm⟩
  cases m with
  | zero => simp [shell_number_l0] at hm
  | succ m =>
   rw [shell_number_l0] at hm
   refine Runs.seq ?_
   refine Runs.sr ?_
   refine WR.seg hE 2 [] [0, 1, 7, 11] (Lo := [(0, .slice sb2 b1.length sc2), (1, .int .u64 n), (7, .int .i64 k_), (11, .bool (decide (k_ ≥ 0)))]) (obs := []) rfl (by kernel_rfl) trivial fun a hE => ?_
   refine WR.done rfl ?_
   refine Runs.cond hE rfl (fun c => ?_) (fun c => ?_)
   ·replace hm := cond_t c hm
    refine Runs.skip ?_
    refine Runs.seq ?_
    refine Runs.block ?_
    refine Runs.region ?_
    obtain ⟨u, eu, hm⟩ := bind_some hm
    refine WR.d hE 6 [] [(14, .slice sb2 b1.length sc2), (19, .int .u8 (IntKind.wrap .u8 (Int.fdiv n (2 ^ (min (Int.toNat (w64 (8 * k_))) 64)))))] (obs := [.p (0 ≤ w64 (8 * k_))]) ⟨(nn_spec eu), trivial⟩ fun a hE => ?_
    refine WR.eff hE rfl rfl rfl rfl (OpTo.buildSl (T := 5) hE H ecU_ok ([IntKind.wrap .u8 (Int.fdiv n (2 ^ (min (Int.toNat (w64 (8 * k_))) 64)))] : List Int) rfl (fun _ => by kernel_rfl) rfl rfl rfl) ?_
    rintro _ w ⟨r, rfl, H⟩ a hE
    obtain ⟨l, el, hm⟩ := bind_some hm
    replace H := H.t1
    refine WR.eff hE rfl rfl rfl rfl (OpTo.appendM el hE H ecU_ok rfl rfl rfl rfl rfl rfl rfl rfl rfl rfl (SlRd.all (sl_rd 5 ecU 1 _ _ _) ecU_ok H 1 rfl) rfl) ?_
    rintro _ w ⟨sb3, sc3, rfl, H⟩ a hE
    refine WR.e0 hE [(0, .slice sb3 l.length sc3)] fun a hE => ?_
    refine Runs.inBlock ?_
    refine Runs.region ?_
    refine WR.e0 hE [(7, .int .i64 (w64 (k_ - 1)))] fun a hE => ?_
    exact ih m (Nat.lt_succ_self m) _ _ ⟨l, w64 (k_ - 1), sb3, sc3, hE.sel [0, 1, 7] (by kernel_rfl), H.x1, hm⟩
   ·replace hm := cond_f c hm
    refine Runs.exit rfl ?_
    cases hm
    exact hk _ _ ⟨sb2, sc2, hE.sel [0] (by kernel_rfl), H⟩
 rintro a w ⟨sb1, sc1, hE, H⟩
 refine Runs.sr ?_
 refine WR.seg hE 2 [] [6] (Lo := [(6, .slice sb1 s.length sc1)]) (obs := []) rfl (by kernel_rfl) trivial fun a hE => ?_
 refine WR.done rfl ?_
 refine Runs.ret hE Tryz.func36 rfl rfl ?_
 cases hm
 exact ⟨sb1, sc1, rfl, H⟩

theorem shell_put_ok {w0 w : World} {As : List HP} {k : Nat} {sb_b : Option Addr} {sc_b : Nat} {b : List Int} {x : api_Act} {t : (List Int)}  (hm : shell_put k b x = some t) (H : St w0 (Sl 5 ecU 1 sb_b sc_b b :: As) w) :
    CallsR Tryz.prog 38 #[.slice sb_b b.length sc_b, .agg #[.int .i64 x.Kind, .int .i64 x.Box, .int .i64 x.Command.Kind, .int .i64 x.Command.Queue, .int .i64 x.Command.Job.At, .int .i64 x.Command.Job.Gen, .int .i64 x.Command.Time, .int .i64 x.Command.Data]] w fun v w' => ∃ (sb0 : Option Addr), ∃ (sc0 : Nat), v = .slice sb0 t.length sc0 ∧ St w0 (Sl 5 ecU 1 sb0 sc0 t :: As) w' := by
 rw [shell_put] at hm
 refine enter (args := [.slice sb_b b.length sc_b, .agg #[.int .i64 x.Kind, .int .i64 x.Box, .int .i64 x.Command.Kind, .int .i64 x.Command.Queue, .int .i64 x.Command.Job.At, .int .i64 x.Command.Job.Gen, .int .i64 x.Command.Time, .int .i64 x.Command.Data]]) Tryz.func38 rfl rfl rfl fun a hE => ?_
 refine Runs.sr ?_
 refine WR.eff hE rfl rfl rfl rfl (OpTo.new hE H [] (.cells #[.int .i64 x.Kind, .int .i64 x.Box, .int .i64 x.Command.Kind, .int .i64 x.Command.Queue, .int .i64 x.Command.Job.At, .int .i64 x.Command.Job.Gen, .int .i64 x.Command.Time, .int .i64 x.Command.Data] 42 (0, 0)) (fun r => .pointer (some ⟨r, 0, none⟩)) (obs := []) rfl (fun _ => by kernel_rfl) trivial) ?_
 rintro _ w ⟨r, rfl, H⟩ a hE
 refine WR.seg hE 2 [] [0, 3] (Lo := [(0, .slice sb_b b.length sc_b), (3, .pointer (some ⟨r, 0, none⟩))]) (obs := []) rfl (by kernel_rfl) trivial fun a hE => ?_
 refine WR.done rfl ?_
 refine Runs.sr ?_
 refine WR.d hE 4 [.int .i64 x.Kind] [(6, .slice sb_b b.length sc_b), (9, .int .u8 (IntKind.wrap .u8 (x.Kind)))] (obs := [.cell ⟨r, 0, none⟩ (.int .i64 x.Kind)]) ⟨H.cell 0 rfl rfl, trivial⟩ fun a hE => ?_
 refine WR.eff hE rfl rfl rfl rfl (OpTo.buildSl (T := 5) hE H ecU_ok ([IntKind.wrap .u8 (x.Kind)] : List Int) rfl (fun _ => by kernel_rfl) rfl rfl rfl) ?_
 rintro _ w ⟨r1, rfl, H⟩ a hE
 obtain ⟨l, el, hm⟩ := bind_some hm
 replace H := H.t2
 refine WR.eff hE rfl rfl rfl rfl (OpTo.appendM el hE H ecU_ok rfl rfl rfl rfl rfl rfl rfl rfl rfl rfl (SlRd.all (sl_rd 5 ecU 1 _ _ _) ecU_ok H 1 rfl) rfl) ?_
 rintro _ w ⟨sb, sc, rfl, H⟩ a hE
 refine WR.e0 hE [(0, .slice sb l.length sc)] fun a hE => ?_
 refine Runs.seq ?_
 refine Runs.sr ?_
 refine WR.e hE [.int .i64 x.Kind] [(14, .bool (x.Kind == 1))] (obs := [.cell ⟨r, 0, none⟩ (.int .i64 x.Kind)]) ⟨H.cell 2 rfl rfl, trivial⟩ fun a hE => ?_
 obtain ⟨s, es, hm⟩ := bind_some hm
 refine Runs.join (fun a w => ∃ (sb1 : Option Addr), ∃ (sc1 : Nat), EnvOk 57 a [(0, .slice sb1 s.length sc1), (3, .pointer (some ⟨r, 0, none⟩))] ∧ St w0 (Sl 5 ecU 1 sb1 sc1 s :: Blk r 42 [.int .i64 x.Kind, .int .i64 x.Box, .int .i64 x.Command.Kind, .int .i64 x.Command.Queue, .int .i64 x.Command.Job.At, .int .i64 x.Command.Job.Gen, .int .i64 x.Command.Time, .int .i64 x.Command.Data] :: As) w) (fun hk => ?_) ?_
 ·replace hm := es; clear es
  refine Runs.cond hE rfl (fun c => ?_) (fun c => ?_)
  ·replace hm := cond_t c hm
   refine Runs.region ?_
   refine WR.d hE 4 [.int .i64 x.Box] [(15, .slice sb l.length sc), (18, .int .u8 (IntKind.wrap .u8 (x.Box)))] (obs := [.cell ⟨r, 1, none⟩ (.int .i64 x.Box)]) ⟨H.cell 2 rfl rfl, trivial⟩ fun a hE => ?_
   refine WR.eff hE rfl rfl rfl rfl (OpTo.buildSl (T := 5) hE H ecU_ok ([IntKind.wrap .u8 (x.Box)] : List Int) rfl (fun _ => by kernel_rfl) rfl rfl rfl) ?_
   rintro _ w ⟨r2, rfl, H⟩ a hE
   obtain ⟨l1, el1, hm⟩ := bind_some hm
   replace H := H.t1
   refine WR.eff hE rfl rfl rfl rfl (OpTo.appendM el1 hE H ecU_ok rfl rfl rfl rfl rfl rfl rfl rfl rfl rfl (SlRd.all (sl_rd 5 ecU 1 _ _ _) ecU_ok H 1 rfl) rfl) ?_
   rintro _ w ⟨sb2, sc2, rfl, H⟩ a hE
   refine WR.e0 hE [(0, .slice sb2 l1.length sc2)] fun a hE => ?_
   cases hm
   exact hk _ _ ⟨sb2, sc2, hE.sel [0, 3] (by kernel_rfl), H.x2.x1.t1.t1⟩
  ·replace hm := cond_f c hm
   refine Runs.skip ?_
   cases hm
   exact hk _ _ ⟨sb, sc, hE.sel [0, 3] (by kernel_rfl), H.x1.t1.t1⟩
 rintro a w ⟨sb1, sc1, hE, H⟩
 refine Runs.seq ?_
 refine Runs.sr ?_
 refine WR.seg hE 2 [.int .i64 x.Kind] [0, 3, 22] (Lo := [(0, .slice sb1 s.length sc1), (3, .pointer (some ⟨r, 0, none⟩)), (22, .int .i64 x.Kind)]) (obs := [.cell ⟨r, 0, none⟩ (.int .i64 x.Kind)]) rfl (by kernel_rfl) ⟨H.cell 1 rfl rfl, trivial⟩ fun a hE => ?_
 obtain ⟨t_, et_, hm⟩ := bind_some hm
 refine WR.eff hE rfl rfl rfl rfl (OpTo.fn hE rfl rfl Tryz.call65 (shell_asks_ok et_ H)) ?_
 rintro _ w ⟨rfl, H⟩ a hE
 refine WR.e0 hE [(24, .bool (!t_))] fun a hE => ?_
 refine Runs.cond hE rfl (fun c => ?_) (fun c => ?_)
 ·replace hm := cond_t c hm
  refine Runs.sr ?_
  refine WR.e0 hE [(4, .slice sb1 s.length sc1)] fun a hE => ?_
  refine Runs.ret hE Tryz.func38 rfl rfl ?_
  cases hm
  exact ⟨sb1, sc1, rfl, H.x1⟩
 ·replace hm := cond_f c hm
  refine Runs.skip ?_
  refine Runs.sr ?_
  refine WR.d hE 2 [.int .i64 x.Command.Kind, .int .i64 x.Command.Queue, .int .i64 x.Command.Job.At, .int .i64 x.Command.Job.Gen, .int .i64 x.Command.Time, .int .i64 x.Command.Data] [(27, .agg #[.int .i64 x.Command.Kind, .int .i64 x.Command.Queue, .int .i64 x.Command.Job.At, .int .i64 x.Command.Job.Gen, .int .i64 x.Command.Time, .int .i64 x.Command.Data])] (obs := [.cell ⟨r, 2, none⟩ (.int .i64 x.Command.Kind), .cell ⟨r, 3, none⟩ (.int .i64 x.Command.Queue), .cell ⟨r, 4, none⟩ (.int .i64 x.Command.Job.At), .cell ⟨r, 5, none⟩ (.int .i64 x.Command.Job.Gen), .cell ⟨r, 6, none⟩ (.int .i64 x.Command.Time), .cell ⟨r, 7, none⟩ (.int .i64 x.Command.Data)]) ⟨H.cell 1 rfl rfl, H.cell 1 rfl rfl, H.cell 1 rfl rfl, H.cell 1 rfl rfl, H.cell 1 rfl rfl, H.cell 1 rfl rfl, trivial⟩ fun a hE => ?_
  refine WR.eff hE rfl rfl rfl rfl (OpTo.new hE H [] (.cells #[.int .i64 0, .int .i64 0, .int .i64 0, .int .i64 0, .int .i64 0, .int .i64 0] 33 (0, 0)) (fun r => .pointer (some ⟨r, 0, none⟩)) (obs := []) rfl (fun _ => by kernel_rfl) trivial) ?_
  rintro _ w ⟨r3, rfl, H⟩ a hE
  refine WR.eff0 hE rfl rfl rfl (OpTo.store hE H rfl rfl rfl rfl rfl rfl (Nat.le_of_ble_eq_true rfl)) ?_
  rintro _ w H a hE
  refine WR.done rfl ?_
  refine Runs.sr ?_
  refine WR.d hE 7 [.int .i64 x.Command.Kind, .int .i64 x.Command.Queue] [(28, .slice sb1 s.length sc1), (31, .int .u8 (IntKind.wrap .u8 (x.Command.Kind))), (34, .int .u8 (IntKind.wrap .u8 (x.Command.Queue)))] (obs := [.cell ⟨r3, 0, none⟩ (.int .i64 x.Command.Kind), .cell ⟨r3, 1, none⟩ (.int .i64 x.Command.Queue)]) ⟨H.cell 0 rfl rfl, H.cell 0 rfl rfl, trivial⟩ fun a hE => ?_
  refine WR.eff hE rfl rfl rfl rfl (OpTo.buildSl (T := 5) hE H ecU_ok ([IntKind.wrap .u8 (x.Command.Kind), IntKind.wrap .u8 (x.Command.Queue)] : List Int) rfl (fun _ => by kernel_rfl) rfl rfl rfl) ?_
  rintro _ w ⟨r4, rfl, H⟩ a hE
  obtain ⟨l2, el2, hm⟩ := bind_some hm
  replace H := H.t2
  refine WR.eff hE rfl rfl rfl rfl (OpTo.appendM el2 hE H ecU_ok rfl rfl rfl rfl rfl rfl rfl rfl rfl rfl (SlRd.all (sl_rd 5 ecU 1 _ _ _) ecU_ok H 1 rfl) rfl) ?_
  rintro _ w ⟨sb3, sc3, rfl, H⟩ a hE
  refine WR.e0 hE [(0, .slice sb3 l2.length sc3)] fun a hE => ?_
  refine Runs.seq ?_
  refine Runs.drawn mixed (by kernel_rfl) ?_
  replace H := H.drew
  refine WQ.d hE [0, 1, 2, 3, 4, 6, 7, 8, 9] [.int .i64 x.Command.Job.At, .int .i64 x.Command.Job.Gen] [(37, .slice sb3 l2.length sc3), (41, .int .u64 (IntKind.wrap .u64 (x.Command.Job.At))), (46, .int .u64 (IntKind.wrap .u64 (x.Command.Job.Gen)))] (obs := [.cell ⟨r3, 2, none⟩ (.int .i64 x.Command.Job.At), .cell ⟨r3, 3, none⟩ (.int .i64 x.Command.Job.Gen)]) ⟨H.cell 2 rfl rfl, H.cell 2 rfl rfl, trivial⟩ fun a hE => ?_
  obtain ⟨t_1, et_1, hm⟩ := bind_some hm
  refine WQ.eff (j := 5) (obs := [.cell ⟨r3, 3, none⟩ (.int .i64 x.Command.Job.Gen)]) hE (by kernel_rfl) rfl rfl rfl rfl (by kernel_rfl) (OpTo.fn hE rfl rfl Tryz.call36 (shell_number_ok et_1 H)) ?_
  rintro _ w ⟨sb4, sc4, rfl, H⟩
  refine ⟨⟨H.cell 2 rfl rfl, trivial⟩, fun a hE => ?_⟩
  obtain ⟨t_2, et_2, hm⟩ := bind_some hm
  refine WQ.eff (j := 10) (obs := []) hE (by kernel_rfl) rfl rfl rfl rfl (by kernel_rfl) (OpTo.fn hE rfl rfl Tryz.call36 (shell_number_ok et_2 H)) ?_
  rintro _ w ⟨sb5, sc5, rfl, H⟩
  refine ⟨trivial, fun a hE => ?_⟩
  refine WQ.d0 hE [11] [(0, .slice sb5 t_2.length sc5)] fun a hE => ?_
  refine WQ.done (by kernel_rfl) ?_
  refine Runs.seq ?_
  refine Runs.drawn mixed (by kernel_rfl) ?_
  replace H := H.drew
  refine WQ.d hE [0, 1, 2, 3, 5, 6, 7] [.int .i64 x.Command.Time, .int .i64 x.Command.Data] [(48, .slice sb5 t_2.length sc5), (51, .int .u64 (IntKind.wrap .u64 (x.Command.Time))), (55, .int .u64 (IntKind.wrap .u64 (x.Command.Data)))] (obs := [.cell ⟨r3, 4, none⟩ (.int .i64 x.Command.Time), .cell ⟨r3, 5, none⟩ (.int .i64 x.Command.Data)]) ⟨H.cell 2 rfl rfl, H.cell 2 rfl rfl, trivial⟩ fun a hE => ?_
  obtain ⟨t_3, et_3, hm⟩ := bind_some hm
  refine WQ.eff (j := 4) (obs := [.cell ⟨r3, 5, none⟩ (.int .i64 x.Command.Data)]) hE (by kernel_rfl) rfl rfl rfl rfl (by kernel_rfl) (OpTo.fn hE rfl rfl Tryz.call36 (shell_number_ok et_3 H)) ?_
  rintro _ w ⟨sb6, sc6, rfl, H⟩
  refine ⟨⟨H.cell 2 rfl rfl, trivial⟩, fun a hE => ?_⟩
  obtain ⟨t_4, et_4, hm⟩ := bind_some hm
  refine WQ.eff (j := 8) (obs := []) hE (by kernel_rfl) rfl rfl rfl rfl (by kernel_rfl) (OpTo.fn hE rfl rfl Tryz.call36 (shell_number_ok et_4 H)) ?_
  rintro _ w ⟨sb7, sc7, rfl, H⟩
  refine ⟨trivial, fun a hE => ?_⟩
  refine WQ.d0 hE [9] [(4, .slice sb7 t_4.length sc7)] fun a hE => ?_
  refine WQ.done (by kernel_rfl) ?_
  refine Runs.ret hE Tryz.func38 rfl rfl ?_
  cases hm
  exact ⟨sb7, sc7, rfl, H.x3.x2.x1⟩

theorem shell_Encode_ok {w0 w : World} {As : List HP} {k : Nat} {s : shell_Script} {al_s : shell_Script.A} {X_s : HP} {t : (List Int) × Int} (hX_s_Acts : SlRd X_s api_Act.enc 8 al_s.Acts_b s.Acts) (hC_s_Acts : s.Acts.length ≤ al_s.Acts_c) (hm : shell_Encode k s = some t) (H : St w0 (X_s :: As) w) :
    CallsR Tryz.prog 16 #[.agg #[.int .i64 s.Kind, .int .i64 s.Jobs, .int .i64 s.Boxes, .int .i64 s.Room, .slice al_s.Acts_b s.Acts.length al_s.Acts_c]] w fun v w' => ∃ (sb0 : Option Addr), ∃ (sc0 : Nat), v = .tuple #[.slice sb0 t.1.length sc0, .int .i64 t.2] ∧ St w0 (Sl 5 ecU 1 sb0 sc0 t.1 :: X_s :: As) w' := by
 rw [shell_Encode] at hm
 refine enter (args := [.agg #[.int .i64 s.Kind, .int .i64 s.Jobs, .int .i64 s.Boxes, .int .i64 s.Room, .slice al_s.Acts_b s.Acts.length al_s.Acts_c]]) Tryz.func16 rfl rfl rfl fun a hE => ?_
 refine Runs.sr ?_
 refine WR.eff hE rfl rfl rfl rfl (OpTo.new hE H [] (.cells #[.int .i64 s.Kind, .int .i64 s.Jobs, .int .i64 s.Boxes, .int .i64 s.Room, .slice al_s.Acts_b s.Acts.length al_s.Acts_c] 45 (0, 0)) (fun r => .pointer (some ⟨r, 0, none⟩)) (obs := []) rfl (fun _ => by kernel_rfl) trivial) ?_
 rintro _ w ⟨r, rfl, H⟩ a hE
 refine WR.seg hE 3 [] [1] (Lo := [(1, .pointer (some ⟨r, 0, none⟩))]) (obs := []) rfl (by kernel_rfl) trivial fun a hE => ?_
 refine WR.done rfl ?_
 refine Runs.seq ?_
 refine Runs.block ?_
 refine Runs.sr ?_
 refine WR.e hE [.slice al_s.Acts_b s.Acts.length al_s.Acts_c] [(7, .bool (decide ((s.Acts.length : Int) > 256)))] (obs := [.cell ⟨r, 4, none⟩ (.slice al_s.Acts_b s.Acts.length al_s.Acts_c)]) ⟨H.cell 0 rfl rfl, trivial⟩ fun a hE => ?_
 refine Runs.cond hE rfl (fun c => ?_) (fun c => ?_)
 ·replace hm := cond_t c hm
  refine Runs.sr ?_
  refine WR.e0 hE [(2, .slice none 0 0), (3, .int .i64 3)] fun a hE => ?_
  replace H := H.slNil 5 ecU 1
  refine Runs.ret hE Tryz.func16 rfl rfl ?_
  cases hm
  exact ⟨none, 0, rfl, H.x1.t1.t1⟩
 ·replace hm := cond_f c hm
  refine Runs.seq ?_
  obtain ⟨s1, es1, hm⟩ := bind_some hm
  refine Runs.join (fun a w => EnvOk 60 a [(1, .pointer (some ⟨r, 0, none⟩)), (12, .bool s1)] ∧ St w0 (Blk r 45 [.int .i64 s.Kind, .int .i64 s.Jobs, .int .i64 s.Boxes, .int .i64 s.Room, .slice al_s.Acts_b s.Acts.length al_s.Acts_c] :: X_s :: As) w) (fun hk => ?_) ?_
  ·replace hm := es1; clear es1
   refine Runs.region ?_
   refine WR.d hE 6 [.int .i64 s.Kind, .int .i64 s.Boxes, .int .i64 s.Room] [(14, .int .i64 s.Kind), (16, .int .i64 s.Boxes), (18, .int .i64 s.Room)] (obs := [.cell ⟨r, 0, none⟩ (.int .i64 s.Kind), .cell ⟨r, 2, none⟩ (.int .i64 s.Boxes), .cell ⟨r, 3, none⟩ (.int .i64 s.Room)]) ⟨H.cell 0 rfl rfl, H.cell 0 rfl rfl, H.cell 0 rfl rfl, trivial⟩ fun a hE => ?_
   refine WR.eff hE rfl rfl rfl rfl (OpTo.buildSl (T := 3) hE H ecI_ok ([s.Kind, s.Boxes, s.Room] : List Int) rfl (fun _ => by kernel_rfl) rfl rfl rfl) ?_
   rintro _ w ⟨r1, rfl, H⟩ a hE
   obtain ⟨t_, et_, hm⟩ := bind_some hm
   refine WR.eff hE rfl rfl rfl rfl (OpTo.fn hE rfl rfl Tryz.call35 (shell_in_ok (hX_l := (sl_rd 3 ecI 1 _ _ _)) (hC_l := (H.slCap 0 rfl).1) et_ H)) ?_
   rintro _ w ⟨rfl, H⟩ a hE
   refine WR.d0 hE 10 [(22, .bool (!t_))] fun a hE => ?_
   rcases Bool.eq_false_or_eq_true (!t_) with c | c
   ·replace hE := hE.dec 22 c (by kernel_rfl)
    replace hm := cond_t c hm
    have c_ := c
    refine WR.e0 hE [(12, .bool true)] fun a hE => ?_
    cases hm
    exact hk _ _ ⟨hE.sel [1, 12] (by kernel_rfl), H.x0.t1.t1⟩
   ·replace hE := hE.dec 22 c (by kernel_rfl)
    replace hm := cond_f c hm
    have c_1 := c
    refine WR.d hE 12 [.int .i64 s.Jobs] [(22, .bool false), (24, .int .i64 s.Jobs)] (obs := [.cell ⟨r, 1, none⟩ (.int .i64 s.Jobs)]) ⟨H.cell 1 rfl rfl, trivial⟩ fun a hE => ?_
    refine WR.eff hE rfl rfl rfl rfl (OpTo.buildSl (T := 3) hE H ecI_ok ([s.Jobs] : List Int) rfl (fun _ => by kernel_rfl) rfl rfl rfl) ?_
    rintro _ w ⟨r2, rfl, H⟩ a hE
    obtain ⟨t_1, et_1, hm⟩ := bind_some hm
    refine WR.eff hE rfl rfl rfl rfl (OpTo.fn hE rfl rfl Tryz.call35 (shell_in_ok (hX_l := (sl_rd 3 ecI 1 _ _ _)) (hC_l := (H.slCap 0 rfl).1) et_1 H)) ?_
    rintro _ w ⟨rfl, H⟩ a hE
    refine WR.e0 hE [(12, .bool (!t_1))] fun a hE => ?_
    cases hm
    exact hk _ _ ⟨hE.sel [1, 12] (by kernel_rfl), H.x1.x0.t1.t1⟩
  rintro a w ⟨hE, H⟩
  refine Runs.cond hE rfl (fun c => ?_) (fun c => ?_)
  ·replace hm := cond_t c hm
   refine Runs.sr ?_
   refine WR.seg hE 2 [] [2, 3] (Lo := [(2, .slice none 0 0), (3, .int .i64 1)]) (obs := []) rfl (by kernel_rfl) trivial fun a hE => ?_
   refine WR.done rfl ?_
   replace H := H.slNil 5 ecU 1
   refine Runs.ret hE Tryz.func16 rfl rfl ?_
   cases hm
   exact ⟨none, 0, rfl, H.x1.t1.t1⟩
  ·replace hm := cond_f c hm
   refine Runs.skip ?_
   refine Runs.inBlock ?_
   refine Runs.seq ?_
   obtain ⟨t_2, et_2, hm⟩ := bind_some hm
   obtain ⟨l, el, hm⟩ := bind_some hm
   refine Runs.join (fun a w => ∃ (sb2 : Option Addr), ∃ (sc2 : Nat), EnvOk 60 a [(1, .pointer (some ⟨r, 0, none⟩)), (4, .slice sb2 l.length sc2)] ∧ St w0 (Sl 5 ecU 1 sb2 sc2 l :: Blk r 45 [.int .i64 s.Kind, .int .i64 s.Jobs, .int .i64 s.Boxes, .int .i64 s.Room, .slice al_s.Acts_b s.Acts.length al_s.Acts_c] :: X_s :: As) w) (fun hk => ?_) ?_
   ·refine Runs.drawn mixed (by kernel_rfl) ?_
    replace H := H.drew
    refine WQ.seg hE [0, 1, 2, 4, 5, 6, 8, 9, 10, 11, 12, 13] [.int .i64 s.Kind, .int .i64 s.Jobs, .int .i64 s.Boxes, .int .i64 s.Room] [1, 31, 35, 39, 42] (Lo := [(1, .pointer (some ⟨r, 0, none⟩)), (31, .int .u8 (IntKind.wrap .u8 (s.Kind))), (35, .int .u64 (IntKind.wrap .u64 (s.Jobs))), (39, .int .u8 (IntKind.wrap .u8 (s.Boxes))), (42, .int .u8 (IntKind.wrap .u8 (s.Room)))]) (obs := [.cell ⟨r, 0, none⟩ (.int .i64 s.Kind), .cell ⟨r, 1, none⟩ (.int .i64 s.Jobs), .cell ⟨r, 2, none⟩ (.int .i64 s.Boxes), .cell ⟨r, 3, none⟩ (.int .i64 s.Room)]) (by kernel_rfl) (by kernel_rfl) ⟨H.cell 0 rfl rfl, H.cell 0 rfl rfl, H.cell 0 rfl rfl, H.cell 0 rfl rfl, trivial⟩ fun a hE => ?_
    refine WQ.act2 3 14 (by kernel_rfl) ?_ ?_
    ·refine AQ.eff (j := 3) (obs := [.cell ⟨r, 3, none⟩ (.int .i64 s.Room), .cell ⟨r, 2, none⟩ (.int .i64 s.Boxes), .cell ⟨r, 1, none⟩ (.int .i64 s.Jobs)]) hE rfl rfl rfl rfl (by kernel_rfl) (OpTo.buildSl (T := 5) hE H ecU_ok ([IntKind.wrap .u8 (s.Kind)] : List Int) rfl (fun _ => by kernel_rfl) rfl rfl rfl) ?_
     rintro _ w ⟨r5, rfl, H⟩
     refine ⟨⟨H.cell 1 rfl rfl, H.cell 1 rfl rfl, H.cell 1 rfl rfl, trivial⟩, fun a hE => ?_⟩
     refine WQ.act2 7 14 (by kernel_rfl) ?_ ?_
     ·refine AQ.eff (j := 7) (obs := [.cell ⟨r, 3, none⟩ (.int .i64 s.Room), .cell ⟨r, 2, none⟩ (.int .i64 s.Boxes)]) hE rfl rfl rfl rfl (by kernel_rfl) (OpTo.fn hE rfl rfl Tryz.call36 (shell_number_ok et_2 H)) ?_
      rintro _ w ⟨sb3, sc3, rfl, H⟩
      refine ⟨⟨H.cell 1 rfl rfl, H.cell 1 rfl rfl, trivial⟩, fun a hE => ?_⟩
      refine WQ.eff (j := 14) (obs := []) hE (by kernel_rfl) rfl rfl rfl rfl (by kernel_rfl) (OpTo.buildSl (T := 5) hE H ecU_ok ([IntKind.wrap .u8 (s.Boxes), IntKind.wrap .u8 (s.Room)] : List Int) rfl (fun _ => by kernel_rfl) rfl rfl rfl) ?_
      rintro _ w ⟨r6, rfl, H⟩
      refine ⟨trivial, fun a hE => ?_⟩
      replace H := H.t1
      refine WQ.eff (j := 15) (obs := []) hE (by kernel_rfl) rfl rfl rfl rfl (by kernel_rfl) (OpTo.appendM el hE H ecU_ok rfl rfl rfl rfl rfl rfl rfl rfl rfl rfl (SlRd.all (sl_rd 5 ecU 1 _ _ _) ecU_ok H 1 rfl) rfl) ?_
      rintro _ w ⟨sb4, sc4, rfl, H⟩
      refine ⟨trivial, fun a hE => ?_⟩
      refine WQ.d0 hE [16] [(4, .slice sb4 l.length sc4)] fun a hE => ?_
      refine WQ.done (by kernel_rfl) ?_
      exact hk _ _ ⟨sb4, sc4, hE.sel [1, 4] (by kernel_rfl), H.x1.t2.t2.t2⟩
     ·refine AQ.eff (j := 14) (obs := [.cell ⟨r, 1, none⟩ (.int .i64 s.Jobs)]) hE rfl rfl rfl rfl (by kernel_rfl) (OpTo.buildSl (T := 5) hE H ecU_ok ([IntKind.wrap .u8 (s.Boxes), IntKind.wrap .u8 (s.Room)] : List Int) rfl (fun _ => by kernel_rfl) rfl rfl rfl) ?_
      rintro _ w ⟨r7, rfl, H⟩
      refine ⟨⟨H.cell 2 rfl rfl, trivial⟩, fun a hE => ?_⟩
      refine WQ.eff (j := 7) (obs := []) hE (by kernel_rfl) rfl rfl rfl rfl (by kernel_rfl) (OpTo.fn hE rfl rfl Tryz.call36 (shell_number_ok et_2 H.t1)) ?_
      rintro _ w ⟨sb5, sc5, rfl, H⟩
      refine ⟨trivial, fun a hE => ?_⟩
      refine WQ.eff (j := 15) (obs := []) hE (by kernel_rfl) rfl rfl rfl rfl (by kernel_rfl) (OpTo.appendM el hE H ecU_ok rfl rfl rfl rfl rfl rfl rfl rfl rfl rfl (SlRd.all (sl_rd 5 ecU 1 _ _ _) ecU_ok H 1 rfl) rfl) ?_
      rintro _ w ⟨sb6, sc6, rfl, H⟩
      refine ⟨trivial, fun a hE => ?_⟩
      refine WQ.d0 hE [16] [(4, .slice sb6 l.length sc6)] fun a hE => ?_
      refine WQ.done (by kernel_rfl) ?_
      exact hk _ _ ⟨sb6, sc6, hE.sel [1, 4] (by kernel_rfl), H.x1.t2.t2.t2⟩
    ·refine AQ.eff (j := 14) (obs := [.cell ⟨r, 1, none⟩ (.int .i64 s.Jobs), .cell ⟨r, 0, none⟩ (.int .i64 s.Kind)]) hE rfl rfl rfl rfl (by kernel_rfl) (OpTo.buildSl (T := 5) hE H ecU_ok ([IntKind.wrap .u8 (s.Boxes), IntKind.wrap .u8 (s.Room)] : List Int) rfl (fun _ => by kernel_rfl) rfl rfl rfl) ?_
     rintro _ w ⟨r8, rfl, H⟩
     refine ⟨⟨H.cell 1 rfl rfl, H.cell 1 rfl rfl, trivial⟩, fun a hE => ?_⟩
     refine WQ.eff (j := 3) (obs := [.cell ⟨r, 1, none⟩ (.int .i64 s.Jobs)]) hE (by kernel_rfl) rfl rfl rfl rfl (by kernel_rfl) (OpTo.buildSl (T := 5) hE H ecU_ok ([IntKind.wrap .u8 (s.Kind)] : List Int) rfl (fun _ => by kernel_rfl) rfl rfl rfl) ?_
     rintro _ w ⟨r9, rfl, H⟩
     refine ⟨⟨H.cell 2 rfl rfl, trivial⟩, fun a hE => ?_⟩
     refine WQ.eff (j := 7) (obs := []) hE (by kernel_rfl) rfl rfl rfl rfl (by kernel_rfl) (OpTo.fn hE rfl rfl Tryz.call36 (shell_number_ok et_2 H)) ?_
     rintro _ w ⟨sb7, sc7, rfl, H⟩
     refine ⟨trivial, fun a hE => ?_⟩
     refine WQ.eff (j := 15) (obs := []) hE (by kernel_rfl) rfl rfl rfl rfl (by kernel_rfl) (OpTo.appendM el hE H ecU_ok rfl rfl rfl rfl rfl rfl rfl rfl rfl rfl (SlRd.all (sl_rd 5 ecU 1 _ _ _) ecU_ok H 1 rfl) rfl) ?_
     rintro _ w ⟨sb8, sc8, rfl, H⟩
     refine ⟨trivial, fun a hE => ?_⟩
     refine WQ.d0 hE [16] [(4, .slice sb8 l.length sc8)] fun a hE => ?_
     refine WQ.done (by kernel_rfl) ?_
     exact hk _ _ ⟨sb8, sc8, hE.sel [1, 4] (by kernel_rfl), H.x1.t2.t2.t2⟩
   rintro a w ⟨sb2, sc2, hE, H⟩
   refine Runs.seq ?_
   refine Runs.sr ?_
   refine WR.seg hE 4 [.slice al_s.Acts_b s.Acts.length al_s.Acts_c] [4, 46, 47, 48] (Lo := [(4, .slice sb2 l.length sc2), (46, .slice al_s.Acts_b s.Acts.length al_s.Acts_c), (47, .int .i64 (s.Acts.length : Int)), (48, .int .i64 0)]) (obs := [.cell ⟨r, 4, none⟩ (.slice al_s.Acts_b s.Acts.length al_s.Acts_c)]) rfl (by kernel_rfl) ⟨H.cell 1 rfl rfl, trivial⟩ fun a hE => ?_
   refine WR.done rfl ?_
   obtain ⟨s2, es2, hR⟩ := bind_some hm
   refine Runs.join (fun a w => ∃ s3, s2 = Sum.inr s3 ∧ ∃ (sb10 : Option Addr), ∃ (sc10 : Nat), EnvOk 60 a [(4, .slice sb10 s3.length sc10)] ∧ St w0 (Sl 5 ecU 1 sb10 sc10 s3 :: X_s :: As) w) (fun hk => ?_) ?_
   ·replace hm := es2; clear es2
    refine Runs.block ?_
    refine Runs.loop (fun m a w => ∃ (b : List Int), ∃ (x : Int), ∃ (sb11 : Option Addr), ∃ (sc11 : Nat), EnvOk 60 a [(4, .slice sb11 b.length sc11), (46, .slice al_s.Acts_b s.Acts.length al_s.Acts_c), (47, .int .i64 (s.Acts.length : Int)), (48, .int .i64 x)] ∧ St w0 (Sl 5 ecU 1 sb11 sc11 b :: X_s :: As) w ∧ shell_Encode_l0 s.Acts (s.Acts.length : Int) m b x = some s2) k ⟨l, 0, sb2, sc2, hE.sel [4, 46, 47, 48] (by kernel_rfl), H.x1.t1.t1, hm⟩ ?_
    rintro m ih a w ⟨b, x, sb11, sc11, hE, H, hm⟩
    cases m with
    | zero => simp [shell_Encode_l0] at hm
    | succ m =>
     rw [shell_Encode_l0] at hm
     refine Runs.sr ?_
     refine WR.seg hE 1 [] [4, 46, 47, 48, 49] (Lo := [(4, .slice sb11 b.length sc11), (46, .slice al_s.Acts_b s.Acts.length al_s.Acts_c), (47, .int .i64 (s.Acts.length : Int)), (48, .int .i64 x), (49, .bool (decide (x < (s.Acts.length : Int))))]) (obs := []) rfl (by kernel_rfl) trivial fun a hE => ?_
     refine WR.done rfl ?_
     refine Runs.seq ?_
     refine Runs.cond hE rfl (fun c => ?_) (fun c => ?_)
     ·replace hm := cond_t c hm
      refine Runs.skip ?_
      refine Runs.seq ?_
      refine Runs.block ?_
      refine Runs.sr ?_
      obtain ⟨x2, ex2, hm⟩ := bind_some hm
      obtain ⟨b1, o, hs, hb⟩ := SlRd.base hX_s_Acts api_Act.enc_ok H 1 rfl ex2
      refine WR.d hE 2 [.pointer (some ⟨b1, o, none⟩), .int .i64 x2.Kind, .int .i64 x2.Box, .int .i64 x2.Command.Kind, .int .i64 x2.Command.Queue, .int .i64 x2.Command.Job.At, .int .i64 x2.Command.Job.Gen, .int .i64 x2.Command.Time, .int .i64 x2.Command.Data] [(51, .agg #[.int .i64 x2.Kind, .int .i64 x2.Box, .int .i64 x2.Command.Kind, .int .i64 x2.Command.Queue, .int .i64 x2.Command.Job.At, .int .i64 x2.Command.Job.Gen, .int .i64 x2.Command.Time, .int .i64 x2.Command.Data])] (obs := [.p ((al_s.Acts_b : Option Addr) = some ⟨b1, o, none⟩), .p (0 ≤ (x : Int) ∧ (x : Int) < ((s.Acts.length : Nat) : Int)), .cell ⟨b1, o + (Int.toNat x) * 8, none⟩ (.int .i64 x2.Kind), .cell ⟨b1, o + (Int.toNat x) * 8 + 1, none⟩ (.int .i64 x2.Box), .cell ⟨b1, o + (Int.toNat x) * 8 + 2, none⟩ (.int .i64 x2.Command.Kind), .cell ⟨b1, o + (Int.toNat x) * 8 + 3, none⟩ (.int .i64 x2.Command.Queue), .cell ⟨b1, o + (Int.toNat x) * 8 + 4, none⟩ (.int .i64 x2.Command.Job.At), .cell ⟨b1, o + (Int.toNat x) * 8 + 5, none⟩ (.int .i64 x2.Command.Job.Gen), .cell ⟨b1, o + (Int.toNat x) * 8 + 6, none⟩ (.int .i64 x2.Command.Time), .cell ⟨b1, o + (Int.toNat x) * 8 + 7, none⟩ (.int .i64 x2.Command.Data)]) ⟨hs, hb, SlRd.cells hX_s_Acts api_Act.enc_ok H 1 rfl hs ex2 0 _ rfl, SlRd.cells hX_s_Acts api_Act.enc_ok H 1 rfl hs ex2 1 _ rfl, SlRd.cells hX_s_Acts api_Act.enc_ok H 1 rfl hs ex2 2 _ rfl, SlRd.cells hX_s_Acts api_Act.enc_ok H 1 rfl hs ex2 3 _ rfl, SlRd.cells hX_s_Acts api_Act.enc_ok H 1 rfl hs ex2 4 _ rfl, SlRd.cells hX_s_Acts api_Act.enc_ok H 1 rfl hs ex2 5 _ rfl, SlRd.cells hX_s_Acts api_Act.enc_ok H 1 rfl hs ex2 6 _ rfl, SlRd.cells hX_s_Acts api_Act.enc_ok H 1 rfl hs ex2 7 _ rfl, trivial⟩ fun a hE => ?_
      refine WR.eff hE rfl rfl rfl rfl (OpTo.new hE H [] (.cells #[.int .i64 0, .int .i64 0, .int .i64 0, .int .i64 0, .int .i64 0, .int .i64 0, .int .i64 0, .int .i64 0] 42 (0, 0)) (fun r => .pointer (some ⟨r, 0, none⟩)) (obs := []) rfl (fun _ => by kernel_rfl) trivial) ?_
      rintro _ w ⟨r10, rfl, H⟩ a hE
      refine WR.eff0 hE rfl rfl rfl (OpTo.store hE H rfl rfl rfl rfl rfl rfl (Nat.le_of_ble_eq_true rfl)) ?_
      rintro _ w H a hE
      refine WR.done rfl ?_
      refine Runs.seq ?_
      refine Runs.sr ?_
      refine WR.d hE 1 [.int .i64 x2.Kind, .int .i64 x2.Box, .int .i64 x2.Command.Kind, .int .i64 x2.Command.Queue, .int .i64 x2.Command.Job.At, .int .i64 x2.Command.Job.Gen, .int .i64 x2.Command.Time, .int .i64 x2.Command.Data] [(52, .agg #[.int .i64 x2.Kind, .int .i64 x2.Box, .int .i64 x2.Command.Kind, .int .i64 x2.Command.Queue, .int .i64 x2.Command.Job.At, .int .i64 x2.Command.Job.Gen, .int .i64 x2.Command.Time, .int .i64 x2.Command.Data])] (obs := [.cell ⟨r10, 0, none⟩ (.int .i64 x2.Kind), .cell ⟨r10, 1, none⟩ (.int .i64 x2.Box), .cell ⟨r10, 2, none⟩ (.int .i64 x2.Command.Kind), .cell ⟨r10, 3, none⟩ (.int .i64 x2.Command.Queue), .cell ⟨r10, 4, none⟩ (.int .i64 x2.Command.Job.At), .cell ⟨r10, 5, none⟩ (.int .i64 x2.Command.Job.Gen), .cell ⟨r10, 6, none⟩ (.int .i64 x2.Command.Time), .cell ⟨r10, 7, none⟩ (.int .i64 x2.Command.Data)]) ⟨H.cell 0 rfl rfl, H.cell 0 rfl rfl, H.cell 0 rfl rfl, H.cell 0 rfl rfl, H.cell 0 rfl rfl, H.cell 0 rfl rfl, H.cell 0 rfl rfl, H.cell 0 rfl rfl, trivial⟩ fun a hE => ?_
      obtain ⟨t_3, et_3, hm⟩ := bind_some hm
      refine WR.eff hE rfl rfl rfl rfl (OpTo.fn hE rfl rfl Tryz.call37 (shell_may_ok et_3 H)) ?_
      rintro _ w ⟨rfl, H⟩ a hE
      refine WR.e0 hE [(54, .bool (!t_3))] fun a hE => ?_
      refine Runs.cond hE rfl (fun c => ?_) (fun c => ?_)
      ·replace hm := cond_t c hm
       refine Runs.sr ?_
       refine WR.e0 hE [(2, .slice none 0 0), (3, .int .i64 1)] fun a hE => ?_
       replace H := H.slNil 5 ecU 1
       refine Runs.ret hE Tryz.func16 rfl rfl ?_
       cases hm
       dsimp only at hR; cases hR
       exact ⟨none, 0, rfl, H.x2.x1.t1.t1⟩
      ·replace hm := cond_f c hm
       refine Runs.skip ?_
       refine Runs.region ?_
       refine WR.d hE 2 [.int .i64 x2.Kind, .int .i64 x2.Box, .int .i64 x2.Command.Kind, .int .i64 x2.Command.Queue, .int .i64 x2.Command.Job.At, .int .i64 x2.Command.Job.Gen, .int .i64 x2.Command.Time, .int .i64 x2.Command.Data] [(55, .slice sb11 b.length sc11), (56, .agg #[.int .i64 x2.Kind, .int .i64 x2.Box, .int .i64 x2.Command.Kind, .int .i64 x2.Command.Queue, .int .i64 x2.Command.Job.At, .int .i64 x2.Command.Job.Gen, .int .i64 x2.Command.Time, .int .i64 x2.Command.Data])] (obs := [.cell ⟨r10, 0, none⟩ (.int .i64 x2.Kind), .cell ⟨r10, 1, none⟩ (.int .i64 x2.Box), .cell ⟨r10, 2, none⟩ (.int .i64 x2.Command.Kind), .cell ⟨r10, 3, none⟩ (.int .i64 x2.Command.Queue), .cell ⟨r10, 4, none⟩ (.int .i64 x2.Command.Job.At), .cell ⟨r10, 5, none⟩ (.int .i64 x2.Command.Job.Gen), .cell ⟨r10, 6, none⟩ (.int .i64 x2.Command.Time), .cell ⟨r10, 7, none⟩ (.int .i64 x2.Command.Data)]) ⟨H.cell 0 rfl rfl, H.cell 0 rfl rfl, H.cell 0 rfl rfl, H.cell 0 rfl rfl, H.cell 0 rfl rfl, H.cell 0 rfl rfl, H.cell 0 rfl rfl, H.cell 0 rfl rfl, trivial⟩ fun a hE => ?_
       obtain ⟨t_4, et_4, hm⟩ := bind_some hm
       refine WR.eff hE rfl rfl rfl rfl (OpTo.fn hE rfl rfl Tryz.call38 (shell_put_ok et_4 H.t1)) ?_
       rintro _ w ⟨sb12, sc12, rfl, H⟩ a hE
       refine WR.e0 hE [(4, .slice sb12 t_4.length sc12)] fun a hE => ?_
       refine Runs.inBlock ?_
       refine Runs.region ?_
       refine WR.e0 hE [(48, .int .i64 (w64 (x + 1)))] fun a hE => ?_
       exact ih m (Nat.lt_succ_self m) _ _ ⟨t_4, w64 (x + 1), sb12, sc12, hE.sel [4, 46, 47, 48] (by kernel_rfl), H.x1.t1.t1, hm⟩
     ·replace hm := cond_f c hm
      refine Runs.exit rfl ?_
      cases hm
      exact hk _ _ ⟨_, rfl, sb11, sc11, hE.sel [4] (by kernel_rfl), H.t1.t1⟩
   rintro a w ⟨s3, rfl, sb10, sc10, hE, H⟩
   replace hm := hR; dsimp only at hm
   refine Runs.sr ?_
   refine WR.seg hE 3 [] [2, 3] (Lo := [(2, .slice sb10 s3.length sc10), (3, .int .i64 0)]) (obs := []) rfl (by kernel_rfl) trivial fun a hE => ?_
   refine WR.done rfl ?_
   refine Runs.ret hE Tryz.func16 rfl rfl ?_
   cases hm
   exact ⟨sb10, sc10, rfl, H.t1.t1⟩

theorem kind_Worst_ok {w0 w : World} {As : List HP} {k_ : Int} {t : Bool}  (hm : kind_Worst k_ = some t) (H : St w0 (As) w) :
    CallsR Tryz.prog 51 #[.int .i64 k_] w fun v w' => v = .bool t ∧ St w0 (As) w' := by
 rw [kind_Worst] at hm
 refine enter (args := [.int .i64 k_]) Tryz.func51 rfl rfl rfl fun a hE => ?_
 refine Runs.sr ?_
 refine WR.seg hE 1 [] [0] (Lo := [(0, .int .i64 k_)]) (obs := []) rfl (by kernel_rfl) trivial fun a hE => ?_
 refine WR.done rfl ?_
 refine Runs.seq ?_
 refine Runs.join (fun a w => EnvOk 9 a [(2, .bool ((decide (k_ ≥ 1)) && (decide (k_ ≤ 3))))] ∧ St w0 (As) w) (fun hk => ?_) ?_
 ·clear hm
  refine Runs.region ?_
  refine WR.d0 hE 3 [(5, .bool (decide (k_ ≥ 1)))] fun a hE => ?_
  rcases Bool.eq_false_or_eq_true (decide (k_ ≥ 1)) with c | c
  ·replace hE := hE.dec 5 c (by kernel_rfl)
   have c_ := c
   refine WR.e0 hE [(2, .bool (decide (k_ ≤ 3)))] fun a hE => ?_
   refine hk _ _ ⟨?_, H⟩
   try rw [c_] at hE
   try rw [c_]
   exact hE.sel [2] (by kernel_rfl)
  ·replace hE := hE.dec 5 c (by kernel_rfl)
   have c_1 := c
   refine WR.e0 hE [(2, .bool false)] fun a hE => ?_
   refine hk _ _ ⟨?_, H⟩
   try rw [c_1] at hE
   try rw [c_1]
   exact hE.sel [2] (by kernel_rfl)
 rintro a w ⟨hE, H⟩
 refine Runs.ret hE Tryz.func51 rfl rfl ?_
 cases hm
 exact ⟨rfl, H⟩

theorem bits_Len64_ok {w0 w : World} {As : List HP} {x : Int} {t : Int}  (hm : bits_Len64 x = some t) (H : St w0 (As) w) :
    CallsR Tryz.prog 195 #[.int .u64 x] w fun v w' => v = .int .i64 t ∧ St w0 (As) w' := by
 rw [bits_Len64] at hm
 refine enter (args := [.int .u64 x]) Tryz.func195 rfl rfl rfl fun a hE => ?_
 refine Runs.sr ?_
 refine WR.seg hE 1 [] [0, 2] (Lo := [(0, .int .u64 x), (2, .int .i64 0)]) (obs := []) rfl (by kernel_rfl) trivial fun a hE => ?_
 refine WR.done rfl ?_
 refine Runs.seq ?_
 refine Runs.sr ?_
 refine WR.e0 hE [(4, .bool (decide (x ≥ 4294967296)))] fun a hE => ?_
 obtain ⟨s, es, hm⟩ := bind_some hm
 refine Runs.join (fun a w => EnvOk 25 a [(0, .int .u64 s.1), (2, .int .i64 s.2)] ∧ St w0 (As) w) (fun hk => ?_) ?_
 ·replace hm := es; clear es
  refine Runs.cond hE rfl (fun c => ?_) (fun c => ?_)
  ·replace hm := cond_t c hm
   refine Runs.sr ?_
   refine WR.e hE [] [(0, .int .u64 (Int.fdiv x (2 ^ (min (Int.toNat 32) 64))))] (obs := [.p (0 ≤ (32 : Int))]) ⟨(by show _ ≤ _; decide), trivial⟩ fun a hE => ?_
   refine Runs.region ?_
   refine WR.e0 hE [(2, .int .i64 32)] fun a hE => ?_
   cases hm
   exact hk _ _ ⟨hE.sel [0, 2] (by kernel_rfl), H⟩
  ·replace hm := cond_f c hm
   refine Runs.skip ?_
   cases hm
   exact hk _ _ ⟨hE.sel [0, 2] (by kernel_rfl), H⟩
 rintro a w ⟨hE, H⟩
 refine Runs.seq ?_
 refine Runs.sr ?_
 refine WR.seg hE 2 [] [0, 2, 8] (Lo := [(0, .int .u64 s.1), (2, .int .i64 s.2), (8, .bool (decide (s.1 ≥ 65536)))]) (obs := []) rfl (by kernel_rfl) trivial fun a hE => ?_
 refine WR.done rfl ?_
 obtain ⟨s1, es1, hm⟩ := bind_some hm
 refine Runs.join (fun a w => EnvOk 25 a [(0, .int .u64 s1.1), (2, .int .i64 s1.2)] ∧ St w0 (As) w) (fun hk => ?_) ?_
 ·replace hm := es1; clear es1
  refine Runs.cond hE rfl (fun c => ?_) (fun c => ?_)
  ·replace hm := cond_t c hm
   refine Runs.sr ?_
   refine WR.e hE [] [(0, .int .u64 (Int.fdiv s.1 (2 ^ (min (Int.toNat 16) 64))))] (obs := [.p (0 ≤ (16 : Int))]) ⟨(by show _ ≤ _; decide), trivial⟩ fun a hE => ?_
   refine Runs.region ?_
   refine WR.e0 hE [(2, .int .i64 (w64 (s.2 + 16)))] fun a hE => ?_
   cases hm
   exact hk _ _ ⟨hE.sel [0, 2] (by kernel_rfl), H⟩
  ·replace hm := cond_f c hm
   refine Runs.skip ?_
   cases hm
   exact hk _ _ ⟨hE.sel [0, 2] (by kernel_rfl), H⟩
 rintro a w ⟨hE, H⟩
 refine Runs.seq ?_
 refine Runs.sr ?_
 refine WR.seg hE 2 [] [0, 2, 14] (Lo := [(0, .int .u64 s1.1), (2, .int .i64 s1.2), (14, .bool (decide (s1.1 ≥ 256)))]) (obs := []) rfl (by kernel_rfl) trivial fun a hE => ?_
 refine WR.done rfl ?_
 obtain ⟨s2, es2, hm⟩ := bind_some hm
 refine Runs.join (fun a w => EnvOk 25 a [(0, .int .u64 s2.1), (2, .int .i64 s2.2)] ∧ St w0 (As) w) (fun hk => ?_) ?_
 ·replace hm := es2; clear es2
  refine Runs.cond hE rfl (fun c => ?_) (fun c => ?_)
  ·replace hm := cond_t c hm
   refine Runs.sr ?_
   refine WR.e hE [] [(0, .int .u64 (Int.fdiv s1.1 (2 ^ (min (Int.toNat 8) 64))))] (obs := [.p (0 ≤ (8 : Int))]) ⟨(by show _ ≤ _; decide), trivial⟩ fun a hE => ?_
   refine Runs.region ?_
   refine WR.e0 hE [(2, .int .i64 (w64 (s1.2 + 8)))] fun a hE => ?_
   cases hm
   exact hk _ _ ⟨hE.sel [0, 2] (by kernel_rfl), H⟩
  ·replace hm := cond_f c hm
   refine Runs.skip ?_
   cases hm
   exact hk _ _ ⟨hE.sel [0, 2] (by kernel_rfl), H⟩
 rintro a w ⟨hE, H⟩
 refine Runs.sr ?_
 obtain ⟨c_, ec_, hm⟩ := bind_some hm
 refine WR.seg hE 7 [.int .u8 c_] [2] (Lo := [(2, .int .i64 (w64 (s2.2 + (w64 (c_)))))]) (obs := [.p (0 ≤ (IntKind.wrap .u8 (s2.1)) ∧ ∃ u, (ByteArray.mk #[0, 1, 2, 2, 3, 3, 3, 3, 4, 4, 4, 4, 4, 4, 4, 4, 5, 5, 5, 5, 5, 5, 5, 5, 5, 5, 5, 5, 5, 5, 5, 5, 6, 6, 6, 6, 6, 6, 6, 6, 6, 6, 6, 6, 6, 6, 6, 6, 6, 6, 6, 6, 6, 6, 6, 6, 6, 6, 6, 6, 6, 6, 6, 6, 7, 7, 7, 7, 7, 7, 7, 7, 7, 7, 7, 7, 7, 7, 7, 7, 7, 7, 7, 7, 7, 7, 7, 7, 7, 7, 7, 7, 7, 7, 7, 7, 7, 7, 7, 7, 7, 7, 7, 7, 7, 7, 7, 7, 7, 7, 7, 7, 7, 7, 7, 7, 7, 7, 7, 7, 7, 7, 7, 7, 7, 7, 7, 7, 8, 8, 8, 8, 8, 8, 8, 8, 8, 8, 8, 8, 8, 8, 8, 8, 8, 8, 8, 8, 8, 8, 8, 8, 8, 8, 8, 8, 8, 8, 8, 8, 8, 8, 8, 8, 8, 8, 8, 8, 8, 8, 8, 8, 8, 8, 8, 8, 8, 8, 8, 8, 8, 8, 8, 8, 8, 8, 8, 8, 8, 8, 8, 8, 8, 8, 8, 8, 8, 8, 8, 8, 8, 8, 8, 8, 8, 8, 8, 8, 8, 8, 8, 8, 8, 8, 8, 8, 8, 8, 8, 8, 8, 8, 8, 8, 8, 8, 8, 8, 8, 8, 8, 8, 8, 8, 8, 8, 8, 8, 8, 8, 8, 8, 8, 8, 8, 8, 8, 8, 8, 8, 8, 8, 8, 8, 8, 8])[Int.toNat (IntKind.wrap .u8 (s2.1))]? = some u ∧ c_ = (u.toNat : Int))]) rfl (by kernel_rfl) ⟨byte_spec ec_, trivial⟩ fun a hE => ?_
 refine WR.done rfl ?_
 refine Runs.ret hE Tryz.func195 rfl rfl ?_
 cases hm
 exact ⟨rfl, H⟩

theorem bits_Len_ok {w0 w : World} {As : List HP} {x : Int} {t : Int}  (hm : bits_Len x = some t) (H : St w0 (As) w) :
    CallsR Tryz.prog 138 #[.int .u64 x] w fun v w' => v = .int .i64 t ∧ St w0 (As) w' := by
 rw [bits_Len] at hm
 refine enter (args := [.int .u64 x]) Tryz.func138 rfl rfl rfl fun a hE => ?_
 refine Runs.sr ?_
 refine WR.seg hE 1 [] [0] (Lo := [(0, .int .u64 x)]) (obs := []) rfl (by kernel_rfl) trivial fun a hE => ?_
 refine WR.done rfl ?_
 refine Runs.seq ?_
 refine Runs.condF hE rfl ?_
 refine Runs.skip ?_
 refine Runs.sr ?_
 refine WR.d0 hE 1 [(6, .int .u64 x)] fun a hE => ?_
 obtain ⟨t_, et_, hm⟩ := bind_some hm
 refine WR.eff hE rfl rfl rfl rfl (OpTo.fn hE rfl rfl Tryz.call195 (bits_Len64_ok et_ H)) ?_
 rintro _ w ⟨rfl, H⟩ a hE
 refine WR.e0 hE [(2, .int .i64 t_)] fun a hE => ?_
 refine Runs.ret hE Tryz.func138 rfl rfl ?_
 cases hm
 exact ⟨rfl, H⟩

theorem order_Bits_ok {w0 w : World} {As : List HP} {n : Int} {t : Int}  (hm : order_Bits n = some t) (H : St w0 (As) w) :
    CallsR Tryz.prog 98 #[.int .i64 n] w fun v w' => v = .int .i64 t ∧ St w0 (As) w' := by
 rw [order_Bits] at hm
 refine enter (args := [.int .i64 n]) Tryz.func98 rfl rfl rfl fun a hE => ?_
 refine Runs.sr ?_
 refine WR.seg hE 1 [] [0] (Lo := [(0, .int .i64 n)]) (obs := []) rfl (by kernel_rfl) trivial fun a hE => ?_
 refine WR.done rfl ?_
 refine Runs.sr ?_
 refine WR.d0 hE 3 [(5, .int .u64 (IntKind.wrap .u64 ((if n > 0 then n else 0))))] fun a hE => ?_
 obtain ⟨t_, et_, hm⟩ := bind_some hm
 refine WR.eff hE rfl rfl rfl rfl (OpTo.fn hE rfl rfl Tryz.call138 (bits_Len_ok et_ H)) ?_
 rintro _ w ⟨rfl, H⟩ a hE
 refine WR.e0 hE [(2, .int .i64 t_)] fun a hE => ?_
 refine Runs.ret hE Tryz.func98 rfl rfl ?_
 cases hm
 exact ⟨rfl, H⟩

theorem order_Add_ok {w0 w : World} {As : List HP} {a_ : Int} {b : Int} {t : Int}  (hm : order_Add a_ b = some t) (H : St w0 (As) w) :
    CallsR Tryz.prog 99 #[.int .i64 a_, .int .i64 b] w fun v w' => v = .int .i64 t ∧ St w0 (As) w' := by
 rw [order_Add] at hm
 refine enter (args := [.int .i64 a_, .int .i64 b]) Tryz.func99 rfl rfl rfl fun a hE => ?_
 refine Runs.sr ?_
 refine WR.seg hE 1 [] [0, 1] (Lo := [(0, .int .i64 a_), (1, .int .i64 b)]) (obs := []) rfl (by kernel_rfl) trivial fun a hE => ?_
 refine WR.done rfl ?_
 refine Runs.seq ?_
 refine Runs.block ?_
 refine Runs.seq ?_
 refine Runs.join (fun a w => EnvOk 26 a [(0, .int .i64 a_), (1, .int .i64 b), (5, .bool ((decide (b > 0)) && (decide (a_ > w64 (9223372036854775807 - b)))))] ∧ St w0 (As) w) (fun hk => ?_) ?_
 ·clear hm
  refine Runs.region ?_
  refine WR.d0 hE 3 [(8, .bool (decide (b > 0)))] fun a hE => ?_
  rcases Bool.eq_false_or_eq_true (decide (b > 0)) with c | c
  ·replace hE := hE.dec 8 c (by kernel_rfl)
   have c_ := c
   refine WR.e0 hE [(5, .bool (decide (a_ > w64 (9223372036854775807 - b))))] fun a hE => ?_
   refine hk _ _ ⟨?_, H⟩
   try rw [c_] at hE
   try rw [c_]
   exact hE.sel [0, 1, 5] (by kernel_rfl)
  ·replace hE := hE.dec 8 c (by kernel_rfl)
   have c_1 := c
   refine WR.e0 hE [(5, .bool false)] fun a hE => ?_
   refine hk _ _ ⟨?_, H⟩
   try rw [c_1] at hE
   try rw [c_1]
   exact hE.sel [0, 1, 5] (by kernel_rfl)
 rintro a w ⟨hE, H⟩
 refine Runs.cond hE rfl (fun c => ?_) (fun c => ?_)
 ·replace hm := cond_t c hm
  refine Runs.sr ?_
  refine WR.seg hE 1 [] [4] (Lo := [(4, .int .i64 9223372036854775807)]) (obs := []) rfl (by kernel_rfl) trivial fun a hE => ?_
  refine WR.done rfl ?_
  refine Runs.ret hE Tryz.func99 rfl rfl ?_
  cases hm
  exact ⟨rfl, H⟩
 ·replace hm := cond_f c hm
  refine Runs.seq ?_
  refine Runs.join (fun a w => EnvOk 26 a [(0, .int .i64 a_), (1, .int .i64 b), (14, .bool ((decide (b < 0)) && (decide (a_ < w64 ((-9223372036854775808) - b)))))] ∧ St w0 (As) w) (fun hk => ?_) ?_
  ·clear hm
   refine Runs.region ?_
   refine WR.seg hE 3 [] [0, 1, 17] (Lo := [(0, .int .i64 a_), (1, .int .i64 b), (17, .bool (decide (b < 0)))]) (obs := []) rfl (by kernel_rfl) trivial fun a hE => ?_
   rcases Bool.eq_false_or_eq_true (decide (b < 0)) with c | c
   ·replace hE := hE.dec 17 c (by kernel_rfl)
    have c_2 := c
    refine WR.e0 hE [(14, .bool (decide (a_ < w64 ((-9223372036854775808) - b))))] fun a hE => ?_
    refine hk _ _ ⟨?_, H⟩
    try rw [c_2] at hE
    try rw [c_2]
    exact hE.sel [0, 1, 14] (by kernel_rfl)
   ·replace hE := hE.dec 17 c (by kernel_rfl)
    have c_3 := c
    refine WR.e0 hE [(14, .bool false)] fun a hE => ?_
    refine hk _ _ ⟨?_, H⟩
    try rw [c_3] at hE
    try rw [c_3]
    exact hE.sel [0, 1, 14] (by kernel_rfl)
  rintro a w ⟨hE, H⟩
  refine Runs.cond hE rfl (fun c => ?_) (fun c => ?_)
  ·replace hm := cond_t c hm
   refine Runs.sr ?_
   refine WR.seg hE 1 [] [4] (Lo := [(4, .int .i64 (-9223372036854775808))]) (obs := []) rfl (by kernel_rfl) trivial fun a hE => ?_
   refine WR.done rfl ?_
   refine Runs.ret hE Tryz.func99 rfl rfl ?_
   cases hm
   exact ⟨rfl, H⟩
  ·replace hm := cond_f c hm
   refine Runs.skip ?_
   refine Runs.inBlock ?_
   refine Runs.sr ?_
   refine WR.seg hE 4 [] [4] (Lo := [(4, .int .i64 (w64 (a_ + b)))]) (obs := []) rfl (by kernel_rfl) trivial fun a hE => ?_
   refine WR.done rfl ?_
   refine Runs.ret hE Tryz.func99 rfl rfl ?_
   cases hm
   exact ⟨rfl, H⟩

theorem order_Limit_ok {w0 w : World} {As : List HP} {k : Nat} {a_ : Int} {b : Int} {n : Int} {t : Int}  (hm : order_Limit k a_ b n = some t) (H : St w0 (As) w) :
    CallsR Tryz.prog 70 #[.int .i64 a_, .int .i64 b, .int .i64 n] w fun v w' => v = .int .i64 t ∧ St w0 (As) w' := by
 rw [order_Limit] at hm
 refine enter (args := [.int .i64 a_, .int .i64 b, .int .i64 n]) Tryz.func70 rfl rfl rfl fun a hE => ?_
 refine Runs.sr ?_
 refine WR.seg hE 1 [] [0, 1, 2] (Lo := [(0, .int .i64 a_), (1, .int .i64 b), (2, .int .i64 n)]) (obs := []) rfl (by kernel_rfl) trivial fun a hE => ?_
 refine WR.done rfl ?_
 refine Runs.seq ?_
 refine Runs.sr ?_
 refine WR.d0 hE 1 [(7, .int .i64 n)] fun a hE => ?_
 obtain ⟨t_, et_, hm⟩ := bind_some hm
 refine WR.eff hE rfl rfl rfl rfl (OpTo.fn hE rfl rfl Tryz.call98 (order_Bits_ok et_ H)) ?_
 rintro _ w ⟨rfl, H⟩ a hE
 refine WR.e0 hE [(9, .int .i64 0)] fun a hE => ?_
 obtain ⟨s, es, hm⟩ := bind_some hm
 refine Runs.join (fun a w => EnvOk 16 a [(0, .int .i64 s)] ∧ St w0 (As) w) (fun hk => ?_) ?_
 ·replace hm := es; clear es
  refine Runs.block ?_
  refine Runs.loop (fun m a w => ∃ (a_1 : Int), ∃ (x : Int), EnvOk 16 a [(0, .int .i64 a_1), (1, .int .i64 b), (8, .int .i64 t_), (9, .int .i64 x)] ∧ St w0 (As) w ∧ order_Limit_l0 b t_ m a_1 x = some s) k ⟨a_, 0, hE.sel [0, 1, 8, 9] (by kernel_rfl), H, hm⟩ ?_
  rintro m ih a w ⟨a_1, x, hE, H, hm⟩
  cases m with
  | zero => simp [order_Limit_l0] at hm
  | succ m =>
   rw [order_Limit_l0] at hm
   refine Runs.sr ?_
   refine WR.seg hE 1 [] [0, 1, 8, 9, 10] (Lo := [(0, .int .i64 a_1), (1, .int .i64 b), (8, .int .i64 t_), (9, .int .i64 x), (10, .bool (decide (x < t_)))]) (obs := []) rfl (by kernel_rfl) trivial fun a hE => ?_
   refine WR.done rfl ?_
   refine Runs.seq ?_
   refine Runs.cond hE rfl (fun c => ?_) (fun c => ?_)
   ·replace hm := cond_t c hm
    refine Runs.skip ?_
    refine Runs.seq ?_
    refine Runs.block ?_
    refine Runs.region ?_
    refine WR.d0 hE 2 [(11, .int .i64 a_1), (12, .int .i64 b)] fun a hE => ?_
    obtain ⟨t_1, et_1, hm⟩ := bind_some hm
    refine WR.eff hE rfl rfl rfl rfl (OpTo.fn hE rfl rfl Tryz.call99 (order_Add_ok et_1 H)) ?_
    rintro _ w ⟨rfl, H⟩ a hE
    refine WR.e0 hE [(0, .int .i64 t_1)] fun a hE => ?_
    refine Runs.inBlock ?_
    refine Runs.region ?_
    refine WR.e0 hE [(9, .int .i64 (w64 (x + 1)))] fun a hE => ?_
    exact ih m (Nat.lt_succ_self m) _ _ ⟨t_1, w64 (x + 1), hE.sel [0, 1, 8, 9] (by kernel_rfl), H, hm⟩
   ·replace hm := cond_f c hm
    refine Runs.exit rfl ?_
    cases hm
    exact hk _ _ ⟨hE.sel [0] (by kernel_rfl), H⟩
 rintro a w ⟨hE, H⟩
 refine Runs.sr ?_
 refine WR.seg hE 2 [] [6] (Lo := [(6, .int .i64 s)]) (obs := []) rfl (by kernel_rfl) trivial fun a hE => ?_
 refine WR.done rfl ?_
 refine Runs.ret hE Tryz.func70 rfl rfl ?_
 cases hm
 exact ⟨rfl, H⟩

theorem bound_Budget_ok {w0 w : World} {As : List HP} {k : Nat} {k_ : Int} {items : Int} {t : Int × Bool}  (hm : bound_Budget k k_ items = some t) (H : St w0 (As) w) :
    CallsR Tryz.prog 52 #[.int .i64 k_, .int .i64 items] w fun v w' => v = .tuple #[.int .i64 t.1, .bool t.2] ∧ St w0 (As) w' := by
 rw [bound_Budget] at hm
 refine enter (args := [.int .i64 k_, .int .i64 items]) Tryz.func52 rfl rfl rfl fun a hE => ?_
 refine Runs.sr ?_
 refine WR.seg hE 2 [] [0, 1] (Lo := [(0, .int .i64 k_), (1, .int .i64 items)]) (obs := []) rfl (by kernel_rfl) trivial fun a hE => ?_
 refine WR.done rfl ?_
 refine Runs.seq ?_
 refine Runs.seq ?_
 obtain ⟨s, es, hm⟩ := bind_some hm
 refine Runs.join (fun a w => EnvOk 20 a [(1, .int .i64 items), (16, .bool s)] ∧ St w0 (As) w) (fun hk => ?_) ?_
 ·replace hm := es; clear es
  refine Runs.region ?_
  refine WR.d0 hE 1 [(6, .int .i64 k_)] fun a hE => ?_
  obtain ⟨t_, et_, hm⟩ := bind_some hm
  refine WR.eff hE rfl rfl rfl rfl (OpTo.fn hE rfl rfl Tryz.call51 (kind_Worst_ok et_ H)) ?_
  rintro _ w ⟨rfl, H⟩ a hE
  refine WR.d0 hE 4 [(9, .bool (!t_))] fun a hE => ?_
  rcases Bool.eq_false_or_eq_true (!t_) with c | c
  ·replace hE := hE.dec 9 c (by kernel_rfl)
   replace hm := cond_t c hm
   have c_ := c
   refine WR.e0 hE [(16, .bool true)] fun a hE => ?_
   cases hm
   exact hk _ _ ⟨hE.sel [1, 16] (by kernel_rfl), H⟩
  ·replace hE := hE.dec 9 c (by kernel_rfl)
   replace hm := cond_f c hm
   have c_1 := c
   refine WR.d0 hE 8 [(13, .bool (decide (items < 1)))] fun a hE => ?_
   rcases Bool.eq_false_or_eq_true (decide (items < 1)) with c | c
   ·replace hE := hE.dec 13 c (by kernel_rfl)
    replace hm := cond_t c hm
    have c_2 := c
    refine WR.e0 hE [(16, .bool true)] fun a hE => ?_
    cases hm
    exact hk _ _ ⟨hE.sel [1, 16] (by kernel_rfl), H⟩
   ·replace hE := hE.dec 13 c (by kernel_rfl)
    replace hm := cond_f c hm
    have c_3 := c
    refine WR.e0 hE [(16, .bool (decide (items > 4096)))] fun a hE => ?_
    cases hm
    exact hk _ _ ⟨hE.sel [1, 16] (by kernel_rfl), H⟩
 rintro a w ⟨hE, H⟩
 refine Runs.cond hE rfl (fun c => ?_) (fun c => ?_)
 ·replace hm := cond_t c hm
  refine Runs.sr ?_
  refine WR.seg hE 2 [] [4, 5] (Lo := [(4, .int .i64 0), (5, .bool false)]) (obs := []) rfl (by kernel_rfl) trivial fun a hE => ?_
  refine WR.done rfl ?_
  refine Runs.ret hE Tryz.func52 rfl rfl ?_
  cases hm
  exact ⟨rfl, H⟩
 ·replace hm := cond_f c hm
  refine Runs.skip ?_
  refine Runs.sr ?_
  refine WR.seg hE 2 [] [18] (Lo := [(18, .int .i64 (w64 (items + 1)))]) (obs := []) rfl (by kernel_rfl) trivial fun a hE => ?_
  obtain ⟨t_1, et_1, hm⟩ := bind_some hm
  refine WR.eff hE rfl rfl rfl rfl (OpTo.fn hE rfl rfl Tryz.call70 (order_Limit_ok et_1 H)) ?_
  rintro _ w ⟨rfl, H⟩ a hE
  refine WR.e0 hE [(4, .int .i64 t_1), (5, .bool true)] fun a hE => ?_
  refine Runs.ret hE Tryz.func52 rfl rfl ?_
  cases hm
  exact ⟨rfl, H⟩

theorem meter_New_ok {w0 w : World} {As : List HP}  {t : meter_Meter}  (hm : meter_New = some t) (H : St w0 (As) w) :
    CallsR Tryz.prog 100 #[] w fun v w' => ∃ (q0 : Nat), v = .pointer (some ⟨q0, 0, none⟩) ∧ St w0 (meter_Meter.R q0 t :: As) w' := by
 rw [meter_New] at hm
 refine enter (args := []) Tryz.func100 rfl rfl rfl fun a hE => ?_
 refine Runs.sr ?_
 refine WR.seg hE 1 [] [] (Lo := []) (obs := []) rfl (by kernel_rfl) trivial fun a hE => ?_
 refine WR.done rfl ?_
 refine Runs.sr ?_
 refine WR.d0 hE 1 [(1, .agg #[.int .i64 0, .int .i64 0, .int .i64 0])] fun a hE => ?_
 refine WR.eff hE rfl rfl rfl rfl (OpTo.new hE H [] (.cells #[.int .i64 0, .int .i64 0, .int .i64 0] 203 (0, 0)) (fun r => .pointer (some ⟨r, 0, none⟩)) (obs := []) rfl (fun _ => by kernel_rfl) trivial) ?_
 rintro _ w ⟨r, rfl, H⟩ a hE
 refine WR.e0 hE [(0, .pointer (some ⟨r, 0, none⟩))] fun a hE => ?_
 replace H := meter_Meter.shut (meter_Meter.mk 0 0 0) H
 refine Runs.ret hE Tryz.func100 rfl rfl ?_
 cases hm
 exact ⟨r, rfl, H⟩

theorem arena_New_ok {w0 w : World} {As : List HP} {cells : Int} {t : arena_Arena}  (hm : arena_New cells = some t) (H : St w0 (As) w) :
    CallsR Tryz.prog 71 #[.int .i64 cells] w fun v w' => ∃ (q0 : Nat), ∃ (al0 : arena_Arena.A), v = .pointer (some ⟨q0, 0, none⟩) ∧ St w0 (arena_Arena.R q0 al0 t :: As) w' := by
 rw [arena_New] at hm
 refine enter (args := [.int .i64 cells]) Tryz.func71 rfl rfl rfl fun a hE => ?_
 refine Runs.sr ?_
 refine WR.seg hE 1 [] [0] (Lo := [(0, .int .i64 cells)]) (obs := []) rfl (by kernel_rfl) trivial fun a hE => ?_
 refine WR.done rfl ?_
 refine Runs.seq ?_
 obtain ⟨l, el, hm⟩ := bind_some hm
 obtain ⟨t_, et_, hm⟩ := bind_some hm
 refine Runs.join (fun a w => ∃ (p1 : Nat), ∃ (al : arena_Arena.A), EnvOk 10 a [(2, .pointer (some ⟨p1, 0, none⟩))] ∧ St w0 (arena_Arena.R p1 al (arena_Arena.mk l 0 ([] : List Int) t_) :: As) w) (fun hk => ?_) ?_
 ·refine Runs.drawn mixed (by kernel_rfl) ?_
  replace H := H.drew
  refine WQ.d0 hE [0, 1, 2] [(5, .int .i64 (if (if 65536 < cells then 65536 else cells) > 0 then (if 65536 < cells then 65536 else cells) else 0))] fun a hE => ?_
  refine WQ.act2 3 4 (by kernel_rfl) ?_ ?_
  ·refine AQ.eff (j := 3) (obs := []) hE rfl rfl rfl rfl (by kernel_rfl) (OpTo.make el hE H arena_cell.enc_ok rfl rfl rfl rfl rfl rfl rfl rfl) ?_
   rintro _ w ⟨r2, rfl, H⟩
   refine ⟨trivial, fun a hE => ?_⟩
   refine WQ.eff (j := 4) (obs := []) hE (by kernel_rfl) rfl rfl rfl rfl (by kernel_rfl) (OpTo.fn hE rfl rfl Tryz.call100 (meter_New_ok et_ H)) ?_
   rintro _ w ⟨p2, rfl, H⟩
   refine ⟨trivial, fun a hE => ?_⟩
   refine WQ.d0 hE [5] [(8, .agg #[.slice (some ⟨r2, 0, none⟩) l.length l.length, .int .i64 0, .slice none 0 0, .pointer (some ⟨p2, 0, none⟩)])] fun a hE => ?_
   refine WQ.eff (j := 6) (obs := []) hE (by kernel_rfl) rfl rfl rfl rfl (by kernel_rfl) (OpTo.new hE H [] (.cells #[.slice (some ⟨r2, 0, none⟩) l.length l.length, .int .i64 0, .slice none 0 0, .pointer (some ⟨p2, 0, none⟩)] 187 (0, 0)) (fun r => .pointer (some ⟨r, 0, none⟩)) (obs := []) rfl (fun _ => by kernel_rfl) trivial) ?_
   rintro _ w ⟨r3, rfl, H⟩
   refine ⟨trivial, fun a hE => ?_⟩
   refine WQ.d0 hE [7] [(2, .pointer (some ⟨r3, 0, none⟩))] fun a hE => ?_
   refine WQ.done (by kernel_rfl) ?_
   replace H := H.slNil 3 ecI 1
   replace H := arena_Arena.shut (arena_Arena.A.mk (some ⟨r2, 0, none⟩) l.length none 0 p2) (arena_Arena.mk l 0 ([] : List Int) t_) H.t2.t1.t3.t3
   exact hk _ _ ⟨r3, arena_Arena.A.mk (some ⟨r2, 0, none⟩) l.length none 0 p2, hE.sel [2] (by kernel_rfl), H⟩
  ·refine AQ.eff (j := 4) (obs := []) hE rfl rfl rfl rfl (by kernel_rfl) (OpTo.fn hE rfl rfl Tryz.call100 (meter_New_ok et_ H)) ?_
   rintro _ w ⟨p3, rfl, H⟩
   refine ⟨trivial, fun a hE => ?_⟩
   refine WQ.eff (j := 3) (obs := []) hE (by kernel_rfl) rfl rfl rfl rfl (by kernel_rfl) (OpTo.make el hE H arena_cell.enc_ok rfl rfl rfl rfl rfl rfl rfl rfl) ?_
   rintro _ w ⟨r4, rfl, H⟩
   refine ⟨trivial, fun a hE => ?_⟩
   refine WQ.d0 hE [5] [(8, .agg #[.slice (some ⟨r4, 0, none⟩) l.length l.length, .int .i64 0, .slice none 0 0, .pointer (some ⟨p3, 0, none⟩)])] fun a hE => ?_
   refine WQ.eff (j := 6) (obs := []) hE (by kernel_rfl) rfl rfl rfl rfl (by kernel_rfl) (OpTo.new hE H [] (.cells #[.slice (some ⟨r4, 0, none⟩) l.length l.length, .int .i64 0, .slice none 0 0, .pointer (some ⟨p3, 0, none⟩)] 187 (0, 0)) (fun r => .pointer (some ⟨r, 0, none⟩)) (obs := []) rfl (fun _ => by kernel_rfl) trivial) ?_
   rintro _ w ⟨r5, rfl, H⟩
   refine ⟨trivial, fun a hE => ?_⟩
   refine WQ.d0 hE [7] [(2, .pointer (some ⟨r5, 0, none⟩))] fun a hE => ?_
   refine WQ.done (by kernel_rfl) ?_
   replace H := H.slNil 3 ecI 1
   replace H := arena_Arena.shut (arena_Arena.A.mk (some ⟨r4, 0, none⟩) l.length none 0 p3) (arena_Arena.mk l 0 ([] : List Int) t_) H.t3.t1.t3.t3
   exact hk _ _ ⟨r5, arena_Arena.A.mk (some ⟨r4, 0, none⟩) l.length none 0 p3, hE.sel [2] (by kernel_rfl), H⟩
 rintro a w ⟨p1, al, hE, H⟩
 refine Runs.ret hE Tryz.func71 rfl rfl ?_
 cases hm
 exact ⟨p1, al, rfl, H⟩

theorem pool_New_slots_heap_ok {w0 w : World} {As : List HP} {places : Int} {t : pool_Pool_slots_heap}  (hm : pool_New_slots_heap places = some t) (H : St w0 (As) w) :
    CallsR Tryz.prog 101 #[.int .i64 places] w fun v w' => ∃ (q0 : Nat), ∃ (al0 : pool_Pool_slots_heap.A), v = .pointer (some ⟨q0, 0, none⟩) ∧ St w0 (pool_Pool_slots_heap.R q0 al0 t :: As) w' := by
 rw [pool_New_slots_heap] at hm
 refine enter (args := [.int .i64 places]) Tryz.func101 rfl rfl rfl fun a hE => ?_
 refine Runs.sr ?_
 refine WR.seg hE 1 [] [0] (Lo := [(0, .int .i64 places)]) (obs := []) rfl (by kernel_rfl) trivial fun a hE => ?_
 refine WR.done rfl ?_
 refine Runs.sr ?_
 refine WR.d0 hE 4 [(6, .agg #[.int .i64 (if (if 65536 < places then 65536 else places) > 0 then (if 65536 < places then 65536 else places) else 0), .slice none 0 0, .slice none 0 0])] fun a hE => ?_
 refine WR.eff hE rfl rfl rfl rfl (OpTo.new hE H [] (.cells #[.int .i64 (if (if 65536 < places then 65536 else places) > 0 then (if 65536 < places then 65536 else places) else 0), .slice none 0 0, .slice none 0 0] 239 (0, 0)) (fun r => .pointer (some ⟨r, 0, none⟩)) (obs := []) rfl (fun _ => by kernel_rfl) trivial) ?_
 rintro _ w ⟨r, rfl, H⟩ a hE
 refine WR.e0 hE [(2, .pointer (some ⟨r, 0, none⟩))] fun a hE => ?_
 replace H := H.slNil 244 pool_place_slots_heap.enc 5
 replace H := H.slNil 3 ecI 1
 replace H := pool_Pool_slots_heap.shut (pool_Pool_slots_heap.A.mk none 0 none 0) (pool_Pool_slots_heap.mk (if (if 65536 < places then 65536 else places) > 0 then (if 65536 < places then 65536 else places) else 0) ([] : List pool_place_slots_heap) ([] : List Int)) H.t1.t2
 refine Runs.ret hE Tryz.func101 rfl rfl ?_
 cases hm
 exact ⟨r, pool_Pool_slots_heap.A.mk none 0 none 0, rfl, H⟩

theorem pool_New_slots_thing_ok {w0 w : World} {As : List HP} {places : Int} {t : pool_Pool_slots_thing}  (hm : pool_New_slots_thing places = some t) (H : St w0 (As) w) :
    CallsR Tryz.prog 102 #[.int .i64 places] w fun v w' => ∃ (q0 : Nat), ∃ (al0 : pool_Pool_slots_thing.A), v = .pointer (some ⟨q0, 0, none⟩) ∧ St w0 (pool_Pool_slots_thing.R q0 al0 t :: As) w' := by
 rw [pool_New_slots_thing] at hm
 refine enter (args := [.int .i64 places]) Tryz.func102 rfl rfl rfl fun a hE => ?_
 refine Runs.sr ?_
 refine WR.seg hE 1 [] [0] (Lo := [(0, .int .i64 places)]) (obs := []) rfl (by kernel_rfl) trivial fun a hE => ?_
 refine WR.done rfl ?_
 refine Runs.sr ?_
 refine WR.d0 hE 4 [(6, .agg #[.int .i64 (if (if 65536 < places then 65536 else places) > 0 then (if 65536 < places then 65536 else places) else 0), .slice none 0 0, .slice none 0 0])] fun a hE => ?_
 refine WR.eff hE rfl rfl rfl rfl (OpTo.new hE H [] (.cells #[.int .i64 (if (if 65536 < places then 65536 else places) > 0 then (if 65536 < places then 65536 else places) else 0), .slice none 0 0, .slice none 0 0] 242 (0, 0)) (fun r => .pointer (some ⟨r, 0, none⟩)) (obs := []) rfl (fun _ => by kernel_rfl) trivial) ?_
 rintro _ w ⟨r, rfl, H⟩ a hE
 refine WR.e0 hE [(2, .pointer (some ⟨r, 0, none⟩))] fun a hE => ?_
 replace H := H.slNil 280 pool_place_slots_thing.enc 5
 replace H := H.slNil 3 ecI 1
 replace H := pool_Pool_slots_thing.shut (pool_Pool_slots_thing.A.mk none 0 none 0) (pool_Pool_slots_thing.mk (if (if 65536 < places then 65536 else places) > 0 then (if 65536 < places then 65536 else places) else 0) ([] : List pool_place_slots_thing) ([] : List Int)) H.t1.t2
 refine Runs.ret hE Tryz.func102 rfl rfl ?_
 cases hm
 exact ⟨r, pool_Pool_slots_thing.A.mk none 0 none 0, rfl, H⟩

theorem slots_New_ok {w0 w : World} {As : List HP} {items : Int} {t : slots_Table}  (hm : slots_New items = some t) (H : St w0 (As) w) :
    CallsR Tryz.prog 72 #[.int .i64 items] w fun v w' => ∃ (q0 : Nat), ∃ (al0 : slots_Table.A), v = .pointer (some ⟨q0, 0, none⟩) ∧ St w0 (slots_Table.R q0 al0 t :: As) w' := by
 rw [slots_New] at hm
 refine enter (args := [.int .i64 items]) Tryz.func72 rfl rfl rfl fun a hE => ?_
 refine Runs.sr ?_
 refine WR.seg hE 1 [] [0] (Lo := [(0, .int .i64 items)]) (obs := []) rfl (by kernel_rfl) trivial fun a hE => ?_
 refine WR.done rfl ?_
 refine Runs.sr ?_
 obtain ⟨t_, et_, hm⟩ := bind_some hm
 refine WR.eff hE rfl rfl rfl rfl (OpTo.fn hE rfl rfl Tryz.call101 (pool_New_slots_heap_ok et_ H)) ?_
 rintro _ w ⟨p, al, rfl, H⟩ a hE
 refine WR.d0 hE 4 [(6, .int .i64 (if (if 16384 < items then 16384 else items) > 1 then (if 16384 < items then 16384 else items) else 1))] fun a hE => ?_
 obtain ⟨t_1, et_1, hm⟩ := bind_some hm
 refine WR.eff hE rfl rfl rfl rfl (OpTo.fn hE rfl rfl Tryz.call102 (pool_New_slots_thing_ok et_1 H)) ?_
 rintro _ w ⟨p1, al1, rfl, H⟩ a hE
 refine WR.eff hE rfl rfl rfl rfl (OpTo.mpNew vI api_Ref.val hE H rfl) ?_
 rintro _ w ⟨r, rfl, H⟩ a hE
 refine WR.d0 hE 7 [(9, .agg #[.pointer (some ⟨p, 0, none⟩), .pointer (some ⟨p1, 0, none⟩), .map (some r)])] fun a hE => ?_
 refine WR.eff hE rfl rfl rfl rfl (OpTo.new hE H [] (.cells #[.pointer (some ⟨p, 0, none⟩), .pointer (some ⟨p1, 0, none⟩), .map (some r)] 198 (0, 0)) (fun r => .pointer (some ⟨r, 0, none⟩)) (obs := []) rfl (fun _ => by kernel_rfl) trivial) ?_
 rintro _ w ⟨r1, rfl, H⟩ a hE
 refine WR.e0 hE [(2, .pointer (some ⟨r1, 0, none⟩))] fun a hE => ?_
 replace H := slots_Table.shut (slots_Table.A.mk p al p1 al1 r) (slots_Table.mk t_ t_1 ([] : List (Int × api_Ref))) H.t1.t2.t3.t3
 refine Runs.ret hE Tryz.func72 rfl rfl ?_
 cases hm
 exact ⟨r1, slots_Table.A.mk p al p1 al1 r, rfl, H⟩

theorem pq_New_ok {w0 w : World} {As : List HP} {items : Int} {t : (Option pq_Queues) × Int}  (hm : pq_New items = some t) (H : St w0 (As) w) :
    CallsR Tryz.prog 53 #[.int .i64 items] w fun v w' => ∃ (q0 : Nat), ∃ (al0 : pq_Queues.A), v = .tuple #[optV q0 t.1, .int .i64 t.2] ∧ St w0 (OptR (pq_Queues.R q0 al0) t.1 :: As) w' := by
 rw [pq_New] at hm
 refine enter (args := [.int .i64 items]) Tryz.func53 rfl rfl rfl fun a hE => ?_
 refine Runs.sr ?_
 refine WR.seg hE 2 [] [0] (Lo := [(0, .int .i64 items)]) (obs := []) rfl (by kernel_rfl) trivial fun a hE => ?_
 refine WR.done rfl ?_
 refine Runs.seq ?_
 refine Runs.seq ?_
 refine Runs.join (fun a w => EnvOk 19 a [(0, .int .i64 items), (9, .bool ((decide (items < 1)) || (decide (items > 16384))))] ∧ St w0 (As) w) (fun hk => ?_) ?_
 ·clear hm
  refine Runs.region ?_
  refine WR.d0 hE 3 [(6, .bool (decide (items < 1)))] fun a hE => ?_
  rcases Bool.eq_false_or_eq_true (decide (items < 1)) with c | c
  ·replace hE := hE.dec 6 c (by kernel_rfl)
   have c_ := c
   refine WR.e0 hE [(9, .bool true)] fun a hE => ?_
   refine hk _ _ ⟨?_, H⟩
   try rw [c_] at hE
   try rw [c_]
   exact hE.sel [0, 9] (by kernel_rfl)
  ·replace hE := hE.dec 6 c (by kernel_rfl)
   have c_1 := c
   refine WR.e0 hE [(9, .bool (decide (items > 16384)))] fun a hE => ?_
   refine hk _ _ ⟨?_, H⟩
   try rw [c_1] at hE
   try rw [c_1]
   exact hE.sel [0, 9] (by kernel_rfl)
 rintro a w ⟨hE, H⟩
 refine Runs.cond hE rfl (fun c => ?_) (fun c => ?_)
 ·replace hm := cond_t c hm
  refine Runs.sr ?_
  refine WR.seg hE 2 [] [2, 3] (Lo := [(2, .pointer none), (3, .int .i64 1)]) (obs := []) rfl (by kernel_rfl) trivial fun a hE => ?_
  refine WR.done rfl ?_
  refine Runs.ret hE Tryz.func53 rfl rfl ?_
  cases hm
  exact ⟨0, default, rfl, (St.optN H)⟩
 ·replace hm := cond_f c hm
  refine Runs.skip ?_
  refine Runs.sr ?_
  refine WR.seg hE 3 [] [0, 10, 12] (Lo := [(0, .int .i64 items), (10, .int .i64 items), (12, .int .i64 (w64 (2 * items)))]) (obs := []) rfl (by kernel_rfl) trivial fun a hE => ?_
  obtain ⟨t_, et_, hm⟩ := bind_some hm
  refine WR.eff hE rfl rfl rfl rfl (OpTo.fn hE rfl rfl Tryz.call71 (arena_New_ok et_ H)) ?_
  rintro _ w ⟨p, al, rfl, H⟩ a hE
  refine WR.d0 hE 5 [(14, .int .i64 items)] fun a hE => ?_
  obtain ⟨t_1, et_1, hm⟩ := bind_some hm
  refine WR.eff hE rfl rfl rfl rfl (OpTo.fn hE rfl rfl Tryz.call72 (slots_New_ok et_1 H)) ?_
  rintro _ w ⟨p1, al1, rfl, H⟩ a hE
  refine WR.eff hE rfl rfl rfl rfl (OpTo.mpNew api_Ref.val api_Entry.val hE H rfl) ?_
  rintro _ w ⟨r, rfl, H⟩ a hE
  refine WR.d0 hE 8 [(17, .agg #[.int .i64 items, .pointer (some ⟨p, 0, none⟩), .pointer (some ⟨p1, 0, none⟩), .map (some r), .int .i64 0])] fun a hE => ?_
  refine WR.eff hE rfl rfl rfl rfl (OpTo.new hE H [] (.cells #[.int .i64 items, .pointer (some ⟨p, 0, none⟩), .pointer (some ⟨p1, 0, none⟩), .map (some r), .int .i64 0] 156 (0, 0)) (fun r => .pointer (some ⟨r, 0, none⟩)) (obs := []) rfl (fun _ => by kernel_rfl) trivial) ?_
  rintro _ w ⟨r1, rfl, H⟩ a hE
  refine WR.e0 hE [(2, .pointer (some ⟨r1, 0, none⟩)), (3, .int .i64 0)] fun a hE => ?_
  replace H := pq_Queues.shut (pq_Queues.A.mk p al p1 al1 r) (pq_Queues.mk items t_ t_1 ([] : List (api_Ref × api_Entry)) 0) H.t1.t2.t3.t3
  refine Runs.ret hE Tryz.func53 rfl rfl ?_
  cases hm
  exact ⟨r1, pq_Queues.A.mk p al p1 al1 r, rfl, H⟩

theorem pool_New_jobs_Job_ok {w0 w : World} {As : List HP} {places : Int} {t : pool_Pool_jobs_Job}  (hm : pool_New_jobs_Job places = some t) (H : St w0 (As) w) :
    CallsR Tryz.prog 73 #[.int .i64 places] w fun v w' => ∃ (q0 : Nat), ∃ (al0 : pool_Pool_jobs_Job.A), v = .pointer (some ⟨q0, 0, none⟩) ∧ St w0 (pool_Pool_jobs_Job.R q0 al0 t :: As) w' := by
 rw [pool_New_jobs_Job] at hm
 refine enter (args := [.int .i64 places]) Tryz.func73 rfl rfl rfl fun a hE => ?_
 refine Runs.sr ?_
 refine WR.seg hE 1 [] [0] (Lo := [(0, .int .i64 places)]) (obs := []) rfl (by kernel_rfl) trivial fun a hE => ?_
 refine WR.done rfl ?_
 refine Runs.sr ?_
 refine WR.d0 hE 4 [(6, .agg #[.int .i64 (if (if 65536 < places then 65536 else places) > 0 then (if 65536 < places then 65536 else places) else 0), .slice none 0 0, .slice none 0 0])] fun a hE => ?_
 refine WR.eff hE rfl rfl rfl rfl (OpTo.new hE H [] (.cells #[.int .i64 (if (if 65536 < places then 65536 else places) > 0 then (if 65536 < places then 65536 else places) else 0), .slice none 0 0, .slice none 0 0] 201 (0, 0)) (fun r => .pointer (some ⟨r, 0, none⟩)) (obs := []) rfl (fun _ => by kernel_rfl) trivial) ?_
 rintro _ w ⟨r, rfl, H⟩ a hE
 refine WR.e0 hE [(2, .pointer (some ⟨r, 0, none⟩))] fun a hE => ?_
 replace H := H.slNil 263 pool_place_jobs_Job.enc 7
 replace H := H.slNil 3 ecI 1
 replace H := pool_Pool_jobs_Job.shut (pool_Pool_jobs_Job.A.mk none 0 none 0) (pool_Pool_jobs_Job.mk (if (if 65536 < places then 65536 else places) > 0 then (if 65536 < places then 65536 else places) else 0) ([] : List pool_place_jobs_Job) ([] : List Int)) H.t1.t2
 refine Runs.ret hE Tryz.func73 rfl rfl ?_
 cases hm
 exact ⟨r, pool_Pool_jobs_Job.A.mk none 0 none 0, rfl, H⟩

theorem jobs_New_ok {w0 w : World} {As : List HP} {jobs : Int} {t : jobs_Table}  (hm : jobs_New jobs = some t) (H : St w0 (As) w) :
    CallsR Tryz.prog 54 #[.int .i64 jobs] w fun v w' => ∃ (q0 : Nat), ∃ (al0 : jobs_Table.A), v = .pointer (some ⟨q0, 0, none⟩) ∧ St w0 (jobs_Table.R q0 al0 t :: As) w' := by
 rw [jobs_New] at hm
 refine enter (args := [.int .i64 jobs]) Tryz.func54 rfl rfl rfl fun a hE => ?_
 refine Runs.sr ?_
 refine WR.seg hE 1 [] [0] (Lo := [(0, .int .i64 jobs)]) (obs := []) rfl (by kernel_rfl) trivial fun a hE => ?_
 refine WR.done rfl ?_
 refine Runs.sr ?_
 refine WR.d0 hE 3 [(5, .int .i64 (if (if 4096 < jobs then 4096 else jobs) > 1 then (if 4096 < jobs then 4096 else jobs) else 1))] fun a hE => ?_
 obtain ⟨t_, et_, hm⟩ := bind_some hm
 refine WR.eff hE rfl rfl rfl rfl (OpTo.fn hE rfl rfl Tryz.call73 (pool_New_jobs_Job_ok et_ H)) ?_
 rintro _ w ⟨p, al, rfl, H⟩ a hE
 refine WR.eff hE rfl rfl rfl rfl (OpTo.mpNew api_Ref.val api_Ref.val hE H rfl) ?_
 rintro _ w ⟨r, rfl, H⟩ a hE
 refine WR.d0 hE 6 [(8, .agg #[.pointer (some ⟨p, 0, none⟩), .map (some r)])] fun a hE => ?_
 refine WR.eff hE rfl rfl rfl rfl (OpTo.new hE H [] (.cells #[.pointer (some ⟨p, 0, none⟩), .map (some r)] 163 (0, 0)) (fun r => .pointer (some ⟨r, 0, none⟩)) (obs := []) rfl (fun _ => by kernel_rfl) trivial) ?_
 rintro _ w ⟨r1, rfl, H⟩ a hE
 refine WR.e0 hE [(2, .pointer (some ⟨r1, 0, none⟩))] fun a hE => ?_
 replace H := jobs_Table.shut (jobs_Table.A.mk p al r) (jobs_Table.mk t_ ([] : List (api_Ref × api_Ref))) H.t1.t2.t2
 refine Runs.ret hE Tryz.func54 rfl rfl ?_
 cases hm
 exact ⟨r1, jobs_Table.A.mk p al r, rfl, H⟩

theorem clock_New_ok {w0 w : World} {As : List HP}  {t : clock_Clock}  (hm : clock_New = some t) (H : St w0 (As) w) :
    CallsR Tryz.prog 55 #[] w fun v w' => ∃ (q0 : Nat), v = .pointer (some ⟨q0, 0, none⟩) ∧ St w0 (clock_Clock.R q0 t :: As) w' := by
 rw [clock_New] at hm
 refine enter (args := []) Tryz.func55 rfl rfl rfl fun a hE => ?_
 refine Runs.sr ?_
 refine WR.seg hE 1 [] [] (Lo := []) (obs := []) rfl (by kernel_rfl) trivial fun a hE => ?_
 refine WR.done rfl ?_
 refine Runs.sr ?_
 refine WR.d0 hE 1 [(1, .agg #[.int .i64 0])] fun a hE => ?_
 refine WR.eff hE rfl rfl rfl rfl (OpTo.new hE H [] (.cells #[.int .i64 0] 165 (0, 0)) (fun r => .pointer (some ⟨r, 0, none⟩)) (obs := []) rfl (fun _ => by kernel_rfl) trivial) ?_
 rintro _ w ⟨r, rfl, H⟩ a hE
 refine WR.e0 hE [(0, .pointer (some ⟨r, 0, none⟩))] fun a hE => ?_
 replace H := clock_Clock.shut (clock_Clock.mk 0) H
 refine Runs.ret hE Tryz.func55 rfl rfl ?_
 cases hm
 exact ⟨r, rfl, H⟩

theorem pq_Queues_Do_nil0_ok {w0 w : World} {As : List HP} {c_ : api_Call} {t : api_Answer}  (hm : pq_Queues_Do_nil0 c_ = some t) (H : St w0 (As) w) :
    CallsR Tryz.prog 56 #[.pointer none, .agg #[.int .i64 c_.Op, .int .i64 c_.Kind, .int .i64 c_.Heap.At, .int .i64 c_.Heap.Gen, .int .i64 c_.Other.At, .int .i64 c_.Other.Gen, .int .i64 c_.Item.At, .int .i64 c_.Item.Gen, .int .i64 c_.Key]] w fun v w' => v = .agg #[.int .i64 t.Why, .int .i64 t.Heap.At, .int .i64 t.Heap.Gen, .int .i64 t.Item.At, .int .i64 t.Item.Gen, .int .i64 t.Entry.Key, .int .i64 t.Entry.Serial, .int .i64 t.N] ∧ St w0 (As) w' := by
 rw [pq_Queues_Do_nil0] at hm
 refine enter (args := [.pointer none, .agg #[.int .i64 c_.Op, .int .i64 c_.Kind, .int .i64 c_.Heap.At, .int .i64 c_.Heap.Gen, .int .i64 c_.Other.At, .int .i64 c_.Other.Gen, .int .i64 c_.Item.At, .int .i64 c_.Item.Gen, .int .i64 c_.Key]]) Tryz.func56 rfl rfl rfl fun a hE => ?_
 refine Runs.sr ?_
 refine WR.eff hE rfl rfl rfl rfl (OpTo.new hE H [] (.cells #[.int .i64 c_.Op, .int .i64 c_.Kind, .int .i64 c_.Heap.At, .int .i64 c_.Heap.Gen, .int .i64 c_.Other.At, .int .i64 c_.Other.Gen, .int .i64 c_.Item.At, .int .i64 c_.Item.Gen, .int .i64 c_.Key] 130 (0, 0)) (fun r => .pointer (some ⟨r, 0, none⟩)) (obs := []) rfl (fun _ => by kernel_rfl) trivial) ?_
 rintro _ w ⟨r, rfl, H⟩ a hE
 refine WR.eff hE rfl rfl rfl rfl (OpTo.new hE H [] (.cells #[.int .i64 0, .int .i64 0, .int .i64 0, .int .i64 0, .int .i64 0, .int .i64 0, .int .i64 0, .int .i64 0] 127 (0, 0)) (fun r => .pointer (some ⟨r, 0, none⟩)) (obs := []) rfl (fun _ => by kernel_rfl) trivial) ?_
 rintro _ w ⟨r1, rfl, H⟩ a hE
 refine WR.done rfl ?_
 refine Runs.sr ?_
 cases hm

theorem arena_Arena_Meter_ok {w0 w : World} {As : List HP} {p_a_ : Nat} {al_a_ : arena_Arena.A} {a_ : arena_Arena} {t : Unit}  (hm : arena_Arena_Meter a_ = some t) (H : St w0 (arena_Arena.R p_a_ al_a_ a_ :: As) w) :
    CallsR Tryz.prog 74 #[.pointer (some ⟨p_a_, 0, none⟩)] w fun v w' => v = .pointer (some ⟨al_a_.m__p, 0, none⟩) ∧ St w0 (arena_Arena.R p_a_ al_a_ a_ :: As) w' := by
 rw [arena_Arena_Meter] at hm
 refine enter (args := [.pointer (some ⟨p_a_, 0, none⟩)]) Tryz.func74 rfl rfl rfl fun a hE => ?_
 refine Runs.sr ?_
 refine WR.seg hE 1 [] [0] (Lo := [(0, .pointer (some ⟨p_a_, 0, none⟩))]) (obs := []) rfl (by kernel_rfl) trivial fun a hE => ?_
 refine WR.done rfl ?_
 refine Runs.sr ?_
 replace H := arena_Arena.open H
 refine WR.e hE [.pointer (some ⟨al_a_.m__p, 0, none⟩)] [(2, .pointer (some ⟨al_a_.m__p, 0, none⟩))] (obs := [.cell ⟨p_a_, 3, none⟩ (.pointer (some ⟨al_a_.m__p, 0, none⟩))]) ⟨H.cell 0 rfl rfl, trivial⟩ fun a hE => ?_
 replace H := arena_Arena.shut al_a_ (a_) H.t3.t3.t3.t3
 refine Runs.ret hE Tryz.func74 rfl rfl ?_
 cases hm
 exact ⟨rfl, H⟩

theorem meter_Meter_Spent_ok {w0 w : World} {As : List HP} {p_m_ : Nat} {m_ : meter_Meter} {t : Int}  (hm : meter_Meter_Spent m_ = some t) (H : St w0 (meter_Meter.R p_m_ m_ :: As) w) :
    CallsR Tryz.prog 139 #[.pointer (some ⟨p_m_, 0, none⟩)] w fun v w' => v = .int .i64 t ∧ St w0 (meter_Meter.R p_m_ m_ :: As) w' := by
 rw [meter_Meter_Spent] at hm
 refine enter (args := [.pointer (some ⟨p_m_, 0, none⟩)]) Tryz.func139 rfl rfl rfl fun a hE => ?_
 refine Runs.sr ?_
 refine WR.seg hE 1 [] [0] (Lo := [(0, .pointer (some ⟨p_m_, 0, none⟩))]) (obs := []) rfl (by kernel_rfl) trivial fun a hE => ?_
 refine WR.done rfl ?_
 refine Runs.seq ?_
 refine Runs.drawn mixed (by kernel_rfl) ?_
 replace H := H.drew
 replace H := meter_Meter.open H
 refine WQ.d hE [0, 1, 2, 3, 4, 5, 6, 7, 8, 9] [.int .i64 m_.steps, .int .i64 m_.begun] [(2, .int .i64 (w64 (m_.steps - m_.begun)))] (obs := [.cell ⟨p_m_, 0, none⟩ (.int .i64 m_.steps), .cell ⟨p_m_, 1, none⟩ (.int .i64 m_.begun)]) ⟨H.cell 0 rfl rfl, H.cell 0 rfl rfl, trivial⟩ fun a hE => ?_
 refine WQ.done (by kernel_rfl) ?_
 replace H := meter_Meter.shut (m_) H
 refine Runs.ret hE Tryz.func139 rfl rfl ?_
 cases hm
 exact ⟨rfl, H⟩

theorem meter_Meter_Most_ok {w0 w : World} {As : List HP} {p_m_ : Nat} {m_ : meter_Meter} {t : Int}  (hm : meter_Meter_Most m_ = some t) (H : St w0 (meter_Meter.R p_m_ m_ :: As) w) :
    CallsR Tryz.prog 103 #[.pointer (some ⟨p_m_, 0, none⟩)] w fun v w' => v = .int .i64 t ∧ St w0 (meter_Meter.R p_m_ m_ :: As) w' := by
 rw [meter_Meter_Most] at hm
 refine enter (args := [.pointer (some ⟨p_m_, 0, none⟩)]) Tryz.func103 rfl rfl rfl fun a hE => ?_
 refine Runs.sr ?_
 refine WR.seg hE 1 [] [0] (Lo := [(0, .pointer (some ⟨p_m_, 0, none⟩))]) (obs := []) rfl (by kernel_rfl) trivial fun a hE => ?_
 refine WR.done rfl ?_
 refine Runs.seq ?_
 refine Runs.drawn mixed (by kernel_rfl) ?_
 replace H := H.drew
 replace H := meter_Meter.open H
 refine WQ.d hE [0, 1, 2, 3, 4] [.int .i64 m_.most] [(6, .int .i64 m_.most), (7, .pointer (some ⟨p_m_, 0, none⟩))] (obs := [.cell ⟨p_m_, 2, none⟩ (.int .i64 m_.most)]) ⟨H.cell 0 rfl rfl, trivial⟩ fun a hE => ?_
 replace H := meter_Meter.shut (m_) H
 obtain ⟨t_, et_, hm⟩ := bind_some hm
 refine WQ.eff (j := 5) (obs := [.cell ⟨p_m_, 2, none⟩ (.int .i64 m_.most)]) hE (by kernel_rfl) rfl rfl rfl rfl (by kernel_rfl) (OpTo.fn hE rfl rfl Tryz.call139 (meter_Meter_Spent_ok et_ H)) ?_
 rintro _ w ⟨rfl, H⟩
 replace H := meter_Meter.open H
 refine ⟨⟨H.cell 0 rfl rfl, trivial⟩, fun a hE => ?_⟩
 refine WQ.d0 hE [6, 7] [(2, .int .i64 (if t_ > m_.most then t_ else m_.most))] fun a hE => ?_
 refine WQ.done (by kernel_rfl) ?_
 replace H := meter_Meter.shut (m_) H
 refine Runs.ret hE Tryz.func103 rfl rfl ?_
 cases hm
 exact ⟨rfl, H⟩

theorem meter_Meter_Begin_ok {w0 w : World} {As : List HP} {p_m_ : Nat} {m_ : meter_Meter} {t : meter_Meter}  (hm : meter_Meter_Begin m_ = some t) (H : St w0 (meter_Meter.R p_m_ m_ :: As) w) :
    CallsR Tryz.prog 75 #[.pointer (some ⟨p_m_, 0, none⟩)] w fun v w' => v = .tuple #[] ∧ St w0 (meter_Meter.R p_m_ t :: As) w' := by
 rw [meter_Meter_Begin] at hm
 refine enter (args := [.pointer (some ⟨p_m_, 0, none⟩)]) Tryz.func75 rfl rfl rfl fun a hE => ?_
 refine Runs.drawn mixed (by kernel_rfl) ?_
 replace H := H.drew
 replace H := meter_Meter.open H
 refine WQ.seg hE [0, 1, 2, 4, 5, 6, 7] [.int .i64 m_.steps] [2, 3, 4, 9] (Lo := [(2, .pointer (some ⟨p_m_, 0, none⟩)), (3, .pointer (some ⟨p_m_, 0, none⟩)), (4, .pointer (some ⟨p_m_, 0, none⟩)), (9, .int .i64 m_.steps)]) (obs := [.cell ⟨p_m_, 0, none⟩ (.int .i64 m_.steps)]) (by kernel_rfl) (by kernel_rfl) ⟨H.cell 0 rfl rfl, trivial⟩ fun a hE => ?_
 replace H := meter_Meter.shut (m_) H
 obtain ⟨t_, et_, hm⟩ := bind_some hm
 refine WQ.eff (j := 3) (obs := [.cell ⟨p_m_, 0, none⟩ (.int .i64 m_.steps)]) hE (by kernel_rfl) rfl rfl rfl rfl (by kernel_rfl) (OpTo.fn hE rfl rfl Tryz.call103 (meter_Meter_Most_ok et_ H)) ?_
 rintro _ w ⟨rfl, H⟩
 replace H := meter_Meter.open H
 refine ⟨⟨H.cell 0 rfl rfl, trivial⟩, fun a hE => ?_⟩
 refine WQ.d0 hE [8, 9] [(11, .pointer (some ⟨p_m_, 2, none⟩))] fun a hE => ?_
 refine WQ.eff0 (j := 10) (obs := []) hE (by kernel_rfl) rfl rfl rfl (by kernel_rfl) (OpTo.store hE H rfl rfl rfl rfl rfl rfl (Nat.le_of_ble_eq_true rfl)) ?_
 rintro _ w H
 refine ⟨trivial, fun a hE => ?_⟩
 refine WQ.d0 hE [11, 12] [(13, .pointer (some ⟨p_m_, 1, none⟩))] fun a hE => ?_
 refine WQ.eff0 (j := 13) (obs := []) hE (by kernel_rfl) rfl rfl rfl (by kernel_rfl) (OpTo.store hE H rfl rfl rfl rfl rfl rfl (Nat.le_of_ble_eq_true rfl)) ?_
 rintro _ w H
 refine ⟨trivial, fun a hE => ?_⟩
 refine WQ.done (by kernel_rfl) ?_
 replace H := meter_Meter.shut (meter_Meter.mk m_.steps m_.steps t_) H
 refine Runs.fin hE Tryz.func75 rfl rfl ?_
 cases hm
 exact ⟨rfl, H⟩

theorem kind_Right_ok {w0 w : World} {As : List HP} {k_ : Int} {t : Bool}  (hm : kind_Right k_ = some t) (H : St w0 (As) w) :
    CallsR Tryz.prog 104 #[.int .i64 k_] w fun v w' => v = .bool t ∧ St w0 (As) w' := by
 rw [kind_Right] at hm
 refine enter (args := [.int .i64 k_]) Tryz.func104 rfl rfl rfl fun a hE => ?_
 refine Runs.sr ?_
 refine WR.seg hE 1 [] [0] (Lo := [(0, .int .i64 k_)]) (obs := []) rfl (by kernel_rfl) trivial fun a hE => ?_
 refine WR.done rfl ?_
 refine Runs.seq ?_
 refine Runs.join (fun a w => EnvOk 9 a [(2, .bool ((decide (k_ ≥ 1)) && (decide (k_ ≤ 5))))] ∧ St w0 (As) w) (fun hk => ?_) ?_
 ·clear hm
  refine Runs.region ?_
  refine WR.d0 hE 3 [(5, .bool (decide (k_ ≥ 1)))] fun a hE => ?_
  rcases Bool.eq_false_or_eq_true (decide (k_ ≥ 1)) with c | c
  ·replace hE := hE.dec 5 c (by kernel_rfl)
   have c_ := c
   refine WR.e0 hE [(2, .bool (decide (k_ ≤ 5)))] fun a hE => ?_
   refine hk _ _ ⟨?_, H⟩
   try rw [c_] at hE
   try rw [c_]
   exact hE.sel [2] (by kernel_rfl)
  ·replace hE := hE.dec 5 c (by kernel_rfl)
   have c_1 := c
   refine WR.e0 hE [(2, .bool false)] fun a hE => ?_
   refine hk _ _ ⟨?_, H⟩
   try rw [c_1] at hE
   try rw [c_1]
   exact hE.sel [2] (by kernel_rfl)
 rintro a w ⟨hE, H⟩
 refine Runs.ret hE Tryz.func104 rfl rfl ?_
 cases hm
 exact ⟨rfl, H⟩

theorem pool_Pool_slots_heap_Take_ok {w0 w : World} {As : List HP} {p_p : Nat} {al_p : pool_Pool_slots_heap.A} {p : pool_Pool_slots_heap} {v_ : slots_heap} {t : api_Ref × Bool × pool_Pool_slots_heap}  (hm : pool_Pool_slots_heap_Take p v_ = some t) (H : St w0 (pool_Pool_slots_heap.R p_p al_p p :: As) w) :
    CallsR Tryz.prog 105 #[.pointer (some ⟨p_p, 0, none⟩), .agg #[.int .i64 v_.kind, .int .i64 v_.root, .int .i64 v_.n]] w fun v w' => ∃ (z_p_l_b : Option Addr), ∃ (z_p_l_c : Nat), ∃ (z_p_free_b : Option Addr), ∃ (z_p_free_c : Nat), v = .tuple #[.agg #[.int .i64 t.1.At, .int .i64 t.1.Gen], .bool t.2.1] ∧ St w0 (pool_Pool_slots_heap.R p_p (pool_Pool_slots_heap.A.mk z_p_l_b z_p_l_c z_p_free_b z_p_free_c) t.2.2 :: As) w' := by
 rw [pool_Pool_slots_heap_Take] at hm
 refine enter (args := [.pointer (some ⟨p_p, 0, none⟩), .agg #[.int .i64 v_.kind, .int .i64 v_.root, .int .i64 v_.n]]) Tryz.func105 rfl rfl rfl fun a hE => ?_
 refine Runs.sr ?_
 refine WR.eff hE rfl rfl rfl rfl (OpTo.new hE H [] (.cells #[.int .i64 v_.kind, .int .i64 v_.root, .int .i64 v_.n] 191 (0, 0)) (fun r => .pointer (some ⟨r, 0, none⟩)) (obs := []) rfl (fun _ => by kernel_rfl) trivial) ?_
 rintro _ w ⟨r, rfl, H⟩ a hE
 refine WR.eff hE rfl rfl rfl rfl (OpTo.new hE H [] (.cells #[.int .i64 0, .int .i64 0] 31 (0, 0)) (fun r => .pointer (some ⟨r, 0, none⟩)) (obs := []) rfl (fun _ => by kernel_rfl) trivial) ?_
 rintro _ w ⟨r1, rfl, H⟩ a hE
 refine WR.seg hE 3 [] [0, 3, 4] (Lo := [(0, .pointer (some ⟨p_p, 0, none⟩)), (3, .pointer (some ⟨r, 0, none⟩)), (4, .pointer (some ⟨r1, 0, none⟩))]) (obs := []) rfl (by kernel_rfl) trivial fun a hE => ?_
 refine WR.done rfl ?_
 refine Runs.sr ?_
 replace H := pool_Pool_slots_heap.open H.t2
 refine WR.e hE [.slice al_p.l_b p.l.length al_p.l_c] [(6, .int .i64 (p.l.length : Int))] (obs := [.cell ⟨p_p, 1, none⟩ (.slice al_p.l_b p.l.length al_p.l_c)]) ⟨H.cell 0 rfl rfl, trivial⟩ fun a hE => ?_
 refine Runs.seq ?_
 refine Runs.sr ?_
 refine WR.e hE [.slice al_p.free_b p.free.length al_p.free_c] [(7, .int .i64 (w64 ((p.free.length : Int) - 1)))] (obs := [.cell ⟨p_p, 2, none⟩ (.slice al_p.free_b p.free.length al_p.free_c)]) ⟨H.cell 0 rfl rfl, trivial⟩ fun a hE => ?_
 refine Runs.sr ?_
 refine WR.e0 hE [(21, .bool (decide (w64 ((p.free.length : Int) - 1) ≥ 0)))] fun a hE => ?_
 replace H := pool_Pool_slots_heap.shut al_p (p) H.t2.t2.t2
 obtain ⟨s, es, hR⟩ := bind_some hm
 refine Runs.join (fun a w => ∃ s1, s = Sum.inr s1 ∧ ∃ (z : Option Addr), ∃ (z1 : Nat), ∃ (z2 : Option Addr), ∃ (z3 : Nat), EnvOk 81 a [(0, .pointer (some ⟨p_p, 0, none⟩)), (3, .pointer (some ⟨r, 0, none⟩)), (4, .pointer (some ⟨r1, 0, none⟩)), (6, .int .i64 s1.1)] ∧ St w0 (pool_Pool_slots_heap.R p_p (pool_Pool_slots_heap.A.mk z z1 z2 z3) s1.2 :: Blk r1 31 [.int .i64 0, .int .i64 0] :: Blk r 191 [.int .i64 v_.kind, .int .i64 v_.root, .int .i64 v_.n] :: As) w) (fun hk => ?_) ?_
 ·replace hm := es; clear es
  refine Runs.cond hE rfl (fun c => ?_) (fun c => ?_)
  ·replace hm := cond_t c hm
   refine Runs.sr ?_
   replace H := pool_Pool_slots_heap.open H
   obtain ⟨x, ex, hm⟩ := bind_some hm
   obtain ⟨b, o, hs, hb⟩ := SlRd.base (sl_rd 3 ecI 1 _ _ _) ecI_ok H 2 rfl ex
   refine WR.e hE [.slice al_p.free_b p.free.length al_p.free_c, .pointer (some ⟨b, o, none⟩), .int .i64 x] [(6, .int .i64 x)] (obs := [.cell ⟨p_p, 2, none⟩ (.slice al_p.free_b p.free.length al_p.free_c), .p ((al_p.free_b : Option Addr) = some ⟨b, o, none⟩), .p (0 ≤ ((w64 ((p.free.length : Int) - 1)) : Int) ∧ ((w64 ((p.free.length : Int) - 1)) : Int) < ((p.free.length : Nat) : Int)), .cell ⟨b, o + (Int.toNat (w64 ((p.free.length : Int) - 1))) * 1, none⟩ (.int .i64 x)]) ⟨H.cell 0 rfl rfl, hs, hb, SlRd.cells (sl_rd 3 ecI 1 _ _ _) ecI_ok H 2 rfl hs ex 0 _ rfl, trivial⟩ fun a hE => ?_
   refine Runs.region ?_
   obtain ⟨l, el, hm⟩ := bind_some hm
   obtain ⟨sb, q⟩ : ∃ z, rebase al_p.free_b al_p.free_c (Int.toNat 0) 1 = z := ⟨_, rfl⟩
   obtain ⟨sc, q1⟩ : ∃ z, al_p.free_c - (Int.toNat 0) = z := ⟨_, rfl⟩
   refine WR.d hE 9 [.slice al_p.free_b p.free.length al_p.free_c, .slice sb l.length sc] [(35, .slice sb l.length sc), (37, .pointer (some ⟨p_p, 2, none⟩))] (obs := [.cell ⟨p_p, 2, none⟩ (.slice al_p.free_b p.free.length al_p.free_c), .p (rebase al_p.free_b al_p.free_c 0 1 = sb), .p ((Int.toNat (w64 ((p.free.length : Int) - 1))) - 0 = l.length), .p (al_p.free_c - 0 = sc), .p (0 ≤ ((w64 ((p.free.length : Int) - 1)) : Int) ∧ ((w64 ((p.free.length : Int) - 1)) : Int) ≤ ((al_p.free_c : Nat) : Int))]) ⟨H.cell 0 rfl rfl, q, cut_len el, q1, cut_cap el (H.slCap 2 rfl).1, trivial⟩ fun a hE => ?_
   refine WR.eff0 hE rfl rfl rfl (OpTo.store hE H rfl rfl rfl rfl rfl rfl (Nat.le_of_ble_eq_true rfl)) ?_
   rintro _ w H a hE
   refine WR.done rfl ?_
   replace H := H.t2.slCut' ecI_ok el q q1
   replace H := pool_Pool_slots_heap.shut (pool_Pool_slots_heap.A.mk al_p.l_b al_p.l_c sb sc) (pool_Pool_slots_heap.mk p.most p.l l) H.t2.t2
   cases hm
   exact hk _ _ ⟨_, rfl, al_p.l_b, al_p.l_c, sb, sc, hE.sel [0, 3, 4, 6] (by kernel_rfl), H.t2.t2.t2⟩
  ·replace hm := cond_f c hm
   refine Runs.sr ?_
   replace H := pool_Pool_slots_heap.open H
   refine WR.e hE [.int .i64 p.most] [(43, .bool (decide ((p.l.length : Int) ≥ p.most)))] (obs := [.cell ⟨p_p, 0, none⟩ (.int .i64 p.most)]) ⟨H.cell 0 rfl rfl, trivial⟩ fun a hE => ?_
   refine Runs.cond hE rfl (fun c => ?_) (fun c => ?_)
   ·replace hm := cond_t c hm
    refine Runs.sr ?_
    refine WR.d0 hE 1 [(44, .agg #[.int .i64 0, .int .i64 0])] fun a hE => ?_
    refine WR.eff0 hE rfl rfl rfl (OpTo.store hE H.t3 rfl rfl rfl rfl rfl rfl (Nat.le_of_ble_eq_true rfl)) ?_
    rintro _ w H a hE
    refine WR.e0 hE [(5, .bool false)] fun a hE => ?_
    refine Runs.retO (vs := [.agg #[.int .i64 0, .int .i64 0], .bool false]) (obs := [.cell ⟨r1, 0, none⟩ (.int .i64 0), .cell ⟨r1, 1, none⟩ (.int .i64 0)]) hE Tryz.func105 rfl [.int .i64 0, .int .i64 0] (by kernel_rfl) ⟨H.cell 0 rfl rfl, H.cell 0 rfl rfl, trivial⟩ ?_
    replace H := pool_Pool_slots_heap.shut al_p (p) H.t3.t3.t3
    cases hm
    dsimp only at hR; cases hR
    exact ⟨al_p.l_b, al_p.l_c, al_p.free_b, al_p.free_c, rfl, H.x2.x1⟩
   ·replace hm := cond_f c hm
    refine Runs.region ?_
    refine WR.d hE 6 [.slice al_p.l_b p.l.length al_p.l_c] [(45, .pointer (some ⟨p_p, 0, none⟩)), (49, .slice al_p.l_b p.l.length al_p.l_c), (50, .agg #[.int .i64 0, .bool false, .int .i64 0, .int .i64 0, .int .i64 0])] (obs := [.cell ⟨p_p, 1, none⟩ (.slice al_p.l_b p.l.length al_p.l_c)]) ⟨H.cell 0 rfl rfl, trivial⟩ fun a hE => ?_
    refine WR.eff hE rfl rfl rfl rfl (OpTo.buildSl (T := 244) hE H pool_place_slots_heap.enc_ok ([pool_place_slots_heap.mk 0 false (slots_heap.mk 0 0 0)] : List pool_place_slots_heap) rfl (fun _ => by kernel_rfl) rfl rfl rfl) ?_
    rintro _ w ⟨r2, rfl, H⟩ a hE
    obtain ⟨l1, el1, hm⟩ := bind_some hm
    replace H := H.t2
    refine WR.eff hE rfl rfl rfl rfl (OpTo.appendM el1 hE H pool_place_slots_heap.enc_ok rfl rfl rfl rfl rfl rfl rfl rfl rfl rfl (SlRd.all (sl_rd 244 pool_place_slots_heap.enc 5 _ _ _) pool_place_slots_heap.enc_ok H 1 rfl) rfl) ?_
    rintro _ w ⟨sb1, sc1, rfl, H⟩ a hE
    refine WR.d0 hE 10 [(54, .pointer (some ⟨p_p, 1, none⟩))] fun a hE => ?_
    refine WR.eff0 hE rfl rfl rfl (OpTo.store hE H.t2 rfl rfl rfl rfl rfl rfl (Nat.le_of_ble_eq_true rfl)) ?_
    rintro _ w H a hE
    refine WR.done rfl ?_
    replace H := pool_Pool_slots_heap.shut (pool_Pool_slots_heap.A.mk sb1 sc1 al_p.free_b al_p.free_c) (pool_Pool_slots_heap.mk p.most l1 p.free) H.t3.t2.t2
    cases hm
    exact hk _ _ ⟨_, rfl, sb1, sc1, al_p.free_b, al_p.free_c, hE.sel [0, 3, 4, 6] (by kernel_rfl), H.x1.t2.t2.t2⟩
 rintro a w ⟨s1, rfl, z, z1, z2, z3, hE, H⟩
 replace hm := hR; dsimp only at hm
 refine Runs.sr ?_
 replace H := pool_Pool_slots_heap.open H
 try dsimp only at H
 obtain ⟨x1, ex1, hm⟩ := bind_some hm
 obtain ⟨b1, o1, hs1, hb1⟩ := SlRd.base (sl_rd 244 pool_place_slots_heap.enc 5 _ _ _) pool_place_slots_heap.enc_ok H 1 rfl ex1
 refine WR.seg hE 7 [.slice z s1.2.l.length z1, .pointer (some ⟨b1, o1, none⟩)] [3, 4, 6, 8] (Lo := [(3, .pointer (some ⟨r, 0, none⟩)), (4, .pointer (some ⟨r1, 0, none⟩)), (6, .int .i64 s1.1), (8, .pointer (some ⟨b1, o1 + (Int.toNat s1.1) * 5, none⟩))]) (obs := [.cell ⟨p_p, 1, none⟩ (.slice z s1.2.l.length z1), .p ((z : Option Addr) = some ⟨b1, o1, none⟩), .p (0 ≤ (s1.1 : Int) ∧ (s1.1 : Int) < ((s1.2.l.length : Nat) : Int))]) rfl (by kernel_rfl) ⟨H.cell 0 rfl rfl, hs1, hb1, trivial⟩ fun a hE => ?_
 refine WR.done rfl ?_
 refine Runs.sr ?_
 refine WR.d hE 7 [.int .i64 x1.gen] [(65, .int .i64 (w64 (x1.gen + 1))), (67, .pointer (some ⟨b1, o1 + (Int.toNat s1.1) * 5, none⟩))] (obs := [.cell ⟨b1, o1 + (Int.toNat s1.1) * 5, none⟩ (.int .i64 x1.gen)]) ⟨SlRd.cells (sl_rd 244 pool_place_slots_heap.enc 5 _ _ _) pool_place_slots_heap.enc_ok H 1 rfl hs1 ex1 0 _ rfl, trivial⟩ fun a hE => ?_
 refine WR.eff0 hE rfl rfl rfl (OpTo.storeSl (q := 0) (x' := (pool_place_slots_heap.mk (w64 (x1.gen + 1)) x1.taken x1.v_)) hE H.t1 pool_place_slots_heap.enc_ok rfl hs1 ex1 rfl rfl rfl rfl rfl (Nat.le_of_ble_eq_true rfl) rfl) ?_
 rintro _ w H a hE
 rw [← mSet_len s1.2.l s1.1 (pool_place_slots_heap.mk (w64 (x1.gen + 1)) x1.taken x1.v_)] at H
 refine WR.done rfl ?_
 refine Runs.seq ?_
 refine Runs.drawn mixed (by kernel_rfl) ?_
 replace H := H.drew
 refine WQ.d hE [0, 1, 2, 3, 4] [.int .i64 v_.kind, .int .i64 v_.root, .int .i64 v_.n] [(69, .pointer (some ⟨b1, o1 + (Int.toNat s1.1) * 5, none⟩)), (70, .agg #[.int .i64 v_.kind, .int .i64 v_.root, .int .i64 v_.n]), (72, .pointer (some ⟨b1, o1 + (Int.toNat s1.1) * 5 + 1, none⟩))] (obs := [.cell ⟨r, 0, none⟩ (.int .i64 v_.kind), .cell ⟨r, 1, none⟩ (.int .i64 v_.root), .cell ⟨r, 2, none⟩ (.int .i64 v_.n)]) ⟨H.cell 4 rfl rfl, H.cell 4 rfl rfl, H.cell 4 rfl rfl, trivial⟩ fun a hE => ?_
 refine WQ.eff0 (j := 5) (obs := [.cell ⟨r, 0, none⟩ (.int .i64 v_.kind), .cell ⟨r, 1, none⟩ (.int .i64 v_.root), .cell ⟨r, 2, none⟩ (.int .i64 v_.n)]) hE (by kernel_rfl) rfl rfl rfl (by kernel_rfl) (OpTo.storeSl (q := 1) (x' := (pool_place_slots_heap.mk (w64 (x1.gen + 1)) true x1.v_)) hE H pool_place_slots_heap.enc_ok rfl hs1 (mSet_at ex1) rfl rfl rfl rfl rfl (Nat.le_of_ble_eq_true rfl) rfl) ?_
 rintro _ w H
 rw [← mSet_len (mSet s1.2.l s1.1 (pool_place_slots_heap.mk (w64 (x1.gen + 1)) x1.taken x1.v_)) s1.1 (pool_place_slots_heap.mk (w64 (x1.gen + 1)) true x1.v_)] at H
 refine ⟨⟨H.cell 4 rfl rfl, H.cell 4 rfl rfl, H.cell 4 rfl rfl, trivial⟩, fun a hE => ?_⟩
 refine WQ.d0 hE [6, 7] [(74, .pointer (some ⟨b1, o1 + (Int.toNat s1.1) * 5 + 2, none⟩))] fun a hE => ?_
 refine WQ.eff0 (j := 8) (obs := []) hE (by kernel_rfl) rfl rfl rfl (by kernel_rfl) (OpTo.storeSl (q := 2) (x' := (pool_place_slots_heap.mk (w64 (x1.gen + 1)) true v_)) hE H pool_place_slots_heap.enc_ok rfl hs1 (mSet_at (mSet_at ex1)) rfl rfl rfl rfl rfl (Nat.le_of_ble_eq_true rfl) rfl) ?_
 rintro _ w H
 rw [← mSet_len (mSet (mSet s1.2.l s1.1 (pool_place_slots_heap.mk (w64 (x1.gen + 1)) x1.taken x1.v_)) s1.1 (pool_place_slots_heap.mk (w64 (x1.gen + 1)) true x1.v_)) s1.1 (pool_place_slots_heap.mk (w64 (x1.gen + 1)) true v_)] at H
 refine ⟨trivial, fun a hE => ?_⟩
 refine WQ.done (by kernel_rfl) ?_
 refine Runs.sr ?_
 refine WR.d hE 6 [.int .i64 (w64 (x1.gen + 1))] [(80, .agg #[.int .i64 s1.1, .int .i64 (w64 (x1.gen + 1))])] (obs := [.cell ⟨b1, o1 + (Int.toNat s1.1) * 5, none⟩ (.int .i64 (w64 (x1.gen + 1)))]) ⟨SlRd.cells (sl_rd 244 pool_place_slots_heap.enc 5 _ _ _) pool_place_slots_heap.enc_ok H 0 rfl hs1 (mSet_at (mSet_at (mSet_at ex1))) 0 _ rfl, trivial⟩ fun a hE => ?_
 refine WR.eff0 hE rfl rfl rfl (OpTo.store hE H.t3 rfl rfl rfl rfl rfl rfl (Nat.le_of_ble_eq_true rfl)) ?_
 rintro _ w H a hE
 refine WR.e0 hE [(5, .bool true)] fun a hE => ?_
 refine Runs.retO (vs := [.agg #[.int .i64 s1.1, .int .i64 (w64 (x1.gen + 1))], .bool true]) (obs := [.cell ⟨r1, 0, none⟩ (.int .i64 s1.1), .cell ⟨r1, 1, none⟩ (.int .i64 (w64 (x1.gen + 1)))]) hE Tryz.func105 rfl [.int .i64 s1.1, .int .i64 (w64 (x1.gen + 1))] (by kernel_rfl) ⟨H.cell 0 rfl rfl, H.cell 0 rfl rfl, trivial⟩ ?_
 replace H := pool_Pool_slots_heap.shut (pool_Pool_slots_heap.A.mk z z1 z2 z3) (pool_Pool_slots_heap.mk s1.2.most (mSet (mSet (mSet s1.2.l s1.1 (pool_place_slots_heap.mk (w64 (x1.gen + 1)) x1.taken x1.v_)) s1.1 (pool_place_slots_heap.mk (w64 (x1.gen + 1)) true x1.v_)) s1.1 (pool_place_slots_heap.mk (w64 (x1.gen + 1)) true v_)) s1.2.free) H.t3.t2.t3
 cases hm
 exact ⟨z, z1, z2, z3, rfl, H.x2.x1⟩

theorem slots_Table_Make_ok {w0 w : World} {As : List HP} {p_t_ : Nat} {al_t_ : slots_Table.A} {t_ : slots_Table} {k_ : Int} {t : api_Ref × Int × slots_Table}  (hm : slots_Table_Make t_ k_ = some t) (H : St w0 (slots_Table.R p_t_ al_t_ t_ :: As) w) :
    CallsR Tryz.prog 76 #[.pointer (some ⟨p_t_, 0, none⟩), .int .i64 k_] w fun v w' => ∃ (z_t__heaps_a : pool_Pool_slots_heap.A), v = .tuple #[.agg #[.int .i64 t.1.At, .int .i64 t.1.Gen], .int .i64 t.2.1] ∧ St w0 (slots_Table.R p_t_ (slots_Table.A.mk al_t_.heaps_p z_t__heaps_a al_t_.items_p al_t_.items_a al_t_.at__p) t.2.2 :: As) w' := by
 rw [slots_Table_Make] at hm
 refine enter (args := [.pointer (some ⟨p_t_, 0, none⟩), .int .i64 k_]) Tryz.func76 rfl rfl rfl fun a hE => ?_
 refine Runs.sr ?_
 refine WR.eff hE rfl rfl rfl rfl (OpTo.new hE H [] (.cells #[.int .i64 0, .int .i64 0] 31 (0, 0)) (fun r => .pointer (some ⟨r, 0, none⟩)) (obs := []) rfl (fun _ => by kernel_rfl) trivial) ?_
 rintro _ w ⟨r, rfl, H⟩ a hE
 refine WR.seg hE 2 [] [0, 1, 4] (Lo := [(0, .pointer (some ⟨p_t_, 0, none⟩)), (1, .int .i64 k_), (4, .pointer (some ⟨r, 0, none⟩))]) (obs := []) rfl (by kernel_rfl) trivial fun a hE => ?_
 refine WR.done rfl ?_
 refine Runs.seq ?_
 refine Runs.sr ?_
 refine WR.d0 hE 1 [(8, .int .i64 k_)] fun a hE => ?_
 obtain ⟨t_1, et_1, hm⟩ := bind_some hm
 refine WR.eff hE rfl rfl rfl rfl (OpTo.fn hE rfl rfl Tryz.call104 (kind_Right_ok et_1 H)) ?_
 rintro _ w ⟨rfl, H⟩ a hE
 refine WR.e0 hE [(10, .bool (!t_1))] fun a hE => ?_
 refine Runs.cond hE rfl (fun c => ?_) (fun c => ?_)
 ·replace hm := cond_t c hm
  refine Runs.sr ?_
  refine WR.d0 hE 1 [(11, .agg #[.int .i64 0, .int .i64 0])] fun a hE => ?_
  refine WR.eff0 hE rfl rfl rfl (OpTo.store hE H rfl rfl rfl rfl rfl rfl (Nat.le_of_ble_eq_true rfl)) ?_
  rintro _ w H a hE
  refine WR.e0 hE [(5, .int .i64 24)] fun a hE => ?_
  refine Runs.retO (vs := [.agg #[.int .i64 0, .int .i64 0], .int .i64 24]) (obs := [.cell ⟨r, 0, none⟩ (.int .i64 0), .cell ⟨r, 1, none⟩ (.int .i64 0)]) hE Tryz.func76 rfl [.int .i64 0, .int .i64 0] (by kernel_rfl) ⟨H.cell 0 rfl rfl, H.cell 0 rfl rfl, trivial⟩ ?_
  cases hm
  exact ⟨al_t_.heaps_a, rfl, H.x0⟩
 ·replace hm := cond_f c hm
  refine Runs.skip ?_
  refine Runs.sr ?_
  replace H := slots_Table.open H.t1
  refine WR.d hE 6 [.pointer (some ⟨al_t_.heaps_p, 0, none⟩)] [(16, .pointer (some ⟨al_t_.heaps_p, 0, none⟩)), (18, .agg #[.int .i64 k_, .int .i64 (-1), .int .i64 0])] (obs := [.cell ⟨p_t_, 0, none⟩ (.pointer (some ⟨al_t_.heaps_p, 0, none⟩))]) ⟨H.cell 0 rfl rfl, trivial⟩ fun a hE => ?_
  obtain ⟨t_2, et_2, hm⟩ := bind_some hm
  have hC_ := pool_Pool_slots_heap_Take_ok et_2 H.t1
  try dsimp only at hC_
  refine WR.eff hE rfl rfl rfl rfl (OpTo.fn hE rfl rfl Tryz.call105 hC_) ?_
  rintro _ w ⟨z, z1, z2, z3, rfl, H⟩ a hE
  refine WR.d0 hE 10 [(20, .agg #[.int .i64 t_2.1.At, .int .i64 t_2.1.Gen]), (21, .bool t_2.2.1)] fun a hE => ?_
  refine WR.eff hE rfl rfl rfl rfl (OpTo.new hE H [] (.cells #[.int .i64 0, .int .i64 0] 31 (0, 0)) (fun r => .pointer (some ⟨r, 0, none⟩)) (obs := []) rfl (fun _ => by kernel_rfl) trivial) ?_
  rintro _ w ⟨r1, rfl, H⟩ a hE
  refine WR.eff0 hE rfl rfl rfl (OpTo.store hE H rfl rfl rfl rfl rfl rfl (Nat.le_of_ble_eq_true rfl)) ?_
  rintro _ w H a hE
  refine WR.e0 hE [(7, .bool t_2.2.1)] fun a hE => ?_
  refine Runs.seq ?_
  refine Runs.sr ?_
  refine WR.e0 hE [(23, .bool (!t_2.2.1))] fun a hE => ?_
  refine Runs.cond hE rfl (fun c => ?_) (fun c => ?_)
  ·replace hm := cond_t c hm
   refine Runs.sr ?_
   refine WR.d0 hE 1 [(24, .agg #[.int .i64 0, .int .i64 0])] fun a hE => ?_
   refine WR.eff0 hE rfl rfl rfl (OpTo.store hE H.t5 rfl rfl rfl rfl rfl rfl (Nat.le_of_ble_eq_true rfl)) ?_
   rintro _ w H a hE
   refine WR.e0 hE [(5, .int .i64 13)] fun a hE => ?_
   refine Runs.retO (vs := [.agg #[.int .i64 0, .int .i64 0], .int .i64 13]) (obs := [.cell ⟨r, 0, none⟩ (.int .i64 0), .cell ⟨r, 1, none⟩ (.int .i64 0)]) hE Tryz.func76 rfl [.int .i64 0, .int .i64 0] (by kernel_rfl) ⟨H.cell 0 rfl rfl, H.cell 0 rfl rfl, trivial⟩ ?_
   replace H := slots_Table.shut (slots_Table.A.mk al_t_.heaps_p (pool_Pool_slots_heap.A.mk z z1 z2 z3) al_t_.items_p al_t_.items_a al_t_.at__p) (slots_Table.mk t_2.2.2 t_.items t_.at_) H.t5.t5.t4.t5
   cases hm
   exact ⟨pool_Pool_slots_heap.A.mk z z1 z2 z3, rfl, H.x2.x1⟩
  ·replace hm := cond_f c hm
   refine Runs.skip ?_
   refine Runs.sr ?_
   refine WR.d hE 1 [.int .i64 t_2.1.At, .int .i64 t_2.1.Gen] [(25, .agg #[.int .i64 t_2.1.At, .int .i64 t_2.1.Gen])] (obs := [.cell ⟨r1, 0, none⟩ (.int .i64 t_2.1.At), .cell ⟨r1, 1, none⟩ (.int .i64 t_2.1.Gen)]) ⟨H.cell 0 rfl rfl, H.cell 0 rfl rfl, trivial⟩ fun a hE => ?_
   refine WR.eff0 hE rfl rfl rfl (OpTo.store hE H.t5 rfl rfl rfl rfl rfl rfl (Nat.le_of_ble_eq_true rfl)) ?_
   rintro _ w H a hE
   refine WR.e0 hE [(5, .int .i64 0)] fun a hE => ?_
   refine Runs.retO (vs := [.agg #[.int .i64 t_2.1.At, .int .i64 t_2.1.Gen], .int .i64 0]) (obs := [.cell ⟨r, 0, none⟩ (.int .i64 t_2.1.At), .cell ⟨r, 1, none⟩ (.int .i64 t_2.1.Gen)]) hE Tryz.func76 rfl [.int .i64 t_2.1.At, .int .i64 t_2.1.Gen] (by kernel_rfl) ⟨H.cell 0 rfl rfl, H.cell 0 rfl rfl, trivial⟩ ?_
   replace H := slots_Table.shut (slots_Table.A.mk al_t_.heaps_p (pool_Pool_slots_heap.A.mk z z1 z2 z3) al_t_.items_p al_t_.items_a al_t_.at__p) (slots_Table.mk t_2.2.2 t_.items t_.at_) H.t5.t5.t4.t5
   cases hm
   exact ⟨pool_Pool_slots_heap.A.mk z z1 z2 z3, rfl, H.x2.x1⟩

theorem pq_Queues_insert_ok {w0 w : World} {As : List HP} {p_q : Nat} {al_q : pq_Queues.A} {q : pq_Queues} {c_ : api_Call} {t : api_Answer}  (hm : pq_Queues_insert q c_ = some t) (H : St w0 (pq_Queues.R p_q al_q q :: As) w) :
    CallsR Tryz.prog 77 #[.pointer (some ⟨p_q, 0, none⟩), .agg #[.int .i64 c_.Op, .int .i64 c_.Kind, .int .i64 c_.Heap.At, .int .i64 c_.Heap.Gen, .int .i64 c_.Other.At, .int .i64 c_.Other.Gen, .int .i64 c_.Item.At, .int .i64 c_.Item.Gen, .int .i64 c_.Key]] w fun v w' => v = .agg #[.int .i64 t.Why, .int .i64 t.Heap.At, .int .i64 t.Heap.Gen, .int .i64 t.Item.At, .int .i64 t.Item.Gen, .int .i64 t.Entry.Key, .int .i64 t.Entry.Serial, .int .i64 t.N] ∧ St w0 (pq_Queues.R p_q al_q q :: As) w' := by
  rw [pq_Queues_insert] at hm
  cases hm

theorem pool_Pool_slots_heap_find_ok {w0 w : World} {As : List HP} {p_p : Nat} {al_p : pool_Pool_slots_heap.A} {p : pool_Pool_slots_heap} {r : api_Ref} {t : (Option Int) × Int}  (hm : pool_Pool_slots_heap_find p r = some t) (H : St w0 (pool_Pool_slots_heap.R p_p al_p p :: As) w) :
    CallsR Tryz.prog 182 #[.pointer (some ⟨p_p, 0, none⟩), .agg #[.int .i64 r.At, .int .i64 r.Gen]] w fun v w' => v = .tuple #[elemV al_p.l_b 5 t.1, .int .i64 t.2] ∧ St w0 (pool_Pool_slots_heap.R p_p al_p p :: As) w' := by
 rw [pool_Pool_slots_heap_find] at hm
 refine enter (args := [.pointer (some ⟨p_p, 0, none⟩), .agg #[.int .i64 r.At, .int .i64 r.Gen]]) Tryz.func182 rfl rfl rfl fun a hE => ?_
 refine Runs.sr ?_
 refine WR.eff hE rfl rfl rfl rfl (OpTo.new hE H [] (.cells #[.int .i64 r.At, .int .i64 r.Gen] 31 (0, 0)) (fun r => .pointer (some ⟨r, 0, none⟩)) (obs := []) rfl (fun _ => by kernel_rfl) trivial) ?_
 rintro _ w ⟨r1, rfl, H⟩ a hE
 refine WR.seg hE 3 [] [0, 3] (Lo := [(0, .pointer (some ⟨p_p, 0, none⟩)), (3, .pointer (some ⟨r1, 0, none⟩))]) (obs := []) rfl (by kernel_rfl) trivial fun a hE => ?_
 refine WR.done rfl ?_
 refine Runs.seq ?_
 refine Runs.seq ?_
 obtain ⟨s, es, hm⟩ := bind_some hm
 refine Runs.join (fun a w => EnvOk 61 a [(0, .pointer (some ⟨p_p, 0, none⟩)), (3, .pointer (some ⟨r1, 0, none⟩)), (38, .bool s)] ∧ St w0 (Blk r1 31 [.int .i64 r.At, .int .i64 r.Gen] :: pool_Pool_slots_heap.R p_p al_p p :: As) w) (fun hk => ?_) ?_
 ·replace hm := es; clear es
  refine Runs.drawn mixed (by kernel_rfl) ?_
  replace H := H.drew
  refine WQ.d hE [0, 1, 2, 3] [.int .i64 r.At] [(10, .bool (decide (r.At < 0)))] (obs := [.cell ⟨r1, 0, none⟩ (.int .i64 r.At)]) ⟨H.cell 0 rfl rfl, trivial⟩ fun a hE => ?_
  rcases Bool.eq_false_or_eq_true (decide (r.At < 0)) with c | c
  ·replace hE := hE.dec 10 c (by kernel_rfl)
   replace hm := cond_t c hm
   have c_ := c
   refine WQ.d0 hE [4, 5, 6, 7, 8, 9, 10, 11, 12, 13, 14, 15, 16, 17, 18, 19, 20, 21, 22, 23, 24, 25, 26, 27, 28, 29, 30, 31] [(38, .bool true)] fun a hE => ?_
   refine WQ.done (by kernel_rfl) ?_
   cases hm
   exact hk _ _ ⟨hE.sel [0, 3, 38] (by kernel_rfl), H.t1.t1⟩
  ·replace hE := hE.dec 10 c (by kernel_rfl)
   replace hm := cond_f c hm
   have c_1 := c
   replace H := pool_Pool_slots_heap.open H.t1
   refine WQ.d hE [4, 5, 6, 7, 8, 9, 10, 11, 12, 13] [.int .i64 r.At, .slice al_p.l_b p.l.length al_p.l_c] [(20, .bool (decide (r.At ≥ (p.l.length : Int))))] (obs := [.cell ⟨r1, 0, none⟩ (.int .i64 r.At), .cell ⟨p_p, 1, none⟩ (.slice al_p.l_b p.l.length al_p.l_c)]) ⟨H.cell 3 rfl rfl, H.cell 0 rfl rfl, trivial⟩ fun a hE => ?_
   rcases Bool.eq_false_or_eq_true (decide (r.At ≥ (p.l.length : Int))) with c | c
   ·replace hE := hE.dec 20 c (by kernel_rfl)
    replace hm := cond_t c hm
    have c_2 := c
    refine WQ.d0 hE [14, 15, 16, 17, 18, 19, 20, 21, 22, 23, 24, 25, 26, 27, 28, 29, 30, 31] [(38, .bool true)] fun a hE => ?_
    refine WQ.done (by kernel_rfl) ?_
    replace H := pool_Pool_slots_heap.shut al_p (p) H.t2.t2.t2
    cases hm
    exact hk _ _ ⟨hE.sel [0, 3, 38] (by kernel_rfl), H.t1⟩
   ·replace hE := hE.dec 20 c (by kernel_rfl)
    replace hm := cond_f c hm
    have c_3 := c
    refine WQ.d hE [14, 15, 16, 17, 18] [.int .i64 r.Gen] [(25, .bool (decide (r.Gen < 1)))] (obs := [.cell ⟨r1, 1, none⟩ (.int .i64 r.Gen)]) ⟨H.cell 3 rfl rfl, trivial⟩ fun a hE => ?_
    rcases Bool.eq_false_or_eq_true (decide (r.Gen < 1)) with c | c
    ·replace hE := hE.dec 25 c (by kernel_rfl)
     replace hm := cond_t c hm
     have c_4 := c
     refine WQ.d0 hE [19, 20, 21, 22, 23, 24, 25, 26, 27, 28, 29, 30, 31] [(38, .bool true)] fun a hE => ?_
     refine WQ.done (by kernel_rfl) ?_
     replace H := pool_Pool_slots_heap.shut al_p (p) H.t2.t2.t2
     cases hm
     exact hk _ _ ⟨hE.sel [0, 3, 38] (by kernel_rfl), H.t1⟩
    ·replace hE := hE.dec 25 c (by kernel_rfl)
     replace hm := cond_f c hm
     have c_5 := c
     obtain ⟨x1, ex1, hm⟩ := bind_some hm
     obtain ⟨b1, o1, hs1, hb1⟩ := SlRd.base (sl_rd 244 pool_place_slots_heap.enc 5 _ _ _) pool_place_slots_heap.enc_ok H 1 rfl ex1
     refine WQ.d hE [19, 20, 21, 22, 23, 24, 25, 26, 27, 28, 29, 30, 31] [.int .i64 r.Gen, .slice al_p.l_b p.l.length al_p.l_c, .int .i64 r.At, .pointer (some ⟨b1, o1, none⟩), .int .i64 x1.gen] [(38, .bool (decide (r.Gen > x1.gen)))] (obs := [.cell ⟨r1, 1, none⟩ (.int .i64 r.Gen), .cell ⟨p_p, 1, none⟩ (.slice al_p.l_b p.l.length al_p.l_c), .cell ⟨r1, 0, none⟩ (.int .i64 r.At), .p ((al_p.l_b : Option Addr) = some ⟨b1, o1, none⟩), .p (0 ≤ (r.At : Int) ∧ (r.At : Int) < ((p.l.length : Nat) : Int)), .cell ⟨b1, o1 + (Int.toNat r.At) * 5, none⟩ (.int .i64 x1.gen)]) ⟨H.cell 3 rfl rfl, H.cell 0 rfl rfl, H.cell 3 rfl rfl, hs1, hb1, SlRd.cells (sl_rd 244 pool_place_slots_heap.enc 5 _ _ _) pool_place_slots_heap.enc_ok H 1 rfl hs1 ex1 0 _ rfl, trivial⟩ fun a hE => ?_
     refine WQ.done (by kernel_rfl) ?_
     replace H := pool_Pool_slots_heap.shut al_p (p) H.t2.t2.t2
     cases hm
     exact hk _ _ ⟨hE.sel [0, 3, 38] (by kernel_rfl), H.t1⟩
 rintro a w ⟨hE, H⟩
 refine Runs.cond hE rfl (fun c => ?_) (fun c => ?_)
 ·replace hm := cond_t c hm
  refine Runs.sr ?_
  refine WR.seg hE 2 [] [4, 5] (Lo := [(4, .pointer none), (5, .int .i64 22)]) (obs := []) rfl (by kernel_rfl) trivial fun a hE => ?_
  refine WR.done rfl ?_
  refine Runs.ret hE Tryz.func182 rfl rfl ?_
  cases hm
  exact ⟨rfl, H.x0⟩
 ·replace hm := cond_f c hm
  refine Runs.skip ?_
  refine Runs.seq ?_
  refine Runs.drawn mixed (by kernel_rfl) ?_
  replace H := H.drew
  replace H := pool_Pool_slots_heap.open H.t1
  obtain ⟨x2, ex2, hm⟩ := bind_some hm
  obtain ⟨b2, o2, hs2, hb2⟩ := SlRd.base (sl_rd 244 pool_place_slots_heap.enc 5 _ _ _) pool_place_slots_heap.enc_ok H 1 rfl ex2
  refine WQ.seg hE [0, 1, 2, 3, 4, 5, 6, 7] [.slice al_p.l_b p.l.length al_p.l_c, .int .i64 r.At, .pointer (some ⟨b2, o2, none⟩)] [3, 6] (Lo := [(3, .pointer (some ⟨r1, 0, none⟩)), (6, .pointer (some ⟨b2, o2 + (Int.toNat r.At) * 5, none⟩))]) (obs := [.cell ⟨p_p, 1, none⟩ (.slice al_p.l_b p.l.length al_p.l_c), .cell ⟨r1, 0, none⟩ (.int .i64 r.At), .p ((al_p.l_b : Option Addr) = some ⟨b2, o2, none⟩), .p (0 ≤ (r.At : Int) ∧ (r.At : Int) < ((p.l.length : Nat) : Int))]) (by kernel_rfl) (by kernel_rfl) ⟨H.cell 0 rfl rfl, H.cell 3 rfl rfl, hs2, hb2, trivial⟩ fun a hE => ?_
  refine WQ.done (by kernel_rfl) ?_
  refine Runs.seq ?_
  refine Runs.seq ?_
  refine Runs.join (fun a w => EnvOk 61 a [(6, .pointer (some ⟨b2, o2 + (Int.toNat r.At) * 5, none⟩)), (59, .bool ((decide (r.Gen < x2.gen)) || (!x2.taken)))] ∧ St w0 (Blk p_p 239 [.int .i64 p.most, .slice al_p.l_b p.l.length al_p.l_c, .slice al_p.free_b p.free.length al_p.free_c] :: Sl 244 pool_place_slots_heap.enc 5 al_p.l_b al_p.l_c p.l :: Sl 3 ecI 1 al_p.free_b al_p.free_c p.free :: Blk r1 31 [.int .i64 r.At, .int .i64 r.Gen] :: As) w) (fun hk => ?_) ?_
  ·clear hm
   refine Runs.drawn mixed (by kernel_rfl) ?_
   replace H := H.drew
   refine WQ.d hE [0, 1, 2, 3, 4, 5, 6, 7] [.int .i64 r.Gen, .int .i64 x2.gen] [(53, .bool (decide (r.Gen < x2.gen)))] (obs := [.cell ⟨r1, 1, none⟩ (.int .i64 r.Gen), .cell ⟨b2, o2 + (Int.toNat r.At) * 5, none⟩ (.int .i64 x2.gen)]) ⟨H.cell 3 rfl rfl, SlRd.cells (sl_rd 244 pool_place_slots_heap.enc 5 _ _ _) pool_place_slots_heap.enc_ok H 1 rfl hs2 ex2 0 _ rfl, trivial⟩ fun a hE => ?_
   rcases Bool.eq_false_or_eq_true (decide (r.Gen < x2.gen)) with c | c
   ·replace hE := hE.dec 53 c (by kernel_rfl)
    have c_6 := c
    refine WQ.d0 hE [8, 9, 10, 11, 12, 13] [(59, .bool true)] fun a hE => ?_
    refine WQ.done (by kernel_rfl) ?_
    refine hk _ _ ⟨?_, H.t3.t3.t3.t3⟩
    try rw [c_6] at hE
    try rw [c_6]
    exact hE.sel [6, 59] (by kernel_rfl)
   ·replace hE := hE.dec 53 c (by kernel_rfl)
    have c_7 := c
    refine WQ.d hE [8, 9, 10, 11, 12, 13] [.bool x2.taken] [(59, .bool (!x2.taken))] (obs := [.cell ⟨b2, o2 + (Int.toNat r.At) * 5 + 1, none⟩ (.bool x2.taken)]) ⟨SlRd.cells (sl_rd 244 pool_place_slots_heap.enc 5 _ _ _) pool_place_slots_heap.enc_ok H 1 rfl hs2 ex2 1 _ rfl, trivial⟩ fun a hE => ?_
    refine WQ.done (by kernel_rfl) ?_
    refine hk _ _ ⟨?_, H.t3.t3.t3.t3⟩
    try rw [c_7] at hE
    try rw [c_7]
    exact hE.sel [6, 59] (by kernel_rfl)
  rintro a w ⟨hE, H⟩
  refine Runs.cond hE rfl (fun c => ?_) (fun c => ?_)
  ·replace hm := cond_t c hm
   refine Runs.sr ?_
   refine WR.seg hE 2 [] [4, 5] (Lo := [(4, .pointer none), (5, .int .i64 23)]) (obs := []) rfl (by kernel_rfl) trivial fun a hE => ?_
   refine WR.done rfl ?_
   replace H := pool_Pool_slots_heap.shut al_p (p) H.t2.t2.t2
   refine Runs.ret hE Tryz.func182 rfl rfl ?_
   cases hm
   exact ⟨rfl, H.x1⟩
  ·replace hm := cond_f c hm
   refine Runs.skip ?_
   refine Runs.sr ?_
   refine WR.seg hE 3 [] [4, 5] (Lo := [(4, .pointer (some ⟨b2, o2 + (Int.toNat r.At) * 5, none⟩)), (5, .int .i64 0)]) (obs := []) rfl (by kernel_rfl) trivial fun a hE => ?_
   refine WR.done rfl ?_
   replace H := pool_Pool_slots_heap.shut al_p (p) H.t2.t2.t2
   refine Runs.ret hE Tryz.func182 rfl rfl ?_
   cases hm
   exact ⟨(by simp only [elemV_some hs2]; try rfl), H.x1⟩

theorem pool_Pool_slots_heap_Get_ok {w0 w : World} {As : List HP} {p_p : Nat} {al_p : pool_Pool_slots_heap.A} {p : pool_Pool_slots_heap} {r : api_Ref} {t : slots_heap × Int}  (hm : pool_Pool_slots_heap_Get p r = some t) (H : St w0 (pool_Pool_slots_heap.R p_p al_p p :: As) w) :
    CallsR Tryz.prog 122 #[.pointer (some ⟨p_p, 0, none⟩), .agg #[.int .i64 r.At, .int .i64 r.Gen]] w fun v w' => v = .tuple #[.agg #[.int .i64 t.1.kind, .int .i64 t.1.root, .int .i64 t.1.n], .int .i64 t.2] ∧ St w0 (pool_Pool_slots_heap.R p_p al_p p :: As) w' := by
 rw [pool_Pool_slots_heap_Get] at hm
 refine enter (args := [.pointer (some ⟨p_p, 0, none⟩), .agg #[.int .i64 r.At, .int .i64 r.Gen]]) Tryz.func122 rfl rfl rfl fun a hE => ?_
 refine Runs.sr ?_
 refine WR.eff hE rfl rfl rfl rfl (OpTo.new hE H [] (.cells #[.int .i64 r.At, .int .i64 r.Gen] 31 (0, 0)) (fun r => .pointer (some ⟨r, 0, none⟩)) (obs := []) rfl (fun _ => by kernel_rfl) trivial) ?_
 rintro _ w ⟨r1, rfl, H⟩ a hE
 refine WR.eff hE rfl rfl rfl rfl (OpTo.new hE H [] (.cells #[.int .i64 0, .int .i64 0, .int .i64 0] 191 (0, 0)) (fun r => .pointer (some ⟨r, 0, none⟩)) (obs := []) rfl (fun _ => by kernel_rfl) trivial) ?_
 rintro _ w ⟨r2, rfl, H⟩ a hE
 refine WR.seg hE 3 [] [0, 3, 4] (Lo := [(0, .pointer (some ⟨p_p, 0, none⟩)), (3, .pointer (some ⟨r1, 0, none⟩)), (4, .pointer (some ⟨r2, 0, none⟩))]) (obs := []) rfl (by kernel_rfl) trivial fun a hE => ?_
 refine WR.done rfl ?_
 refine Runs.sr ?_
 refine WR.d hE 2 [.int .i64 r.At, .int .i64 r.Gen] [(10, .pointer (some ⟨p_p, 0, none⟩)), (11, .agg #[.int .i64 r.At, .int .i64 r.Gen])] (obs := [.cell ⟨r1, 0, none⟩ (.int .i64 r.At), .cell ⟨r1, 1, none⟩ (.int .i64 r.Gen)]) ⟨H.cell 1 rfl rfl, H.cell 1 rfl rfl, trivial⟩ fun a hE => ?_
 obtain ⟨t_, et_, hm⟩ := bind_some hm
 refine WR.eff hE rfl rfl rfl rfl (OpTo.fn hE rfl rfl Tryz.call182 (pool_Pool_slots_heap_find_ok et_ H.t2)) ?_
 rintro _ w ⟨rfl, H⟩ a hE
 rcases ho : t_.1 with _ | i
 ·replace hm := case_n ho hm
  rw [ho] at hE
  refine WR.seg hE 8 [] [4, 6, 7] (Lo := [(4, .pointer (some ⟨r2, 0, none⟩)), (6, .pointer none), (7, .int .i64 t_.2)]) (obs := []) rfl (by kernel_rfl) trivial fun a hE => ?_
  refine WR.done rfl ?_
  refine Runs.seq ?_
  refine Runs.sr ?_
  refine WR.e0 hE [(16, .bool (t_.2 != 0))] fun a hE => ?_
  refine Runs.cond hE rfl (fun c => ?_) (fun c => ?_)
  ·replace hm := cond_t c hm
   refine Runs.sr ?_
   refine WR.eff hE rfl rfl rfl rfl (OpTo.new hE H [] (.cells #[.int .i64 0, .int .i64 0, .int .i64 0] 191 (0, 0)) (fun r => .pointer (some ⟨r, 0, none⟩)) (obs := []) rfl (fun _ => by kernel_rfl) trivial) ?_
   rintro _ w ⟨r3, rfl, H⟩ a hE
   refine WR.done rfl ?_
   refine Runs.sr ?_
   refine WR.d hE 2 [.int .i64 0, .int .i64 0, .int .i64 0] [(17, .agg #[.int .i64 0, .int .i64 0, .int .i64 0]), (18, .int .i64 t_.2)] (obs := [.cell ⟨r3, 0, none⟩ (.int .i64 0), .cell ⟨r3, 1, none⟩ (.int .i64 0), .cell ⟨r3, 2, none⟩ (.int .i64 0)]) ⟨H.cell 0 rfl rfl, H.cell 0 rfl rfl, H.cell 0 rfl rfl, trivial⟩ fun a hE => ?_
   refine WR.eff0 hE rfl rfl rfl (OpTo.store hE H.t2 rfl rfl rfl rfl rfl rfl (Nat.le_of_ble_eq_true rfl)) ?_
   rintro _ w H a hE
   refine WR.e0 hE [(5, .int .i64 t_.2)] fun a hE => ?_
   refine Runs.retO (vs := [.agg #[.int .i64 0, .int .i64 0, .int .i64 0], .int .i64 t_.2]) (obs := [.cell ⟨r2, 0, none⟩ (.int .i64 0), .cell ⟨r2, 1, none⟩ (.int .i64 0), .cell ⟨r2, 2, none⟩ (.int .i64 0)]) hE Tryz.func122 rfl [.int .i64 0, .int .i64 0, .int .i64 0] (by kernel_rfl) ⟨H.cell 0 rfl rfl, H.cell 0 rfl rfl, H.cell 0 rfl rfl, trivial⟩ ?_
   cases hm
   exact ⟨rfl, H.x3.x1.x0⟩
  ·replace hm := cond_f c hm
   refine Runs.skip ?_
   refine Runs.sr ?_
   cases hm
 ·replace hm := case_s ho hm
  replace H := pool_Pool_slots_heap.open H
  obtain ⟨x, ex, hm⟩ := bind_some hm
  obtain ⟨b, o, hs, hb⟩ := SlRd.base (sl_rd 244 pool_place_slots_heap.enc 5 _ _ _) pool_place_slots_heap.enc_ok H 1 rfl ex
  rw [ho, elemV_some hs] at hE
  refine WR.seg hE 8 [] [4, 6, 7] (Lo := [(4, .pointer (some ⟨r2, 0, none⟩)), (6, .pointer (some ⟨b, o + (Int.toNat i) * 5, none⟩)), (7, .int .i64 t_.2)]) (obs := []) rfl (by kernel_rfl) trivial fun a hE => ?_
  refine WR.done rfl ?_
  refine Runs.seq ?_
  refine Runs.sr ?_
  refine WR.e0 hE [(16, .bool (t_.2 != 0))] fun a hE => ?_
  refine Runs.cond hE rfl (fun c => ?_) (fun c => ?_)
  ·replace hm := cond_t c hm
   refine Runs.sr ?_
   refine WR.eff hE rfl rfl rfl rfl (OpTo.new hE H [] (.cells #[.int .i64 0, .int .i64 0, .int .i64 0] 191 (0, 0)) (fun r => .pointer (some ⟨r, 0, none⟩)) (obs := []) rfl (fun _ => by kernel_rfl) trivial) ?_
   rintro _ w ⟨r4, rfl, H⟩ a hE
   refine WR.done rfl ?_
   refine Runs.sr ?_
   refine WR.d hE 2 [.int .i64 0, .int .i64 0, .int .i64 0] [(17, .agg #[.int .i64 0, .int .i64 0, .int .i64 0]), (18, .int .i64 t_.2)] (obs := [.cell ⟨r4, 0, none⟩ (.int .i64 0), .cell ⟨r4, 1, none⟩ (.int .i64 0), .cell ⟨r4, 2, none⟩ (.int .i64 0)]) ⟨H.cell 0 rfl rfl, H.cell 0 rfl rfl, H.cell 0 rfl rfl, trivial⟩ fun a hE => ?_
   refine WR.eff0 hE rfl rfl rfl (OpTo.store hE H.t4 rfl rfl rfl rfl rfl rfl (Nat.le_of_ble_eq_true rfl)) ?_
   rintro _ w H a hE
   refine WR.e0 hE [(5, .int .i64 t_.2)] fun a hE => ?_
   refine Runs.retO (vs := [.agg #[.int .i64 0, .int .i64 0, .int .i64 0], .int .i64 t_.2]) (obs := [.cell ⟨r2, 0, none⟩ (.int .i64 0), .cell ⟨r2, 1, none⟩ (.int .i64 0), .cell ⟨r2, 2, none⟩ (.int .i64 0)]) hE Tryz.func122 rfl [.int .i64 0, .int .i64 0, .int .i64 0] (by kernel_rfl) ⟨H.cell 0 rfl rfl, H.cell 0 rfl rfl, H.cell 0 rfl rfl, trivial⟩ ?_
   replace H := pool_Pool_slots_heap.shut al_p (p) H.t4.t4.t4
   cases hm
   exact ⟨rfl, H.x3.x2.x1⟩
  ·replace hm := cond_f c hm
   refine Runs.skip ?_
   refine Runs.sr ?_
   refine WR.d hE 4 [.int .i64 x.v_.kind, .int .i64 x.v_.root, .int .i64 x.v_.n] [(22, .agg #[.int .i64 x.v_.kind, .int .i64 x.v_.root, .int .i64 x.v_.n])] (obs := [.cell ⟨b, o + (Int.toNat i) * 5 + 2, none⟩ (.int .i64 x.v_.kind), .cell ⟨b, o + (Int.toNat i) * 5 + 3, none⟩ (.int .i64 x.v_.root), .cell ⟨b, o + (Int.toNat i) * 5 + 4, none⟩ (.int .i64 x.v_.n)]) ⟨SlRd.cells (sl_rd 244 pool_place_slots_heap.enc 5 _ _ _) pool_place_slots_heap.enc_ok H 1 rfl hs ex 2 _ rfl, SlRd.cells (sl_rd 244 pool_place_slots_heap.enc 5 _ _ _) pool_place_slots_heap.enc_ok H 1 rfl hs ex 3 _ rfl, SlRd.cells (sl_rd 244 pool_place_slots_heap.enc 5 _ _ _) pool_place_slots_heap.enc_ok H 1 rfl hs ex 4 _ rfl, trivial⟩ fun a hE => ?_
   refine WR.eff0 hE rfl rfl rfl (OpTo.store hE H.t3 rfl rfl rfl rfl rfl rfl (Nat.le_of_ble_eq_true rfl)) ?_
   rintro _ w H a hE
   refine WR.e0 hE [(5, .int .i64 0)] fun a hE => ?_
   refine Runs.retO (vs := [.agg #[.int .i64 x.v_.kind, .int .i64 x.v_.root, .int .i64 x.v_.n], .int .i64 0]) (obs := [.cell ⟨r2, 0, none⟩ (.int .i64 x.v_.kind), .cell ⟨r2, 1, none⟩ (.int .i64 x.v_.root), .cell ⟨r2, 2, none⟩ (.int .i64 x.v_.n)]) hE Tryz.func122 rfl [.int .i64 x.v_.kind, .int .i64 x.v_.root, .int .i64 x.v_.n] (by kernel_rfl) ⟨H.cell 0 rfl rfl, H.cell 0 rfl rfl, H.cell 0 rfl rfl, trivial⟩ ?_
   replace H := pool_Pool_slots_heap.shut al_p (p) H.t3.t3.t3
   cases hm
   exact ⟨rfl, H.x2.x1⟩

theorem slots_Table_Heap_ok {w0 w : World} {As : List HP} {p_t_ : Nat} {al_t_ : slots_Table.A} {t_ : slots_Table} {h_ : api_Ref} {t : Int × Int × Int × Int}  (hm : slots_Table_Heap t_ h_ = some t) (H : St w0 (slots_Table.R p_t_ al_t_ t_ :: As) w) :
    CallsR Tryz.prog 82 #[.pointer (some ⟨p_t_, 0, none⟩), .agg #[.int .i64 h_.At, .int .i64 h_.Gen]] w fun v w' => v = .tuple #[.int .i64 t.1, .int .i64 t.2.1, .int .i64 t.2.2.1, .int .i64 t.2.2.2] ∧ St w0 (slots_Table.R p_t_ al_t_ t_ :: As) w' := by
 rw [slots_Table_Heap] at hm
 refine enter (args := [.pointer (some ⟨p_t_, 0, none⟩), .agg #[.int .i64 h_.At, .int .i64 h_.Gen]]) Tryz.func82 rfl rfl rfl fun a hE => ?_
 refine Runs.sr ?_
 refine WR.eff hE rfl rfl rfl rfl (OpTo.new hE H [] (.cells #[.int .i64 h_.At, .int .i64 h_.Gen] 31 (0, 0)) (fun r => .pointer (some ⟨r, 0, none⟩)) (obs := []) rfl (fun _ => by kernel_rfl) trivial) ?_
 rintro _ w ⟨r, rfl, H⟩ a hE
 refine WR.seg hE 5 [] [0, 3] (Lo := [(0, .pointer (some ⟨p_t_, 0, none⟩)), (3, .pointer (some ⟨r, 0, none⟩))]) (obs := []) rfl (by kernel_rfl) trivial fun a hE => ?_
 refine WR.done rfl ?_
 refine Runs.seq ?_
 obtain ⟨t_1, et_1, hm⟩ := bind_some hm
 refine Runs.join (fun a w => ∃ (r2 : Nat), EnvOk 26 a [(8, .pointer (some ⟨r2, 0, none⟩)), (9, .int .i64 t_1.2)] ∧ St w0 (Blk r2 191 [.int .i64 t_1.1.kind, .int .i64 t_1.1.root, .int .i64 t_1.1.n] :: slots_Table.R p_t_ al_t_ t_ :: As) w) (fun hk => ?_) ?_
 ·refine Runs.drawn mixed (by kernel_rfl) ?_
  replace H := H.drew
  replace H := slots_Table.open H.t1
  refine WQ.d hE [0, 1, 2, 3, 4] [.pointer (some ⟨al_t_.heaps_p, 0, none⟩), .int .i64 h_.At, .int .i64 h_.Gen] [(14, .pointer (some ⟨al_t_.heaps_p, 0, none⟩)), (15, .agg #[.int .i64 h_.At, .int .i64 h_.Gen])] (obs := [.cell ⟨p_t_, 0, none⟩ (.pointer (some ⟨al_t_.heaps_p, 0, none⟩)), .cell ⟨r, 0, none⟩ (.int .i64 h_.At), .cell ⟨r, 1, none⟩ (.int .i64 h_.Gen)]) ⟨H.cell 0 rfl rfl, H.cell 4 rfl rfl, H.cell 4 rfl rfl, trivial⟩ fun a hE => ?_
  refine WQ.act2 5 9 (by kernel_rfl) ?_ ?_
  ·refine AQ.eff (j := 5) (obs := []) hE rfl rfl rfl rfl (by kernel_rfl) (OpTo.fn hE rfl rfl Tryz.call122 (pool_Pool_slots_heap_Get_ok et_1 H.t1)) ?_
   rintro _ w ⟨rfl, H⟩
   refine ⟨trivial, fun a hE => ?_⟩
   refine WQ.d0 hE [6, 7, 8] [(17, .agg #[.int .i64 t_1.1.kind, .int .i64 t_1.1.root, .int .i64 t_1.1.n]), (18, .int .i64 t_1.2)] fun a hE => ?_
   refine WQ.eff (j := 9) (obs := []) hE (by kernel_rfl) rfl rfl rfl rfl (by kernel_rfl) (OpTo.new hE H [] (.cells #[.int .i64 0, .int .i64 0, .int .i64 0] 191 (0, 0)) (fun r => .pointer (some ⟨r, 0, none⟩)) (obs := []) rfl (fun _ => by kernel_rfl) trivial) ?_
   rintro _ w ⟨r3, rfl, H⟩
   refine ⟨trivial, fun a hE => ?_⟩
   refine WQ.eff0 (j := 10) (obs := []) hE (by kernel_rfl) rfl rfl rfl (by kernel_rfl) (OpTo.store hE H rfl rfl rfl rfl rfl rfl (Nat.le_of_ble_eq_true rfl)) ?_
   rintro _ w H
   refine ⟨trivial, fun a hE => ?_⟩
   refine WQ.d0 hE [11] [(9, .int .i64 t_1.2)] fun a hE => ?_
   refine WQ.done (by kernel_rfl) ?_
   replace H := slots_Table.shut al_t_ (t_) H.t4.t4.t3.t4
   exact hk _ _ ⟨r3, hE.sel [8, 9] (by kernel_rfl), H.x2.t1⟩
  ·refine AQ.eff (j := 9) (obs := [.cell ⟨r, 0, none⟩ (.int .i64 h_.At), .cell ⟨r, 1, none⟩ (.int .i64 h_.Gen), .cell ⟨p_t_, 0, none⟩ (.pointer (some ⟨al_t_.heaps_p, 0, none⟩))]) hE rfl rfl rfl rfl (by kernel_rfl) (OpTo.new hE H [] (.cells #[.int .i64 0, .int .i64 0, .int .i64 0] 191 (0, 0)) (fun r => .pointer (some ⟨r, 0, none⟩)) (obs := []) rfl (fun _ => by kernel_rfl) trivial) ?_
   rintro _ w ⟨r4, rfl, H⟩
   refine ⟨⟨H.cell 5 rfl rfl, H.cell 5 rfl rfl, H.cell 1 rfl rfl, trivial⟩, fun a hE => ?_⟩
   refine WQ.eff (j := 5) (obs := []) hE (by kernel_rfl) rfl rfl rfl rfl (by kernel_rfl) (OpTo.fn hE rfl rfl Tryz.call122 (pool_Pool_slots_heap_Get_ok et_1 H.t2)) ?_
   rintro _ w ⟨rfl, H⟩
   refine ⟨trivial, fun a hE => ?_⟩
   refine WQ.d0 hE [6, 7, 8] [(17, .agg #[.int .i64 t_1.1.kind, .int .i64 t_1.1.root, .int .i64 t_1.1.n]), (18, .int .i64 t_1.2)] fun a hE => ?_
   refine WQ.eff0 (j := 10) (obs := []) hE (by kernel_rfl) rfl rfl rfl (by kernel_rfl) (OpTo.store hE H.t1 rfl rfl rfl rfl rfl rfl (Nat.le_of_ble_eq_true rfl)) ?_
   rintro _ w H
   refine ⟨trivial, fun a hE => ?_⟩
   refine WQ.d0 hE [11] [(9, .int .i64 t_1.2)] fun a hE => ?_
   refine WQ.done (by kernel_rfl) ?_
   replace H := slots_Table.shut al_t_ (t_) H.t4.t4.t3.t4
   exact hk _ _ ⟨r4, hE.sel [8, 9] (by kernel_rfl), H.x2.t1⟩
 rintro a w ⟨r2, hE, H⟩
 refine Runs.seq ?_
 refine Runs.drawn mixed (by kernel_rfl) ?_
 replace H := H.drew
 refine WQ.seg hE [0, 1, 2, 3, 4, 5, 6, 7, 8, 9, 10] [.int .i64 t_1.1.kind, .int .i64 t_1.1.root, .int .i64 t_1.1.n] [4, 5, 6, 7] (Lo := [(4, .int .i64 t_1.1.kind), (5, .int .i64 t_1.1.root), (6, .int .i64 t_1.1.n), (7, .int .i64 t_1.2)]) (obs := [.cell ⟨r2, 0, none⟩ (.int .i64 t_1.1.kind), .cell ⟨r2, 1, none⟩ (.int .i64 t_1.1.root), .cell ⟨r2, 2, none⟩ (.int .i64 t_1.1.n)]) (by kernel_rfl) (by kernel_rfl) ⟨H.cell 0 rfl rfl, H.cell 0 rfl rfl, H.cell 0 rfl rfl, trivial⟩ fun a hE => ?_
 refine WQ.done (by kernel_rfl) ?_
 refine Runs.ret hE Tryz.func82 rfl rfl ?_
 cases hm
 exact ⟨rfl, H.x0⟩

theorem pq_refused_ok {w0 w : World} {As : List HP} {why : Int} {t : api_Answer}  (hm : pq_refused why = some t) (H : St w0 (As) w) :
    CallsR Tryz.prog 84 #[.int .i64 why] w fun v w' => v = .agg #[.int .i64 t.Why, .int .i64 t.Heap.At, .int .i64 t.Heap.Gen, .int .i64 t.Item.At, .int .i64 t.Item.Gen, .int .i64 t.Entry.Key, .int .i64 t.Entry.Serial, .int .i64 t.N] ∧ St w0 (As) w' := by
 rw [pq_refused] at hm
 refine enter (args := [.int .i64 why]) Tryz.func84 rfl rfl rfl fun a hE => ?_
 refine Runs.sr ?_
 refine WR.eff hE rfl rfl rfl rfl (OpTo.new hE H [] (.cells #[.int .i64 0, .int .i64 0, .int .i64 0, .int .i64 0, .int .i64 0, .int .i64 0, .int .i64 0, .int .i64 0] 127 (0, 0)) (fun r => .pointer (some ⟨r, 0, none⟩)) (obs := []) rfl (fun _ => by kernel_rfl) trivial) ?_
 rintro _ w ⟨r, rfl, H⟩ a hE
 refine WR.done rfl ?_
 refine Runs.sr ?_
 refine WR.seg hE 2 [] [2, 4] (Lo := [(2, .pointer (some ⟨r, 0, none⟩)), (4, .agg #[.int .i64 why, .int .i64 0, .int .i64 0, .int .i64 0, .int .i64 0, .int .i64 0, .int .i64 0, .int .i64 0])]) (obs := []) rfl (by kernel_rfl) trivial fun a hE => ?_
 refine WR.eff0 hE rfl rfl rfl (OpTo.store hE H rfl rfl rfl rfl rfl rfl (Nat.le_of_ble_eq_true rfl)) ?_
 rintro _ w H a hE
 refine WR.done rfl ?_
 refine Runs.retO (vs := [.agg #[.int .i64 why, .int .i64 0, .int .i64 0, .int .i64 0, .int .i64 0, .int .i64 0, .int .i64 0, .int .i64 0]]) (obs := [.cell ⟨r, 0, none⟩ (.int .i64 why), .cell ⟨r, 1, none⟩ (.int .i64 0), .cell ⟨r, 2, none⟩ (.int .i64 0), .cell ⟨r, 3, none⟩ (.int .i64 0), .cell ⟨r, 4, none⟩ (.int .i64 0), .cell ⟨r, 5, none⟩ (.int .i64 0), .cell ⟨r, 6, none⟩ (.int .i64 0), .cell ⟨r, 7, none⟩ (.int .i64 0)]) hE Tryz.func84 rfl [.int .i64 why, .int .i64 0, .int .i64 0, .int .i64 0, .int .i64 0, .int .i64 0, .int .i64 0, .int .i64 0] (by kernel_rfl) ⟨H.cell 0 rfl rfl, H.cell 0 rfl rfl, H.cell 0 rfl rfl, H.cell 0 rfl rfl, H.cell 0 rfl rfl, H.cell 0 rfl rfl, H.cell 0 rfl rfl, H.cell 0 rfl rfl, trivial⟩ ?_
 cases hm
 exact ⟨rfl, H.x0⟩

theorem kind_Min_ok {w0 w : World} {As : List HP} {k_ : Int} {p_a_ : Nat} {al_a_ : arena_Arena.A} {a_ : arena_Arena} {r : Int} {t : Int}  (hm : kind_Min k_ a_ r = some t) (H : St w0 (arena_Arena.R p_a_ al_a_ a_ :: As) w) :
    CallsR Tryz.prog 112 #[.int .i64 k_, .pointer (some ⟨p_a_, 0, none⟩), .int .i64 r] w fun v w' => v = .int .i64 t ∧ St w0 (arena_Arena.R p_a_ al_a_ a_ :: As) w' := by
  rw [kind_Min] at hm
  cases hm

theorem slots_Table_At_ok {w0 w : World} {As : List HP} {p_t_ : Nat} {al_t_ : slots_Table.A} {t_ : slots_Table} {cell : Int} {t : api_Ref × Bool}  (hm : slots_Table_At t_ cell = some t) (H : St w0 (slots_Table.R p_t_ al_t_ t_ :: As) w) :
    CallsR Tryz.prog 111 #[.pointer (some ⟨p_t_, 0, none⟩), .int .i64 cell] w fun v w' => v = .tuple #[.agg #[.int .i64 t.1.At, .int .i64 t.1.Gen], .bool t.2] ∧ St w0 (slots_Table.R p_t_ al_t_ t_ :: As) w' := by
 rw [slots_Table_At] at hm
 refine enter (args := [.pointer (some ⟨p_t_, 0, none⟩), .int .i64 cell]) Tryz.func111 rfl rfl rfl fun a hE => ?_
 refine Runs.sr ?_
 refine WR.eff hE rfl rfl rfl rfl (OpTo.new hE H [] (.cells #[.int .i64 0, .int .i64 0] 31 (0, 0)) (fun r => .pointer (some ⟨r, 0, none⟩)) (obs := []) rfl (fun _ => by kernel_rfl) trivial) ?_
 rintro _ w ⟨r, rfl, H⟩ a hE
 refine WR.seg hE 2 [] [0, 1, 4] (Lo := [(0, .pointer (some ⟨p_t_, 0, none⟩)), (1, .int .i64 cell), (4, .pointer (some ⟨r, 0, none⟩))]) (obs := []) rfl (by kernel_rfl) trivial fun a hE => ?_
 refine WR.done rfl ?_
 refine Runs.sr ?_
 replace H := slots_Table.open H.t1
 refine WR.d hE 5 [.map (some al_t_.at__p)] [(12, .map (some al_t_.at__p)), (13, .int .i64 cell)] (obs := [.cell ⟨p_t_, 2, none⟩ (.map (some al_t_.at__p))]) ⟨H.cell 0 rfl rfl, trivial⟩ fun a hE => ?_
 obtain ⟨x, ex, hm⟩ := bind_some hm
 refine WR.eff hE rfl rfl rfl rfl (OpTo.mpGet2 3 hE H rfl (KeyOk.int rfl) ex rfl rfl rfl rfl rfl rfl) ?_
 rintro _ _ ⟨rfl, rfl⟩ a hE
 refine WR.d0 hE 9 [(15, .agg #[.int .i64 x.1.At, .int .i64 x.1.Gen]), (16, .bool x.2)] fun a hE => ?_
 refine WR.eff hE rfl rfl rfl rfl (OpTo.new hE H [] (.cells #[.int .i64 0, .int .i64 0] 31 (0, 0)) (fun r => .pointer (some ⟨r, 0, none⟩)) (obs := []) rfl (fun _ => by kernel_rfl) trivial) ?_
 rintro _ w ⟨r1, rfl, H⟩ a hE
 refine WR.eff0 hE rfl rfl rfl (OpTo.store hE H rfl rfl rfl rfl rfl rfl (Nat.le_of_ble_eq_true rfl)) ?_
 rintro _ w H a hE
 refine WR.e0 hE [(7, .bool x.2)] fun a hE => ?_
 refine Runs.sr ?_
 refine WR.d hE 2 [.int .i64 x.1.At, .int .i64 x.1.Gen] [(17, .agg #[.int .i64 x.1.At, .int .i64 x.1.Gen]), (18, .bool x.2)] (obs := [.cell ⟨r1, 0, none⟩ (.int .i64 x.1.At), .cell ⟨r1, 1, none⟩ (.int .i64 x.1.Gen)]) ⟨H.cell 0 rfl rfl, H.cell 0 rfl rfl, trivial⟩ fun a hE => ?_
 refine WR.eff0 hE rfl rfl rfl (OpTo.store hE H.t5 rfl rfl rfl rfl rfl rfl (Nat.le_of_ble_eq_true rfl)) ?_
 rintro _ w H a hE
 refine WR.e0 hE [(5, .bool x.2)] fun a hE => ?_
 refine Runs.retO (vs := [.agg #[.int .i64 x.1.At, .int .i64 x.1.Gen], .bool x.2]) (obs := [.cell ⟨r, 0, none⟩ (.int .i64 x.1.At), .cell ⟨r, 1, none⟩ (.int .i64 x.1.Gen)]) hE Tryz.func111 rfl [.int .i64 x.1.At, .int .i64 x.1.Gen] (by kernel_rfl) ⟨H.cell 0 rfl rfl, H.cell 0 rfl rfl, trivial⟩ ?_
 replace H := slots_Table.shut al_t_ (t_) H.t5.t5.t5.t5
 cases hm
 exact ⟨rfl, H.x2.x1⟩

theorem kind_Pop_ok {w0 w : World} {As : List HP} {k_ : Int} {p_a_ : Nat} {al_a_ : arena_Arena.A} {a_ : arena_Arena} {r : Int} {t : Int × Int}  (hm : kind_Pop k_ a_ r = some t) (H : St w0 (arena_Arena.R p_a_ al_a_ a_ :: As) w) :
    CallsR Tryz.prog 113 #[.int .i64 k_, .pointer (some ⟨p_a_, 0, none⟩), .int .i64 r] w fun v w' => v = .tuple #[.int .i64 t.1, .int .i64 t.2] ∧ St w0 (arena_Arena.R p_a_ al_a_ a_ :: As) w' := by
  rw [kind_Pop] at hm
  cases hm

theorem pool_Pool_slots_heap_Set_ok {w0 w : World} {As : List HP} {p_p : Nat} {al_p : pool_Pool_slots_heap.A} {p : pool_Pool_slots_heap} {r : api_Ref} {v_ : slots_heap} {t : Int × pool_Pool_slots_heap}  (hm : pool_Pool_slots_heap_Set p r v_ = some t) (H : St w0 (pool_Pool_slots_heap.R p_p al_p p :: As) w) :
    CallsR Tryz.prog 150 #[.pointer (some ⟨p_p, 0, none⟩), .agg #[.int .i64 r.At, .int .i64 r.Gen], .agg #[.int .i64 v_.kind, .int .i64 v_.root, .int .i64 v_.n]] w fun v w' => v = .int .i64 t.1 ∧ St w0 (pool_Pool_slots_heap.R p_p al_p t.2 :: As) w' := by
 rw [pool_Pool_slots_heap_Set] at hm
 refine enter (args := [.pointer (some ⟨p_p, 0, none⟩), .agg #[.int .i64 r.At, .int .i64 r.Gen], .agg #[.int .i64 v_.kind, .int .i64 v_.root, .int .i64 v_.n]]) Tryz.func150 rfl rfl rfl fun a hE => ?_
 refine Runs.sr ?_
 refine WR.eff hE rfl rfl rfl rfl (OpTo.new hE H [] (.cells #[.int .i64 r.At, .int .i64 r.Gen] 31 (0, 0)) (fun r => .pointer (some ⟨r, 0, none⟩)) (obs := []) rfl (fun _ => by kernel_rfl) trivial) ?_
 rintro _ w ⟨r1, rfl, H⟩ a hE
 refine WR.eff hE rfl rfl rfl rfl (OpTo.new hE H [] (.cells #[.int .i64 v_.kind, .int .i64 v_.root, .int .i64 v_.n] 191 (0, 0)) (fun r => .pointer (some ⟨r, 0, none⟩)) (obs := []) rfl (fun _ => by kernel_rfl) trivial) ?_
 rintro _ w ⟨r2, rfl, H⟩ a hE
 refine WR.seg hE 3 [] [0, 4, 5] (Lo := [(0, .pointer (some ⟨p_p, 0, none⟩)), (4, .pointer (some ⟨r1, 0, none⟩)), (5, .pointer (some ⟨r2, 0, none⟩))]) (obs := []) rfl (by kernel_rfl) trivial fun a hE => ?_
 refine WR.done rfl ?_
 refine Runs.sr ?_
 refine WR.d hE 2 [.int .i64 r.At, .int .i64 r.Gen] [(10, .pointer (some ⟨p_p, 0, none⟩)), (11, .agg #[.int .i64 r.At, .int .i64 r.Gen])] (obs := [.cell ⟨r1, 0, none⟩ (.int .i64 r.At), .cell ⟨r1, 1, none⟩ (.int .i64 r.Gen)]) ⟨H.cell 1 rfl rfl, H.cell 1 rfl rfl, trivial⟩ fun a hE => ?_
 obtain ⟨t_, et_, hm⟩ := bind_some hm
 refine WR.eff hE rfl rfl rfl rfl (OpTo.fn hE rfl rfl Tryz.call182 (pool_Pool_slots_heap_find_ok et_ H.t2)) ?_
 rintro _ w ⟨rfl, H⟩ a hE
 rcases ho : t_.1 with _ | i
 ·replace hm := case_n ho hm
  rw [ho] at hE
  refine WR.seg hE 8 [] [5, 7, 8] (Lo := [(5, .pointer (some ⟨r2, 0, none⟩)), (7, .pointer none), (8, .int .i64 t_.2)]) (obs := []) rfl (by kernel_rfl) trivial fun a hE => ?_
  refine WR.done rfl ?_
  refine Runs.seq ?_
  refine Runs.sr ?_
  refine WR.e0 hE [(16, .bool (t_.2 == 0))] fun a hE => ?_
  obtain ⟨s, es, hm⟩ := bind_some hm
  refine Runs.join (fun a w => EnvOk 22 a [(8, .int .i64 t_.2)] ∧ St w0 (pool_Pool_slots_heap.R p_p al_p p :: As) w) (fun hk => ?_) ?_
  ·replace hm := es; clear es
   refine Runs.cond hE rfl (fun c => ?_) (fun c => ?_)
   ·replace hm := cond_t c hm
    refine Runs.region ?_
    cases hm
   ·replace hm := cond_f c hm
    refine Runs.skip ?_
    cases hm
    exact hk _ _ ⟨hE.sel [8] (by kernel_rfl), H.x2.x1⟩
  rintro a w ⟨hE, H⟩
  refine Runs.sr ?_
  refine WR.seg hE 2 [] [6] (Lo := [(6, .int .i64 t_.2)]) (obs := []) rfl (by kernel_rfl) trivial fun a hE => ?_
  refine WR.done rfl ?_
  refine Runs.ret hE Tryz.func150 rfl rfl ?_
  cases hm
  exact ⟨rfl, H⟩
 ·replace hm := case_s ho hm
  replace H := pool_Pool_slots_heap.open H
  obtain ⟨x, ex, hm⟩ := bind_some hm
  obtain ⟨b, o, hs, hb⟩ := SlRd.base (sl_rd 244 pool_place_slots_heap.enc 5 _ _ _) pool_place_slots_heap.enc_ok H 1 rfl ex
  rw [ho, elemV_some hs] at hE
  refine WR.seg hE 8 [] [5, 7, 8] (Lo := [(5, .pointer (some ⟨r2, 0, none⟩)), (7, .pointer (some ⟨b, o + (Int.toNat i) * 5, none⟩)), (8, .int .i64 t_.2)]) (obs := []) rfl (by kernel_rfl) trivial fun a hE => ?_
  refine WR.done rfl ?_
  refine Runs.seq ?_
  refine Runs.sr ?_
  refine WR.e0 hE [(16, .bool (t_.2 == 0))] fun a hE => ?_
  replace H := pool_Pool_slots_heap.shut al_p (p) H.t2.t2.t2
  obtain ⟨s1, es1, hm⟩ := bind_some hm
  refine Runs.join (fun a w => EnvOk 22 a [(8, .int .i64 t_.2)] ∧ St w0 (pool_Pool_slots_heap.R p_p al_p s1 :: As) w) (fun hk => ?_) ?_
  ·replace hm := es1; clear es1
   refine Runs.cond hE rfl (fun c => ?_) (fun c => ?_)
   ·replace hm := cond_t c hm
    refine Runs.region ?_
    replace H := pool_Pool_slots_heap.open H
    refine WR.d hE 4 [.int .i64 v_.kind, .int .i64 v_.root, .int .i64 v_.n] [(18, .agg #[.int .i64 v_.kind, .int .i64 v_.root, .int .i64 v_.n]), (20, .pointer (some ⟨b, o + (Int.toNat i) * 5 + 2, none⟩))] (obs := [.cell ⟨r2, 0, none⟩ (.int .i64 v_.kind), .cell ⟨r2, 1, none⟩ (.int .i64 v_.root), .cell ⟨r2, 2, none⟩ (.int .i64 v_.n)]) ⟨H.cell 3 rfl rfl, H.cell 3 rfl rfl, H.cell 3 rfl rfl, trivial⟩ fun a hE => ?_
    refine WR.eff0 hE rfl rfl rfl (OpTo.storeSl (q := 2) (x' := (pool_place_slots_heap.mk x.gen x.taken v_)) hE H.t1 pool_place_slots_heap.enc_ok rfl hs ex rfl rfl rfl rfl rfl (Nat.le_of_ble_eq_true rfl) rfl) ?_
    rintro _ w H a hE
    rw [← mSet_len p.l i (pool_place_slots_heap.mk x.gen x.taken v_)] at H
    refine WR.done rfl ?_
    replace H := pool_Pool_slots_heap.shut al_p (pool_Pool_slots_heap.mk p.most (mSet p.l i (pool_place_slots_heap.mk x.gen x.taken v_)) p.free) H.t2.t1.t2
    cases hm
    exact hk _ _ ⟨hE.sel [8] (by kernel_rfl), H.x2.x1⟩
   ·replace hm := cond_f c hm
    refine Runs.skip ?_
    cases hm
    exact hk _ _ ⟨hE.sel [8] (by kernel_rfl), H.x2.x1⟩
  rintro a w ⟨hE, H⟩
  refine Runs.sr ?_
  refine WR.seg hE 2 [] [6] (Lo := [(6, .int .i64 t_.2)]) (obs := []) rfl (by kernel_rfl) trivial fun a hE => ?_
  refine WR.done rfl ?_
  refine Runs.ret hE Tryz.func150 rfl rfl ?_
  cases hm
  exact ⟨rfl, H⟩

theorem slots_Table_Root_ok {w0 w : World} {As : List HP} {p_t_ : Nat} {al_t_ : slots_Table.A} {t_ : slots_Table} {h_ : api_Ref} {r : Int} {n : Int} {t : Int × slots_Table}  (hm : slots_Table_Root t_ h_ r n = some t) (H : St w0 (slots_Table.R p_t_ al_t_ t_ :: As) w) :
    CallsR Tryz.prog 110 #[.pointer (some ⟨p_t_, 0, none⟩), .agg #[.int .i64 h_.At, .int .i64 h_.Gen], .int .i64 r, .int .i64 n] w fun v w' => v = .int .i64 t.1 ∧ St w0 (slots_Table.R p_t_ al_t_ t.2 :: As) w' := by
 rw [slots_Table_Root] at hm
 refine enter (args := [.pointer (some ⟨p_t_, 0, none⟩), .agg #[.int .i64 h_.At, .int .i64 h_.Gen], .int .i64 r, .int .i64 n]) Tryz.func110 rfl rfl rfl fun a hE => ?_
 refine Runs.sr ?_
 refine WR.eff hE rfl rfl rfl rfl (OpTo.new hE H [] (.cells #[.int .i64 h_.At, .int .i64 h_.Gen] 31 (0, 0)) (fun r => .pointer (some ⟨r, 0, none⟩)) (obs := []) rfl (fun _ => by kernel_rfl) trivial) ?_
 rintro _ w ⟨r1, rfl, H⟩ a hE
 refine WR.seg hE 2 [] [0, 2, 3, 5] (Lo := [(0, .pointer (some ⟨p_t_, 0, none⟩)), (2, .int .i64 r), (3, .int .i64 n), (5, .pointer (some ⟨r1, 0, none⟩))]) (obs := []) rfl (by kernel_rfl) trivial fun a hE => ?_
 refine WR.done rfl ?_
 refine Runs.seq ?_
 obtain ⟨t_1, et_1, hm⟩ := bind_some hm
 refine Runs.join (fun a w => ∃ (r3 : Nat), EnvOk 34 a [(0, .pointer (some ⟨p_t_, 0, none⟩)), (2, .int .i64 r), (3, .int .i64 n), (5, .pointer (some ⟨r1, 0, none⟩)), (9, .pointer (some ⟨r3, 0, none⟩)), (10, .int .i64 t_1.2)] ∧ St w0 (Blk r3 191 [.int .i64 t_1.1.kind, .int .i64 t_1.1.root, .int .i64 t_1.1.n] :: Blk r1 31 [.int .i64 h_.At, .int .i64 h_.Gen] :: slots_Table.R p_t_ al_t_ t_ :: As) w) (fun hk => ?_) ?_
 ·refine Runs.drawn mixed (by kernel_rfl) ?_
  replace H := H.drew
  replace H := slots_Table.open H.t1
  refine WQ.d hE [0, 1, 2, 3, 4] [.pointer (some ⟨al_t_.heaps_p, 0, none⟩), .int .i64 h_.At, .int .i64 h_.Gen] [(15, .pointer (some ⟨al_t_.heaps_p, 0, none⟩)), (16, .agg #[.int .i64 h_.At, .int .i64 h_.Gen])] (obs := [.cell ⟨p_t_, 0, none⟩ (.pointer (some ⟨al_t_.heaps_p, 0, none⟩)), .cell ⟨r1, 0, none⟩ (.int .i64 h_.At), .cell ⟨r1, 1, none⟩ (.int .i64 h_.Gen)]) ⟨H.cell 0 rfl rfl, H.cell 4 rfl rfl, H.cell 4 rfl rfl, trivial⟩ fun a hE => ?_
  refine WQ.act2 5 9 (by kernel_rfl) ?_ ?_
  ·refine AQ.eff (j := 5) (obs := []) hE rfl rfl rfl rfl (by kernel_rfl) (OpTo.fn hE rfl rfl Tryz.call122 (pool_Pool_slots_heap_Get_ok et_1 H.t1)) ?_
   rintro _ w ⟨rfl, H⟩
   refine ⟨trivial, fun a hE => ?_⟩
   refine WQ.d0 hE [6, 7, 8] [(18, .agg #[.int .i64 t_1.1.kind, .int .i64 t_1.1.root, .int .i64 t_1.1.n]), (19, .int .i64 t_1.2)] fun a hE => ?_
   refine WQ.eff (j := 9) (obs := []) hE (by kernel_rfl) rfl rfl rfl rfl (by kernel_rfl) (OpTo.new hE H [] (.cells #[.int .i64 0, .int .i64 0, .int .i64 0] 191 (0, 0)) (fun r => .pointer (some ⟨r, 0, none⟩)) (obs := []) rfl (fun _ => by kernel_rfl) trivial) ?_
   rintro _ w ⟨r4, rfl, H⟩
   refine ⟨trivial, fun a hE => ?_⟩
   refine WQ.eff0 (j := 10) (obs := []) hE (by kernel_rfl) rfl rfl rfl (by kernel_rfl) (OpTo.store hE H rfl rfl rfl rfl rfl rfl (Nat.le_of_ble_eq_true rfl)) ?_
   rintro _ w H
   refine ⟨trivial, fun a hE => ?_⟩
   refine WQ.d0 hE [11] [(10, .int .i64 t_1.2)] fun a hE => ?_
   refine WQ.done (by kernel_rfl) ?_
   replace H := slots_Table.shut al_t_ (t_) H.t4.t4.t3.t4
   exact hk _ _ ⟨r4, hE.sel [0, 2, 3, 5, 9, 10] (by kernel_rfl), H.t2.t2⟩
  ·refine AQ.eff (j := 9) (obs := [.cell ⟨r1, 0, none⟩ (.int .i64 h_.At), .cell ⟨r1, 1, none⟩ (.int .i64 h_.Gen), .cell ⟨p_t_, 0, none⟩ (.pointer (some ⟨al_t_.heaps_p, 0, none⟩))]) hE rfl rfl rfl rfl (by kernel_rfl) (OpTo.new hE H [] (.cells #[.int .i64 0, .int .i64 0, .int .i64 0] 191 (0, 0)) (fun r => .pointer (some ⟨r, 0, none⟩)) (obs := []) rfl (fun _ => by kernel_rfl) trivial) ?_
   rintro _ w ⟨r5, rfl, H⟩
   refine ⟨⟨H.cell 5 rfl rfl, H.cell 5 rfl rfl, H.cell 1 rfl rfl, trivial⟩, fun a hE => ?_⟩
   refine WQ.eff (j := 5) (obs := []) hE (by kernel_rfl) rfl rfl rfl rfl (by kernel_rfl) (OpTo.fn hE rfl rfl Tryz.call122 (pool_Pool_slots_heap_Get_ok et_1 H.t2)) ?_
   rintro _ w ⟨rfl, H⟩
   refine ⟨trivial, fun a hE => ?_⟩
   refine WQ.d0 hE [6, 7, 8] [(18, .agg #[.int .i64 t_1.1.kind, .int .i64 t_1.1.root, .int .i64 t_1.1.n]), (19, .int .i64 t_1.2)] fun a hE => ?_
   refine WQ.eff0 (j := 10) (obs := []) hE (by kernel_rfl) rfl rfl rfl (by kernel_rfl) (OpTo.store hE H.t1 rfl rfl rfl rfl rfl rfl (Nat.le_of_ble_eq_true rfl)) ?_
   rintro _ w H
   refine ⟨trivial, fun a hE => ?_⟩
   refine WQ.d0 hE [11] [(10, .int .i64 t_1.2)] fun a hE => ?_
   refine WQ.done (by kernel_rfl) ?_
   replace H := slots_Table.shut al_t_ (t_) H.t4.t4.t3.t4
   exact hk _ _ ⟨r5, hE.sel [0, 2, 3, 5, 9, 10] (by kernel_rfl), H.t2.t2⟩
 rintro a w ⟨r3, hE, H⟩
 refine Runs.seq ?_
 refine Runs.sr ?_
 refine WR.seg hE 2 [] [0, 2, 3, 5, 9, 10, 21] (Lo := [(0, .pointer (some ⟨p_t_, 0, none⟩)), (2, .int .i64 r), (3, .int .i64 n), (5, .pointer (some ⟨r1, 0, none⟩)), (9, .pointer (some ⟨r3, 0, none⟩)), (10, .int .i64 t_1.2), (21, .bool (t_1.2 == 0))]) (obs := []) rfl (by kernel_rfl) trivial fun a hE => ?_
 refine WR.done rfl ?_
 obtain ⟨s, es, hm⟩ := bind_some hm
 refine Runs.join (fun a w => EnvOk 34 a [(10, .int .i64 t_1.2)] ∧ St w0 (slots_Table.R p_t_ al_t_ s :: As) w) (fun hk => ?_) ?_
 ·replace hm := es; clear es
  refine Runs.cond hE rfl (fun c => ?_) (fun c => ?_)
  ·replace hm := cond_t c hm
   refine Runs.sr ?_
   refine WR.d0 hE 3 [(22, .int .i64 r), (23, .int .i64 n), (24, .pointer (some ⟨r3, 1, none⟩))] fun a hE => ?_
   refine WR.eff0 hE rfl rfl rfl (OpTo.store hE H rfl rfl rfl rfl rfl rfl (Nat.le_of_ble_eq_true rfl)) ?_
   rintro _ w H a hE
   refine WR.d0 hE 5 [(25, .pointer (some ⟨r3, 2, none⟩))] fun a hE => ?_
   refine WR.eff0 hE rfl rfl rfl (OpTo.store hE H rfl rfl rfl rfl rfl rfl (Nat.le_of_ble_eq_true rfl)) ?_
   rintro _ w H a hE
   refine WR.done rfl ?_
   refine Runs.drawn mixed (by kernel_rfl) ?_
   replace H := H.drew
   replace H := slots_Table.open H.t2
   refine WQ.d hE [0, 1, 2, 3, 4, 5] [.pointer (some ⟨al_t_.heaps_p, 0, none⟩), .int .i64 h_.At, .int .i64 h_.Gen, .int .i64 t_1.1.kind, .int .i64 r, .int .i64 n] [(29, .pointer (some ⟨al_t_.heaps_p, 0, none⟩)), (30, .agg #[.int .i64 h_.At, .int .i64 h_.Gen]), (31, .agg #[.int .i64 t_1.1.kind, .int .i64 r, .int .i64 n])] (obs := [.cell ⟨p_t_, 0, none⟩ (.pointer (some ⟨al_t_.heaps_p, 0, none⟩)), .cell ⟨r1, 0, none⟩ (.int .i64 h_.At), .cell ⟨r1, 1, none⟩ (.int .i64 h_.Gen), .cell ⟨r3, 0, none⟩ (.int .i64 t_1.1.kind), .cell ⟨r3, 1, none⟩ (.int .i64 r), .cell ⟨r3, 2, none⟩ (.int .i64 n)]) ⟨H.cell 0 rfl rfl, H.cell 5 rfl rfl, H.cell 5 rfl rfl, H.cell 4 rfl rfl, H.cell 4 rfl rfl, H.cell 4 rfl rfl, trivial⟩ fun a hE => ?_
   obtain ⟨t_2, et_2, hm⟩ := bind_some hm
   have hC_ := pool_Pool_slots_heap_Set_ok et_2 H.t1
   try dsimp only at hC_
   refine WQ.eff (j := 6) (obs := []) hE (by kernel_rfl) rfl rfl rfl rfl (by kernel_rfl) (OpTo.fn hE rfl rfl Tryz.call150 hC_) ?_
   rintro _ w ⟨rfl, H⟩
   refine ⟨trivial, fun a hE => ?_⟩
   refine WQ.done (by kernel_rfl) ?_
   replace H := slots_Table.shut al_t_ (slots_Table.mk t_2.2 t_.items t_.at_) H.t3.t3.t2.t3
   cases hm
   exact hk _ _ ⟨hE.sel [10] (by kernel_rfl), H.x2.x1⟩
  ·replace hm := cond_f c hm
   refine Runs.skip ?_
   cases hm
   exact hk _ _ ⟨hE.sel [10] (by kernel_rfl), H.x1.x0⟩
 rintro a w ⟨hE, H⟩
 refine Runs.sr ?_
 refine WR.seg hE 2 [] [8] (Lo := [(8, .int .i64 t_1.2)]) (obs := []) rfl (by kernel_rfl) trivial fun a hE => ?_
 refine WR.done rfl ?_
 refine Runs.ret hE Tryz.func110 rfl rfl ?_
 cases hm
 exact ⟨rfl, H⟩

theorem pq_Queues_gone_ok {w0 w : World} {As : List HP} {p_q : Nat} {al_q : pq_Queues.A} {q : pq_Queues} {i : api_Ref} {t : api_Entry}  (hm : pq_Queues_gone q i = some t) (H : St w0 (pq_Queues.R p_q al_q q :: As) w) :
    CallsR Tryz.prog 114 #[.pointer (some ⟨p_q, 0, none⟩), .agg #[.int .i64 i.At, .int .i64 i.Gen]] w fun v w' => v = .agg #[.int .i64 t.Key, .int .i64 t.Serial] ∧ St w0 (pq_Queues.R p_q al_q q :: As) w' := by
  rw [pq_Queues_gone] at hm
  cases hm

theorem pq_Queues_min_ok {w0 w : World} {As : List HP} {p_q : Nat} {al_q : pq_Queues.A} {q : pq_Queues} {h_ : api_Ref} {out : Bool} {t : api_Answer × pq_Queues}  (hm : pq_Queues_min q h_ out = some t) (H : St w0 (pq_Queues.R p_q al_q q :: As) w) :
    CallsR Tryz.prog 78 #[.pointer (some ⟨p_q, 0, none⟩), .agg #[.int .i64 h_.At, .int .i64 h_.Gen], .bool out] w fun v w' => v = .agg #[.int .i64 t.1.Why, .int .i64 t.1.Heap.At, .int .i64 t.1.Heap.Gen, .int .i64 t.1.Item.At, .int .i64 t.1.Item.Gen, .int .i64 t.1.Entry.Key, .int .i64 t.1.Entry.Serial, .int .i64 t.1.N] ∧ St w0 (pq_Queues.R p_q al_q t.2 :: As) w' := by
 rw [pq_Queues_min] at hm
 refine enter (args := [.pointer (some ⟨p_q, 0, none⟩), .agg #[.int .i64 h_.At, .int .i64 h_.Gen], .bool out]) Tryz.func78 rfl rfl rfl fun a hE => ?_
 refine Runs.sr ?_
 refine WR.eff hE rfl rfl rfl rfl (OpTo.new hE H [] (.cells #[.int .i64 h_.At, .int .i64 h_.Gen] 31 (0, 0)) (fun r => .pointer (some ⟨r, 0, none⟩)) (obs := []) rfl (fun _ => by kernel_rfl) trivial) ?_
 rintro _ w ⟨r, rfl, H⟩ a hE
 refine WR.eff hE rfl rfl rfl rfl (OpTo.new hE H [] (.cells #[.int .i64 0, .int .i64 0, .int .i64 0, .int .i64 0, .int .i64 0, .int .i64 0, .int .i64 0, .int .i64 0] 127 (0, 0)) (fun r => .pointer (some ⟨r, 0, none⟩)) (obs := []) rfl (fun _ => by kernel_rfl) trivial) ?_
 rintro _ w ⟨r1, rfl, H⟩ a hE
 refine WR.done rfl ?_
 refine Runs.seq ?_
 refine Runs.drawn mixed (by kernel_rfl) ?_
 replace H := H.drew
 replace H := pq_Queues.open H.t2
 refine WQ.seg hE [0, 1, 2, 3, 4] [.pointer (some ⟨al_q.t__p, 0, none⟩), .int .i64 h_.At, .int .i64 h_.Gen] [0, 2, 4, 6, 20, 21] (Lo := [(0, .pointer (some ⟨p_q, 0, none⟩)), (2, .bool out), (4, .pointer (some ⟨r, 0, none⟩)), (6, .pointer (some ⟨r1, 0, none⟩)), (20, .pointer (some ⟨al_q.t__p, 0, none⟩)), (21, .agg #[.int .i64 h_.At, .int .i64 h_.Gen])]) (obs := [.cell ⟨p_q, 2, none⟩ (.pointer (some ⟨al_q.t__p, 0, none⟩)), .cell ⟨r, 0, none⟩ (.int .i64 h_.At), .cell ⟨r, 1, none⟩ (.int .i64 h_.Gen)]) (by kernel_rfl) (by kernel_rfl) ⟨H.cell 0 rfl rfl, H.cell 5 rfl rfl, H.cell 5 rfl rfl, trivial⟩ fun a hE => ?_
 obtain ⟨t_, et_, hm⟩ := bind_some hm
 refine WQ.eff (j := 5) (obs := []) hE (by kernel_rfl) rfl rfl rfl rfl (by kernel_rfl) (OpTo.fn hE rfl rfl Tryz.call82 (slots_Table_Heap_ok et_ H.t2)) ?_
 rintro _ w ⟨rfl, H⟩
 refine ⟨trivial, fun a hE => ?_⟩
 refine WQ.d0 hE [6, 7, 8, 9, 10, 11, 12, 13, 14] [(7, .int .i64 t_.1), (8, .int .i64 t_.2.1), (9, .int .i64 t_.2.2.1), (10, .int .i64 t_.2.2.2)] fun a hE => ?_
 refine WQ.done (by kernel_rfl) ?_
 refine Runs.seq ?_
 refine Runs.block ?_
 refine Runs.sr ?_
 refine WR.e0 hE [(27, .bool (t_.2.2.2 != 0))] fun a hE => ?_
 refine Runs.cond hE rfl (fun c => ?_) (fun c => ?_)
 ·replace hm := cond_t c hm
  refine Runs.sr ?_
  refine WR.d0 hE 1 [(30, .int .i64 t_.2.2.2)] fun a hE => ?_
  obtain ⟨t_1, et_1, hm⟩ := bind_some hm
  refine WR.eff hE rfl rfl rfl rfl (OpTo.fn hE rfl rfl Tryz.call84 (pq_refused_ok et_1 H)) ?_
  rintro _ w ⟨rfl, H⟩ a hE
  refine WR.eff0 hE rfl rfl rfl (OpTo.store hE H.t4 rfl rfl rfl rfl rfl rfl (Nat.le_of_ble_eq_true rfl)) ?_
  rintro _ w H a hE
  refine WR.done rfl ?_
  refine Runs.retO (vs := [.agg #[.int .i64 t_1.Why, .int .i64 t_1.Heap.At, .int .i64 t_1.Heap.Gen, .int .i64 t_1.Item.At, .int .i64 t_1.Item.Gen, .int .i64 t_1.Entry.Key, .int .i64 t_1.Entry.Serial, .int .i64 t_1.N]]) (obs := [.cell ⟨r1, 0, none⟩ (.int .i64 t_1.Why), .cell ⟨r1, 1, none⟩ (.int .i64 t_1.Heap.At), .cell ⟨r1, 2, none⟩ (.int .i64 t_1.Heap.Gen), .cell ⟨r1, 3, none⟩ (.int .i64 t_1.Item.At), .cell ⟨r1, 4, none⟩ (.int .i64 t_1.Item.Gen), .cell ⟨r1, 5, none⟩ (.int .i64 t_1.Entry.Key), .cell ⟨r1, 6, none⟩ (.int .i64 t_1.Entry.Serial), .cell ⟨r1, 7, none⟩ (.int .i64 t_1.N)]) hE Tryz.func78 rfl [.int .i64 t_1.Why, .int .i64 t_1.Heap.At, .int .i64 t_1.Heap.Gen, .int .i64 t_1.Item.At, .int .i64 t_1.Item.Gen, .int .i64 t_1.Entry.Key, .int .i64 t_1.Entry.Serial, .int .i64 t_1.N] (by kernel_rfl) ⟨H.cell 0 rfl rfl, H.cell 0 rfl rfl, H.cell 0 rfl rfl, H.cell 0 rfl rfl, H.cell 0 rfl rfl, H.cell 0 rfl rfl, H.cell 0 rfl rfl, H.cell 0 rfl rfl, trivial⟩ ?_
  replace H := pq_Queues.shut al_q (q) H.t4.t2.t4.t4
  cases hm
  exact ⟨rfl, H.x2.x1⟩
 ·replace hm := cond_f c hm
  refine Runs.sr ?_
  refine WR.e0 hE [(32, .bool (t_.2.2.1 == 0))] fun a hE => ?_
  refine Runs.cond hE rfl (fun c => ?_) (fun c => ?_)
  ·replace hm := cond_t c hm
   refine Runs.sr ?_
   obtain ⟨t_2, et_2, hm⟩ := bind_some hm
   refine WR.eff hE rfl rfl rfl rfl (OpTo.fn hE rfl rfl Tryz.call84 (pq_refused_ok et_2 H)) ?_
   rintro _ w ⟨rfl, H⟩ a hE
   refine WR.eff0 hE rfl rfl rfl (OpTo.store hE H.t4 rfl rfl rfl rfl rfl rfl (Nat.le_of_ble_eq_true rfl)) ?_
   rintro _ w H a hE
   refine WR.done rfl ?_
   refine Runs.retO (vs := [.agg #[.int .i64 t_2.Why, .int .i64 t_2.Heap.At, .int .i64 t_2.Heap.Gen, .int .i64 t_2.Item.At, .int .i64 t_2.Item.Gen, .int .i64 t_2.Entry.Key, .int .i64 t_2.Entry.Serial, .int .i64 t_2.N]]) (obs := [.cell ⟨r1, 0, none⟩ (.int .i64 t_2.Why), .cell ⟨r1, 1, none⟩ (.int .i64 t_2.Heap.At), .cell ⟨r1, 2, none⟩ (.int .i64 t_2.Heap.Gen), .cell ⟨r1, 3, none⟩ (.int .i64 t_2.Item.At), .cell ⟨r1, 4, none⟩ (.int .i64 t_2.Item.Gen), .cell ⟨r1, 5, none⟩ (.int .i64 t_2.Entry.Key), .cell ⟨r1, 6, none⟩ (.int .i64 t_2.Entry.Serial), .cell ⟨r1, 7, none⟩ (.int .i64 t_2.N)]) hE Tryz.func78 rfl [.int .i64 t_2.Why, .int .i64 t_2.Heap.At, .int .i64 t_2.Heap.Gen, .int .i64 t_2.Item.At, .int .i64 t_2.Item.Gen, .int .i64 t_2.Entry.Key, .int .i64 t_2.Entry.Serial, .int .i64 t_2.N] (by kernel_rfl) ⟨H.cell 0 rfl rfl, H.cell 0 rfl rfl, H.cell 0 rfl rfl, H.cell 0 rfl rfl, H.cell 0 rfl rfl, H.cell 0 rfl rfl, H.cell 0 rfl rfl, H.cell 0 rfl rfl, trivial⟩ ?_
   replace H := pq_Queues.shut al_q (q) H.t4.t2.t4.t4
   cases hm
   exact ⟨rfl, H.x2.x1⟩
  ·replace hm := cond_f c hm
   refine Runs.skip ?_
   refine Runs.inBlock ?_
   refine Runs.seq ?_
   refine Runs.sr ?_
   refine WR.e0 hE [(37, .bool (!out))] fun a hE => ?_
   refine Runs.cond hE rfl (fun c => ?_) (fun c => ?_)
   ·replace hm := cond_t c hm
    refine Runs.seq ?_
    replace H := pq_Queues.shut al_q (q) H.t3.t1.t3.t3
    obtain ⟨t_3, et_3, hm⟩ := bind_some hm
    obtain ⟨t_4, et_4, hm⟩ := bind_some hm
    refine Runs.join (fun a w => ∃ (r3 : Nat), EnvOk 94 a [(0, .pointer (some ⟨p_q, 0, none⟩)), (6, .pointer (some ⟨r1, 0, none⟩)), (11, .pointer (some ⟨r3, 0, none⟩))] ∧ St w0 (Blk r3 31 [.int .i64 t_4.1.At, .int .i64 t_4.1.Gen] :: pq_Queues.R p_q al_q q :: Blk r1 127 [.int .i64 0, .int .i64 0, .int .i64 0, .int .i64 0, .int .i64 0, .int .i64 0, .int .i64 0, .int .i64 0] :: As) w) (fun hk => ?_) ?_
    ·refine Runs.drawn mixed (by kernel_rfl) ?_
     replace H := H.drew
     replace H := pq_Queues.open H
     refine WQ.d hE [0, 1, 2, 3, 4, 5, 6, 7, 8, 9] [.pointer (some ⟨al_q.t__p, 0, none⟩), .pointer (some ⟨al_q.a__p, 0, none⟩)] [(42, .pointer (some ⟨al_q.t__p, 0, none⟩)), (43, .int .i64 t_.1), (47, .pointer (some ⟨al_q.a__p, 0, none⟩)), (48, .int .i64 t_.2.1)] (obs := [.cell ⟨p_q, 2, none⟩ (.pointer (some ⟨al_q.t__p, 0, none⟩)), .cell ⟨p_q, 1, none⟩ (.pointer (some ⟨al_q.a__p, 0, none⟩))]) ⟨H.cell 0 rfl rfl, H.cell 0 rfl rfl, trivial⟩ fun a hE => ?_
     refine WQ.act2 10 15 (by kernel_rfl) ?_ ?_
     ·refine AQ.eff (j := 10) (obs := [.cell ⟨p_q, 2, none⟩ (.pointer (some ⟨al_q.t__p, 0, none⟩))]) hE rfl rfl rfl rfl (by kernel_rfl) (OpTo.fn hE rfl rfl Tryz.call112 (kind_Min_ok et_3 H.t1)) ?_
      rintro _ w ⟨rfl, H⟩
      refine ⟨⟨H.cell 1 rfl rfl, trivial⟩, fun a hE => ?_⟩
      refine WQ.act2 11 15 (by kernel_rfl) ?_ ?_
      ·refine AQ.eff (j := 11) (obs := []) hE rfl rfl rfl rfl (by kernel_rfl) (OpTo.fn hE rfl rfl Tryz.call111 (slots_Table_At_ok et_4 H.t2)) ?_
       rintro _ w ⟨rfl, H⟩
       refine ⟨trivial, fun a hE => ?_⟩
       refine WQ.d0 hE [12, 13, 14] [(51, .agg #[.int .i64 t_4.1.At, .int .i64 t_4.1.Gen]), (52, .bool t_4.2)] fun a hE => ?_
       refine WQ.eff (j := 15) (obs := []) hE (by kernel_rfl) rfl rfl rfl rfl (by kernel_rfl) (OpTo.new hE H [] (.cells #[.int .i64 0, .int .i64 0] 31 (0, 0)) (fun r => .pointer (some ⟨r, 0, none⟩)) (obs := []) rfl (fun _ => by kernel_rfl) trivial) ?_
       rintro _ w ⟨r4, rfl, H⟩
       refine ⟨trivial, fun a hE => ?_⟩
       refine WQ.eff0 (j := 16) (obs := []) hE (by kernel_rfl) rfl rfl rfl (by kernel_rfl) (OpTo.store hE H rfl rfl rfl rfl rfl rfl (Nat.le_of_ble_eq_true rfl)) ?_
       rintro _ w H
       refine ⟨trivial, fun a hE => ?_⟩
       refine WQ.d0 hE [17] [] fun a hE => ?_
       refine WQ.done (by kernel_rfl) ?_
       replace H := pq_Queues.shut al_q (q) H.t4.t2.t3.t4
       exact hk _ _ ⟨r4, hE.sel [0, 6, 11] (by kernel_rfl), H.x3.t2.t1.t2⟩
      ·refine AQ.eff (j := 15) (obs := [.cell ⟨p_q, 2, none⟩ (.pointer (some ⟨al_q.t__p, 0, none⟩))]) hE rfl rfl rfl rfl (by kernel_rfl) (OpTo.new hE H [] (.cells #[.int .i64 0, .int .i64 0] 31 (0, 0)) (fun r => .pointer (some ⟨r, 0, none⟩)) (obs := []) rfl (fun _ => by kernel_rfl) trivial) ?_
       rintro _ w ⟨r5, rfl, H⟩
       refine ⟨⟨H.cell 2 rfl rfl, trivial⟩, fun a hE => ?_⟩
       refine WQ.eff (j := 11) (obs := []) hE (by kernel_rfl) rfl rfl rfl rfl (by kernel_rfl) (OpTo.fn hE rfl rfl Tryz.call111 (slots_Table_At_ok et_4 H.t3)) ?_
       rintro _ w ⟨rfl, H⟩
       refine ⟨trivial, fun a hE => ?_⟩
       refine WQ.d0 hE [12, 13, 14] [(51, .agg #[.int .i64 t_4.1.At, .int .i64 t_4.1.Gen]), (52, .bool t_4.2)] fun a hE => ?_
       refine WQ.eff0 (j := 16) (obs := []) hE (by kernel_rfl) rfl rfl rfl (by kernel_rfl) (OpTo.store hE H.t1 rfl rfl rfl rfl rfl rfl (Nat.le_of_ble_eq_true rfl)) ?_
       rintro _ w H
       refine ⟨trivial, fun a hE => ?_⟩
       refine WQ.d0 hE [17] [] fun a hE => ?_
       refine WQ.done (by kernel_rfl) ?_
       replace H := pq_Queues.shut al_q (q) H.t4.t2.t3.t4
       exact hk _ _ ⟨r5, hE.sel [0, 6, 11] (by kernel_rfl), H.x3.t2.t1.t2⟩
     ·refine AQ.eff (j := 15) (obs := [.cell ⟨p_q, 1, none⟩ (.pointer (some ⟨al_q.a__p, 0, none⟩)), .cell ⟨p_q, 2, none⟩ (.pointer (some ⟨al_q.t__p, 0, none⟩))]) hE rfl rfl rfl rfl (by kernel_rfl) (OpTo.new hE H [] (.cells #[.int .i64 0, .int .i64 0] 31 (0, 0)) (fun r => .pointer (some ⟨r, 0, none⟩)) (obs := []) rfl (fun _ => by kernel_rfl) trivial) ?_
      rintro _ w ⟨r6, rfl, H⟩
      refine ⟨⟨H.cell 1 rfl rfl, H.cell 1 rfl rfl, trivial⟩, fun a hE => ?_⟩
      refine WQ.eff (j := 10) (obs := [.cell ⟨p_q, 2, none⟩ (.pointer (some ⟨al_q.t__p, 0, none⟩))]) hE (by kernel_rfl) rfl rfl rfl rfl (by kernel_rfl) (OpTo.fn hE rfl rfl Tryz.call112 (kind_Min_ok et_3 H.t2)) ?_
      rintro _ w ⟨rfl, H⟩
      refine ⟨⟨H.cell 2 rfl rfl, trivial⟩, fun a hE => ?_⟩
      refine WQ.eff (j := 11) (obs := []) hE (by kernel_rfl) rfl rfl rfl rfl (by kernel_rfl) (OpTo.fn hE rfl rfl Tryz.call111 (slots_Table_At_ok et_4 H.t3)) ?_
      rintro _ w ⟨rfl, H⟩
      refine ⟨trivial, fun a hE => ?_⟩
      refine WQ.d0 hE [12, 13, 14] [(51, .agg #[.int .i64 t_4.1.At, .int .i64 t_4.1.Gen]), (52, .bool t_4.2)] fun a hE => ?_
      refine WQ.eff0 (j := 16) (obs := []) hE (by kernel_rfl) rfl rfl rfl (by kernel_rfl) (OpTo.store hE H.t2 rfl rfl rfl rfl rfl rfl (Nat.le_of_ble_eq_true rfl)) ?_
      rintro _ w H
      refine ⟨trivial, fun a hE => ?_⟩
      refine WQ.d0 hE [17] [] fun a hE => ?_
      refine WQ.done (by kernel_rfl) ?_
      replace H := pq_Queues.shut al_q (q) H.t4.t2.t3.t4
      exact hk _ _ ⟨r6, hE.sel [0, 6, 11] (by kernel_rfl), H.x3.t2.t1.t2⟩
    rintro a w ⟨r3, hE, H⟩
    refine Runs.seq ?_
    refine Runs.drawn mixed (by kernel_rfl) ?_
    replace H := H.drew
    replace H := pq_Queues.open H.t1
    refine WQ.seg hE [0, 1, 2, 3, 4, 5] [.int .i64 t_4.1.At, .int .i64 t_4.1.Gen, .map (some al_q.entries_p), .int .i64 t_4.1.At, .int .i64 t_4.1.Gen] [6, 53, 57, 58] (Lo := [(6, .pointer (some ⟨r1, 0, none⟩)), (53, .agg #[.int .i64 t_4.1.At, .int .i64 t_4.1.Gen]), (57, .map (some al_q.entries_p)), (58, .agg #[.int .i64 t_4.1.At, .int .i64 t_4.1.Gen])]) (obs := [.cell ⟨r3, 0, none⟩ (.int .i64 t_4.1.At), .cell ⟨r3, 1, none⟩ (.int .i64 t_4.1.Gen), .cell ⟨p_q, 3, none⟩ (.map (some al_q.entries_p)), .cell ⟨r3, 0, none⟩ (.int .i64 t_4.1.At), .cell ⟨r3, 1, none⟩ (.int .i64 t_4.1.Gen)]) (by kernel_rfl) (by kernel_rfl) ⟨H.cell 4 rfl rfl, H.cell 4 rfl rfl, H.cell 0 rfl rfl, H.cell 4 rfl rfl, H.cell 4 rfl rfl, trivial⟩ fun a hE => ?_
    obtain ⟨x, ex, hm⟩ := bind_some hm
    refine WQ.eff (j := 6) (obs := [.cell ⟨r3, 0, none⟩ (.int .i64 t_4.1.At), .cell ⟨r3, 1, none⟩ (.int .i64 t_4.1.Gen)]) hE (by kernel_rfl) rfl rfl rfl rfl (by kernel_rfl) (OpTo.mpGet 3 hE H rfl api_Ref.key_ok ex rfl rfl rfl rfl rfl rfl) ?_
    rintro _ _ ⟨rfl, rfl⟩
    refine ⟨⟨H.cell 4 rfl rfl, H.cell 4 rfl rfl, trivial⟩, fun a hE => ?_⟩
    refine WQ.d0 hE [7] [(60, .agg #[.int .i64 0, .int .i64 0, .int .i64 0, .int .i64 t_4.1.At, .int .i64 t_4.1.Gen, .int .i64 x.1.Key, .int .i64 x.1.Serial, .int .i64 0])] fun a hE => ?_
    refine WQ.eff0 (j := 8) (obs := []) hE (by kernel_rfl) rfl rfl rfl (by kernel_rfl) (OpTo.store hE H.t5 rfl rfl rfl rfl rfl rfl (Nat.le_of_ble_eq_true rfl)) ?_
    rintro _ w H
    refine ⟨trivial, fun a hE => ?_⟩
    refine WQ.done (by kernel_rfl) ?_
    refine Runs.retO (vs := [.agg #[.int .i64 0, .int .i64 0, .int .i64 0, .int .i64 t_4.1.At, .int .i64 t_4.1.Gen, .int .i64 x.1.Key, .int .i64 x.1.Serial, .int .i64 0]]) (obs := [.cell ⟨r1, 0, none⟩ (.int .i64 0), .cell ⟨r1, 1, none⟩ (.int .i64 0), .cell ⟨r1, 2, none⟩ (.int .i64 0), .cell ⟨r1, 3, none⟩ (.int .i64 t_4.1.At), .cell ⟨r1, 4, none⟩ (.int .i64 t_4.1.Gen), .cell ⟨r1, 5, none⟩ (.int .i64 x.1.Key), .cell ⟨r1, 6, none⟩ (.int .i64 x.1.Serial), .cell ⟨r1, 7, none⟩ (.int .i64 0)]) hE Tryz.func78 rfl [.int .i64 0, .int .i64 0, .int .i64 0, .int .i64 t_4.1.At, .int .i64 t_4.1.Gen, .int .i64 x.1.Key, .int .i64 x.1.Serial, .int .i64 0] (by kernel_rfl) ⟨H.cell 0 rfl rfl, H.cell 0 rfl rfl, H.cell 0 rfl rfl, H.cell 0 rfl rfl, H.cell 0 rfl rfl, H.cell 0 rfl rfl, H.cell 0 rfl rfl, H.cell 0 rfl rfl, trivial⟩ ?_
    replace H := pq_Queues.shut al_q (q) H.t4.t4.t4.t4
    cases hm
    exact ⟨rfl, H.x2.x1⟩
   ·replace hm := cond_f c hm
    refine Runs.skip ?_
    refine Runs.sr ?_
    refine WR.d hE 6 [.pointer (some ⟨al_q.a__p, 0, none⟩)] [(62, .int .i64 t_.1), (66, .pointer (some ⟨al_q.a__p, 0, none⟩)), (67, .int .i64 t_.2.1)] (obs := [.cell ⟨p_q, 1, none⟩ (.pointer (some ⟨al_q.a__p, 0, none⟩))]) ⟨H.cell 1 rfl rfl, trivial⟩ fun a hE => ?_
    obtain ⟨t_5, et_5, hm⟩ := bind_some hm
    refine WR.eff hE rfl rfl rfl rfl (OpTo.fn hE rfl rfl Tryz.call113 (kind_Pop_ok et_5 H.t2)) ?_
    rintro _ w ⟨rfl, H⟩ a hE
    refine WR.e0 hE [(8, .int .i64 t_5.1), (13, .int .i64 t_5.2)] fun a hE => ?_
    refine Runs.sr ?_
    refine WR.d hE 5 [.pointer (some ⟨al_q.t__p, 0, none⟩)] [(75, .pointer (some ⟨al_q.t__p, 0, none⟩)), (76, .int .i64 t_5.2)] (obs := [.cell ⟨p_q, 2, none⟩ (.pointer (some ⟨al_q.t__p, 0, none⟩))]) ⟨H.cell 2 rfl rfl, trivial⟩ fun a hE => ?_
    obtain ⟨t_6, et_6, hm⟩ := bind_some hm
    refine WR.eff hE rfl rfl rfl rfl (OpTo.fn hE rfl rfl Tryz.call111 (slots_Table_At_ok et_6 H.t1)) ?_
    rintro _ w ⟨rfl, H⟩ a hE
    refine WR.d0 hE 9 [(78, .agg #[.int .i64 t_6.1.At, .int .i64 t_6.1.Gen]), (79, .bool t_6.2)] fun a hE => ?_
    refine WR.eff hE rfl rfl rfl rfl (OpTo.new hE H [] (.cells #[.int .i64 0, .int .i64 0] 31 (0, 0)) (fun r => .pointer (some ⟨r, 0, none⟩)) (obs := []) rfl (fun _ => by kernel_rfl) trivial) ?_
    rintro _ w ⟨r7, rfl, H⟩ a hE
    refine WR.eff0 hE rfl rfl rfl (OpTo.store hE H rfl rfl rfl rfl rfl rfl (Nat.le_of_ble_eq_true rfl)) ?_
    rintro _ w H a hE
    refine WR.e0 hE [] fun a hE => ?_
    refine Runs.seq ?_
    refine Runs.drawn mixed (by kernel_rfl) ?_
    replace H := H.drew
    refine WQ.d hE [0, 1, 2, 3, 4, 5, 6, 7] [.pointer (some ⟨al_q.t__p, 0, none⟩), .int .i64 h_.At, .int .i64 h_.Gen] [(83, .pointer (some ⟨al_q.t__p, 0, none⟩)), (84, .agg #[.int .i64 h_.At, .int .i64 h_.Gen]), (85, .int .i64 t_5.1), (87, .int .i64 (w64 (t_.2.2.1 - 1)))] (obs := [.cell ⟨p_q, 2, none⟩ (.pointer (some ⟨al_q.t__p, 0, none⟩)), .cell ⟨r, 0, none⟩ (.int .i64 h_.At), .cell ⟨r, 1, none⟩ (.int .i64 h_.Gen)]) ⟨H.cell 3 rfl rfl, H.cell 6 rfl rfl, H.cell 6 rfl rfl, trivial⟩ fun a hE => ?_
    obtain ⟨t_7, et_7, hm⟩ := bind_some hm
    refine WQ.eff (j := 8) (obs := []) hE (by kernel_rfl) rfl rfl rfl rfl (by kernel_rfl) (OpTo.fn hE rfl rfl Tryz.call110 (slots_Table_Root_ok et_7 H.t1)) ?_
    rintro _ w ⟨rfl, H⟩
    refine ⟨trivial, fun a hE => ?_⟩
    refine WQ.done (by kernel_rfl) ?_
    refine Runs.seq ?_
    refine Runs.drawn mixed (by kernel_rfl) ?_
    replace H := H.drew
    refine WQ.d hE [0, 1, 2] [.int .i64 t_6.1.At, .int .i64 t_6.1.Gen, .int .i64 t_6.1.At, .int .i64 t_6.1.Gen] [(89, .agg #[.int .i64 t_6.1.At, .int .i64 t_6.1.Gen]), (90, .pointer (some ⟨p_q, 0, none⟩)), (91, .agg #[.int .i64 t_6.1.At, .int .i64 t_6.1.Gen])] (obs := [.cell ⟨r7, 0, none⟩ (.int .i64 t_6.1.At), .cell ⟨r7, 1, none⟩ (.int .i64 t_6.1.Gen), .cell ⟨r7, 0, none⟩ (.int .i64 t_6.1.At), .cell ⟨r7, 1, none⟩ (.int .i64 t_6.1.Gen)]) ⟨H.cell 1 rfl rfl, H.cell 1 rfl rfl, H.cell 1 rfl rfl, H.cell 1 rfl rfl, trivial⟩ fun a hE => ?_
    replace H := pq_Queues.shut al_q (pq_Queues.mk q.items q.a_ t_7.2 q.entries q.serial) H.t4.t1.t3.t4
    obtain ⟨t_8, et_8, hm⟩ := bind_some hm
    refine WQ.eff (j := 3) (obs := [.cell ⟨r7, 0, none⟩ (.int .i64 t_6.1.At), .cell ⟨r7, 1, none⟩ (.int .i64 t_6.1.Gen)]) hE (by kernel_rfl) rfl rfl rfl rfl (by kernel_rfl) (OpTo.fn hE rfl rfl Tryz.call114 (pq_Queues_gone_ok et_8 H)) ?_
    rintro _ w ⟨rfl, H⟩
    refine ⟨⟨H.cell 1 rfl rfl, H.cell 1 rfl rfl, trivial⟩, fun a hE => ?_⟩
    refine WQ.d0 hE [4] [(93, .agg #[.int .i64 0, .int .i64 0, .int .i64 0, .int .i64 t_6.1.At, .int .i64 t_6.1.Gen, .int .i64 t_8.Key, .int .i64 t_8.Serial, .int .i64 0])] fun a hE => ?_
    refine WQ.eff0 (j := 5) (obs := []) hE (by kernel_rfl) rfl rfl rfl (by kernel_rfl) (OpTo.store hE H.t2 rfl rfl rfl rfl rfl rfl (Nat.le_of_ble_eq_true rfl)) ?_
    rintro _ w H
    refine ⟨trivial, fun a hE => ?_⟩
    refine WQ.done (by kernel_rfl) ?_
    refine Runs.retO (vs := [.agg #[.int .i64 0, .int .i64 0, .int .i64 0, .int .i64 t_6.1.At, .int .i64 t_6.1.Gen, .int .i64 t_8.Key, .int .i64 t_8.Serial, .int .i64 0]]) (obs := [.cell ⟨r1, 0, none⟩ (.int .i64 0), .cell ⟨r1, 1, none⟩ (.int .i64 0), .cell ⟨r1, 2, none⟩ (.int .i64 0), .cell ⟨r1, 3, none⟩ (.int .i64 t_6.1.At), .cell ⟨r1, 4, none⟩ (.int .i64 t_6.1.Gen), .cell ⟨r1, 5, none⟩ (.int .i64 t_8.Key), .cell ⟨r1, 6, none⟩ (.int .i64 t_8.Serial), .cell ⟨r1, 7, none⟩ (.int .i64 0)]) hE Tryz.func78 rfl [.int .i64 0, .int .i64 0, .int .i64 0, .int .i64 t_6.1.At, .int .i64 t_6.1.Gen, .int .i64 t_8.Key, .int .i64 t_8.Serial, .int .i64 0] (by kernel_rfl) ⟨H.cell 0 rfl rfl, H.cell 0 rfl rfl, H.cell 0 rfl rfl, H.cell 0 rfl rfl, H.cell 0 rfl rfl, H.cell 0 rfl rfl, H.cell 0 rfl rfl, H.cell 0 rfl rfl, trivial⟩ ?_
    cases hm
    exact ⟨rfl, H.x3.x2.x0⟩

theorem pq_Queues_decrease_ok {w0 w : World} {As : List HP} {p_q : Nat} {al_q : pq_Queues.A} {q : pq_Queues} {c_ : api_Call} {t : api_Answer}  (hm : pq_Queues_decrease q c_ = some t) (H : St w0 (pq_Queues.R p_q al_q q :: As) w) :
    CallsR Tryz.prog 79 #[.pointer (some ⟨p_q, 0, none⟩), .agg #[.int .i64 c_.Op, .int .i64 c_.Kind, .int .i64 c_.Heap.At, .int .i64 c_.Heap.Gen, .int .i64 c_.Other.At, .int .i64 c_.Other.Gen, .int .i64 c_.Item.At, .int .i64 c_.Item.Gen, .int .i64 c_.Key]] w fun v w' => v = .agg #[.int .i64 t.Why, .int .i64 t.Heap.At, .int .i64 t.Heap.Gen, .int .i64 t.Item.At, .int .i64 t.Item.Gen, .int .i64 t.Entry.Key, .int .i64 t.Entry.Serial, .int .i64 t.N] ∧ St w0 (pq_Queues.R p_q al_q q :: As) w' := by
  rw [pq_Queues_decrease] at hm
  cases hm

theorem pq_Queues_remove_ok {w0 w : World} {As : List HP} {p_q : Nat} {al_q : pq_Queues.A} {q : pq_Queues} {i : api_Ref} {t : api_Answer}  (hm : pq_Queues_remove q i = some t) (H : St w0 (pq_Queues.R p_q al_q q :: As) w) :
    CallsR Tryz.prog 80 #[.pointer (some ⟨p_q, 0, none⟩), .agg #[.int .i64 i.At, .int .i64 i.Gen]] w fun v w' => v = .agg #[.int .i64 t.Why, .int .i64 t.Heap.At, .int .i64 t.Heap.Gen, .int .i64 t.Item.At, .int .i64 t.Item.Gen, .int .i64 t.Entry.Key, .int .i64 t.Entry.Serial, .int .i64 t.N] ∧ St w0 (pq_Queues.R p_q al_q q :: As) w' := by
  rw [pq_Queues_remove] at hm
  cases hm

theorem pq_Queues_meld_ok {w0 w : World} {As : List HP} {p_q : Nat} {al_q : pq_Queues.A} {q : pq_Queues} {h_ : api_Ref} {o : api_Ref} {t : api_Answer}  (hm : pq_Queues_meld q h_ o = some t) (H : St w0 (pq_Queues.R p_q al_q q :: As) w) :
    CallsR Tryz.prog 81 #[.pointer (some ⟨p_q, 0, none⟩), .agg #[.int .i64 h_.At, .int .i64 h_.Gen], .agg #[.int .i64 o.At, .int .i64 o.Gen]] w fun v w' => v = .agg #[.int .i64 t.Why, .int .i64 t.Heap.At, .int .i64 t.Heap.Gen, .int .i64 t.Item.At, .int .i64 t.Item.Gen, .int .i64 t.Entry.Key, .int .i64 t.Entry.Serial, .int .i64 t.N] ∧ St w0 (pq_Queues.R p_q al_q q :: As) w' := by
  rw [pq_Queues_meld] at hm
  cases hm

theorem pq_Queues_destroy_ok {w0 w : World} {As : List HP} {p_q : Nat} {al_q : pq_Queues.A} {q : pq_Queues} {h_ : api_Ref} {t : api_Answer}  (hm : pq_Queues_destroy q h_ = some t) (H : St w0 (pq_Queues.R p_q al_q q :: As) w) :
    CallsR Tryz.prog 83 #[.pointer (some ⟨p_q, 0, none⟩), .agg #[.int .i64 h_.At, .int .i64 h_.Gen]] w fun v w' => v = .agg #[.int .i64 t.Why, .int .i64 t.Heap.At, .int .i64 t.Heap.Gen, .int .i64 t.Item.At, .int .i64 t.Item.Gen, .int .i64 t.Entry.Key, .int .i64 t.Entry.Serial, .int .i64 t.N] ∧ St w0 (pq_Queues.R p_q al_q q :: As) w' := by
  rw [pq_Queues_destroy] at hm
  cases hm

theorem pq_Queues_Do_ok {w0 w : World} {As : List HP} {p_q : Nat} {al_q : pq_Queues.A} {q : pq_Queues} {c_ : api_Call} {t : api_Answer × pq_Queues}  (hm : pq_Queues_Do q c_ = some t) (H : St w0 (pq_Queues.R p_q al_q q :: As) w) :
    CallsR Tryz.prog 56 #[.pointer (some ⟨p_q, 0, none⟩), .agg #[.int .i64 c_.Op, .int .i64 c_.Kind, .int .i64 c_.Heap.At, .int .i64 c_.Heap.Gen, .int .i64 c_.Other.At, .int .i64 c_.Other.Gen, .int .i64 c_.Item.At, .int .i64 c_.Item.Gen, .int .i64 c_.Key]] w fun v w' => ∃ (z_q_t__a : slots_Table.A), v = .agg #[.int .i64 t.1.Why, .int .i64 t.1.Heap.At, .int .i64 t.1.Heap.Gen, .int .i64 t.1.Item.At, .int .i64 t.1.Item.Gen, .int .i64 t.1.Entry.Key, .int .i64 t.1.Entry.Serial, .int .i64 t.1.N] ∧ St w0 (pq_Queues.R p_q (pq_Queues.A.mk al_q.a__p al_q.a__a al_q.t__p z_q_t__a al_q.entries_p) t.2 :: As) w' := by
 rw [pq_Queues_Do] at hm
 refine enter (args := [.pointer (some ⟨p_q, 0, none⟩), .agg #[.int .i64 c_.Op, .int .i64 c_.Kind, .int .i64 c_.Heap.At, .int .i64 c_.Heap.Gen, .int .i64 c_.Other.At, .int .i64 c_.Other.Gen, .int .i64 c_.Item.At, .int .i64 c_.Item.Gen, .int .i64 c_.Key]]) Tryz.func56 rfl rfl rfl fun a hE => ?_
 refine Runs.sr ?_
 refine WR.eff hE rfl rfl rfl rfl (OpTo.new hE H [] (.cells #[.int .i64 c_.Op, .int .i64 c_.Kind, .int .i64 c_.Heap.At, .int .i64 c_.Heap.Gen, .int .i64 c_.Other.At, .int .i64 c_.Other.Gen, .int .i64 c_.Item.At, .int .i64 c_.Item.Gen, .int .i64 c_.Key] 130 (0, 0)) (fun r => .pointer (some ⟨r, 0, none⟩)) (obs := []) rfl (fun _ => by kernel_rfl) trivial) ?_
 rintro _ w ⟨r, rfl, H⟩ a hE
 refine WR.eff hE rfl rfl rfl rfl (OpTo.new hE H [] (.cells #[.int .i64 0, .int .i64 0, .int .i64 0, .int .i64 0, .int .i64 0, .int .i64 0, .int .i64 0, .int .i64 0] 127 (0, 0)) (fun r => .pointer (some ⟨r, 0, none⟩)) (obs := []) rfl (fun _ => by kernel_rfl) trivial) ?_
 rintro _ w ⟨r1, rfl, H⟩ a hE
 refine WR.done rfl ?_
 refine Runs.sr ?_
 replace H := pq_Queues.open H.t2
 refine WR.seg hE 4 [.pointer (some ⟨al_q.a__p, 0, none⟩)] [0, 3, 4, 14] (Lo := [(0, .pointer (some ⟨p_q, 0, none⟩)), (3, .pointer (some ⟨r, 0, none⟩)), (4, .pointer (some ⟨r1, 0, none⟩)), (14, .pointer (some ⟨al_q.a__p, 0, none⟩))]) (obs := [.cell ⟨p_q, 1, none⟩ (.pointer (some ⟨al_q.a__p, 0, none⟩))]) rfl (by kernel_rfl) ⟨H.cell 0 rfl rfl, trivial⟩ fun a hE => ?_
 obtain ⟨t_, et_, hm⟩ := bind_some hm
 refine WR.eff hE rfl rfl rfl rfl (OpTo.fn hE rfl rfl Tryz.call74 (arena_Arena_Meter_ok et_ H.t1)) ?_
 rintro _ w ⟨rfl, H⟩ a hE
 replace H := arena_Arena.open H
 obtain ⟨t_1, et_1, hm⟩ := bind_some hm
 refine WR.eff hE rfl rfl rfl rfl (OpTo.fn hE rfl rfl Tryz.call75 (meter_Meter_Begin_ok et_1 H.t3)) ?_
 rintro _ w ⟨rfl, H⟩ a hE
 refine WR.done rfl ?_
 refine Runs.seq ?_
 refine Runs.sr ?_
 refine WR.e hE [.int .i64 c_.Op] [(18, .int .i64 c_.Op)] (obs := [.cell ⟨r, 0, none⟩ (.int .i64 c_.Op)]) ⟨H.cell 8 rfl rfl, trivial⟩ fun a hE => ?_
 refine Runs.block ?_
 refine Runs.sr ?_
 refine WR.e0 hE [(19, .bool (c_.Op == 1))] fun a hE => ?_
 refine Runs.cond hE rfl (fun c => ?_) (fun c => ?_)
 ·replace hm := cond_t c hm
  refine Runs.seq ?_
  replace H := arena_Arena.shut al_q.a__a (arena_Arena.mk q.a_.l q.a_.never q.a_.free t_1) H.t3.t3.t3
  replace H := pq_Queues.shut al_q (pq_Queues.mk q.items (arena_Arena.mk q.a_.l q.a_.never q.a_.free t_1) q.t_ q.entries q.serial) H.t3.t3.t2.t3
  obtain ⟨t_2, et_2, hm⟩ := bind_some hm
  refine Runs.join (fun a w => ∃ (r3 : Nat), ∃ (z1 : slots_Table.A), EnvOk 94 a [(4, .pointer (some ⟨r1, 0, none⟩)), (5, .pointer (some ⟨r3, 0, none⟩)), (6, .int .i64 t_2.2.1)] ∧ St w0 (Blk r3 31 [.int .i64 t_2.1.At, .int .i64 t_2.1.Gen] :: pq_Queues.R p_q (pq_Queues.A.mk al_q.a__p al_q.a__a al_q.t__p z1 al_q.entries_p) (pq_Queues.mk q.items (arena_Arena.mk q.a_.l q.a_.never q.a_.free t_1) t_2.2.2 q.entries q.serial) :: Blk r1 127 [.int .i64 0, .int .i64 0, .int .i64 0, .int .i64 0, .int .i64 0, .int .i64 0, .int .i64 0, .int .i64 0] :: As) w) (fun hk => ?_) ?_
  ·refine Runs.drawn mixed (by kernel_rfl) ?_
   replace H := H.drew
   replace H := pq_Queues.open H
   try dsimp only at H
   refine WQ.d hE [0, 1, 2, 3, 4, 5] [.pointer (some ⟨al_q.t__p, 0, none⟩), .int .i64 c_.Kind] [(25, .pointer (some ⟨al_q.t__p, 0, none⟩)), (27, .int .i64 c_.Kind)] (obs := [.cell ⟨p_q, 2, none⟩ (.pointer (some ⟨al_q.t__p, 0, none⟩)), .cell ⟨r, 1, none⟩ (.int .i64 c_.Kind)]) ⟨H.cell 0 rfl rfl, H.cell 5 rfl rfl, trivial⟩ fun a hE => ?_
   refine WQ.act2 6 10 (by kernel_rfl) ?_ ?_
   ·refine AQ.eff (j := 6) (obs := []) hE rfl rfl rfl rfl (by kernel_rfl) (OpTo.fn hE rfl rfl Tryz.call76 (slots_Table_Make_ok et_2 H.t2)) ?_
    rintro _ w ⟨z2, rfl, H⟩
    refine ⟨trivial, fun a hE => ?_⟩
    refine WQ.d0 hE [7, 8, 9] [(29, .agg #[.int .i64 t_2.1.At, .int .i64 t_2.1.Gen]), (30, .int .i64 t_2.2.1)] fun a hE => ?_
    refine WQ.eff (j := 10) (obs := []) hE (by kernel_rfl) rfl rfl rfl rfl (by kernel_rfl) (OpTo.new hE H [] (.cells #[.int .i64 0, .int .i64 0] 31 (0, 0)) (fun r => .pointer (some ⟨r, 0, none⟩)) (obs := []) rfl (fun _ => by kernel_rfl) trivial) ?_
    rintro _ w ⟨r4, rfl, H⟩
    refine ⟨trivial, fun a hE => ?_⟩
    refine WQ.eff0 (j := 11) (obs := []) hE (by kernel_rfl) rfl rfl rfl (by kernel_rfl) (OpTo.store hE H rfl rfl rfl rfl rfl rfl (Nat.le_of_ble_eq_true rfl)) ?_
    rintro _ w H
    refine ⟨trivial, fun a hE => ?_⟩
    refine WQ.d0 hE [12] [(6, .int .i64 t_2.2.1)] fun a hE => ?_
    refine WQ.done (by kernel_rfl) ?_
    replace H := pq_Queues.shut (pq_Queues.A.mk al_q.a__p al_q.a__a al_q.t__p (slots_Table.A.mk al_q.t__a.heaps_p z2 al_q.t__a.items_p al_q.t__a.items_a al_q.t__a.at__p) al_q.entries_p) (pq_Queues.mk q.items (arena_Arena.mk q.a_.l q.a_.never q.a_.free t_1) t_2.2.2 q.entries q.serial) H.t4.t2.t4.t4
    exact hk _ _ ⟨r4, slots_Table.A.mk al_q.t__a.heaps_p z2 al_q.t__a.items_p al_q.t__a.items_a al_q.t__a.at__p, hE.sel [4, 5, 6] (by kernel_rfl), H.x3.t2.t1.t2⟩
   ·refine AQ.eff (j := 10) (obs := [.cell ⟨r, 1, none⟩ (.int .i64 c_.Kind), .cell ⟨p_q, 2, none⟩ (.pointer (some ⟨al_q.t__p, 0, none⟩))]) hE rfl rfl rfl rfl (by kernel_rfl) (OpTo.new hE H [] (.cells #[.int .i64 0, .int .i64 0] 31 (0, 0)) (fun r => .pointer (some ⟨r, 0, none⟩)) (obs := []) rfl (fun _ => by kernel_rfl) trivial) ?_
    rintro _ w ⟨r5, rfl, H⟩
    refine ⟨⟨H.cell 6 rfl rfl, H.cell 1 rfl rfl, trivial⟩, fun a hE => ?_⟩
    refine WQ.eff (j := 6) (obs := []) hE (by kernel_rfl) rfl rfl rfl rfl (by kernel_rfl) (OpTo.fn hE rfl rfl Tryz.call76 (slots_Table_Make_ok et_2 H.t3)) ?_
    rintro _ w ⟨z3, rfl, H⟩
    refine ⟨trivial, fun a hE => ?_⟩
    refine WQ.d0 hE [7, 8, 9] [(29, .agg #[.int .i64 t_2.1.At, .int .i64 t_2.1.Gen]), (30, .int .i64 t_2.2.1)] fun a hE => ?_
    refine WQ.eff0 (j := 11) (obs := []) hE (by kernel_rfl) rfl rfl rfl (by kernel_rfl) (OpTo.store hE H.t1 rfl rfl rfl rfl rfl rfl (Nat.le_of_ble_eq_true rfl)) ?_
    rintro _ w H
    refine ⟨trivial, fun a hE => ?_⟩
    refine WQ.d0 hE [12] [(6, .int .i64 t_2.2.1)] fun a hE => ?_
    refine WQ.done (by kernel_rfl) ?_
    replace H := pq_Queues.shut (pq_Queues.A.mk al_q.a__p al_q.a__a al_q.t__p (slots_Table.A.mk al_q.t__a.heaps_p z3 al_q.t__a.items_p al_q.t__a.items_a al_q.t__a.at__p) al_q.entries_p) (pq_Queues.mk q.items (arena_Arena.mk q.a_.l q.a_.never q.a_.free t_1) t_2.2.2 q.entries q.serial) H.t4.t2.t4.t4
    exact hk _ _ ⟨r5, slots_Table.A.mk al_q.t__a.heaps_p z3 al_q.t__a.items_p al_q.t__a.items_a al_q.t__a.at__p, hE.sel [4, 5, 6] (by kernel_rfl), H.x3.t2.t1.t2⟩
  rintro a w ⟨r3, z1, hE, H⟩
  refine Runs.sr ?_
  refine WR.seg hE 3 [.int .i64 t_2.1.At, .int .i64 t_2.1.Gen] [4, 33] (Lo := [(4, .pointer (some ⟨r1, 0, none⟩)), (33, .agg #[.int .i64 t_2.2.1, .int .i64 t_2.1.At, .int .i64 t_2.1.Gen, .int .i64 0, .int .i64 0, .int .i64 0, .int .i64 0, .int .i64 0])]) (obs := [.cell ⟨r3, 0, none⟩ (.int .i64 t_2.1.At), .cell ⟨r3, 1, none⟩ (.int .i64 t_2.1.Gen)]) rfl (by kernel_rfl) ⟨H.cell 0 rfl rfl, H.cell 0 rfl rfl, trivial⟩ fun a hE => ?_
  refine WR.eff0 hE rfl rfl rfl (OpTo.store hE H.t2 rfl rfl rfl rfl rfl rfl (Nat.le_of_ble_eq_true rfl)) ?_
  rintro _ w H a hE
  refine WR.done rfl ?_
  refine Runs.retO (vs := [.agg #[.int .i64 t_2.2.1, .int .i64 t_2.1.At, .int .i64 t_2.1.Gen, .int .i64 0, .int .i64 0, .int .i64 0, .int .i64 0, .int .i64 0]]) (obs := [.cell ⟨r1, 0, none⟩ (.int .i64 t_2.2.1), .cell ⟨r1, 1, none⟩ (.int .i64 t_2.1.At), .cell ⟨r1, 2, none⟩ (.int .i64 t_2.1.Gen), .cell ⟨r1, 3, none⟩ (.int .i64 0), .cell ⟨r1, 4, none⟩ (.int .i64 0), .cell ⟨r1, 5, none⟩ (.int .i64 0), .cell ⟨r1, 6, none⟩ (.int .i64 0), .cell ⟨r1, 7, none⟩ (.int .i64 0)]) hE Tryz.func56 rfl [.int .i64 t_2.2.1, .int .i64 t_2.1.At, .int .i64 t_2.1.Gen, .int .i64 0, .int .i64 0, .int .i64 0, .int .i64 0, .int .i64 0] (by kernel_rfl) ⟨H.cell 0 rfl rfl, H.cell 0 rfl rfl, H.cell 0 rfl rfl, H.cell 0 rfl rfl, H.cell 0 rfl rfl, H.cell 0 rfl rfl, H.cell 0 rfl rfl, H.cell 0 rfl rfl, trivial⟩ ?_
  cases hm
  exact ⟨z1, rfl, H.x1.x0⟩
 ·replace hm := cond_f c hm
  refine Runs.sr ?_
  refine WR.e0 hE [(34, .bool (c_.Op == 2))] fun a hE => ?_
  refine Runs.cond hE rfl (fun c => ?_) (fun c => ?_)
  ·replace hm := cond_t c hm
   refine Runs.sr ?_
   refine WR.d hE 2 [.int .i64 c_.Op, .int .i64 c_.Kind, .int .i64 c_.Heap.At, .int .i64 c_.Heap.Gen, .int .i64 c_.Other.At, .int .i64 c_.Other.Gen, .int .i64 c_.Item.At, .int .i64 c_.Item.Gen, .int .i64 c_.Key] [(36, .pointer (some ⟨p_q, 0, none⟩)), (37, .agg #[.int .i64 c_.Op, .int .i64 c_.Kind, .int .i64 c_.Heap.At, .int .i64 c_.Heap.Gen, .int .i64 c_.Other.At, .int .i64 c_.Other.Gen, .int .i64 c_.Item.At, .int .i64 c_.Item.Gen, .int .i64 c_.Key])] (obs := [.cell ⟨r, 0, none⟩ (.int .i64 c_.Op), .cell ⟨r, 1, none⟩ (.int .i64 c_.Kind), .cell ⟨r, 2, none⟩ (.int .i64 c_.Heap.At), .cell ⟨r, 3, none⟩ (.int .i64 c_.Heap.Gen), .cell ⟨r, 4, none⟩ (.int .i64 c_.Other.At), .cell ⟨r, 5, none⟩ (.int .i64 c_.Other.Gen), .cell ⟨r, 6, none⟩ (.int .i64 c_.Item.At), .cell ⟨r, 7, none⟩ (.int .i64 c_.Item.Gen), .cell ⟨r, 8, none⟩ (.int .i64 c_.Key)]) ⟨H.cell 8 rfl rfl, H.cell 8 rfl rfl, H.cell 8 rfl rfl, H.cell 8 rfl rfl, H.cell 8 rfl rfl, H.cell 8 rfl rfl, H.cell 8 rfl rfl, H.cell 8 rfl rfl, H.cell 8 rfl rfl, trivial⟩ fun a hE => ?_
   replace H := arena_Arena.shut al_q.a__a (arena_Arena.mk q.a_.l q.a_.never q.a_.free t_1) H.t3.t3.t3
   replace H := pq_Queues.shut al_q (pq_Queues.mk q.items (arena_Arena.mk q.a_.l q.a_.never q.a_.free t_1) q.t_ q.entries q.serial) H.t3.t3.t2.t3
   obtain ⟨t_3, et_3, hm⟩ := bind_some hm
   refine WR.eff hE rfl rfl rfl rfl (OpTo.fn hE rfl rfl Tryz.call77 (pq_Queues_insert_ok et_3 H)) ?_
   rintro _ w ⟨rfl, H⟩ a hE
   refine WR.eff0 hE rfl rfl rfl (OpTo.store hE H.t1 rfl rfl rfl rfl rfl rfl (Nat.le_of_ble_eq_true rfl)) ?_
   rintro _ w H a hE
   refine WR.done rfl ?_
   refine Runs.retO (vs := [.agg #[.int .i64 t_3.Why, .int .i64 t_3.Heap.At, .int .i64 t_3.Heap.Gen, .int .i64 t_3.Item.At, .int .i64 t_3.Item.Gen, .int .i64 t_3.Entry.Key, .int .i64 t_3.Entry.Serial, .int .i64 t_3.N]]) (obs := [.cell ⟨r1, 0, none⟩ (.int .i64 t_3.Why), .cell ⟨r1, 1, none⟩ (.int .i64 t_3.Heap.At), .cell ⟨r1, 2, none⟩ (.int .i64 t_3.Heap.Gen), .cell ⟨r1, 3, none⟩ (.int .i64 t_3.Item.At), .cell ⟨r1, 4, none⟩ (.int .i64 t_3.Item.Gen), .cell ⟨r1, 5, none⟩ (.int .i64 t_3.Entry.Key), .cell ⟨r1, 6, none⟩ (.int .i64 t_3.Entry.Serial), .cell ⟨r1, 7, none⟩ (.int .i64 t_3.N)]) hE Tryz.func56 rfl [.int .i64 t_3.Why, .int .i64 t_3.Heap.At, .int .i64 t_3.Heap.Gen, .int .i64 t_3.Item.At, .int .i64 t_3.Item.Gen, .int .i64 t_3.Entry.Key, .int .i64 t_3.Entry.Serial, .int .i64 t_3.N] (by kernel_rfl) ⟨H.cell 0 rfl rfl, H.cell 0 rfl rfl, H.cell 0 rfl rfl, H.cell 0 rfl rfl, H.cell 0 rfl rfl, H.cell 0 rfl rfl, H.cell 0 rfl rfl, H.cell 0 rfl rfl, trivial⟩ ?_
   cases hm
   exact ⟨al_q.t__a, rfl, H.x2.x0⟩
  ·replace hm := cond_f c hm
   refine Runs.sr ?_
   refine WR.e0 hE [(39, .bool (c_.Op == 3))] fun a hE => ?_
   refine Runs.cond hE rfl (fun c => ?_) (fun c => ?_)
   ·replace hm := cond_t c hm
    refine Runs.sr ?_
    refine WR.d hE 3 [.int .i64 c_.Heap.At, .int .i64 c_.Heap.Gen] [(41, .pointer (some ⟨p_q, 0, none⟩)), (43, .agg #[.int .i64 c_.Heap.At, .int .i64 c_.Heap.Gen])] (obs := [.cell ⟨r, 2, none⟩ (.int .i64 c_.Heap.At), .cell ⟨r, 3, none⟩ (.int .i64 c_.Heap.Gen)]) ⟨H.cell 8 rfl rfl, H.cell 8 rfl rfl, trivial⟩ fun a hE => ?_
    replace H := arena_Arena.shut al_q.a__a (arena_Arena.mk q.a_.l q.a_.never q.a_.free t_1) H.t3.t3.t3
    replace H := pq_Queues.shut al_q (pq_Queues.mk q.items (arena_Arena.mk q.a_.l q.a_.never q.a_.free t_1) q.t_ q.entries q.serial) H.t3.t3.t2.t3
    obtain ⟨t_4, et_4, hm⟩ := bind_some hm
    refine WR.eff hE rfl rfl rfl rfl (OpTo.fn hE rfl rfl Tryz.call78 (pq_Queues_min_ok et_4 H)) ?_
    rintro _ w ⟨rfl, H⟩ a hE
    refine WR.eff0 hE rfl rfl rfl (OpTo.store hE H.t1 rfl rfl rfl rfl rfl rfl (Nat.le_of_ble_eq_true rfl)) ?_
    rintro _ w H a hE
    refine WR.done rfl ?_
    refine Runs.retO (vs := [.agg #[.int .i64 t_4.1.Why, .int .i64 t_4.1.Heap.At, .int .i64 t_4.1.Heap.Gen, .int .i64 t_4.1.Item.At, .int .i64 t_4.1.Item.Gen, .int .i64 t_4.1.Entry.Key, .int .i64 t_4.1.Entry.Serial, .int .i64 t_4.1.N]]) (obs := [.cell ⟨r1, 0, none⟩ (.int .i64 t_4.1.Why), .cell ⟨r1, 1, none⟩ (.int .i64 t_4.1.Heap.At), .cell ⟨r1, 2, none⟩ (.int .i64 t_4.1.Heap.Gen), .cell ⟨r1, 3, none⟩ (.int .i64 t_4.1.Item.At), .cell ⟨r1, 4, none⟩ (.int .i64 t_4.1.Item.Gen), .cell ⟨r1, 5, none⟩ (.int .i64 t_4.1.Entry.Key), .cell ⟨r1, 6, none⟩ (.int .i64 t_4.1.Entry.Serial), .cell ⟨r1, 7, none⟩ (.int .i64 t_4.1.N)]) hE Tryz.func56 rfl [.int .i64 t_4.1.Why, .int .i64 t_4.1.Heap.At, .int .i64 t_4.1.Heap.Gen, .int .i64 t_4.1.Item.At, .int .i64 t_4.1.Item.Gen, .int .i64 t_4.1.Entry.Key, .int .i64 t_4.1.Entry.Serial, .int .i64 t_4.1.N] (by kernel_rfl) ⟨H.cell 0 rfl rfl, H.cell 0 rfl rfl, H.cell 0 rfl rfl, H.cell 0 rfl rfl, H.cell 0 rfl rfl, H.cell 0 rfl rfl, H.cell 0 rfl rfl, H.cell 0 rfl rfl, trivial⟩ ?_
    cases hm
    exact ⟨al_q.t__a, rfl, H.x2.x0⟩
   ·replace hm := cond_f c hm
    refine Runs.sr ?_
    refine WR.e0 hE [(45, .bool (c_.Op == 4))] fun a hE => ?_
    refine Runs.cond hE rfl (fun c => ?_) (fun c => ?_)
    ·replace hm := cond_t c hm
     refine Runs.sr ?_
     refine WR.d hE 3 [.int .i64 c_.Heap.At, .int .i64 c_.Heap.Gen] [(47, .pointer (some ⟨p_q, 0, none⟩)), (49, .agg #[.int .i64 c_.Heap.At, .int .i64 c_.Heap.Gen])] (obs := [.cell ⟨r, 2, none⟩ (.int .i64 c_.Heap.At), .cell ⟨r, 3, none⟩ (.int .i64 c_.Heap.Gen)]) ⟨H.cell 8 rfl rfl, H.cell 8 rfl rfl, trivial⟩ fun a hE => ?_
     replace H := arena_Arena.shut al_q.a__a (arena_Arena.mk q.a_.l q.a_.never q.a_.free t_1) H.t3.t3.t3
     replace H := pq_Queues.shut al_q (pq_Queues.mk q.items (arena_Arena.mk q.a_.l q.a_.never q.a_.free t_1) q.t_ q.entries q.serial) H.t3.t3.t2.t3
     obtain ⟨t_5, et_5, hm⟩ := bind_some hm
     refine WR.eff hE rfl rfl rfl rfl (OpTo.fn hE rfl rfl Tryz.call78 (pq_Queues_min_ok et_5 H)) ?_
     rintro _ w ⟨rfl, H⟩ a hE
     refine WR.eff0 hE rfl rfl rfl (OpTo.store hE H.t1 rfl rfl rfl rfl rfl rfl (Nat.le_of_ble_eq_true rfl)) ?_
     rintro _ w H a hE
     refine WR.done rfl ?_
     refine Runs.retO (vs := [.agg #[.int .i64 t_5.1.Why, .int .i64 t_5.1.Heap.At, .int .i64 t_5.1.Heap.Gen, .int .i64 t_5.1.Item.At, .int .i64 t_5.1.Item.Gen, .int .i64 t_5.1.Entry.Key, .int .i64 t_5.1.Entry.Serial, .int .i64 t_5.1.N]]) (obs := [.cell ⟨r1, 0, none⟩ (.int .i64 t_5.1.Why), .cell ⟨r1, 1, none⟩ (.int .i64 t_5.1.Heap.At), .cell ⟨r1, 2, none⟩ (.int .i64 t_5.1.Heap.Gen), .cell ⟨r1, 3, none⟩ (.int .i64 t_5.1.Item.At), .cell ⟨r1, 4, none⟩ (.int .i64 t_5.1.Item.Gen), .cell ⟨r1, 5, none⟩ (.int .i64 t_5.1.Entry.Key), .cell ⟨r1, 6, none⟩ (.int .i64 t_5.1.Entry.Serial), .cell ⟨r1, 7, none⟩ (.int .i64 t_5.1.N)]) hE Tryz.func56 rfl [.int .i64 t_5.1.Why, .int .i64 t_5.1.Heap.At, .int .i64 t_5.1.Heap.Gen, .int .i64 t_5.1.Item.At, .int .i64 t_5.1.Item.Gen, .int .i64 t_5.1.Entry.Key, .int .i64 t_5.1.Entry.Serial, .int .i64 t_5.1.N] (by kernel_rfl) ⟨H.cell 0 rfl rfl, H.cell 0 rfl rfl, H.cell 0 rfl rfl, H.cell 0 rfl rfl, H.cell 0 rfl rfl, H.cell 0 rfl rfl, H.cell 0 rfl rfl, H.cell 0 rfl rfl, trivial⟩ ?_
     cases hm
     exact ⟨al_q.t__a, rfl, H.x2.x0⟩
    ·replace hm := cond_f c hm
     refine Runs.sr ?_
     refine WR.e0 hE [(51, .bool (c_.Op == 5))] fun a hE => ?_
     refine Runs.cond hE rfl (fun c => ?_) (fun c => ?_)
     ·replace hm := cond_t c hm
      refine Runs.sr ?_
      refine WR.d hE 2 [.int .i64 c_.Op, .int .i64 c_.Kind, .int .i64 c_.Heap.At, .int .i64 c_.Heap.Gen, .int .i64 c_.Other.At, .int .i64 c_.Other.Gen, .int .i64 c_.Item.At, .int .i64 c_.Item.Gen, .int .i64 c_.Key] [(53, .pointer (some ⟨p_q, 0, none⟩)), (54, .agg #[.int .i64 c_.Op, .int .i64 c_.Kind, .int .i64 c_.Heap.At, .int .i64 c_.Heap.Gen, .int .i64 c_.Other.At, .int .i64 c_.Other.Gen, .int .i64 c_.Item.At, .int .i64 c_.Item.Gen, .int .i64 c_.Key])] (obs := [.cell ⟨r, 0, none⟩ (.int .i64 c_.Op), .cell ⟨r, 1, none⟩ (.int .i64 c_.Kind), .cell ⟨r, 2, none⟩ (.int .i64 c_.Heap.At), .cell ⟨r, 3, none⟩ (.int .i64 c_.Heap.Gen), .cell ⟨r, 4, none⟩ (.int .i64 c_.Other.At), .cell ⟨r, 5, none⟩ (.int .i64 c_.Other.Gen), .cell ⟨r, 6, none⟩ (.int .i64 c_.Item.At), .cell ⟨r, 7, none⟩ (.int .i64 c_.Item.Gen), .cell ⟨r, 8, none⟩ (.int .i64 c_.Key)]) ⟨H.cell 8 rfl rfl, H.cell 8 rfl rfl, H.cell 8 rfl rfl, H.cell 8 rfl rfl, H.cell 8 rfl rfl, H.cell 8 rfl rfl, H.cell 8 rfl rfl, H.cell 8 rfl rfl, H.cell 8 rfl rfl, trivial⟩ fun a hE => ?_
      replace H := arena_Arena.shut al_q.a__a (arena_Arena.mk q.a_.l q.a_.never q.a_.free t_1) H.t3.t3.t3
      replace H := pq_Queues.shut al_q (pq_Queues.mk q.items (arena_Arena.mk q.a_.l q.a_.never q.a_.free t_1) q.t_ q.entries q.serial) H.t3.t3.t2.t3
      obtain ⟨t_6, et_6, hm⟩ := bind_some hm
      refine WR.eff hE rfl rfl rfl rfl (OpTo.fn hE rfl rfl Tryz.call79 (pq_Queues_decrease_ok et_6 H)) ?_
      rintro _ w ⟨rfl, H⟩ a hE
      refine WR.eff0 hE rfl rfl rfl (OpTo.store hE H.t1 rfl rfl rfl rfl rfl rfl (Nat.le_of_ble_eq_true rfl)) ?_
      rintro _ w H a hE
      refine WR.done rfl ?_
      refine Runs.retO (vs := [.agg #[.int .i64 t_6.Why, .int .i64 t_6.Heap.At, .int .i64 t_6.Heap.Gen, .int .i64 t_6.Item.At, .int .i64 t_6.Item.Gen, .int .i64 t_6.Entry.Key, .int .i64 t_6.Entry.Serial, .int .i64 t_6.N]]) (obs := [.cell ⟨r1, 0, none⟩ (.int .i64 t_6.Why), .cell ⟨r1, 1, none⟩ (.int .i64 t_6.Heap.At), .cell ⟨r1, 2, none⟩ (.int .i64 t_6.Heap.Gen), .cell ⟨r1, 3, none⟩ (.int .i64 t_6.Item.At), .cell ⟨r1, 4, none⟩ (.int .i64 t_6.Item.Gen), .cell ⟨r1, 5, none⟩ (.int .i64 t_6.Entry.Key), .cell ⟨r1, 6, none⟩ (.int .i64 t_6.Entry.Serial), .cell ⟨r1, 7, none⟩ (.int .i64 t_6.N)]) hE Tryz.func56 rfl [.int .i64 t_6.Why, .int .i64 t_6.Heap.At, .int .i64 t_6.Heap.Gen, .int .i64 t_6.Item.At, .int .i64 t_6.Item.Gen, .int .i64 t_6.Entry.Key, .int .i64 t_6.Entry.Serial, .int .i64 t_6.N] (by kernel_rfl) ⟨H.cell 0 rfl rfl, H.cell 0 rfl rfl, H.cell 0 rfl rfl, H.cell 0 rfl rfl, H.cell 0 rfl rfl, H.cell 0 rfl rfl, H.cell 0 rfl rfl, H.cell 0 rfl rfl, trivial⟩ ?_
      cases hm
      exact ⟨al_q.t__a, rfl, H.x2.x0⟩
     ·replace hm := cond_f c hm
      refine Runs.sr ?_
      refine WR.e0 hE [(56, .bool (c_.Op == 6))] fun a hE => ?_
      refine Runs.cond hE rfl (fun c => ?_) (fun c => ?_)
      ·replace hm := cond_t c hm
       refine Runs.sr ?_
       refine WR.d hE 3 [.int .i64 c_.Item.At, .int .i64 c_.Item.Gen] [(58, .pointer (some ⟨p_q, 0, none⟩)), (60, .agg #[.int .i64 c_.Item.At, .int .i64 c_.Item.Gen])] (obs := [.cell ⟨r, 6, none⟩ (.int .i64 c_.Item.At), .cell ⟨r, 7, none⟩ (.int .i64 c_.Item.Gen)]) ⟨H.cell 8 rfl rfl, H.cell 8 rfl rfl, trivial⟩ fun a hE => ?_
       replace H := arena_Arena.shut al_q.a__a (arena_Arena.mk q.a_.l q.a_.never q.a_.free t_1) H.t3.t3.t3
       replace H := pq_Queues.shut al_q (pq_Queues.mk q.items (arena_Arena.mk q.a_.l q.a_.never q.a_.free t_1) q.t_ q.entries q.serial) H.t3.t3.t2.t3
       obtain ⟨t_7, et_7, hm⟩ := bind_some hm
       refine WR.eff hE rfl rfl rfl rfl (OpTo.fn hE rfl rfl Tryz.call80 (pq_Queues_remove_ok et_7 H)) ?_
       rintro _ w ⟨rfl, H⟩ a hE
       refine WR.eff0 hE rfl rfl rfl (OpTo.store hE H.t1 rfl rfl rfl rfl rfl rfl (Nat.le_of_ble_eq_true rfl)) ?_
       rintro _ w H a hE
       refine WR.done rfl ?_
       refine Runs.retO (vs := [.agg #[.int .i64 t_7.Why, .int .i64 t_7.Heap.At, .int .i64 t_7.Heap.Gen, .int .i64 t_7.Item.At, .int .i64 t_7.Item.Gen, .int .i64 t_7.Entry.Key, .int .i64 t_7.Entry.Serial, .int .i64 t_7.N]]) (obs := [.cell ⟨r1, 0, none⟩ (.int .i64 t_7.Why), .cell ⟨r1, 1, none⟩ (.int .i64 t_7.Heap.At), .cell ⟨r1, 2, none⟩ (.int .i64 t_7.Heap.Gen), .cell ⟨r1, 3, none⟩ (.int .i64 t_7.Item.At), .cell ⟨r1, 4, none⟩ (.int .i64 t_7.Item.Gen), .cell ⟨r1, 5, none⟩ (.int .i64 t_7.Entry.Key), .cell ⟨r1, 6, none⟩ (.int .i64 t_7.Entry.Serial), .cell ⟨r1, 7, none⟩ (.int .i64 t_7.N)]) hE Tryz.func56 rfl [.int .i64 t_7.Why, .int .i64 t_7.Heap.At, .int .i64 t_7.Heap.Gen, .int .i64 t_7.Item.At, .int .i64 t_7.Item.Gen, .int .i64 t_7.Entry.Key, .int .i64 t_7.Entry.Serial, .int .i64 t_7.N] (by kernel_rfl) ⟨H.cell 0 rfl rfl, H.cell 0 rfl rfl, H.cell 0 rfl rfl, H.cell 0 rfl rfl, H.cell 0 rfl rfl, H.cell 0 rfl rfl, H.cell 0 rfl rfl, H.cell 0 rfl rfl, trivial⟩ ?_
       cases hm
       exact ⟨al_q.t__a, rfl, H.x2.x0⟩
      ·replace hm := cond_f c hm
       refine Runs.sr ?_
       refine WR.e0 hE [(62, .bool (c_.Op == 7))] fun a hE => ?_
       refine Runs.cond hE rfl (fun c => ?_) (fun c => ?_)
       ·replace hm := cond_t c hm
        refine Runs.sr ?_
        refine WR.d hE 5 [.int .i64 c_.Heap.At, .int .i64 c_.Heap.Gen, .int .i64 c_.Other.At, .int .i64 c_.Other.Gen] [(64, .pointer (some ⟨p_q, 0, none⟩)), (66, .agg #[.int .i64 c_.Heap.At, .int .i64 c_.Heap.Gen]), (68, .agg #[.int .i64 c_.Other.At, .int .i64 c_.Other.Gen])] (obs := [.cell ⟨r, 2, none⟩ (.int .i64 c_.Heap.At), .cell ⟨r, 3, none⟩ (.int .i64 c_.Heap.Gen), .cell ⟨r, 4, none⟩ (.int .i64 c_.Other.At), .cell ⟨r, 5, none⟩ (.int .i64 c_.Other.Gen)]) ⟨H.cell 8 rfl rfl, H.cell 8 rfl rfl, H.cell 8 rfl rfl, H.cell 8 rfl rfl, trivial⟩ fun a hE => ?_
        replace H := arena_Arena.shut al_q.a__a (arena_Arena.mk q.a_.l q.a_.never q.a_.free t_1) H.t3.t3.t3
        replace H := pq_Queues.shut al_q (pq_Queues.mk q.items (arena_Arena.mk q.a_.l q.a_.never q.a_.free t_1) q.t_ q.entries q.serial) H.t3.t3.t2.t3
        obtain ⟨t_8, et_8, hm⟩ := bind_some hm
        refine WR.eff hE rfl rfl rfl rfl (OpTo.fn hE rfl rfl Tryz.call81 (pq_Queues_meld_ok et_8 H)) ?_
        rintro _ w ⟨rfl, H⟩ a hE
        refine WR.eff0 hE rfl rfl rfl (OpTo.store hE H.t1 rfl rfl rfl rfl rfl rfl (Nat.le_of_ble_eq_true rfl)) ?_
        rintro _ w H a hE
        refine WR.done rfl ?_
        refine Runs.retO (vs := [.agg #[.int .i64 t_8.Why, .int .i64 t_8.Heap.At, .int .i64 t_8.Heap.Gen, .int .i64 t_8.Item.At, .int .i64 t_8.Item.Gen, .int .i64 t_8.Entry.Key, .int .i64 t_8.Entry.Serial, .int .i64 t_8.N]]) (obs := [.cell ⟨r1, 0, none⟩ (.int .i64 t_8.Why), .cell ⟨r1, 1, none⟩ (.int .i64 t_8.Heap.At), .cell ⟨r1, 2, none⟩ (.int .i64 t_8.Heap.Gen), .cell ⟨r1, 3, none⟩ (.int .i64 t_8.Item.At), .cell ⟨r1, 4, none⟩ (.int .i64 t_8.Item.Gen), .cell ⟨r1, 5, none⟩ (.int .i64 t_8.Entry.Key), .cell ⟨r1, 6, none⟩ (.int .i64 t_8.Entry.Serial), .cell ⟨r1, 7, none⟩ (.int .i64 t_8.N)]) hE Tryz.func56 rfl [.int .i64 t_8.Why, .int .i64 t_8.Heap.At, .int .i64 t_8.Heap.Gen, .int .i64 t_8.Item.At, .int .i64 t_8.Item.Gen, .int .i64 t_8.Entry.Key, .int .i64 t_8.Entry.Serial, .int .i64 t_8.N] (by kernel_rfl) ⟨H.cell 0 rfl rfl, H.cell 0 rfl rfl, H.cell 0 rfl rfl, H.cell 0 rfl rfl, H.cell 0 rfl rfl, H.cell 0 rfl rfl, H.cell 0 rfl rfl, H.cell 0 rfl rfl, trivial⟩ ?_
        cases hm
        exact ⟨al_q.t__a, rfl, H.x2.x0⟩
       ·replace hm := cond_f c hm
        refine Runs.sr ?_
        refine WR.e0 hE [(70, .bool (c_.Op == 8))] fun a hE => ?_
        refine Runs.cond hE rfl (fun c => ?_) (fun c => ?_)
        ·replace hm := cond_t c hm
         refine Runs.seq ?_
         refine Runs.drawn mixed (by kernel_rfl) ?_
         replace H := H.drew
         refine WQ.d hE [0, 1, 2, 3, 4, 5] [.pointer (some ⟨al_q.t__p, 0, none⟩), .int .i64 c_.Heap.At, .int .i64 c_.Heap.Gen] [(76, .pointer (some ⟨al_q.t__p, 0, none⟩)), (78, .agg #[.int .i64 c_.Heap.At, .int .i64 c_.Heap.Gen])] (obs := [.cell ⟨p_q, 2, none⟩ (.pointer (some ⟨al_q.t__p, 0, none⟩)), .cell ⟨r, 2, none⟩ (.int .i64 c_.Heap.At), .cell ⟨r, 3, none⟩ (.int .i64 c_.Heap.Gen)]) ⟨H.cell 4 rfl rfl, H.cell 8 rfl rfl, H.cell 8 rfl rfl, trivial⟩ fun a hE => ?_
         obtain ⟨t_9, et_9, hm⟩ := bind_some hm
         refine WQ.eff (j := 6) (obs := []) hE (by kernel_rfl) rfl rfl rfl rfl (by kernel_rfl) (OpTo.fn hE rfl rfl Tryz.call82 (slots_Table_Heap_ok et_9 H.t5)) ?_
         rintro _ w ⟨rfl, H⟩
         refine ⟨trivial, fun a hE => ?_⟩
         refine WQ.d0 hE [7, 8, 9, 10, 11, 12, 13, 14, 15] [(9, .int .i64 t_9.2.2.1), (10, .int .i64 t_9.2.2.2)] fun a hE => ?_
         refine WQ.done (by kernel_rfl) ?_
         refine Runs.sr ?_
         refine WR.d0 hE 3 [(86, .agg #[.int .i64 t_9.2.2.2, .int .i64 0, .int .i64 0, .int .i64 0, .int .i64 0, .int .i64 0, .int .i64 0, .int .i64 t_9.2.2.1])] fun a hE => ?_
         refine WR.eff0 hE rfl rfl rfl (OpTo.store hE H.t7 rfl rfl rfl rfl rfl rfl (Nat.le_of_ble_eq_true rfl)) ?_
         rintro _ w H a hE
         refine WR.done rfl ?_
         refine Runs.retO (vs := [.agg #[.int .i64 t_9.2.2.2, .int .i64 0, .int .i64 0, .int .i64 0, .int .i64 0, .int .i64 0, .int .i64 0, .int .i64 t_9.2.2.1]]) (obs := [.cell ⟨r1, 0, none⟩ (.int .i64 t_9.2.2.2), .cell ⟨r1, 1, none⟩ (.int .i64 0), .cell ⟨r1, 2, none⟩ (.int .i64 0), .cell ⟨r1, 3, none⟩ (.int .i64 0), .cell ⟨r1, 4, none⟩ (.int .i64 0), .cell ⟨r1, 5, none⟩ (.int .i64 0), .cell ⟨r1, 6, none⟩ (.int .i64 0), .cell ⟨r1, 7, none⟩ (.int .i64 t_9.2.2.1)]) hE Tryz.func56 rfl [.int .i64 t_9.2.2.2, .int .i64 0, .int .i64 0, .int .i64 0, .int .i64 0, .int .i64 0, .int .i64 0, .int .i64 t_9.2.2.1] (by kernel_rfl) ⟨H.cell 0 rfl rfl, H.cell 0 rfl rfl, H.cell 0 rfl rfl, H.cell 0 rfl rfl, H.cell 0 rfl rfl, H.cell 0 rfl rfl, H.cell 0 rfl rfl, H.cell 0 rfl rfl, trivial⟩ ?_
         replace H := arena_Arena.shut al_q.a__a (arena_Arena.mk q.a_.l q.a_.never q.a_.free t_1) H.t2.t5.t5.t5
         replace H := pq_Queues.shut al_q (pq_Queues.mk q.items (arena_Arena.mk q.a_.l q.a_.never q.a_.free t_1) q.t_ q.entries q.serial) H.t4.t3.t2.t4
         cases hm
         exact ⟨al_q.t__a, rfl, H.x2.x1⟩
        ·replace hm := cond_f c hm
         refine Runs.sr ?_
         refine WR.e0 hE [(87, .bool (c_.Op == 9))] fun a hE => ?_
         refine Runs.cond hE rfl (fun c => ?_) (fun c => ?_)
         ·replace hm := cond_t c hm
          refine Runs.sr ?_
          refine WR.d hE 3 [.int .i64 c_.Heap.At, .int .i64 c_.Heap.Gen] [(89, .pointer (some ⟨p_q, 0, none⟩)), (91, .agg #[.int .i64 c_.Heap.At, .int .i64 c_.Heap.Gen])] (obs := [.cell ⟨r, 2, none⟩ (.int .i64 c_.Heap.At), .cell ⟨r, 3, none⟩ (.int .i64 c_.Heap.Gen)]) ⟨H.cell 8 rfl rfl, H.cell 8 rfl rfl, trivial⟩ fun a hE => ?_
          replace H := arena_Arena.shut al_q.a__a (arena_Arena.mk q.a_.l q.a_.never q.a_.free t_1) H.t3.t3.t3
          replace H := pq_Queues.shut al_q (pq_Queues.mk q.items (arena_Arena.mk q.a_.l q.a_.never q.a_.free t_1) q.t_ q.entries q.serial) H.t3.t3.t2.t3
          obtain ⟨t_10, et_10, hm⟩ := bind_some hm
          refine WR.eff hE rfl rfl rfl rfl (OpTo.fn hE rfl rfl Tryz.call83 (pq_Queues_destroy_ok et_10 H)) ?_
          rintro _ w ⟨rfl, H⟩ a hE
          refine WR.eff0 hE rfl rfl rfl (OpTo.store hE H.t1 rfl rfl rfl rfl rfl rfl (Nat.le_of_ble_eq_true rfl)) ?_
          rintro _ w H a hE
          refine WR.done rfl ?_
          refine Runs.retO (vs := [.agg #[.int .i64 t_10.Why, .int .i64 t_10.Heap.At, .int .i64 t_10.Heap.Gen, .int .i64 t_10.Item.At, .int .i64 t_10.Item.Gen, .int .i64 t_10.Entry.Key, .int .i64 t_10.Entry.Serial, .int .i64 t_10.N]]) (obs := [.cell ⟨r1, 0, none⟩ (.int .i64 t_10.Why), .cell ⟨r1, 1, none⟩ (.int .i64 t_10.Heap.At), .cell ⟨r1, 2, none⟩ (.int .i64 t_10.Heap.Gen), .cell ⟨r1, 3, none⟩ (.int .i64 t_10.Item.At), .cell ⟨r1, 4, none⟩ (.int .i64 t_10.Item.Gen), .cell ⟨r1, 5, none⟩ (.int .i64 t_10.Entry.Key), .cell ⟨r1, 6, none⟩ (.int .i64 t_10.Entry.Serial), .cell ⟨r1, 7, none⟩ (.int .i64 t_10.N)]) hE Tryz.func56 rfl [.int .i64 t_10.Why, .int .i64 t_10.Heap.At, .int .i64 t_10.Heap.Gen, .int .i64 t_10.Item.At, .int .i64 t_10.Item.Gen, .int .i64 t_10.Entry.Key, .int .i64 t_10.Entry.Serial, .int .i64 t_10.N] (by kernel_rfl) ⟨H.cell 0 rfl rfl, H.cell 0 rfl rfl, H.cell 0 rfl rfl, H.cell 0 rfl rfl, H.cell 0 rfl rfl, H.cell 0 rfl rfl, H.cell 0 rfl rfl, H.cell 0 rfl rfl, trivial⟩ ?_
          cases hm
          exact ⟨al_q.t__a, rfl, H.x2.x0⟩
         ·replace hm := cond_f c hm
          refine Runs.skip ?_
          refine Runs.inBlock ?_
          refine Runs.sr ?_
          obtain ⟨t_11, et_11, hm⟩ := bind_some hm
          refine WR.eff hE rfl rfl rfl rfl (OpTo.fn hE rfl rfl Tryz.call84 (pq_refused_ok et_11 H)) ?_
          rintro _ w ⟨rfl, H⟩ a hE
          refine WR.eff0 hE rfl rfl rfl (OpTo.store hE H.t7 rfl rfl rfl rfl rfl rfl (Nat.le_of_ble_eq_true rfl)) ?_
          rintro _ w H a hE
          refine WR.done rfl ?_
          refine Runs.retO (vs := [.agg #[.int .i64 t_11.Why, .int .i64 t_11.Heap.At, .int .i64 t_11.Heap.Gen, .int .i64 t_11.Item.At, .int .i64 t_11.Item.Gen, .int .i64 t_11.Entry.Key, .int .i64 t_11.Entry.Serial, .int .i64 t_11.N]]) (obs := [.cell ⟨r1, 0, none⟩ (.int .i64 t_11.Why), .cell ⟨r1, 1, none⟩ (.int .i64 t_11.Heap.At), .cell ⟨r1, 2, none⟩ (.int .i64 t_11.Heap.Gen), .cell ⟨r1, 3, none⟩ (.int .i64 t_11.Item.At), .cell ⟨r1, 4, none⟩ (.int .i64 t_11.Item.Gen), .cell ⟨r1, 5, none⟩ (.int .i64 t_11.Entry.Key), .cell ⟨r1, 6, none⟩ (.int .i64 t_11.Entry.Serial), .cell ⟨r1, 7, none⟩ (.int .i64 t_11.N)]) hE Tryz.func56 rfl [.int .i64 t_11.Why, .int .i64 t_11.Heap.At, .int .i64 t_11.Heap.Gen, .int .i64 t_11.Item.At, .int .i64 t_11.Item.Gen, .int .i64 t_11.Entry.Key, .int .i64 t_11.Entry.Serial, .int .i64 t_11.N] (by kernel_rfl) ⟨H.cell 0 rfl rfl, H.cell 0 rfl rfl, H.cell 0 rfl rfl, H.cell 0 rfl rfl, H.cell 0 rfl rfl, H.cell 0 rfl rfl, H.cell 0 rfl rfl, H.cell 0 rfl rfl, trivial⟩ ?_
          replace H := arena_Arena.shut al_q.a__a (arena_Arena.mk q.a_.l q.a_.never q.a_.free t_1) H.t1.t4.t4.t4
          replace H := pq_Queues.shut al_q (pq_Queues.mk q.items (arena_Arena.mk q.a_.l q.a_.never q.a_.free t_1) q.t_ q.entries q.serial) H.t4.t4.t2.t4
          cases hm
          exact ⟨al_q.t__a, rfl, H.x2.x1⟩

end Go.Proofs.YtdcjghailibedaaGreat
