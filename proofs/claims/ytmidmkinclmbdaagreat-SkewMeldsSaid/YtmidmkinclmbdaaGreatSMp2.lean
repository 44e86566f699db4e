import Derived.Test.YtmidmkinclmbdaaGreatSMp1
set_option linter.unusedVariables false
set_option linter.unusedSimpArgs false
set_option maxRecDepth 10000
set_option maxHeartbeats 4000000
namespace Go.Proofs.YtmidmkinclmbdaaGreat
open Go.Th

theorem skew_without_ok {w0 w : World} {As : List HP} {k : Nat} {p_a_ : Nat} {al_a_ : arena_Arena.A} {a_ : arena_Arena} {sb_l : Option Addr} {sc_l : Nat} {l : List Int} {n : Int} {t : Int × Int × arena_Arena}  (hm : skew_without k a_ l n = some t) (H : St w0 (arena_Arena.R p_a_ al_a_ a_ :: Sl 3 ecI 1 sb_l sc_l l :: As) w) :
    CallsR Tryz.prog 80 #[.pointer (some ⟨p_a_, 0, none⟩), .slice sb_l l.length sc_l, .int .i64 n] w fun v w' => ∃ (z_a__free_b : Option Addr), ∃ (z_a__free_c : Nat), v = .tuple #[.int .i64 t.1, .int .i64 t.2.1] ∧ St w0 (arena_Arena.R p_a_ (arena_Arena.A.mk al_a_.l_b al_a_.l_c z_a__free_b z_a__free_c al_a_.m__p) t.2.2 :: As) w' := by
 rw [skew_without] at hm
 refine enter (args := [.pointer (some ⟨p_a_, 0, none⟩), .slice sb_l l.length sc_l, .int .i64 n]) Tryz.func80 rfl rfl rfl fun a hE => ?_
 refine Runs.sr ?_
 refine WR.eff hE rfl rfl rfl rfl (OpTo.new hE H [] (.cells #[.int .i64 n] 3 (0, 0)) (fun r => .pointer (some ⟨r, 0, none⟩)) (obs := []) rfl (fun _ => by kernel_rfl) trivial) ?_
 rintro _ w ⟨r, rfl, H⟩ a hE
 refine WR.seg hE 3 [] [0, 1, 5] (Lo := [(0, .pointer (some ⟨p_a_, 0, none⟩)), (1, .slice sb_l l.length sc_l), (5, .pointer (some ⟨r, 0, none⟩))]) (obs := []) rfl (by kernel_rfl) trivial fun a hE => ?_
 refine WR.done rfl ?_
 refine Runs.sr ?_
 refine WR.d0 hE 2 [(16, .slice sb_l l.length sc_l), (17, .func (.func 117) #[] #[.pointer (some ⟨r, 0, none⟩)])] fun a hE => ?_
 obtain ⟨t_, et_, hm⟩ := bind_some hm
 refine WR.eff hE rfl rfl rfl rfl (OpTo.fn hE rfl rfl Tryz.call104 (slices_DeleteFunc_int_g117_ok et_ H.t2)) ?_
 rintro _ w ⟨sb, sc, rfl, H⟩ a hE
 refine WR.e0 hE [(8, .slice sb t_.length sc)] fun a hE => ?_
 refine Runs.sr ?_
 refine WR.e0 hE [(9, .slice none 0 0)] fun a hE => ?_
 refine Runs.seq ?_
 refine Runs.sr ?_
 refine WR.d hE 2 [.int .i64 n] [(19, .pointer (some ⟨p_a_, 0, none⟩)), (20, .int .i64 n)] (obs := [.cell ⟨r, 0, none⟩ (.int .i64 n)]) ⟨H.cell 1 rfl rfl, trivial⟩ fun a hE => ?_
 obtain ⟨t_1, et_1, hm⟩ := bind_some hm
 refine WR.eff hE rfl rfl rfl rfl (OpTo.fn hE rfl rfl Tryz.call106 (trees_Kids_ok et_1 H.t2)) ?_
 rintro _ w ⟨sb1, sc1, rfl, H⟩ a hE
 refine WR.e0 hE [(22, .int .i64 (t_1.1.length : Int)), (23, .int .i64 0)] fun a hE => ?_
 obtain ⟨s, es, hm⟩ := bind_some hm
 refine Runs.join (fun a w => ∃ (sb4 : Option Addr), ∃ (sc4 : Nat), ∃ (sb5 : Option Addr), ∃ (sc5 : Nat), EnvOk 59 a [(0, .pointer (some ⟨p_a_, 0, none⟩)), (5, .pointer (some ⟨r, 0, none⟩)), (8, .slice sb4 s.1.length sc4), (9, .slice sb5 s.2.1.length sc5)] ∧ St w0 (Sl 3 ecI 1 sb4 sc4 s.1 :: Sl 3 ecI 1 sb5 sc5 s.2.1 :: arena_Arena.R p_a_ al_a_ s.2.2 :: Blk r 3 [.int .i64 n] :: As) w) (fun hk => ?_) ?_
 ·replace hm := es; clear es
  replace H := H.slNil 3 ecI 1
  refine Runs.block ?_
  refine Runs.loop (fun m a w => ∃ (rest : List Int), ∃ (alone : List Int), ∃ (x : Int), ∃ (m_ : arena_Arena), ∃ (sb6 : Option Addr), ∃ (sc6 : Nat), ∃ (sb7 : Option Addr), ∃ (sc7 : Nat), EnvOk 59 a [(0, .pointer (some ⟨p_a_, 0, none⟩)), (5, .pointer (some ⟨r, 0, none⟩)), (8, .slice sb6 rest.length sc6), (9, .slice sb7 alone.length sc7), (21, .slice sb1 t_1.1.length sc1), (22, .int .i64 (t_1.1.length : Int)), (23, .int .i64 x)] ∧ St w0 (Sl 3 ecI 1 sb6 sc6 rest :: Sl 3 ecI 1 sb7 sc7 alone :: Sl 3 ecI 1 sb1 sc1 t_1.1 :: arena_Arena.R p_a_ al_a_ m_ :: Blk r 3 [.int .i64 n] :: As) w ∧ skew_without_l0 (t_1.1.length : Int) t_1.1 n m rest alone x m_ = some s) k ⟨t_, ([] : List Int), 0, t_1.2, sb, sc, none, 0, hE.sel [0, 5, 8, 9, 21, 22, 23] (by kernel_rfl), H.t4.t3.t3.t3.t4, hm⟩ ?_
  rintro m ih a w ⟨rest, alone, x, m_, sb6, sc6, sb7, sc7, hE, H, hm⟩
  cases m with
  | zero => simp [skew_without_l0] at hm
  | succ m =>
   rw [skew_without_l0] at hm
   refine Runs.sr ?_
   refine WR.seg hE 1 [] [0, 5, 8, 9, 21, 22, 23, 24] (Lo := [(0, .pointer (some ⟨p_a_, 0, none⟩)), (5, .pointer (some ⟨r, 0, none⟩)), (8, .slice sb6 rest.length sc6), (9, .slice sb7 alone.length sc7), (21, .slice sb1 t_1.1.length sc1), (22, .int .i64 (t_1.1.length : Int)), (23, .int .i64 x), (24, .bool (decide (x < (t_1.1.length : Int))))]) (obs := []) rfl (by kernel_rfl) trivial fun a hE => ?_
   refine WR.done rfl ?_
   refine Runs.seq ?_
   refine Runs.cond hE rfl (fun c => ?_) (fun c => ?_)
   ·replace hm := cond_t c hm
    refine Runs.skip ?_
    refine Runs.seq ?_
    obtain ⟨s1, es1, hm⟩ := bind_some hm
    refine Runs.join (fun a w => ∃ (sb8 : Option Addr), ∃ (sc8 : Nat), ∃ (sb9 : Option Addr), ∃ (sc9 : Nat), EnvOk 59 a [(0, .pointer (some ⟨p_a_, 0, none⟩)), (5, .pointer (some ⟨r, 0, none⟩)), (8, .slice sb8 s1.1.length sc8), (9, .slice sb9 s1.2.1.length sc9), (21, .slice sb1 t_1.1.length sc1), (22, .int .i64 (t_1.1.length : Int)), (23, .int .i64 x)] ∧ St w0 (Sl 3 ecI 1 sb8 sc8 s1.1 :: Sl 3 ecI 1 sb9 sc9 s1.2.1 :: Sl 3 ecI 1 sb1 sc1 t_1.1 :: arena_Arena.R p_a_ al_a_ s1.2.2 :: Blk r 3 [.int .i64 n] :: As) w) (fun hk => ?_) ?_
    ·replace hm := es1; clear es1
     refine Runs.block ?_
     refine Runs.sr ?_
     obtain ⟨x2, ex2, hm⟩ := bind_some hm
     obtain ⟨b, o, hs, hb⟩ := SlRd.base (sl_rd 3 ecI 1 _ _ _) ecI_ok H 2 rfl ex2
     refine WR.e hE [.pointer (some ⟨b, o, none⟩), .int .i64 x2] [(11, .int .i64 x2)] (obs := [.p ((sb1 : Option Addr) = some ⟨b, o, none⟩), .p (0 ≤ (x : Int) ∧ (x : Int) < ((t_1.1.length : Nat) : Int)), .cell ⟨b, o + (Int.toNat x) * 1, none⟩ (.int .i64 x2)]) ⟨hs, hb, SlRd.cells (sl_rd 3 ecI 1 _ _ _) ecI_ok H 2 rfl hs ex2 0 _ rfl, trivial⟩ fun a hE => ?_
     refine Runs.sr ?_
     refine WR.d0 hE 2 [(27, .pointer (some ⟨p_a_, 0, none⟩)), (28, .int .i64 x2)] fun a hE => ?_
     obtain ⟨t_2, et_2, hm⟩ := bind_some hm
     refine WR.eff hE rfl rfl rfl rfl (OpTo.fn hE rfl rfl Tryz.call65 (arena_Arena_Get_ok et_2 H.t3)) ?_
     rintro _ w ⟨rfl, hf1, hf, H⟩ a hE
     refine WR.e0 hE [(30, .bool (t_2.1 == 0))] fun a hE => ?_
     refine Runs.cond hE rfl (fun c => ?_) (fun c => ?_)
     ·replace hm := cond_t c hm
      refine Runs.region ?_
      refine WR.d0 hE 2 [(31, .slice sb7 alone.length sc7), (32, .int .i64 x2)] fun a hE => ?_
      refine WR.eff hE rfl rfl rfl rfl (OpTo.buildSl (T := 3) hE H ecI_ok ([x2] : List Int) rfl (fun _ => by kernel_rfl) rfl rfl rfl) ?_
      rintro _ w ⟨r1, rfl, H⟩ a hE
      obtain ⟨l2, el2, hm⟩ := bind_some hm
      replace H := H.t3
      refine WR.eff hE rfl rfl rfl rfl (OpTo.appendM el2 hE H ecI_ok rfl rfl rfl rfl rfl rfl rfl rfl rfl rfl (SlRd.all (sl_rd 3 ecI 1 _ _ _) ecI_ok H 1 rfl) rfl) ?_
      rintro _ w ⟨sb10, sc10, rfl, H⟩ a hE
      refine WR.e0 hE [(9, .slice sb10 l2.length sc10)] fun a hE => ?_
      refine Runs.inBlock ?_
      cases hm
      exact hk _ _ ⟨sb6, sc6, sb10, sc10, hE.sel [0, 5, 8, 9, 21, 22, 23] (by kernel_rfl), H.x1.t4.t2.t4.t3.t4⟩
     ·replace hm := cond_f c hm
      refine Runs.region ?_
      refine WR.d0 hE 2 [(35, .slice sb6 rest.length sc6), (36, .int .i64 x2)] fun a hE => ?_
      refine WR.eff hE rfl rfl rfl rfl (OpTo.buildSl (T := 3) hE H ecI_ok ([x2] : List Int) rfl (fun _ => by kernel_rfl) rfl rfl rfl) ?_
      rintro _ w ⟨r2, rfl, H⟩ a hE
      obtain ⟨l3, el3, hm⟩ := bind_some hm
      replace H := H.t2
      refine WR.eff hE rfl rfl rfl rfl (OpTo.appendM el3 hE H ecI_ok rfl rfl rfl rfl rfl rfl rfl rfl rfl rfl (SlRd.all (sl_rd 3 ecI 1 _ _ _) ecI_ok H 1 rfl) rfl) ?_
      rintro _ w ⟨sb11, sc11, rfl, H⟩ a hE
      refine WR.e0 hE [(8, .slice sb11 l3.length sc11)] fun a hE => ?_
      refine Runs.inBlock ?_
      cases hm
      exact hk _ _ ⟨sb11, sc11, sb7, sc7, hE.sel [0, 5, 8, 9, 21, 22, 23] (by kernel_rfl), H.x1.t4.t2.t4.t4.t4⟩
    rintro a w ⟨sb8, sc8, sb9, sc9, hE, H⟩
    refine Runs.region ?_
    refine WR.seg hE 2 [] [0, 5, 8, 9, 21, 22, 23] (Lo := [(0, .pointer (some ⟨p_a_, 0, none⟩)), (5, .pointer (some ⟨r, 0, none⟩)), (8, .slice sb8 s1.1.length sc8), (9, .slice sb9 s1.2.1.length sc9), (21, .slice sb1 t_1.1.length sc1), (22, .int .i64 (t_1.1.length : Int)), (23, .int .i64 (w64 (x + 1)))]) (obs := []) rfl (by kernel_rfl) trivial fun a hE => ?_
    refine WR.done rfl ?_
    exact ih m (Nat.lt_succ_self m) _ _ ⟨s1.1, s1.2.1, w64 (x + 1), s1.2.2, sb8, sc8, sb9, sc9, hE.sel [0, 5, 8, 9, 21, 22, 23] (by kernel_rfl), H.t4.t4.t4.t4.t4, hm⟩
   ·replace hm := cond_f c hm
    refine Runs.exit rfl ?_
    cases hm
    exact hk _ _ ⟨sb6, sc6, sb7, sc7, hE.sel [0, 5, 8, 9] (by kernel_rfl), H.x2.t3.t3.t3.t3⟩
 rintro a w ⟨sb4, sc4, sb5, sc5, hE, H⟩
 refine Runs.sr ?_
 refine WR.seg hE 2 [.int .i64 n] [0, 8, 9, 40, 41] (Lo := [(0, .pointer (some ⟨p_a_, 0, none⟩)), (8, .slice sb4 s.1.length sc4), (9, .slice sb5 s.2.1.length sc5), (40, .pointer (some ⟨p_a_, 0, none⟩)), (41, .int .i64 n)]) (obs := [.cell ⟨r, 0, none⟩ (.int .i64 n)]) rfl (by kernel_rfl) ⟨H.cell 3 rfl rfl, trivial⟩ fun a hE => ?_
 obtain ⟨t_3, et_3, hm⟩ := bind_some hm
 refine WR.eff hE rfl rfl rfl rfl (OpTo.fn hE rfl rfl Tryz.call107 (node_End_ok et_3 H.t2)) ?_
 rintro _ w ⟨z, z1, rfl, H⟩ a hE
 refine WR.e0 hE [(12, .int .i64 t_3.1)] fun a hE => ?_
 refine Runs.sr ?_
 refine WR.d0 hE 2 [(43, .pointer (some ⟨p_a_, 0, none⟩)), (44, .slice sb4 s.1.length sc4)] fun a hE => ?_
 obtain ⟨t_4, et_4, hm⟩ := bind_some hm
 replace H := H.t1.t1
 refine WR.eff hE rfl rfl rfl rfl (OpTo.fn hE rfl rfl Tryz.call59 (trees_Carry_ok (hX_l := (sl_rd 3 ecI 1 _ _ _)) (hC_l := (H.slCap 1 rfl).1) et_4 H)) ?_
 rintro _ w ⟨rfl, H⟩ a hE
 refine WR.e0 hE [(13, .int .i64 t_4.1)] fun a hE => ?_
 refine Runs.seq ?_
 refine Runs.sr ?_
 refine WR.e0 hE [(46, .slice sb5 s.2.1.length sc5), (47, .int .i64 (s.2.1.length : Int)), (48, .int .i64 0)] fun a hE => ?_
 obtain ⟨s2, es2, hm⟩ := bind_some hm
 refine Runs.join (fun a w => EnvOk 59 a [(12, .int .i64 t_3.1), (13, .int .i64 s2.1)] ∧ St w0 (arena_Arena.R p_a_ (arena_Arena.A.mk al_a_.l_b al_a_.l_c z z1 al_a_.m__p) s2.2 :: As) w) (fun hk => ?_) ?_
 ·replace hm := es2; clear es2
  refine Runs.block ?_
  refine Runs.loop (fun m a w => ∃ (r3 : Int), ∃ (x3 : Int), ∃ (m_1 : arena_Arena), EnvOk 59 a [(0, .pointer (some ⟨p_a_, 0, none⟩)), (12, .int .i64 t_3.1), (13, .int .i64 r3), (46, .slice sb5 s.2.1.length sc5), (47, .int .i64 (s.2.1.length : Int)), (48, .int .i64 x3)] ∧ St w0 (arena_Arena.R p_a_ (arena_Arena.A.mk al_a_.l_b al_a_.l_c z z1 al_a_.m__p) m_1 :: Sl 3 ecI 1 sb5 sc5 s.2.1 :: As) w ∧ skew_without_l1 t_3.1 (s.2.1.length : Int) s.2.1 m r3 x3 m_1 = some s2) k ⟨t_4.1, 0, t_4.2, hE.sel [0, 12, 13, 46, 47, 48] (by kernel_rfl), H.x3.x1.t1.t1, hm⟩ ?_
  rintro m ih a w ⟨r3, x3, m_1, hE, H, hm⟩
  cases m with
  | zero => simp [skew_without_l1] at hm
  | succ m =>
   rw [skew_without_l1] at hm
   refine Runs.sr ?_
   refine WR.seg hE 1 [] [0, 12, 13, 46, 47, 48, 49] (Lo := [(0, .pointer (some ⟨p_a_, 0, none⟩)), (12, .int .i64 t_3.1), (13, .int .i64 r3), (46, .slice sb5 s.2.1.length sc5), (47, .int .i64 (s.2.1.length : Int)), (48, .int .i64 x3), (49, .bool (decide (x3 < (s.2.1.length : Int))))]) (obs := []) rfl (by kernel_rfl) trivial fun a hE => ?_
   refine WR.done rfl ?_
   refine Runs.seq ?_
   refine Runs.cond hE rfl (fun c => ?_) (fun c => ?_)
   ·replace hm := cond_t c hm
    refine Runs.skip ?_
    refine Runs.seq ?_
    refine Runs.block ?_
    refine Runs.sr ?_
    obtain ⟨x5, ex5, hm⟩ := bind_some hm
    obtain ⟨b1, o1, hs1, hb1⟩ := SlRd.base (sl_rd 3 ecI 1 _ _ _) ecI_ok H 1 rfl ex5
    refine WR.e hE [.pointer (some ⟨b1, o1, none⟩), .int .i64 x5] [(15, .int .i64 x5)] (obs := [.p ((sb5 : Option Addr) = some ⟨b1, o1, none⟩), .p (0 ≤ (x3 : Int) ∧ (x3 : Int) < ((s.2.1.length : Nat) : Int)), .cell ⟨b1, o1 + (Int.toNat x3) * 1, none⟩ (.int .i64 x5)]) ⟨hs1, hb1, SlRd.cells (sl_rd 3 ecI 1 _ _ _) ecI_ok H 1 rfl hs1 ex5 0 _ rfl, trivial⟩ fun a hE => ?_
    refine Runs.region ?_
    refine WR.d0 hE 3 [(52, .pointer (some ⟨p_a_, 0, none⟩)), (53, .int .i64 r3), (54, .int .i64 x5)] fun a hE => ?_
    obtain ⟨t_5, et_5, hm⟩ := bind_some hm
    refine WR.eff hE rfl rfl rfl rfl (OpTo.fn hE rfl rfl Tryz.call79 (skew_single_ok et_5 H)) ?_
    rintro _ w ⟨rfl, H⟩ a hE
    refine WR.e0 hE [(13, .int .i64 t_5.1)] fun a hE => ?_
    refine Runs.inBlock ?_
    refine Runs.region ?_
    refine WR.e0 hE [(48, .int .i64 (w64 (x3 + 1)))] fun a hE => ?_
    exact ih m (Nat.lt_succ_self m) _ _ ⟨t_5.1, w64 (x3 + 1), t_5.2, hE.sel [0, 12, 13, 46, 47, 48] (by kernel_rfl), H.t1.t1, hm⟩
   ·replace hm := cond_f c hm
    refine Runs.exit rfl ?_
    cases hm
    exact hk _ _ ⟨hE.sel [12, 13] (by kernel_rfl), H.x1⟩
 rintro a w ⟨hE, H⟩
 refine Runs.sr ?_
 refine WR.seg hE 4 [] [6, 7] (Lo := [(6, .int .i64 s2.1), (7, .int .i64 t_3.1)]) (obs := []) rfl (by kernel_rfl) trivial fun a hE => ?_
 refine WR.done rfl ?_
 refine Runs.ret hE Tryz.func80 rfl rfl ?_
 cases hm
 exact ⟨z, z1, rfl, H⟩

theorem skew_Pop_ok {w0 w : World} {As : List HP} {k : Nat} {p_a_ : Nat} {al_a_ : arena_Arena.A} {a_ : arena_Arena} {r : Int} {t : Int × Int × arena_Arena}  (hm : skew_Pop k a_ r = some t) (H : St w0 (arena_Arena.R p_a_ al_a_ a_ :: As) w) :
    CallsR Tryz.prog 39 #[.pointer (some ⟨p_a_, 0, none⟩), .int .i64 r] w fun v w' => ∃ (z_a__free_b : Option Addr), ∃ (z_a__free_c : Nat), v = .tuple #[.int .i64 t.1, .int .i64 t.2.1] ∧ St w0 (arena_Arena.R p_a_ (arena_Arena.A.mk al_a_.l_b al_a_.l_c z_a__free_b z_a__free_c al_a_.m__p) t.2.2 :: As) w' := by
 rw [skew_Pop] at hm
 refine enter (args := [.pointer (some ⟨p_a_, 0, none⟩), .int .i64 r]) Tryz.func39 rfl rfl rfl fun a hE => ?_
 refine Runs.sr ?_
 refine WR.seg hE 2 [] [0, 1] (Lo := [(0, .pointer (some ⟨p_a_, 0, none⟩)), (1, .int .i64 r)]) (obs := []) rfl (by kernel_rfl) trivial fun a hE => ?_
 refine WR.done rfl ?_
 refine Runs.seq ?_
 refine Runs.seq ?_
 obtain ⟨s, es, hm⟩ := bind_some hm
 refine Runs.join (fun a w => EnvOk 26 a [(0, .pointer (some ⟨p_a_, 0, none⟩)), (1, .int .i64 r), (14, .bool s)] ∧ St w0 (arena_Arena.R p_a_ al_a_ a_ :: As) w) (fun hk => ?_) ?_
 ·replace hm := es; clear es
  refine Runs.region ?_
  refine WR.d0 hE 5 [(9, .bool false), (10, .pointer (some ⟨p_a_, 0, none⟩)), (11, .int .i64 r)] fun a hE => ?_
  obtain ⟨t_, et_, hm⟩ := bind_some hm
  refine WR.eff hE rfl rfl rfl rfl (OpTo.fn hE rfl rfl Tryz.call62 (arena_Arena_Live_ok et_ H)) ?_
  rintro _ w ⟨rfl, H⟩ a hE
  refine WR.e0 hE [(14, .bool (!t_))] fun a hE => ?_
  cases hm
  exact hk _ _ ⟨hE.sel [0, 1, 14] (by kernel_rfl), H⟩
 rintro a w ⟨hE, H⟩
 refine Runs.cond hE rfl (fun c => ?_) (fun c => ?_)
 ·replace hm := cond_t c hm
  refine Runs.sr ?_
  refine WR.seg hE 2 [] [4, 5] (Lo := [(4, .int .i64 (-1)), (5, .int .i64 (-1))]) (obs := []) rfl (by kernel_rfl) trivial fun a hE => ?_
  refine WR.done rfl ?_
  refine Runs.ret hE Tryz.func39 rfl rfl ?_
  cases hm
  exact ⟨al_a_.free_b, al_a_.free_c, rfl, H⟩
 ·replace hm := cond_f c hm
  refine Runs.skip ?_
  refine Runs.sr ?_
  refine WR.seg hE 2 [] [0, 15, 16] (Lo := [(0, .pointer (some ⟨p_a_, 0, none⟩)), (15, .pointer (some ⟨p_a_, 0, none⟩)), (16, .int .i64 r)]) (obs := []) rfl (by kernel_rfl) trivial fun a hE => ?_
  obtain ⟨t_1, et_1, hm⟩ := bind_some hm
  refine WR.eff hE rfl rfl rfl rfl (OpTo.fn hE rfl rfl Tryz.call60 (trees_List_ok et_1 H)) ?_
  rintro _ w ⟨sb, sc, rfl, H⟩ a hE
  refine WR.e0 hE [(6, .slice sb t_1.1.length sc)] fun a hE => ?_
  refine Runs.sr ?_
  refine WR.d0 hE 4 [(18, .pointer (some ⟨p_a_, 0, none⟩)), (19, .slice sb t_1.1.length sc), (20, .pointer (some ⟨p_a_, 0, none⟩)), (21, .slice sb t_1.1.length sc)] fun a hE => ?_
  obtain ⟨t_2, et_2, hm⟩ := bind_some hm
  replace H := H.t1
  refine WR.eff hE rfl rfl rfl rfl (OpTo.fn hE rfl rfl Tryz.call64 (trees_Best_ok (hX_l := (sl_rd 3 ecI 1 _ _ _)) (hC_l := (H.slCap 1 rfl).1) et_2 H)) ?_
  rintro _ w ⟨rfl, H⟩ a hE
  obtain ⟨t_3, et_3, hm⟩ := bind_some hm
  refine WR.eff hE rfl rfl rfl rfl (OpTo.fn hE rfl rfl Tryz.call80 (skew_without_ok et_3 H.t1.t1)) ?_
  rintro _ w ⟨z, z1, rfl, H⟩ a hE
  refine WR.e0 hE [(4, .int .i64 t_3.1), (5, .int .i64 t_3.2.1)] fun a hE => ?_
  refine Runs.ret hE Tryz.func39 rfl rfl ?_
  cases hm
  exact ⟨z, z1, rfl, H⟩

theorem thicketref1_Before_ok {w0 w : World} {As : List HP} {a_ : api_Entry} {b : api_Entry} {t : Bool}  (hm : thicketref1_Before a_ b = some t) (H : St w0 (As) w) :
    CallsR Tryz.prog 26 #[.agg #[.int .i64 a_.Key, .int .i64 a_.Serial], .agg #[.int .i64 b.Key, .int .i64 b.Serial]] w fun v w' => v = .bool t ∧ St w0 (As) w' := by
 rw [thicketref1_Before] at hm
 refine enter (args := [.agg #[.int .i64 a_.Key, .int .i64 a_.Serial], .agg #[.int .i64 b.Key, .int .i64 b.Serial]]) Tryz.func26 rfl rfl rfl fun a hE => ?_
 refine Runs.sr ?_
 refine WR.eff hE rfl rfl rfl rfl (OpTo.new hE H [] (.cells #[.int .i64 a_.Key, .int .i64 a_.Serial] 40 (0, 0)) (fun r => .pointer (some ⟨r, 0, none⟩)) (obs := []) rfl (fun _ => by kernel_rfl) trivial) ?_
 rintro _ w ⟨r, rfl, H⟩ a hE
 refine WR.eff hE rfl rfl rfl rfl (OpTo.new hE H [] (.cells #[.int .i64 b.Key, .int .i64 b.Serial] 40 (0, 0)) (fun r => .pointer (some ⟨r, 0, none⟩)) (obs := []) rfl (fun _ => by kernel_rfl) trivial) ?_
 rintro _ w ⟨r1, rfl, H⟩ a hE
 refine WR.seg hE 3 [] [2, 3] (Lo := [(2, .pointer (some ⟨r, 0, none⟩)), (3, .pointer (some ⟨r1, 0, none⟩))]) (obs := []) rfl (by kernel_rfl) trivial fun a hE => ?_
 refine WR.done rfl ?_
 refine Runs.seq ?_
 refine Runs.join (fun a w => EnvOk 24 a [(4, .bool ((decide (a_.Key < b.Key)) || ((a_.Key == b.Key) && (decide (a_.Serial < b.Serial)))))] ∧ St w0 (Blk r1 40 [.int .i64 b.Key, .int .i64 b.Serial] :: Blk r 40 [.int .i64 a_.Key, .int .i64 a_.Serial] :: As) w) (fun hk => ?_) ?_
 ·clear hm
  refine Runs.region ?_
  refine WR.d hE 6 [.int .i64 a_.Key, .int .i64 b.Key] [(10, .bool (decide (a_.Key < b.Key)))] (obs := [.cell ⟨r, 0, none⟩ (.int .i64 a_.Key), .cell ⟨r1, 0, none⟩ (.int .i64 b.Key)]) ⟨H.cell 1 rfl rfl, H.cell 0 rfl rfl, trivial⟩ fun a hE => ?_
  rcases Bool.eq_false_or_eq_true (decide (a_.Key < b.Key)) with c | c
  ·replace hE := hE.dec 10 c (by kernel_rfl)
   have c_ := c
   refine WR.e0 hE [(4, .bool true)] fun a hE => ?_
   refine hk _ _ ⟨?_, H.t1.t1⟩
   try rw [c_] at hE
   try rw [c_]
   exact hE.sel [4] (by kernel_rfl)
  ·replace hE := hE.dec 10 c (by kernel_rfl)
   have c_1 := c
   refine WR.d hE 12 [.int .i64 a_.Key, .int .i64 b.Key] [(10, .bool false), (16, .bool (a_.Key == b.Key))] (obs := [.cell ⟨r, 0, none⟩ (.int .i64 a_.Key), .cell ⟨r1, 0, none⟩ (.int .i64 b.Key)]) ⟨H.cell 1 rfl rfl, H.cell 0 rfl rfl, trivial⟩ fun a hE => ?_
   rcases Bool.eq_false_or_eq_true (a_.Key == b.Key) with c | c
   ·replace hE := hE.dec 16 c (by kernel_rfl)
    have c_2 := c
    refine WR.e hE [.int .i64 a_.Serial, .int .i64 b.Serial] [(4, .bool (decide (a_.Serial < b.Serial)))] (obs := [.cell ⟨r, 1, none⟩ (.int .i64 a_.Serial), .cell ⟨r1, 1, none⟩ (.int .i64 b.Serial)]) ⟨H.cell 1 rfl rfl, H.cell 0 rfl rfl, trivial⟩ fun a hE => ?_
    refine hk _ _ ⟨?_, H.t1.t1⟩
    try rw [c_1] at hE
    try rw [c_1]
    try rw [c_2] at hE
    try rw [c_2]
    exact hE.sel [4] (by kernel_rfl)
   ·replace hE := hE.dec 16 c (by kernel_rfl)
    have c_3 := c
    refine WR.e0 hE [(4, .bool false)] fun a hE => ?_
    refine hk _ _ ⟨?_, H.t1.t1⟩
    try rw [c_1] at hE
    try rw [c_1]
    try rw [c_3] at hE
    try rw [c_3]
    exact hE.sel [4] (by kernel_rfl)
 rintro a w ⟨hE, H⟩
 refine Runs.ret hE Tryz.func26 rfl rfl ?_
 cases hm
 exact ⟨rfl, H.x1.x0⟩

theorem thicketlaw11_before_ok {w0 w : World} {As : List HP} {x : thicketlaw11_held} {y : thicketlaw11_held} {t : Bool}  (hm : thicketlaw11_before x y = some t) (H : St w0 (As) w) :
    CallsR Tryz.prog 118 #[.agg #[.int .i64 x.cell, .int .i64 x.e.Key, .int .i64 x.e.Serial], .agg #[.int .i64 y.cell, .int .i64 y.e.Key, .int .i64 y.e.Serial]] w fun v w' => v = .bool t ∧ St w0 (As) w' := by
 rw [thicketlaw11_before] at hm
 refine enter (args := [.agg #[.int .i64 x.cell, .int .i64 x.e.Key, .int .i64 x.e.Serial], .agg #[.int .i64 y.cell, .int .i64 y.e.Key, .int .i64 y.e.Serial]]) Tryz.func118 rfl rfl rfl fun a hE => ?_
 refine Runs.sr ?_
 refine WR.eff hE rfl rfl rfl rfl (OpTo.new hE H [] (.cells #[.int .i64 x.cell, .int .i64 x.e.Key, .int .i64 x.e.Serial] 76 (0, 0)) (fun r => .pointer (some ⟨r, 0, none⟩)) (obs := []) rfl (fun _ => by kernel_rfl) trivial) ?_
 rintro _ w ⟨r, rfl, H⟩ a hE
 refine WR.eff hE rfl rfl rfl rfl (OpTo.new hE H [] (.cells #[.int .i64 y.cell, .int .i64 y.e.Key, .int .i64 y.e.Serial] 76 (0, 0)) (fun r => .pointer (some ⟨r, 0, none⟩)) (obs := []) rfl (fun _ => by kernel_rfl) trivial) ?_
 rintro _ w ⟨r1, rfl, H⟩ a hE
 refine WR.seg hE 3 [] [2, 3] (Lo := [(2, .pointer (some ⟨r, 0, none⟩)), (3, .pointer (some ⟨r1, 0, none⟩))]) (obs := []) rfl (by kernel_rfl) trivial fun a hE => ?_
 refine WR.done rfl ?_
 refine Runs.seq ?_
 obtain ⟨s, es, hm⟩ := bind_some hm
 refine Runs.join (fun a w => EnvOk 24 a [(4, .bool s)] ∧ St w0 (As) w) (fun hk => ?_) ?_
 ·replace hm := es; clear es
  refine Runs.region ?_
  refine WR.d hE 4 [.int .i64 x.e.Key, .int .i64 x.e.Serial, .int .i64 y.e.Key, .int .i64 y.e.Serial] [(6, .agg #[.int .i64 x.e.Key, .int .i64 x.e.Serial]), (8, .agg #[.int .i64 y.e.Key, .int .i64 y.e.Serial])] (obs := [.cell ⟨r, 1, none⟩ (.int .i64 x.e.Key), .cell ⟨r, 2, none⟩ (.int .i64 x.e.Serial), .cell ⟨r1, 1, none⟩ (.int .i64 y.e.Key), .cell ⟨r1, 2, none⟩ (.int .i64 y.e.Serial)]) ⟨H.cell 1 rfl rfl, H.cell 1 rfl rfl, H.cell 0 rfl rfl, H.cell 0 rfl rfl, trivial⟩ fun a hE => ?_
  obtain ⟨t_, et_, hm⟩ := bind_some hm
  refine WR.eff hE rfl rfl rfl rfl (OpTo.fn hE rfl rfl Tryz.call26 (thicketref1_Before_ok et_ H)) ?_
  rintro _ w ⟨rfl, H⟩ a hE
  refine WR.d0 hE 6 [(10, .bool t_)] fun a hE => ?_
  rcases Bool.eq_false_or_eq_true t_ with c | c
  ·replace hE := hE.dec 10 c (by kernel_rfl)
   replace hm := cond_t c hm
   have c_ := c
   refine WR.e0 hE [(4, .bool true)] fun a hE => ?_
   cases hm
   exact hk _ _ ⟨hE.sel [4] (by kernel_rfl), H.x1.x0⟩
  ·replace hE := hE.dec 10 c (by kernel_rfl)
   replace hm := cond_f c hm
   have c_1 := c
   refine WR.d hE 10 [.int .i64 x.e.Key, .int .i64 x.e.Serial, .int .i64 y.e.Key, .int .i64 y.e.Serial] [(10, .bool false), (12, .agg #[.int .i64 x.e.Key, .int .i64 x.e.Serial]), (14, .agg #[.int .i64 y.e.Key, .int .i64 y.e.Serial])] (obs := [.cell ⟨r, 1, none⟩ (.int .i64 x.e.Key), .cell ⟨r, 2, none⟩ (.int .i64 x.e.Serial), .cell ⟨r1, 1, none⟩ (.int .i64 y.e.Key), .cell ⟨r1, 2, none⟩ (.int .i64 y.e.Serial)]) ⟨H.cell 1 rfl rfl, H.cell 1 rfl rfl, H.cell 0 rfl rfl, H.cell 0 rfl rfl, trivial⟩ fun a hE => ?_
   refine WR.eff hE rfl rfl rfl rfl (OpTo.eqS hE rfl rfl rfl (by kernel_rfl) (api_Entry.eq_run x.e y.e)) ?_
   rintro _ _ ⟨rfl, rfl⟩ a hE
   refine WR.d0 hE 12 [(16, .bool (api_Entry.eq x.e y.e))] fun a hE => ?_
   rcases Bool.eq_false_or_eq_true (api_Entry.eq x.e y.e) with c | c
   ·replace hE := hE.dec 16 c (by kernel_rfl)
    replace hm := cond_t c hm
    have c_2 := c
    refine WR.e hE [.int .i64 x.cell, .int .i64 y.cell] [(4, .bool (decide (x.cell < y.cell)))] (obs := [.cell ⟨r, 0, none⟩ (.int .i64 x.cell), .cell ⟨r1, 0, none⟩ (.int .i64 y.cell)]) ⟨H.cell 1 rfl rfl, H.cell 0 rfl rfl, trivial⟩ fun a hE => ?_
    cases hm
    exact hk _ _ ⟨hE.sel [4] (by kernel_rfl), H.x1.x0⟩
   ·replace hE := hE.dec 16 c (by kernel_rfl)
    replace hm := cond_f c hm
    have c_3 := c
    refine WR.e0 hE [(4, .bool false)] fun a hE => ?_
    cases hm
    exact hk _ _ ⟨hE.sel [4] (by kernel_rfl), H.x1.x0⟩
 rintro a w ⟨hE, H⟩
 refine Runs.ret hE Tryz.func118 rfl rfl ?_
 cases hm
 exact ⟨rfl, H⟩

theorem thicketlaw11_least_ok {w0 w : World} {As : List HP} {k : Nat} {sb_l : Option Addr} {sc_l : Nat} {l : List thicketlaw11_held} {X_l : HP} {t : Int} (hX_l : SlRd X_l thicketlaw11_held.enc 3 sb_l l) (hC_l : l.length ≤ sc_l) (hm : thicketlaw11_least k l = some t) (H : St w0 (X_l :: As) w) :
    CallsR Tryz.prog 81 #[.slice sb_l l.length sc_l] w fun v w' => v = .int .i64 t ∧ St w0 (X_l :: As) w' := by
 rw [thicketlaw11_least] at hm
 refine enter (args := [.slice sb_l l.length sc_l]) Tryz.func81 rfl rfl rfl fun a hE => ?_
 refine Runs.sr ?_
 refine WR.seg hE 1 [] [0] (Lo := [(0, .slice sb_l l.length sc_l)]) (obs := []) rfl (by kernel_rfl) trivial fun a hE => ?_
 refine WR.done rfl ?_
 refine Runs.sr ?_
 refine WR.e0 hE [(3, .int .i64 0)] fun a hE => ?_
 refine Runs.seq ?_
 refine Runs.sr ?_
 refine WR.e0 hE [(4, .int .i64 1)] fun a hE => ?_
 obtain ⟨s, es, hm⟩ := bind_some hm
 refine Runs.join (fun a w => EnvOk 22 a [(3, .int .i64 s)] ∧ St w0 (X_l :: As) w) (fun hk => ?_) ?_
 ·replace hm := es; clear es
  refine Runs.block ?_
  refine Runs.loop (fun m a w => ∃ (k_ : Int), ∃ (i : Int), EnvOk 22 a [(0, .slice sb_l l.length sc_l), (3, .int .i64 k_), (4, .int .i64 i)] ∧ St w0 (X_l :: As) w ∧ thicketlaw11_least_l0 l m k_ i = some s) k ⟨0, 1, hE.sel [0, 3, 4] (by kernel_rfl), H, hm⟩ ?_
  rintro m ih a w ⟨k_, i, hE, H, hm⟩
  cases m with
  | zero => simp [thicketlaw11_least_l0] at hm
  | succ m =>
   rw [thicketlaw11_least_l0] at hm
   refine Runs.seq ?_
   refine Runs.sr ?_
   refine WR.seg hE 4 [] [0, 3, 4, 8] (Lo := [(0, .slice sb_l l.length sc_l), (3, .int .i64 k_), (4, .int .i64 i), (8, .bool (decide (i < (l.length : Int))))]) (obs := []) rfl (by kernel_rfl) trivial fun a hE => ?_
   refine WR.done rfl ?_
   refine Runs.cond hE rfl (fun c => ?_) (fun c => ?_)
   ·replace hm := cond_t c hm
    refine Runs.skip ?_
    refine Runs.seq ?_
    obtain ⟨s1, es1, hm⟩ := bind_some hm
    refine Runs.join (fun a w => EnvOk 22 a [(0, .slice sb_l l.length sc_l), (3, .int .i64 s1), (4, .int .i64 i)] ∧ St w0 (X_l :: As) w) (fun hk => ?_) ?_
    ·replace hm := es1; clear es1
     refine Runs.block ?_
     refine Runs.seq ?_
     refine Runs.drawn mixed (by kernel_rfl) ?_
     replace H := H.drew
     obtain ⟨x, ex, hm⟩ := bind_some hm
     obtain ⟨b, o, hs, hb⟩ := SlRd.base hX_l thicketlaw11_held.enc_ok H 0 rfl ex
     obtain ⟨x1, ex1, hm⟩ := bind_some hm
     obtain ⟨b1, o1, hs1, hb1⟩ := SlRd.base hX_l thicketlaw11_held.enc_ok H 0 rfl ex1
     refine WQ.d hE [0, 1, 2, 3, 4, 5, 6, 7] [.pointer (some ⟨b, o, none⟩), .int .i64 x.cell, .int .i64 x.e.Key, .int .i64 x.e.Serial, .pointer (some ⟨b1, o1, none⟩), .int .i64 x1.cell, .int .i64 x1.e.Key, .int .i64 x1.e.Serial] [(14, .agg #[.int .i64 x.cell, .int .i64 x.e.Key, .int .i64 x.e.Serial]), (18, .agg #[.int .i64 x1.cell, .int .i64 x1.e.Key, .int .i64 x1.e.Serial])] (obs := [.p ((sb_l : Option Addr) = some ⟨b, o, none⟩), .p (0 ≤ (i : Int) ∧ (i : Int) < ((l.length : Nat) : Int)), .cell ⟨b, o + (Int.toNat i) * 3, none⟩ (.int .i64 x.cell), .cell ⟨b, o + (Int.toNat i) * 3 + 1, none⟩ (.int .i64 x.e.Key), .cell ⟨b, o + (Int.toNat i) * 3 + 2, none⟩ (.int .i64 x.e.Serial), .p ((sb_l : Option Addr) = some ⟨b1, o1, none⟩), .p (0 ≤ (k_ : Int) ∧ (k_ : Int) < ((l.length : Nat) : Int)), .cell ⟨b1, o1 + (Int.toNat k_) * 3, none⟩ (.int .i64 x1.cell), .cell ⟨b1, o1 + (Int.toNat k_) * 3 + 1, none⟩ (.int .i64 x1.e.Key), .cell ⟨b1, o1 + (Int.toNat k_) * 3 + 2, none⟩ (.int .i64 x1.e.Serial)]) ⟨hs, hb, SlRd.cells hX_l thicketlaw11_held.enc_ok H 0 rfl hs ex 0 _ rfl, SlRd.cells hX_l thicketlaw11_held.enc_ok H 0 rfl hs ex 1 _ rfl, SlRd.cells hX_l thicketlaw11_held.enc_ok H 0 rfl hs ex 2 _ rfl, hs1, hb1, SlRd.cells hX_l thicketlaw11_held.enc_ok H 0 rfl hs1 ex1 0 _ rfl, SlRd.cells hX_l thicketlaw11_held.enc_ok H 0 rfl hs1 ex1 1 _ rfl, SlRd.cells hX_l thicketlaw11_held.enc_ok H 0 rfl hs1 ex1 2 _ rfl, trivial⟩ fun a hE => ?_
     obtain ⟨t_, et_, hm⟩ := bind_some hm
     refine WQ.eff (j := 8) (obs := []) hE (by kernel_rfl) rfl rfl rfl rfl (by kernel_rfl) (OpTo.fn hE rfl rfl Tryz.call118 (thicketlaw11_before_ok et_ H)) ?_
     rintro _ w ⟨rfl, H⟩
     refine ⟨trivial, fun a hE => ?_⟩
     refine WQ.done (by kernel_rfl) ?_
     refine Runs.cond hE rfl (fun c => ?_) (fun c => ?_)
     ·replace hm := cond_t c hm
      refine Runs.region ?_
      refine WR.e0 hE [(3, .int .i64 i)] fun a hE => ?_
      refine Runs.inBlock ?_
      cases hm
      exact hk _ _ ⟨hE.sel [0, 3, 4] (by kernel_rfl), H⟩
     ·replace hm := cond_f c hm
      refine Runs.skip ?_
      refine Runs.inBlock ?_
      cases hm
      exact hk _ _ ⟨hE.sel [0, 3, 4] (by kernel_rfl), H⟩
    rintro a w ⟨hE, H⟩
    refine Runs.region ?_
    refine WR.seg hE 3 [] [0, 3, 4] (Lo := [(0, .slice sb_l l.length sc_l), (3, .int .i64 s1), (4, .int .i64 (w64 (i + 1)))]) (obs := []) rfl (by kernel_rfl) trivial fun a hE => ?_
    refine WR.done rfl ?_
    exact ih m (Nat.lt_succ_self m) _ _ ⟨s1, w64 (i + 1), hE.sel [0, 3, 4] (by kernel_rfl), H, hm⟩
   ·replace hm := cond_f c hm
    refine Runs.exit rfl ?_
    cases hm
    exact hk _ _ ⟨hE.sel [3] (by kernel_rfl), H⟩
 rintro a w ⟨hE, H⟩
 refine Runs.sr ?_
 refine WR.seg hE 2 [] [2] (Lo := [(2, .int .i64 s)]) (obs := []) rfl (by kernel_rfl) trivial fun a hE => ?_
 refine WR.done rfl ?_
 refine Runs.ret hE Tryz.func81 rfl rfl ?_
 cases hm
 exact ⟨rfl, H⟩

theorem item_Node_ok {w0 w : World} {As : List HP} {p_a_ : Nat} {al_a_ : arena_Arena.A} {a_ : arena_Arena} {i : Int} {t : Int × arena_Arena}  (hm : item_Node a_ i = some t) (H : St w0 (arena_Arena.R p_a_ al_a_ a_ :: As) w) :
    CallsR Tryz.prog 69 #[.pointer (some ⟨p_a_, 0, none⟩), .int .i64 i] w fun v w' => v = .int .i64 t.1 ∧ St w0 (arena_Arena.R p_a_ al_a_ t.2 :: As) w' := by
 rw [item_Node] at hm
 refine enter (args := [.pointer (some ⟨p_a_, 0, none⟩), .int .i64 i]) Tryz.func69 rfl rfl rfl fun a hE => ?_
 refine Runs.sr ?_
 refine WR.seg hE 1 [] [0, 1] (Lo := [(0, .pointer (some ⟨p_a_, 0, none⟩)), (1, .int .i64 i)]) (obs := []) rfl (by kernel_rfl) trivial fun a hE => ?_
 refine WR.done rfl ?_
 refine Runs.seq ?_
 refine Runs.sr ?_
 refine WR.e0 hE [(6, .bool false)] fun a hE => ?_
 refine Runs.condF hE rfl ?_
 refine Runs.skip ?_
 refine Runs.sr ?_
 refine WR.d0 hE 2 [(7, .pointer (some ⟨p_a_, 0, none⟩)), (8, .int .i64 i)] fun a hE => ?_
 obtain ⟨t_, et_, hm⟩ := bind_some hm
 refine WR.eff hE rfl rfl rfl rfl (OpTo.fn hE rfl rfl Tryz.call78 (arena_Arena_Cell_ok et_ H)) ?_
 rintro _ w ⟨rfl, H⟩ a hE
 refine WR.e0 hE [(4, .int .i64 t_.1)] fun a hE => ?_
 refine Runs.ret hE Tryz.func69 rfl rfl ?_
 cases hm
 exact ⟨rfl, H⟩

theorem thicketlaw11_without_ok {w0 w : World} {As : List HP} {sb_l : Option Addr} {sc_l : Nat} {l : List thicketlaw11_held} {X_l : HP} {k_ : Int} {t : (List thicketlaw11_held)} (hX_l : SlRd X_l thicketlaw11_held.enc 3 sb_l l) (hC_l : l.length ≤ sc_l) (hm : thicketlaw11_without l k_ = some t) (H : St w0 (X_l :: As) w) :
    CallsR Tryz.prog 82 #[.slice sb_l l.length sc_l, .int .i64 k_] w fun v w' => ∃ (sb0 : Option Addr), ∃ (sc0 : Nat), v = .slice sb0 t.length sc0 ∧ St w0 (Sl 76 thicketlaw11_held.enc 3 sb0 sc0 t :: X_l :: As) w' := by
 rw [thicketlaw11_without] at hm
 refine enter (args := [.slice sb_l l.length sc_l, .int .i64 k_]) Tryz.func82 rfl rfl rfl fun a hE => ?_
 refine Runs.sr ?_
 refine WR.seg hE 1 [] [0, 1] (Lo := [(0, .slice sb_l l.length sc_l), (1, .int .i64 k_)]) (obs := []) rfl (by kernel_rfl) trivial fun a hE => ?_
 refine WR.done rfl ?_
 refine Runs.seq ?_
 refine Runs.drawn mixed (by kernel_rfl) ?_
 replace H := H.drew
 obtain ⟨l1, el1, hm⟩ := bind_some hm
 obtain ⟨sb, q⟩ : ∃ z, rebase sb_l sc_l (Int.toNat 0) 3 = z := ⟨_, rfl⟩
 obtain ⟨sc, q1⟩ : ∃ z, sc_l - (Int.toNat 0) = z := ⟨_, rfl⟩
 obtain ⟨l2, el2, hm⟩ := bind_some hm
 obtain ⟨sb1, q2⟩ : ∃ z, rebase sb_l sc_l (Int.toNat (w64 (k_ + 1))) 3 = z := ⟨_, rfl⟩
 obtain ⟨sc1, q3⟩ : ∃ z, sc_l - (Int.toNat (w64 (k_ + 1))) = z := ⟨_, rfl⟩
 refine WQ.d hE [1, 2, 3, 5, 6, 7, 8] [.slice sb l1.length sc, .slice sb1 l2.length sc1] [(8, .slice sb l1.length sc), (13, .slice sb1 l2.length sc1)] (obs := [.p (rebase sb_l sc_l 0 3 = sb), .p ((Int.toNat k_) - 0 = l1.length), .p (sc_l - 0 = sc), .p (0 ≤ (k_ : Int) ∧ (k_ : Int) ≤ ((sc_l : Nat) : Int)), .p (rebase sb_l sc_l (Int.toNat (w64 (k_ + 1))) 3 = sb1), .p (l.length - (Int.toNat (w64 (k_ + 1))) = l2.length), .p (sc_l - (Int.toNat (w64 (k_ + 1))) = sc1), .p (0 ≤ ((w64 (k_ + 1)) : Int) ∧ ((w64 (k_ + 1)) : Int) ≤ ((l.length : Nat) : Int))]) ⟨q, cut_len el1, q1, cut_cap el1 hC_l, q2, cut_len el2, q3, cut_bd0 el2, trivial⟩ fun a hE => ?_
 refine WQ.eff (j := 0) (obs := [.p (rebase sb_l sc_l (Int.toNat (w64 (k_ + 1))) 3 = sb1), .p (l.length - (Int.toNat (w64 (k_ + 1))) = l2.length), .p (sc_l - (Int.toNat (w64 (k_ + 1))) = sc1), .p (0 ≤ ((w64 (k_ + 1)) : Int) ∧ ((w64 (k_ + 1)) : Int) ≤ ((l.length : Nat) : Int)), .p (rebase sb_l sc_l 0 3 = sb), .p ((Int.toNat k_) - 0 = l1.length), .p (sc_l - 0 = sc), .p (0 ≤ (k_ : Int) ∧ (k_ : Int) ≤ ((sc_l : Nat) : Int))]) hE (by kernel_rfl) rfl rfl rfl rfl (by kernel_rfl) (OpTo.buildSl (T := 76) hE H thicketlaw11_held.enc_ok ([] : List thicketlaw11_held) rfl (fun _ => by kernel_rfl) rfl rfl rfl) ?_
 rintro _ w ⟨r, rfl, H⟩
 refine ⟨⟨q2, cut_len el2, q3, cut_bd0 el2, q, cut_len el1, q1, cut_cap el1 hC_l, trivial⟩, fun a hE => ?_⟩
 obtain ⟨l3, el3, hm⟩ := bind_some hm
 refine WQ.eff (j := 4) (obs := [.p (rebase sb_l sc_l (Int.toNat (w64 (k_ + 1))) 3 = sb1), .p (l.length - (Int.toNat (w64 (k_ + 1))) = l2.length), .p (sc_l - (Int.toNat (w64 (k_ + 1))) = sc1), .p (0 ≤ ((w64 (k_ + 1)) : Int) ∧ ((w64 (k_ + 1)) : Int) ≤ ((l.length : Nat) : Int))]) hE (by kernel_rfl) rfl rfl rfl rfl (by kernel_rfl) (OpTo.appendM el3 hE H thicketlaw11_held.enc_ok rfl rfl rfl rfl rfl rfl rfl rfl rfl rfl (SlRd.all (hX_l.cut' thicketlaw11_held.enc_ok el1 (hC_l) q) thicketlaw11_held.enc_ok H 1 rfl) rfl) ?_
 rintro _ w ⟨sb2, sc2, rfl, H⟩
 refine ⟨⟨q2, cut_len el2, q3, cut_bd0 el2, trivial⟩, fun a hE => ?_⟩
 obtain ⟨l4, el4, hm⟩ := bind_some hm
 refine WQ.eff (j := 9) (obs := []) hE (by kernel_rfl) rfl rfl rfl rfl (by kernel_rfl) (OpTo.appendM el4 hE H thicketlaw11_held.enc_ok rfl rfl rfl rfl rfl rfl rfl rfl rfl rfl (SlRd.all (hX_l.cut' thicketlaw11_held.enc_ok el2 (hC_l) q2) thicketlaw11_held.enc_ok H 1 rfl) rfl) ?_
 rintro _ w ⟨sb3, sc3, rfl, H⟩
 refine ⟨trivial, fun a hE => ?_⟩
 refine WQ.d0 hE [10] [(4, .slice sb3 l4.length sc3)] fun a hE => ?_
 refine WQ.done (by kernel_rfl) ?_
 refine Runs.ret hE Tryz.func82 rfl rfl ?_
 cases hm
 exact ⟨sb3, sc3, rfl, H.t1.t1⟩

theorem thicketlaw11_world_pop_at0_ok {w0 w : World} {As : List HP} {k : Nat} {p_w_ : Nat} {al_w_ : thicketlaw11_world.A} {w_ : thicketlaw11_world} {t : Bool × thicketlaw11_world}  (hm : thicketlaw11_world_pop_at0 k w_ = some t) (H : St w0 (thicketlaw11_world.R p_w_ al_w_ w_ :: As) w) :
    CallsR Tryz.prog 42 #[.pointer (some ⟨p_w_, 0, none⟩), .int .i64 0] w fun v w' => ∃ (z_w__a__a : arena_Arena.A), ∃ (z_w__has0_b : Option Addr), ∃ (z_w__has0_c : Nat), v = .bool t.1 ∧ St w0 (thicketlaw11_world.R p_w_ (thicketlaw11_world.A.mk al_w_.a__p z_w__a__a z_w__has0_b z_w__has0_c al_w_.has1_b al_w_.has1_c) t.2 :: As) w' := by
 rw [thicketlaw11_world_pop_at0] at hm
 refine enter (args := [.pointer (some ⟨p_w_, 0, none⟩), .int .i64 0]) Tryz.func42 rfl rfl rfl fun a hE => ?_
 refine Runs.sr ?_
 refine WR.seg hE 1 [] [0, 1] (Lo := [(0, .pointer (some ⟨p_w_, 0, none⟩)), (1, .int .i64 0)]) (obs := []) rfl (by kernel_rfl) trivial fun a hE => ?_
 refine WR.done rfl ?_
 refine Runs.sr ?_
 replace H := thicketlaw11_world.open H
 refine WR.d hE 4 [.pointer (some ⟨al_w_.a__p, 0, none⟩)] [(14, .pointer (some ⟨al_w_.a__p, 0, none⟩))] (obs := [.cell ⟨p_w_, 0, none⟩ (.pointer (some ⟨al_w_.a__p, 0, none⟩))]) ⟨H.cell 0 rfl rfl, trivial⟩ fun a hE => ?_
 obtain ⟨t_, et_, hm⟩ := bind_some hm
 refine WR.eff hE rfl rfl rfl rfl (OpTo.fn hE rfl rfl Tryz.call20 (arena_Arena_Meter_ok et_ H.t1)) ?_
 rintro _ w ⟨rfl, H⟩ a hE
 replace H := arena_Arena.open H
 obtain ⟨t_1, et_1, hm⟩ := bind_some hm
 refine WR.eff hE rfl rfl rfl rfl (OpTo.fn hE rfl rfl Tryz.call21 (meter_Meter_Steps_ok et_1 H.t3)) ?_
 rintro _ w ⟨rfl, H⟩ a hE
 refine WR.e0 hE [(5, .int .i64 t_1)] fun a hE => ?_
 refine Runs.seq ?_
 refine Runs.drawn mixed (by kernel_rfl) ?_
 replace H := H.drew
 refine WQ.d hE [0, 1, 2, 3, 4, 5, 6, 7, 8, 9] [.pointer (some ⟨al_w_.a__p, 0, none⟩), .int .i64 w_.root0] [(21, .pointer (some ⟨al_w_.a__p, 0, none⟩)), (27, .int .i64 w_.root0)] (obs := [.cell ⟨p_w_, 0, none⟩ (.pointer (some ⟨al_w_.a__p, 0, none⟩)), .p (0 ≤ (0 : Int) ∧ (0 : Int) < ((2 : Nat) : Int)), .cell ⟨p_w_, 1, none⟩ (.int .i64 w_.root0)]) ⟨H.cell 4 rfl rfl, ⟨by decide, by decide⟩, H.cell 4 rfl rfl, trivial⟩ fun a hE => ?_
 replace H := arena_Arena.shut al_w_.a__a (w_.a_) H.t3.t3.t3
 obtain ⟨t_2, et_2, hm⟩ := bind_some hm
 refine WQ.eff (j := 10) (obs := []) hE (by kernel_rfl) rfl rfl rfl rfl (by kernel_rfl) (OpTo.fn hE rfl rfl Tryz.call39 (skew_Pop_ok et_2 H)) ?_
 rintro _ w ⟨z, z1, rfl, H⟩
 refine ⟨trivial, fun a hE => ?_⟩
 refine WQ.d0 hE [11, 12, 13, 14, 15] [(6, .int .i64 t_2.1), (7, .int .i64 t_2.2.1)] fun a hE => ?_
 refine WQ.done (by kernel_rfl) ?_
 refine Runs.sr ?_
 refine WR.e hE [.slice al_w_.has0_b w_.has0.length al_w_.has0_c] [(8, .int .i64 (w_.has0.length : Int))] (obs := [.p (0 ≤ (0 : Int) ∧ (0 : Int) < ((2 : Nat) : Int)), .cell ⟨p_w_, 3, none⟩ (.slice al_w_.has0_b w_.has0.length al_w_.has0_c)]) ⟨⟨by decide, by decide⟩, H.cell 1 rfl rfl, trivial⟩ fun a hE => ?_
 refine Runs.seq ?_
 refine Runs.sr ?_
 refine WR.d0 hE 3 [(38, .pointer (some ⟨p_w_, 0, none⟩)), (39, .int .i64 t_1), (40, .int .i64 (w_.has0.length : Int))] fun a hE => ?_
 replace H := thicketlaw11_world.shut (thicketlaw11_world.A.mk al_w_.a__p (arena_Arena.A.mk al_w_.a__a.l_b al_w_.a__a.l_c z z1 al_w_.a__a.m__p) al_w_.has0_b al_w_.has0_c al_w_.has1_b al_w_.has1_c) (thicketlaw11_world.mk t_2.2.2 w_.root0 w_.root1 w_.has0 w_.has1 w_.next w_.spent w_.most) H.t3.t3.t2.t3
 obtain ⟨t_3, et_3, hm⟩ := bind_some hm
 refine WR.eff hE rfl rfl rfl rfl (OpTo.fn hE rfl rfl Tryz.call38 (thicketlaw11_world_cost_ok et_3 H)) ?_
 rintro _ w ⟨rfl, hf, hf1, H⟩ a hE
 refine WR.e0 hE [(42, .bool (!t_3.1))] fun a hE => ?_
 refine Runs.cond hE rfl (fun c => ?_) (fun c => ?_)
 ·replace hm := cond_t c hm
  refine Runs.sr ?_
  refine WR.e0 hE [(4, .bool false)] fun a hE => ?_
  refine Runs.ret hE Tryz.func42 rfl rfl ?_
  cases hm
  exact ⟨arena_Arena.A.mk al_w_.a__a.l_b al_w_.a__a.l_c z z1 al_w_.a__a.m__p, al_w_.has0_b, al_w_.has0_c, rfl, H⟩
 ·replace hm := cond_f c hm
  refine Runs.skip ?_
  refine Runs.seq ?_
  refine Runs.sr ?_
  refine WR.e0 hE [(44, .bool ((w_.has0.length : Int) == 0))] fun a hE => ?_
  refine Runs.cond hE rfl (fun c => ?_) (fun c => ?_)
  ·replace hm := cond_t c hm
   refine Runs.seq ?_
   refine Runs.join (fun a w => EnvOk 107 a [(4, .bool ((t_2.1 == (-1)) && (t_2.2.1 == (-1))))] ∧ St w0 (thicketlaw11_world.R p_w_ (thicketlaw11_world.A.mk al_w_.a__p (arena_Arena.A.mk al_w_.a__a.l_b al_w_.a__a.l_c z z1 al_w_.a__a.m__p) al_w_.has0_b al_w_.has0_c al_w_.has1_b al_w_.has1_c) t_3.2 :: As) w) (fun hk => ?_) ?_
   ·clear hm
    refine Runs.region ?_
    refine WR.d0 hE 3 [(47, .bool (t_2.1 == (-1)))] fun a hE => ?_
    rcases Bool.eq_false_or_eq_true (t_2.1 == (-1)) with c | c
    ·replace hE := hE.dec 47 c (by kernel_rfl)
     have c_ := c
     refine WR.e0 hE [(4, .bool (t_2.2.1 == (-1)))] fun a hE => ?_
     refine hk _ _ ⟨?_, H⟩
     try rw [c_] at hE
     try rw [c_]
     exact hE.sel [4] (by kernel_rfl)
    ·replace hE := hE.dec 47 c (by kernel_rfl)
     have c_1 := c
     refine WR.e0 hE [(4, .bool false)] fun a hE => ?_
     refine hk _ _ ⟨?_, H⟩
     try rw [c_1] at hE
     try rw [c_1]
     exact hE.sel [4] (by kernel_rfl)
   rintro a w ⟨hE, H⟩
   refine Runs.ret hE Tryz.func42 rfl rfl ?_
   cases hm
   exact ⟨arena_Arena.A.mk al_w_.a__a.l_b al_w_.a__a.l_c z z1 al_w_.a__a.m__p, al_w_.has0_b, al_w_.has0_c, rfl, H⟩
  ·replace hm := cond_f c hm
   refine Runs.skip ?_
   refine Runs.sr ?_
   replace H := thicketlaw11_world.open H
   try rw [hf] at H
   try rw [hf1] at H
   try dsimp only at H
   refine WR.d hE 6 [.slice al_w_.has0_b w_.has0.length al_w_.has0_c] [(56, .slice al_w_.has0_b w_.has0.length al_w_.has0_c)] (obs := [.p (0 ≤ (0 : Int) ∧ (0 : Int) < ((2 : Nat) : Int)), .cell ⟨p_w_, 3, none⟩ (.slice al_w_.has0_b w_.has0.length al_w_.has0_c)]) ⟨⟨by decide, by decide⟩, H.cell 0 rfl rfl, trivial⟩ fun a hE => ?_
   obtain ⟨t_4, et_4, hm⟩ := bind_some hm
   replace H := H.t2
   refine WR.eff hE rfl rfl rfl rfl (OpTo.fn hE rfl rfl Tryz.call81 (thicketlaw11_least_ok (hX_l := (sl_rd 76 thicketlaw11_held.enc 3 _ _ _)) (hC_l := (H.slCap 0 rfl).1) et_4 H)) ?_
   rintro _ w ⟨rfl, H⟩ a hE
   refine WR.e0 hE [(9, .int .i64 t_4)] fun a hE => ?_
   refine Runs.sr ?_
   refine WR.d hE 6 [] [(60, .int .i64 t_2.1), (63, .pointer (some ⟨p_w_, 1, none⟩))] (obs := [.p (0 ≤ (0 : Int) ∧ (0 : Int) < ((2 : Nat) : Int))]) ⟨⟨by decide, by decide⟩, trivial⟩ fun a hE => ?_
   refine WR.eff0 hE rfl rfl rfl (OpTo.store hE H.t1 rfl rfl rfl rfl rfl rfl (Nat.le_of_ble_eq_true rfl)) ?_
   rintro _ w H a hE
   refine WR.done rfl ?_
   refine Runs.seq ?_
   replace H := thicketlaw11_world.shut (thicketlaw11_world.A.mk al_w_.a__p (arena_Arena.A.mk al_w_.a__a.l_b al_w_.a__a.l_c z z1 al_w_.a__a.m__p) al_w_.has0_b al_w_.has0_c al_w_.has1_b al_w_.has1_c) (thicketlaw11_world.mk t_3.2.a_ t_2.1 t_3.2.root1 w_.has0 w_.has1 t_3.2.next t_3.2.spent t_3.2.most) H.t3.t2.t3.t3
   obtain ⟨s, es, hm⟩ := bind_some hm
   refine Runs.join (fun a w => EnvOk 107 a [(0, .pointer (some ⟨p_w_, 0, none⟩)), (1, .int .i64 0), (7, .int .i64 t_2.2.1), (9, .int .i64 t_4), (10, .bool s.1)] ∧ St w0 (thicketlaw11_world.R p_w_ (thicketlaw11_world.A.mk al_w_.a__p (arena_Arena.A.mk al_w_.a__a.l_b al_w_.a__a.l_c z z1 al_w_.a__a.m__p) al_w_.has0_b al_w_.has0_c al_w_.has1_b al_w_.has1_c) s.2 :: As) w) (fun hk => ?_) ?_
   ·replace hm := es; clear es
    refine Runs.region ?_
    replace H := thicketlaw11_world.open H
    try dsimp only at H
    obtain ⟨x1, ex1, hm⟩ := bind_some hm
    obtain ⟨b1, o1, hs1, hb1⟩ := SlRd.base (sl_rd 76 thicketlaw11_held.enc 3 _ _ _) thicketlaw11_held.enc_ok H 2 rfl ex1
    refine WR.d hE 13 [.slice al_w_.has0_b w_.has0.length al_w_.has0_c, .pointer (some ⟨b1, o1, none⟩), .int .i64 x1.cell] [(76, .bool (t_2.2.1 == x1.cell))] (obs := [.p (0 ≤ (0 : Int) ∧ (0 : Int) < ((2 : Nat) : Int)), .cell ⟨p_w_, 3, none⟩ (.slice al_w_.has0_b w_.has0.length al_w_.has0_c), .p ((al_w_.has0_b : Option Addr) = some ⟨b1, o1, none⟩), .p (0 ≤ (t_4 : Int) ∧ (t_4 : Int) < ((w_.has0.length : Nat) : Int)), .cell ⟨b1, o1 + (Int.toNat t_4) * 3, none⟩ (.int .i64 x1.cell)]) ⟨⟨by decide, by decide⟩, H.cell 0 rfl rfl, hs1, hb1, SlRd.cells (sl_rd 76 thicketlaw11_held.enc 3 _ _ _) thicketlaw11_held.enc_ok H 2 rfl hs1 ex1 0 _ rfl, trivial⟩ fun a hE => ?_
    rcases Bool.eq_false_or_eq_true (t_2.2.1 == x1.cell) with c | c
    ·replace hE := hE.dec 76 c (by kernel_rfl)
     replace hm := cond_t c hm
     have c_2 := c
     refine WR.d hE 18 [.pointer (some ⟨al_w_.a__p, 0, none⟩)] [(76, .bool true), (80, .pointer (some ⟨al_w_.a__p, 0, none⟩)), (81, .int .i64 t_2.2.1)] (obs := [.cell ⟨p_w_, 0, none⟩ (.pointer (some ⟨al_w_.a__p, 0, none⟩))]) ⟨H.cell 0 rfl rfl, trivial⟩ fun a hE => ?_
     obtain ⟨t_5, et_5, hm⟩ := bind_some hm
     refine WR.eff hE rfl rfl rfl rfl (OpTo.fn hE rfl rfl Tryz.call69 (item_Node_ok et_5 H.t1)) ?_
     rintro _ w ⟨rfl, H⟩ a hE
     refine WR.e0 hE [(10, .bool (t_5.1 == (-1)))] fun a hE => ?_
     replace H := thicketlaw11_world.shut (thicketlaw11_world.A.mk al_w_.a__p (arena_Arena.A.mk al_w_.a__a.l_b al_w_.a__a.l_c z z1 al_w_.a__a.m__p) al_w_.has0_b al_w_.has0_c al_w_.has1_b al_w_.has1_c) (thicketlaw11_world.mk t_5.2 t_2.1 t_3.2.root1 w_.has0 w_.has1 t_3.2.next t_3.2.spent t_3.2.most) H.t3.t3.t2.t3
     cases hm
     exact hk _ _ ⟨hE.sel [0, 1, 7, 9, 10] (by kernel_rfl), H⟩
    ·replace hE := hE.dec 76 c (by kernel_rfl)
     replace hm := cond_f c hm
     have c_3 := c
     refine WR.e0 hE [(10, .bool false)] fun a hE => ?_
     replace H := thicketlaw11_world.shut (thicketlaw11_world.A.mk al_w_.a__p (arena_Arena.A.mk al_w_.a__a.l_b al_w_.a__a.l_c z z1 al_w_.a__a.m__p) al_w_.has0_b al_w_.has0_c al_w_.has1_b al_w_.has1_c) (thicketlaw11_world.mk t_3.2.a_ t_2.1 t_3.2.root1 w_.has0 w_.has1 t_3.2.next t_3.2.spent t_3.2.most) H.t3.t3.t3.t3
     cases hm
     exact hk _ _ ⟨hE.sel [0, 1, 7, 9, 10] (by kernel_rfl), H⟩
   rintro a w ⟨hE, H⟩
   refine Runs.seq ?_
   refine Runs.drawn mixed (by kernel_rfl) ?_
   replace H := H.drew
   replace H := thicketlaw11_world.open H
   try dsimp only at H
   refine WQ.seg hE [0, 1, 2, 3, 4, 5, 6, 7, 8, 10, 11] [.slice al_w_.has0_b s.2.has0.length al_w_.has0_c] [0, 7, 10, 86, 92, 93, 96] (Lo := [(0, .pointer (some ⟨p_w_, 0, none⟩)), (7, .int .i64 t_2.2.1), (10, .bool s.1), (86, .int .i64 0), (92, .slice al_w_.has0_b s.2.has0.length al_w_.has0_c), (93, .int .i64 t_4), (96, .pointer (some ⟨p_w_, 3, none⟩))]) (obs := [.p (0 ≤ (0 : Int) ∧ (0 : Int) < ((2 : Nat) : Int)), .cell ⟨p_w_, 3, none⟩ (.slice al_w_.has0_b s.2.has0.length al_w_.has0_c)]) (by kernel_rfl) (by kernel_rfl) ⟨⟨by decide, by decide⟩, H.cell 0 rfl rfl, trivial⟩ fun a hE => ?_
   obtain ⟨t_6, et_6, hm⟩ := bind_some hm
   replace H := H.t2
   refine WQ.eff (j := 9) (obs := []) hE (by kernel_rfl) rfl rfl rfl rfl (by kernel_rfl) (OpTo.fn hE rfl rfl Tryz.call82 (thicketlaw11_without_ok (hX_l := (sl_rd 76 thicketlaw11_held.enc 3 _ _ _)) (hC_l := (H.slCap 0 rfl).1) et_6 H)) ?_
   rintro _ w ⟨sb, sc, rfl, H⟩
   refine ⟨trivial, fun a hE => ?_⟩
   refine WQ.d hE [12] [] [(97, .pointer (some ⟨p_w_, 3, none⟩))] (obs := [.p (0 ≤ (0 : Int) ∧ (0 : Int) < ((2 : Nat) : Int))]) ⟨⟨by decide, by decide⟩, trivial⟩ fun a hE => ?_
   refine WQ.eff0 (j := 13) (obs := []) hE (by kernel_rfl) rfl rfl rfl (by kernel_rfl) (OpTo.store hE H.t2 rfl rfl rfl rfl rfl rfl (Nat.le_of_ble_eq_true rfl)) ?_
   rintro _ w H
   refine ⟨trivial, fun a hE => ?_⟩
   refine WQ.done (by kernel_rfl) ?_
   refine Runs.seq ?_
   replace H := thicketlaw11_world.shut (thicketlaw11_world.A.mk al_w_.a__p (arena_Arena.A.mk al_w_.a__a.l_b al_w_.a__a.l_c z z1 al_w_.a__a.m__p) sb sc al_w_.has1_b al_w_.has1_c) (thicketlaw11_world.mk s.2.a_ s.2.root0 s.2.root1 t_6 s.2.has1 s.2.next s.2.spent s.2.most) H.t4.t2.t4.t3
   obtain ⟨s1, es1, hm⟩ := bind_some hm
   refine Runs.join (fun a w => ∃ (z2 : arena_Arena.A), EnvOk 107 a [(4, .bool s1.1)] ∧ St w0 (thicketlaw11_world.R p_w_ (thicketlaw11_world.A.mk al_w_.a__p z2 sb sc al_w_.has1_b al_w_.has1_c) s1.2 :: As) w) (fun hk => ?_) ?_
   ·replace hm := es1; clear es1
    refine Runs.region ?_
    refine WR.d0 hE 2 [(99, .bool s.1)] fun a hE => ?_
    rcases Bool.eq_false_or_eq_true s.1 with c | c
    ·replace hE := hE.dec 99 c (by kernel_rfl)
     replace hm := cond_t c hm
     have c_4 := c
     replace H := thicketlaw11_world.open H
     try dsimp only at H
     refine WR.d hE 7 [.pointer (some ⟨al_w_.a__p, 0, none⟩)] [(99, .bool true), (103, .pointer (some ⟨al_w_.a__p, 0, none⟩)), (104, .int .i64 t_2.2.1)] (obs := [.cell ⟨p_w_, 0, none⟩ (.pointer (some ⟨al_w_.a__p, 0, none⟩))]) ⟨H.cell 0 rfl rfl, trivial⟩ fun a hE => ?_
     obtain ⟨t_7, et_7, hm⟩ := bind_some hm
     refine WR.eff hE rfl rfl rfl rfl (OpTo.fn hE rfl rfl Tryz.call27 (arena_Arena_Give_ok et_7 H.t1)) ?_
     rintro _ w ⟨z3, z4, rfl, H⟩ a hE
     refine WR.e0 hE [(4, .bool t_7.1)] fun a hE => ?_
     replace H := thicketlaw11_world.shut (thicketlaw11_world.A.mk al_w_.a__p (arena_Arena.A.mk ((arena_Arena.A.mk al_w_.a__a.l_b al_w_.a__a.l_c z z1 al_w_.a__a.m__p).l_b) ((arena_Arena.A.mk al_w_.a__a.l_b al_w_.a__a.l_c z z1 al_w_.a__a.m__p).l_c) z3 z4 ((arena_Arena.A.mk al_w_.a__a.l_b al_w_.a__a.l_c z z1 al_w_.a__a.m__p).m__p)) sb sc al_w_.has1_b al_w_.has1_c) (thicketlaw11_world.mk t_7.2 s.2.root0 s.2.root1 t_6 s.2.has1 s.2.next s.2.spent s.2.most) H.t3.t3.t2.t3
     cases hm
     exact hk _ _ ⟨arena_Arena.A.mk ((arena_Arena.A.mk al_w_.a__a.l_b al_w_.a__a.l_c z z1 al_w_.a__a.m__p).l_b) ((arena_Arena.A.mk al_w_.a__a.l_b al_w_.a__a.l_c z z1 al_w_.a__a.m__p).l_c) z3 z4 ((arena_Arena.A.mk al_w_.a__a.l_b al_w_.a__a.l_c z z1 al_w_.a__a.m__p).m__p), hE.sel [4] (by kernel_rfl), H.x1⟩
    ·replace hE := hE.dec 99 c (by kernel_rfl)
     replace hm := cond_f c hm
     have c_5 := c
     refine WR.e0 hE [(4, .bool false)] fun a hE => ?_
     cases hm
     exact hk _ _ ⟨arena_Arena.A.mk al_w_.a__a.l_b al_w_.a__a.l_c z z1 al_w_.a__a.m__p, hE.sel [4] (by kernel_rfl), H.x1⟩
   rintro a w ⟨z2, hE, H⟩
   refine Runs.ret hE Tryz.func42 rfl rfl ?_
   cases hm
   exact ⟨z2, sb, sc, rfl, H⟩

theorem thicketlaw11_world_pop_at1_ok {w0 w : World} {As : List HP} {k : Nat} {p_w_ : Nat} {al_w_ : thicketlaw11_world.A} {w_ : thicketlaw11_world} {t : Bool × thicketlaw11_world}  (hm : thicketlaw11_world_pop_at1 k w_ = some t) (H : St w0 (thicketlaw11_world.R p_w_ al_w_ w_ :: As) w) :
    CallsR Tryz.prog 42 #[.pointer (some ⟨p_w_, 0, none⟩), .int .i64 1] w fun v w' => ∃ (z_w__a__a : arena_Arena.A), ∃ (z_w__has1_b : Option Addr), ∃ (z_w__has1_c : Nat), v = .bool t.1 ∧ St w0 (thicketlaw11_world.R p_w_ (thicketlaw11_world.A.mk al_w_.a__p z_w__a__a al_w_.has0_b al_w_.has0_c z_w__has1_b z_w__has1_c) t.2 :: As) w' := by
 rw [thicketlaw11_world_pop_at1] at hm
 refine enter (args := [.pointer (some ⟨p_w_, 0, none⟩), .int .i64 1]) Tryz.func42 rfl rfl rfl fun a hE => ?_
 refine Runs.sr ?_
 refine WR.seg hE 1 [] [0, 1] (Lo := [(0, .pointer (some ⟨p_w_, 0, none⟩)), (1, .int .i64 1)]) (obs := []) rfl (by kernel_rfl) trivial fun a hE => ?_
 refine WR.done rfl ?_
 refine Runs.sr ?_
 replace H := thicketlaw11_world.open H
 refine WR.d hE 4 [.pointer (some ⟨al_w_.a__p, 0, none⟩)] [(14, .pointer (some ⟨al_w_.a__p, 0, none⟩))] (obs := [.cell ⟨p_w_, 0, none⟩ (.pointer (some ⟨al_w_.a__p, 0, none⟩))]) ⟨H.cell 0 rfl rfl, trivial⟩ fun a hE => ?_
 obtain ⟨t_, et_, hm⟩ := bind_some hm
 refine WR.eff hE rfl rfl rfl rfl (OpTo.fn hE rfl rfl Tryz.call20 (arena_Arena_Meter_ok et_ H.t1)) ?_
 rintro _ w ⟨rfl, H⟩ a hE
 replace H := arena_Arena.open H
 obtain ⟨t_1, et_1, hm⟩ := bind_some hm
 refine WR.eff hE rfl rfl rfl rfl (OpTo.fn hE rfl rfl Tryz.call21 (meter_Meter_Steps_ok et_1 H.t3)) ?_
 rintro _ w ⟨rfl, H⟩ a hE
 refine WR.e0 hE [(5, .int .i64 t_1)] fun a hE => ?_
 refine Runs.seq ?_
 refine Runs.drawn mixed (by kernel_rfl) ?_
 replace H := H.drew
 refine WQ.d hE [0, 1, 2, 3, 4, 5, 6, 7, 8, 9] [.pointer (some ⟨al_w_.a__p, 0, none⟩), .int .i64 w_.root1] [(21, .pointer (some ⟨al_w_.a__p, 0, none⟩)), (27, .int .i64 w_.root1)] (obs := [.cell ⟨p_w_, 0, none⟩ (.pointer (some ⟨al_w_.a__p, 0, none⟩)), .p (0 ≤ (1 : Int) ∧ (1 : Int) < ((2 : Nat) : Int)), .cell ⟨p_w_, 2, none⟩ (.int .i64 w_.root1)]) ⟨H.cell 4 rfl rfl, ⟨by decide, by decide⟩, H.cell 4 rfl rfl, trivial⟩ fun a hE => ?_
 replace H := arena_Arena.shut al_w_.a__a (w_.a_) H.t3.t3.t3
 obtain ⟨t_2, et_2, hm⟩ := bind_some hm
 refine WQ.eff (j := 10) (obs := []) hE (by kernel_rfl) rfl rfl rfl rfl (by kernel_rfl) (OpTo.fn hE rfl rfl Tryz.call39 (skew_Pop_ok et_2 H)) ?_
 rintro _ w ⟨z, z1, rfl, H⟩
 refine ⟨trivial, fun a hE => ?_⟩
 refine WQ.d0 hE [11, 12, 13, 14, 15] [(6, .int .i64 t_2.1), (7, .int .i64 t_2.2.1)] fun a hE => ?_
 refine WQ.done (by kernel_rfl) ?_
 refine Runs.sr ?_
 refine WR.e hE [.slice al_w_.has1_b w_.has1.length al_w_.has1_c] [(8, .int .i64 (w_.has1.length : Int))] (obs := [.p (0 ≤ (1 : Int) ∧ (1 : Int) < ((2 : Nat) : Int)), .cell ⟨p_w_, 4, none⟩ (.slice al_w_.has1_b w_.has1.length al_w_.has1_c)]) ⟨⟨by decide, by decide⟩, H.cell 1 rfl rfl, trivial⟩ fun a hE => ?_
 refine Runs.seq ?_
 refine Runs.sr ?_
 refine WR.d0 hE 3 [(38, .pointer (some ⟨p_w_, 0, none⟩)), (39, .int .i64 t_1), (40, .int .i64 (w_.has1.length : Int))] fun a hE => ?_
 replace H := thicketlaw11_world.shut (thicketlaw11_world.A.mk al_w_.a__p (arena_Arena.A.mk al_w_.a__a.l_b al_w_.a__a.l_c z z1 al_w_.a__a.m__p) al_w_.has0_b al_w_.has0_c al_w_.has1_b al_w_.has1_c) (thicketlaw11_world.mk t_2.2.2 w_.root0 w_.root1 w_.has0 w_.has1 w_.next w_.spent w_.most) H.t3.t3.t2.t3
 obtain ⟨t_3, et_3, hm⟩ := bind_some hm
 refine WR.eff hE rfl rfl rfl rfl (OpTo.fn hE rfl rfl Tryz.call38 (thicketlaw11_world_cost_ok et_3 H)) ?_
 rintro _ w ⟨rfl, hf, hf1, H⟩ a hE
 refine WR.e0 hE [(42, .bool (!t_3.1))] fun a hE => ?_
 refine Runs.cond hE rfl (fun c => ?_) (fun c => ?_)
 ·replace hm := cond_t c hm
  refine Runs.sr ?_
  refine WR.e0 hE [(4, .bool false)] fun a hE => ?_
  refine Runs.ret hE Tryz.func42 rfl rfl ?_
  cases hm
  exact ⟨arena_Arena.A.mk al_w_.a__a.l_b al_w_.a__a.l_c z z1 al_w_.a__a.m__p, al_w_.has1_b, al_w_.has1_c, rfl, H⟩
 ·replace hm := cond_f c hm
  refine Runs.skip ?_
  refine Runs.seq ?_
  refine Runs.sr ?_
  refine WR.e0 hE [(44, .bool ((w_.has1.length : Int) == 0))] fun a hE => ?_
  refine Runs.cond hE rfl (fun c => ?_) (fun c => ?_)
  ·replace hm := cond_t c hm
   refine Runs.seq ?_
   refine Runs.join (fun a w => EnvOk 107 a [(4, .bool ((t_2.1 == (-1)) && (t_2.2.1 == (-1))))] ∧ St w0 (thicketlaw11_world.R p_w_ (thicketlaw11_world.A.mk al_w_.a__p (arena_Arena.A.mk al_w_.a__a.l_b al_w_.a__a.l_c z z1 al_w_.a__a.m__p) al_w_.has0_b al_w_.has0_c al_w_.has1_b al_w_.has1_c) t_3.2 :: As) w) (fun hk => ?_) ?_
   ·clear hm
    refine Runs.region ?_
    refine WR.d0 hE 3 [(47, .bool (t_2.1 == (-1)))] fun a hE => ?_
    rcases Bool.eq_false_or_eq_true (t_2.1 == (-1)) with c | c
    ·replace hE := hE.dec 47 c (by kernel_rfl)
     have c_ := c
     refine WR.e0 hE [(4, .bool (t_2.2.1 == (-1)))] fun a hE => ?_
     refine hk _ _ ⟨?_, H⟩
     try rw [c_] at hE
     try rw [c_]
     exact hE.sel [4] (by kernel_rfl)
    ·replace hE := hE.dec 47 c (by kernel_rfl)
     have c_1 := c
     refine WR.e0 hE [(4, .bool false)] fun a hE => ?_
     refine hk _ _ ⟨?_, H⟩
     try rw [c_1] at hE
     try rw [c_1]
     exact hE.sel [4] (by kernel_rfl)
   rintro a w ⟨hE, H⟩
   refine Runs.ret hE Tryz.func42 rfl rfl ?_
   cases hm
   exact ⟨arena_Arena.A.mk al_w_.a__a.l_b al_w_.a__a.l_c z z1 al_w_.a__a.m__p, al_w_.has1_b, al_w_.has1_c, rfl, H⟩
  ·replace hm := cond_f c hm
   refine Runs.skip ?_
   refine Runs.sr ?_
   replace H := thicketlaw11_world.open H
   try rw [hf] at H
   try rw [hf1] at H
   try dsimp only at H
   refine WR.d hE 6 [.slice al_w_.has1_b w_.has1.length al_w_.has1_c] [(56, .slice al_w_.has1_b w_.has1.length al_w_.has1_c)] (obs := [.p (0 ≤ (1 : Int) ∧ (1 : Int) < ((2 : Nat) : Int)), .cell ⟨p_w_, 4, none⟩ (.slice al_w_.has1_b w_.has1.length al_w_.has1_c)]) ⟨⟨by decide, by decide⟩, H.cell 0 rfl rfl, trivial⟩ fun a hE => ?_
   obtain ⟨t_4, et_4, hm⟩ := bind_some hm
   replace H := H.t3
   refine WR.eff hE rfl rfl rfl rfl (OpTo.fn hE rfl rfl Tryz.call81 (thicketlaw11_least_ok (hX_l := (sl_rd 76 thicketlaw11_held.enc 3 _ _ _)) (hC_l := (H.slCap 0 rfl).1) et_4 H)) ?_
   rintro _ w ⟨rfl, H⟩ a hE
   refine WR.e0 hE [(9, .int .i64 t_4)] fun a hE => ?_
   refine Runs.sr ?_
   refine WR.d hE 6 [] [(60, .int .i64 t_2.1), (63, .pointer (some ⟨p_w_, 2, none⟩))] (obs := [.p (0 ≤ (1 : Int) ∧ (1 : Int) < ((2 : Nat) : Int))]) ⟨⟨by decide, by decide⟩, trivial⟩ fun a hE => ?_
   refine WR.eff0 hE rfl rfl rfl (OpTo.store hE H.t1 rfl rfl rfl rfl rfl rfl (Nat.le_of_ble_eq_true rfl)) ?_
   rintro _ w H a hE
   refine WR.done rfl ?_
   refine Runs.seq ?_
   replace H := thicketlaw11_world.shut (thicketlaw11_world.A.mk al_w_.a__p (arena_Arena.A.mk al_w_.a__a.l_b al_w_.a__a.l_c z z1 al_w_.a__a.m__p) al_w_.has0_b al_w_.has0_c al_w_.has1_b al_w_.has1_c) (thicketlaw11_world.mk t_3.2.a_ t_3.2.root0 t_2.1 w_.has0 w_.has1 t_3.2.next t_3.2.spent t_3.2.most) H.t1.t3.t3.t3
   obtain ⟨s, es, hm⟩ := bind_some hm
   refine Runs.join (fun a w => EnvOk 107 a [(0, .pointer (some ⟨p_w_, 0, none⟩)), (1, .int .i64 1), (7, .int .i64 t_2.2.1), (9, .int .i64 t_4), (10, .bool s.1)] ∧ St w0 (thicketlaw11_world.R p_w_ (thicketlaw11_world.A.mk al_w_.a__p (arena_Arena.A.mk al_w_.a__a.l_b al_w_.a__a.l_c z z1 al_w_.a__a.m__p) al_w_.has0_b al_w_.has0_c al_w_.has1_b al_w_.has1_c) s.2 :: As) w) (fun hk => ?_) ?_
   ·replace hm := es; clear es
    refine Runs.region ?_
    replace H := thicketlaw11_world.open H
    try dsimp only at H
    obtain ⟨x1, ex1, hm⟩ := bind_some hm
    obtain ⟨b1, o1, hs1, hb1⟩ := SlRd.base (sl_rd 76 thicketlaw11_held.enc 3 _ _ _) thicketlaw11_held.enc_ok H 3 rfl ex1
    refine WR.d hE 13 [.slice al_w_.has1_b w_.has1.length al_w_.has1_c, .pointer (some ⟨b1, o1, none⟩), .int .i64 x1.cell] [(76, .bool (t_2.2.1 == x1.cell))] (obs := [.p (0 ≤ (1 : Int) ∧ (1 : Int) < ((2 : Nat) : Int)), .cell ⟨p_w_, 4, none⟩ (.slice al_w_.has1_b w_.has1.length al_w_.has1_c), .p ((al_w_.has1_b : Option Addr) = some ⟨b1, o1, none⟩), .p (0 ≤ (t_4 : Int) ∧ (t_4 : Int) < ((w_.has1.length : Nat) : Int)), .cell ⟨b1, o1 + (Int.toNat t_4) * 3, none⟩ (.int .i64 x1.cell)]) ⟨⟨by decide, by decide⟩, H.cell 0 rfl rfl, hs1, hb1, SlRd.cells (sl_rd 76 thicketlaw11_held.enc 3 _ _ _) thicketlaw11_held.enc_ok H 3 rfl hs1 ex1 0 _ rfl, trivial⟩ fun a hE => ?_
    rcases Bool.eq_false_or_eq_true (t_2.2.1 == x1.cell) with c | c
    ·replace hE := hE.dec 76 c (by kernel_rfl)
     replace hm := cond_t c hm
     have c_2 := c
     refine WR.d hE 18 [.pointer (some ⟨al_w_.a__p, 0, none⟩)] [(76, .bool true), (80, .pointer (some ⟨al_w_.a__p, 0, none⟩)), (81, .int .i64 t_2.2.1)] (obs := [.cell ⟨p_w_, 0, none⟩ (.pointer (some ⟨al_w_.a__p, 0, none⟩))]) ⟨H.cell 0 rfl rfl, trivial⟩ fun a hE => ?_
     obtain ⟨t_5, et_5, hm⟩ := bind_some hm
     refine WR.eff hE rfl rfl rfl rfl (OpTo.fn hE rfl rfl Tryz.call69 (item_Node_ok et_5 H.t1)) ?_
     rintro _ w ⟨rfl, H⟩ a hE
     refine WR.e0 hE [(10, .bool (t_5.1 == (-1)))] fun a hE => ?_
     replace H := thicketlaw11_world.shut (thicketlaw11_world.A.mk al_w_.a__p (arena_Arena.A.mk al_w_.a__a.l_b al_w_.a__a.l_c z z1 al_w_.a__a.m__p) al_w_.has0_b al_w_.has0_c al_w_.has1_b al_w_.has1_c) (thicketlaw11_world.mk t_5.2 t_3.2.root0 t_2.1 w_.has0 w_.has1 t_3.2.next t_3.2.spent t_3.2.most) H.t3.t3.t2.t3
     cases hm
     exact hk _ _ ⟨hE.sel [0, 1, 7, 9, 10] (by kernel_rfl), H⟩
    ·replace hE := hE.dec 76 c (by kernel_rfl)
     replace hm := cond_f c hm
     have c_3 := c
     refine WR.e0 hE [(10, .bool false)] fun a hE => ?_
     replace H := thicketlaw11_world.shut (thicketlaw11_world.A.mk al_w_.a__p (arena_Arena.A.mk al_w_.a__a.l_b al_w_.a__a.l_c z z1 al_w_.a__a.m__p) al_w_.has0_b al_w_.has0_c al_w_.has1_b al_w_.has1_c) (thicketlaw11_world.mk t_3.2.a_ t_3.2.root0 t_2.1 w_.has0 w_.has1 t_3.2.next t_3.2.spent t_3.2.most) H.t3.t3.t3.t3
     cases hm
     exact hk _ _ ⟨hE.sel [0, 1, 7, 9, 10] (by kernel_rfl), H⟩
   rintro a w ⟨hE, H⟩
   refine Runs.seq ?_
   refine Runs.drawn mixed (by kernel_rfl) ?_
   replace H := H.drew
   replace H := thicketlaw11_world.open H
   try dsimp only at H
   refine WQ.seg hE [0, 1, 2, 3, 4, 5, 6, 7, 8, 10, 11] [.slice al_w_.has1_b s.2.has1.length al_w_.has1_c] [0, 7, 10, 86, 92, 93, 96] (Lo := [(0, .pointer (some ⟨p_w_, 0, none⟩)), (7, .int .i64 t_2.2.1), (10, .bool s.1), (86, .int .i64 1), (92, .slice al_w_.has1_b s.2.has1.length al_w_.has1_c), (93, .int .i64 t_4), (96, .pointer (some ⟨p_w_, 3, none⟩))]) (obs := [.p (0 ≤ (1 : Int) ∧ (1 : Int) < ((2 : Nat) : Int)), .cell ⟨p_w_, 4, none⟩ (.slice al_w_.has1_b s.2.has1.length al_w_.has1_c)]) (by kernel_rfl) (by kernel_rfl) ⟨⟨by decide, by decide⟩, H.cell 0 rfl rfl, trivial⟩ fun a hE => ?_
   obtain ⟨t_6, et_6, hm⟩ := bind_some hm
   replace H := H.t3
   refine WQ.eff (j := 9) (obs := []) hE (by kernel_rfl) rfl rfl rfl rfl (by kernel_rfl) (OpTo.fn hE rfl rfl Tryz.call82 (thicketlaw11_without_ok (hX_l := (sl_rd 76 thicketlaw11_held.enc 3 _ _ _)) (hC_l := (H.slCap 0 rfl).1) et_6 H)) ?_
   rintro _ w ⟨sb, sc, rfl, H⟩
   refine ⟨trivial, fun a hE => ?_⟩
   refine WQ.d hE [12] [] [(97, .pointer (some ⟨p_w_, 4, none⟩))] (obs := [.p (0 ≤ (1 : Int) ∧ (1 : Int) < ((2 : Nat) : Int))]) ⟨⟨by decide, by decide⟩, trivial⟩ fun a hE => ?_
   refine WQ.eff0 (j := 13) (obs := []) hE (by kernel_rfl) rfl rfl rfl (by kernel_rfl) (OpTo.store hE H.t2 rfl rfl rfl rfl rfl rfl (Nat.le_of_ble_eq_true rfl)) ?_
   rintro _ w H
   refine ⟨trivial, fun a hE => ?_⟩
   refine WQ.done (by kernel_rfl) ?_
   refine Runs.seq ?_
   replace H := thicketlaw11_world.shut (thicketlaw11_world.A.mk al_w_.a__p (arena_Arena.A.mk al_w_.a__a.l_b al_w_.a__a.l_c z z1 al_w_.a__a.m__p) al_w_.has0_b al_w_.has0_c sb sc) (thicketlaw11_world.mk s.2.a_ s.2.root0 s.2.root1 s.2.has0 t_6 s.2.next s.2.spent s.2.most) H.t1.t4.t4.t3
   obtain ⟨s1, es1, hm⟩ := bind_some hm
   refine Runs.join (fun a w => ∃ (z2 : arena_Arena.A), EnvOk 107 a [(4, .bool s1.1)] ∧ St w0 (thicketlaw11_world.R p_w_ (thicketlaw11_world.A.mk al_w_.a__p z2 al_w_.has0_b al_w_.has0_c sb sc) s1.2 :: As) w) (fun hk => ?_) ?_
   ·replace hm := es1; clear es1
    refine Runs.region ?_
    refine WR.d0 hE 2 [(99, .bool s.1)] fun a hE => ?_
    rcases Bool.eq_false_or_eq_true s.1 with c | c
    ·replace hE := hE.dec 99 c (by kernel_rfl)
     replace hm := cond_t c hm
     have c_4 := c
     replace H := thicketlaw11_world.open H
     try dsimp only at H
     refine WR.d hE 7 [.pointer (some ⟨al_w_.a__p, 0, none⟩)] [(99, .bool true), (103, .pointer (some ⟨al_w_.a__p, 0, none⟩)), (104, .int .i64 t_2.2.1)] (obs := [.cell ⟨p_w_, 0, none⟩ (.pointer (some ⟨al_w_.a__p, 0, none⟩))]) ⟨H.cell 0 rfl rfl, trivial⟩ fun a hE => ?_
     obtain ⟨t_7, et_7, hm⟩ := bind_some hm
     refine WR.eff hE rfl rfl rfl rfl (OpTo.fn hE rfl rfl Tryz.call27 (arena_Arena_Give_ok et_7 H.t1)) ?_
     rintro _ w ⟨z3, z4, rfl, H⟩ a hE
     refine WR.e0 hE [(4, .bool t_7.1)] fun a hE => ?_
     replace H := thicketlaw11_world.shut (thicketlaw11_world.A.mk al_w_.a__p (arena_Arena.A.mk ((arena_Arena.A.mk al_w_.a__a.l_b al_w_.a__a.l_c z z1 al_w_.a__a.m__p).l_b) ((arena_Arena.A.mk al_w_.a__a.l_b al_w_.a__a.l_c z z1 al_w_.a__a.m__p).l_c) z3 z4 ((arena_Arena.A.mk al_w_.a__a.l_b al_w_.a__a.l_c z z1 al_w_.a__a.m__p).m__p)) al_w_.has0_b al_w_.has0_c sb sc) (thicketlaw11_world.mk t_7.2 s.2.root0 s.2.root1 s.2.has0 t_6 s.2.next s.2.spent s.2.most) H.t3.t3.t2.t3
     cases hm
     exact hk _ _ ⟨arena_Arena.A.mk ((arena_Arena.A.mk al_w_.a__a.l_b al_w_.a__a.l_c z z1 al_w_.a__a.m__p).l_b) ((arena_Arena.A.mk al_w_.a__a.l_b al_w_.a__a.l_c z z1 al_w_.a__a.m__p).l_c) z3 z4 ((arena_Arena.A.mk al_w_.a__a.l_b al_w_.a__a.l_c z z1 al_w_.a__a.m__p).m__p), hE.sel [4] (by kernel_rfl), H.x1⟩
    ·replace hE := hE.dec 99 c (by kernel_rfl)
     replace hm := cond_f c hm
     have c_5 := c
     refine WR.e0 hE [(4, .bool false)] fun a hE => ?_
     cases hm
     exact hk _ _ ⟨arena_Arena.A.mk al_w_.a__a.l_b al_w_.a__a.l_c z z1 al_w_.a__a.m__p, hE.sel [4] (by kernel_rfl), H.x1⟩
   rintro a w ⟨z2, hE, H⟩
   refine Runs.ret hE Tryz.func42 rfl rfl ?_
   cases hm
   exact ⟨z2, sb, sc, rfl, H⟩

theorem thicketlaw11_world_pop_ok {w0 w : World} {As : List HP} {k : Nat} {p_w_ : Nat} {al_w_ : thicketlaw11_world.A} {w_ : thicketlaw11_world} {h_ : Int} {t : Bool × thicketlaw11_world}  (hm : thicketlaw11_world_pop k w_ h_ = some t) (H : St w0 (thicketlaw11_world.R p_w_ al_w_ w_ :: As) w) :
    CallsR Tryz.prog 42 #[.pointer (some ⟨p_w_, 0, none⟩), .int .i64 h_] w fun v w' => ∃ (z_w__a__a : arena_Arena.A), ∃ (z_w__has0_b : Option Addr), ∃ (z_w__has0_c : Nat), ∃ (z_w__has1_b : Option Addr), ∃ (z_w__has1_c : Nat), v = .bool t.1 ∧ St w0 (thicketlaw11_world.R p_w_ (thicketlaw11_world.A.mk al_w_.a__p z_w__a__a z_w__has0_b z_w__has0_c z_w__has1_b z_w__has1_c) t.2 :: As) w' := by
  rw [thicketlaw11_world_pop] at hm
  by_cases h0 : h_ = 0
  · subst h0; simp only [if_pos] at hm
    refine (thicketlaw11_world_pop_at0_ok hm H).mono ?_
    rintro v w' ⟨y_0, y_1, y_2, hv, H⟩; exact ⟨y_0, y_1, y_2, al_w_.has1_b, al_w_.has1_c, hv, H⟩
  rw [if_neg h0] at hm
  by_cases h1 : h_ = 1
  · subst h1; simp only [if_pos] at hm
    refine (thicketlaw11_world_pop_at1_ok hm H).mono ?_
    rintro v w' ⟨y_0, y_1, y_2, hv, H⟩; exact ⟨y_0, al_w_.has0_b, al_w_.has0_c, y_1, y_2, hv, H⟩
  rw [if_neg h1] at hm
  cases hm

theorem skew_Meld_ok {w0 w : World} {As : List HP} {k : Nat} {p_a_ : Nat} {al_a_ : arena_Arena.A} {a_ : arena_Arena} {r : Int} {s : Int} {t : Int × arena_Arena}  (hm : skew_Meld k a_ r s = some t) (H : St w0 (arena_Arena.R p_a_ al_a_ a_ :: As) w) :
    CallsR Tryz.prog 86 #[.pointer (some ⟨p_a_, 0, none⟩), .int .i64 r, .int .i64 s] w fun v w' => v = .int .i64 t.1 ∧ St w0 (arena_Arena.R p_a_ al_a_ t.2 :: As) w' := by
 rw [skew_Meld] at hm
 refine enter (args := [.pointer (some ⟨p_a_, 0, none⟩), .int .i64 r, .int .i64 s]) Tryz.func86 rfl rfl rfl fun a hE => ?_
 refine Runs.sr ?_
 refine WR.seg hE 1 [] [0, 1, 2] (Lo := [(0, .pointer (some ⟨p_a_, 0, none⟩)), (1, .int .i64 r), (2, .int .i64 s)]) (obs := []) rfl (by kernel_rfl) trivial fun a hE => ?_
 refine WR.done rfl ?_
 refine Runs.seq ?_
 refine Runs.sr ?_
 refine WR.e0 hE [(8, .bool false)] fun a hE => ?_
 refine Runs.condF hE rfl ?_
 refine Runs.skip ?_
 refine Runs.seq ?_
 refine Runs.sr ?_
 refine WR.e0 hE [(11, .bool (r == s))] fun a hE => ?_
 refine Runs.cond hE rfl (fun c => ?_) (fun c => ?_)
 ·replace hm := cond_t c hm
  refine Runs.sr ?_
  refine WR.e0 hE [(6, .int .i64 r)] fun a hE => ?_
  refine Runs.ret hE Tryz.func86 rfl rfl ?_
  cases hm
  exact ⟨rfl, H⟩
 ·replace hm := cond_f c hm
  refine Runs.skip ?_
  refine Runs.sr ?_
  refine WR.d0 hE 3 [(13, .pointer (some ⟨p_a_, 0, none⟩)), (14, .pointer (some ⟨p_a_, 0, none⟩)), (15, .int .i64 r)] fun a hE => ?_
  obtain ⟨t_, et_, hm⟩ := bind_some hm
  refine WR.eff hE rfl rfl rfl rfl (OpTo.fn hE rfl rfl Tryz.call60 (trees_List_ok et_ H)) ?_
  rintro _ w ⟨sb, sc, rfl, H⟩ a hE
  refine WR.d0 hE 6 [(17, .pointer (some ⟨p_a_, 0, none⟩)), (18, .int .i64 s)] fun a hE => ?_
  obtain ⟨t_1, et_1, hm⟩ := bind_some hm
  refine WR.eff hE rfl rfl rfl rfl (OpTo.fn hE rfl rfl Tryz.call60 (trees_List_ok et_1 H.t1)) ?_
  rintro _ w ⟨sb1, sc1, rfl, H⟩ a hE
  obtain ⟨l, el, hm⟩ := bind_some hm
  replace H := H.t2
  refine WR.eff hE rfl rfl rfl rfl (OpTo.appendM el hE H ecI_ok rfl rfl rfl rfl rfl rfl rfl rfl rfl rfl (SlRd.all (sl_rd 3 ecI 1 _ _ _) ecI_ok H 1 rfl) rfl) ?_
  rintro _ w ⟨sb2, sc2, rfl, H⟩ a hE
  obtain ⟨t_2, et_2, hm⟩ := bind_some hm
  replace H := H.t2
  refine WR.eff hE rfl rfl rfl rfl (OpTo.fn hE rfl rfl Tryz.call59 (trees_Carry_ok (hX_l := (sl_rd 3 ecI 1 _ _ _)) (hC_l := (H.slCap 1 rfl).1) et_2 H)) ?_
  rintro _ w ⟨rfl, H⟩ a hE
  refine WR.e0 hE [(6, .int .i64 t_2.1)] fun a hE => ?_
  refine Runs.ret hE Tryz.func86 rfl rfl ?_
  cases hm
  exact ⟨rfl, H.x2.x1⟩

theorem thicketlaw11_world_meld_at0_ok {w0 w : World} {As : List HP} {k : Nat} {p_w_ : Nat} {al_w_ : thicketlaw11_world.A} {w_ : thicketlaw11_world} {t : Bool × thicketlaw11_world}  (hm : thicketlaw11_world_meld_at0 k w_ = some t) (H : St w0 (thicketlaw11_world.R p_w_ al_w_ w_ :: As) w) :
    CallsR Tryz.prog 44 #[.pointer (some ⟨p_w_, 0, none⟩), .int .i64 0] w fun v w' => ∃ (z_w__has0_b : Option Addr), ∃ (z_w__has0_c : Nat), ∃ (z_w__has1_b : Option Addr), ∃ (z_w__has1_c : Nat), v = .bool t.1 ∧ St w0 (thicketlaw11_world.R p_w_ (thicketlaw11_world.A.mk al_w_.a__p al_w_.a__a z_w__has0_b z_w__has0_c z_w__has1_b z_w__has1_c) t.2 :: As) w' := by
 rw [thicketlaw11_world_meld_at0] at hm
 refine enter (args := [.pointer (some ⟨p_w_, 0, none⟩), .int .i64 0]) Tryz.func44 rfl rfl rfl fun a hE => ?_
 refine Runs.sr ?_
 refine WR.seg hE 1 [] [0, 1] (Lo := [(0, .pointer (some ⟨p_w_, 0, none⟩)), (1, .int .i64 0)]) (obs := []) rfl (by kernel_rfl) trivial fun a hE => ?_
 refine WR.done rfl ?_
 refine Runs.sr ?_
 replace H := thicketlaw11_world.open H
 refine WR.d hE 4 [.pointer (some ⟨al_w_.a__p, 0, none⟩)] [(10, .pointer (some ⟨al_w_.a__p, 0, none⟩))] (obs := [.cell ⟨p_w_, 0, none⟩ (.pointer (some ⟨al_w_.a__p, 0, none⟩))]) ⟨H.cell 0 rfl rfl, trivial⟩ fun a hE => ?_
 obtain ⟨t_, et_, hm⟩ := bind_some hm
 refine WR.eff hE rfl rfl rfl rfl (OpTo.fn hE rfl rfl Tryz.call20 (arena_Arena_Meter_ok et_ H.t1)) ?_
 rintro _ w ⟨rfl, H⟩ a hE
 replace H := arena_Arena.open H
 obtain ⟨t_1, et_1, hm⟩ := bind_some hm
 refine WR.eff hE rfl rfl rfl rfl (OpTo.fn hE rfl rfl Tryz.call21 (meter_Meter_Steps_ok et_1 H.t3)) ?_
 rintro _ w ⟨rfl, H⟩ a hE
 refine WR.e0 hE [(5, .int .i64 t_1)] fun a hE => ?_
 refine Runs.seq ?_
 refine Runs.drawn mixed (by kernel_rfl) ?_
 replace H := H.drew
 refine WQ.d hE [0, 1, 2, 3, 4, 5, 6, 7, 8, 9, 10, 11, 12, 13, 14, 15, 16] [.pointer (some ⟨al_w_.a__p, 0, none⟩), .int .i64 w_.root0, .int .i64 w_.root1] [(16, .pointer (some ⟨al_w_.a__p, 0, none⟩)), (22, .int .i64 w_.root0), (29, .int .i64 w_.root1)] (obs := [.cell ⟨p_w_, 0, none⟩ (.pointer (some ⟨al_w_.a__p, 0, none⟩)), .p (0 ≤ (0 : Int) ∧ (0 : Int) < ((2 : Nat) : Int)), .cell ⟨p_w_, 1, none⟩ (.int .i64 w_.root0), .p (0 ≤ (1 : Int) ∧ (1 : Int) < ((2 : Nat) : Int)), .cell ⟨p_w_, 2, none⟩ (.int .i64 w_.root1)]) ⟨H.cell 4 rfl rfl, ⟨by decide, by decide⟩, H.cell 4 rfl rfl, ⟨by decide, by decide⟩, H.cell 4 rfl rfl, trivial⟩ fun a hE => ?_
 replace H := arena_Arena.shut al_w_.a__a (w_.a_) H.t3.t3.t3
 obtain ⟨t_2, et_2, hm⟩ := bind_some hm
 refine WQ.eff (j := 17) (obs := []) hE (by kernel_rfl) rfl rfl rfl rfl (by kernel_rfl) (OpTo.fn hE rfl rfl Tryz.call86 (skew_Meld_ok et_2 H)) ?_
 rintro _ w ⟨rfl, H⟩
 refine ⟨trivial, fun a hE => ?_⟩
 refine WQ.d0 hE [18] [(6, .int .i64 t_2.1)] fun a hE => ?_
 refine WQ.done (by kernel_rfl) ?_
 refine Runs.seq ?_
 refine Runs.seq ?_
 refine Runs.drawn mixed (by kernel_rfl) ?_
 replace H := H.drew
 refine WQ.d hE [0, 1, 2, 3, 4, 5, 6, 7, 8, 9, 10, 11, 12, 13, 14] [.slice al_w_.has0_b w_.has0.length al_w_.has0_c, .slice al_w_.has1_b w_.has1.length al_w_.has1_c] [(31, .pointer (some ⟨p_w_, 0, none⟩)), (32, .int .i64 t_1), (45, .int .i64 (w64 ((w_.has0.length : Int) + (w_.has1.length : Int))))] (obs := [.p (0 ≤ (0 : Int) ∧ (0 : Int) < ((2 : Nat) : Int)), .cell ⟨p_w_, 3, none⟩ (.slice al_w_.has0_b w_.has0.length al_w_.has0_c), .p (0 ≤ (1 : Int) ∧ (1 : Int) < ((2 : Nat) : Int)), .cell ⟨p_w_, 4, none⟩ (.slice al_w_.has1_b w_.has1.length al_w_.has1_c)]) ⟨⟨by decide, by decide⟩, H.cell 1 rfl rfl, ⟨by decide, by decide⟩, H.cell 1 rfl rfl, trivial⟩ fun a hE => ?_
 replace H := thicketlaw11_world.shut al_w_ (thicketlaw11_world.mk t_2.2 w_.root0 w_.root1 w_.has0 w_.has1 w_.next w_.spent w_.most) H.t3.t3.t2.t3
 obtain ⟨t_3, et_3, hm⟩ := bind_some hm
 refine WQ.eff (j := 15) (obs := []) hE (by kernel_rfl) rfl rfl rfl rfl (by kernel_rfl) (OpTo.fn hE rfl rfl Tryz.call38 (thicketlaw11_world_cost_ok et_3 H)) ?_
 rintro _ w ⟨rfl, hf, hf1, H⟩
 refine ⟨trivial, fun a hE => ?_⟩
 refine WQ.d0 hE [16] [(47, .bool (!t_3.1))] fun a hE => ?_
 refine WQ.done (by kernel_rfl) ?_
 refine Runs.cond hE rfl (fun c => ?_) (fun c => ?_)
 ·replace hm := cond_t c hm
  refine Runs.sr ?_
  refine WR.e0 hE [(4, .bool false)] fun a hE => ?_
  refine Runs.ret hE Tryz.func44 rfl rfl ?_
  cases hm
  exact ⟨al_w_.has0_b, al_w_.has0_c, al_w_.has1_b, al_w_.has1_c, rfl, H⟩
 ·replace hm := cond_f c hm
  refine Runs.skip ?_
  refine Runs.seq ?_
  refine Runs.drawn mixed (by kernel_rfl) ?_
  replace H := H.drew
  refine WQ.d hE [0, 1, 2, 3, 4, 5, 6, 7, 8, 10, 11] [] [(52, .int .i64 1), (53, .int .i64 t_2.1), (56, .pointer (some ⟨p_w_, 1, none⟩)), (58, .pointer (some ⟨p_w_, 1, none⟩))] (obs := [.p (0 ≤ (0 : Int) ∧ (0 : Int) < ((2 : Nat) : Int))]) ⟨⟨by decide, by decide⟩, trivial⟩ fun a hE => ?_
  replace H := thicketlaw11_world.open H
  try rw [hf] at H
  try rw [hf1] at H
  try dsimp only at H
  refine WQ.eff0 (j := 9) (obs := []) hE (by kernel_rfl) rfl rfl rfl (by kernel_rfl) (OpTo.store hE H rfl rfl rfl rfl rfl rfl (Nat.le_of_ble_eq_true rfl)) ?_
  rintro _ w H
  refine ⟨trivial, fun a hE => ?_⟩
  refine WQ.d hE [12] [] [(59, .pointer (some ⟨p_w_, 2, none⟩))] (obs := [.p (0 ≤ (1 : Int) ∧ (1 : Int) < ((2 : Nat) : Int))]) ⟨⟨by decide, by decide⟩, trivial⟩ fun a hE => ?_
  refine WQ.eff0 (j := 13) (obs := []) hE (by kernel_rfl) rfl rfl rfl (by kernel_rfl) (OpTo.store hE H rfl rfl rfl rfl rfl rfl (Nat.le_of_ble_eq_true rfl)) ?_
  rintro _ w H
  refine ⟨trivial, fun a hE => ?_⟩
  refine WQ.done (by kernel_rfl) ?_
  refine Runs.seq ?_
  refine Runs.drawn mixed (by kernel_rfl) ?_
  replace H := H.drew
  refine WQ.d hE [0, 1, 2, 3, 4, 6, 7, 8, 9, 10, 11, 13, 14, 15, 16, 17, 18, 19, 21, 22, 25, 26] [.slice al_w_.has0_b w_.has0.length al_w_.has0_c, .slice al_w_.has1_b w_.has1.length al_w_.has1_c] [(61, .int .i64 0), (64, .int .i64 1), (71, .slice al_w_.has0_b w_.has0.length al_w_.has0_c), (79, .slice al_w_.has1_b w_.has1.length al_w_.has1_c), (82, .pointer (some ⟨p_w_, 3, none⟩)), (85, .pointer (some ⟨p_w_, 3, none⟩))] (obs := [.p (0 ≤ (0 : Int) ∧ (0 : Int) < ((2 : Nat) : Int)), .cell ⟨p_w_, 3, none⟩ (.slice al_w_.has0_b w_.has0.length al_w_.has0_c), .p (0 ≤ (1 : Int) ∧ (1 : Int) < ((2 : Nat) : Int)), .cell ⟨p_w_, 4, none⟩ (.slice al_w_.has1_b w_.has1.length al_w_.has1_c)]) ⟨⟨by decide, by decide⟩, H.cell 0 rfl rfl, ⟨by decide, by decide⟩, H.cell 0 rfl rfl, trivial⟩ fun a hE => ?_
  refine WQ.eff (j := 5) (obs := [.cell ⟨p_w_, 4, none⟩ (.slice al_w_.has1_b w_.has1.length al_w_.has1_c), .p (0 ≤ (1 : Int) ∧ (1 : Int) < ((2 : Nat) : Int)), .cell ⟨p_w_, 3, none⟩ (.slice al_w_.has0_b w_.has0.length al_w_.has0_c), .p (0 ≤ (0 : Int) ∧ (0 : Int) < ((2 : Nat) : Int))]) hE (by kernel_rfl) rfl rfl rfl rfl (by kernel_rfl) (OpTo.buildSl (T := 76) hE H thicketlaw11_held.enc_ok ([] : List thicketlaw11_held) rfl (fun _ => by kernel_rfl) rfl rfl rfl) ?_
  rintro _ w ⟨r, rfl, H⟩
  refine ⟨⟨H.cell 1 rfl rfl, ⟨by decide, by decide⟩, H.cell 1 rfl rfl, ⟨by decide, by decide⟩, trivial⟩, fun a hE => ?_⟩
  obtain ⟨l, el, hm⟩ := bind_some hm
  refine WQ.eff (j := 12) (obs := [.cell ⟨p_w_, 4, none⟩ (.slice al_w_.has1_b w_.has1.length al_w_.has1_c), .p (0 ≤ (1 : Int) ∧ (1 : Int) < ((2 : Nat) : Int))]) hE (by kernel_rfl) rfl rfl rfl rfl (by kernel_rfl) (OpTo.appendM el hE H thicketlaw11_held.enc_ok rfl rfl rfl rfl rfl rfl rfl rfl rfl rfl (SlRd.all (sl_rd 76 thicketlaw11_held.enc 3 _ _ _) thicketlaw11_held.enc_ok H 3 rfl) rfl) ?_
  rintro _ w ⟨sb, sc, rfl, H⟩
  refine ⟨⟨H.cell 1 rfl rfl, ⟨by decide, by decide⟩, trivial⟩, fun a hE => ?_⟩
  obtain ⟨l1, el1, hm⟩ := bind_some hm
  refine WQ.eff (j := 20) (obs := []) hE (by kernel_rfl) rfl rfl rfl rfl (by kernel_rfl) (OpTo.appendM el1 hE H thicketlaw11_held.enc_ok rfl rfl rfl rfl rfl rfl rfl rfl rfl rfl (SlRd.all (sl_rd 76 thicketlaw11_held.enc 3 _ _ _) thicketlaw11_held.enc_ok H 4 rfl) rfl) ?_
  rintro _ w ⟨sb1, sc1, rfl, H⟩
  refine ⟨trivial, fun a hE => ?_⟩
  refine WQ.d hE [23] [] [(83, .pointer (some ⟨p_w_, 3, none⟩))] (obs := [.p (0 ≤ (0 : Int) ∧ (0 : Int) < ((2 : Nat) : Int))]) ⟨⟨by decide, by decide⟩, trivial⟩ fun a hE => ?_
  refine WQ.eff0 (j := 24) (obs := []) hE (by kernel_rfl) rfl rfl rfl (by kernel_rfl) (OpTo.store hE H.t1 rfl rfl rfl rfl rfl rfl (Nat.le_of_ble_eq_true rfl)) ?_
  rintro _ w H
  refine ⟨trivial, fun a hE => ?_⟩
  refine WQ.d hE [27] [] [(86, .pointer (some ⟨p_w_, 4, none⟩))] (obs := [.p (0 ≤ (1 : Int) ∧ (1 : Int) < ((2 : Nat) : Int))]) ⟨⟨by decide, by decide⟩, trivial⟩ fun a hE => ?_
  refine WQ.eff0 (j := 28) (obs := []) hE (by kernel_rfl) rfl rfl rfl (by kernel_rfl) (OpTo.store hE H rfl rfl rfl rfl rfl rfl (Nat.le_of_ble_eq_true rfl)) ?_
  rintro _ w H
  refine ⟨trivial, fun a hE => ?_⟩
  refine WQ.done (by kernel_rfl) ?_
  refine Runs.sr ?_
  refine WR.e0 hE [(4, .bool true)] fun a hE => ?_
  replace H := H.slNil 76 thicketlaw11_held.enc 3
  replace H := thicketlaw11_world.shut (thicketlaw11_world.A.mk al_w_.a__p al_w_.a__a sb1 sc1 none 0) (thicketlaw11_world.mk t_3.2.a_ t_2.1 (-1) l1 ([] : List thicketlaw11_held) t_3.2.next t_3.2.spent t_3.2.most) H.t2.t3.t3
  refine Runs.ret hE Tryz.func44 rfl rfl ?_
  cases hm
  exact ⟨sb1, sc1, none, 0, rfl, H.x2.x1⟩

theorem thicketlaw11_world_meld_at1_ok {w0 w : World} {As : List HP} {k : Nat} {p_w_ : Nat} {al_w_ : thicketlaw11_world.A} {w_ : thicketlaw11_world} {t : Bool × thicketlaw11_world}  (hm : thicketlaw11_world_meld_at1 k w_ = some t) (H : St w0 (thicketlaw11_world.R p_w_ al_w_ w_ :: As) w) :
    CallsR Tryz.prog 44 #[.pointer (some ⟨p_w_, 0, none⟩), .int .i64 1] w fun v w' => ∃ (z_w__has0_b : Option Addr), ∃ (z_w__has0_c : Nat), ∃ (z_w__has1_b : Option Addr), ∃ (z_w__has1_c : Nat), v = .bool t.1 ∧ St w0 (thicketlaw11_world.R p_w_ (thicketlaw11_world.A.mk al_w_.a__p al_w_.a__a z_w__has0_b z_w__has0_c z_w__has1_b z_w__has1_c) t.2 :: As) w' := by
 rw [thicketlaw11_world_meld_at1] at hm
 refine enter (args := [.pointer (some ⟨p_w_, 0, none⟩), .int .i64 1]) Tryz.func44 rfl rfl rfl fun a hE => ?_
 refine Runs.sr ?_
 refine WR.seg hE 1 [] [0, 1] (Lo := [(0, .pointer (some ⟨p_w_, 0, none⟩)), (1, .int .i64 1)]) (obs := []) rfl (by kernel_rfl) trivial fun a hE => ?_
 refine WR.done rfl ?_
 refine Runs.sr ?_
 replace H := thicketlaw11_world.open H
 refine WR.d hE 4 [.pointer (some ⟨al_w_.a__p, 0, none⟩)] [(10, .pointer (some ⟨al_w_.a__p, 0, none⟩))] (obs := [.cell ⟨p_w_, 0, none⟩ (.pointer (some ⟨al_w_.a__p, 0, none⟩))]) ⟨H.cell 0 rfl rfl, trivial⟩ fun a hE => ?_
 obtain ⟨t_, et_, hm⟩ := bind_some hm
 refine WR.eff hE rfl rfl rfl rfl (OpTo.fn hE rfl rfl Tryz.call20 (arena_Arena_Meter_ok et_ H.t1)) ?_
 rintro _ w ⟨rfl, H⟩ a hE
 replace H := arena_Arena.open H
 obtain ⟨t_1, et_1, hm⟩ := bind_some hm
 refine WR.eff hE rfl rfl rfl rfl (OpTo.fn hE rfl rfl Tryz.call21 (meter_Meter_Steps_ok et_1 H.t3)) ?_
 rintro _ w ⟨rfl, H⟩ a hE
 refine WR.e0 hE [(5, .int .i64 t_1)] fun a hE => ?_
 refine Runs.seq ?_
 refine Runs.drawn mixed (by kernel_rfl) ?_
 replace H := H.drew
 refine WQ.d hE [0, 1, 2, 3, 4, 5, 6, 7, 8, 9, 10, 11, 12, 13, 14, 15, 16] [.pointer (some ⟨al_w_.a__p, 0, none⟩), .int .i64 w_.root1, .int .i64 w_.root0] [(16, .pointer (some ⟨al_w_.a__p, 0, none⟩)), (22, .int .i64 w_.root1), (29, .int .i64 w_.root0)] (obs := [.cell ⟨p_w_, 0, none⟩ (.pointer (some ⟨al_w_.a__p, 0, none⟩)), .p (0 ≤ (1 : Int) ∧ (1 : Int) < ((2 : Nat) : Int)), .cell ⟨p_w_, 2, none⟩ (.int .i64 w_.root1), .p (0 ≤ (0 : Int) ∧ (0 : Int) < ((2 : Nat) : Int)), .cell ⟨p_w_, 1, none⟩ (.int .i64 w_.root0)]) ⟨H.cell 4 rfl rfl, ⟨by decide, by decide⟩, H.cell 4 rfl rfl, ⟨by decide, by decide⟩, H.cell 4 rfl rfl, trivial⟩ fun a hE => ?_
 replace H := arena_Arena.shut al_w_.a__a (w_.a_) H.t3.t3.t3
 obtain ⟨t_2, et_2, hm⟩ := bind_some hm
 refine WQ.eff (j := 17) (obs := []) hE (by kernel_rfl) rfl rfl rfl rfl (by kernel_rfl) (OpTo.fn hE rfl rfl Tryz.call86 (skew_Meld_ok et_2 H)) ?_
 rintro _ w ⟨rfl, H⟩
 refine ⟨trivial, fun a hE => ?_⟩
 refine WQ.d0 hE [18] [(6, .int .i64 t_2.1)] fun a hE => ?_
 refine WQ.done (by kernel_rfl) ?_
 refine Runs.seq ?_
 refine Runs.seq ?_
 refine Runs.drawn mixed (by kernel_rfl) ?_
 replace H := H.drew
 refine WQ.d hE [0, 1, 2, 3, 4, 5, 6, 7, 8, 9, 10, 11, 12, 13, 14] [.slice al_w_.has0_b w_.has0.length al_w_.has0_c, .slice al_w_.has1_b w_.has1.length al_w_.has1_c] [(31, .pointer (some ⟨p_w_, 0, none⟩)), (32, .int .i64 t_1), (45, .int .i64 (w64 ((w_.has0.length : Int) + (w_.has1.length : Int))))] (obs := [.p (0 ≤ (0 : Int) ∧ (0 : Int) < ((2 : Nat) : Int)), .cell ⟨p_w_, 3, none⟩ (.slice al_w_.has0_b w_.has0.length al_w_.has0_c), .p (0 ≤ (1 : Int) ∧ (1 : Int) < ((2 : Nat) : Int)), .cell ⟨p_w_, 4, none⟩ (.slice al_w_.has1_b w_.has1.length al_w_.has1_c)]) ⟨⟨by decide, by decide⟩, H.cell 1 rfl rfl, ⟨by decide, by decide⟩, H.cell 1 rfl rfl, trivial⟩ fun a hE => ?_
 replace H := thicketlaw11_world.shut al_w_ (thicketlaw11_world.mk t_2.2 w_.root0 w_.root1 w_.has0 w_.has1 w_.next w_.spent w_.most) H.t3.t3.t2.t3
 obtain ⟨t_3, et_3, hm⟩ := bind_some hm
 refine WQ.eff (j := 15) (obs := []) hE (by kernel_rfl) rfl rfl rfl rfl (by kernel_rfl) (OpTo.fn hE rfl rfl Tryz.call38 (thicketlaw11_world_cost_ok et_3 H)) ?_
 rintro _ w ⟨rfl, hf, hf1, H⟩
 refine ⟨trivial, fun a hE => ?_⟩
 refine WQ.d0 hE [16] [(47, .bool (!t_3.1))] fun a hE => ?_
 refine WQ.done (by kernel_rfl) ?_
 refine Runs.cond hE rfl (fun c => ?_) (fun c => ?_)
 ·replace hm := cond_t c hm
  refine Runs.sr ?_
  refine WR.e0 hE [(4, .bool false)] fun a hE => ?_
  refine Runs.ret hE Tryz.func44 rfl rfl ?_
  cases hm
  exact ⟨al_w_.has0_b, al_w_.has0_c, al_w_.has1_b, al_w_.has1_c, rfl, H⟩
 ·replace hm := cond_f c hm
  refine Runs.skip ?_
  refine Runs.seq ?_
  refine Runs.drawn mixed (by kernel_rfl) ?_
  replace H := H.drew
  refine WQ.d hE [0, 1, 2, 3, 4, 5, 6, 7, 8, 10, 11] [] [(52, .int .i64 0), (53, .int .i64 t_2.1), (56, .pointer (some ⟨p_w_, 2, none⟩)), (58, .pointer (some ⟨p_w_, 1, none⟩))] (obs := [.p (0 ≤ (1 : Int) ∧ (1 : Int) < ((2 : Nat) : Int))]) ⟨⟨by decide, by decide⟩, trivial⟩ fun a hE => ?_
  replace H := thicketlaw11_world.open H
  try rw [hf] at H
  try rw [hf1] at H
  try dsimp only at H
  refine WQ.eff0 (j := 9) (obs := []) hE (by kernel_rfl) rfl rfl rfl (by kernel_rfl) (OpTo.store hE H rfl rfl rfl rfl rfl rfl (Nat.le_of_ble_eq_true rfl)) ?_
  rintro _ w H
  refine ⟨trivial, fun a hE => ?_⟩
  refine WQ.d hE [12] [] [(59, .pointer (some ⟨p_w_, 1, none⟩))] (obs := [.p (0 ≤ (0 : Int) ∧ (0 : Int) < ((2 : Nat) : Int))]) ⟨⟨by decide, by decide⟩, trivial⟩ fun a hE => ?_
  refine WQ.eff0 (j := 13) (obs := []) hE (by kernel_rfl) rfl rfl rfl (by kernel_rfl) (OpTo.store hE H rfl rfl rfl rfl rfl rfl (Nat.le_of_ble_eq_true rfl)) ?_
  rintro _ w H
  refine ⟨trivial, fun a hE => ?_⟩
  refine WQ.done (by kernel_rfl) ?_
  refine Runs.seq ?_
  refine Runs.drawn mixed (by kernel_rfl) ?_
  replace H := H.drew
  refine WQ.d hE [0, 1, 2, 3, 4, 6, 7, 8, 9, 10, 11, 13, 14, 15, 16, 17, 18, 19, 21, 22, 25, 26] [.slice al_w_.has1_b w_.has1.length al_w_.has1_c, .slice al_w_.has0_b w_.has0.length al_w_.has0_c] [(61, .int .i64 1), (64, .int .i64 0), (71, .slice al_w_.has1_b w_.has1.length al_w_.has1_c), (79, .slice al_w_.has0_b w_.has0.length al_w_.has0_c), (82, .pointer (some ⟨p_w_, 3, none⟩)), (85, .pointer (some ⟨p_w_, 3, none⟩))] (obs := [.p (0 ≤ (1 : Int) ∧ (1 : Int) < ((2 : Nat) : Int)), .cell ⟨p_w_, 4, none⟩ (.slice al_w_.has1_b w_.has1.length al_w_.has1_c), .p (0 ≤ (0 : Int) ∧ (0 : Int) < ((2 : Nat) : Int)), .cell ⟨p_w_, 3, none⟩ (.slice al_w_.has0_b w_.has0.length al_w_.has0_c)]) ⟨⟨by decide, by decide⟩, H.cell 0 rfl rfl, ⟨by decide, by decide⟩, H.cell 0 rfl rfl, trivial⟩ fun a hE => ?_
  refine WQ.eff (j := 5) (obs := [.cell ⟨p_w_, 3, none⟩ (.slice al_w_.has0_b w_.has0.length al_w_.has0_c), .p (0 ≤ (0 : Int) ∧ (0 : Int) < ((2 : Nat) : Int)), .cell ⟨p_w_, 4, none⟩ (.slice al_w_.has1_b w_.has1.length al_w_.has1_c), .p (0 ≤ (1 : Int) ∧ (1 : Int) < ((2 : Nat) : Int))]) hE (by kernel_rfl) rfl rfl rfl rfl (by kernel_rfl) (OpTo.buildSl (T := 76) hE H thicketlaw11_held.enc_ok ([] : List thicketlaw11_held) rfl (fun _ => by kernel_rfl) rfl rfl rfl) ?_
  rintro _ w ⟨r, rfl, H⟩
  refine ⟨⟨H.cell 1 rfl rfl, ⟨by decide, by decide⟩, H.cell 1 rfl rfl, ⟨by decide, by decide⟩, trivial⟩, fun a hE => ?_⟩
  obtain ⟨l, el, hm⟩ := bind_some hm
  refine WQ.eff (j := 12) (obs := [.cell ⟨p_w_, 3, none⟩ (.slice al_w_.has0_b w_.has0.length al_w_.has0_c), .p (0 ≤ (0 : Int) ∧ (0 : Int) < ((2 : Nat) : Int))]) hE (by kernel_rfl) rfl rfl rfl rfl (by kernel_rfl) (OpTo.appendM el hE H thicketlaw11_held.enc_ok rfl rfl rfl rfl rfl rfl rfl rfl rfl rfl (SlRd.all (sl_rd 76 thicketlaw11_held.enc 3 _ _ _) thicketlaw11_held.enc_ok H 4 rfl) rfl) ?_
  rintro _ w ⟨sb, sc, rfl, H⟩
  refine ⟨⟨H.cell 1 rfl rfl, ⟨by decide, by decide⟩, trivial⟩, fun a hE => ?_⟩
  obtain ⟨l1, el1, hm⟩ := bind_some hm
  refine WQ.eff (j := 20) (obs := []) hE (by kernel_rfl) rfl rfl rfl rfl (by kernel_rfl) (OpTo.appendM el1 hE H thicketlaw11_held.enc_ok rfl rfl rfl rfl rfl rfl rfl rfl rfl rfl (SlRd.all (sl_rd 76 thicketlaw11_held.enc 3 _ _ _) thicketlaw11_held.enc_ok H 3 rfl) rfl) ?_
  rintro _ w ⟨sb1, sc1, rfl, H⟩
  refine ⟨trivial, fun a hE => ?_⟩
  refine WQ.d hE [23] [] [(83, .pointer (some ⟨p_w_, 4, none⟩))] (obs := [.p (0 ≤ (1 : Int) ∧ (1 : Int) < ((2 : Nat) : Int))]) ⟨⟨by decide, by decide⟩, trivial⟩ fun a hE => ?_
  refine WQ.eff0 (j := 24) (obs := []) hE (by kernel_rfl) rfl rfl rfl (by kernel_rfl) (OpTo.store hE H.t1 rfl rfl rfl rfl rfl rfl (Nat.le_of_ble_eq_true rfl)) ?_
  rintro _ w H
  refine ⟨trivial, fun a hE => ?_⟩
  refine WQ.d hE [27] [] [(86, .pointer (some ⟨p_w_, 3, none⟩))] (obs := [.p (0 ≤ (0 : Int) ∧ (0 : Int) < ((2 : Nat) : Int))]) ⟨⟨by decide, by decide⟩, trivial⟩ fun a hE => ?_
  refine WQ.eff0 (j := 28) (obs := []) hE (by kernel_rfl) rfl rfl rfl (by kernel_rfl) (OpTo.store hE H rfl rfl rfl rfl rfl rfl (Nat.le_of_ble_eq_true rfl)) ?_
  rintro _ w H
  refine ⟨trivial, fun a hE => ?_⟩
  refine WQ.done (by kernel_rfl) ?_
  refine Runs.sr ?_
  refine WR.e0 hE [(4, .bool true)] fun a hE => ?_
  replace H := H.slNil 76 thicketlaw11_held.enc 3
  replace H := thicketlaw11_world.shut (thicketlaw11_world.A.mk al_w_.a__p al_w_.a__a none 0 sb1 sc1) (thicketlaw11_world.mk t_3.2.a_ (-1) t_2.1 ([] : List thicketlaw11_held) l1 t_3.2.next t_3.2.spent t_3.2.most) H.t2.t1.t3.t3
  refine Runs.ret hE Tryz.func44 rfl rfl ?_
  cases hm
  exact ⟨none, 0, sb1, sc1, rfl, H.x2.x1⟩

theorem thicketlaw11_world_meld_ok {w0 w : World} {As : List HP} {k : Nat} {p_w_ : Nat} {al_w_ : thicketlaw11_world.A} {w_ : thicketlaw11_world} {h_ : Int} {t : Bool × thicketlaw11_world}  (hm : thicketlaw11_world_meld k w_ h_ = some t) (H : St w0 (thicketlaw11_world.R p_w_ al_w_ w_ :: As) w) :
    CallsR Tryz.prog 44 #[.pointer (some ⟨p_w_, 0, none⟩), .int .i64 h_] w fun v w' => ∃ (z_w__has0_b : Option Addr), ∃ (z_w__has0_c : Nat), ∃ (z_w__has1_b : Option Addr), ∃ (z_w__has1_c : Nat), v = .bool t.1 ∧ St w0 (thicketlaw11_world.R p_w_ (thicketlaw11_world.A.mk al_w_.a__p al_w_.a__a z_w__has0_b z_w__has0_c z_w__has1_b z_w__has1_c) t.2 :: As) w' := by
  rw [thicketlaw11_world_meld] at hm
  by_cases h0 : h_ = 0
  · subst h0; simp only [if_pos] at hm
    refine (thicketlaw11_world_meld_at0_ok hm H).mono ?_
    rintro v w' ⟨y_0, y_1, y_2, y_3, hv, H⟩; exact ⟨y_0, y_1, y_2, y_3, hv, H⟩
  rw [if_neg h0] at hm
  by_cases h1 : h_ = 1
  · subst h1; simp only [if_pos] at hm
    refine (thicketlaw11_world_meld_at1_ok hm H).mono ?_
    rintro v w' ⟨y_0, y_1, y_2, y_3, hv, H⟩; exact ⟨y_0, y_1, y_2, y_3, hv, H⟩
  rw [if_neg h1] at hm
  cases hm

theorem slices_Clone_int_ok {w0 w : World} {As : List HP} {sb_s : Option Addr} {sc_s : Nat} {s : List Int} {X_s : HP} {t : List Int} (hX_s : SlRd X_s ecI 1 sb_s s) (hC_s : s.length ≤ sc_s) (hm : lClone s = some t) (H : St w0 (X_s :: As) w) :
    CallsR Tryz.prog 139 #[.slice sb_s s.length sc_s] w fun v w' => ∃ (sb0 : Option Addr) (sc0 : Nat), v = .slice sb0 t.length sc0 ∧ St w0 (Sl 3 ecI 1 sb0 sc0 t :: X_s :: As) w' := by
  unfold lClone at hm
  split at hm
  · rename_i hmx
    cases hm
    have he := ecI_ok
    refine enter (args := [.slice sb_s s.length sc_s]) Tryz.func139 rfl rfl rfl fun a hE => ?_
    refine Runs.seq ?_
    refine Runs.region ?_
    refine WR.seg hE 1 [] [0] (Lo := [(0, .slice sb_s s.length sc_s)]) (obs := []) rfl (by kernel_rfl) trivial fun a hE => ?_
    refine WR.done rfl ?_
    refine Runs.seq ?_
    refine Runs.seq ?_
    refine Runs.region ?_
    cases sb_s with
    | none =>
      have hs : s = [] := by
        obtain ⟨h1, _, h⟩ := H.at 0 rfl
        rcases hX_s h1 h with h | ⟨b, off, cs, T, fr, h, _⟩
        · exact h
        · cases h
      subst hs
      refine WR.seg hE 2 [] [4] (Lo := [(4, .bool true)]) (obs := []) rfl (by kernel_rfl) trivial fun a hE => ?_
      refine WR.done rfl ?_
      refine Runs.condT hE rfl ?_
      refine Runs.seq ?_
      refine Runs.region ?_
      refine WR.seg hE 1 [] [2] (Lo := [(2, .slice none 0 0)]) (obs := []) rfl (by kernel_rfl) trivial fun a hE => ?_
      refine WR.done rfl ?_
      refine Runs.ret hE Tryz.func139 rfl rfl ?_
      exact ⟨none, 0, rfl, H.slNil 3 ecI 1⟩
    | some ad =>
      refine WR.seg hE 2 [] [0, 4] (Lo := [(0, .slice (some ad) s.length sc_s), (4, .bool false)]) (obs := []) rfl (by kernel_rfl) trivial fun a hE => ?_
      refine WR.done rfl ?_
      refine Runs.condF hE rfl ?_
      refine Runs.skip ?_
      refine Runs.seq ?_
      refine Runs.region ?_
      refine WR.eff hE rfl rfl rfl rfl (OpTo.buildSl (T := 3) hE H he ([] : List Int) rfl (fun _ => by kernel_rfl) rfl rfl rfl) ?_
      rintro _ w ⟨r, rfl, H⟩ a hE
      refine WR.seg hE 2 [] [5, 6] (Lo := [(5, .slice (some ⟨r, 0, none⟩) ([] : List Int).length 0), (6, .slice (some ad) s.length sc_s)]) (obs := []) rfl (by kernel_rfl) trivial fun a hE => ?_
      have happ : mApp ([] : List Int) s = some s := by unfold mApp; rw [if_pos (by simpa using hmx)]; simp
      refine WR.eff hE rfl rfl rfl rfl (OpTo.appendM happ hE H he rfl rfl rfl rfl rfl rfl rfl rfl rfl rfl (SlRd.all hX_s he H 1 rfl) rfl) ?_
      rintro _ w ⟨sb, sc, rfl, H⟩ a hE
      refine WR.seg hE 4 [] [2] (Lo := [(2, .slice sb s.length sc)]) (obs := []) rfl (by kernel_rfl) trivial fun a hE => ?_
      refine WR.done rfl ?_
      refine Runs.ret hE Tryz.func139 rfl rfl ?_
      exact ⟨sb, sc, rfl, H⟩
  · cases hm

theorem trees_Nodes_f1_ok {w0 w : World} {As : List HP} {k : Nat} {n : Int} {r : Nat} {p_a_ : Nat} {al_a_ : arena_Arena.A} {a_ : arena_Arena} {t : (List Int) × arena_Arena}  (hm : trees_Nodes_f1 k n a_ = some t) (H : St w0 (Blk r 28 [.pointer (some ⟨p_a_, 0, none⟩)] :: arena_Arena.R p_a_ al_a_ a_ :: As) w) :
    CallsR Tryz.prog 129 #[.int .i64 n, .pointer (some ⟨r, 0, none⟩)] w fun v w' => ∃ (sb0 : Option Addr), ∃ (sc0 : Nat), v = .slice sb0 t.1.length sc0 ∧ St w0 (Sl 3 ecI 1 sb0 sc0 t.1 :: Blk r 28 [.pointer (some ⟨p_a_, 0, none⟩)] :: arena_Arena.R p_a_ al_a_ t.2 :: As) w' := by
 rw [trees_Nodes_f1] at hm
 refine enter (args := [.int .i64 n, .pointer (some ⟨r, 0, none⟩)]) Tryz.func129 rfl rfl rfl fun a hE => ?_
 refine Runs.sr ?_
 refine WR.seg hE 1 [] [0, 1] (Lo := [(0, .int .i64 n), (1, .pointer (some ⟨r, 0, none⟩))]) (obs := []) rfl (by kernel_rfl) trivial fun a hE => ?_
 refine WR.done rfl ?_
 refine Runs.sr ?_
 refine WR.d hE 2 [.pointer (some ⟨p_a_, 0, none⟩)] [(4, .pointer (some ⟨p_a_, 0, none⟩)), (5, .int .i64 n)] (obs := [.cell ⟨r, 0, none⟩ (.pointer (some ⟨p_a_, 0, none⟩))]) ⟨H.cell 0 rfl rfl, trivial⟩ fun a hE => ?_
 obtain ⟨t_, et_, hm⟩ := bind_some hm
 refine WR.eff hE rfl rfl rfl rfl (OpTo.fn hE rfl rfl Tryz.call106 (trees_Kids_ok et_ H.t1)) ?_
 rintro _ w ⟨sb, sc, rfl, H⟩ a hE
 refine WR.e0 hE [(3, .slice sb t_.1.length sc)] fun a hE => ?_
 refine Runs.ret hE Tryz.func129 rfl rfl ?_
 cases hm
 exact ⟨sb, sc, rfl, H.t1.t2.t2⟩

theorem node_Below_g129_ok {w0 w : World} {As : List HP} {k : Nat} {p_a_ : Nat} {al_a_ : arena_Arena.A} {a_ : arena_Arena} {sb_first : Option Addr} {sc_first : Nat} {first : List Int} {X_first : HP} {r : Nat} {t : (List Int) × arena_Arena} (hX_first : SlRd X_first ecI 1 sb_first first) (hC_first : first.length ≤ sc_first) (hm : node_Below_g129 k a_ first = some t) (H : St w0 (arena_Arena.R p_a_ al_a_ a_ :: X_first :: Blk r 28 [.pointer (some ⟨p_a_, 0, none⟩)] :: As) w) :
    CallsR Tryz.prog 128 #[.pointer (some ⟨p_a_, 0, none⟩), .slice sb_first first.length sc_first, .func (.func 129) #[] #[.pointer (some ⟨r, 0, none⟩)]] w fun v w' => ∃ (sb0 : Option Addr), ∃ (sc0 : Nat), v = .slice sb0 t.1.length sc0 ∧ St w0 (Sl 3 ecI 1 sb0 sc0 t.1 :: arena_Arena.R p_a_ al_a_ t.2 :: X_first :: Blk r 28 [.pointer (some ⟨p_a_, 0, none⟩)] :: As) w' := by
 rw [node_Below_g129] at hm
 refine enter (args := [.pointer (some ⟨p_a_, 0, none⟩), .slice sb_first first.length sc_first, .func (.func 129) #[] #[.pointer (some ⟨r, 0, none⟩)]]) Tryz.func128 rfl rfl rfl fun a hE => ?_
 refine Runs.sr ?_
 refine WR.seg hE 1 [] [0, 1, 2] (Lo := [(0, .pointer (some ⟨p_a_, 0, none⟩)), (1, .slice sb_first first.length sc_first), (2, .func (.func 129) #[] #[.pointer (some ⟨r, 0, none⟩)])]) (obs := []) rfl (by kernel_rfl) trivial fun a hE => ?_
 refine WR.done rfl ?_
 refine Runs.sr ?_
 refine WR.d0 hE 1 [(11, .pointer (some ⟨p_a_, 0, none⟩))] fun a hE => ?_
 obtain ⟨t_, et_, hm⟩ := bind_some hm
 refine WR.eff hE rfl rfl rfl rfl (OpTo.fn hE rfl rfl Tryz.call67 (arena_Arena_Cells_ok et_ H)) ?_
 rintro _ w ⟨rfl, H⟩ a hE
 obtain ⟨l, el, hm⟩ := bind_some hm
 refine WR.eff hE rfl rfl rfl rfl (OpTo.make el hE H ecB_ok rfl rfl rfl rfl rfl rfl rfl rfl) ?_
 rintro _ w ⟨r1, rfl, H⟩ a hE
 refine WR.e0 hE [(7, .slice (some ⟨r1, 0, none⟩) l.length l.length)] fun a hE => ?_
 refine Runs.sr ?_
 refine WR.e0 hE [(8, .slice none 0 0)] fun a hE => ?_
 refine Runs.sr ?_
 refine WR.d0 hE 1 [(14, .slice sb_first first.length sc_first)] fun a hE => ?_
 obtain ⟨t_1, et_1, hm⟩ := bind_some hm
 replace H := H.t2
 refine WR.eff hE rfl rfl rfl rfl (OpTo.fn hE rfl rfl Tryz.call139 (slices_Clone_int_ok (hX_s := hX_first) (hC_s := hC_first) et_1 H)) ?_
 rintro _ w ⟨sb, sc, rfl, H⟩ a hE
 refine WR.e0 hE [(9, .slice sb t_1.length sc)] fun a hE => ?_
 refine Runs.seq ?_
 obtain ⟨s, es, hm⟩ := bind_some hm
 refine Runs.join (fun a w => ∃ (sb3 : Option Addr), ∃ (sc3 : Nat), EnvOk 53 a [(8, .slice sb3 s.1.length sc3)] ∧ St w0 (Sl 3 ecI 1 sb3 sc3 s.1 :: X_first :: arena_Arena.R p_a_ al_a_ s.2 :: Blk r 28 [.pointer (some ⟨p_a_, 0, none⟩)] :: As) w) (fun hk => ?_) ?_
 ·replace hm := es; clear es
  replace H := H.slNil 3 ecI 1
  refine Runs.block ?_
  refine Runs.loop (fun m a w => ∃ (out : List Int), ∃ (wait : List Int), ∃ (m_ : List Bool), ∃ (m_1 : arena_Arena), ∃ (sb4 : Option Addr), ∃ (sc4 : Nat), ∃ (sb5 : Option Addr), ∃ (sc5 : Nat), EnvOk 53 a [(0, .pointer (some ⟨p_a_, 0, none⟩)), (2, .func (.func 129) #[] #[.pointer (some ⟨r, 0, none⟩)]), (7, .slice (some ⟨r1, 0, none⟩) m_.length l.length), (8, .slice sb4 out.length sc4), (9, .slice sb5 wait.length sc5)] ∧ St w0 (Sl 3 ecI 1 sb4 sc4 out :: Sl 3 ecI 1 sb5 sc5 wait :: X_first :: Sl 4 ecB 1 (some ⟨r1, 0, none⟩) l.length m_ :: arena_Arena.R p_a_ al_a_ m_1 :: Blk r 28 [.pointer (some ⟨p_a_, 0, none⟩)] :: As) w ∧ node_Below_g129_l0 first m out wait m_ m_1 = some s) k ⟨([] : List Int), t_1, l, a_, none, 0, sb, sc, hE.sel [0, 2, 7, 8, 9] (by kernel_rfl), H.t5.t5.t5.t5.t5.t5, hm⟩ ?_
  rintro m ih a w ⟨out, wait, m_, m_1, sb4, sc4, sb5, sc5, hE, H, hm⟩
  cases m with
  | zero => simp [node_Below_g129_l0] at hm
  | succ m =>
   rw [node_Below_g129_l0] at hm
   refine Runs.seq ?_
   refine Runs.sr ?_
   refine WR.seg hE 3 [] [0, 2, 7, 8, 9, 18] (Lo := [(0, .pointer (some ⟨p_a_, 0, none⟩)), (2, .func (.func 129) #[] #[.pointer (some ⟨r, 0, none⟩)]), (7, .slice (some ⟨r1, 0, none⟩) m_.length l.length), (8, .slice sb4 out.length sc4), (9, .slice sb5 wait.length sc5), (18, .bool (decide ((wait.length : Int) > 0)))]) (obs := []) rfl (by kernel_rfl) trivial fun a hE => ?_
   refine WR.done rfl ?_
   refine Runs.cond hE rfl (fun c => ?_) (fun c => ?_)
   ·replace hm := cond_t c hm
    refine Runs.skip ?_
    refine Runs.block ?_
    refine Runs.sr ?_
    obtain ⟨x, ex, hm⟩ := bind_some hm
    obtain ⟨b, o, hs, hb⟩ := SlRd.base (sl_rd 3 ecI 1 _ _ _) ecI_ok H 1 rfl ex
    refine WR.e hE [.pointer (some ⟨b, o, none⟩), .int .i64 x] [(10, .int .i64 x)] (obs := [.p ((sb5 : Option Addr) = some ⟨b, o, none⟩), .p (0 ≤ ((w64 ((wait.length : Int) - 1)) : Int) ∧ ((w64 ((wait.length : Int) - 1)) : Int) < ((wait.length : Nat) : Int)), .cell ⟨b, o + (Int.toNat (w64 ((wait.length : Int) - 1))) * 1, none⟩ (.int .i64 x)]) ⟨hs, hb, SlRd.cells (sl_rd 3 ecI 1 _ _ _) ecI_ok H 1 rfl hs ex 0 _ rfl, trivial⟩ fun a hE => ?_
    refine Runs.sr ?_
    obtain ⟨l2, el2, hm⟩ := bind_some hm
    obtain ⟨sb6, q⟩ : ∃ z, rebase sb5 sc5 (Int.toNat 0) 1 = z := ⟨_, rfl⟩
    obtain ⟨sc6, q1⟩ : ∃ z, sc5 - (Int.toNat 0) = z := ⟨_, rfl⟩
    refine WR.e hE [.slice sb6 l2.length sc6] [(9, .slice sb6 l2.length sc6)] (obs := [.p (rebase sb5 sc5 0 1 = sb6), .p ((Int.toNat (w64 ((wait.length : Int) - 1))) - 0 = l2.length), .p (sc5 - 0 = sc6), .p (0 ≤ ((w64 ((wait.length : Int) - 1)) : Int) ∧ ((w64 ((wait.length : Int) - 1)) : Int) ≤ ((sc5 : Nat) : Int))]) ⟨q, cut_len el2, q1, cut_cap el2 (H.slCap 1 rfl).1, trivial⟩ fun a hE => ?_
    refine Runs.seq ?_
    refine Runs.seq ?_
    obtain ⟨s1, es1, hm⟩ := bind_some hm
    refine Runs.join (fun a w => EnvOk 53 a [(0, .pointer (some ⟨p_a_, 0, none⟩)), (2, .func (.func 129) #[] #[.pointer (some ⟨r, 0, none⟩)]), (7, .slice (some ⟨r1, 0, none⟩) m_.length l.length), (8, .slice sb4 out.length sc4), (9, .slice sb6 l2.length sc6), (10, .int .i64 x), (39, .bool s1)] ∧ St w0 (Sl 3 ecI 1 sb4 sc4 out :: Sl 3 ecI 1 sb5 sc5 wait :: X_first :: Sl 4 ecB 1 (some ⟨r1, 0, none⟩) l.length m_ :: arena_Arena.R p_a_ al_a_ m_1 :: Blk r 28 [.pointer (some ⟨p_a_, 0, none⟩)] :: As) w) (fun hk => ?_) ?_
    ·replace hm := es1; clear es1
     refine Runs.region ?_
     refine WR.d0 hE 2 [(30, .pointer (some ⟨p_a_, 0, none⟩)), (31, .int .i64 x)] fun a hE => ?_
     obtain ⟨t_2, et_2, hm⟩ := bind_some hm
     refine WR.eff hE rfl rfl rfl rfl (OpTo.fn hE rfl rfl Tryz.call62 (arena_Arena_Live_ok et_2 H.t4)) ?_
     rintro _ w ⟨rfl, H⟩ a hE
     refine WR.d0 hE 5 [(34, .bool (!t_2))] fun a hE => ?_
     rcases Bool.eq_false_or_eq_true (!t_2) with c | c
     ·replace hE := hE.dec 34 c (by kernel_rfl)
      replace hm := cond_t c hm
      have c_ := c
      refine WR.e0 hE [(39, .bool true)] fun a hE => ?_
      cases hm
      exact hk _ _ ⟨hE.sel [0, 2, 7, 8, 9, 10, 39] (by kernel_rfl), H.t5.t1.t5.t5.t5.t5⟩
     ·replace hE := hE.dec 34 c (by kernel_rfl)
      replace hm := cond_f c hm
      have c_1 := c
      obtain ⟨x1, ex1, hm⟩ := bind_some hm
      obtain ⟨b1, o1, hs1, hb1⟩ := SlRd.base (sl_rd 4 ecB 1 _ _ _) ecB_ok H 4 rfl ex1
      refine WR.e hE [.pointer (some ⟨b1, o1, none⟩), .bool x1] [(39, .bool x1)] (obs := [.p (((some ⟨r1, 0, none⟩) : Option Addr) = some ⟨b1, o1, none⟩), .p (0 ≤ (x : Int) ∧ (x : Int) < ((m_.length : Nat) : Int)), .cell ⟨b1, o1 + (Int.toNat x) * 1, none⟩ (.bool x1)]) ⟨hs1, hb1, SlRd.cells (sl_rd 4 ecB 1 _ _ _) ecB_ok H 4 rfl hs1 ex1 0 _ rfl, trivial⟩ fun a hE => ?_
      cases hm
      exact hk _ _ ⟨hE.sel [0, 2, 7, 8, 9, 10, 39] (by kernel_rfl), H.t5.t1.t5.t5.t5.t5⟩
    rintro a w ⟨hE, H⟩
    refine Runs.cond hE rfl (fun c => ?_) (fun c => ?_)
    ·replace hm := cond_t c hm
     refine Runs.exit rfl ?_
     replace H := H.t1.slCut' ecI_ok el2 q q1
     exact ih m (Nat.lt_succ_self m) _ _ ⟨out, l2, m_, m_1, sb4, sc4, sb6, sc6, hE.sel [0, 2, 7, 8, 9] (by kernel_rfl), H.t5.t5.t5.t5.t4.t5, hm⟩
    ·replace hm := cond_f c hm
     refine Runs.skip ?_
     refine Runs.sr ?_
     obtain ⟨x2, ex2, hm⟩ := bind_some hm
     obtain ⟨b2, o2, hs2, hb2⟩ := SlRd.base (sl_rd 4 ecB 1 _ _ _) ecB_ok H 3 rfl ex2
     refine WR.seg hE 3 [.pointer (some ⟨b2, o2, none⟩)] [0, 2, 7, 8, 9, 10, 42] (Lo := [(0, .pointer (some ⟨p_a_, 0, none⟩)), (2, .func (.func 129) #[] #[.pointer (some ⟨r, 0, none⟩)]), (7, .slice (some ⟨r1, 0, none⟩) m_.length l.length), (8, .slice sb4 out.length sc4), (9, .slice sb6 l2.length sc6), (10, .int .i64 x), (42, .pointer (some ⟨b2, o2 + (Int.toNat x) * 1, none⟩))]) (obs := [.p (((some ⟨r1, 0, none⟩) : Option Addr) = some ⟨b2, o2, none⟩), .p (0 ≤ (x : Int) ∧ (x : Int) < ((m_.length : Nat) : Int))]) rfl (by kernel_rfl) ⟨hs2, hb2, trivial⟩ fun a hE => ?_
     refine WR.eff0 hE rfl rfl rfl (OpTo.storeSl (q := 0) (x' := true) hE H.t3 ecB_ok rfl hs2 ex2 rfl rfl rfl rfl rfl (Nat.le_of_ble_eq_true rfl) rfl) ?_
     rintro _ w H a hE
     try rw [← mSet_len m_ x true] at hE
     refine WR.done rfl ?_
     refine Runs.sr ?_
     refine WR.seg hE 2 [] [0, 2, 7, 8, 9, 10, 43, 44] (Lo := [(0, .pointer (some ⟨p_a_, 0, none⟩)), (2, .func (.func 129) #[] #[.pointer (some ⟨r, 0, none⟩)]), (7, .slice (some ⟨r1, 0, none⟩) ((mSet m_ x true).length) l.length), (8, .slice sb4 out.length sc4), (9, .slice sb6 l2.length sc6), (10, .int .i64 x), (43, .slice sb4 out.length sc4), (44, .int .i64 x)]) (obs := []) rfl (by kernel_rfl) trivial fun a hE => ?_
     refine WR.eff hE rfl rfl rfl rfl (OpTo.buildSl (T := 3) hE H ecI_ok ([x] : List Int) rfl (fun _ => by kernel_rfl) rfl rfl rfl) ?_
     rintro _ w ⟨r2, rfl, H⟩ a hE
     obtain ⟨l3, el3, hm⟩ := bind_some hm
     replace H := H.t2
     refine WR.eff hE rfl rfl rfl rfl (OpTo.appendM el3 hE H ecI_ok rfl rfl rfl rfl rfl rfl rfl rfl rfl rfl (SlRd.all (sl_rd 3 ecI 1 _ _ _) ecI_ok H 1 rfl) rfl) ?_
     rintro _ w ⟨sb7, sc7, rfl, H⟩ a hE
     refine WR.e0 hE [(8, .slice sb7 l3.length sc7)] fun a hE => ?_
     refine Runs.region ?_
     refine WR.d0 hE 3 [(47, .slice sb6 l2.length sc6), (48, .func (.func 129) #[] #[.pointer (some ⟨r, 0, none⟩)]), (49, .int .i64 x)] fun a hE => ?_
     obtain ⟨t_3, et_3, hm⟩ := bind_some hm
     refine WR.eff hE rfl rfl rfl rfl (OpTo.fv hE rfl rfl rfl Tryz.call129 (trees_Nodes_f1_ok et_3 H.t5.t6)) ?_
     rintro _ w ⟨sb8, sc8, rfl, H⟩ a hE
     replace H := H.t6.slCut' ecI_ok el2 q q1
     obtain ⟨l4, el4, hm⟩ := bind_some hm
     refine WR.eff hE rfl rfl rfl rfl (OpTo.appendM el4 hE H ecI_ok rfl rfl rfl rfl rfl rfl rfl rfl rfl rfl (SlRd.all (sl_rd 3 ecI 1 _ _ _) ecI_ok H 1 rfl) rfl) ?_
     rintro _ w ⟨sb9, sc9, rfl, H⟩ a hE
     refine WR.e0 hE [(9, .slice sb9 l4.length sc9)] fun a hE => ?_
     refine Runs.inBlock ?_
     exact ih m (Nat.lt_succ_self m) _ _ ⟨l3, l4, mSet m_ x true, t_3.2, sb7, sc7, sb9, sc9, hE.sel [0, 2, 7, 8, 9] (by kernel_rfl), H.x5.x1.t1.t2.t4.t5.t4.t5, hm⟩
   ·replace hm := cond_f c hm
    refine Runs.exit rfl ?_
    cases hm
    exact hk _ _ ⟨sb4, sc4, hE.sel [8] (by kernel_rfl), H.x3.x1.t3.t3.t3.t3⟩
 rintro a w ⟨sb3, sc3, hE, H⟩
 refine Runs.sr ?_
 refine WR.seg hE 2 [] [6] (Lo := [(6, .slice sb3 s.1.length sc3)]) (obs := []) rfl (by kernel_rfl) trivial fun a hE => ?_
 refine WR.done rfl ?_
 refine Runs.ret hE Tryz.func128 rfl rfl ?_
 cases hm
 exact ⟨sb3, sc3, rfl, H.t3.t2.t3.t3⟩

theorem trees_Nodes_ok {w0 w : World} {As : List HP} {k : Nat} {p_a_ : Nat} {al_a_ : arena_Arena.A} {a_ : arena_Arena} {r : Int} {t : (List Int) × arena_Arena}  (hm : trees_Nodes k a_ r = some t) (H : St w0 (arena_Arena.R p_a_ al_a_ a_ :: As) w) :
    CallsR Tryz.prog 112 #[.pointer (some ⟨p_a_, 0, none⟩), .int .i64 r] w fun v w' => ∃ (sb0 : Option Addr), ∃ (sc0 : Nat), v = .slice sb0 t.1.length sc0 ∧ St w0 (Sl 3 ecI 1 sb0 sc0 t.1 :: arena_Arena.R p_a_ al_a_ t.2 :: As) w' := by
 rw [trees_Nodes] at hm
 refine enter (args := [.pointer (some ⟨p_a_, 0, none⟩), .int .i64 r]) Tryz.func112 rfl rfl rfl fun a hE => ?_
 refine Runs.sr ?_
 refine WR.eff hE rfl rfl rfl rfl (OpTo.new hE H [] (.cells #[.pointer (some ⟨p_a_, 0, none⟩)] 28 (0, 0)) (fun r => .pointer (some ⟨r, 0, none⟩)) (obs := []) rfl (fun _ => by kernel_rfl) trivial) ?_
 rintro _ w ⟨r1, rfl, H⟩ a hE
 refine WR.seg hE 2 [] [1, 2] (Lo := [(1, .int .i64 r), (2, .pointer (some ⟨r1, 0, none⟩))]) (obs := []) rfl (by kernel_rfl) trivial fun a hE => ?_
 refine WR.done rfl ?_
 refine Runs.seq ?_
 refine Runs.drawn mixed (by kernel_rfl) ?_
 replace H := H.drew
 refine WQ.d hE [0, 1, 2, 4] [.pointer (some ⟨p_a_, 0, none⟩), .pointer (some ⟨p_a_, 0, none⟩)] [(5, .pointer (some ⟨p_a_, 0, none⟩)), (6, .pointer (some ⟨p_a_, 0, none⟩)), (7, .int .i64 r), (9, .func (.func 129) #[] #[.pointer (some ⟨r1, 0, none⟩)])] (obs := [.cell ⟨r1, 0, none⟩ (.pointer (some ⟨p_a_, 0, none⟩)), .cell ⟨r1, 0, none⟩ (.pointer (some ⟨p_a_, 0, none⟩))]) ⟨H.cell 0 rfl rfl, H.cell 0 rfl rfl, trivial⟩ fun a hE => ?_
 obtain ⟨t_, et_, hm⟩ := bind_some hm
 refine WQ.eff (j := 3) (obs := [.cell ⟨r1, 0, none⟩ (.pointer (some ⟨p_a_, 0, none⟩))]) hE (by kernel_rfl) rfl rfl rfl rfl (by kernel_rfl) (OpTo.fn hE rfl rfl Tryz.call60 (trees_List_ok et_ H.t1)) ?_
 rintro _ w ⟨sb, sc, rfl, H⟩
 refine ⟨⟨H.cell 2 rfl rfl, trivial⟩, fun a hE => ?_⟩
 obtain ⟨t_1, et_1, hm⟩ := bind_some hm
 replace H := H.t2.t1.t2
 refine WQ.eff (j := 5) (obs := []) hE (by kernel_rfl) rfl rfl rfl rfl (by kernel_rfl) (OpTo.fn hE rfl rfl Tryz.call128 (node_Below_g129_ok (hX_first := (sl_rd 3 ecI 1 _ _ _)) (hC_first := (H.slCap 1 rfl).1) et_1 H)) ?_
 rintro _ w ⟨sb1, sc1, rfl, H⟩
 refine ⟨trivial, fun a hE => ?_⟩
 refine WQ.d0 hE [6] [(4, .slice sb1 t_1.1.length sc1)] fun a hE => ?_
 refine WQ.done (by kernel_rfl) ?_
 refine Runs.ret hE Tryz.func112 rfl rfl ?_
 cases hm
 exact ⟨sb1, sc1, rfl, H.x3.x2.t1.t1⟩

theorem slices_Sort_int_ok {w0 w : World} {As : List HP} {sb_s : Option Addr} {sc_s : Nat} {s t : List Int}  (hm : lSort s = some t) (H : St w0 (Sl 3 ecI 1 sb_s sc_s s :: As) w) :
    CallsR Tryz.prog 127 #[.slice sb_s s.length sc_s] w fun v w' => v = .tuple #[] ∧ t.length = s.length ∧ St w0 (Sl 3 ecI 1 sb_s sc_s t :: As) w' := by
  unfold lSort at hm
  split at hm
  case isFalse => cases hm
  rename_i hmx
  cases hm
  have hl : (iSort s).length = s.length := (iSort_perm s).length_eq
  by_cases hs : s.length = 0
  · have e : s = [] := List.eq_nil_of_length_eq_zero hs
    subst e
    refine Calls.mono (Tryz.slices_Sort_int_none sb_s sc_s w) ?_
    rintro e w' ⟨rfl, rfl⟩
    exact ⟨_, rfl, rfl, hl, H⟩
  · obtain ⟨b, off, rfl, hH, hb, hk⟩ := H.sorted hl (by omega)
    have hc := Tryz.slices_Sort_int b off sc_s s w hH hb (by omega)
    refine Calls.mono hc ?_
    rintro e w' ⟨rfl, n, os, rfl⟩
    refine ⟨_, rfl, rfl, hl, ?_⟩
    rw [iSort_merge]
    exact hk n os

theorem node_Items_ok {w0 w : World} {As : List HP} {k : Nat} {p_a_ : Nat} {al_a_ : arena_Arena.A} {a_ : arena_Arena} {sb_l : Option Addr} {sc_l : Nat} {l : List Int} {X_l : HP} {t : (List Int) × arena_Arena} (hX_l : SlRd X_l ecI 1 sb_l l) (hC_l : l.length ≤ sc_l) (hm : node_Items k a_ l = some t) (H : St w0 (arena_Arena.R p_a_ al_a_ a_ :: X_l :: As) w) :
    CallsR Tryz.prog 111 #[.pointer (some ⟨p_a_, 0, none⟩), .slice sb_l l.length sc_l] w fun v w' => ∃ (sb0 : Option Addr), ∃ (sc0 : Nat), v = .slice sb0 t.1.length sc0 ∧ St w0 (Sl 3 ecI 1 sb0 sc0 t.1 :: arena_Arena.R p_a_ al_a_ t.2 :: X_l :: As) w' := by
 rw [node_Items] at hm
 refine enter (args := [.pointer (some ⟨p_a_, 0, none⟩), .slice sb_l l.length sc_l]) Tryz.func111 rfl rfl rfl fun a hE => ?_
 refine Runs.sr ?_
 refine WR.seg hE 1 [] [0, 1] (Lo := [(0, .pointer (some ⟨p_a_, 0, none⟩)), (1, .slice sb_l l.length sc_l)]) (obs := []) rfl (by kernel_rfl) trivial fun a hE => ?_
 refine WR.done rfl ?_
 refine Runs.sr ?_
 refine WR.e0 hE [(5, .slice none 0 0)] fun a hE => ?_
 refine Runs.seq ?_
 refine Runs.sr ?_
 refine WR.e0 hE [(9, .slice sb_l l.length sc_l), (10, .int .i64 (l.length : Int)), (11, .int .i64 0)] fun a hE => ?_
 obtain ⟨s, es, hm⟩ := bind_some hm
 refine Runs.join (fun a w => ∃ (sb1 : Option Addr), ∃ (sc1 : Nat), EnvOk 28 a [(5, .slice sb1 s.1.length sc1)] ∧ St w0 (Sl 3 ecI 1 sb1 sc1 s.1 :: arena_Arena.R p_a_ al_a_ s.2 :: X_l :: As) w) (fun hk => ?_) ?_
 ·replace hm := es; clear es
  replace H := H.slNil 3 ecI 1
  refine Runs.block ?_
  refine Runs.loop (fun m a w => ∃ (out : List Int), ∃ (x : Int), ∃ (m_ : arena_Arena), ∃ (sb2 : Option Addr), ∃ (sc2 : Nat), EnvOk 28 a [(0, .pointer (some ⟨p_a_, 0, none⟩)), (5, .slice sb2 out.length sc2), (9, .slice sb_l l.length sc_l), (10, .int .i64 (l.length : Int)), (11, .int .i64 x)] ∧ St w0 (Sl 3 ecI 1 sb2 sc2 out :: arena_Arena.R p_a_ al_a_ m_ :: X_l :: As) w ∧ node_Items_l0 (l.length : Int) l m out x m_ = some s) k ⟨([] : List Int), 0, a_, none, 0, hE.sel [0, 5, 9, 10, 11] (by kernel_rfl), H.t2.t2.t2, hm⟩ ?_
  rintro m ih a w ⟨out, x, m_, sb2, sc2, hE, H, hm⟩
  cases m with
  | zero => simp [node_Items_l0] at hm
  | succ m =>
   rw [node_Items_l0] at hm
   refine Runs.sr ?_
   refine WR.seg hE 1 [] [0, 5, 9, 10, 11, 12] (Lo := [(0, .pointer (some ⟨p_a_, 0, none⟩)), (5, .slice sb2 out.length sc2), (9, .slice sb_l l.length sc_l), (10, .int .i64 (l.length : Int)), (11, .int .i64 x), (12, .bool (decide (x < (l.length : Int))))]) (obs := []) rfl (by kernel_rfl) trivial fun a hE => ?_
   refine WR.done rfl ?_
   refine Runs.seq ?_
   refine Runs.cond hE rfl (fun c => ?_) (fun c => ?_)
   ·replace hm := cond_t c hm
    refine Runs.skip ?_
    refine Runs.seq ?_
    obtain ⟨s1, es1, hm⟩ := bind_some hm
    refine Runs.join (fun a w => ∃ (sb3 : Option Addr), ∃ (sc3 : Nat), EnvOk 28 a [(0, .pointer (some ⟨p_a_, 0, none⟩)), (5, .slice sb3 s1.1.length sc3), (9, .slice sb_l l.length sc_l), (10, .int .i64 (l.length : Int)), (11, .int .i64 x)] ∧ St w0 (Sl 3 ecI 1 sb3 sc3 s1.1 :: arena_Arena.R p_a_ al_a_ s1.2 :: X_l :: As) w) (fun hk => ?_) ?_
    ·replace hm := es1; clear es1
     refine Runs.block ?_
     refine Runs.sr ?_
     obtain ⟨x2, ex2, hm⟩ := bind_some hm
     obtain ⟨b, o, hs, hb⟩ := SlRd.base hX_l ecI_ok H 2 rfl ex2
     refine WR.e hE [.pointer (some ⟨b, o, none⟩), .int .i64 x2] [(7, .int .i64 x2)] (obs := [.p ((sb_l : Option Addr) = some ⟨b, o, none⟩), .p (0 ≤ (x : Int) ∧ (x : Int) < ((l.length : Nat) : Int)), .cell ⟨b, o + (Int.toNat x) * 1, none⟩ (.int .i64 x2)]) ⟨hs, hb, SlRd.cells hX_l ecI_ok H 2 rfl hs ex2 0 _ rfl, trivial⟩ fun a hE => ?_
     refine Runs.sr ?_
     refine WR.d0 hE 2 [(15, .pointer (some ⟨p_a_, 0, none⟩)), (16, .int .i64 x2)] fun a hE => ?_
     obtain ⟨t_, et_, hm⟩ := bind_some hm
     refine WR.eff hE rfl rfl rfl rfl (OpTo.fn hE rfl rfl Tryz.call78 (arena_Arena_Cell_ok et_ H.t1)) ?_
     rintro _ w ⟨rfl, H⟩ a hE
     refine WR.e0 hE [(8, .int .i64 t_.1)] fun a hE => ?_
     refine Runs.sr ?_
     refine WR.e0 hE [(19, .bool (t_.1 != (-1)))] fun a hE => ?_
     refine Runs.cond hE rfl (fun c => ?_) (fun c => ?_)
     ·replace hm := cond_t c hm
      refine Runs.region ?_
      refine WR.d0 hE 2 [(20, .slice sb2 out.length sc2), (21, .int .i64 t_.1)] fun a hE => ?_
      refine WR.eff hE rfl rfl rfl rfl (OpTo.buildSl (T := 3) hE H ecI_ok ([t_.1] : List Int) rfl (fun _ => by kernel_rfl) rfl rfl rfl) ?_
      rintro _ w ⟨r, rfl, H⟩ a hE
      obtain ⟨l2, el2, hm⟩ := bind_some hm
      replace H := H.t2
      refine WR.eff hE rfl rfl rfl rfl (OpTo.appendM el2 hE H ecI_ok rfl rfl rfl rfl rfl rfl rfl rfl rfl rfl (SlRd.all (sl_rd 3 ecI 1 _ _ _) ecI_ok H 1 rfl) rfl) ?_
      rintro _ w ⟨sb4, sc4, rfl, H⟩ a hE
      refine WR.e0 hE [(5, .slice sb4 l2.length sc4)] fun a hE => ?_
      refine Runs.inBlock ?_
      cases hm
      exact hk _ _ ⟨sb4, sc4, hE.sel [0, 5, 9, 10, 11] (by kernel_rfl), H.x1.t2.t2.t2⟩
     ·replace hm := cond_f c hm
      refine Runs.skip ?_
      refine Runs.inBlock ?_
      cases hm
      exact hk _ _ ⟨sb2, sc2, hE.sel [0, 5, 9, 10, 11] (by kernel_rfl), H.t2.t1.t2⟩
    rintro a w ⟨sb3, sc3, hE, H⟩
    refine Runs.region ?_
    refine WR.seg hE 2 [] [0, 5, 9, 10, 11] (Lo := [(0, .pointer (some ⟨p_a_, 0, none⟩)), (5, .slice sb3 s1.1.length sc3), (9, .slice sb_l l.length sc_l), (10, .int .i64 (l.length : Int)), (11, .int .i64 (w64 (x + 1)))]) (obs := []) rfl (by kernel_rfl) trivial fun a hE => ?_
    refine WR.done rfl ?_
    exact ih m (Nat.lt_succ_self m) _ _ ⟨s1.1, w64 (x + 1), s1.2, sb3, sc3, hE.sel [0, 5, 9, 10, 11] (by kernel_rfl), H.t2.t2.t2, hm⟩
   ·replace hm := cond_f c hm
    refine Runs.exit rfl ?_
    cases hm
    exact hk _ _ ⟨sb2, sc2, hE.sel [5] (by kernel_rfl), H.t2.t2.t2⟩
 rintro a w ⟨sb1, sc1, hE, H⟩
 refine Runs.sr ?_
 refine WR.seg hE 1 [] [5, 25] (Lo := [(5, .slice sb1 s.1.length sc1), (25, .slice sb1 s.1.length sc1)]) (obs := []) rfl (by kernel_rfl) trivial fun a hE => ?_
 obtain ⟨t_1, et_1, hm⟩ := bind_some hm
 refine WR.eff hE rfl rfl rfl rfl (OpTo.fn hE rfl rfl Tryz.call127 (slices_Sort_int_ok et_1 H)) ?_
 rintro _ w ⟨rfl, hl0, H⟩ a hE
 try rw [← hl0] at hE
 refine WR.done rfl ?_
 refine Runs.sr ?_
 refine WR.seg hE 2 [] [4] (Lo := [(4, .slice sb1 t_1.length sc1)]) (obs := []) rfl (by kernel_rfl) trivial fun a hE => ?_
 refine WR.done rfl ?_
 refine Runs.ret hE Tryz.func111 rfl rfl ?_
 cases hm
 exact ⟨sb1, sc1, rfl, H.t2.t2.t2⟩

theorem thicketlaw11_cells_ok {w0 w : World} {As : List HP} {k : Nat} {sb_l : Option Addr} {sc_l : Nat} {l : List thicketlaw11_held} {X_l : HP} {t : (List Int)} (hX_l : SlRd X_l thicketlaw11_held.enc 3 sb_l l) (hC_l : l.length ≤ sc_l) (hm : thicketlaw11_cells k l = some t) (H : St w0 (X_l :: As) w) :
    CallsR Tryz.prog 84 #[.slice sb_l l.length sc_l] w fun v w' => ∃ (sb0 : Option Addr), ∃ (sc0 : Nat), v = .slice sb0 t.length sc0 ∧ St w0 (Sl 3 ecI 1 sb0 sc0 t :: X_l :: As) w' := by
 rw [thicketlaw11_cells] at hm
 refine enter (args := [.slice sb_l l.length sc_l]) Tryz.func84 rfl rfl rfl fun a hE => ?_
 refine Runs.sr ?_
 refine WR.seg hE 1 [] [0] (Lo := [(0, .slice sb_l l.length sc_l)]) (obs := []) rfl (by kernel_rfl) trivial fun a hE => ?_
 refine WR.done rfl ?_
 refine Runs.sr ?_
 refine WR.e0 hE [(3, .slice none 0 0)] fun a hE => ?_
 refine Runs.seq ?_
 refine Runs.sr ?_
 refine WR.e0 hE [(4, .int .i64 0)] fun a hE => ?_
 obtain ⟨s, es, hm⟩ := bind_some hm
 refine Runs.join (fun a w => ∃ (sb1 : Option Addr), ∃ (sc1 : Nat), EnvOk 48 a [(3, .slice sb1 s.length sc1)] ∧ St w0 (Sl 3 ecI 1 sb1 sc1 s :: X_l :: As) w) (fun hk => ?_) ?_
 ·replace hm := es; clear es
  replace H := H.slNil 3 ecI 1
  refine Runs.block ?_
  refine Runs.loop (fun m a w => ∃ (out : List Int), ∃ (i : Int), ∃ (sb2 : Option Addr), ∃ (sc2 : Nat), EnvOk 48 a [(0, .slice sb_l l.length sc_l), (3, .slice sb2 out.length sc2), (4, .int .i64 i)] ∧ St w0 (Sl 3 ecI 1 sb2 sc2 out :: X_l :: As) w ∧ thicketlaw11_cells_l0 l m out i = some s) k ⟨([] : List Int), 0, none, 0, hE.sel [0, 3, 4] (by kernel_rfl), H.t1.t1, hm⟩ ?_
  rintro m ih a w ⟨out, i, sb2, sc2, hE, H, hm⟩
  cases m with
  | zero => simp [thicketlaw11_cells_l0] at hm
  | succ m =>
   rw [thicketlaw11_cells_l0] at hm
   refine Runs.seq ?_
   refine Runs.sr ?_
   refine WR.seg hE 4 [] [0, 3, 4, 9] (Lo := [(0, .slice sb_l l.length sc_l), (3, .slice sb2 out.length sc2), (4, .int .i64 i), (9, .bool (decide (i < (l.length : Int))))]) (obs := []) rfl (by kernel_rfl) trivial fun a hE => ?_
   refine WR.done rfl ?_
   refine Runs.cond hE rfl (fun c => ?_) (fun c => ?_)
   ·replace hm := cond_t c hm
    refine Runs.skip ?_
    refine Runs.seq ?_
    refine Runs.block ?_
    refine Runs.sr ?_
    refine WR.e0 hE [(5, .int .i64 (out.length : Int))] fun a hE => ?_
    refine Runs.seq ?_
    obtain ⟨s1, es1, hm⟩ := bind_some hm
    refine Runs.join (fun a w => EnvOk 48 a [(0, .slice sb_l l.length sc_l), (3, .slice sb2 out.length sc2), (4, .int .i64 i), (5, .int .i64 s1)] ∧ St w0 (Sl 3 ecI 1 sb2 sc2 out :: X_l :: As) w) (fun hk => ?_) ?_
    ·replace hm := es1; clear es1
     refine Runs.block ?_
     refine Runs.loop (fun m a w => ∃ (k_ : Int), EnvOk 48 a [(0, .slice sb_l l.length sc_l), (3, .slice sb2 out.length sc2), (4, .int .i64 i), (5, .int .i64 k_)] ∧ St w0 (Sl 3 ecI 1 sb2 sc2 out :: X_l :: As) w ∧ thicketlaw11_cells_l1 i out l m k_ = some s1) m ⟨(out.length : Int), hE.sel [0, 3, 4, 5] (by kernel_rfl), H.t1.t1, hm⟩ ?_
     rintro m ih a w ⟨k_, hE, H, hm⟩
     cases m with
     | zero => simp [thicketlaw11_cells_l1] at hm
     | succ m =>
      rw [thicketlaw11_cells_l1] at hm
      refine Runs.seq ?_
      refine Runs.seq ?_
      obtain ⟨s2, es2, hm⟩ := bind_some hm
      refine Runs.join (fun a w => EnvOk 48 a [(0, .slice sb_l l.length sc_l), (3, .slice sb2 out.length sc2), (4, .int .i64 i), (5, .int .i64 k_), (28, .bool s2)] ∧ St w0 (Sl 3 ecI 1 sb2 sc2 out :: X_l :: As) w) (fun hk => ?_) ?_
      ·replace hm := es2; clear es2
       refine Runs.drawn mixed (by kernel_rfl) ?_
       replace H := H.drew
       refine WQ.seg hE [0, 1, 2] [] [0, 3, 4, 5, 16] (Lo := [(0, .slice sb_l l.length sc_l), (3, .slice sb2 out.length sc2), (4, .int .i64 i), (5, .int .i64 k_), (16, .bool (decide (k_ > 0)))]) (obs := []) (by kernel_rfl) (by kernel_rfl) trivial fun a hE => ?_
       rcases Bool.eq_false_or_eq_true (decide (k_ > 0)) with c | c
       ·replace hE := hE.dec 16 c (by kernel_rfl)
        replace hm := cond_t c hm
        have c_ := c
        obtain ⟨x1, ex1, hm⟩ := bind_some hm
        obtain ⟨b1, o1, hs1, hb1⟩ := SlRd.base (sl_rd 3 ecI 1 _ _ _) ecI_ok H 0 rfl ex1
        obtain ⟨x2, ex2, hm⟩ := bind_some hm
        obtain ⟨b2, o2, hs2, hb2⟩ := SlRd.base hX_l thicketlaw11_held.enc_ok H 1 rfl ex2
        refine WQ.d hE [3, 4, 5, 6, 7, 8, 9, 10, 11, 12, 13, 14] [.pointer (some ⟨b1, o1, none⟩), .int .i64 x1, .pointer (some ⟨b2, o2, none⟩), .int .i64 x2.cell] [(28, .bool (decide (x1 > x2.cell)))] (obs := [.p ((sb2 : Option Addr) = some ⟨b1, o1, none⟩), .p (0 ≤ ((w64 (k_ - 1)) : Int) ∧ ((w64 (k_ - 1)) : Int) < ((out.length : Nat) : Int)), .cell ⟨b1, o1 + (Int.toNat (w64 (k_ - 1))) * 1, none⟩ (.int .i64 x1), .p ((sb_l : Option Addr) = some ⟨b2, o2, none⟩), .p (0 ≤ (i : Int) ∧ (i : Int) < ((l.length : Nat) : Int)), .cell ⟨b2, o2 + (Int.toNat i) * 3, none⟩ (.int .i64 x2.cell)]) ⟨hs1, hb1, SlRd.cells (sl_rd 3 ecI 1 _ _ _) ecI_ok H 0 rfl hs1 ex1 0 _ rfl, hs2, hb2, SlRd.cells hX_l thicketlaw11_held.enc_ok H 1 rfl hs2 ex2 0 _ rfl, trivial⟩ fun a hE => ?_
        refine WQ.done (by kernel_rfl) ?_
        cases hm
        exact hk _ _ ⟨hE.sel [0, 3, 4, 5, 28] (by kernel_rfl), H.t1.t1⟩
       ·replace hE := hE.dec 16 c (by kernel_rfl)
        replace hm := cond_f c hm
        have c_1 := c
        refine WQ.d0 hE [3, 4, 5, 6, 7, 8, 9, 10, 11, 12, 13, 14] [(28, .bool false)] fun a hE => ?_
        refine WQ.done (by kernel_rfl) ?_
        cases hm
        exact hk _ _ ⟨hE.sel [0, 3, 4, 5, 28] (by kernel_rfl), H.t1.t1⟩
      rintro a w ⟨hE, H⟩
      refine Runs.cond hE rfl (fun c => ?_) (fun c => ?_)
      ·replace hm := cond_t c hm
       refine Runs.skip ?_
       refine Runs.block ?_
       refine Runs.region ?_
       refine WR.seg hE 3 [] [0, 3, 4, 5] (Lo := [(0, .slice sb_l l.length sc_l), (3, .slice sb2 out.length sc2), (4, .int .i64 i), (5, .int .i64 (w64 (k_ - 1)))]) (obs := []) rfl (by kernel_rfl) trivial fun a hE => ?_
       refine WR.done rfl ?_
       refine Runs.inBlock ?_
       exact ih m (Nat.lt_succ_self m) _ _ ⟨w64 (k_ - 1), hE.sel [0, 3, 4, 5] (by kernel_rfl), H.t1.t1, hm⟩
      ·replace hm := cond_f c hm
       refine Runs.exit rfl ?_
       cases hm
       exact hk _ _ ⟨hE.sel [0, 3, 4, 5] (by kernel_rfl), H.t1.t1⟩
    rintro a w ⟨hE, H⟩
    obtain ⟨l4, el4, hm⟩ := bind_some hm
    obtain ⟨x3, ex3, hm⟩ := bind_some hm
    obtain ⟨l5, el5, hm⟩ := bind_some hm
    obtain ⟨l6, el6, hm⟩ := bind_some hm
    obtain ⟨l7, el7, hm⟩ := bind_some hm
    obtain ⟨l8, el8, hm⟩ := bind_some hm
    refine Runs.join (fun a w => ∃ (sb8 : Option Addr), ∃ (sc8 : Nat), EnvOk 48 a [(0, .slice sb_l l.length sc_l), (3, .slice sb8 l8.length sc8), (4, .int .i64 i)] ∧ St w0 (Sl 3 ecI 1 sb8 sc8 l8 :: X_l :: As) w) (fun hk => ?_) ?_
    ·refine Runs.drawn mixed (by kernel_rfl) ?_
     replace H := H.drew
     obtain ⟨sb9, q7⟩ : ∃ z, rebase sb2 sc2 (Int.toNat 0) 1 = z := ⟨_, rfl⟩
     obtain ⟨sc9, q8⟩ : ∃ z, sc2 - (Int.toNat 0) = z := ⟨_, rfl⟩
     obtain ⟨b4, o4, hs4, hb4⟩ := SlRd.base hX_l thicketlaw11_held.enc_ok H 1 rfl ex3
     obtain ⟨sb10, q9⟩ : ∃ z, rebase sb2 sc2 (Int.toNat s1) 1 = z := ⟨_, rfl⟩
     obtain ⟨sc10, q10⟩ : ∃ z, sc2 - (Int.toNat s1) = z := ⟨_, rfl⟩
     refine WQ.seg hE [1, 2, 3, 5, 6, 7, 8, 9, 12, 13, 14] [.slice sb9 l4.length sc9, .pointer (some ⟨b4, o4, none⟩), .int .i64 x3.cell, .slice sb10 l5.length sc10] [0, 3, 4, 34, 40, 45] (Lo := [(0, .slice sb_l l.length sc_l), (3, .slice sb2 out.length sc2), (4, .int .i64 i), (34, .slice sb9 l4.length sc9), (40, .int .i64 x3.cell), (45, .slice sb10 l5.length sc10)]) (obs := [.p (rebase sb2 sc2 0 1 = sb9), .p ((Int.toNat s1) - 0 = l4.length), .p (sc2 - 0 = sc9), .p (0 ≤ (s1 : Int) ∧ (s1 : Int) ≤ ((sc2 : Nat) : Int)), .p ((sb_l : Option Addr) = some ⟨b4, o4, none⟩), .p (0 ≤ (i : Int) ∧ (i : Int) < ((l.length : Nat) : Int)), .cell ⟨b4, o4 + (Int.toNat i) * 3, none⟩ (.int .i64 x3.cell), .p (rebase sb2 sc2 (Int.toNat s1) 1 = sb10), .p (out.length - (Int.toNat s1) = l5.length), .p (sc2 - (Int.toNat s1) = sc10), .p (0 ≤ (s1 : Int) ∧ (s1 : Int) ≤ ((out.length : Nat) : Int))]) (by kernel_rfl) (by kernel_rfl) ⟨q7, cut_len el4, q8, cut_cap el4 (H.slCap 0 rfl).1, hs4, hb4, SlRd.cells hX_l thicketlaw11_held.enc_ok H 1 rfl hs4 ex3 0 _ rfl, q9, cut_len el5, q10, cut_bd0 el5, trivial⟩ fun a hE => ?_
     refine WQ.act2 0 10 (by kernel_rfl) ?_ ?_
     ·refine AQ.eff (j := 0) (obs := [.p (rebase sb2 sc2 (Int.toNat s1) 1 = sb10), .p (out.length - (Int.toNat s1) = l5.length), .p (sc2 - (Int.toNat s1) = sc10), .p (0 ≤ (s1 : Int) ∧ (s1 : Int) ≤ ((out.length : Nat) : Int)), .cell ⟨b4, o4 + (Int.toNat i) * 3, none⟩ (.int .i64 x3.cell), .p ((sb_l : Option Addr) = some ⟨b4, o4, none⟩), .p (0 ≤ (i : Int) ∧ (i : Int) < ((l.length : Nat) : Int)), .p (rebase sb2 sc2 0 1 = sb9), .p ((Int.toNat s1) - 0 = l4.length), .p (sc2 - 0 = sc9), .p (0 ≤ (s1 : Int) ∧ (s1 : Int) ≤ ((sc2 : Nat) : Int))]) hE rfl rfl rfl rfl (by kernel_rfl) (OpTo.buildSl (T := 3) hE H ecI_ok ([] : List Int) rfl (fun _ => by kernel_rfl) rfl rfl rfl) ?_
      rintro _ w ⟨r2, rfl, H⟩
      refine ⟨⟨q9, cut_len el5, q10, cut_bd0 el5, SlRd.cells hX_l thicketlaw11_held.enc_ok H 2 rfl hs4 ex3 0 _ rfl, hs4, hb4, q7, cut_len el4, q8, cut_cap el4 (H.slCap 1 rfl).1, trivial⟩, fun a hE => ?_⟩
      refine WQ.act2 4 10 (by kernel_rfl) ?_ ?_
      ·refine AQ.eff (j := 4) (obs := [.p (rebase sb2 sc2 (Int.toNat s1) 1 = sb10), .p (out.length - (Int.toNat s1) = l5.length), .p (sc2 - (Int.toNat s1) = sc10), .p (0 ≤ (s1 : Int) ∧ (s1 : Int) ≤ ((out.length : Nat) : Int)), .cell ⟨b4, o4 + (Int.toNat i) * 3, none⟩ (.int .i64 x3.cell), .p ((sb_l : Option Addr) = some ⟨b4, o4, none⟩), .p (0 ≤ (i : Int) ∧ (i : Int) < ((l.length : Nat) : Int))]) hE rfl rfl rfl rfl (by kernel_rfl) (OpTo.appendM el6 hE H ecI_ok rfl rfl rfl rfl rfl rfl rfl rfl rfl rfl (SlRd.all ((sl_rd 3 ecI 1 _ _ _).cut' ecI_ok el4 ((H.slCap 1 rfl).1) q7) ecI_ok H 1 rfl) rfl) ?_
       rintro _ w ⟨sb11, sc11, rfl, H⟩
       refine ⟨⟨q9, cut_len el5, q10, cut_bd0 el5, SlRd.cells hX_l thicketlaw11_held.enc_ok H 2 rfl hs4 ex3 0 _ rfl, hs4, hb4, trivial⟩, fun a hE => ?_⟩
       refine WQ.eff (j := 10) (obs := [.p (rebase sb2 sc2 (Int.toNat s1) 1 = sb10), .p (out.length - (Int.toNat s1) = l5.length), .p (sc2 - (Int.toNat s1) = sc10), .p (0 ≤ (s1 : Int) ∧ (s1 : Int) ≤ ((out.length : Nat) : Int))]) hE (by kernel_rfl) rfl rfl rfl rfl (by kernel_rfl) (OpTo.buildSl (T := 3) hE H ecI_ok ([x3.cell] : List Int) rfl (fun _ => by kernel_rfl) rfl rfl rfl) ?_
       rintro _ w ⟨r3, rfl, H⟩
       refine ⟨⟨q9, cut_len el5, q10, cut_bd0 el5, trivial⟩, fun a hE => ?_⟩
       replace H := H.t1
       refine WQ.eff (j := 11) (obs := [.p (rebase sb2 sc2 (Int.toNat s1) 1 = sb10), .p (out.length - (Int.toNat s1) = l5.length), .p (sc2 - (Int.toNat s1) = sc10), .p (0 ≤ (s1 : Int) ∧ (s1 : Int) ≤ ((out.length : Nat) : Int))]) hE (by kernel_rfl) rfl rfl rfl rfl (by kernel_rfl) (OpTo.appendM el7 hE H ecI_ok rfl rfl rfl rfl rfl rfl rfl rfl rfl rfl (SlRd.all (sl_rd 3 ecI 1 _ _ _) ecI_ok H 1 rfl) rfl) ?_
       rintro _ w ⟨sb12, sc12, rfl, H⟩
       refine ⟨⟨q9, cut_len el5, q10, cut_bd0 el5, trivial⟩, fun a hE => ?_⟩
       refine WQ.eff (j := 15) (obs := []) hE (by kernel_rfl) rfl rfl rfl rfl (by kernel_rfl) (OpTo.appendM el8 hE H ecI_ok rfl rfl rfl rfl rfl rfl rfl rfl rfl rfl (SlRd.all ((sl_rd 3 ecI 1 _ _ _).cut' ecI_ok el5 ((H.slCap 2 rfl).1) q9) ecI_ok H 2 rfl) rfl) ?_
       rintro _ w ⟨sb13, sc13, rfl, H⟩
       refine ⟨trivial, fun a hE => ?_⟩
       refine WQ.d0 hE [16] [(3, .slice sb13 l8.length sc13)] fun a hE => ?_
       refine WQ.done (by kernel_rfl) ?_
       exact hk _ _ ⟨sb13, sc13, hE.sel [0, 3, 4] (by kernel_rfl), H.x2.x1.t1.t1⟩
      ·refine AQ.eff (j := 10) (obs := [.p (rebase sb2 sc2 (Int.toNat s1) 1 = sb10), .p (out.length - (Int.toNat s1) = l5.length), .p (sc2 - (Int.toNat s1) = sc10), .p (0 ≤ (s1 : Int) ∧ (s1 : Int) ≤ ((out.length : Nat) : Int)), .p (rebase sb2 sc2 0 1 = sb9), .p ((Int.toNat s1) - 0 = l4.length), .p (sc2 - 0 = sc9), .p (0 ≤ (s1 : Int) ∧ (s1 : Int) ≤ ((sc2 : Nat) : Int))]) hE rfl rfl rfl rfl (by kernel_rfl) (OpTo.buildSl (T := 3) hE H ecI_ok ([x3.cell] : List Int) rfl (fun _ => by kernel_rfl) rfl rfl rfl) ?_
       rintro _ w ⟨r4, rfl, H⟩
       refine ⟨⟨q9, cut_len el5, q10, cut_bd0 el5, q7, cut_len el4, q8, cut_cap el4 (H.slCap 2 rfl).1, trivial⟩, fun a hE => ?_⟩
       replace H := H.t1
       refine WQ.eff (j := 4) (obs := [.p (rebase sb2 sc2 (Int.toNat s1) 1 = sb10), .p (out.length - (Int.toNat s1) = l5.length), .p (sc2 - (Int.toNat s1) = sc10), .p (0 ≤ (s1 : Int) ∧ (s1 : Int) ≤ ((out.length : Nat) : Int))]) hE (by kernel_rfl) rfl rfl rfl rfl (by kernel_rfl) (OpTo.appendM el6 hE H ecI_ok rfl rfl rfl rfl rfl rfl rfl rfl rfl rfl (SlRd.all ((sl_rd 3 ecI 1 _ _ _).cut' ecI_ok el4 ((H.slCap 2 rfl).1) q7) ecI_ok H 2 rfl) rfl) ?_
       rintro _ w ⟨sb14, sc14, rfl, H⟩
       refine ⟨⟨q9, cut_len el5, q10, cut_bd0 el5, trivial⟩, fun a hE => ?_⟩
       refine WQ.eff (j := 11) (obs := [.p (rebase sb2 sc2 (Int.toNat s1) 1 = sb10), .p (out.length - (Int.toNat s1) = l5.length), .p (sc2 - (Int.toNat s1) = sc10), .p (0 ≤ (s1 : Int) ∧ (s1 : Int) ≤ ((out.length : Nat) : Int))]) hE (by kernel_rfl) rfl rfl rfl rfl (by kernel_rfl) (OpTo.appendM el7 hE H ecI_ok rfl rfl rfl rfl rfl rfl rfl rfl rfl rfl (SlRd.all (sl_rd 3 ecI 1 _ _ _) ecI_ok H 1 rfl) rfl) ?_
       rintro _ w ⟨sb15, sc15, rfl, H⟩
       refine ⟨⟨q9, cut_len el5, q10, cut_bd0 el5, trivial⟩, fun a hE => ?_⟩
       refine WQ.eff (j := 15) (obs := []) hE (by kernel_rfl) rfl rfl rfl rfl (by kernel_rfl) (OpTo.appendM el8 hE H ecI_ok rfl rfl rfl rfl rfl rfl rfl rfl rfl rfl (SlRd.all ((sl_rd 3 ecI 1 _ _ _).cut' ecI_ok el5 ((H.slCap 2 rfl).1) q9) ecI_ok H 2 rfl) rfl) ?_
       rintro _ w ⟨sb16, sc16, rfl, H⟩
       refine ⟨trivial, fun a hE => ?_⟩
       refine WQ.d0 hE [16] [(3, .slice sb16 l8.length sc16)] fun a hE => ?_
       refine WQ.done (by kernel_rfl) ?_
       exact hk _ _ ⟨sb16, sc16, hE.sel [0, 3, 4] (by kernel_rfl), H.x2.x1.t1.t1⟩
     ·refine AQ.eff (j := 10) (obs := [.p (rebase sb2 sc2 (Int.toNat s1) 1 = sb10), .p (out.length - (Int.toNat s1) = l5.length), .p (sc2 - (Int.toNat s1) = sc10), .p (0 ≤ (s1 : Int) ∧ (s1 : Int) ≤ ((out.length : Nat) : Int)), .p (rebase sb2 sc2 0 1 = sb9), .p ((Int.toNat s1) - 0 = l4.length), .p (sc2 - 0 = sc9), .p (0 ≤ (s1 : Int) ∧ (s1 : Int) ≤ ((sc2 : Nat) : Int))]) hE rfl rfl rfl rfl (by kernel_rfl) (OpTo.buildSl (T := 3) hE H ecI_ok ([x3.cell] : List Int) rfl (fun _ => by kernel_rfl) rfl rfl rfl) ?_
      rintro _ w ⟨r5, rfl, H⟩
      refine ⟨⟨q9, cut_len el5, q10, cut_bd0 el5, q7, cut_len el4, q8, cut_cap el4 (H.slCap 1 rfl).1, trivial⟩, fun a hE => ?_⟩
      refine WQ.eff (j := 0) (obs := [.p (rebase sb2 sc2 (Int.toNat s1) 1 = sb10), .p (out.length - (Int.toNat s1) = l5.length), .p (sc2 - (Int.toNat s1) = sc10), .p (0 ≤ (s1 : Int) ∧ (s1 : Int) ≤ ((out.length : Nat) : Int)), .p (rebase sb2 sc2 0 1 = sb9), .p ((Int.toNat s1) - 0 = l4.length), .p (sc2 - 0 = sc9), .p (0 ≤ (s1 : Int) ∧ (s1 : Int) ≤ ((sc2 : Nat) : Int))]) hE (by kernel_rfl) rfl rfl rfl rfl (by kernel_rfl) (OpTo.buildSl (T := 3) hE H ecI_ok ([] : List Int) rfl (fun _ => by kernel_rfl) rfl rfl rfl) ?_
      rintro _ w ⟨r6, rfl, H⟩
      refine ⟨⟨q9, cut_len el5, q10, cut_bd0 el5, q7, cut_len el4, q8, cut_cap el4 (H.slCap 2 rfl).1, trivial⟩, fun a hE => ?_⟩
      refine WQ.eff (j := 4) (obs := [.p (rebase sb2 sc2 (Int.toNat s1) 1 = sb10), .p (out.length - (Int.toNat s1) = l5.length), .p (sc2 - (Int.toNat s1) = sc10), .p (0 ≤ (s1 : Int) ∧ (s1 : Int) ≤ ((out.length : Nat) : Int))]) hE (by kernel_rfl) rfl rfl rfl rfl (by kernel_rfl) (OpTo.appendM el6 hE H ecI_ok rfl rfl rfl rfl rfl rfl rfl rfl rfl rfl (SlRd.all ((sl_rd 3 ecI 1 _ _ _).cut' ecI_ok el4 ((H.slCap 2 rfl).1) q7) ecI_ok H 2 rfl) rfl) ?_
      rintro _ w ⟨sb17, sc17, rfl, H⟩
      refine ⟨⟨q9, cut_len el5, q10, cut_bd0 el5, trivial⟩, fun a hE => ?_⟩
      refine WQ.eff (j := 11) (obs := [.p (rebase sb2 sc2 (Int.toNat s1) 1 = sb10), .p (out.length - (Int.toNat s1) = l5.length), .p (sc2 - (Int.toNat s1) = sc10), .p (0 ≤ (s1 : Int) ∧ (s1 : Int) ≤ ((out.length : Nat) : Int))]) hE (by kernel_rfl) rfl rfl rfl rfl (by kernel_rfl) (OpTo.appendM el7 hE H ecI_ok rfl rfl rfl rfl rfl rfl rfl rfl rfl rfl (SlRd.all (sl_rd 3 ecI 1 _ _ _) ecI_ok H 1 rfl) rfl) ?_
      rintro _ w ⟨sb18, sc18, rfl, H⟩
      refine ⟨⟨q9, cut_len el5, q10, cut_bd0 el5, trivial⟩, fun a hE => ?_⟩
      refine WQ.eff (j := 15) (obs := []) hE (by kernel_rfl) rfl rfl rfl rfl (by kernel_rfl) (OpTo.appendM el8 hE H ecI_ok rfl rfl rfl rfl rfl rfl rfl rfl rfl rfl (SlRd.all ((sl_rd 3 ecI 1 _ _ _).cut' ecI_ok el5 ((H.slCap 2 rfl).1) q9) ecI_ok H 2 rfl) rfl) ?_
      rintro _ w ⟨sb19, sc19, rfl, H⟩
      refine ⟨trivial, fun a hE => ?_⟩
      refine WQ.d0 hE [16] [(3, .slice sb19 l8.length sc19)] fun a hE => ?_
      refine WQ.done (by kernel_rfl) ?_
      exact hk _ _ ⟨sb19, sc19, hE.sel [0, 3, 4] (by kernel_rfl), H.x2.x1.t1.t1⟩
    rintro a w ⟨sb8, sc8, hE, H⟩
    refine Runs.inBlock ?_
    refine Runs.region ?_
    refine WR.seg hE 3 [] [0, 3, 4] (Lo := [(0, .slice sb_l l.length sc_l), (3, .slice sb8 l8.length sc8), (4, .int .i64 (w64 (i + 1)))]) (obs := []) rfl (by kernel_rfl) trivial fun a hE => ?_
    refine WR.done rfl ?_
    exact ih m (Nat.lt_succ_self m) _ _ ⟨l8, w64 (i + 1), sb8, sc8, hE.sel [0, 3, 4] (by kernel_rfl), H.t1.t1, hm⟩
   ·replace hm := cond_f c hm
    refine Runs.exit rfl ?_
    cases hm
    exact hk _ _ ⟨sb2, sc2, hE.sel [3] (by kernel_rfl), H.t1.t1⟩
 rintro a w ⟨sb1, sc1, hE, H⟩
 refine Runs.sr ?_
 refine WR.seg hE 2 [] [2] (Lo := [(2, .slice sb1 s.length sc1)]) (obs := []) rfl (by kernel_rfl) trivial fun a hE => ?_
 refine WR.done rfl ?_
 refine Runs.ret hE Tryz.func84 rfl rfl ?_
 cases hm
 exact ⟨sb1, sc1, rfl, H.t1.t1⟩

theorem thicketbook_Same_int_ok {w0 w : World} {As : List HP} {k : Nat} {sb_a_ : Option Addr} {sc_a_ : Nat} {a_ : List Int} {X_a_ : HP} {sb_b : Option Addr} {sc_b : Nat} {b : List Int} {X_b : HP} {t : Bool} (hX_a_ : SlRd X_a_ ecI 1 sb_a_ a_) (hC_a_ : a_.length ≤ sc_a_) (hX_b : SlRd X_b ecI 1 sb_b b) (hC_b : b.length ≤ sc_b) (hm : thicketbook_Same_int k a_ b = some t) (H : St w0 (X_a_ :: X_b :: As) w) :
    CallsR Tryz.prog 71 #[.slice sb_a_ a_.length sc_a_, .slice sb_b b.length sc_b] w fun v w' => v = .bool t ∧ St w0 (X_a_ :: X_b :: As) w' := by
 rw [thicketbook_Same_int] at hm
 refine enter (args := [.slice sb_a_ a_.length sc_a_, .slice sb_b b.length sc_b]) Tryz.func71 rfl rfl rfl fun a hE => ?_
 refine Runs.sr ?_
 refine WR.seg hE 1 [] [0, 1] (Lo := [(0, .slice sb_a_ a_.length sc_a_), (1, .slice sb_b b.length sc_b)]) (obs := []) rfl (by kernel_rfl) trivial fun a hE => ?_
 refine WR.done rfl ?_
 refine Runs.seq ?_
 refine Runs.sr ?_
 refine WR.e0 hE [(10, .bool ((a_.length : Int) != (b.length : Int)))] fun a hE => ?_
 refine Runs.cond hE rfl (fun c => ?_) (fun c => ?_)
 ·replace hm := cond_t c hm
  refine Runs.sr ?_
  refine WR.e0 hE [(4, .bool false)] fun a hE => ?_
  refine Runs.ret hE Tryz.func71 rfl rfl ?_
  cases hm
  exact ⟨rfl, H.t1.t1⟩
 ·replace hm := cond_f c hm
  refine Runs.skip ?_
  refine Runs.seq ?_
  refine Runs.sr ?_
  refine WR.e0 hE [(5, .int .i64 0)] fun a hE => ?_
  obtain ⟨s, es, hR⟩ := bind_some hm
  refine Runs.join (fun a w => ∃ s1, s = Sum.inr s1 ∧ EnvOk 26 a [] ∧ St w0 (X_a_ :: X_b :: As) w) (fun hk => ?_) ?_
  ·replace hm := es; clear es
   refine Runs.block ?_
   refine Runs.loop (fun m a w => ∃ (i : Int), EnvOk 26 a [(0, .slice sb_a_ a_.length sc_a_), (1, .slice sb_b b.length sc_b), (5, .int .i64 i)] ∧ St w0 (X_a_ :: X_b :: As) w ∧ thicketbook_Same_int_l0 a_ b m i = some s) k ⟨0, hE.sel [0, 1, 5] (by kernel_rfl), H.t1.t1, hm⟩ ?_
   rintro m ih a w ⟨i, hE, H, hm⟩
   cases m with
   | zero => simp [thicketbook_Same_int_l0] at hm
   | succ m =>
    rw [thicketbook_Same_int_l0] at hm
    refine Runs.seq ?_
    refine Runs.sr ?_
    refine WR.seg hE 4 [] [0, 1, 5, 14] (Lo := [(0, .slice sb_a_ a_.length sc_a_), (1, .slice sb_b b.length sc_b), (5, .int .i64 i), (14, .bool (decide (i < (a_.length : Int))))]) (obs := []) rfl (by kernel_rfl) trivial fun a hE => ?_
    refine WR.done rfl ?_
    refine Runs.cond hE rfl (fun c => ?_) (fun c => ?_)
    ·replace hm := cond_t c hm
     refine Runs.skip ?_
     refine Runs.seq ?_
     refine Runs.block ?_
     refine Runs.seq ?_
     refine Runs.drawn mixed (by kernel_rfl) ?_
     replace H := H.drew
     obtain ⟨x, ex, hm⟩ := bind_some hm
     obtain ⟨b1, o, hs, hb⟩ := SlRd.base hX_a_ ecI_ok H 0 rfl ex
     obtain ⟨x1, ex1, hm⟩ := bind_some hm
     obtain ⟨b2, o1, hs1, hb1⟩ := SlRd.base hX_b ecI_ok H 1 rfl ex1
     refine WQ.d hE [0, 1, 2, 3, 4, 5, 6, 7, 8] [.pointer (some ⟨b1, o, none⟩), .int .i64 x, .pointer (some ⟨b2, o1, none⟩), .int .i64 x1] [(25, .bool (x != x1))] (obs := [.p ((sb_a_ : Option Addr) = some ⟨b1, o, none⟩), .p (0 ≤ (i : Int) ∧ (i : Int) < ((a_.length : Nat) : Int)), .cell ⟨b1, o + (Int.toNat i) * 1, none⟩ (.int .i64 x), .p ((sb_b : Option Addr) = some ⟨b2, o1, none⟩), .p (0 ≤ (i : Int) ∧ (i : Int) < ((b.length : Nat) : Int)), .cell ⟨b2, o1 + (Int.toNat i) * 1, none⟩ (.int .i64 x1)]) ⟨hs, hb, SlRd.cells hX_a_ ecI_ok H 0 rfl hs ex 0 _ rfl, hs1, hb1, SlRd.cells hX_b ecI_ok H 1 rfl hs1 ex1 0 _ rfl, trivial⟩ fun a hE => ?_
     refine WQ.done (by kernel_rfl) ?_
     refine Runs.cond hE rfl (fun c => ?_) (fun c => ?_)
     ·replace hm := cond_t c hm
      refine Runs.sr ?_
      refine WR.e0 hE [(4, .bool false)] fun a hE => ?_
      refine Runs.ret hE Tryz.func71 rfl rfl ?_
      cases hm
      dsimp only at hR; cases hR
      exact ⟨rfl, H.t1.t1⟩
     ·replace hm := cond_f c hm
      refine Runs.skip ?_
      refine Runs.inBlock ?_
      refine Runs.region ?_
      refine WR.e0 hE [(5, .int .i64 (w64 (i + 1)))] fun a hE => ?_
      exact ih m (Nat.lt_succ_self m) _ _ ⟨w64 (i + 1), hE.sel [0, 1, 5] (by kernel_rfl), H.t1.t1, hm⟩
    ·replace hm := cond_f c hm
     refine Runs.exit rfl ?_
     cases hm
     exact hk _ _ ⟨_, rfl, hE.sel [] (by kernel_rfl), H.t1.t1⟩
  rintro a w ⟨s1, rfl, hE, H⟩
  replace hm := hR; dsimp only at hm
  refine Runs.sr ?_
  refine WR.seg hE 1 [] [4] (Lo := [(4, .bool true)]) (obs := []) rfl (by kernel_rfl) trivial fun a hE => ?_
  refine WR.done rfl ?_
  refine Runs.ret hE Tryz.func71 rfl rfl ?_
  cases hm
  exact ⟨rfl, H.t1.t1⟩

theorem skew_Min_ok {w0 w : World} {As : List HP} {k : Nat} {p_a_ : Nat} {al_a_ : arena_Arena.A} {a_ : arena_Arena} {r : Int} {t : Int × arena_Arena}  (hm : skew_Min k a_ r = some t) (H : St w0 (arena_Arena.R p_a_ al_a_ a_ :: As) w) :
    CallsR Tryz.prog 47 #[.pointer (some ⟨p_a_, 0, none⟩), .int .i64 r] w fun v w' => v = .int .i64 t.1 ∧ St w0 (arena_Arena.R p_a_ al_a_ t.2 :: As) w' := by
 rw [skew_Min] at hm
 refine enter (args := [.pointer (some ⟨p_a_, 0, none⟩), .int .i64 r]) Tryz.func47 rfl rfl rfl fun a hE => ?_
 refine Runs.sr ?_
 refine WR.seg hE 1 [] [0, 1] (Lo := [(0, .pointer (some ⟨p_a_, 0, none⟩)), (1, .int .i64 r)]) (obs := []) rfl (by kernel_rfl) trivial fun a hE => ?_
 refine WR.done rfl ?_
 refine Runs.seq ?_
 refine Runs.sr ?_
 refine WR.e0 hE [(6, .bool false)] fun a hE => ?_
 refine Runs.condF hE rfl ?_
 refine Runs.skip ?_
 refine Runs.sr ?_
 refine WR.d0 hE 4 [(7, .pointer (some ⟨p_a_, 0, none⟩)), (8, .pointer (some ⟨p_a_, 0, none⟩)), (9, .pointer (some ⟨p_a_, 0, none⟩)), (10, .int .i64 r)] fun a hE => ?_
 obtain ⟨t_, et_, hm⟩ := bind_some hm
 refine WR.eff hE rfl rfl rfl rfl (OpTo.fn hE rfl rfl Tryz.call60 (trees_List_ok et_ H)) ?_
 rintro _ w ⟨sb, sc, rfl, H⟩ a hE
 obtain ⟨t_1, et_1, hm⟩ := bind_some hm
 replace H := H.t1
 refine WR.eff hE rfl rfl rfl rfl (OpTo.fn hE rfl rfl Tryz.call64 (trees_Best_ok (hX_l := (sl_rd 3 ecI 1 _ _ _)) (hC_l := (H.slCap 1 rfl).1) et_1 H)) ?_
 rintro _ w ⟨rfl, H⟩ a hE
 obtain ⟨t_2, et_2, hm⟩ := bind_some hm
 refine WR.eff hE rfl rfl rfl rfl (OpTo.fn hE rfl rfl Tryz.call78 (arena_Arena_Cell_ok et_2 H)) ?_
 rintro _ w ⟨rfl, H⟩ a hE
 refine WR.e0 hE [(4, .int .i64 t_2.1)] fun a hE => ?_
 refine Runs.ret hE Tryz.func47 rfl rfl ?_
 cases hm
 exact ⟨rfl, H.x1⟩

theorem skew_All_ok {w0 w : World} {As : List HP} {k : Nat} {p_a_ : Nat} {al_a_ : arena_Arena.A} {a_ : arena_Arena} {r : Int} {t : (List Int) × arena_Arena}  (hm : skew_All k a_ r = some t) (H : St w0 (arena_Arena.R p_a_ al_a_ a_ :: As) w) :
    CallsR Tryz.prog 83 #[.pointer (some ⟨p_a_, 0, none⟩), .int .i64 r] w fun v w' => ∃ (sb0 : Option Addr), ∃ (sc0 : Nat), v = .slice sb0 t.1.length sc0 ∧ St w0 (Sl 3 ecI 1 sb0 sc0 t.1 :: arena_Arena.R p_a_ al_a_ t.2 :: As) w' := by
 rw [skew_All] at hm
 refine enter (args := [.pointer (some ⟨p_a_, 0, none⟩), .int .i64 r]) Tryz.func83 rfl rfl rfl fun a hE => ?_
 refine Runs.sr ?_
 refine WR.seg hE 1 [] [0, 1] (Lo := [(0, .pointer (some ⟨p_a_, 0, none⟩)), (1, .int .i64 r)]) (obs := []) rfl (by kernel_rfl) trivial fun a hE => ?_
 refine WR.done rfl ?_
 refine Runs.seq ?_
 refine Runs.sr ?_
 refine WR.e0 hE [(6, .bool false)] fun a hE => ?_
 refine Runs.condF hE rfl ?_
 refine Runs.skip ?_
 refine Runs.sr ?_
 refine WR.d0 hE 3 [(7, .pointer (some ⟨p_a_, 0, none⟩)), (8, .pointer (some ⟨p_a_, 0, none⟩)), (9, .int .i64 r)] fun a hE => ?_
 obtain ⟨t_, et_, hm⟩ := bind_some hm
 refine WR.eff hE rfl rfl rfl rfl (OpTo.fn hE rfl rfl Tryz.call112 (trees_Nodes_ok et_ H)) ?_
 rintro _ w ⟨sb, sc, rfl, H⟩ a hE
 obtain ⟨t_1, et_1, hm⟩ := bind_some hm
 replace H := H.t1
 refine WR.eff hE rfl rfl rfl rfl (OpTo.fn hE rfl rfl Tryz.call111 (node_Items_ok (hX_l := (sl_rd 3 ecI 1 _ _ _)) (hC_l := (H.slCap 1 rfl).1) et_1 H)) ?_
 rintro _ w ⟨sb1, sc1, rfl, H⟩ a hE
 refine WR.e0 hE [(4, .slice sb1 t_1.1.length sc1)] fun a hE => ?_
 refine Runs.ret hE Tryz.func83 rfl rfl ?_
 cases hm
 exact ⟨sb1, sc1, rfl, H.x2.t1.t1⟩

theorem thicketlaw11_world_node_at0_ok {w0 w : World} {As : List HP} {k : Nat} {p_w_ : Nat} {al_w_ : thicketlaw11_world.A} {w_ : thicketlaw11_world} {n : Int} {t : thicketlaw11_held × Bool × thicketlaw11_world}  (hm : thicketlaw11_world_node_at0 k w_ n = some t) (H : St w0 (thicketlaw11_world.R p_w_ al_w_ w_ :: As) w) :
    CallsR Tryz.prog 131 #[.pointer (some ⟨p_w_, 0, none⟩), .int .i64 0, .int .i64 n] w fun v w' => v = .tuple #[.agg #[.int .i64 t.1.cell, .int .i64 t.1.e.Key, .int .i64 t.1.e.Serial], .bool t.2.1] ∧ St w0 (thicketlaw11_world.R p_w_ al_w_ t.2.2 :: As) w' := by
 rw [thicketlaw11_world_node_at0] at hm
 refine enter (args := [.pointer (some ⟨p_w_, 0, none⟩), .int .i64 0, .int .i64 n]) Tryz.func131 rfl rfl rfl fun a hE => ?_
 refine Runs.sr ?_
 refine WR.eff hE rfl rfl rfl rfl (OpTo.new hE H [] (.cells #[.int .i64 0, .int .i64 0, .int .i64 0] 76 (0, 0)) (fun r => .pointer (some ⟨r, 0, none⟩)) (obs := []) rfl (fun _ => by kernel_rfl) trivial) ?_
 rintro _ w ⟨r, rfl, H⟩ a hE
 refine WR.seg hE 2 [] [0, 1, 2, 6] (Lo := [(0, .pointer (some ⟨p_w_, 0, none⟩)), (1, .int .i64 0), (2, .int .i64 n), (6, .pointer (some ⟨r, 0, none⟩))]) (obs := []) rfl (by kernel_rfl) trivial fun a hE => ?_
 refine WR.done rfl ?_
 refine Runs.sr ?_
 replace H := thicketlaw11_world.open H.t1
 refine WR.d hE 5 [.pointer (some ⟨al_w_.a__p, 0, none⟩)] [(14, .pointer (some ⟨al_w_.a__p, 0, none⟩)), (15, .int .i64 n)] (obs := [.cell ⟨p_w_, 0, none⟩ (.pointer (some ⟨al_w_.a__p, 0, none⟩))]) ⟨H.cell 0 rfl rfl, trivial⟩ fun a hE => ?_
 obtain ⟨t_, et_, hm⟩ := bind_some hm
 refine WR.eff hE rfl rfl rfl rfl (OpTo.fn hE rfl rfl Tryz.call78 (arena_Arena_Cell_ok et_ H.t1)) ?_
 rintro _ w ⟨rfl, H⟩ a hE
 refine WR.e0 hE [(8, .int .i64 t_.1)] fun a hE => ?_
 refine Runs.seq ?_
 refine Runs.sr ?_
 refine WR.e0 hE [(9, .int .i64 0)] fun a hE => ?_
 replace H := thicketlaw11_world.shut al_w_ (thicketlaw11_world.mk t_.2 w_.root0 w_.root1 w_.has0 w_.has1 w_.next w_.spent w_.most) H.t3.t3.t2.t3
 obtain ⟨s, es, hR⟩ := bind_some hm
 refine Runs.join (fun a w => ∃ s1, s = Sum.inr s1 ∧ EnvOk 62 a [(6, .pointer (some ⟨r, 0, none⟩))] ∧ St w0 (thicketlaw11_world.R p_w_ al_w_ (thicketlaw11_world.mk t_.2 w_.root0 w_.root1 w_.has0 w_.has1 w_.next w_.spent w_.most) :: Blk r 76 [.int .i64 0, .int .i64 0, .int .i64 0] :: As) w) (fun hk => ?_) ?_
 ·replace hm := es; clear es
  refine Runs.block ?_
  refine Runs.loop (fun m a w => ∃ (k_ : Int), EnvOk 62 a [(0, .pointer (some ⟨p_w_, 0, none⟩)), (1, .int .i64 0), (2, .int .i64 n), (6, .pointer (some ⟨r, 0, none⟩)), (8, .int .i64 t_.1), (9, .int .i64 k_)] ∧ St w0 (thicketlaw11_world.R p_w_ al_w_ (thicketlaw11_world.mk t_.2 w_.root0 w_.root1 w_.has0 w_.has1 w_.next w_.spent w_.most) :: Blk r 76 [.int .i64 0, .int .i64 0, .int .i64 0] :: As) w ∧ thicketlaw11_world_node_at0_l0 n t_.1 (thicketlaw11_world.mk t_.2 w_.root0 w_.root1 w_.has0 w_.has1 w_.next w_.spent w_.most) m k_ = some s) k ⟨0, hE.sel [0, 1, 2, 6, 8, 9] (by kernel_rfl), H.t1.t1, hm⟩ ?_
  rintro m ih a w ⟨k_, hE, H, hm⟩
  cases m with
  | zero => simp [thicketlaw11_world_node_at0_l0] at hm
  | succ m =>
   rw [thicketlaw11_world_node_at0_l0] at hm
   refine Runs.seq ?_
   refine Runs.sr ?_
   replace H := thicketlaw11_world.open H
   try dsimp only at H
   refine WR.seg hE 9 [.slice al_w_.has0_b w_.has0.length al_w_.has0_c] [0, 1, 2, 6, 8, 9, 25] (Lo := [(0, .pointer (some ⟨p_w_, 0, none⟩)), (1, .int .i64 0), (2, .int .i64 n), (6, .pointer (some ⟨r, 0, none⟩)), (8, .int .i64 t_.1), (9, .int .i64 k_), (25, .bool (decide (k_ < (w_.has0.length : Int))))]) (obs := [.p (0 ≤ (0 : Int) ∧ (0 : Int) < ((2 : Nat) : Int)), .cell ⟨p_w_, 3, none⟩ (.slice al_w_.has0_b w_.has0.length al_w_.has0_c)]) rfl (by kernel_rfl) ⟨⟨by decide, by decide⟩, H.cell 0 rfl rfl, trivial⟩ fun a hE => ?_
   refine WR.done rfl ?_
   refine Runs.cond hE rfl (fun c => ?_) (fun c => ?_)
   ·replace hm := cond_t c hm
    refine Runs.skip ?_
    refine Runs.seq ?_
    refine Runs.block ?_
    refine Runs.sr ?_
    obtain ⟨x, ex, hm⟩ := bind_some hm
    obtain ⟨b, o, hs, hb⟩ := SlRd.base (sl_rd 76 thicketlaw11_held.enc 3 _ _ _) thicketlaw11_held.enc_ok H 2 rfl ex
    refine WR.d hE 9 [.slice al_w_.has0_b w_.has0.length al_w_.has0_c, .pointer (some ⟨b, o, none⟩), .int .i64 x.cell, .int .i64 x.e.Key, .int .i64 x.e.Serial] [(36, .agg #[.int .i64 x.cell, .int .i64 x.e.Key, .int .i64 x.e.Serial])] (obs := [.p (0 ≤ (0 : Int) ∧ (0 : Int) < ((2 : Nat) : Int)), .cell ⟨p_w_, 3, none⟩ (.slice al_w_.has0_b w_.has0.length al_w_.has0_c), .p ((al_w_.has0_b : Option Addr) = some ⟨b, o, none⟩), .p (0 ≤ (k_ : Int) ∧ (k_ : Int) < ((w_.has0.length : Nat) : Int)), .cell ⟨b, o + (Int.toNat k_) * 3, none⟩ (.int .i64 x.cell), .cell ⟨b, o + (Int.toNat k_) * 3 + 1, none⟩ (.int .i64 x.e.Key), .cell ⟨b, o + (Int.toNat k_) * 3 + 2, none⟩ (.int .i64 x.e.Serial)]) ⟨⟨by decide, by decide⟩, H.cell 0 rfl rfl, hs, hb, SlRd.cells (sl_rd 76 thicketlaw11_held.enc 3 _ _ _) thicketlaw11_held.enc_ok H 2 rfl hs ex 0 _ rfl, SlRd.cells (sl_rd 76 thicketlaw11_held.enc 3 _ _ _) thicketlaw11_held.enc_ok H 2 rfl hs ex 1 _ rfl, SlRd.cells (sl_rd 76 thicketlaw11_held.enc 3 _ _ _) thicketlaw11_held.enc_ok H 2 rfl hs ex 2 _ rfl, trivial⟩ fun a hE => ?_
    refine WR.eff hE rfl rfl rfl rfl (OpTo.new hE H [] (.cells #[.int .i64 0, .int .i64 0, .int .i64 0] 76 (0, 0)) (fun r => .pointer (some ⟨r, 0, none⟩)) (obs := []) rfl (fun _ => by kernel_rfl) trivial) ?_
    rintro _ w ⟨r1, rfl, H⟩ a hE
    refine WR.eff0 hE rfl rfl rfl (OpTo.store hE H rfl rfl rfl rfl rfl rfl (Nat.le_of_ble_eq_true rfl)) ?_
    rintro _ w H a hE
    refine WR.done rfl ?_
    refine Runs.sr ?_
    refine WR.e hE [.int .i64 x.cell] [(40, .bool (x.cell == t_.1))] (obs := [.cell ⟨r1, 0, none⟩ (.int .i64 x.cell)]) ⟨H.cell 0 rfl rfl, trivial⟩ fun a hE => ?_
    refine Runs.cond hE rfl (fun c => ?_) (fun c => ?_)
    ·replace hm := cond_t c hm
     refine Runs.seq ?_
     replace H := thicketlaw11_world.shut al_w_ (thicketlaw11_world.mk t_.2 w_.root0 w_.root1 w_.has0 w_.has1 w_.next w_.spent w_.most) H.t4.t4.t4.t4
     obtain ⟨s2, es2, hm⟩ := bind_some hm
     refine Runs.join (fun a w => EnvOk 62 a [(6, .pointer (some ⟨r, 0, none⟩)), (7, .bool s2.1)] ∧ St w0 (thicketlaw11_world.R p_w_ al_w_ s2.2.1 :: Blk r 76 [.int .i64 s2.2.2.1, .int .i64 s2.2.2.2.1, .int .i64 s2.2.2.2.2] :: As) w) (fun hk => ?_) ?_
     ·replace hm := es2; clear es2
      refine Runs.drawn mixed (by kernel_rfl) ?_
      replace H := H.drew
      replace H := thicketlaw11_world.open H
      try dsimp only at H
      refine WQ.d hE [0, 1, 2, 3, 4, 5, 7] [.int .i64 x.cell, .int .i64 x.e.Key, .int .i64 x.e.Serial, .pointer (some ⟨al_w_.a__p, 0, none⟩)] [(41, .agg #[.int .i64 x.cell, .int .i64 x.e.Key, .int .i64 x.e.Serial]), (45, .pointer (some ⟨al_w_.a__p, 0, none⟩)), (46, .int .i64 t_.1), (48, .int .i64 n)] (obs := [.cell ⟨r1, 0, none⟩ (.int .i64 x.cell), .cell ⟨r1, 1, none⟩ (.int .i64 x.e.Key), .cell ⟨r1, 2, none⟩ (.int .i64 x.e.Serial), .cell ⟨p_w_, 0, none⟩ (.pointer (some ⟨al_w_.a__p, 0, none⟩))]) ⟨H.cell 4 rfl rfl, H.cell 4 rfl rfl, H.cell 4 rfl rfl, H.cell 0 rfl rfl, trivial⟩ fun a hE => ?_
      obtain ⟨t_1, et_1, hm⟩ := bind_some hm
      refine WQ.eff (j := 6) (obs := [.cell ⟨r1, 0, none⟩ (.int .i64 x.cell), .cell ⟨r1, 1, none⟩ (.int .i64 x.e.Key), .cell ⟨r1, 2, none⟩ (.int .i64 x.e.Serial)]) hE (by kernel_rfl) rfl rfl rfl rfl (by kernel_rfl) (OpTo.fn hE rfl rfl Tryz.call78 (arena_Arena_Cell_ok et_1 H.t1)) ?_
      rintro _ w ⟨rfl, H⟩
      refine ⟨⟨H.cell 4 rfl rfl, H.cell 4 rfl rfl, H.cell 4 rfl rfl, trivial⟩, fun a hE => ?_⟩
      refine WQ.d0 hE [8, 9] [(50, .bool (t_1.1 == n))] fun a hE => ?_
      rcases Bool.eq_false_or_eq_true (t_1.1 == n) with c | c
      ·replace hE := hE.dec 50 c (by kernel_rfl)
       replace hm := cond_t c hm
       have c_ := c
       refine WQ.d hE [10, 11, 12, 13, 14, 16, 17] [.pointer (some ⟨al_w_.a__p, 0, none⟩), .int .i64 x.e.Key, .int .i64 x.e.Serial] [(50, .bool true), (54, .pointer (some ⟨al_w_.a__p, 0, none⟩)), (55, .int .i64 t_.1), (58, .agg #[.int .i64 x.e.Key, .int .i64 x.e.Serial])] (obs := [.cell ⟨p_w_, 0, none⟩ (.pointer (some ⟨al_w_.a__p, 0, none⟩)), .cell ⟨r1, 1, none⟩ (.int .i64 x.e.Key), .cell ⟨r1, 2, none⟩ (.int .i64 x.e.Serial)]) ⟨H.cell 1 rfl rfl, H.cell 4 rfl rfl, H.cell 4 rfl rfl, trivial⟩ fun a hE => ?_
       obtain ⟨t_2, et_2, hm⟩ := bind_some hm
       refine WQ.eff (j := 15) (obs := [.cell ⟨r1, 1, none⟩ (.int .i64 x.e.Key), .cell ⟨r1, 2, none⟩ (.int .i64 x.e.Serial), .cell ⟨r1, 0, none⟩ (.int .i64 x.cell), .cell ⟨r1, 1, none⟩ (.int .i64 x.e.Key), .cell ⟨r1, 2, none⟩ (.int .i64 x.e.Serial)]) hE (by kernel_rfl) rfl rfl rfl rfl (by kernel_rfl) (OpTo.fn hE rfl rfl Tryz.call25 (item_Entry_ok et_2 H)) ?_
       rintro _ w ⟨rfl, hf1, hf, H⟩
       refine ⟨⟨H.cell 4 rfl rfl, H.cell 4 rfl rfl, H.cell 4 rfl rfl, H.cell 4 rfl rfl, H.cell 4 rfl rfl, trivial⟩, fun a hE => ?_⟩
       refine WQ.act2 18 20 (by kernel_rfl) ?_ ?_
       ·refine AQ.eff (j := 18) (obs := [.cell ⟨r1, 0, none⟩ (.int .i64 x.cell), .cell ⟨r1, 1, none⟩ (.int .i64 x.e.Key), .cell ⟨r1, 2, none⟩ (.int .i64 x.e.Serial)]) hE rfl rfl rfl rfl (by kernel_rfl) (OpTo.eqS hE rfl rfl rfl (by kernel_rfl) (api_Entry.eq_run t_2.1 x.e)) ?_
        rintro _ _ ⟨rfl, rfl⟩
        refine ⟨⟨H.cell 4 rfl rfl, H.cell 4 rfl rfl, H.cell 4 rfl rfl, trivial⟩, fun a hE => ?_⟩
        refine WQ.d0 hE [19] [(60, .bool (api_Entry.eq t_2.1 x.e))] fun a hE => ?_
        refine WQ.eff0 (j := 20) (obs := []) hE (by kernel_rfl) rfl rfl rfl (by kernel_rfl) (OpTo.store hE H.t5 rfl rfl rfl rfl rfl rfl (Nat.le_of_ble_eq_true rfl)) ?_
        rintro _ w H
        refine ⟨trivial, fun a hE => ?_⟩
        refine WQ.d0 hE [21] [(7, .bool (api_Entry.eq t_2.1 x.e))] fun a hE => ?_
        refine WQ.done (by kernel_rfl) ?_
        replace H := thicketlaw11_world.shut al_w_ (thicketlaw11_world.mk t_2.2 w_.root0 w_.root1 w_.has0 w_.has1 w_.next w_.spent w_.most) H.t4.t4.t3.t4
        cases hm
        exact hk _ _ ⟨hE.sel [6, 7] (by kernel_rfl), H.x2.t1.t1⟩
       ·refine AQ.eff0 (j := 20) (obs := [.cell ⟨r1, 1, none⟩ (.int .i64 x.e.Key), .cell ⟨r1, 2, none⟩ (.int .i64 x.e.Serial)]) hE rfl rfl rfl (by kernel_rfl) (OpTo.store hE H.t5 rfl rfl rfl rfl rfl rfl (Nat.le_of_ble_eq_true rfl)) ?_
        rintro _ w H
        refine ⟨⟨H.cell 5 rfl rfl, H.cell 5 rfl rfl, trivial⟩, fun a hE => ?_⟩
        refine WQ.eff (j := 18) (obs := []) hE (by kernel_rfl) rfl rfl rfl rfl (by kernel_rfl) (OpTo.eqS hE rfl rfl rfl (by kernel_rfl) (api_Entry.eq_run t_2.1 x.e)) ?_
        rintro _ _ ⟨rfl, rfl⟩
        refine ⟨trivial, fun a hE => ?_⟩
        refine WQ.d0 hE [19, 21] [(7, .bool (api_Entry.eq t_2.1 x.e))] fun a hE => ?_
        refine WQ.done (by kernel_rfl) ?_
        replace H := thicketlaw11_world.shut al_w_ (thicketlaw11_world.mk t_2.2 w_.root0 w_.root1 w_.has0 w_.has1 w_.next w_.spent w_.most) H.t4.t4.t3.t4
        cases hm
        exact hk _ _ ⟨hE.sel [6, 7] (by kernel_rfl), H.x2.t1.t1⟩
      ·replace hE := hE.dec 50 c (by kernel_rfl)
       replace hm := cond_f c hm
       have c_1 := c
       refine WQ.d0 hE [10, 11, 12, 13, 14, 15, 16, 17, 18, 19] [(60, .bool false)] fun a hE => ?_
       refine WQ.eff0 (j := 20) (obs := []) hE (by kernel_rfl) rfl rfl rfl (by kernel_rfl) (OpTo.store hE H.t5 rfl rfl rfl rfl rfl rfl (Nat.le_of_ble_eq_true rfl)) ?_
       rintro _ w H
       refine ⟨trivial, fun a hE => ?_⟩
       refine WQ.d0 hE [21] [(7, .bool false)] fun a hE => ?_
       refine WQ.done (by kernel_rfl) ?_
       replace H := thicketlaw11_world.shut al_w_ (thicketlaw11_world.mk t_1.2 w_.root0 w_.root1 w_.has0 w_.has1 w_.next w_.spent w_.most) H.t4.t4.t3.t4
       cases hm
       exact hk _ _ ⟨hE.sel [6, 7] (by kernel_rfl), H.x2.t1.t1⟩
     rintro a w ⟨hE, H⟩
     refine Runs.retO (vs := [.agg #[.int .i64 s2.2.2.1, .int .i64 s2.2.2.2.1, .int .i64 s2.2.2.2.2], .bool s2.1]) (obs := [.cell ⟨r, 0, none⟩ (.int .i64 s2.2.2.1), .cell ⟨r, 1, none⟩ (.int .i64 s2.2.2.2.1), .cell ⟨r, 2, none⟩ (.int .i64 s2.2.2.2.2)]) hE Tryz.func131 rfl [.int .i64 s2.2.2.1, .int .i64 s2.2.2.2.1, .int .i64 s2.2.2.2.2] (by kernel_rfl) ⟨H.cell 1 rfl rfl, H.cell 1 rfl rfl, H.cell 1 rfl rfl, trivial⟩ ?_
     cases hm
     dsimp only at hR; cases hR
     exact ⟨rfl, H.x1⟩
    ·replace hm := cond_f c hm
     refine Runs.skip ?_
     refine Runs.inBlock ?_
     refine Runs.region ?_
     refine WR.e0 hE [(9, .int .i64 (w64 (k_ + 1)))] fun a hE => ?_
     replace H := thicketlaw11_world.shut al_w_ (thicketlaw11_world.mk t_.2 w_.root0 w_.root1 w_.has0 w_.has1 w_.next w_.spent w_.most) H.t4.t4.t4.t4
     exact ih m (Nat.lt_succ_self m) _ _ ⟨w64 (k_ + 1), hE.sel [0, 1, 2, 6, 8, 9] (by kernel_rfl), H.x1.t1.t1, hm⟩
   ·replace hm := cond_f c hm
    refine Runs.exit rfl ?_
    replace H := thicketlaw11_world.shut al_w_ (thicketlaw11_world.mk t_.2 w_.root0 w_.root1 w_.has0 w_.has1 w_.next w_.spent w_.most) H.t3.t3.t3.t3
    cases hm
    exact hk _ _ ⟨_, rfl, hE.sel [6] (by kernel_rfl), H.t1.t1⟩
 rintro a w ⟨s1, rfl, hE, H⟩
 replace hm := hR; dsimp only at hm
 refine Runs.sr ?_
 refine WR.seg hE 1 [] [6, 61] (Lo := [(6, .pointer (some ⟨r, 0, none⟩)), (61, .agg #[.int .i64 0, .int .i64 0, .int .i64 0])]) (obs := []) rfl (by kernel_rfl) trivial fun a hE => ?_
 refine WR.eff0 hE rfl rfl rfl (OpTo.store hE H.t1 rfl rfl rfl rfl rfl rfl (Nat.le_of_ble_eq_true rfl)) ?_
 rintro _ w H a hE
 refine WR.e0 hE [(7, .bool false)] fun a hE => ?_
 refine Runs.retO (vs := [.agg #[.int .i64 0, .int .i64 0, .int .i64 0], .bool false]) (obs := [.cell ⟨r, 0, none⟩ (.int .i64 0), .cell ⟨r, 1, none⟩ (.int .i64 0), .cell ⟨r, 2, none⟩ (.int .i64 0)]) hE Tryz.func131 rfl [.int .i64 0, .int .i64 0, .int .i64 0] (by kernel_rfl) ⟨H.cell 0 rfl rfl, H.cell 0 rfl rfl, H.cell 0 rfl rfl, trivial⟩ ?_
 cases hm
 exact ⟨rfl, H.x0⟩

theorem thicketlaw11_world_node_at1_ok {w0 w : World} {As : List HP} {k : Nat} {p_w_ : Nat} {al_w_ : thicketlaw11_world.A} {w_ : thicketlaw11_world} {n : Int} {t : thicketlaw11_held × Bool × thicketlaw11_world}  (hm : thicketlaw11_world_node_at1 k w_ n = some t) (H : St w0 (thicketlaw11_world.R p_w_ al_w_ w_ :: As) w) :
    CallsR Tryz.prog 131 #[.pointer (some ⟨p_w_, 0, none⟩), .int .i64 1, .int .i64 n] w fun v w' => v = .tuple #[.agg #[.int .i64 t.1.cell, .int .i64 t.1.e.Key, .int .i64 t.1.e.Serial], .bool t.2.1] ∧ St w0 (thicketlaw11_world.R p_w_ al_w_ t.2.2 :: As) w' := by
 rw [thicketlaw11_world_node_at1] at hm
 refine enter (args := [.pointer (some ⟨p_w_, 0, none⟩), .int .i64 1, .int .i64 n]) Tryz.func131 rfl rfl rfl fun a hE => ?_
 refine Runs.sr ?_
 refine WR.eff hE rfl rfl rfl rfl (OpTo.new hE H [] (.cells #[.int .i64 0, .int .i64 0, .int .i64 0] 76 (0, 0)) (fun r => .pointer (some ⟨r, 0, none⟩)) (obs := []) rfl (fun _ => by kernel_rfl) trivial) ?_
 rintro _ w ⟨r, rfl, H⟩ a hE
 refine WR.seg hE 2 [] [0, 1, 2, 6] (Lo := [(0, .pointer (some ⟨p_w_, 0, none⟩)), (1, .int .i64 1), (2, .int .i64 n), (6, .pointer (some ⟨r, 0, none⟩))]) (obs := []) rfl (by kernel_rfl) trivial fun a hE => ?_
 refine WR.done rfl ?_
 refine Runs.sr ?_
 replace H := thicketlaw11_world.open H.t1
 refine WR.d hE 5 [.pointer (some ⟨al_w_.a__p, 0, none⟩)] [(14, .pointer (some ⟨al_w_.a__p, 0, none⟩)), (15, .int .i64 n)] (obs := [.cell ⟨p_w_, 0, none⟩ (.pointer (some ⟨al_w_.a__p, 0, none⟩))]) ⟨H.cell 0 rfl rfl, trivial⟩ fun a hE => ?_
 obtain ⟨t_, et_, hm⟩ := bind_some hm
 refine WR.eff hE rfl rfl rfl rfl (OpTo.fn hE rfl rfl Tryz.call78 (arena_Arena_Cell_ok et_ H.t1)) ?_
 rintro _ w ⟨rfl, H⟩ a hE
 refine WR.e0 hE [(8, .int .i64 t_.1)] fun a hE => ?_
 refine Runs.seq ?_
 refine Runs.sr ?_
 refine WR.e0 hE [(9, .int .i64 0)] fun a hE => ?_
 replace H := thicketlaw11_world.shut al_w_ (thicketlaw11_world.mk t_.2 w_.root0 w_.root1 w_.has0 w_.has1 w_.next w_.spent w_.most) H.t3.t3.t2.t3
 obtain ⟨s, es, hR⟩ := bind_some hm
 refine Runs.join (fun a w => ∃ s1, s = Sum.inr s1 ∧ EnvOk 62 a [(6, .pointer (some ⟨r, 0, none⟩))] ∧ St w0 (thicketlaw11_world.R p_w_ al_w_ (thicketlaw11_world.mk t_.2 w_.root0 w_.root1 w_.has0 w_.has1 w_.next w_.spent w_.most) :: Blk r 76 [.int .i64 0, .int .i64 0, .int .i64 0] :: As) w) (fun hk => ?_) ?_
 ·replace hm := es; clear es
  refine Runs.block ?_
  refine Runs.loop (fun m a w => ∃ (k_ : Int), EnvOk 62 a [(0, .pointer (some ⟨p_w_, 0, none⟩)), (1, .int .i64 1), (2, .int .i64 n), (6, .pointer (some ⟨r, 0, none⟩)), (8, .int .i64 t_.1), (9, .int .i64 k_)] ∧ St w0 (thicketlaw11_world.R p_w_ al_w_ (thicketlaw11_world.mk t_.2 w_.root0 w_.root1 w_.has0 w_.has1 w_.next w_.spent w_.most) :: Blk r 76 [.int .i64 0, .int .i64 0, .int .i64 0] :: As) w ∧ thicketlaw11_world_node_at1_l0 n t_.1 (thicketlaw11_world.mk t_.2 w_.root0 w_.root1 w_.has0 w_.has1 w_.next w_.spent w_.most) m k_ = some s) k ⟨0, hE.sel [0, 1, 2, 6, 8, 9] (by kernel_rfl), H.t1.t1, hm⟩ ?_
  rintro m ih a w ⟨k_, hE, H, hm⟩
  cases m with
  | zero => simp [thicketlaw11_world_node_at1_l0] at hm
  | succ m =>
   rw [thicketlaw11_world_node_at1_l0] at hm
   refine Runs.seq ?_
   refine Runs.sr ?_
   replace H := thicketlaw11_world.open H
   try dsimp only at H
   refine WR.seg hE 9 [.slice al_w_.has1_b w_.has1.length al_w_.has1_c] [0, 1, 2, 6, 8, 9, 25] (Lo := [(0, .pointer (some ⟨p_w_, 0, none⟩)), (1, .int .i64 1), (2, .int .i64 n), (6, .pointer (some ⟨r, 0, none⟩)), (8, .int .i64 t_.1), (9, .int .i64 k_), (25, .bool (decide (k_ < (w_.has1.length : Int))))]) (obs := [.p (0 ≤ (1 : Int) ∧ (1 : Int) < ((2 : Nat) : Int)), .cell ⟨p_w_, 4, none⟩ (.slice al_w_.has1_b w_.has1.length al_w_.has1_c)]) rfl (by kernel_rfl) ⟨⟨by decide, by decide⟩, H.cell 0 rfl rfl, trivial⟩ fun a hE => ?_
   refine WR.done rfl ?_
   refine Runs.cond hE rfl (fun c => ?_) (fun c => ?_)
   ·replace hm := cond_t c hm
    refine Runs.skip ?_
    refine Runs.seq ?_
    refine Runs.block ?_
    refine Runs.sr ?_
    obtain ⟨x, ex, hm⟩ := bind_some hm
    obtain ⟨b, o, hs, hb⟩ := SlRd.base (sl_rd 76 thicketlaw11_held.enc 3 _ _ _) thicketlaw11_held.enc_ok H 3 rfl ex
    refine WR.d hE 9 [.slice al_w_.has1_b w_.has1.length al_w_.has1_c, .pointer (some ⟨b, o, none⟩), .int .i64 x.cell, .int .i64 x.e.Key, .int .i64 x.e.Serial] [(36, .agg #[.int .i64 x.cell, .int .i64 x.e.Key, .int .i64 x.e.Serial])] (obs := [.p (0 ≤ (1 : Int) ∧ (1 : Int) < ((2 : Nat) : Int)), .cell ⟨p_w_, 4, none⟩ (.slice al_w_.has1_b w_.has1.length al_w_.has1_c), .p ((al_w_.has1_b : Option Addr) = some ⟨b, o, none⟩), .p (0 ≤ (k_ : Int) ∧ (k_ : Int) < ((w_.has1.length : Nat) : Int)), .cell ⟨b, o + (Int.toNat k_) * 3, none⟩ (.int .i64 x.cell), .cell ⟨b, o + (Int.toNat k_) * 3 + 1, none⟩ (.int .i64 x.e.Key), .cell ⟨b, o + (Int.toNat k_) * 3 + 2, none⟩ (.int .i64 x.e.Serial)]) ⟨⟨by decide, by decide⟩, H.cell 0 rfl rfl, hs, hb, SlRd.cells (sl_rd 76 thicketlaw11_held.enc 3 _ _ _) thicketlaw11_held.enc_ok H 3 rfl hs ex 0 _ rfl, SlRd.cells (sl_rd 76 thicketlaw11_held.enc 3 _ _ _) thicketlaw11_held.enc_ok H 3 rfl hs ex 1 _ rfl, SlRd.cells (sl_rd 76 thicketlaw11_held.enc 3 _ _ _) thicketlaw11_held.enc_ok H 3 rfl hs ex 2 _ rfl, trivial⟩ fun a hE => ?_
    refine WR.eff hE rfl rfl rfl rfl (OpTo.new hE H [] (.cells #[.int .i64 0, .int .i64 0, .int .i64 0] 76 (0, 0)) (fun r => .pointer (some ⟨r, 0, none⟩)) (obs := []) rfl (fun _ => by kernel_rfl) trivial) ?_
    rintro _ w ⟨r1, rfl, H⟩ a hE
    refine WR.eff0 hE rfl rfl rfl (OpTo.store hE H rfl rfl rfl rfl rfl rfl (Nat.le_of_ble_eq_true rfl)) ?_
    rintro _ w H a hE
    refine WR.done rfl ?_
    refine Runs.sr ?_
    refine WR.e hE [.int .i64 x.cell] [(40, .bool (x.cell == t_.1))] (obs := [.cell ⟨r1, 0, none⟩ (.int .i64 x.cell)]) ⟨H.cell 0 rfl rfl, trivial⟩ fun a hE => ?_
    refine Runs.cond hE rfl (fun c => ?_) (fun c => ?_)
    ·replace hm := cond_t c hm
     refine Runs.seq ?_
     replace H := thicketlaw11_world.shut al_w_ (thicketlaw11_world.mk t_.2 w_.root0 w_.root1 w_.has0 w_.has1 w_.next w_.spent w_.most) H.t4.t4.t4.t4
     obtain ⟨s2, es2, hm⟩ := bind_some hm
     refine Runs.join (fun a w => EnvOk 62 a [(6, .pointer (some ⟨r, 0, none⟩)), (7, .bool s2.1)] ∧ St w0 (thicketlaw11_world.R p_w_ al_w_ s2.2.1 :: Blk r 76 [.int .i64 s2.2.2.1, .int .i64 s2.2.2.2.1, .int .i64 s2.2.2.2.2] :: As) w) (fun hk => ?_) ?_
     ·replace hm := es2; clear es2
      refine Runs.drawn mixed (by kernel_rfl) ?_
      replace H := H.drew
      replace H := thicketlaw11_world.open H
      try dsimp only at H
      refine WQ.d hE [0, 1, 2, 3, 4, 5, 7] [.int .i64 x.cell, .int .i64 x.e.Key, .int .i64 x.e.Serial, .pointer (some ⟨al_w_.a__p, 0, none⟩)] [(41, .agg #[.int .i64 x.cell, .int .i64 x.e.Key, .int .i64 x.e.Serial]), (45, .pointer (some ⟨al_w_.a__p, 0, none⟩)), (46, .int .i64 t_.1), (48, .int .i64 n)] (obs := [.cell ⟨r1, 0, none⟩ (.int .i64 x.cell), .cell ⟨r1, 1, none⟩ (.int .i64 x.e.Key), .cell ⟨r1, 2, none⟩ (.int .i64 x.e.Serial), .cell ⟨p_w_, 0, none⟩ (.pointer (some ⟨al_w_.a__p, 0, none⟩))]) ⟨H.cell 4 rfl rfl, H.cell 4 rfl rfl, H.cell 4 rfl rfl, H.cell 0 rfl rfl, trivial⟩ fun a hE => ?_
      obtain ⟨t_1, et_1, hm⟩ := bind_some hm
      refine WQ.eff (j := 6) (obs := [.cell ⟨r1, 0, none⟩ (.int .i64 x.cell), .cell ⟨r1, 1, none⟩ (.int .i64 x.e.Key), .cell ⟨r1, 2, none⟩ (.int .i64 x.e.Serial)]) hE (by kernel_rfl) rfl rfl rfl rfl (by kernel_rfl) (OpTo.fn hE rfl rfl Tryz.call78 (arena_Arena_Cell_ok et_1 H.t1)) ?_
      rintro _ w ⟨rfl, H⟩
      refine ⟨⟨H.cell 4 rfl rfl, H.cell 4 rfl rfl, H.cell 4 rfl rfl, trivial⟩, fun a hE => ?_⟩
      refine WQ.d0 hE [8, 9] [(50, .bool (t_1.1 == n))] fun a hE => ?_
      rcases Bool.eq_false_or_eq_true (t_1.1 == n) with c | c
      ·replace hE := hE.dec 50 c (by kernel_rfl)
       replace hm := cond_t c hm
       have c_ := c
       refine WQ.d hE [10, 11, 12, 13, 14, 16, 17] [.pointer (some ⟨al_w_.a__p, 0, none⟩), .int .i64 x.e.Key, .int .i64 x.e.Serial] [(50, .bool true), (54, .pointer (some ⟨al_w_.a__p, 0, none⟩)), (55, .int .i64 t_.1), (58, .agg #[.int .i64 x.e.Key, .int .i64 x.e.Serial])] (obs := [.cell ⟨p_w_, 0, none⟩ (.pointer (some ⟨al_w_.a__p, 0, none⟩)), .cell ⟨r1, 1, none⟩ (.int .i64 x.e.Key), .cell ⟨r1, 2, none⟩ (.int .i64 x.e.Serial)]) ⟨H.cell 1 rfl rfl, H.cell 4 rfl rfl, H.cell 4 rfl rfl, trivial⟩ fun a hE => ?_
       obtain ⟨t_2, et_2, hm⟩ := bind_some hm
       refine WQ.eff (j := 15) (obs := [.cell ⟨r1, 1, none⟩ (.int .i64 x.e.Key), .cell ⟨r1, 2, none⟩ (.int .i64 x.e.Serial), .cell ⟨r1, 0, none⟩ (.int .i64 x.cell), .cell ⟨r1, 1, none⟩ (.int .i64 x.e.Key), .cell ⟨r1, 2, none⟩ (.int .i64 x.e.Serial)]) hE (by kernel_rfl) rfl rfl rfl rfl (by kernel_rfl) (OpTo.fn hE rfl rfl Tryz.call25 (item_Entry_ok et_2 H)) ?_
       rintro _ w ⟨rfl, hf1, hf, H⟩
       refine ⟨⟨H.cell 4 rfl rfl, H.cell 4 rfl rfl, H.cell 4 rfl rfl, H.cell 4 rfl rfl, H.cell 4 rfl rfl, trivial⟩, fun a hE => ?_⟩
       refine WQ.act2 18 20 (by kernel_rfl) ?_ ?_
       ·refine AQ.eff (j := 18) (obs := [.cell ⟨r1, 0, none⟩ (.int .i64 x.cell), .cell ⟨r1, 1, none⟩ (.int .i64 x.e.Key), .cell ⟨r1, 2, none⟩ (.int .i64 x.e.Serial)]) hE rfl rfl rfl rfl (by kernel_rfl) (OpTo.eqS hE rfl rfl rfl (by kernel_rfl) (api_Entry.eq_run t_2.1 x.e)) ?_
        rintro _ _ ⟨rfl, rfl⟩
        refine ⟨⟨H.cell 4 rfl rfl, H.cell 4 rfl rfl, H.cell 4 rfl rfl, trivial⟩, fun a hE => ?_⟩
        refine WQ.d0 hE [19] [(60, .bool (api_Entry.eq t_2.1 x.e))] fun a hE => ?_
        refine WQ.eff0 (j := 20) (obs := []) hE (by kernel_rfl) rfl rfl rfl (by kernel_rfl) (OpTo.store hE H.t5 rfl rfl rfl rfl rfl rfl (Nat.le_of_ble_eq_true rfl)) ?_
        rintro _ w H
        refine ⟨trivial, fun a hE => ?_⟩
        refine WQ.d0 hE [21] [(7, .bool (api_Entry.eq t_2.1 x.e))] fun a hE => ?_
        refine WQ.done (by kernel_rfl) ?_
        replace H := thicketlaw11_world.shut al_w_ (thicketlaw11_world.mk t_2.2 w_.root0 w_.root1 w_.has0 w_.has1 w_.next w_.spent w_.most) H.t4.t4.t3.t4
        cases hm
        exact hk _ _ ⟨hE.sel [6, 7] (by kernel_rfl), H.x2.t1.t1⟩
       ·refine AQ.eff0 (j := 20) (obs := [.cell ⟨r1, 1, none⟩ (.int .i64 x.e.Key), .cell ⟨r1, 2, none⟩ (.int .i64 x.e.Serial)]) hE rfl rfl rfl (by kernel_rfl) (OpTo.store hE H.t5 rfl rfl rfl rfl rfl rfl (Nat.le_of_ble_eq_true rfl)) ?_
        rintro _ w H
        refine ⟨⟨H.cell 5 rfl rfl, H.cell 5 rfl rfl, trivial⟩, fun a hE => ?_⟩
        refine WQ.eff (j := 18) (obs := []) hE (by kernel_rfl) rfl rfl rfl rfl (by kernel_rfl) (OpTo.eqS hE rfl rfl rfl (by kernel_rfl) (api_Entry.eq_run t_2.1 x.e)) ?_
        rintro _ _ ⟨rfl, rfl⟩
        refine ⟨trivial, fun a hE => ?_⟩
        refine WQ.d0 hE [19, 21] [(7, .bool (api_Entry.eq t_2.1 x.e))] fun a hE => ?_
        refine WQ.done (by kernel_rfl) ?_
        replace H := thicketlaw11_world.shut al_w_ (thicketlaw11_world.mk t_2.2 w_.root0 w_.root1 w_.has0 w_.has1 w_.next w_.spent w_.most) H.t4.t4.t3.t4
        cases hm
        exact hk _ _ ⟨hE.sel [6, 7] (by kernel_rfl), H.x2.t1.t1⟩
      ·replace hE := hE.dec 50 c (by kernel_rfl)
       replace hm := cond_f c hm
       have c_1 := c
       refine WQ.d0 hE [10, 11, 12, 13, 14, 15, 16, 17, 18, 19] [(60, .bool false)] fun a hE => ?_
       refine WQ.eff0 (j := 20) (obs := []) hE (by kernel_rfl) rfl rfl rfl (by kernel_rfl) (OpTo.store hE H.t5 rfl rfl rfl rfl rfl rfl (Nat.le_of_ble_eq_true rfl)) ?_
       rintro _ w H
       refine ⟨trivial, fun a hE => ?_⟩
       refine WQ.d0 hE [21] [(7, .bool false)] fun a hE => ?_
       refine WQ.done (by kernel_rfl) ?_
       replace H := thicketlaw11_world.shut al_w_ (thicketlaw11_world.mk t_1.2 w_.root0 w_.root1 w_.has0 w_.has1 w_.next w_.spent w_.most) H.t4.t4.t3.t4
       cases hm
       exact hk _ _ ⟨hE.sel [6, 7] (by kernel_rfl), H.x2.t1.t1⟩
     rintro a w ⟨hE, H⟩
     refine Runs.retO (vs := [.agg #[.int .i64 s2.2.2.1, .int .i64 s2.2.2.2.1, .int .i64 s2.2.2.2.2], .bool s2.1]) (obs := [.cell ⟨r, 0, none⟩ (.int .i64 s2.2.2.1), .cell ⟨r, 1, none⟩ (.int .i64 s2.2.2.2.1), .cell ⟨r, 2, none⟩ (.int .i64 s2.2.2.2.2)]) hE Tryz.func131 rfl [.int .i64 s2.2.2.1, .int .i64 s2.2.2.2.1, .int .i64 s2.2.2.2.2] (by kernel_rfl) ⟨H.cell 1 rfl rfl, H.cell 1 rfl rfl, H.cell 1 rfl rfl, trivial⟩ ?_
     cases hm
     dsimp only at hR; cases hR
     exact ⟨rfl, H.x1⟩
    ·replace hm := cond_f c hm
     refine Runs.skip ?_
     refine Runs.inBlock ?_
     refine Runs.region ?_
     refine WR.e0 hE [(9, .int .i64 (w64 (k_ + 1)))] fun a hE => ?_
     replace H := thicketlaw11_world.shut al_w_ (thicketlaw11_world.mk t_.2 w_.root0 w_.root1 w_.has0 w_.has1 w_.next w_.spent w_.most) H.t4.t4.t4.t4
     exact ih m (Nat.lt_succ_self m) _ _ ⟨w64 (k_ + 1), hE.sel [0, 1, 2, 6, 8, 9] (by kernel_rfl), H.x1.t1.t1, hm⟩
   ·replace hm := cond_f c hm
    refine Runs.exit rfl ?_
    replace H := thicketlaw11_world.shut al_w_ (thicketlaw11_world.mk t_.2 w_.root0 w_.root1 w_.has0 w_.has1 w_.next w_.spent w_.most) H.t3.t3.t3.t3
    cases hm
    exact hk _ _ ⟨_, rfl, hE.sel [6] (by kernel_rfl), H.t1.t1⟩
 rintro a w ⟨s1, rfl, hE, H⟩
 replace hm := hR; dsimp only at hm
 refine Runs.sr ?_
 refine WR.seg hE 1 [] [6, 61] (Lo := [(6, .pointer (some ⟨r, 0, none⟩)), (61, .agg #[.int .i64 0, .int .i64 0, .int .i64 0])]) (obs := []) rfl (by kernel_rfl) trivial fun a hE => ?_
 refine WR.eff0 hE rfl rfl rfl (OpTo.store hE H.t1 rfl rfl rfl rfl rfl rfl (Nat.le_of_ble_eq_true rfl)) ?_
 rintro _ w H a hE
 refine WR.e0 hE [(7, .bool false)] fun a hE => ?_
 refine Runs.retO (vs := [.agg #[.int .i64 0, .int .i64 0, .int .i64 0], .bool false]) (obs := [.cell ⟨r, 0, none⟩ (.int .i64 0), .cell ⟨r, 1, none⟩ (.int .i64 0), .cell ⟨r, 2, none⟩ (.int .i64 0)]) hE Tryz.func131 rfl [.int .i64 0, .int .i64 0, .int .i64 0] (by kernel_rfl) ⟨H.cell 0 rfl rfl, H.cell 0 rfl rfl, H.cell 0 rfl rfl, trivial⟩ ?_
 cases hm
 exact ⟨rfl, H.x0⟩

theorem thicketlaw11_world_node_ok {w0 w : World} {As : List HP} {k : Nat} {p_w_ : Nat} {al_w_ : thicketlaw11_world.A} {w_ : thicketlaw11_world} {n : Int} {h_ : Int} {t : thicketlaw11_held × Bool × thicketlaw11_world}  (hm : thicketlaw11_world_node k w_ h_ n = some t) (H : St w0 (thicketlaw11_world.R p_w_ al_w_ w_ :: As) w) :
    CallsR Tryz.prog 131 #[.pointer (some ⟨p_w_, 0, none⟩), .int .i64 h_, .int .i64 n] w fun v w' => v = .tuple #[.agg #[.int .i64 t.1.cell, .int .i64 t.1.e.Key, .int .i64 t.1.e.Serial], .bool t.2.1] ∧ St w0 (thicketlaw11_world.R p_w_ al_w_ t.2.2 :: As) w' := by
  rw [thicketlaw11_world_node] at hm
  by_cases h0 : h_ = 0
  · subst h0; simp only [if_pos] at hm
    refine (thicketlaw11_world_node_at0_ok hm H).mono ?_
    rintro v w' ⟨hv, H⟩; exact ⟨hv, H⟩
  rw [if_neg h0] at hm
  by_cases h1 : h_ = 1
  · subst h1; simp only [if_pos] at hm
    refine (thicketlaw11_world_node_at1_ok hm H).mono ?_
    rintro v w' ⟨hv, H⟩; exact ⟨hv, H⟩
  rw [if_neg h1] at hm
  cases hm

theorem thicketlaw11_world_tree_at0_ok {w0 : World} {k : Nat} : ∀ {w : World} {As : List HP} {p_w_ : Nat} {al_w_ : thicketlaw11_world.A} {w_ : thicketlaw11_world} {n : Int} {up : Int} {above : thicketlaw11_held} {top : Bool} {t : Int × thicketlaw11_world}  (hm : thicketlaw11_world_tree_at0 k w_ n up above top = some t) (H : St w0 (thicketlaw11_world.R p_w_ al_w_ w_ :: As) w),
    CallsR Tryz.prog 119 #[.pointer (some ⟨p_w_, 0, none⟩), .int .i64 0, .int .i64 n, .int .i64 up, .agg #[.int .i64 above.cell, .int .i64 above.e.Key, .int .i64 above.e.Serial], .bool top] w fun v w' => v = .int .i64 t.1 ∧ St w0 (thicketlaw11_world.R p_w_ al_w_ t.2 :: As) w' := by
 induction k with
 | zero => intro w As p_w_ al_w_ w_ n up above top t hm H; simp [thicketlaw11_world_tree_at0] at hm
 | succ k ihf =>
  intro w As p_w_ al_w_ w_ n up above top t hm H
  rw [thicketlaw11_world_tree_at0] at hm
  refine enter (args := [.pointer (some ⟨p_w_, 0, none⟩), .int .i64 0, .int .i64 n, .int .i64 up, .agg #[.int .i64 above.cell, .int .i64 above.e.Key, .int .i64 above.e.Serial], .bool top]) Tryz.func119 rfl rfl rfl fun a hE => ?_
  refine Runs.sr ?_
  refine WR.eff hE rfl rfl rfl rfl (OpTo.new hE H [] (.cells #[.int .i64 above.cell, .int .i64 above.e.Key, .int .i64 above.e.Serial] 76 (0, 0)) (fun r => .pointer (some ⟨r, 0, none⟩)) (obs := []) rfl (fun _ => by kernel_rfl) trivial) ?_
  rintro _ w ⟨r, rfl, H⟩ a hE
  refine WR.seg hE 2 [] [0, 1, 2, 3, 5, 10] (Lo := [(0, .pointer (some ⟨p_w_, 0, none⟩)), (1, .int .i64 0), (2, .int .i64 n), (3, .int .i64 up), (5, .bool top), (10, .pointer (some ⟨r, 0, none⟩))]) (obs := []) rfl (by kernel_rfl) trivial fun a hE => ?_
  refine WR.done rfl ?_
  refine Runs.sr ?_
  refine WR.d0 hE 3 [(22, .pointer (some ⟨p_w_, 0, none⟩)), (23, .int .i64 0), (24, .int .i64 n)] fun a hE => ?_
  obtain ⟨t_, et_, hm⟩ := bind_some hm
  refine WR.eff hE rfl rfl rfl rfl (OpTo.fn hE rfl rfl Tryz.call131 (thicketlaw11_world_node_ok et_ H.t1)) ?_
  rintro _ w ⟨rfl, H⟩ a hE
  refine WR.d0 hE 7 [(26, .agg #[.int .i64 t_.1.cell, .int .i64 t_.1.e.Key, .int .i64 t_.1.e.Serial]), (27, .bool t_.2.1)] fun a hE => ?_
  refine WR.eff hE rfl rfl rfl rfl (OpTo.new hE H [] (.cells #[.int .i64 0, .int .i64 0, .int .i64 0] 76 (0, 0)) (fun r => .pointer (some ⟨r, 0, none⟩)) (obs := []) rfl (fun _ => by kernel_rfl) trivial) ?_
  rintro _ w ⟨r1, rfl, H⟩ a hE
  refine WR.eff0 hE rfl rfl rfl (OpTo.store hE H rfl rfl rfl rfl rfl rfl (Nat.le_of_ble_eq_true rfl)) ?_
  rintro _ w H a hE
  refine WR.e0 hE [(14, .bool t_.2.1)] fun a hE => ?_
  refine Runs.sr ?_
  replace H := thicketlaw11_world.open H.t1
  refine WR.d hE 5 [.pointer (some ⟨al_w_.a__p, 0, none⟩)] [(31, .pointer (some ⟨al_w_.a__p, 0, none⟩)), (32, .int .i64 n)] (obs := [.cell ⟨p_w_, 0, none⟩ (.pointer (some ⟨al_w_.a__p, 0, none⟩))]) ⟨H.cell 0 rfl rfl, trivial⟩ fun a hE => ?_
  obtain ⟨t_1, et_1, hm⟩ := bind_some hm
  refine WR.eff hE rfl rfl rfl rfl (OpTo.fn hE rfl rfl Tryz.call65 (arena_Arena_Get_ok et_1 H.t1)) ?_
  rintro _ w ⟨rfl, hf1, hf, H⟩ a hE
  refine WR.e0 hE [(15, .int .i64 t_1.1)] fun a hE => ?_
  refine Runs.seq ?_
  refine Runs.seq ?_
  replace H := thicketlaw11_world.shut al_w_ (thicketlaw11_world.mk t_1.2 t_.2.2.root0 t_.2.2.root1 t_.2.2.has0 t_.2.2.has1 t_.2.2.next t_.2.2.spent t_.2.2.most) H.t3.t3.t2.t3
  obtain ⟨s, es, hm⟩ := bind_some hm
  refine Runs.join (fun a w => EnvOk 143 a [(0, .pointer (some ⟨p_w_, 0, none⟩)), (1, .int .i64 0), (2, .int .i64 n), (13, .pointer (some ⟨r1, 0, none⟩)), (15, .int .i64 t_1.1), (71, .bool s.1)] ∧ St w0 (thicketlaw11_world.R p_w_ al_w_ s.2 :: Blk r1 76 [.int .i64 t_.1.cell, .int .i64 t_.1.e.Key, .int .i64 t_.1.e.Serial] :: As) w) (fun hk => ?_) ?_
  ·replace hm := es; clear es
   refine Runs.region ?_
   refine WR.d0 hE 3 [(36, .bool (!t_.2.1))] fun a hE => ?_
   rcases Bool.eq_false_or_eq_true (!t_.2.1) with c | c
   ·replace hE := hE.dec 36 c (by kernel_rfl)
    replace hm := cond_t c hm
    have c_ := c
    refine WR.e0 hE [(71, .bool true)] fun a hE => ?_
    cases hm
    exact hk _ _ ⟨hE.sel [0, 1, 2, 13, 15, 71] (by kernel_rfl), H.x2.t1.t1⟩
   ·replace hE := hE.dec 36 c (by kernel_rfl)
    replace hm := cond_f c hm
    have c_1 := c
    refine WR.d0 hE 7 [(40, .bool (decide (t_1.1 < 0)))] fun a hE => ?_
    rcases Bool.eq_false_or_eq_true (decide (t_1.1 < 0)) with c | c
    ·replace hE := hE.dec 40 c (by kernel_rfl)
     replace hm := cond_t c hm
     have c_2 := c
     refine WR.e0 hE [(71, .bool true)] fun a hE => ?_
     cases hm
     exact hk _ _ ⟨hE.sel [0, 1, 2, 13, 15, 71] (by kernel_rfl), H.x2.t1.t1⟩
    ·replace hE := hE.dec 40 c (by kernel_rfl)
     replace hm := cond_f c hm
     have c_3 := c
     refine WR.d0 hE 11 [(44, .bool (decide (t_1.1 > 20)))] fun a hE => ?_
     rcases Bool.eq_false_or_eq_true (decide (t_1.1 > 20)) with c | c
     ·replace hE := hE.dec 44 c (by kernel_rfl)
      replace hm := cond_t c hm
      have c_4 := c
      refine WR.e0 hE [(71, .bool true)] fun a hE => ?_
      cases hm
      exact hk _ _ ⟨hE.sel [0, 1, 2, 13, 15, 71] (by kernel_rfl), H.x2.t1.t1⟩
     ·replace hE := hE.dec 44 c (by kernel_rfl)
      replace hm := cond_f c hm
      have c_5 := c
      replace H := thicketlaw11_world.open H
      try dsimp only at H
      refine WR.d hE 16 [.pointer (some ⟨al_w_.a__p, 0, none⟩)] [(44, .bool false), (48, .pointer (some ⟨al_w_.a__p, 0, none⟩)), (49, .int .i64 n)] (obs := [.cell ⟨p_w_, 0, none⟩ (.pointer (some ⟨al_w_.a__p, 0, none⟩))]) ⟨H.cell 0 rfl rfl, trivial⟩ fun a hE => ?_
      obtain ⟨t_2, et_2, hm⟩ := bind_some hm
      refine WR.eff hE rfl rfl rfl rfl (OpTo.fn hE rfl rfl Tryz.call78 (arena_Arena_Cell_ok et_2 H.t1)) ?_
      rintro _ w ⟨rfl, H⟩ a hE
      refine WR.d0 hE 21 [(54, .bool (t_2.1 != up))] fun a hE => ?_
      rcases Bool.eq_false_or_eq_true (t_2.1 != up) with c | c
      ·replace hE := hE.dec 54 c (by kernel_rfl)
       replace hm := cond_t c hm
       have c_6 := c
       refine WR.e0 hE [(71, .bool true)] fun a hE => ?_
       replace H := thicketlaw11_world.shut al_w_ (thicketlaw11_world.mk t_2.2 t_.2.2.root0 t_.2.2.root1 t_.2.2.has0 t_.2.2.has1 t_.2.2.next t_.2.2.spent t_.2.2.most) H.t3.t3.t2.t3
       cases hm
       exact hk _ _ ⟨hE.sel [0, 1, 2, 13, 15, 71] (by kernel_rfl), H.x2.t1.t1⟩
      ·replace hE := hE.dec 54 c (by kernel_rfl)
       replace hm := cond_f c hm
       have c_7 := c
       refine WR.d hE 26 [.pointer (some ⟨al_w_.a__p, 0, none⟩)] [(54, .bool false), (58, .pointer (some ⟨al_w_.a__p, 0, none⟩)), (59, .int .i64 n)] (obs := [.cell ⟨p_w_, 0, none⟩ (.pointer (some ⟨al_w_.a__p, 0, none⟩))]) ⟨H.cell 1 rfl rfl, trivial⟩ fun a hE => ?_
       obtain ⟨t_3, et_3, hm⟩ := bind_some hm
       refine WR.eff hE rfl rfl rfl rfl (OpTo.fn hE rfl rfl Tryz.call78 (arena_Arena_Cell_ok et_3 H)) ?_
       rintro _ w ⟨rfl, H⟩ a hE
       refine WR.d0 hE 30 [(63, .bool (t_3.1 != (-1)))] fun a hE => ?_
       rcases Bool.eq_false_or_eq_true (t_3.1 != (-1)) with c | c
       ·replace hE := hE.dec 63 c (by kernel_rfl)
        replace hm := cond_t c hm
        have c_8 := c
        refine WR.e0 hE [(71, .bool true)] fun a hE => ?_
        replace H := thicketlaw11_world.shut al_w_ (thicketlaw11_world.mk t_3.2 t_.2.2.root0 t_.2.2.root1 t_.2.2.has0 t_.2.2.has1 t_.2.2.next t_.2.2.spent t_.2.2.most) H.t3.t3.t2.t3
        cases hm
        exact hk _ _ ⟨hE.sel [0, 1, 2, 13, 15, 71] (by kernel_rfl), H.x2.t1.t1⟩
       ·replace hE := hE.dec 63 c (by kernel_rfl)
        replace hm := cond_f c hm
        have c_9 := c
        refine WR.d0 hE 33 [(63, .bool false), (66, .bool (!top))] fun a hE => ?_
        rcases Bool.eq_false_or_eq_true (!top) with c | c
        ·replace hE := hE.dec 66 c (by kernel_rfl)
         replace hm := cond_t c hm
         have c_10 := c
         refine WR.d hE 35 [.int .i64 t_.1.cell, .int .i64 t_.1.e.Key, .int .i64 t_.1.e.Serial, .int .i64 above.cell, .int .i64 above.e.Key, .int .i64 above.e.Serial] [(66, .bool true), (67, .agg #[.int .i64 t_.1.cell, .int .i64 t_.1.e.Key, .int .i64 t_.1.e.Serial]), (68, .agg #[.int .i64 above.cell, .int .i64 above.e.Key, .int .i64 above.e.Serial])] (obs := [.cell ⟨r1, 0, none⟩ (.int .i64 t_.1.cell), .cell ⟨r1, 1, none⟩ (.int .i64 t_.1.e.Key), .cell ⟨r1, 2, none⟩ (.int .i64 t_.1.e.Serial), .cell ⟨r, 0, none⟩ (.int .i64 above.cell), .cell ⟨r, 1, none⟩ (.int .i64 above.e.Key), .cell ⟨r, 2, none⟩ (.int .i64 above.e.Serial)]) ⟨H.cell 4 rfl rfl, H.cell 4 rfl rfl, H.cell 4 rfl rfl, H.cell 5 rfl rfl, H.cell 5 rfl rfl, H.cell 5 rfl rfl, trivial⟩ fun a hE => ?_
         obtain ⟨t_4, et_4, hm⟩ := bind_some hm
         refine WR.eff hE rfl rfl rfl rfl (OpTo.fn hE rfl rfl Tryz.call118 (thicketlaw11_before_ok et_4 H)) ?_
         rintro _ w ⟨rfl, H⟩ a hE
         refine WR.e0 hE [(71, .bool t_4)] fun a hE => ?_
         replace H := thicketlaw11_world.shut al_w_ (thicketlaw11_world.mk t_3.2 t_.2.2.root0 t_.2.2.root1 t_.2.2.has0 t_.2.2.has1 t_.2.2.next t_.2.2.spent t_.2.2.most) H.t3.t3.t2.t3
         cases hm
         exact hk _ _ ⟨hE.sel [0, 1, 2, 13, 15, 71] (by kernel_rfl), H.x2.t1.t1⟩
        ·replace hE := hE.dec 66 c (by kernel_rfl)
         replace hm := cond_f c hm
         have c_11 := c
         refine WR.e0 hE [(71, .bool false)] fun a hE => ?_
         replace H := thicketlaw11_world.shut al_w_ (thicketlaw11_world.mk t_3.2 t_.2.2.root0 t_.2.2.root1 t_.2.2.has0 t_.2.2.has1 t_.2.2.next t_.2.2.spent t_.2.2.most) H.t3.t3.t2.t3
         cases hm
         exact hk _ _ ⟨hE.sel [0, 1, 2, 13, 15, 71] (by kernel_rfl), H.x2.t1.t1⟩
  rintro a w ⟨hE, H⟩
  refine Runs.cond hE rfl (fun c => ?_) (fun c => ?_)
  ·replace hm := cond_t c hm
   refine Runs.sr ?_
   refine WR.seg hE 1 [] [12] (Lo := [(12, .int .i64 0)]) (obs := []) rfl (by kernel_rfl) trivial fun a hE => ?_
   refine WR.done rfl ?_
   refine Runs.ret hE Tryz.func119 rfl rfl ?_
   cases hm
   exact ⟨rfl, H.x1⟩
  ·replace hm := cond_f c hm
   refine Runs.skip ?_
   refine Runs.sr ?_
   refine WR.seg hE 1 [] [0, 1, 2, 13, 15, 16] (Lo := [(0, .pointer (some ⟨p_w_, 0, none⟩)), (1, .int .i64 0), (2, .int .i64 n), (13, .pointer (some ⟨r1, 0, none⟩)), (15, .int .i64 t_1.1), (16, .int .i64 1)]) (obs := []) rfl (by kernel_rfl) trivial fun a hE => ?_
   refine WR.done rfl ?_
   refine Runs.sr ?_
   replace H := thicketlaw11_world.open H
   refine WR.d hE 5 [.pointer (some ⟨al_w_.a__p, 0, none⟩)] [(75, .pointer (some ⟨al_w_.a__p, 0, none⟩)), (76, .int .i64 n)] (obs := [.cell ⟨p_w_, 0, none⟩ (.pointer (some ⟨al_w_.a__p, 0, none⟩))]) ⟨H.cell 0 rfl rfl, trivial⟩ fun a hE => ?_
   obtain ⟨t_5, et_5, hm⟩ := bind_some hm
   refine WR.eff hE rfl rfl rfl rfl (OpTo.fn hE rfl rfl Tryz.call78 (arena_Arena_Cell_ok et_5 H.t1)) ?_
   rintro _ w ⟨rfl, H⟩ a hE
   refine WR.e0 hE [(17, .int .i64 t_5.1)] fun a hE => ?_
   refine Runs.seq ?_
   refine Runs.sr ?_
   refine WR.e0 hE [(18, .int .i64 0)] fun a hE => ?_
   replace H := thicketlaw11_world.shut al_w_ (thicketlaw11_world.mk t_5.2 s.2.root0 s.2.root1 s.2.has0 s.2.has1 s.2.next s.2.spent s.2.most) H.t3.t3.t2.t3
   obtain ⟨s1, es1, hR⟩ := bind_some hm
   refine Runs.join (fun a w => ∃ s2, s1 = Sum.inr s2 ∧ EnvOk 143 a [(0, .pointer (some ⟨p_w_, 0, none⟩)), (1, .int .i64 0), (15, .int .i64 t_1.1), (16, .int .i64 s2.1), (17, .int .i64 s2.2.1)] ∧ St w0 (thicketlaw11_world.R p_w_ al_w_ s2.2.2 :: As) w) (fun hk => ?_) ?_
   ·replace hm := es1; clear es1
    refine Runs.block ?_
    refine Runs.loop (fun m a w => ∃ (size : Int), ∃ (c_12 : Int), ∃ (i : Int), ∃ (m_ : thicketlaw11_world), EnvOk 143 a [(0, .pointer (some ⟨p_w_, 0, none⟩)), (1, .int .i64 0), (2, .int .i64 n), (13, .pointer (some ⟨r1, 0, none⟩)), (15, .int .i64 t_1.1), (16, .int .i64 size), (17, .int .i64 c_12), (18, .int .i64 i)] ∧ St w0 (thicketlaw11_world.R p_w_ al_w_ m_ :: Blk r1 76 [.int .i64 t_.1.cell, .int .i64 t_.1.e.Key, .int .i64 t_.1.e.Serial] :: As) w ∧ thicketlaw11_world_tree_at0_l0 (thicketlaw11_world_tree_at0 k) n t_1.1 t_.1.cell t_.1.e.Key t_.1.e.Serial m size c_12 i m_ = some s1) k ⟨1, t_5.1, 0, thicketlaw11_world.mk t_5.2 s.2.root0 s.2.root1 s.2.has0 s.2.has1 s.2.next s.2.spent s.2.most, hE.sel [0, 1, 2, 13, 15, 16, 17, 18] (by kernel_rfl), H.t1.t1, hm⟩ ?_
    rintro m ih a w ⟨size, c_12, i, m_, hE, H, hm⟩
    cases m with
    | zero => simp [thicketlaw11_world_tree_at0_l0] at hm
    | succ m =>
     rw [thicketlaw11_world_tree_at0_l0] at hm
     refine Runs.seq ?_
     refine Runs.seq ?_
     refine Runs.join (fun a w => EnvOk 143 a [(0, .pointer (some ⟨p_w_, 0, none⟩)), (1, .int .i64 0), (2, .int .i64 n), (13, .pointer (some ⟨r1, 0, none⟩)), (15, .int .i64 t_1.1), (16, .int .i64 size), (17, .int .i64 c_12), (18, .int .i64 i), (83, .bool ((decide (i < 60)) && (c_12 != (-1))))] ∧ St w0 (thicketlaw11_world.R p_w_ al_w_ m_ :: Blk r1 76 [.int .i64 t_.1.cell, .int .i64 t_.1.e.Key, .int .i64 t_.1.e.Serial] :: As) w) (fun hk => ?_) ?_
     ·clear hm
      refine Runs.region ?_
      refine WR.seg hE 3 [] [0, 1, 2, 13, 15, 16, 17, 18, 80] (Lo := [(0, .pointer (some ⟨p_w_, 0, none⟩)), (1, .int .i64 0), (2, .int .i64 n), (13, .pointer (some ⟨r1, 0, none⟩)), (15, .int .i64 t_1.1), (16, .int .i64 size), (17, .int .i64 c_12), (18, .int .i64 i), (80, .bool (decide (i < 60)))]) (obs := []) rfl (by kernel_rfl) trivial fun a hE => ?_
      rcases Bool.eq_false_or_eq_true (decide (i < 60)) with c | c
      ·replace hE := hE.dec 80 c (by kernel_rfl)
       have c_13 := c
       refine WR.e0 hE [(83, .bool (c_12 != (-1)))] fun a hE => ?_
       refine hk _ _ ⟨?_, H.t1.t1⟩
       try rw [c_13] at hE
       try rw [c_13]
       exact hE.sel [0, 1, 2, 13, 15, 16, 17, 18, 83] (by kernel_rfl)
      ·replace hE := hE.dec 80 c (by kernel_rfl)
       have c_14 := c
       refine WR.e0 hE [(83, .bool false)] fun a hE => ?_
       refine hk _ _ ⟨?_, H.t1.t1⟩
       try rw [c_14] at hE
       try rw [c_14]
       exact hE.sel [0, 1, 2, 13, 15, 16, 17, 18, 83] (by kernel_rfl)
     rintro a w ⟨hE, H⟩
     refine Runs.cond hE rfl (fun c => ?_) (fun c => ?_)
     ·replace hm := cond_t c hm
      refine Runs.skip ?_
      refine Runs.seq ?_
      refine Runs.block ?_
      refine Runs.sr ?_
      replace H := thicketlaw11_world.open H
      refine WR.seg hE 5 [.pointer (some ⟨al_w_.a__p, 0, none⟩)] [0, 1, 2, 13, 15, 16, 17, 18, 89, 90] (Lo := [(0, .pointer (some ⟨p_w_, 0, none⟩)), (1, .int .i64 0), (2, .int .i64 n), (13, .pointer (some ⟨r1, 0, none⟩)), (15, .int .i64 t_1.1), (16, .int .i64 size), (17, .int .i64 c_12), (18, .int .i64 i), (89, .pointer (some ⟨al_w_.a__p, 0, none⟩)), (90, .int .i64 c_12)]) (obs := [.cell ⟨p_w_, 0, none⟩ (.pointer (some ⟨al_w_.a__p, 0, none⟩))]) rfl (by kernel_rfl) ⟨H.cell 0 rfl rfl, trivial⟩ fun a hE => ?_
      obtain ⟨t_6, et_6, hm⟩ := bind_some hm
      refine WR.eff hE rfl rfl rfl rfl (OpTo.fn hE rfl rfl Tryz.call65 (arena_Arena_Get_ok et_6 H.t1)) ?_
      rintro _ w ⟨rfl, hf3, hf2, H⟩ a hE
      refine WR.e0 hE [(19, .int .i64 t_6.1)] fun a hE => ?_
      refine Runs.sr ?_
      refine WR.d hE 5 [.int .i64 t_.1.cell, .int .i64 t_.1.e.Key, .int .i64 t_.1.e.Serial] [(92, .pointer (some ⟨p_w_, 0, none⟩)), (93, .int .i64 0), (94, .int .i64 c_12), (95, .int .i64 n), (96, .agg #[.int .i64 t_.1.cell, .int .i64 t_.1.e.Key, .int .i64 t_.1.e.Serial])] (obs := [.cell ⟨r1, 0, none⟩ (.int .i64 t_.1.cell), .cell ⟨r1, 1, none⟩ (.int .i64 t_.1.e.Key), .cell ⟨r1, 2, none⟩ (.int .i64 t_.1.e.Serial)]) ⟨H.cell 4 rfl rfl, H.cell 4 rfl rfl, H.cell 4 rfl rfl, trivial⟩ fun a hE => ?_
      replace H := thicketlaw11_world.shut al_w_ (thicketlaw11_world.mk t_6.2 m_.root0 m_.root1 m_.has0 m_.has1 m_.next m_.spent m_.most) H.t3.t3.t2.t3
      obtain ⟨t_7, et_7, hm⟩ := bind_some hm
      refine WR.eff hE rfl rfl rfl rfl (OpTo.fn hE rfl rfl Tryz.call119 (ihf et_7 H)) ?_
      rintro _ w ⟨rfl, H⟩ a hE
      refine WR.e0 hE [(20, .int .i64 t_7.1)] fun a hE => ?_
      refine Runs.seq ?_
      refine Runs.seq ?_
      refine Runs.join (fun a w => EnvOk 143 a [(0, .pointer (some ⟨p_w_, 0, none⟩)), (1, .int .i64 0), (2, .int .i64 n), (13, .pointer (some ⟨r1, 0, none⟩)), (15, .int .i64 t_1.1), (16, .int .i64 size), (17, .int .i64 c_12), (18, .int .i64 i), (20, .int .i64 t_7.1), (104, .bool ((t_7.1 == 0) || (decide (t_6.1 ≥ t_1.1))))] ∧ St w0 (thicketlaw11_world.R p_w_ al_w_ t_7.2 :: Blk r1 76 [.int .i64 t_.1.cell, .int .i64 t_.1.e.Key, .int .i64 t_.1.e.Serial] :: As) w) (fun hk => ?_) ?_
      ·clear hm
       refine Runs.region ?_
       refine WR.d0 hE 3 [(100, .bool (t_7.1 == 0))] fun a hE => ?_
       rcases Bool.eq_false_or_eq_true (t_7.1 == 0) with c | c
       ·replace hE := hE.dec 100 c (by kernel_rfl)
        have c_15 := c
        refine WR.e0 hE [(104, .bool true)] fun a hE => ?_
        refine hk _ _ ⟨?_, H.t1.t1⟩
        try rw [c_15] at hE
        try rw [c_15]
        exact hE.sel [0, 1, 2, 13, 15, 16, 17, 18, 20, 104] (by kernel_rfl)
       ·replace hE := hE.dec 100 c (by kernel_rfl)
        have c_16 := c
        refine WR.e0 hE [(104, .bool (decide (t_6.1 ≥ t_1.1)))] fun a hE => ?_
        refine hk _ _ ⟨?_, H.t1.t1⟩
        try rw [c_16] at hE
        try rw [c_16]
        exact hE.sel [0, 1, 2, 13, 15, 16, 17, 18, 20, 104] (by kernel_rfl)
      rintro a w ⟨hE, H⟩
      refine Runs.cond hE rfl (fun c => ?_) (fun c => ?_)
      ·replace hm := cond_t c hm
       refine Runs.sr ?_
       refine WR.seg hE 1 [] [12] (Lo := [(12, .int .i64 0)]) (obs := []) rfl (by kernel_rfl) trivial fun a hE => ?_
       refine WR.done rfl ?_
       refine Runs.ret hE Tryz.func119 rfl rfl ?_
       cases hm
       dsimp only at hR; cases hR
       exact ⟨rfl, H.x1⟩
      ·replace hm := cond_f c hm
       refine Runs.skip ?_
       refine Runs.sr ?_
       refine WR.seg hE 4 [] [0, 1, 2, 13, 15, 16, 17, 18] (Lo := [(0, .pointer (some ⟨p_w_, 0, none⟩)), (1, .int .i64 0), (2, .int .i64 n), (13, .pointer (some ⟨r1, 0, none⟩)), (15, .int .i64 t_1.1), (16, .int .i64 (w64 (size + t_7.1))), (17, .int .i64 c_12), (18, .int .i64 i)]) (obs := []) rfl (by kernel_rfl) trivial fun a hE => ?_
       refine WR.done rfl ?_
       refine Runs.region ?_
       replace H := thicketlaw11_world.open H
       refine WR.d hE 5 [.pointer (some ⟨al_w_.a__p, 0, none⟩)] [(111, .pointer (some ⟨al_w_.a__p, 0, none⟩)), (112, .int .i64 c_12)] (obs := [.cell ⟨p_w_, 0, none⟩ (.pointer (some ⟨al_w_.a__p, 0, none⟩))]) ⟨H.cell 0 rfl rfl, trivial⟩ fun a hE => ?_
       obtain ⟨t_8, et_8, hm⟩ := bind_some hm
       refine WR.eff hE rfl rfl rfl rfl (OpTo.fn hE rfl rfl Tryz.call78 (arena_Arena_Cell_ok et_8 H.t1)) ?_
       rintro _ w ⟨rfl, H⟩ a hE
       refine WR.e0 hE [(17, .int .i64 t_8.1)] fun a hE => ?_
       refine Runs.inBlock ?_
       refine Runs.region ?_
       refine WR.e0 hE [(18, .int .i64 (w64 (i + 1)))] fun a hE => ?_
       replace H := thicketlaw11_world.shut al_w_ (thicketlaw11_world.mk t_8.2 t_7.2.root0 t_7.2.root1 t_7.2.has0 t_7.2.has1 t_7.2.next t_7.2.spent t_7.2.most) H.t3.t3.t2.t3
       exact ih m (Nat.lt_succ_self m) _ _ ⟨w64 (size + t_7.1), t_8.1, w64 (i + 1), thicketlaw11_world.mk t_8.2 t_7.2.root0 t_7.2.root1 t_7.2.has0 t_7.2.has1 t_7.2.next t_7.2.spent t_7.2.most, hE.sel [0, 1, 2, 13, 15, 16, 17, 18] (by kernel_rfl), H.t1.t1, hm⟩
     ·replace hm := cond_f c hm
      refine Runs.exit rfl ?_
      cases hm
      exact hk _ _ ⟨_, rfl, hE.sel [0, 1, 15, 16, 17] (by kernel_rfl), H.x1⟩
   rintro a w ⟨s2, rfl, hE, H⟩
   replace hm := hR; dsimp only at hm
   refine Runs.seq ?_
   refine Runs.seq ?_
   obtain ⟨s3, es3, hm⟩ := bind_some hm
   refine Runs.join (fun a w => EnvOk 143 a [(16, .int .i64 s2.1), (141, .bool s3)] ∧ St w0 (thicketlaw11_world.R p_w_ al_w_ s2.2.2 :: As) w) (fun hk => ?_) ?_
   ·replace hm := es3; clear es3
    refine Runs.region ?_
    refine WR.seg hE 3 [] [0, 1, 15, 16, 116] (Lo := [(0, .pointer (some ⟨p_w_, 0, none⟩)), (1, .int .i64 0), (15, .int .i64 t_1.1), (16, .int .i64 s2.1), (116, .bool (s2.2.1 != (-1)))]) (obs := []) rfl (by kernel_rfl) trivial fun a hE => ?_
    rcases Bool.eq_false_or_eq_true (s2.2.1 != (-1)) with c | c
    ·replace hE := hE.dec 116 c (by kernel_rfl)
     replace hm := cond_t c hm
     have c_17 := c
     refine WR.e0 hE [(141, .bool true)] fun a hE => ?_
     cases hm
     exact hk _ _ ⟨hE.sel [16, 141] (by kernel_rfl), H⟩
    ·replace hE := hE.dec 116 c (by kernel_rfl)
     replace hm := cond_f c hm
     have c_18 := c
     replace H := thicketlaw11_world.open H
     refine WR.d hE 14 [.slice al_w_.has0_b s2.2.2.has0.length al_w_.has0_c] [(127, .bool (decide (s2.1 > (s2.2.2.has0.length : Int))))] (obs := [.p (0 ≤ (0 : Int) ∧ (0 : Int) < ((2 : Nat) : Int)), .cell ⟨p_w_, 3, none⟩ (.slice al_w_.has0_b s2.2.2.has0.length al_w_.has0_c)]) ⟨⟨by decide, by decide⟩, H.cell 0 rfl rfl, trivial⟩ fun a hE => ?_
     rcases Bool.eq_false_or_eq_true (decide (s2.1 > (s2.2.2.has0.length : Int))) with c | c
     ·replace hE := hE.dec 127 c (by kernel_rfl)
      replace hm := cond_t c hm
      have c_19 := c
      refine WR.e0 hE [(141, .bool true)] fun a hE => ?_
      replace H := thicketlaw11_world.shut al_w_ (s2.2.2) H.t3.t3.t3.t3
      cases hm
      exact hk _ _ ⟨hE.sel [16, 141] (by kernel_rfl), H⟩
     ·replace hE := hE.dec 127 c (by kernel_rfl)
      replace hm := cond_f c hm
      have c_20 := c
      obtain ⟨u1, eu1, hm⟩ := bind_some hm
      refine WR.d hE 21 [] [(134, .bool (decide (s2.1 < w64 (1 * 2 ^ (min (Int.toNat (IntKind.wrap .u64 (t_1.1))) 64)))))] (obs := [.p (0 ≤ IntKind.wrap .u64 (t_1.1))]) ⟨(nn_spec eu1), trivial⟩ fun a hE => ?_
      rcases Bool.eq_false_or_eq_true (decide (s2.1 < w64 (1 * 2 ^ (min (Int.toNat (IntKind.wrap .u64 (t_1.1))) 64)))) with c | c
      ·replace hE := hE.dec 134 c (by kernel_rfl)
       replace hm := cond_t c hm
       have c_21 := c
       refine WR.e0 hE [(141, .bool true)] fun a hE => ?_
       replace H := thicketlaw11_world.shut al_w_ (s2.2.2) H.t3.t3.t3.t3
       cases hm
       exact hk _ _ ⟨hE.sel [16, 141] (by kernel_rfl), H⟩
      ·replace hE := hE.dec 134 c (by kernel_rfl)
       replace hm := cond_f c hm
       have c_22 := c
       obtain ⟨u2, eu2, hm⟩ := bind_some hm
       refine WR.e hE [] [(141, .bool (decide (s2.1 > w64 ((w64 (2 * 2 ^ (min (Int.toNat (IntKind.wrap .u64 (t_1.1))) 64))) - 1))))] (obs := [.p (0 ≤ IntKind.wrap .u64 (t_1.1))]) ⟨(nn_spec eu2), trivial⟩ fun a hE => ?_
       replace H := thicketlaw11_world.shut al_w_ (s2.2.2) H.t3.t3.t3.t3
       cases hm
       exact hk _ _ ⟨hE.sel [16, 141] (by kernel_rfl), H⟩
   rintro a w ⟨hE, H⟩
   refine Runs.cond hE rfl (fun c => ?_) (fun c => ?_)
   ·replace hm := cond_t c hm
    refine Runs.sr ?_
    refine WR.seg hE 1 [] [12] (Lo := [(12, .int .i64 0)]) (obs := []) rfl (by kernel_rfl) trivial fun a hE => ?_
    refine WR.done rfl ?_
    refine Runs.ret hE Tryz.func119 rfl rfl ?_
    cases hm
    exact ⟨rfl, H⟩
   ·replace hm := cond_f c hm
    refine Runs.skip ?_
    refine Runs.sr ?_
    refine WR.seg hE 2 [] [12] (Lo := [(12, .int .i64 s2.1)]) (obs := []) rfl (by kernel_rfl) trivial fun a hE => ?_
    refine WR.done rfl ?_
    refine Runs.ret hE Tryz.func119 rfl rfl ?_
    cases hm
    exact ⟨rfl, H⟩

theorem thicketlaw11_world_tree_at1_ok {w0 : World} {k : Nat} : ∀ {w : World} {As : List HP} {p_w_ : Nat} {al_w_ : thicketlaw11_world.A} {w_ : thicketlaw11_world} {n : Int} {up : Int} {above : thicketlaw11_held} {top : Bool} {t : Int × thicketlaw11_world}  (hm : thicketlaw11_world_tree_at1 k w_ n up above top = some t) (H : St w0 (thicketlaw11_world.R p_w_ al_w_ w_ :: As) w),
    CallsR Tryz.prog 119 #[.pointer (some ⟨p_w_, 0, none⟩), .int .i64 1, .int .i64 n, .int .i64 up, .agg #[.int .i64 above.cell, .int .i64 above.e.Key, .int .i64 above.e.Serial], .bool top] w fun v w' => v = .int .i64 t.1 ∧ St w0 (thicketlaw11_world.R p_w_ al_w_ t.2 :: As) w' := by
 induction k with
 | zero => intro w As p_w_ al_w_ w_ n up above top t hm H; simp [thicketlaw11_world_tree_at1] at hm
 | succ k ihf =>
  intro w As p_w_ al_w_ w_ n up above top t hm H
  rw [thicketlaw11_world_tree_at1] at hm
  refine enter (args := [.pointer (some ⟨p_w_, 0, none⟩), .int .i64 1, .int .i64 n, .int .i64 up, .agg #[.int .i64 above.cell, .int .i64 above.e.Key, .int .i64 above.e.Serial], .bool top]) Tryz.func119 rfl rfl rfl fun a hE => ?_
  refine Runs.sr ?_
  refine WR.eff hE rfl rfl rfl rfl (OpTo.new hE H [] (.cells #[.int .i64 above.cell, .int .i64 above.e.Key, .int .i64 above.e.Serial] 76 (0, 0)) (fun r => .pointer (some ⟨r, 0, none⟩)) (obs := []) rfl (fun _ => by kernel_rfl) trivial) ?_
  rintro _ w ⟨r, rfl, H⟩ a hE
  refine WR.seg hE 2 [] [0, 1, 2, 3, 5, 10] (Lo := [(0, .pointer (some ⟨p_w_, 0, none⟩)), (1, .int .i64 1), (2, .int .i64 n), (3, .int .i64 up), (5, .bool top), (10, .pointer (some ⟨r, 0, none⟩))]) (obs := []) rfl (by kernel_rfl) trivial fun a hE => ?_
  refine WR.done rfl ?_
  refine Runs.sr ?_
  refine WR.d0 hE 3 [(22, .pointer (some ⟨p_w_, 0, none⟩)), (23, .int .i64 1), (24, .int .i64 n)] fun a hE => ?_
  obtain ⟨t_, et_, hm⟩ := bind_some hm
  refine WR.eff hE rfl rfl rfl rfl (OpTo.fn hE rfl rfl Tryz.call131 (thicketlaw11_world_node_ok et_ H.t1)) ?_
  rintro _ w ⟨rfl, H⟩ a hE
  refine WR.d0 hE 7 [(26, .agg #[.int .i64 t_.1.cell, .int .i64 t_.1.e.Key, .int .i64 t_.1.e.Serial]), (27, .bool t_.2.1)] fun a hE => ?_
  refine WR.eff hE rfl rfl rfl rfl (OpTo.new hE H [] (.cells #[.int .i64 0, .int .i64 0, .int .i64 0] 76 (0, 0)) (fun r => .pointer (some ⟨r, 0, none⟩)) (obs := []) rfl (fun _ => by kernel_rfl) trivial) ?_
  rintro _ w ⟨r1, rfl, H⟩ a hE
  refine WR.eff0 hE rfl rfl rfl (OpTo.store hE H rfl rfl rfl rfl rfl rfl (Nat.le_of_ble_eq_true rfl)) ?_
  rintro _ w H a hE
  refine WR.e0 hE [(14, .bool t_.2.1)] fun a hE => ?_
  refine Runs.sr ?_
  replace H := thicketlaw11_world.open H.t1
  refine WR.d hE 5 [.pointer (some ⟨al_w_.a__p, 0, none⟩)] [(31, .pointer (some ⟨al_w_.a__p, 0, none⟩)), (32, .int .i64 n)] (obs := [.cell ⟨p_w_, 0, none⟩ (.pointer (some ⟨al_w_.a__p, 0, none⟩))]) ⟨H.cell 0 rfl rfl, trivial⟩ fun a hE => ?_
  obtain ⟨t_1, et_1, hm⟩ := bind_some hm
  refine WR.eff hE rfl rfl rfl rfl (OpTo.fn hE rfl rfl Tryz.call65 (arena_Arena_Get_ok et_1 H.t1)) ?_
  rintro _ w ⟨rfl, hf1, hf, H⟩ a hE
  refine WR.e0 hE [(15, .int .i64 t_1.1)] fun a hE => ?_
  refine Runs.seq ?_
  refine Runs.seq ?_
  replace H := thicketlaw11_world.shut al_w_ (thicketlaw11_world.mk t_1.2 t_.2.2.root0 t_.2.2.root1 t_.2.2.has0 t_.2.2.has1 t_.2.2.next t_.2.2.spent t_.2.2.most) H.t3.t3.t2.t3
  obtain ⟨s, es, hm⟩ := bind_some hm
  refine Runs.join (fun a w => EnvOk 143 a [(0, .pointer (some ⟨p_w_, 0, none⟩)), (1, .int .i64 1), (2, .int .i64 n), (13, .pointer (some ⟨r1, 0, none⟩)), (15, .int .i64 t_1.1), (71, .bool s.1)] ∧ St w0 (thicketlaw11_world.R p_w_ al_w_ s.2 :: Blk r1 76 [.int .i64 t_.1.cell, .int .i64 t_.1.e.Key, .int .i64 t_.1.e.Serial] :: As) w) (fun hk => ?_) ?_
  ·replace hm := es; clear es
   refine Runs.region ?_
   refine WR.d0 hE 3 [(36, .bool (!t_.2.1))] fun a hE => ?_
   rcases Bool.eq_false_or_eq_true (!t_.2.1) with c | c
   ·replace hE := hE.dec 36 c (by kernel_rfl)
    replace hm := cond_t c hm
    have c_ := c
    refine WR.e0 hE [(71, .bool true)] fun a hE => ?_
    cases hm
    exact hk _ _ ⟨hE.sel [0, 1, 2, 13, 15, 71] (by kernel_rfl), H.x2.t1.t1⟩
   ·replace hE := hE.dec 36 c (by kernel_rfl)
    replace hm := cond_f c hm
    have c_1 := c
    refine WR.d0 hE 7 [(40, .bool (decide (t_1.1 < 0)))] fun a hE => ?_
    rcases Bool.eq_false_or_eq_true (decide (t_1.1 < 0)) with c | c
    ·replace hE := hE.dec 40 c (by kernel_rfl)
     replace hm := cond_t c hm
     have c_2 := c
     refine WR.e0 hE [(71, .bool true)] fun a hE => ?_
     cases hm
     exact hk _ _ ⟨hE.sel [0, 1, 2, 13, 15, 71] (by kernel_rfl), H.x2.t1.t1⟩
    ·replace hE := hE.dec 40 c (by kernel_rfl)
     replace hm := cond_f c hm
     have c_3 := c
     refine WR.d0 hE 11 [(44, .bool (decide (t_1.1 > 20)))] fun a hE => ?_
     rcases Bool.eq_false_or_eq_true (decide (t_1.1 > 20)) with c | c
     ·replace hE := hE.dec 44 c (by kernel_rfl)
      replace hm := cond_t c hm
      have c_4 := c
      refine WR.e0 hE [(71, .bool true)] fun a hE => ?_
      cases hm
      exact hk _ _ ⟨hE.sel [0, 1, 2, 13, 15, 71] (by kernel_rfl), H.x2.t1.t1⟩
     ·replace hE := hE.dec 44 c (by kernel_rfl)
      replace hm := cond_f c hm
      have c_5 := c
      replace H := thicketlaw11_world.open H
      try dsimp only at H
      refine WR.d hE 16 [.pointer (some ⟨al_w_.a__p, 0, none⟩)] [(44, .bool false), (48, .pointer (some ⟨al_w_.a__p, 0, none⟩)), (49, .int .i64 n)] (obs := [.cell ⟨p_w_, 0, none⟩ (.pointer (some ⟨al_w_.a__p, 0, none⟩))]) ⟨H.cell 0 rfl rfl, trivial⟩ fun a hE => ?_
      obtain ⟨t_2, et_2, hm⟩ := bind_some hm
      refine WR.eff hE rfl rfl rfl rfl (OpTo.fn hE rfl rfl Tryz.call78 (arena_Arena_Cell_ok et_2 H.t1)) ?_
      rintro _ w ⟨rfl, H⟩ a hE
      refine WR.d0 hE 21 [(54, .bool (t_2.1 != up))] fun a hE => ?_
      rcases Bool.eq_false_or_eq_true (t_2.1 != up) with c | c
      ·replace hE := hE.dec 54 c (by kernel_rfl)
       replace hm := cond_t c hm
       have c_6 := c
       refine WR.e0 hE [(71, .bool true)] fun a hE => ?_
       replace H := thicketlaw11_world.shut al_w_ (thicketlaw11_world.mk t_2.2 t_.2.2.root0 t_.2.2.root1 t_.2.2.has0 t_.2.2.has1 t_.2.2.next t_.2.2.spent t_.2.2.most) H.t3.t3.t2.t3
       cases hm
       exact hk _ _ ⟨hE.sel [0, 1, 2, 13, 15, 71] (by kernel_rfl), H.x2.t1.t1⟩
      ·replace hE := hE.dec 54 c (by kernel_rfl)
       replace hm := cond_f c hm
       have c_7 := c
       refine WR.d hE 26 [.pointer (some ⟨al_w_.a__p, 0, none⟩)] [(54, .bool false), (58, .pointer (some ⟨al_w_.a__p, 0, none⟩)), (59, .int .i64 n)] (obs := [.cell ⟨p_w_, 0, none⟩ (.pointer (some ⟨al_w_.a__p, 0, none⟩))]) ⟨H.cell 1 rfl rfl, trivial⟩ fun a hE => ?_
       obtain ⟨t_3, et_3, hm⟩ := bind_some hm
       refine WR.eff hE rfl rfl rfl rfl (OpTo.fn hE rfl rfl Tryz.call78 (arena_Arena_Cell_ok et_3 H)) ?_
       rintro _ w ⟨rfl, H⟩ a hE
       refine WR.d0 hE 30 [(63, .bool (t_3.1 != (-1)))] fun a hE => ?_
       rcases Bool.eq_false_or_eq_true (t_3.1 != (-1)) with c | c
       ·replace hE := hE.dec 63 c (by kernel_rfl)
        replace hm := cond_t c hm
        have c_8 := c
        refine WR.e0 hE [(71, .bool true)] fun a hE => ?_
        replace H := thicketlaw11_world.shut al_w_ (thicketlaw11_world.mk t_3.2 t_.2.2.root0 t_.2.2.root1 t_.2.2.has0 t_.2.2.has1 t_.2.2.next t_.2.2.spent t_.2.2.most) H.t3.t3.t2.t3
        cases hm
        exact hk _ _ ⟨hE.sel [0, 1, 2, 13, 15, 71] (by kernel_rfl), H.x2.t1.t1⟩
       ·replace hE := hE.dec 63 c (by kernel_rfl)
        replace hm := cond_f c hm
        have c_9 := c
        refine WR.d0 hE 33 [(63, .bool false), (66, .bool (!top))] fun a hE => ?_
        rcases Bool.eq_false_or_eq_true (!top) with c | c
        ·replace hE := hE.dec 66 c (by kernel_rfl)
         replace hm := cond_t c hm
         have c_10 := c
         refine WR.d hE 35 [.int .i64 t_.1.cell, .int .i64 t_.1.e.Key, .int .i64 t_.1.e.Serial, .int .i64 above.cell, .int .i64 above.e.Key, .int .i64 above.e.Serial] [(66, .bool true), (67, .agg #[.int .i64 t_.1.cell, .int .i64 t_.1.e.Key, .int .i64 t_.1.e.Serial]), (68, .agg #[.int .i64 above.cell, .int .i64 above.e.Key, .int .i64 above.e.Serial])] (obs := [.cell ⟨r1, 0, none⟩ (.int .i64 t_.1.cell), .cell ⟨r1, 1, none⟩ (.int .i64 t_.1.e.Key), .cell ⟨r1, 2, none⟩ (.int .i64 t_.1.e.Serial), .cell ⟨r, 0, none⟩ (.int .i64 above.cell), .cell ⟨r, 1, none⟩ (.int .i64 above.e.Key), .cell ⟨r, 2, none⟩ (.int .i64 above.e.Serial)]) ⟨H.cell 4 rfl rfl, H.cell 4 rfl rfl, H.cell 4 rfl rfl, H.cell 5 rfl rfl, H.cell 5 rfl rfl, H.cell 5 rfl rfl, trivial⟩ fun a hE => ?_
         obtain ⟨t_4, et_4, hm⟩ := bind_some hm
         refine WR.eff hE rfl rfl rfl rfl (OpTo.fn hE rfl rfl Tryz.call118 (thicketlaw11_before_ok et_4 H)) ?_
         rintro _ w ⟨rfl, H⟩ a hE
         refine WR.e0 hE [(71, .bool t_4)] fun a hE => ?_
         replace H := thicketlaw11_world.shut al_w_ (thicketlaw11_world.mk t_3.2 t_.2.2.root0 t_.2.2.root1 t_.2.2.has0 t_.2.2.has1 t_.2.2.next t_.2.2.spent t_.2.2.most) H.t3.t3.t2.t3
         cases hm
         exact hk _ _ ⟨hE.sel [0, 1, 2, 13, 15, 71] (by kernel_rfl), H.x2.t1.t1⟩
        ·replace hE := hE.dec 66 c (by kernel_rfl)
         replace hm := cond_f c hm
         have c_11 := c
         refine WR.e0 hE [(71, .bool false)] fun a hE => ?_
         replace H := thicketlaw11_world.shut al_w_ (thicketlaw11_world.mk t_3.2 t_.2.2.root0 t_.2.2.root1 t_.2.2.has0 t_.2.2.has1 t_.2.2.next t_.2.2.spent t_.2.2.most) H.t3.t3.t2.t3
         cases hm
         exact hk _ _ ⟨hE.sel [0, 1, 2, 13, 15, 71] (by kernel_rfl), H.x2.t1.t1⟩
  rintro a w ⟨hE, H⟩
  refine Runs.cond hE rfl (fun c => ?_) (fun c => ?_)
  ·replace hm := cond_t c hm
   refine Runs.sr ?_
   refine WR.seg hE 1 [] [12] (Lo := [(12, .int .i64 0)]) (obs := []) rfl (by kernel_rfl) trivial fun a hE => ?_
   refine WR.done rfl ?_
   refine Runs.ret hE Tryz.func119 rfl rfl ?_
   cases hm
   exact ⟨rfl, H.x1⟩
  ·replace hm := cond_f c hm
   refine Runs.skip ?_
   refine Runs.sr ?_
   refine WR.seg hE 1 [] [0, 1, 2, 13, 15, 16] (Lo := [(0, .pointer (some ⟨p_w_, 0, none⟩)), (1, .int .i64 1), (2, .int .i64 n), (13, .pointer (some ⟨r1, 0, none⟩)), (15, .int .i64 t_1.1), (16, .int .i64 1)]) (obs := []) rfl (by kernel_rfl) trivial fun a hE => ?_
   refine WR.done rfl ?_
   refine Runs.sr ?_
   replace H := thicketlaw11_world.open H
   refine WR.d hE 5 [.pointer (some ⟨al_w_.a__p, 0, none⟩)] [(75, .pointer (some ⟨al_w_.a__p, 0, none⟩)), (76, .int .i64 n)] (obs := [.cell ⟨p_w_, 0, none⟩ (.pointer (some ⟨al_w_.a__p, 0, none⟩))]) ⟨H.cell 0 rfl rfl, trivial⟩ fun a hE => ?_
   obtain ⟨t_5, et_5, hm⟩ := bind_some hm
   refine WR.eff hE rfl rfl rfl rfl (OpTo.fn hE rfl rfl Tryz.call78 (arena_Arena_Cell_ok et_5 H.t1)) ?_
   rintro _ w ⟨rfl, H⟩ a hE
   refine WR.e0 hE [(17, .int .i64 t_5.1)] fun a hE => ?_
   refine Runs.seq ?_
   refine Runs.sr ?_
   refine WR.e0 hE [(18, .int .i64 0)] fun a hE => ?_
   replace H := thicketlaw11_world.shut al_w_ (thicketlaw11_world.mk t_5.2 s.2.root0 s.2.root1 s.2.has0 s.2.has1 s.2.next s.2.spent s.2.most) H.t3.t3.t2.t3
   obtain ⟨s1, es1, hR⟩ := bind_some hm
   refine Runs.join (fun a w => ∃ s2, s1 = Sum.inr s2 ∧ EnvOk 143 a [(0, .pointer (some ⟨p_w_, 0, none⟩)), (1, .int .i64 1), (15, .int .i64 t_1.1), (16, .int .i64 s2.1), (17, .int .i64 s2.2.1)] ∧ St w0 (thicketlaw11_world.R p_w_ al_w_ s2.2.2 :: As) w) (fun hk => ?_) ?_
   ·replace hm := es1; clear es1
    refine Runs.block ?_
    refine Runs.loop (fun m a w => ∃ (size : Int), ∃ (c_12 : Int), ∃ (i : Int), ∃ (m_ : thicketlaw11_world), EnvOk 143 a [(0, .pointer (some ⟨p_w_, 0, none⟩)), (1, .int .i64 1), (2, .int .i64 n), (13, .pointer (some ⟨r1, 0, none⟩)), (15, .int .i64 t_1.1), (16, .int .i64 size), (17, .int .i64 c_12), (18, .int .i64 i)] ∧ St w0 (thicketlaw11_world.R p_w_ al_w_ m_ :: Blk r1 76 [.int .i64 t_.1.cell, .int .i64 t_.1.e.Key, .int .i64 t_.1.e.Serial] :: As) w ∧ thicketlaw11_world_tree_at1_l0 (thicketlaw11_world_tree_at1 k) n t_1.1 t_.1.cell t_.1.e.Key t_.1.e.Serial m size c_12 i m_ = some s1) k ⟨1, t_5.1, 0, thicketlaw11_world.mk t_5.2 s.2.root0 s.2.root1 s.2.has0 s.2.has1 s.2.next s.2.spent s.2.most, hE.sel [0, 1, 2, 13, 15, 16, 17, 18] (by kernel_rfl), H.t1.t1, hm⟩ ?_
    rintro m ih a w ⟨size, c_12, i, m_, hE, H, hm⟩
    cases m with
    | zero => simp [thicketlaw11_world_tree_at1_l0] at hm
    | succ m =>
     rw [thicketlaw11_world_tree_at1_l0] at hm
     refine Runs.seq ?_
     refine Runs.seq ?_
     refine Runs.join (fun a w => EnvOk 143 a [(0, .pointer (some ⟨p_w_, 0, none⟩)), (1, .int .i64 1), (2, .int .i64 n), (13, .pointer (some ⟨r1, 0, none⟩)), (15, .int .i64 t_1.1), (16, .int .i64 size), (17, .int .i64 c_12), (18, .int .i64 i), (83, .bool ((decide (i < 60)) && (c_12 != (-1))))] ∧ St w0 (thicketlaw11_world.R p_w_ al_w_ m_ :: Blk r1 76 [.int .i64 t_.1.cell, .int .i64 t_.1.e.Key, .int .i64 t_.1.e.Serial] :: As) w) (fun hk => ?_) ?_
     ·clear hm
      refine Runs.region ?_
      refine WR.seg hE 3 [] [0, 1, 2, 13, 15, 16, 17, 18, 80] (Lo := [(0, .pointer (some ⟨p_w_, 0, none⟩)), (1, .int .i64 1), (2, .int .i64 n), (13, .pointer (some ⟨r1, 0, none⟩)), (15, .int .i64 t_1.1), (16, .int .i64 size), (17, .int .i64 c_12), (18, .int .i64 i), (80, .bool (decide (i < 60)))]) (obs := []) rfl (by kernel_rfl) trivial fun a hE => ?_
      rcases Bool.eq_false_or_eq_true (decide (i < 60)) with c | c
      ·replace hE := hE.dec 80 c (by kernel_rfl)
       have c_13 := c
       refine WR.e0 hE [(83, .bool (c_12 != (-1)))] fun a hE => ?_
       refine hk _ _ ⟨?_, H.t1.t1⟩
       try rw [c_13] at hE
       try rw [c_13]
       exact hE.sel [0, 1, 2, 13, 15, 16, 17, 18, 83] (by kernel_rfl)
      ·replace hE := hE.dec 80 c (by kernel_rfl)
       have c_14 := c
       refine WR.e0 hE [(83, .bool false)] fun a hE => ?_
       refine hk _ _ ⟨?_, H.t1.t1⟩
       try rw [c_14] at hE
       try rw [c_14]
       exact hE.sel [0, 1, 2, 13, 15, 16, 17, 18, 83] (by kernel_rfl)
     rintro a w ⟨hE, H⟩
     refine Runs.cond hE rfl (fun c => ?_) (fun c => ?_)
     ·replace hm := cond_t c hm
      refine Runs.skip ?_
      refine Runs.seq ?_
      refine Runs.block ?_
      refine Runs.sr ?_
      replace H := thicketlaw11_world.open H
      refine WR.seg hE 5 [.pointer (some ⟨al_w_.a__p, 0, none⟩)] [0, 1, 2, 13, 15, 16, 17, 18, 89, 90] (Lo := [(0, .pointer (some ⟨p_w_, 0, none⟩)), (1, .int .i64 1), (2, .int .i64 n), (13, .pointer (some ⟨r1, 0, none⟩)), (15, .int .i64 t_1.1), (16, .int .i64 size), (17, .int .i64 c_12), (18, .int .i64 i), (89, .pointer (some ⟨al_w_.a__p, 0, none⟩)), (90, .int .i64 c_12)]) (obs := [.cell ⟨p_w_, 0, none⟩ (.pointer (some ⟨al_w_.a__p, 0, none⟩))]) rfl (by kernel_rfl) ⟨H.cell 0 rfl rfl, trivial⟩ fun a hE => ?_
      obtain ⟨t_6, et_6, hm⟩ := bind_some hm
      refine WR.eff hE rfl rfl rfl rfl (OpTo.fn hE rfl rfl Tryz.call65 (arena_Arena_Get_ok et_6 H.t1)) ?_
      rintro _ w ⟨rfl, hf3, hf2, H⟩ a hE
      refine WR.e0 hE [(19, .int .i64 t_6.1)] fun a hE => ?_
      refine Runs.sr ?_
      refine WR.d hE 5 [.int .i64 t_.1.cell, .int .i64 t_.1.e.Key, .int .i64 t_.1.e.Serial] [(92, .pointer (some ⟨p_w_, 0, none⟩)), (93, .int .i64 1), (94, .int .i64 c_12), (95, .int .i64 n), (96, .agg #[.int .i64 t_.1.cell, .int .i64 t_.1.e.Key, .int .i64 t_.1.e.Serial])] (obs := [.cell ⟨r1, 0, none⟩ (.int .i64 t_.1.cell), .cell ⟨r1, 1, none⟩ (.int .i64 t_.1.e.Key), .cell ⟨r1, 2, none⟩ (.int .i64 t_.1.e.Serial)]) ⟨H.cell 4 rfl rfl, H.cell 4 rfl rfl, H.cell 4 rfl rfl, trivial⟩ fun a hE => ?_
      replace H := thicketlaw11_world.shut al_w_ (thicketlaw11_world.mk t_6.2 m_.root0 m_.root1 m_.has0 m_.has1 m_.next m_.spent m_.most) H.t3.t3.t2.t3
      obtain ⟨t_7, et_7, hm⟩ := bind_some hm
      refine WR.eff hE rfl rfl rfl rfl (OpTo.fn hE rfl rfl Tryz.call119 (ihf et_7 H)) ?_
      rintro _ w ⟨rfl, H⟩ a hE
      refine WR.e0 hE [(20, .int .i64 t_7.1)] fun a hE => ?_
      refine Runs.seq ?_
      refine Runs.seq ?_
      refine Runs.join (fun a w => EnvOk 143 a [(0, .pointer (some ⟨p_w_, 0, none⟩)), (1, .int .i64 1), (2, .int .i64 n), (13, .pointer (some ⟨r1, 0, none⟩)), (15, .int .i64 t_1.1), (16, .int .i64 size), (17, .int .i64 c_12), (18, .int .i64 i), (20, .int .i64 t_7.1), (104, .bool ((t_7.1 == 0) || (decide (t_6.1 ≥ t_1.1))))] ∧ St w0 (thicketlaw11_world.R p_w_ al_w_ t_7.2 :: Blk r1 76 [.int .i64 t_.1.cell, .int .i64 t_.1.e.Key, .int .i64 t_.1.e.Serial] :: As) w) (fun hk => ?_) ?_
      ·clear hm
       refine Runs.region ?_
       refine WR.d0 hE 3 [(100, .bool (t_7.1 == 0))] fun a hE => ?_
       rcases Bool.eq_false_or_eq_true (t_7.1 == 0) with c | c
       ·replace hE := hE.dec 100 c (by kernel_rfl)
        have c_15 := c
        refine WR.e0 hE [(104, .bool true)] fun a hE => ?_
        refine hk _ _ ⟨?_, H.t1.t1⟩
        try rw [c_15] at hE
        try rw [c_15]
        exact hE.sel [0, 1, 2, 13, 15, 16, 17, 18, 20, 104] (by kernel_rfl)
       ·replace hE := hE.dec 100 c (by kernel_rfl)
        have c_16 := c
        refine WR.e0 hE [(104, .bool (decide (t_6.1 ≥ t_1.1)))] fun a hE => ?_
        refine hk _ _ ⟨?_, H.t1.t1⟩
        try rw [c_16] at hE
        try rw [c_16]
        exact hE.sel [0, 1, 2, 13, 15, 16, 17, 18, 20, 104] (by kernel_rfl)
      rintro a w ⟨hE, H⟩
      refine Runs.cond hE rfl (fun c => ?_) (fun c => ?_)
      ·replace hm := cond_t c hm
       refine Runs.sr ?_
       refine WR.seg hE 1 [] [12] (Lo := [(12, .int .i64 0)]) (obs := []) rfl (by kernel_rfl) trivial fun a hE => ?_
       refine WR.done rfl ?_
       refine Runs.ret hE Tryz.func119 rfl rfl ?_
       cases hm
       dsimp only at hR; cases hR
       exact ⟨rfl, H.x1⟩
      ·replace hm := cond_f c hm
       refine Runs.skip ?_
       refine Runs.sr ?_
       refine WR.seg hE 4 [] [0, 1, 2, 13, 15, 16, 17, 18] (Lo := [(0, .pointer (some ⟨p_w_, 0, none⟩)), (1, .int .i64 1), (2, .int .i64 n), (13, .pointer (some ⟨r1, 0, none⟩)), (15, .int .i64 t_1.1), (16, .int .i64 (w64 (size + t_7.1))), (17, .int .i64 c_12), (18, .int .i64 i)]) (obs := []) rfl (by kernel_rfl) trivial fun a hE => ?_
       refine WR.done rfl ?_
       refine Runs.region ?_
       replace H := thicketlaw11_world.open H
       refine WR.d hE 5 [.pointer (some ⟨al_w_.a__p, 0, none⟩)] [(111, .pointer (some ⟨al_w_.a__p, 0, none⟩)), (112, .int .i64 c_12)] (obs := [.cell ⟨p_w_, 0, none⟩ (.pointer (some ⟨al_w_.a__p, 0, none⟩))]) ⟨H.cell 0 rfl rfl, trivial⟩ fun a hE => ?_
       obtain ⟨t_8, et_8, hm⟩ := bind_some hm
       refine WR.eff hE rfl rfl rfl rfl (OpTo.fn hE rfl rfl Tryz.call78 (arena_Arena_Cell_ok et_8 H.t1)) ?_
       rintro _ w ⟨rfl, H⟩ a hE
       refine WR.e0 hE [(17, .int .i64 t_8.1)] fun a hE => ?_
       refine Runs.inBlock ?_
       refine Runs.region ?_
       refine WR.e0 hE [(18, .int .i64 (w64 (i + 1)))] fun a hE => ?_
       replace H := thicketlaw11_world.shut al_w_ (thicketlaw11_world.mk t_8.2 t_7.2.root0 t_7.2.root1 t_7.2.has0 t_7.2.has1 t_7.2.next t_7.2.spent t_7.2.most) H.t3.t3.t2.t3
       exact ih m (Nat.lt_succ_self m) _ _ ⟨w64 (size + t_7.1), t_8.1, w64 (i + 1), thicketlaw11_world.mk t_8.2 t_7.2.root0 t_7.2.root1 t_7.2.has0 t_7.2.has1 t_7.2.next t_7.2.spent t_7.2.most, hE.sel [0, 1, 2, 13, 15, 16, 17, 18] (by kernel_rfl), H.t1.t1, hm⟩
     ·replace hm := cond_f c hm
      refine Runs.exit rfl ?_
      cases hm
      exact hk _ _ ⟨_, rfl, hE.sel [0, 1, 15, 16, 17] (by kernel_rfl), H.x1⟩
   rintro a w ⟨s2, rfl, hE, H⟩
   replace hm := hR; dsimp only at hm
   refine Runs.seq ?_
   refine Runs.seq ?_
   obtain ⟨s3, es3, hm⟩ := bind_some hm
   refine Runs.join (fun a w => EnvOk 143 a [(16, .int .i64 s2.1), (141, .bool s3)] ∧ St w0 (thicketlaw11_world.R p_w_ al_w_ s2.2.2 :: As) w) (fun hk => ?_) ?_
   ·replace hm := es3; clear es3
    refine Runs.region ?_
    refine WR.seg hE 3 [] [0, 1, 15, 16, 116] (Lo := [(0, .pointer (some ⟨p_w_, 0, none⟩)), (1, .int .i64 1), (15, .int .i64 t_1.1), (16, .int .i64 s2.1), (116, .bool (s2.2.1 != (-1)))]) (obs := []) rfl (by kernel_rfl) trivial fun a hE => ?_
    rcases Bool.eq_false_or_eq_true (s2.2.1 != (-1)) with c | c
    ·replace hE := hE.dec 116 c (by kernel_rfl)
     replace hm := cond_t c hm
     have c_17 := c
     refine WR.e0 hE [(141, .bool true)] fun a hE => ?_
     cases hm
     exact hk _ _ ⟨hE.sel [16, 141] (by kernel_rfl), H⟩
    ·replace hE := hE.dec 116 c (by kernel_rfl)
     replace hm := cond_f c hm
     have c_18 := c
     replace H := thicketlaw11_world.open H
     refine WR.d hE 14 [.slice al_w_.has1_b s2.2.2.has1.length al_w_.has1_c] [(127, .bool (decide (s2.1 > (s2.2.2.has1.length : Int))))] (obs := [.p (0 ≤ (1 : Int) ∧ (1 : Int) < ((2 : Nat) : Int)), .cell ⟨p_w_, 4, none⟩ (.slice al_w_.has1_b s2.2.2.has1.length al_w_.has1_c)]) ⟨⟨by decide, by decide⟩, H.cell 0 rfl rfl, trivial⟩ fun a hE => ?_
     rcases Bool.eq_false_or_eq_true (decide (s2.1 > (s2.2.2.has1.length : Int))) with c | c
     ·replace hE := hE.dec 127 c (by kernel_rfl)
      replace hm := cond_t c hm
      have c_19 := c
      refine WR.e0 hE [(141, .bool true)] fun a hE => ?_
      replace H := thicketlaw11_world.shut al_w_ (s2.2.2) H.t3.t3.t3.t3
      cases hm
      exact hk _ _ ⟨hE.sel [16, 141] (by kernel_rfl), H⟩
     ·replace hE := hE.dec 127 c (by kernel_rfl)
      replace hm := cond_f c hm
      have c_20 := c
      obtain ⟨u1, eu1, hm⟩ := bind_some hm
      refine WR.d hE 21 [] [(134, .bool (decide (s2.1 < w64 (1 * 2 ^ (min (Int.toNat (IntKind.wrap .u64 (t_1.1))) 64)))))] (obs := [.p (0 ≤ IntKind.wrap .u64 (t_1.1))]) ⟨(nn_spec eu1), trivial⟩ fun a hE => ?_
      rcases Bool.eq_false_or_eq_true (decide (s2.1 < w64 (1 * 2 ^ (min (Int.toNat (IntKind.wrap .u64 (t_1.1))) 64)))) with c | c
      ·replace hE := hE.dec 134 c (by kernel_rfl)
       replace hm := cond_t c hm
       have c_21 := c
       refine WR.e0 hE [(141, .bool true)] fun a hE => ?_
       replace H := thicketlaw11_world.shut al_w_ (s2.2.2) H.t3.t3.t3.t3
       cases hm
       exact hk _ _ ⟨hE.sel [16, 141] (by kernel_rfl), H⟩
      ·replace hE := hE.dec 134 c (by kernel_rfl)
       replace hm := cond_f c hm
       have c_22 := c
       obtain ⟨u2, eu2, hm⟩ := bind_some hm
       refine WR.e hE [] [(141, .bool (decide (s2.1 > w64 ((w64 (2 * 2 ^ (min (Int.toNat (IntKind.wrap .u64 (t_1.1))) 64))) - 1))))] (obs := [.p (0 ≤ IntKind.wrap .u64 (t_1.1))]) ⟨(nn_spec eu2), trivial⟩ fun a hE => ?_
       replace H := thicketlaw11_world.shut al_w_ (s2.2.2) H.t3.t3.t3.t3
       cases hm
       exact hk _ _ ⟨hE.sel [16, 141] (by kernel_rfl), H⟩
   rintro a w ⟨hE, H⟩
   refine Runs.cond hE rfl (fun c => ?_) (fun c => ?_)
   ·replace hm := cond_t c hm
    refine Runs.sr ?_
    refine WR.seg hE 1 [] [12] (Lo := [(12, .int .i64 0)]) (obs := []) rfl (by kernel_rfl) trivial fun a hE => ?_
    refine WR.done rfl ?_
    refine Runs.ret hE Tryz.func119 rfl rfl ?_
    cases hm
    exact ⟨rfl, H⟩
   ·replace hm := cond_f c hm
    refine Runs.skip ?_
    refine Runs.sr ?_
    refine WR.seg hE 2 [] [12] (Lo := [(12, .int .i64 s2.1)]) (obs := []) rfl (by kernel_rfl) trivial fun a hE => ?_
    refine WR.done rfl ?_
    refine Runs.ret hE Tryz.func119 rfl rfl ?_
    cases hm
    exact ⟨rfl, H⟩

theorem thicketlaw11_world_tree_ok {w0 w : World} {As : List HP} {k : Nat} {p_w_ : Nat} {al_w_ : thicketlaw11_world.A} {w_ : thicketlaw11_world} {n : Int} {up : Int} {above : thicketlaw11_held} {top : Bool} {h_ : Int} {t : Int × thicketlaw11_world}  (hm : thicketlaw11_world_tree k w_ h_ n up above top = some t) (H : St w0 (thicketlaw11_world.R p_w_ al_w_ w_ :: As) w) :
    CallsR Tryz.prog 119 #[.pointer (some ⟨p_w_, 0, none⟩), .int .i64 h_, .int .i64 n, .int .i64 up, .agg #[.int .i64 above.cell, .int .i64 above.e.Key, .int .i64 above.e.Serial], .bool top] w fun v w' => v = .int .i64 t.1 ∧ St w0 (thicketlaw11_world.R p_w_ al_w_ t.2 :: As) w' := by
  rw [thicketlaw11_world_tree] at hm
  by_cases h0 : h_ = 0
  · subst h0; simp only [if_pos] at hm
    refine (thicketlaw11_world_tree_at0_ok hm H).mono ?_
    rintro v w' ⟨hv, H⟩; exact ⟨hv, H⟩
  rw [if_neg h0] at hm
  by_cases h1 : h_ = 1
  · subst h1; simp only [if_pos] at hm
    refine (thicketlaw11_world_tree_at1_ok hm H).mono ?_
    rintro v w' ⟨hv, H⟩; exact ⟨hv, H⟩
  rw [if_neg h1] at hm
  cases hm

theorem thicketlaw11_world_shape_at0_ok {w0 w : World} {As : List HP} {k : Nat} {p_w_ : Nat} {al_w_ : thicketlaw11_world.A} {w_ : thicketlaw11_world} {t : Bool × thicketlaw11_world}  (hm : thicketlaw11_world_shape_at0 k w_ = some t) (H : St w0 (thicketlaw11_world.R p_w_ al_w_ w_ :: As) w) :
    CallsR Tryz.prog 85 #[.pointer (some ⟨p_w_, 0, none⟩), .int .i64 0] w fun v w' => v = .bool t.1 ∧ St w0 (thicketlaw11_world.R p_w_ al_w_ t.2 :: As) w' := by
 rw [thicketlaw11_world_shape_at0] at hm
 refine enter (args := [.pointer (some ⟨p_w_, 0, none⟩), .int .i64 0]) Tryz.func85 rfl rfl rfl fun a hE => ?_
 refine Runs.sr ?_
 refine WR.seg hE 1 [] [0, 1] (Lo := [(0, .pointer (some ⟨p_w_, 0, none⟩)), (1, .int .i64 0)]) (obs := []) rfl (by kernel_rfl) trivial fun a hE => ?_
 refine WR.done rfl ?_
 refine Runs.sr ?_
 replace H := thicketlaw11_world.open H
 refine WR.e hE [.int .i64 w_.root0] [(5, .int .i64 w_.root0)] (obs := [.p (0 ≤ (0 : Int) ∧ (0 : Int) < ((2 : Nat) : Int)), .cell ⟨p_w_, 1, none⟩ (.int .i64 w_.root0)]) ⟨⟨by decide, by decide⟩, H.cell 0 rfl rfl, trivial⟩ fun a hE => ?_
 refine Runs.sr ?_
 refine WR.e0 hE [(6, .int .i64 0)] fun a hE => ?_
 refine Runs.sr ?_
 refine WR.e0 hE [(7, .int .i64 (-1))] fun a hE => ?_
 refine Runs.seq ?_
 refine Runs.sr ?_
 refine WR.e0 hE [(8, .int .i64 0)] fun a hE => ?_
 replace H := thicketlaw11_world.shut al_w_ (w_) H.t3.t3.t3.t3
 obtain ⟨s, es, hR⟩ := bind_some hm
 refine Runs.join (fun a w => ∃ s1, s = Sum.inr s1 ∧ EnvOk 75 a [(0, .pointer (some ⟨p_w_, 0, none⟩)), (1, .int .i64 0), (5, .int .i64 s1.1), (6, .int .i64 s1.2.1)] ∧ St w0 (thicketlaw11_world.R p_w_ al_w_ s1.2.2 :: As) w) (fun hk => ?_) ?_
 ·replace hm := es; clear es
  refine Runs.block ?_
  refine Runs.loop (fun m a w => ∃ (n : Int), ∃ (all : Int), ∃ (last : Int), ∃ (i : Int), ∃ (m_ : thicketlaw11_world), EnvOk 75 a [(0, .pointer (some ⟨p_w_, 0, none⟩)), (1, .int .i64 0), (5, .int .i64 n), (6, .int .i64 all), (7, .int .i64 last), (8, .int .i64 i)] ∧ St w0 (thicketlaw11_world.R p_w_ al_w_ m_ :: As) w ∧ thicketlaw11_world_shape_at0_l0 m n all last i m_ = some s) k ⟨w_.root0, 0, (-1), 0, w_, hE.sel [0, 1, 5, 6, 7, 8] (by kernel_rfl), H, hm⟩ ?_
  rintro m ih a w ⟨n, all, last, i, m_, hE, H, hm⟩
  cases m with
  | zero => simp [thicketlaw11_world_shape_at0_l0] at hm
  | succ m =>
   rw [thicketlaw11_world_shape_at0_l0] at hm
   refine Runs.seq ?_
   refine Runs.seq ?_
   refine Runs.join (fun a w => EnvOk 75 a [(0, .pointer (some ⟨p_w_, 0, none⟩)), (1, .int .i64 0), (5, .int .i64 n), (6, .int .i64 all), (7, .int .i64 last), (8, .int .i64 i), (22, .bool ((decide (i < 40)) && (n != (-1))))] ∧ St w0 (thicketlaw11_world.R p_w_ al_w_ m_ :: As) w) (fun hk => ?_) ?_
   ·clear hm
    refine Runs.region ?_
    refine WR.seg hE 3 [] [0, 1, 5, 6, 7, 8, 19] (Lo := [(0, .pointer (some ⟨p_w_, 0, none⟩)), (1, .int .i64 0), (5, .int .i64 n), (6, .int .i64 all), (7, .int .i64 last), (8, .int .i64 i), (19, .bool (decide (i < 40)))]) (obs := []) rfl (by kernel_rfl) trivial fun a hE => ?_
    rcases Bool.eq_false_or_eq_true (decide (i < 40)) with c | c
    ·replace hE := hE.dec 19 c (by kernel_rfl)
     have c_ := c
     refine WR.e0 hE [(22, .bool (n != (-1)))] fun a hE => ?_
     refine hk _ _ ⟨?_, H⟩
     try rw [c_] at hE
     try rw [c_]
     exact hE.sel [0, 1, 5, 6, 7, 8, 22] (by kernel_rfl)
    ·replace hE := hE.dec 19 c (by kernel_rfl)
     have c_1 := c
     refine WR.e0 hE [(22, .bool false)] fun a hE => ?_
     refine hk _ _ ⟨?_, H⟩
     try rw [c_1] at hE
     try rw [c_1]
     exact hE.sel [0, 1, 5, 6, 7, 8, 22] (by kernel_rfl)
   rintro a w ⟨hE, H⟩
   refine Runs.cond hE rfl (fun c => ?_) (fun c => ?_)
   ·replace hm := cond_t c hm
    refine Runs.skip ?_
    refine Runs.seq ?_
    refine Runs.block ?_
    refine Runs.sr ?_
    replace H := thicketlaw11_world.open H
    refine WR.seg hE 5 [.pointer (some ⟨al_w_.a__p, 0, none⟩)] [0, 1, 5, 6, 7, 8, 28, 29] (Lo := [(0, .pointer (some ⟨p_w_, 0, none⟩)), (1, .int .i64 0), (5, .int .i64 n), (6, .int .i64 all), (7, .int .i64 last), (8, .int .i64 i), (28, .pointer (some ⟨al_w_.a__p, 0, none⟩)), (29, .int .i64 n)]) (obs := [.cell ⟨p_w_, 0, none⟩ (.pointer (some ⟨al_w_.a__p, 0, none⟩))]) rfl (by kernel_rfl) ⟨H.cell 0 rfl rfl, trivial⟩ fun a hE => ?_
    obtain ⟨t_, et_, hm⟩ := bind_some hm
    refine WR.eff hE rfl rfl rfl rfl (OpTo.fn hE rfl rfl Tryz.call65 (arena_Arena_Get_ok et_ H.t1)) ?_
    rintro _ w ⟨rfl, hf1, hf, H⟩ a hE
    refine WR.e0 hE [(9, .int .i64 t_.1)] fun a hE => ?_
    refine Runs.sr ?_
    refine WR.d0 hE 4 [(31, .pointer (some ⟨p_w_, 0, none⟩)), (32, .int .i64 0), (33, .int .i64 n), (34, .agg #[.int .i64 0, .int .i64 0, .int .i64 0])] fun a hE => ?_
    replace H := thicketlaw11_world.shut al_w_ (thicketlaw11_world.mk t_.2 m_.root0 m_.root1 m_.has0 m_.has1 m_.next m_.spent m_.most) H.t3.t3.t2.t3
    obtain ⟨t_1, et_1, hm⟩ := bind_some hm
    have hC_ := thicketlaw11_world_tree_ok et_1 H
    try dsimp only at hC_
    refine WR.eff hE rfl rfl rfl rfl (OpTo.fn hE rfl rfl Tryz.call119 hC_) ?_
    rintro _ w ⟨rfl, H⟩ a hE
    refine WR.e0 hE [(10, .int .i64 t_1.1)] fun a hE => ?_
    refine Runs.seq ?_
    refine Runs.seq ?_
    refine Runs.join (fun a w => EnvOk 75 a [(0, .pointer (some ⟨p_w_, 0, none⟩)), (1, .int .i64 0), (5, .int .i64 n), (6, .int .i64 all), (8, .int .i64 i), (9, .int .i64 t_.1), (10, .int .i64 t_1.1), (51, .bool (((t_1.1 == 0) || (decide (t_.1 < last))) || ((t_.1 == last) && (decide (i > 1)))))] ∧ St w0 (thicketlaw11_world.R p_w_ al_w_ t_1.2 :: As) w) (fun hk => ?_) ?_
    ·clear hm
     refine Runs.region ?_
     refine WR.d0 hE 3 [(38, .bool (t_1.1 == 0))] fun a hE => ?_
     rcases Bool.eq_false_or_eq_true (t_1.1 == 0) with c | c
     ·replace hE := hE.dec 38 c (by kernel_rfl)
      have c_2 := c
      refine WR.e0 hE [(51, .bool true)] fun a hE => ?_
      refine hk _ _ ⟨?_, H⟩
      try rw [c_2] at hE
      try rw [c_2]
      exact hE.sel [0, 1, 5, 6, 8, 9, 10, 51] (by kernel_rfl)
     ·replace hE := hE.dec 38 c (by kernel_rfl)
      have c_3 := c
      refine WR.d0 hE 8 [(43, .bool (decide (t_.1 < last)))] fun a hE => ?_
      rcases Bool.eq_false_or_eq_true (decide (t_.1 < last)) with c | c
      ·replace hE := hE.dec 43 c (by kernel_rfl)
       have c_4 := c
       refine WR.e0 hE [(51, .bool true)] fun a hE => ?_
       refine hk _ _ ⟨?_, H⟩
       try rw [c_3] at hE
       try rw [c_3]
       try rw [c_4] at hE
       try rw [c_4]
       exact hE.sel [0, 1, 5, 6, 8, 9, 10, 51] (by kernel_rfl)
      ·replace hE := hE.dec 43 c (by kernel_rfl)
       have c_5 := c
       refine WR.d0 hE 12 [(43, .bool false), (47, .bool (t_.1 == last))] fun a hE => ?_
       rcases Bool.eq_false_or_eq_true (t_.1 == last) with c | c
       ·replace hE := hE.dec 47 c (by kernel_rfl)
        have c_6 := c
        refine WR.e0 hE [(51, .bool (decide (i > 1)))] fun a hE => ?_
        refine hk _ _ ⟨?_, H⟩
        try rw [c_3] at hE
        try rw [c_3]
        try rw [c_5] at hE
        try rw [c_5]
        try rw [c_6] at hE
        try rw [c_6]
        exact hE.sel [0, 1, 5, 6, 8, 9, 10, 51] (by kernel_rfl)
       ·replace hE := hE.dec 47 c (by kernel_rfl)
        have c_7 := c
        refine WR.e0 hE [(51, .bool false)] fun a hE => ?_
        refine hk _ _ ⟨?_, H⟩
        try rw [c_3] at hE
        try rw [c_3]
        try rw [c_5] at hE
        try rw [c_5]
        try rw [c_7] at hE
        try rw [c_7]
        exact hE.sel [0, 1, 5, 6, 8, 9, 10, 51] (by kernel_rfl)
    rintro a w ⟨hE, H⟩
    refine Runs.cond hE rfl (fun c => ?_) (fun c => ?_)
    ·replace hm := cond_t c hm
     refine Runs.sr ?_
     refine WR.seg hE 1 [] [4] (Lo := [(4, .bool false)]) (obs := []) rfl (by kernel_rfl) trivial fun a hE => ?_
     refine WR.done rfl ?_
     refine Runs.ret hE Tryz.func85 rfl rfl ?_
     cases hm
     dsimp only at hR; cases hR
     exact ⟨rfl, H⟩
    ·replace hm := cond_f c hm
     refine Runs.skip ?_
     refine Runs.sr ?_
     refine WR.seg hE 6 [] [0, 1, 5, 6, 7, 8] (Lo := [(0, .pointer (some ⟨p_w_, 0, none⟩)), (1, .int .i64 0), (5, .int .i64 n), (6, .int .i64 (w64 (all + t_1.1))), (7, .int .i64 t_.1), (8, .int .i64 i)]) (obs := []) rfl (by kernel_rfl) trivial fun a hE => ?_
     refine WR.done rfl ?_
     refine Runs.region ?_
     replace H := thicketlaw11_world.open H
     refine WR.d hE 5 [.pointer (some ⟨al_w_.a__p, 0, none⟩)] [(59, .pointer (some ⟨al_w_.a__p, 0, none⟩)), (60, .int .i64 n)] (obs := [.cell ⟨p_w_, 0, none⟩ (.pointer (some ⟨al_w_.a__p, 0, none⟩))]) ⟨H.cell 0 rfl rfl, trivial⟩ fun a hE => ?_
     obtain ⟨t_2, et_2, hm⟩ := bind_some hm
     refine WR.eff hE rfl rfl rfl rfl (OpTo.fn hE rfl rfl Tryz.call78 (arena_Arena_Cell_ok et_2 H.t1)) ?_
     rintro _ w ⟨rfl, H⟩ a hE
     refine WR.e0 hE [(5, .int .i64 t_2.1)] fun a hE => ?_
     refine Runs.inBlock ?_
     refine Runs.region ?_
     refine WR.e0 hE [(8, .int .i64 (w64 (i + 1)))] fun a hE => ?_
     replace H := thicketlaw11_world.shut al_w_ (thicketlaw11_world.mk t_2.2 t_1.2.root0 t_1.2.root1 t_1.2.has0 t_1.2.has1 t_1.2.next t_1.2.spent t_1.2.most) H.t3.t3.t2.t3
     exact ih m (Nat.lt_succ_self m) _ _ ⟨t_2.1, w64 (all + t_1.1), t_.1, w64 (i + 1), thicketlaw11_world.mk t_2.2 t_1.2.root0 t_1.2.root1 t_1.2.has0 t_1.2.has1 t_1.2.next t_1.2.spent t_1.2.most, hE.sel [0, 1, 5, 6, 7, 8] (by kernel_rfl), H, hm⟩
   ·replace hm := cond_f c hm
    refine Runs.exit rfl ?_
    cases hm
    exact hk _ _ ⟨_, rfl, hE.sel [0, 1, 5, 6] (by kernel_rfl), H⟩
 rintro a w ⟨s1, rfl, hE, H⟩
 replace hm := hR; dsimp only at hm
 refine Runs.seq ?_
 obtain ⟨s2, es2, hm⟩ := bind_some hm
 refine Runs.join (fun a w => EnvOk 75 a [(4, .bool s2)] ∧ St w0 (thicketlaw11_world.R p_w_ al_w_ s1.2.2 :: As) w) (fun hk => ?_) ?_
 ·replace hm := es2; clear es2
  refine Runs.region ?_
  refine WR.seg hE 3 [] [0, 1, 6, 64] (Lo := [(0, .pointer (some ⟨p_w_, 0, none⟩)), (1, .int .i64 0), (6, .int .i64 s1.2.1), (64, .bool (s1.1 == (-1)))]) (obs := []) rfl (by kernel_rfl) trivial fun a hE => ?_
  rcases Bool.eq_false_or_eq_true (s1.1 == (-1)) with c | c
  ·replace hE := hE.dec 64 c (by kernel_rfl)
   replace hm := cond_t c hm
   have c_8 := c
   replace H := thicketlaw11_world.open H
   refine WR.e hE [.slice al_w_.has0_b s1.2.2.has0.length al_w_.has0_c] [(4, .bool (s1.2.1 == (s1.2.2.has0.length : Int)))] (obs := [.p (0 ≤ (0 : Int) ∧ (0 : Int) < ((2 : Nat) : Int)), .cell ⟨p_w_, 3, none⟩ (.slice al_w_.has0_b s1.2.2.has0.length al_w_.has0_c)]) ⟨⟨by decide, by decide⟩, H.cell 0 rfl rfl, trivial⟩ fun a hE => ?_
   replace H := thicketlaw11_world.shut al_w_ (s1.2.2) H.t3.t3.t3.t3
   cases hm
   exact hk _ _ ⟨hE.sel [4] (by kernel_rfl), H⟩
  ·replace hE := hE.dec 64 c (by kernel_rfl)
   replace hm := cond_f c hm
   have c_9 := c
   refine WR.e0 hE [(4, .bool false)] fun a hE => ?_
   cases hm
   exact hk _ _ ⟨hE.sel [4] (by kernel_rfl), H⟩
 rintro a w ⟨hE, H⟩
 refine Runs.ret hE Tryz.func85 rfl rfl ?_
 cases hm
 exact ⟨rfl, H⟩

theorem thicketlaw11_world_shape_at1_ok {w0 w : World} {As : List HP} {k : Nat} {p_w_ : Nat} {al_w_ : thicketlaw11_world.A} {w_ : thicketlaw11_world} {t : Bool × thicketlaw11_world}  (hm : thicketlaw11_world_shape_at1 k w_ = some t) (H : St w0 (thicketlaw11_world.R p_w_ al_w_ w_ :: As) w) :
    CallsR Tryz.prog 85 #[.pointer (some ⟨p_w_, 0, none⟩), .int .i64 1] w fun v w' => v = .bool t.1 ∧ St w0 (thicketlaw11_world.R p_w_ al_w_ t.2 :: As) w' := by
 rw [thicketlaw11_world_shape_at1] at hm
 refine enter (args := [.pointer (some ⟨p_w_, 0, none⟩), .int .i64 1]) Tryz.func85 rfl rfl rfl fun a hE => ?_
 refine Runs.sr ?_
 refine WR.seg hE 1 [] [0, 1] (Lo := [(0, .pointer (some ⟨p_w_, 0, none⟩)), (1, .int .i64 1)]) (obs := []) rfl (by kernel_rfl) trivial fun a hE => ?_
 refine WR.done rfl ?_
 refine Runs.sr ?_
 replace H := thicketlaw11_world.open H
 refine WR.e hE [.int .i64 w_.root1] [(5, .int .i64 w_.root1)] (obs := [.p (0 ≤ (1 : Int) ∧ (1 : Int) < ((2 : Nat) : Int)), .cell ⟨p_w_, 2, none⟩ (.int .i64 w_.root1)]) ⟨⟨by decide, by decide⟩, H.cell 0 rfl rfl, trivial⟩ fun a hE => ?_
 refine Runs.sr ?_
 refine WR.e0 hE [(6, .int .i64 0)] fun a hE => ?_
 refine Runs.sr ?_
 refine WR.e0 hE [(7, .int .i64 (-1))] fun a hE => ?_
 refine Runs.seq ?_
 refine Runs.sr ?_
 refine WR.e0 hE [(8, .int .i64 0)] fun a hE => ?_
 replace H := thicketlaw11_world.shut al_w_ (w_) H.t3.t3.t3.t3
 obtain ⟨s, es, hR⟩ := bind_some hm
 refine Runs.join (fun a w => ∃ s1, s = Sum.inr s1 ∧ EnvOk 75 a [(0, .pointer (some ⟨p_w_, 0, none⟩)), (1, .int .i64 1), (5, .int .i64 s1.1), (6, .int .i64 s1.2.1)] ∧ St w0 (thicketlaw11_world.R p_w_ al_w_ s1.2.2 :: As) w) (fun hk => ?_) ?_
 ·replace hm := es; clear es
  refine Runs.block ?_
  refine Runs.loop (fun m a w => ∃ (n : Int), ∃ (all : Int), ∃ (last : Int), ∃ (i : Int), ∃ (m_ : thicketlaw11_world), EnvOk 75 a [(0, .pointer (some ⟨p_w_, 0, none⟩)), (1, .int .i64 1), (5, .int .i64 n), (6, .int .i64 all), (7, .int .i64 last), (8, .int .i64 i)] ∧ St w0 (thicketlaw11_world.R p_w_ al_w_ m_ :: As) w ∧ thicketlaw11_world_shape_at1_l0 m n all last i m_ = some s) k ⟨w_.root1, 0, (-1), 0, w_, hE.sel [0, 1, 5, 6, 7, 8] (by kernel_rfl), H, hm⟩ ?_
  rintro m ih a w ⟨n, all, last, i, m_, hE, H, hm⟩
  cases m with
  | zero => simp [thicketlaw11_world_shape_at1_l0] at hm
  | succ m =>
   rw [thicketlaw11_world_shape_at1_l0] at hm
   refine Runs.seq ?_
   refine Runs.seq ?_
   refine Runs.join (fun a w => EnvOk 75 a [(0, .pointer (some ⟨p_w_, 0, none⟩)), (1, .int .i64 1), (5, .int .i64 n), (6, .int .i64 all), (7, .int .i64 last), (8, .int .i64 i), (22, .bool ((decide (i < 40)) && (n != (-1))))] ∧ St w0 (thicketlaw11_world.R p_w_ al_w_ m_ :: As) w) (fun hk => ?_) ?_
   ·clear hm
    refine Runs.region ?_
    refine WR.seg hE 3 [] [0, 1, 5, 6, 7, 8, 19] (Lo := [(0, .pointer (some ⟨p_w_, 0, none⟩)), (1, .int .i64 1), (5, .int .i64 n), (6, .int .i64 all), (7, .int .i64 last), (8, .int .i64 i), (19, .bool (decide (i < 40)))]) (obs := []) rfl (by kernel_rfl) trivial fun a hE => ?_
    rcases Bool.eq_false_or_eq_true (decide (i < 40)) with c | c
    ·replace hE := hE.dec 19 c (by kernel_rfl)
     have c_ := c
     refine WR.e0 hE [(22, .bool (n != (-1)))] fun a hE => ?_
     refine hk _ _ ⟨?_, H⟩
     try rw [c_] at hE
     try rw [c_]
     exact hE.sel [0, 1, 5, 6, 7, 8, 22] (by kernel_rfl)
    ·replace hE := hE.dec 19 c (by kernel_rfl)
     have c_1 := c
     refine WR.e0 hE [(22, .bool false)] fun a hE => ?_
     refine hk _ _ ⟨?_, H⟩
     try rw [c_1] at hE
     try rw [c_1]
     exact hE.sel [0, 1, 5, 6, 7, 8, 22] (by kernel_rfl)
   rintro a w ⟨hE, H⟩
   refine Runs.cond hE rfl (fun c => ?_) (fun c => ?_)
   ·replace hm := cond_t c hm
    refine Runs.skip ?_
    refine Runs.seq ?_
    refine Runs.block ?_
    refine Runs.sr ?_
    replace H := thicketlaw11_world.open H
    refine WR.seg hE 5 [.pointer (some ⟨al_w_.a__p, 0, none⟩)] [0, 1, 5, 6, 7, 8, 28, 29] (Lo := [(0, .pointer (some ⟨p_w_, 0, none⟩)), (1, .int .i64 1), (5, .int .i64 n), (6, .int .i64 all), (7, .int .i64 last), (8, .int .i64 i), (28, .pointer (some ⟨al_w_.a__p, 0, none⟩)), (29, .int .i64 n)]) (obs := [.cell ⟨p_w_, 0, none⟩ (.pointer (some ⟨al_w_.a__p, 0, none⟩))]) rfl (by kernel_rfl) ⟨H.cell 0 rfl rfl, trivial⟩ fun a hE => ?_
    obtain ⟨t_, et_, hm⟩ := bind_some hm
    refine WR.eff hE rfl rfl rfl rfl (OpTo.fn hE rfl rfl Tryz.call65 (arena_Arena_Get_ok et_ H.t1)) ?_
    rintro _ w ⟨rfl, hf1, hf, H⟩ a hE
    refine WR.e0 hE [(9, .int .i64 t_.1)] fun a hE => ?_
    refine Runs.sr ?_
    refine WR.d0 hE 4 [(31, .pointer (some ⟨p_w_, 0, none⟩)), (32, .int .i64 1), (33, .int .i64 n), (34, .agg #[.int .i64 0, .int .i64 0, .int .i64 0])] fun a hE => ?_
    replace H := thicketlaw11_world.shut al_w_ (thicketlaw11_world.mk t_.2 m_.root0 m_.root1 m_.has0 m_.has1 m_.next m_.spent m_.most) H.t3.t3.t2.t3
    obtain ⟨t_1, et_1, hm⟩ := bind_some hm
    have hC_ := thicketlaw11_world_tree_ok et_1 H
    try dsimp only at hC_
    refine WR.eff hE rfl rfl rfl rfl (OpTo.fn hE rfl rfl Tryz.call119 hC_) ?_
    rintro _ w ⟨rfl, H⟩ a hE
    refine WR.e0 hE [(10, .int .i64 t_1.1)] fun a hE => ?_
    refine Runs.seq ?_
    refine Runs.seq ?_
    refine Runs.join (fun a w => EnvOk 75 a [(0, .pointer (some ⟨p_w_, 0, none⟩)), (1, .int .i64 1), (5, .int .i64 n), (6, .int .i64 all), (8, .int .i64 i), (9, .int .i64 t_.1), (10, .int .i64 t_1.1), (51, .bool (((t_1.1 == 0) || (decide (t_.1 < last))) || ((t_.1 == last) && (decide (i > 1)))))] ∧ St w0 (thicketlaw11_world.R p_w_ al_w_ t_1.2 :: As) w) (fun hk => ?_) ?_
    ·clear hm
     refine Runs.region ?_
     refine WR.d0 hE 3 [(38, .bool (t_1.1 == 0))] fun a hE => ?_
     rcases Bool.eq_false_or_eq_true (t_1.1 == 0) with c | c
     ·replace hE := hE.dec 38 c (by kernel_rfl)
      have c_2 := c
      refine WR.e0 hE [(51, .bool true)] fun a hE => ?_
      refine hk _ _ ⟨?_, H⟩
      try rw [c_2] at hE
      try rw [c_2]
      exact hE.sel [0, 1, 5, 6, 8, 9, 10, 51] (by kernel_rfl)
     ·replace hE := hE.dec 38 c (by kernel_rfl)
      have c_3 := c
      refine WR.d0 hE 8 [(43, .bool (decide (t_.1 < last)))] fun a hE => ?_
      rcases Bool.eq_false_or_eq_true (decide (t_.1 < last)) with c | c
      ·replace hE := hE.dec 43 c (by kernel_rfl)
       have c_4 := c
       refine WR.e0 hE [(51, .bool true)] fun a hE => ?_
       refine hk _ _ ⟨?_, H⟩
       try rw [c_3] at hE
       try rw [c_3]
       try rw [c_4] at hE
       try rw [c_4]
       exact hE.sel [0, 1, 5, 6, 8, 9, 10, 51] (by kernel_rfl)
      ·replace hE := hE.dec 43 c (by kernel_rfl)
       have c_5 := c
       refine WR.d0 hE 12 [(43, .bool false), (47, .bool (t_.1 == last))] fun a hE => ?_
       rcases Bool.eq_false_or_eq_true (t_.1 == last) with c | c
       ·replace hE := hE.dec 47 c (by kernel_rfl)
        have c_6 := c
        refine WR.e0 hE [(51, .bool (decide (i > 1)))] fun a hE => ?_
        refine hk _ _ ⟨?_, H⟩
        try rw [c_3] at hE
        try rw [c_3]
        try rw [c_5] at hE
        try rw [c_5]
        try rw [c_6] at hE
        try rw [c_6]
        exact hE.sel [0, 1, 5, 6, 8, 9, 10, 51] (by kernel_rfl)
       ·replace hE := hE.dec 47 c (by kernel_rfl)
        have c_7 := c
        refine WR.e0 hE [(51, .bool false)] fun a hE => ?_
        refine hk _ _ ⟨?_, H⟩
        try rw [c_3] at hE
        try rw [c_3]
        try rw [c_5] at hE
        try rw [c_5]
        try rw [c_7] at hE
        try rw [c_7]
        exact hE.sel [0, 1, 5, 6, 8, 9, 10, 51] (by kernel_rfl)
    rintro a w ⟨hE, H⟩
    refine Runs.cond hE rfl (fun c => ?_) (fun c => ?_)
    ·replace hm := cond_t c hm
     refine Runs.sr ?_
     refine WR.seg hE 1 [] [4] (Lo := [(4, .bool false)]) (obs := []) rfl (by kernel_rfl) trivial fun a hE => ?_
     refine WR.done rfl ?_
     refine Runs.ret hE Tryz.func85 rfl rfl ?_
     cases hm
     dsimp only at hR; cases hR
     exact ⟨rfl, H⟩
    ·replace hm := cond_f c hm
     refine Runs.skip ?_
     refine Runs.sr ?_
     refine WR.seg hE 6 [] [0, 1, 5, 6, 7, 8] (Lo := [(0, .pointer (some ⟨p_w_, 0, none⟩)), (1, .int .i64 1), (5, .int .i64 n), (6, .int .i64 (w64 (all + t_1.1))), (7, .int .i64 t_.1), (8, .int .i64 i)]) (obs := []) rfl (by kernel_rfl) trivial fun a hE => ?_
     refine WR.done rfl ?_
     refine Runs.region ?_
     replace H := thicketlaw11_world.open H
     refine WR.d hE 5 [.pointer (some ⟨al_w_.a__p, 0, none⟩)] [(59, .pointer (some ⟨al_w_.a__p, 0, none⟩)), (60, .int .i64 n)] (obs := [.cell ⟨p_w_, 0, none⟩ (.pointer (some ⟨al_w_.a__p, 0, none⟩))]) ⟨H.cell 0 rfl rfl, trivial⟩ fun a hE => ?_
     obtain ⟨t_2, et_2, hm⟩ := bind_some hm
     refine WR.eff hE rfl rfl rfl rfl (OpTo.fn hE rfl rfl Tryz.call78 (arena_Arena_Cell_ok et_2 H.t1)) ?_
     rintro _ w ⟨rfl, H⟩ a hE
     refine WR.e0 hE [(5, .int .i64 t_2.1)] fun a hE => ?_
     refine Runs.inBlock ?_
     refine Runs.region ?_
     refine WR.e0 hE [(8, .int .i64 (w64 (i + 1)))] fun a hE => ?_
     replace H := thicketlaw11_world.shut al_w_ (thicketlaw11_world.mk t_2.2 t_1.2.root0 t_1.2.root1 t_1.2.has0 t_1.2.has1 t_1.2.next t_1.2.spent t_1.2.most) H.t3.t3.t2.t3
     exact ih m (Nat.lt_succ_self m) _ _ ⟨t_2.1, w64 (all + t_1.1), t_.1, w64 (i + 1), thicketlaw11_world.mk t_2.2 t_1.2.root0 t_1.2.root1 t_1.2.has0 t_1.2.has1 t_1.2.next t_1.2.spent t_1.2.most, hE.sel [0, 1, 5, 6, 7, 8] (by kernel_rfl), H, hm⟩
   ·replace hm := cond_f c hm
    refine Runs.exit rfl ?_
    cases hm
    exact hk _ _ ⟨_, rfl, hE.sel [0, 1, 5, 6] (by kernel_rfl), H⟩
 rintro a w ⟨s1, rfl, hE, H⟩
 replace hm := hR; dsimp only at hm
 refine Runs.seq ?_
 obtain ⟨s2, es2, hm⟩ := bind_some hm
 refine Runs.join (fun a w => EnvOk 75 a [(4, .bool s2)] ∧ St w0 (thicketlaw11_world.R p_w_ al_w_ s1.2.2 :: As) w) (fun hk => ?_) ?_
 ·replace hm := es2; clear es2
  refine Runs.region ?_
  refine WR.seg hE 3 [] [0, 1, 6, 64] (Lo := [(0, .pointer (some ⟨p_w_, 0, none⟩)), (1, .int .i64 1), (6, .int .i64 s1.2.1), (64, .bool (s1.1 == (-1)))]) (obs := []) rfl (by kernel_rfl) trivial fun a hE => ?_
  rcases Bool.eq_false_or_eq_true (s1.1 == (-1)) with c | c
  ·replace hE := hE.dec 64 c (by kernel_rfl)
   replace hm := cond_t c hm
   have c_8 := c
   replace H := thicketlaw11_world.open H
   refine WR.e hE [.slice al_w_.has1_b s1.2.2.has1.length al_w_.has1_c] [(4, .bool (s1.2.1 == (s1.2.2.has1.length : Int)))] (obs := [.p (0 ≤ (1 : Int) ∧ (1 : Int) < ((2 : Nat) : Int)), .cell ⟨p_w_, 4, none⟩ (.slice al_w_.has1_b s1.2.2.has1.length al_w_.has1_c)]) ⟨⟨by decide, by decide⟩, H.cell 0 rfl rfl, trivial⟩ fun a hE => ?_
   replace H := thicketlaw11_world.shut al_w_ (s1.2.2) H.t3.t3.t3.t3
   cases hm
   exact hk _ _ ⟨hE.sel [4] (by kernel_rfl), H⟩
  ·replace hE := hE.dec 64 c (by kernel_rfl)
   replace hm := cond_f c hm
   have c_9 := c
   refine WR.e0 hE [(4, .bool false)] fun a hE => ?_
   cases hm
   exact hk _ _ ⟨hE.sel [4] (by kernel_rfl), H⟩
 rintro a w ⟨hE, H⟩
 refine Runs.ret hE Tryz.func85 rfl rfl ?_
 cases hm
 exact ⟨rfl, H⟩

theorem thicketlaw11_world_shape_ok {w0 w : World} {As : List HP} {k : Nat} {p_w_ : Nat} {al_w_ : thicketlaw11_world.A} {w_ : thicketlaw11_world} {h_ : Int} {t : Bool × thicketlaw11_world}  (hm : thicketlaw11_world_shape k w_ h_ = some t) (H : St w0 (thicketlaw11_world.R p_w_ al_w_ w_ :: As) w) :
    CallsR Tryz.prog 85 #[.pointer (some ⟨p_w_, 0, none⟩), .int .i64 h_] w fun v w' => v = .bool t.1 ∧ St w0 (thicketlaw11_world.R p_w_ al_w_ t.2 :: As) w' := by
  rw [thicketlaw11_world_shape] at hm
  by_cases h0 : h_ = 0
  · subst h0; simp only [if_pos] at hm
    refine (thicketlaw11_world_shape_at0_ok hm H).mono ?_
    rintro v w' ⟨hv, H⟩; exact ⟨hv, H⟩
  rw [if_neg h0] at hm
  by_cases h1 : h_ = 1
  · subst h1; simp only [if_pos] at hm
    refine (thicketlaw11_world_shape_at1_ok hm H).mono ?_
    rintro v w' ⟨hv, H⟩; exact ⟨hv, H⟩
  rw [if_neg h1] at hm
  cases hm

end Go.Proofs.YtmidmkinclmbdaaGreat
