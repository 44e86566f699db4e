import Derived.Test.YtgchbhnchhiehaaGreatTp1
set_option linter.unusedVariables false
set_option linter.unusedSimpArgs false
set_option maxRecDepth 10000
set_option maxHeartbeats 4000000
namespace Go.Proofs.YtgchbhnchhiehaaGreat
open Go.Th

theorem skew_without_ok {w0 w : World} {As : List HP} {k : Nat} {p_a_ : Nat} {al_a_ : arena_Arena.A} {a_ : arena_Arena} {sb_l : Option Addr} {sc_l : Nat} {l : List Int} {n : Int} {t : Int × Int × arena_Arena}  (hm : skew_without k a_ l n = some t) (H : St w0 (arena_Arena.R p_a_ al_a_ a_ :: Sl 3 ecI 1 sb_l sc_l l :: As) w) :
    CallsR Tryz.prog 210 #[.pointer (some ⟨p_a_, 0, none⟩), .slice sb_l l.length sc_l, .int .i64 n] w fun v w' => ∃ (z_a__free_b : Option Addr), ∃ (z_a__free_c : Nat), v = .tuple #[.int .i64 t.1, .int .i64 t.2.1] ∧ St w0 (arena_Arena.R p_a_ (arena_Arena.A.mk al_a_.l_b al_a_.l_c z_a__free_b z_a__free_c al_a_.m__p) t.2.2 :: As) w' := by
 rw [skew_without] at hm
 refine enter (args := [.pointer (some ⟨p_a_, 0, none⟩), .slice sb_l l.length sc_l, .int .i64 n]) Tryz.func210 rfl rfl rfl fun a hE => ?_
 refine Runs.sr ?_
 refine WR.eff hE rfl rfl rfl rfl (OpTo.new hE H [] (.cells #[.int .i64 n] 3 (0, 0)) (fun r => .pointer (some ⟨r, 0, none⟩)) (obs := []) rfl (fun _ => by kernel_rfl) trivial) ?_
 rintro _ w ⟨r, rfl, H⟩ a hE
 refine WR.seg hE 3 [] [0, 1, 5] (Lo := [(0, .pointer (some ⟨p_a_, 0, none⟩)), (1, .slice sb_l l.length sc_l), (5, .pointer (some ⟨r, 0, none⟩))]) (obs := []) rfl (by kernel_rfl) trivial fun a hE => ?_
 refine WR.done rfl ?_
 refine Runs.sr ?_
 refine WR.d0 hE 2 [(16, .slice sb_l l.length sc_l), (17, .func (.func 244) #[] #[.pointer (some ⟨r, 0, none⟩)])] fun a hE => ?_
 obtain ⟨t_, et_, hm⟩ := bind_some hm
 refine WR.eff hE rfl rfl rfl rfl (OpTo.fn hE rfl rfl Tryz.call241 (slices_DeleteFunc_int_g244_ok et_ H.t2)) ?_
 rintro _ w ⟨sb, sc, rfl, H⟩ a hE
 refine WR.e0 hE [(8, .slice sb t_.length sc)] fun a hE => ?_
 refine Runs.sr ?_
 refine WR.e0 hE [(9, .slice none 0 0)] fun a hE => ?_
 refine Runs.seq ?_
 refine Runs.sr ?_
 refine WR.d hE 2 [.int .i64 n] [(19, .pointer (some ⟨p_a_, 0, none⟩)), (20, .int .i64 n)] (obs := [.cell ⟨r, 0, none⟩ (.int .i64 n)]) ⟨H.cell 1 rfl rfl, trivial⟩ fun a hE => ?_
 obtain ⟨t_1, et_1, hm⟩ := bind_some hm
 refine WR.eff hE rfl rfl rfl rfl (OpTo.fn hE rfl rfl Tryz.call243 (trees_Kids_ok et_1 H.t2)) ?_
 rintro _ w ⟨sb1, sc1, rfl, H⟩ a hE
 refine WR.e0 hE [(22, .int .i64 (t_1.1.length : Int)), (23, .int .i64 0)] fun a hE => ?_
 obtain ⟨s, es, hm⟩ := bind_some hm
 refine Runs.join (fun a w => ∃ (sb4 : Option Addr), ∃ (sc4 : Nat), ∃ (sb5 : Option Addr), ∃ (sc5 : Nat), EnvOk 59 a [(0, .pointer (some ⟨p_a_, 0, none⟩)), (5, .pointer (some ⟨r, 0, none⟩)), (8, .slice sb4 s.1.length sc4), (9, .slice sb5 s.2.1.length sc5)] ∧ St w0 (Sl 3 ecI 1 sb4 sc4 s.1 :: Sl 3 ecI 1 sb5 sc5 s.2.1 :: arena_Arena.R p_a_ al_a_ s.2.2 :: Blk r 3 [.int .i64 n] :: As) w) (fun hk => ?_) ?_
 ·replace hm := es; clear es
  replace H := H.slNil 3 ecI 1
  refine Runs.block ?_
  refine Runs.loop (fun m a w => ∃ (rest : List Int), ∃ (alone : List Int), ∃ (x : Int), ∃ (m_ : arena_Arena), ∃ (sb6 : Option Addr), ∃ (sc6 : Nat), ∃ (sb7 : Option Addr), ∃ (sc7 : Nat), EnvOk 59 a [(0, .pointer (some ⟨p_a_, 0, none⟩)), (5, .pointer (some ⟨r, 0, none⟩)), (8, .slice sb6 rest.length sc6), (9, .slice sb7 alone.length sc7), (21, .slice sb1 t_1.1.length sc1), (22, .int .i64 (t_1.1.length : Int)), (23, .int .i64 x)] ∧ St w0 (Sl 3 ecI 1 sb6 sc6 rest :: Sl 3 ecI 1 sb7 sc7 alone :: Sl 3 ecI 1 sb1 sc1 t_1.1 :: arena_Arena.R p_a_ al_a_ m_ :: Blk r 3 [.int .i64 n] :: As) w ∧ skew_without_l0 (t_1.1.length : Int) t_1.1 n m rest alone x m_ = some s) k ⟨t_, ([] : List Int), 0, t_1.2, sb, sc, none, 0, hE.sel [0, 5, 8, 9, 21, 22, 23] (by kernel_rfl), H.t4.t3.t3.t3.t4, hm⟩ ?_
  rintro m ih a w ⟨rest, alone, x, m_, sb6, sc6, sb7, sc7, hE, H, hm⟩
  cases m with
  | zero => simp [skew_without_l0] at hm
  | succ m =>
   rw [skew_without_l0] at hm
   refine Runs.sr ?_
   refine WR.seg hE 1 [] [0, 5, 8, 9, 21, 22, 23, 24] (Lo := [(0, .pointer (some ⟨p_a_, 0, none⟩)), (5, .pointer (some ⟨r, 0, none⟩)), (8, .slice sb6 rest.length sc6), (9, .slice sb7 alone.length sc7), (21, .slice sb1 t_1.1.length sc1), (22, .int .i64 (t_1.1.length : Int)), (23, .int .i64 x), (24, .bool (decide (x < (t_1.1.length : Int))))]) (obs := []) rfl (by kernel_rfl) trivial fun a hE => ?_
   refine WR.done rfl ?_
   refine Runs.seq ?_
   refine Runs.cond hE rfl (fun c => ?_) (fun c => ?_)
   ·replace hm := cond_t c hm
    refine Runs.skip ?_
    refine Runs.seq ?_
    obtain ⟨s1, es1, hm⟩ := bind_some hm
    refine Runs.join (fun a w => ∃ (sb8 : Option Addr), ∃ (sc8 : Nat), ∃ (sb9 : Option Addr), ∃ (sc9 : Nat), EnvOk 59 a [(0, .pointer (some ⟨p_a_, 0, none⟩)), (5, .pointer (some ⟨r, 0, none⟩)), (8, .slice sb8 s1.1.length sc8), (9, .slice sb9 s1.2.1.length sc9), (21, .slice sb1 t_1.1.length sc1), (22, .int .i64 (t_1.1.length : Int)), (23, .int .i64 x)] ∧ St w0 (Sl 3 ecI 1 sb8 sc8 s1.1 :: Sl 3 ecI 1 sb9 sc9 s1.2.1 :: Sl 3 ecI 1 sb1 sc1 t_1.1 :: arena_Arena.R p_a_ al_a_ s1.2.2 :: Blk r 3 [.int .i64 n] :: As) w) (fun hk => ?_) ?_
    ·replace hm := es1; clear es1
     refine Runs.block ?_
     refine Runs.sr ?_
     obtain ⟨x2, ex2, hm⟩ := bind_some hm
     obtain ⟨b, o, hs, hb⟩ := SlRd.base (sl_rd 3 ecI 1 _ _ _) ecI_ok H 2 rfl ex2
     refine WR.e hE [.pointer (some ⟨b, o, none⟩), .int .i64 x2] [(11, .int .i64 x2)] (obs := [.p ((sb1 : Option Addr) = some ⟨b, o, none⟩), .p (0 ≤ (x : Int) ∧ (x : Int) < ((t_1.1.length : Nat) : Int)), .cell ⟨b, o + (Int.toNat x) * 1, none⟩ (.int .i64 x2)]) ⟨hs, hb, SlRd.cells (sl_rd 3 ecI 1 _ _ _) ecI_ok H 2 rfl hs ex2 0 _ rfl, trivial⟩ fun a hE => ?_
     refine Runs.sr ?_
     refine WR.d0 hE 2 [(27, .pointer (some ⟨p_a_, 0, none⟩)), (28, .int .i64 x2)] fun a hE => ?_
     obtain ⟨t_2, et_2, hm⟩ := bind_some hm
     refine WR.eff hE rfl rfl rfl rfl (OpTo.fn hE rfl rfl Tryz.call161 (arena_Arena_Get_ok et_2 H.t3)) ?_
     rintro _ w ⟨rfl, H⟩ a hE
     refine WR.e0 hE [(30, .bool (t_2.1 == 0))] fun a hE => ?_
     refine Runs.cond hE rfl (fun c => ?_) (fun c => ?_)
     ·replace hm := cond_t c hm
      refine Runs.region ?_
      refine WR.d0 hE 2 [(31, .slice sb7 alone.length sc7), (32, .int .i64 x2)] fun a hE => ?_
      refine WR.eff hE rfl rfl rfl rfl (OpTo.buildSl (T := 3) hE H ecI_ok ([x2] : List Int) rfl (fun _ => by kernel_rfl) rfl rfl rfl) ?_
      rintro _ w ⟨r1, rfl, H⟩ a hE
      obtain ⟨l2, el2, hm⟩ := bind_some hm
      replace H := H.t3
      refine WR.eff hE rfl rfl rfl rfl (OpTo.appendM el2 hE H ecI_ok rfl rfl rfl rfl rfl rfl rfl rfl rfl rfl (SlRd.all (sl_rd 3 ecI 1 _ _ _) ecI_ok H 1 rfl) rfl) ?_
      rintro _ w ⟨sb10, sc10, rfl, H⟩ a hE
      refine WR.e0 hE [(9, .slice sb10 l2.length sc10)] fun a hE => ?_
      refine Runs.inBlock ?_
      cases hm
      exact hk _ _ ⟨sb6, sc6, sb10, sc10, hE.sel [0, 5, 8, 9, 21, 22, 23] (by kernel_rfl), H.x1.t4.t2.t4.t3.t4⟩
     ·replace hm := cond_f c hm
      refine Runs.region ?_
      refine WR.d0 hE 2 [(35, .slice sb6 rest.length sc6), (36, .int .i64 x2)] fun a hE => ?_
      refine WR.eff hE rfl rfl rfl rfl (OpTo.buildSl (T := 3) hE H ecI_ok ([x2] : List Int) rfl (fun _ => by kernel_rfl) rfl rfl rfl) ?_
      rintro _ w ⟨r2, rfl, H⟩ a hE
      obtain ⟨l3, el3, hm⟩ := bind_some hm
      replace H := H.t2
      refine WR.eff hE rfl rfl rfl rfl (OpTo.appendM el3 hE H ecI_ok rfl rfl rfl rfl rfl rfl rfl rfl rfl rfl (SlRd.all (sl_rd 3 ecI 1 _ _ _) ecI_ok H 1 rfl) rfl) ?_
      rintro _ w ⟨sb11, sc11, rfl, H⟩ a hE
      refine WR.e0 hE [(8, .slice sb11 l3.length sc11)] fun a hE => ?_
      refine Runs.inBlock ?_
      cases hm
      exact hk _ _ ⟨sb11, sc11, sb7, sc7, hE.sel [0, 5, 8, 9, 21, 22, 23] (by kernel_rfl), H.x1.t4.t2.t4.t4.t4⟩
    rintro a w ⟨sb8, sc8, sb9, sc9, hE, H⟩
    refine Runs.region ?_
    refine WR.seg hE 2 [] [0, 5, 8, 9, 21, 22, 23] (Lo := [(0, .pointer (some ⟨p_a_, 0, none⟩)), (5, .pointer (some ⟨r, 0, none⟩)), (8, .slice sb8 s1.1.length sc8), (9, .slice sb9 s1.2.1.length sc9), (21, .slice sb1 t_1.1.length sc1), (22, .int .i64 (t_1.1.length : Int)), (23, .int .i64 (w64 (x + 1)))]) (obs := []) rfl (by kernel_rfl) trivial fun a hE => ?_
    refine WR.done rfl ?_
    exact ih m (Nat.lt_succ_self m) _ _ ⟨s1.1, s1.2.1, w64 (x + 1), s1.2.2, sb8, sc8, sb9, sc9, hE.sel [0, 5, 8, 9, 21, 22, 23] (by kernel_rfl), H.t4.t4.t4.t4.t4, hm⟩
   ·replace hm := cond_f c hm
    refine Runs.exit rfl ?_
    cases hm
    exact hk _ _ ⟨sb6, sc6, sb7, sc7, hE.sel [0, 5, 8, 9] (by kernel_rfl), H.x2.t3.t3.t3.t3⟩
 rintro a w ⟨sb4, sc4, sb5, sc5, hE, H⟩
 refine Runs.sr ?_
 refine WR.seg hE 2 [.int .i64 n] [0, 8, 9, 40, 41] (Lo := [(0, .pointer (some ⟨p_a_, 0, none⟩)), (8, .slice sb4 s.1.length sc4), (9, .slice sb5 s.2.1.length sc5), (40, .pointer (some ⟨p_a_, 0, none⟩)), (41, .int .i64 n)]) (obs := [.cell ⟨r, 0, none⟩ (.int .i64 n)]) rfl (by kernel_rfl) ⟨H.cell 3 rfl rfl, trivial⟩ fun a hE => ?_
 obtain ⟨t_3, et_3, hm⟩ := bind_some hm
 refine WR.eff hE rfl rfl rfl rfl (OpTo.fn hE rfl rfl Tryz.call208 (node_End_ok et_3 H.t2)) ?_
 rintro _ w ⟨z, z1, rfl, H⟩ a hE
 refine WR.e0 hE [(12, .int .i64 t_3.1)] fun a hE => ?_
 refine Runs.sr ?_
 refine WR.d0 hE 2 [(43, .pointer (some ⟨p_a_, 0, none⟩)), (44, .slice sb4 s.1.length sc4)] fun a hE => ?_
 obtain ⟨t_4, et_4, hm⟩ := bind_some hm
 replace H := H.t1.t1
 refine WR.eff hE rfl rfl rfl rfl (OpTo.fn hE rfl rfl Tryz.call197 (trees_Carry_ok (hX_l := (sl_rd 3 ecI 1 _ _ _)) (hC_l := (H.slCap 1 rfl).1) et_4 H)) ?_
 rintro _ w ⟨rfl, H⟩ a hE
 refine WR.e0 hE [(13, .int .i64 t_4.1)] fun a hE => ?_
 refine Runs.seq ?_
 refine Runs.sr ?_
 refine WR.e0 hE [(46, .slice sb5 s.2.1.length sc5), (47, .int .i64 (s.2.1.length : Int)), (48, .int .i64 0)] fun a hE => ?_
 obtain ⟨s2, es2, hm⟩ := bind_some hm
 refine Runs.join (fun a w => EnvOk 59 a [(12, .int .i64 t_3.1), (13, .int .i64 s2.1)] ∧ St w0 (arena_Arena.R p_a_ (arena_Arena.A.mk al_a_.l_b al_a_.l_c z z1 al_a_.m__p) s2.2 :: As) w) (fun hk => ?_) ?_
 ·replace hm := es2; clear es2
  refine Runs.block ?_
  refine Runs.loop (fun m a w => ∃ (r3 : Int), ∃ (x3 : Int), ∃ (m_1 : arena_Arena), EnvOk 59 a [(0, .pointer (some ⟨p_a_, 0, none⟩)), (12, .int .i64 t_3.1), (13, .int .i64 r3), (46, .slice sb5 s.2.1.length sc5), (47, .int .i64 (s.2.1.length : Int)), (48, .int .i64 x3)] ∧ St w0 (arena_Arena.R p_a_ (arena_Arena.A.mk al_a_.l_b al_a_.l_c z z1 al_a_.m__p) m_1 :: Sl 3 ecI 1 sb5 sc5 s.2.1 :: As) w ∧ skew_without_l1 t_3.1 (s.2.1.length : Int) s.2.1 m r3 x3 m_1 = some s2) k ⟨t_4.1, 0, t_4.2, hE.sel [0, 12, 13, 46, 47, 48] (by kernel_rfl), H.x3.x1.t1.t1, hm⟩ ?_
  rintro m ih a w ⟨r3, x3, m_1, hE, H, hm⟩
  cases m with
  | zero => simp [skew_without_l1] at hm
  | succ m =>
   rw [skew_without_l1] at hm
   refine Runs.sr ?_
   refine WR.seg hE 1 [] [0, 12, 13, 46, 47, 48, 49] (Lo := [(0, .pointer (some ⟨p_a_, 0, none⟩)), (12, .int .i64 t_3.1), (13, .int .i64 r3), (46, .slice sb5 s.2.1.length sc5), (47, .int .i64 (s.2.1.length : Int)), (48, .int .i64 x3), (49, .bool (decide (x3 < (s.2.1.length : Int))))]) (obs := []) rfl (by kernel_rfl) trivial fun a hE => ?_
   refine WR.done rfl ?_
   refine Runs.seq ?_
   refine Runs.cond hE rfl (fun c => ?_) (fun c => ?_)
   ·replace hm := cond_t c hm
    refine Runs.skip ?_
    refine Runs.seq ?_
    refine Runs.block ?_
    refine Runs.sr ?_
    obtain ⟨x5, ex5, hm⟩ := bind_some hm
    obtain ⟨b1, o1, hs1, hb1⟩ := SlRd.base (sl_rd 3 ecI 1 _ _ _) ecI_ok H 1 rfl ex5
    refine WR.e hE [.pointer (some ⟨b1, o1, none⟩), .int .i64 x5] [(15, .int .i64 x5)] (obs := [.p ((sb5 : Option Addr) = some ⟨b1, o1, none⟩), .p (0 ≤ (x3 : Int) ∧ (x3 : Int) < ((s.2.1.length : Nat) : Int)), .cell ⟨b1, o1 + (Int.toNat x3) * 1, none⟩ (.int .i64 x5)]) ⟨hs1, hb1, SlRd.cells (sl_rd 3 ecI 1 _ _ _) ecI_ok H 1 rfl hs1 ex5 0 _ rfl, trivial⟩ fun a hE => ?_
    refine Runs.region ?_
    refine WR.d0 hE 3 [(52, .pointer (some ⟨p_a_, 0, none⟩)), (53, .int .i64 r3), (54, .int .i64 x5)] fun a hE => ?_
    obtain ⟨t_5, et_5, hm⟩ := bind_some hm
    refine WR.eff hE rfl rfl rfl rfl (OpTo.fn hE rfl rfl Tryz.call199 (skew_single_ok et_5 H)) ?_
    rintro _ w ⟨rfl, H⟩ a hE
    refine WR.e0 hE [(13, .int .i64 t_5.1)] fun a hE => ?_
    refine Runs.inBlock ?_
    refine Runs.region ?_
    refine WR.e0 hE [(48, .int .i64 (w64 (x3 + 1)))] fun a hE => ?_
    exact ih m (Nat.lt_succ_self m) _ _ ⟨t_5.1, w64 (x3 + 1), t_5.2, hE.sel [0, 12, 13, 46, 47, 48] (by kernel_rfl), H.t1.t1, hm⟩
   ·replace hm := cond_f c hm
    refine Runs.exit rfl ?_
    cases hm
    exact hk _ _ ⟨hE.sel [12, 13] (by kernel_rfl), H.x1⟩
 rintro a w ⟨hE, H⟩
 refine Runs.sr ?_
 refine WR.seg hE 4 [] [6, 7] (Lo := [(6, .int .i64 s2.1), (7, .int .i64 t_3.1)]) (obs := []) rfl (by kernel_rfl) trivial fun a hE => ?_
 refine WR.done rfl ?_
 refine Runs.ret hE Tryz.func210 rfl rfl ?_
 cases hm
 exact ⟨z, z1, rfl, H⟩

noncomputable abbrev C210p : List (PK El) := [pO arena_Arena.D, pW 1 3, pI .i64]
noncomputable def C210 (k : Nat) : Con El := mkCon 210 C210p (fun i_ => skew_without k i_.1.2.2 i_.2.1.2.2 i_.2.2.1) 1 1 (fun i_ t ns_ as_ => .tuple #[.int .i64 t.1, .int .i64 t.2.1]) (fun i_ t ns_ as_ => arena_Arena.D.flat i_.1.1 (arena_Arena.A.mk i_.1.2.1.l_b i_.1.2.1.l_c (na as_ 0) (nn ns_ 0) i_.1.2.1.m__p) t.2.2)

theorem S210 (k : Nat) : (C210 k).Sound Tryz.prog := fun i_ t hm w0 w F hr H => by
  obtain ⟨⟨p0, l0, x0⟩, ⟨b1, c1, x1⟩, x2, _⟩ := i_
  have H2 : St w0 (arena_Arena.R p0 l0 x0 :: Sl 3 ecI 1 b1 c1 x1 :: F) w := by
    refine (fs0 fun As => arena_Arena.D_st).2 ?_
    exact H
  refine (skew_without_ok (show skew_without k x0 x1 x2 = some t from hm) H2).mono ?_
  rintro v w' ⟨e0, e1, hv, H⟩
  refine ⟨[e1], [e0], rfl, rfl, hv, ?_, fun _ h => by cases h⟩
  replace H := (fs0 fun As => arena_Arena.D_st).1 H
  exact H

noncomputable def K210 (k : Nat) : SCon El Tryz.prog := ⟨C210 k, S210 k, Tryz.call210⟩

noncomputable abbrev C155p : List (PK El) := [pO arena_Arena.D, pI .i64]
noncomputable def C155 (k : Nat) : Con El := mkCon 155 C155p (fun i_ => skew_Pop k i_.1.2.2 i_.2.1) 1 1 (fun i_ t ns_ as_ => .tuple #[.int .i64 t.1, .int .i64 t.2.1]) (fun i_ t ns_ as_ => arena_Arena.D.flat i_.1.1 (arena_Arena.A.mk i_.1.2.1.l_b i_.1.2.1.l_c (na as_ 0) (nn ns_ 0) i_.1.2.1.m__p) t.2.2)

theorem S155 (k : Nat) : (C155 k).Sound Tryz.prog :=
  fn_sound mixed (C155 k) (n := 26) (rs := rsOf Tryz.prog 155) [] [0, 1, 2, 3] (gj (g2 (gI 4) (g2 (gI 5) (gO arena_Arena.D [0, 1, 2, 3]))) [nA arena_Arena.D [0, 1, 2, 3] (fun al => ([al.free_c], [al.free_b]))]) (fun i => (.s (.seg 2 []) (.join (Bool) 0 0 (gj (gB 14) []) (fun st_ s_ ns_ as_ => ([(14, .bool s_)] ++ kp [0, 1] st_, ka [0, 1, 2, 3] st_)) (.s (.seg 5 []) (.s (.call K206 [.K 0, .K 1, .K 2, .K 3] [0, 1, 2, 3]) (.s (.seg 2 []) .leaf))) (.cond (.s (.seg 2 []) .ret) (.s (.seg 2 []) (.s (.call (K198 k) [.K 0, .K 1, .K 2, .K 3] [4, 0, 1, 2, 3]) (.s (.seg 1 []) (.s (.seg 4 []) (.s (.call (K205 k) [.K 0, .K 1, .K 2, .K 3, .O 4] [0, 1, 2, 3]) (.s (.call (K210 k) [.K 0, .K 1, .K 2, .K 3, .K 4] [0, 1, 2, 3]) (.s (.seg 4 []) .ret))))))))))) Tryz.func155 rfl rfl (by kernel_rfl) (fun _ => rfl) (fun i => by kernel_rfl) (fun i s => by kernel_rfl)

noncomputable def K155 (k : Nat) : SCon El Tryz.prog := ⟨C155 k, S155 k, Tryz.call155⟩

noncomputable abbrev C156p : List (PK El) := [pO arena_Arena.D, pI .i64]
noncomputable def C156 : Con El := mkCon 156 C156p (fun i_ => fib_Pop i_.1.2.2 i_.2.1) 0 0 (fun i_ t ns_ as_ => .tuple #[.int .i64 t.1, .int .i64 t.2]) (fun i_ t ns_ as_ => arena_Arena.D.flat i_.1.1 i_.1.2.1 i_.1.2.2)

theorem S156 : (C156).Sound Tryz.prog := none_sound _ fun _ => rfl

noncomputable def K156 : SCon El Tryz.prog := ⟨C156, S156, Tryz.call156⟩

noncomputable abbrev C157p : List (PK El) := [pO arena_Arena.D, pI .i64]
noncomputable def C157 : Con El := mkCon 157 C157p (fun i_ => pairing_Pop i_.1.2.2 i_.2.1) 0 0 (fun i_ t ns_ as_ => .tuple #[.int .i64 t.1, .int .i64 t.2]) (fun i_ t ns_ as_ => arena_Arena.D.flat i_.1.1 i_.1.2.1 i_.1.2.2)

theorem S157 : (C157).Sound Tryz.prog := none_sound _ fun _ => rfl

noncomputable def K157 : SCon El Tryz.prog := ⟨C157, S157, Tryz.call157⟩

noncomputable abbrev C115p : List (PK El) := [pI .i64, pO arena_Arena.D, pI .i64]
noncomputable def C115 (k : Nat) : Con El := mkCon 115 C115p (fun i_ => kind_Pop k i_.1 i_.2.1.2.2 i_.2.2.1) 1 1 (fun i_ t ns_ as_ => .tuple #[.int .i64 t.1, .int .i64 t.2.1]) (fun i_ t ns_ as_ => arena_Arena.D.flat i_.2.1.1 (arena_Arena.A.mk i_.2.1.2.1.l_b i_.2.1.2.1.l_c (na as_ 0) (nn ns_ 0) i_.2.1.2.1.m__p) t.2.2)

theorem S115 (k : Nat) : (C115 k).Sound Tryz.prog :=
  fn_sound mixed (C115 k) (n := 44) (rs := rsOf Tryz.prog 115) [] [0, 1, 2, 3] (gj (g2 (gI 6) (g2 (gI 7) (gO arena_Arena.D [0, 1, 2, 3]))) [nA arena_Arena.D [0, 1, 2, 3] (fun al => ([al.free_c], [al.free_b]))]) (fun i => (.s (.seg 2 []) (.s (.seg 1 []) (.blk (.s (.seg 2 []) (.cond (.s (.seg 2 []) (.s (.call (K153 k) [.K 0, .K 1, .K 2, .K 3] [0, 1, 2, 3]) (.s (.seg 4 []) .ret))) (.s (.seg 2 []) (.cond (.s (.seg 2 []) (.s (.call (K154 k) [.K 0, .K 1, .K 2, .K 3] [0, 1, 2, 3]) (.s (.seg 4 []) .ret))) (.s (.seg 2 []) (.cond (.s (.seg 2 []) (.s (.call (K155 k) [.K 0, .K 1, .K 2, .K 3] [0, 1, 2, 3]) (.s (.seg 4 []) .ret))) (.s (.seg 2 []) (.cond (.s (.seg 2 []) (.s (.call K156 [.K 0, .K 1, .K 2, .K 3] [0, 1, 2, 3]) (.s (.seg 4 []) .ret))) (.s (.seg 2 []) (.cond (.s (.seg 2 []) (.s (.call K157 [.K 0, .K 1, .K 2, .K 3] [0, 1, 2, 3]) (.s (.seg 4 []) .ret))) (.s (.seg 2 []) .ret))))))))))))))) Tryz.func115 rfl rfl (by kernel_rfl) (fun _ => rfl) (fun i => by kernel_rfl) (fun i s => by kernel_rfl)

noncomputable def K115 (k : Nat) : SCon El Tryz.prog := ⟨C115 k, S115 k, Tryz.call115⟩

noncomputable abbrev C214p : List (PK El) := [pO pool_Pool_slots_thing.D, pV api_Ref.dv api_Ref.val]
noncomputable def C214 : Con El := mkConO 214 C214p (fun i_ => pool_Pool_slots_thing_find i_.1.2.2 i_.2.1) 0 0 (fun i_ t ns_ as_ => .tuple #[elemV i_.1.2.1.l_b 5 t.1, .int .i64 t.2]) (fun i_ t ns_ as_ => pool_Pool_slots_thing.D.flat i_.1.1 i_.1.2.1 i_.1.2.2) (fun i_ t => t.1)

theorem S214 : (C214).Sound Tryz.prog :=
  fn_sound mixed (C214) (n := 61) (rs := rsOf Tryz.prog 214) [] [0, 1, 2] (gj (g2 gE (gI 5)) []) (fun i => (.s (.new 3 []) (.s (.seg 2 []) (.join (Bool) 0 0 (gj (gB 38) []) (fun st_ s_ ns_ as_ => ([(38, .bool s_)] ++ kp [0, 3] st_, ka [3, 0, 1, 2] st_)) (.drw (.q [0, 1, 2, 3] [.C 3 0] (.split 10 (.q [4, 5, 6, 7, 8, 9, 10, 11, 12, 13, 14, 15, 16, 17, 18, 19, 20, 21, 22, 23, 24, 25, 26, 27, 28, 29, 30, 31] [] .leaf) (.q [4, 5, 6, 7, 8, 9, 10, 11, 12, 13] [.C 3 0, .C 0 1] (.split 20 (.q [14, 15, 16, 17, 18, 19, 20, 21, 22, 23, 24, 25, 26, 27, 28, 29, 30, 31] [] .leaf) (.q [14, 15, 16, 17, 18] [.C 3 1] (.split 25 (.q [19, 20, 21, 22, 23, 24, 25, 26, 27, 28, 29, 30, 31] [] .leaf) (.q [19, 20, 21, 22, 23, 24, 25, 26] [.C 3 1, .C 0 1, .C 3 0] (.s (.idx false 1 (.tmp 33) 2) (.q [27, 28, 29, 30, 31] [.A 2, .X 2 1 0] .leaf)))))))))) (.cond (.s (.seg 2 []) .ret) (.drw (.q [0, 1, 2, 3, 4, 5] [.C 0 1, .C 3 0] (.s (.idx false 1 (.tmp 44) 4) (.q [6, 7] [.A 4] (.drw (.q [0, 1, 2, 3, 4, 5, 6, 7] [.C 3 1, .X 4 1 0] (.pj 53 (Bool) mB (gB 59) (fun st s_ => ([(59, .bool s_)] ++ kp [6] st, ka [0, 1, 2, 3] st)) (.q [8, 9, 10, 11, 12, 13] [] .leaf) (.q [8, 9, 10, 11, 12, 13] [.X 4 1 1] .leaf) (.cond (.s (.seg 2 []) .ret) (.s (.seg 3 []) (.s (.el 4 4) .ret))))))))))))))) Tryz.func214 rfl rfl (by kernel_rfl) (fun _ => rfl) (fun i => by kernel_rfl) (fun i s => by kernel_rfl)

noncomputable def K214 : SCon El Tryz.prog := ⟨C214, S214, Tryz.call214⟩

noncomputable abbrev C213p : List (PK El) := [pO pool_Pool_slots_thing.D, pV api_Ref.dv api_Ref.val]
noncomputable def C213 : Con El := mkCon 213 C213p (fun i_ => pool_Pool_slots_thing_Give i_.1.2.2 i_.2.1) 1 1 (fun i_ t ns_ as_ => .tuple #[.agg #[.int .i64 t.1.cell, .int .i64 t.1.heap.At, .int .i64 t.1.heap.Gen], .int .i64 t.2.1]) (fun i_ t ns_ as_ => pool_Pool_slots_thing.D.flat i_.1.1 (pool_Pool_slots_thing.A.mk i_.1.2.1.l_b i_.1.2.1.l_c (na as_ 0) (nn ns_ 0)) t.2.2)

theorem S213 : (C213).Sound Tryz.prog :=
  fn_sound mixed (C213) (n := 43) (rs := rsOf Tryz.prog 213) [.C 2000 0, .C 2000 1, .C 2000 2] [0, 1, 2] (gj (g2 (gC 2000 0 3 slots_thing.dec) (g2 (gI 5) (gO pool_Pool_slots_thing.D [0, 1, 2]))) [nA pool_Pool_slots_thing.D [0, 1, 2] (fun al => ([al.free_c], [al.free_b]))]) (fun i => (.s (.new 3 []) (.s (.new 4 []) (.s (.seg 1 []) (.s (.new 5 []) (.s (.seg 2 [.C 3 0, .C 3 1]) (.s (.call K214 [.K 0, .K 1, .K 2] [0, 1, 2]) (.eo 13 0 1 0 (.s (.seg 5 []) (.s (.seg 2 []) (.cond (.s (.seg 2 [.C 5 0, .C 5 1, .C 5 2]) (.s (.sto 4) (.s (.seg 1 []) (.rk [(4, 2000), (2000, 92000)] .ret)))) .dead))) (.s (.seg 5 []) (.s (.seg 2 []) (.cond (.s (.seg 2 [.C 5 0, .C 5 1, .C 5 2]) (.s (.sto 4) (.s (.seg 1 []) (.rk [(4, 2000), (2000, 92000)] .ret)))) (.s (.seg 4 [.X 0 1 2, .X 0 1 3, .X 0 1 4]) (.s (.new 6 []) (.s (.sto 6) (.drw (.q [0, 1, 2, 3, 4] [.C 5 0, .C 5 1, .C 5 2] (.a 5 (.sset 1 0 1) [.C 5 0, .C 5 1, .C 5 2] (.s (.rlc 0 0 1) (.q [6, 7] [] (.a 8 (.sset 1 0 2) [] (.s (.rlc 0 0 1) (.drw (.q [0, 1, 2, 3, 4, 5, 6] [.C 0 2, .C 3 0] (.a 7 (.bld 8 1 3) [.C 0 2] (.a 8 (.app 2 (.O 8)) [] (.q [9, 10] [] (.a 11 (.sto 0) [] (.s (.seg 1 [.C 6 0, .C 6 1, .C 6 2]) (.s (.sto 4) (.s (.seg 1 []) (.rk [(4, 2000), (2000, 92000)] .ret))))))))))))))))))))))))))))))) Tryz.func213 rfl rfl (by kernel_rfl) (fun _ => rfl) (fun i => by kernel_rfl) (fun i s => by kernel_rfl)

noncomputable def K213 : SCon El Tryz.prog := ⟨C213, S213, Tryz.call213⟩

noncomputable abbrev C158p : List (PK El) := [pO slots_Table.D, pV api_Ref.dv api_Ref.val]
noncomputable def C158 : Con El := mkCon 158 C158p (fun i_ => slots_Table_Take i_.1.2.2 i_.2.1) 2 2 (fun i_ t ns_ as_ => .tuple #[.int .i64 t.1, .int .i64 t.2.1]) (fun i_ t ns_ as_ => slots_Table.D.flat i_.1.1 (slots_Table.A.mk i_.1.2.1.heaps_p i_.1.2.1.heaps_a i_.1.2.1.items_p (pool_Pool_slots_thing.A.mk (na as_ 0) (nn ns_ 0) (na as_ 1) (nn ns_ 1)) i_.1.2.1.at__p) t.2.2)

theorem S158 : (C158).Sound Tryz.prog :=
  fn_sound mixed (C158) (n := 28) (rs := rsOf Tryz.prog 158) [] [0, 1, 2, 3, 4, 5, 6, 7] (gj (g2 (gI 4) (g2 (gI 5) (gO slots_Table.D [0, 1, 2, 3, 4, 5, 6, 7]))) [nA slots_Table.D [0, 1, 2, 3, 4, 5, 6, 7] (fun al => ([al.items_a.l_c, al.items_a.free_c], [al.items_a.l_b, al.items_a.free_b]))]) (fun i => (.s (.new 8 []) (.s (.seg 2 []) (.jg (slots_thing × Int × slots_Table) 3 2 (gj (g2 (gC 11 0 3 slots_thing.dec) (g2 (gI 7) (gO slots_Table.D [0, 1, 2, 3, 4, 5, 6, 7]))) [nPk 11, nA slots_Table.D [0, 1, 2, 3, 4, 5, 6, 7] (fun al => ([al.items_a.l_c, al.items_a.free_c], [al.items_a.l_b, al.items_a.free_b]))]) (fun st_ s_ ns_ as_ => match (g2 (gP 0) (gA slots_Table.D [0, 1, 2, 3, 4, 5, 6, 7])) st_ with | some x_ => ([(6, .pointer (some ⟨(nn ns_ 0), 0, none⟩)), (7, .int .i64 s_.2.1)] ++ kp [0] st_, ka [] st_ ++ zipL [11] [.blk (nn ns_ 0) 200 [.int .i64 s_.1.cell, .int .i64 s_.1.heap.At, .int .i64 s_.1.heap.Gen]] ++ zipL [0, 1, 2, 3, 4, 5, 6, 7] (slots_Table.D.flat (x_.1) (slots_Table.A.mk (x_.2.heaps_p) (x_.2.heaps_a) (x_.2.items_p) (pool_Pool_slots_thing.A.mk (na as_ 0) (nn ns_ 1) (na as_ 1) (nn ns_ 2)) (x_.2.at__p)) s_.2.2)) | none => ([], [])) (.drw (.q [0, 1, 2, 3, 4] [.C 0 1, .C 8 0, .C 8 1] (.alt2 5 (.call K213 [.K 4, .K 5, .K 6] [4, 5, 6]) [] (.q [6, 7, 8] [] (.a 9 (.new 12 []) [] (.a 10 (.sto 12) [] (.q [11] [] (.rk [(12, 11), (11, 90011)] .leaf))))) 9 (.new 13 []) [.C 8 0, .C 8 1, .C 0 1] (.a 5 (.call K213 [.K 4, .K 5, .K 6] [4, 5, 6]) [] (.q [6, 7, 8] [] (.a 10 (.sto 13) [] (.q [11] [] (.rk [(13, 11), (11, 90011)] .leaf)))))))) (.s (.seg 2 []) (.join (slots_Table) 0 0 (gj (gO slots_Table.D [0, 1, 2, 3, 4, 5, 6, 7]) []) (fun st_ s_ ns_ as_ => match (g2 (gP 0) (gA slots_Table.D [0, 1, 2, 3, 4, 5, 6, 7])) st_ with | some x_ => ([] ++ kp [6, 7] st_, ka [11] st_ ++ zipL [0, 1, 2, 3, 4, 5, 6, 7] (slots_Table.D.flat (x_.1) (slots_Table.A.mk (x_.2.heaps_p) (x_.2.heaps_a) (x_.2.items_p) (x_.2.items_a) (x_.2.at__p)) s_)) | none => ([], [])) (.cond (.drw (.q [0, 1, 2, 3, 4, 5] [.C 0 2, .C 11 0] (.a 6 (.mdel 7 0 3 (KeyOk.int rfl)) [] .leaf))) .leaf) (.s (.seg 5 [.C 11 0]) .ret))))))) Tryz.func158 rfl rfl (by kernel_rfl) (fun _ => rfl) (fun i => by kernel_rfl) (fun i s => by kernel_rfl)

noncomputable def K158 : SCon El Tryz.prog := ⟨C158, S158, Tryz.call158⟩

noncomputable abbrev C116p : List (PK El) := [pO pq_Queues.D, pV api_Ref.dv api_Ref.val]
noncomputable def C116 : Con El := mkCon 116 C116p (fun i_ => pq_Queues_gone i_.1.2.2 i_.2.1) 10 6 (fun i_ t ns_ as_ => .agg #[.int .i64 t.1.Key, .int .i64 t.1.Serial]) (fun i_ t ns_ as_ => pq_Queues.D.flat i_.1.1 (pq_Queues.A.mk i_.1.2.1.a__p (arena_Arena.A.mk (na as_ 0) (nn ns_ 0) (na as_ 1) (nn ns_ 1) (nn ns_ 2)) i_.1.2.1.t__p (slots_Table.A.mk (nn ns_ 3) (pool_Pool_slots_heap.A.mk (na as_ 2) (nn ns_ 4) (na as_ 3) (nn ns_ 5)) (nn ns_ 6) (pool_Pool_slots_thing.A.mk (na as_ 4) (nn ns_ 7) (na as_ 5) (nn ns_ 8)) (nn ns_ 9)) i_.1.2.1.entries_p) t.2)

theorem S116 : (C116).Sound Tryz.prog :=
  fn_sound mixed (C116) (n := 35) (rs := rsOf Tryz.prog 116) [.C 2000 0, .C 2000 1] [0, 1, 2, 3, 4, 5, 6, 7, 8, 9, 10, 11, 12, 13] (gj (g2 (gC 2000 0 2 api_Entry.dec) (gO pq_Queues.D [0, 1, 2, 3, 4, 5, 6, 7, 8, 9, 10, 11, 12, 13])) [nA pq_Queues.D [0, 1, 2, 3, 4, 5, 6, 7, 8, 9, 10, 11, 12, 13] (fun al => ([al.a__a.l_c, al.a__a.free_c, al.a__a.m__p, al.t__a.heaps_p, al.t__a.heaps_a.l_c, al.t__a.heaps_a.free_c, al.t__a.items_p, al.t__a.items_a.l_c, al.t__a.items_a.free_c, al.t__a.at__p], [al.a__a.l_b, al.a__a.free_b, al.t__a.heaps_a.l_b, al.t__a.heaps_a.free_b, al.t__a.items_a.l_b, al.t__a.items_a.free_b]))]) (fun i => (.s (.new 14 []) (.s (.new 15 []) (.drw (.q [0, 1, 2, 3, 4] [.C 0 2, .C 14 0, .C 14 1] (.a 5 (.call K158 [.K 5, .K 6, .K 7, .K 8, .K 9, .K 10, .K 11, .K 12] [5, 6, 7, 8, 9, 10, 11, 12]) [] (.q [6, 7, 8, 9, 10] [] (.s (.seg 5 [.C 0 1]) (.s (.call K159 [.K 1, .K 2, .K 3, .K 4] [1, 2, 3, 4]) (.jg (api_Entry) 1 0 (gj (gC 18 0 2 api_Entry.dec) [nPk 18]) (fun st_ s_ ns_ as_ => ([(7, .pointer (some ⟨(nn ns_ 0), 0, none⟩))] ++ kp [0, 3, 4] st_, ka [0, 1, 2, 3, 4, 5, 6, 7, 8, 9, 10, 11, 12, 13, 15, 14] st_ ++ zipL [18] [.blk (nn ns_ 0) 120 [.int .i64 s_.Key, .int .i64 s_.Serial]])) (.drw (.q [0, 1, 2, 3, 4] [.C 0 3, .C 14 0, .C 14 1] (.alt2 5 (.mget 13 1 31 api_Ref.key_ok (api_Entry.mk 0 0)) [] (.a 6 (.new 19 []) [] (.a 7 (.sto 19) [] (.rk [(19, 18), (18, 90018)] .leaf))) 6 (.new 20 []) [.C 14 0, .C 14 1, .C 0 3] (.a 5 (.mget 13 1 31 api_Ref.key_ok (api_Entry.mk 0 0)) [] (.a 7 (.sto 20) [] (.rk [(20, 18), (18, 90018)] .leaf)))))) (.drw (.q [0, 1, 2, 3, 4] [.C 0 3, .C 14 0, .C 14 1] (.a 5 (.mdel 13 1 31 api_Ref.key_ok) [] (.s (.seg 1 [.C 18 0, .C 18 1]) (.s (.sto 15) (.rk [(15, 2000), (2000, 92000)] .ret)))))))))))))))) Tryz.func116 rfl rfl (by kernel_rfl) (fun _ => rfl) (fun i => by kernel_rfl) (fun i s => by kernel_rfl)

noncomputable def K116 : SCon El Tryz.prog := ⟨C116, S116, Tryz.call116⟩

noncomputable abbrev C79p : List (PK El) := [pO pq_Queues.D, pV api_Ref.dv api_Ref.val, pB]
noncomputable def C79 (k : Nat) : Con El := mkCon 79 C79p (fun i_ => pq_Queues_min k i_.1.2.2 i_.2.1 i_.2.2.1) 10 6 (fun i_ t ns_ as_ => .agg #[.int .i64 t.1.Why, .int .i64 t.1.Heap.At, .int .i64 t.1.Heap.Gen, .int .i64 t.1.Item.At, .int .i64 t.1.Item.Gen, .int .i64 t.1.Entry.Key, .int .i64 t.1.Entry.Serial, .int .i64 t.1.N]) (fun i_ t ns_ as_ => pq_Queues.D.flat i_.1.1 (pq_Queues.A.mk i_.1.2.1.a__p (arena_Arena.A.mk (na as_ 0) (nn ns_ 0) (na as_ 1) (nn ns_ 1) (nn ns_ 2)) i_.1.2.1.t__p (slots_Table.A.mk (nn ns_ 3) (pool_Pool_slots_heap.A.mk (na as_ 2) (nn ns_ 4) (na as_ 3) (nn ns_ 5)) (nn ns_ 6) (pool_Pool_slots_thing.A.mk (na as_ 4) (nn ns_ 7) (na as_ 5) (nn ns_ 8)) (nn ns_ 9)) i_.1.2.1.entries_p) t.2)

theorem S79 (k : Nat) : (C79 k).Sound Tryz.prog :=
  fn_sound mixed (C79 k) (n := 94) (rs := rsOf Tryz.prog 79) [.C 2000 0, .C 2000 1, .C 2000 2, .C 2000 3, .C 2000 4, .C 2000 5, .C 2000 6, .C 2000 7] [0, 1, 2, 3, 4, 5, 6, 7, 8, 9, 10, 11, 12, 13] (gj (g2 (gC 2000 0 8 api_Answer.dec) (gO pq_Queues.D [0, 1, 2, 3, 4, 5, 6, 7, 8, 9, 10, 11, 12, 13])) [nA pq_Queues.D [0, 1, 2, 3, 4, 5, 6, 7, 8, 9, 10, 11, 12, 13] (fun al => ([al.a__a.l_c, al.a__a.free_c, al.a__a.m__p, al.t__a.heaps_p, al.t__a.heaps_a.l_c, al.t__a.heaps_a.free_c, al.t__a.items_p, al.t__a.items_a.l_c, al.t__a.items_a.free_c, al.t__a.at__p], [al.a__a.l_b, al.a__a.free_b, al.t__a.heaps_a.l_b, al.t__a.heaps_a.free_b, al.t__a.items_a.l_b, al.t__a.items_a.free_b]))]) (fun i => (.s (.new 14 []) (.s (.new 15 []) (.drw (.q [0, 1, 2, 3, 4] [.C 0 2, .C 14 0, .C 14 1] (.a 5 (.call K83 [.K 5, .K 6, .K 7, .K 8, .K 9, .K 10, .K 11, .K 12] [5, 6, 7, 8, 9, 10, 11, 12]) [] (.q [6, 7, 8, 9, 10, 11, 12, 13, 14] [] (.blk (.s (.seg 3 []) (.cond (.s (.seg 1 []) (.s (.call K85 [] []) (.s (.sto 15) (.rk [(15, 2000), (2000, 92000)] .ret)))) (.s (.seg 3 []) (.cond (.s (.call K85 [] []) (.s (.sto 15) (.rk [(15, 2000), (2000, 92000)] .ret))) (.s (.seg 2 []) (.cond (.jg (api_Ref × pq_Queues) 1 0 (gj (g2 (gC 18 0 2 api_Ref.dec) (gO pq_Queues.D [0, 1, 2, 3, 4, 5, 6, 7, 8, 9, 10, 11, 12, 13])) [nPk 18]) (fun st_ s_ ns_ as_ => match (g2 (gP 0) (gA pq_Queues.D [0, 1, 2, 3, 4, 5, 6, 7, 8, 9, 10, 11, 12, 13])) st_ with | some x_ => ([(11, .pointer (some ⟨(nn ns_ 0), 0, none⟩))] ++ kp [0, 6] st_, ka [15] st_ ++ zipL [18] [.blk (nn ns_ 0) 31 [.int .i64 s_.1.At, .int .i64 s_.1.Gen]] ++ zipL [0, 1, 2, 3, 4, 5, 6, 7, 8, 9, 10, 11, 12, 13] (pq_Queues.D.flat (x_.1) (x_.2) s_.2)) | none => ([], [])) (.drw (.q [0, 1, 2, 3, 4, 5, 6, 7, 8, 9] [.C 0 2, .C 0 1] (.alt2 10 (.call (K114 k) [.K 1, .K 2, .K 3, .K 4] [1, 2, 3, 4]) [.C 0 2] (.alt2 11 (.call K113 [.K 5, .K 6, .K 7, .K 8, .K 9, .K 10, .K 11, .K 12] [5, 6, 7, 8, 9, 10, 11, 12]) [] (.q [12, 13, 14] [] (.a 15 (.new 19 []) [] (.a 16 (.sto 19) [] (.q [17] [] (.rk [(19, 18), (18, 90018)] .leaf))))) 15 (.new 20 []) [.C 0 2] (.a 11 (.call K113 [.K 5, .K 6, .K 7, .K 8, .K 9, .K 10, .K 11, .K 12] [5, 6, 7, 8, 9, 10, 11, 12]) [] (.q [12, 13, 14] [] (.a 16 (.sto 20) [] (.q [17] [] (.rk [(20, 18), (18, 90018)] .leaf)))))) 15 (.new 21 []) [.C 0 1, .C 0 2] (.a 10 (.call (K114 k) [.K 1, .K 2, .K 3, .K 4] [1, 2, 3, 4]) [.C 0 2] (.a 11 (.call K113 [.K 5, .K 6, .K 7, .K 8, .K 9, .K 10, .K 11, .K 12] [5, 6, 7, 8, 9, 10, 11, 12]) [] (.q [12, 13, 14] [] (.a 16 (.sto 21) [] (.q [17] [] (.rk [(21, 18), (18, 90018)] .leaf))))))))) (.drw (.q [0, 1, 2, 3, 4, 5] [.C 18 0, .C 18 1, .C 0 3, .C 18 0, .C 18 1] (.a 6 (.mget 13 1 31 api_Ref.key_ok (api_Entry.mk 0 0)) [.C 18 0, .C 18 1] (.q [7] [] (.a 8 (.sto 15) [] (.rk [(15, 2000), (2000, 92000)] .ret))))))) (.s (.seg 6 [.C 0 1]) (.s (.call (K115 k) [.K 1, .K 2, .K 3, .K 4] [1, 2, 3, 4]) (.s (.seg 5 []) (.s (.seg 5 [.C 0 2]) (.s (.call K113 [.K 5, .K 6, .K 7, .K 8, .K 9, .K 10, .K 11, .K 12] [5, 6, 7, 8, 9, 10, 11, 12]) (.s (.seg 3 []) (.s (.new 22 []) (.s (.sto 22) (.s (.seg 1 []) (.drw (.q [0, 1, 2, 3, 4, 5, 6, 7] [.C 0 2, .C 14 0, .C 14 1] (.a 8 (.call K112 [.K 5, .K 6, .K 7, .K 8, .K 9, .K 10, .K 11, .K 12] [5, 6, 7, 8, 9, 10, 11, 12]) [] (.drw (.q [0, 1, 2] [.C 22 0, .C 22 1, .C 22 0, .C 22 1] (.a 3 (.call K116 [.K 0, .K 1, .K 2, .K 3, .K 4, .K 5, .K 6, .K 7, .K 8, .K 9, .K 10, .K 11, .K 12, .K 13] [0, 1, 2, 3, 4, 5, 6, 7, 8, 9, 10, 11, 12, 13]) [.C 22 0, .C 22 1] (.q [4] [] (.a 5 (.sto 15) [] (.rk [(15, 2000), (2000, 92000)] .ret)))))))))))))))))))))))))))))))) Tryz.func79 rfl rfl (by kernel_rfl) (fun _ => rfl) (fun i => by kernel_rfl) (fun i s => by kernel_rfl)

noncomputable def K79 (k : Nat) : SCon El Tryz.prog := ⟨C79 k, S79 k, Tryz.call79⟩

noncomputable abbrev C160p : List (PK El) := [pO pool_Pool_slots_thing.D, pV api_Ref.dv api_Ref.val]
noncomputable def C160 : Con El := mkCon 160 C160p (fun i_ => pool_Pool_slots_thing_Get i_.1.2.2 i_.2.1) 0 0 (fun i_ t ns_ as_ => .tuple #[.agg #[.int .i64 t.1.cell, .int .i64 t.1.heap.At, .int .i64 t.1.heap.Gen], .int .i64 t.2]) (fun i_ t ns_ as_ => pool_Pool_slots_thing.D.flat i_.1.1 i_.1.2.1 i_.1.2.2)

theorem S160 : (C160).Sound Tryz.prog :=
  fn_sound mixed (C160) (n := 23) (rs := rsOf Tryz.prog 160) [.C 2000 0, .C 2000 1, .C 2000 2] [0, 1, 2] (gj (g2 (gC 2000 0 3 slots_thing.dec) (gI 5)) []) (fun i => (.s (.new 3 []) (.s (.new 4 []) (.s (.seg 1 []) (.s (.seg 2 [.C 3 0, .C 3 1]) (.s (.call K214 [.K 0, .K 1, .K 2] [0, 1, 2]) (.eo 12 0 1 0 (.s (.seg 5 []) (.s (.seg 2 []) (.cond (.s (.new 5 []) (.s (.seg 2 [.C 5 0, .C 5 1, .C 5 2]) (.s (.sto 4) (.s (.seg 1 []) (.rk [(4, 2000), (2000, 92000)] .ret))))) .dead))) (.s (.seg 5 []) (.s (.seg 2 []) (.cond (.s (.new 6 []) (.s (.seg 2 [.C 6 0, .C 6 1, .C 6 2]) (.s (.sto 4) (.s (.seg 1 []) (.rk [(4, 2000), (2000, 92000)] .ret))))) (.s (.seg 4 [.X 0 1 2, .X 0 1 3, .X 0 1 4]) (.s (.sto 4) (.s (.seg 1 []) (.rk [(4, 2000), (2000, 92000)] .ret)))))))))))))) Tryz.func160 rfl rfl (by kernel_rfl) (fun _ => rfl) (fun i => by kernel_rfl) (fun i s => by kernel_rfl)

noncomputable def K160 : SCon El Tryz.prog := ⟨C160, S160, Tryz.call160⟩

noncomputable abbrev C117p : List (PK El) := [pO slots_Table.D, pV api_Ref.dv api_Ref.val]
noncomputable def C117 : Con El := mkCon 117 C117p (fun i_ => slots_Table_Cell i_.1.2.2 i_.2.1) 0 0 (fun i_ t ns_ as_ => .tuple #[.int .i64 t.1, .int .i64 t.2]) (fun i_ t ns_ as_ => slots_Table.D.flat i_.1.1 i_.1.2.1 i_.1.2.2)

theorem S117 : (C117).Sound Tryz.prog :=
  fn_sound mixed (C117) (n := 20) (rs := rsOf Tryz.prog 117) [] [0, 1, 2, 3, 4, 5, 6, 7] (gj (g2 (gI 4) (gI 5)) []) (fun i => (.s (.new 8 []) (.s (.seg 2 []) (.jg (slots_thing × Int) 1 0 (gj (g2 (gC 11 0 3 slots_thing.dec) (gI 7)) [nPk 11]) (fun st_ s_ ns_ as_ => ([(6, .pointer (some ⟨(nn ns_ 0), 0, none⟩)), (7, .int .i64 s_.2)] ++ kp [] st_, ka [0, 1, 2, 3, 4, 5, 6, 7] st_ ++ zipL [11] [.blk (nn ns_ 0) 200 [.int .i64 s_.1.cell, .int .i64 s_.1.heap.At, .int .i64 s_.1.heap.Gen]])) (.drw (.q [0, 1, 2, 3, 4] [.C 0 1, .C 8 0, .C 8 1] (.alt2 5 (.call K160 [.K 4, .K 5, .K 6] [4, 5, 6]) [] (.q [6, 7, 8] [] (.a 9 (.new 12 []) [] (.a 10 (.sto 12) [] (.q [11] [] (.rk [(12, 11), (11, 90011)] .leaf))))) 9 (.new 13 []) [.C 8 0, .C 8 1, .C 0 1] (.a 5 (.call K160 [.K 4, .K 5, .K 6] [4, 5, 6]) [] (.q [6, 7, 8] [] (.a 10 (.sto 13) [] (.q [11] [] (.rk [(13, 11), (11, 90011)] .leaf)))))))) (.s (.seg 5 [.C 11 0]) .ret))))) Tryz.func117 rfl rfl (by kernel_rfl) (fun _ => rfl) (fun i => by kernel_rfl) (fun i s => by kernel_rfl)

noncomputable def K117 : SCon El Tryz.prog := ⟨C117, S117, Tryz.call117⟩

noncomputable abbrev C118p : List (PK El) := [pO slots_Table.D, pV api_Ref.dv api_Ref.val]
noncomputable def C118 : Con El := mkCon 118 C118p (fun i_ => slots_Table_Of i_.1.2.2 i_.2.1) 0 0 (fun i_ t ns_ as_ => .tuple #[.agg #[.int .i64 t.1.At, .int .i64 t.1.Gen], .int .i64 t.2]) (fun i_ t ns_ as_ => slots_Table.D.flat i_.1.1 i_.1.2.1 i_.1.2.2)

theorem S118 : (C118).Sound Tryz.prog :=
  fn_sound mixed (C118) (n := 20) (rs := rsOf Tryz.prog 118) [.C 2000 0, .C 2000 1] [0, 1, 2, 3, 4, 5, 6, 7] (gj (g2 (gC 2000 0 2 api_Ref.dec) (gI 5)) []) (fun i => (.s (.new 8 []) (.s (.new 9 []) (.s (.seg 1 []) (.jg (slots_thing × Int) 1 0 (gj (g2 (gC 12 0 3 slots_thing.dec) (gI 7)) [nPk 12]) (fun st_ s_ ns_ as_ => ([(6, .pointer (some ⟨(nn ns_ 0), 0, none⟩)), (7, .int .i64 s_.2)] ++ kp [4] st_, ka [9, 0, 1, 2, 3, 4, 5, 6, 7] st_ ++ zipL [12] [.blk (nn ns_ 0) 200 [.int .i64 s_.1.cell, .int .i64 s_.1.heap.At, .int .i64 s_.1.heap.Gen]])) (.drw (.q [0, 1, 2, 3, 4] [.C 0 1, .C 8 0, .C 8 1] (.alt2 5 (.call K160 [.K 4, .K 5, .K 6] [4, 5, 6]) [] (.q [6, 7, 8] [] (.a 9 (.new 13 []) [] (.a 10 (.sto 13) [] (.q [11] [] (.rk [(13, 12), (12, 90012)] .leaf))))) 9 (.new 14 []) [.C 8 0, .C 8 1, .C 0 1] (.a 5 (.call K160 [.K 4, .K 5, .K 6] [4, 5, 6]) [] (.q [6, 7, 8] [] (.a 10 (.sto 14) [] (.q [11] [] (.rk [(14, 12), (12, 90012)] .leaf)))))))) (.s (.seg 3 [.C 12 1, .C 12 2]) (.s (.sto 9) (.s (.seg 1 []) (.rk [(9, 2000), (2000, 92000)] .ret))))))))) Tryz.func118 rfl rfl (by kernel_rfl) (fun _ => rfl) (fun i => by kernel_rfl) (fun i s => by kernel_rfl)

noncomputable def K118 : SCon El Tryz.prog := ⟨C118, S118, Tryz.call118⟩

noncomputable abbrev C119p : List (PK El) := [pO arena_Arena.D, pI .i64, pI .i64]
noncomputable def C119 : Con El := mkCon 119 C119p (fun i_ => item_Lower i_.1.2.2 i_.2.1 i_.2.2.1) 0 0 (fun i_ t ns_ as_ => .bool t.1) (fun i_ t ns_ as_ => arena_Arena.D.flat i_.1.1 i_.1.2.1 t.2)

theorem S119 : (C119).Sound Tryz.prog :=
  fn_sound mixed (C119) (n := 20) (rs := rsOf Tryz.prog 119) [] [0, 1, 2, 3] (gj (g2 (gB 6) (gO arena_Arena.D [0, 1, 2, 3])) []) (fun i => (.s (.seg 1 []) (.join (Bool × arena_Arena) 0 0 (gj (g2 (gB 15) (gO arena_Arena.D [0, 1, 2, 3])) []) (fun st_ s_ ns_ as_ => match (g2 (gP 0) (gA arena_Arena.D [0, 1, 2, 3])) st_ with | some x_ => ([(15, .bool s_.1)] ++ kp [0, 1, 2] st_, ka [] st_ ++ zipL [0, 1, 2, 3] (arena_Arena.D.flat (x_.1) (x_.2) s_.2)) | none => ([], [])) (.s (.seg 6 []) (.s (.call K161 [.K 0, .K 1, .K 2, .K 3] [0, 1, 2, 3]) (.s (.seg 2 []) .leaf))) (.cond (.s (.seg 1 []) .ret) (.s (.seg 3 []) (.s (.call K139 [.K 0, .K 1, .K 2, .K 3] [0, 1, 2, 3]) (.s (.seg 1 []) .ret))))))) Tryz.func119 rfl rfl (by kernel_rfl) (fun _ => rfl) (fun i => by kernel_rfl) (fun i s => by kernel_rfl)

noncomputable def K119 : SCon El Tryz.prog := ⟨C119, S119, Tryz.call119⟩

noncomputable abbrev C215p : List (PK El) := [pO arena_Arena.D, pI .i64]
noncomputable def C215 : Con El := mkCon 215 C215p (fun i_ => item_Node i_.1.2.2 i_.2.1) 0 0 (fun i_ t ns_ as_ => .int .i64 t.1) (fun i_ t ns_ as_ => arena_Arena.D.flat i_.1.1 i_.1.2.1 t.2)

theorem S215 : (C215).Sound Tryz.prog :=
  fn_sound mixed (C215) (n := 10) (rs := rsOf Tryz.prog 215) [] [0, 1, 2, 3] (gj (g2 (gI 4) (gO arena_Arena.D [0, 1, 2, 3])) []) (fun i => (.s (.seg 1 []) (.s (.seg 2 []) (.condF (.s (.seg 2 []) (.s (.call K204 [.K 0, .K 1, .K 2, .K 3] [0, 1, 2, 3]) (.s (.seg 1 []) .ret))))))) Tryz.func215 rfl rfl (by kernel_rfl) (fun _ => rfl) (fun i => by kernel_rfl) (fun i s => by kernel_rfl)

noncomputable def K215 : SCon El Tryz.prog := ⟨C215, S215, Tryz.call215⟩

noncomputable abbrev C216p : List (PK El) := [pO arena_Arena.D, pI .i64]
noncomputable def C216 (k : Nat) : Con El := mkCon 216 C216p (fun i_ => leftist_leave k i_.1.2.2 i_.2.1) 0 0 (fun i_ t ns_ as_ => .tuple #[]) (fun i_ t ns_ as_ => arena_Arena.D.flat i_.1.1 i_.1.2.1 t)

noncomputable abbrev C216r (k : Nat) (i : Ins C216p) : Kn El → VC (C216 k).T := retC Tryz.prog (C216 k) (rsOf Tryz.prog 216) [] [0, 1, 2, 3] (gj (gO arena_Arena.D [0, 1, 2, 3]) []) i

noncomputable def C216l0 (i_ : Ins C216p) : BCon El (arena_Arena) := ⟨nav [1, 1, 1, 1] (bodyOf Tryz.prog 216), Unit, Int × Int × arena_Arena, arena_Arena, arena_Arena, fun u => .inr u, fun _ _ => none, fun x_ => [], fun x_ v_ ns_ as_ => [(0, .pointer (some ⟨i_.1.1, 0, none⟩)), (4, .int .i64 v_.1), (5, .int .i64 v_.2.1)], fun x_ v_ ns_ as_ => zipL [0, 1, 2, 3] (arena_Arena.D.flat i_.1.1 i_.1.2.1 v_.2.2), 0, 0, fun x_ u_ ns_ as_ => [], fun x_ u_ ns_ as_ => zipL [0, 1, 2, 3] (arena_Arena.D.flat i_.1.1 i_.1.2.1 u_)⟩

noncomputable def C216l0g (k : Nat) (i_ : Ins C216p) : Nat → (C216l0 i_).X → (C216l0 i_).V → Option (C216l0 i_).W := fun m_ (x_ : Unit) (v_ : Int × Int × arena_Arena) => leftist_leave_l0 m_ v_.1 v_.2.1 v_.2.2

theorem C216l0s (k : Nat) (i : Ins C216p) (m : Nat) : ((C216l0 i).at (C216l0g k i) m).Sound Tryz.prog 216 46 (C216r k i) :=
  loop_sound mixed (C216l0 i) (id := 0) (body := nav [1, 1, 1, 1, 0, 0] (bodyOf Tryz.prog 216)) (C216l0g k i) (fun _ => none) (fun u => u) (gj (g2 (gI 4) (g2 (gI 5) (gO arena_Arena.D [0, 1, 2, 3]))) []) (gj (gO arena_Arena.D [0, 1, 2, 3]) []) (fun m => (.join (Bool × arena_Arena) 0 0 (gj (g2 (gB 40) (gO arena_Arena.D [0, 1, 2, 3])) []) (fun st_ s_ ns_ as_ => match (g2 (gP 0) (gA arena_Arena.D [0, 1, 2, 3])) st_ with | some x_ => ([(40, .bool s_.1)] ++ kp [0, 4, 5] st_, ka [] st_ ++ zipL [0, 1, 2, 3] (arena_Arena.D.flat (x_.1) (x_.2) s_.2)) | none => ([], [])) (.s (.seg 3 []) (.split 30 (.s (.seg 2 []) (.s (.call K230 [.K 0, .K 1, .K 2, .K 3] [0, 1, 2, 3]) (.s (.seg 3 []) (.split 36 (.s (.seg 2 []) (.s (.call K231 [.K 0, .K 1, .K 2, .K 3] [0, 1, 2, 3]) (.s (.seg 1 []) .leaf))) (.s (.seg 4 []) .leaf))))) (.s (.seg 10 []) .leaf))) (.cond (.blk (.s (.seg 2 []) (.s (.call K204 [.K 0, .K 1, .K 2, .K 3] [0, 1, 2, 3]) (.s (.seg 1 []) (.s (.seg 3 []) .back))))) .leaf))) (by kernel_rfl) (fun _ _ => rfl) (fun r y h => by cases h) (fun u => rfl) (fun m x v n1 n2 => by kernel_rfl) (fun m x v n1 n2 s => by kernel_rfl) m

theorem S216 (k : Nat) : (C216 k).Sound Tryz.prog :=
  fn_sound mixed (C216 k) (n := 46) (rs := rsOf Tryz.prog 216) [] [0, 1, 2, 3] (gj (gO arena_Arena.D [0, 1, 2, 3]) []) (fun i => (.s (.seg 2 []) (.s (.call K204 [.K 0, .K 1, .K 2, .K 3] [0, 1, 2, 3]) (.s (.seg 1 []) (.s (.seg 2 []) (.s (.call K204 [.K 0, .K 1, .K 2, .K 3] [0, 1, 2, 3]) (.s (.seg 2 []) (.join (arena_Arena) 0 0 (gj (gO arena_Arena.D [0, 1, 2, 3]) []) (fun st_ s_ ns_ as_ => match (g2 (gP 0) (gA arena_Arena.D [0, 1, 2, 3])) st_ with | some x_ => ([] ++ kp [0, 1, 4] st_, ka [] st_ ++ zipL [0, 1, 2, 3] (arena_Arena.D.flat (x_.1) (x_.2) s_)) | none => ([], [])) (.cond (.s (.seg 2 []) (.s (.call K139 [.K 0, .K 1, .K 2, .K 3] [0, 1, 2, 3]) .leaf)) (.s (.seg 2 []) (.s (.call K204 [.K 0, .K 1, .K 2, .K 3] [0, 1, 2, 3]) (.s (.seg 2 []) (.cond (.s (.seg 2 []) (.s (.call K139 [.K 0, .K 1, .K 2, .K 3] [0, 1, 2, 3]) .leaf)) .leaf))))) (.s (.seg 2 []) (.s (.call K139 [.K 0, .K 1, .K 2, .K 3] [0, 1, 2, 3]) (.s (.seg 1 []) (.loop ⟨(C216l0 i).at (C216l0g k i) k, C216l0s k i k⟩ (gl gU (g2 (gI 4) (g2 (gI 5) (gO arena_Arena.D [0, 1, 2, 3]))) []) .leaf)))))))))))) Tryz.func216 rfl rfl (by kernel_rfl) (fun _ => rfl) (fun i => by kernel_rfl) (fun i s => by kernel_rfl)

noncomputable def K216 (k : Nat) : SCon El Tryz.prog := ⟨C216 k, S216 k, Tryz.call216⟩

noncomputable abbrev C162p : List (PK El) := [pO arena_Arena.D, pI .i64, pI .i64]
noncomputable def C162 (k : Nat) : Con El := mkCon 162 C162p (fun i_ => leftist_Fall k i_.1.2.2 i_.2.1 i_.2.2.1) 0 0 (fun i_ t ns_ as_ => .int .i64 t.1) (fun i_ t ns_ as_ => arena_Arena.D.flat i_.1.1 i_.1.2.1 t.2)

theorem S162 (k : Nat) : (C162 k).Sound Tryz.prog :=
  fn_sound mixed (C162 k) (n := 34) (rs := rsOf Tryz.prog 162) [] [0, 1, 2, 3] (gj (g2 (gI 6) (gO arena_Arena.D [0, 1, 2, 3])) []) (fun i => (.s (.seg 1 []) (.s (.seg 2 []) (.condF (.s (.seg 2 []) (.s (.call K215 [.K 0, .K 1, .K 2, .K 3] [0, 1, 2, 3]) (.s (.seg 1 []) (.join (Bool × arena_Arena) 0 0 (gj (g2 (gB 25) (gO arena_Arena.D [0, 1, 2, 3])) []) (fun st_ s_ ns_ as_ => match (g2 (gP 0) (gA arena_Arena.D [0, 1, 2, 3])) st_ with | some x_ => ([(25, .bool s_.1)] ++ kp [0, 1, 7] st_, ka [] st_ ++ zipL [0, 1, 2, 3] (arena_Arena.D.flat (x_.1) (x_.2) s_.2)) | none => ([], [])) (.s (.seg 3 []) (.split 15 (.s (.seg 10 []) .leaf) (.s (.seg 5 []) (.split 20 (.s (.seg 5 []) .leaf) (.s (.seg 2 []) (.s (.call K204 [.K 0, .K 1, .K 2, .K 3] [0, 1, 2, 3]) (.s (.seg 2 []) .leaf))))))) (.cond (.s (.seg 2 []) .ret) (.s (.seg 2 []) (.s (.call (K216 k) [.K 0, .K 1, .K 2, .K 3] [0, 1, 2, 3]) (.s (.seg 3 []) (.s (.call (K196 k) [.K 0, .K 1, .K 2, .K 3] [0, 1, 2, 3]) (.s (.seg 1 []) .ret)))))))))))))) Tryz.func162 rfl rfl (by kernel_rfl) (fun _ => rfl) (fun i => by kernel_rfl) (fun i s => by kernel_rfl)

noncomputable def K162 (k : Nat) : SCon El Tryz.prog := ⟨C162 k, S162 k, Tryz.call162⟩

noncomputable abbrev C217p : List (PK El) := [pO arena_Arena.D, pI .i64, pB]
noncomputable def C217 (k : Nat) : Con El := mkCon 217 C217p (fun i_ => trees_Rise k i_.1.2.2 i_.2.1 i_.2.2.1) 0 0 (fun i_ t ns_ as_ => .int .i64 t.1) (fun i_ t ns_ as_ => arena_Arena.D.flat i_.1.1 i_.1.2.1 t.2)

noncomputable abbrev C217r (k : Nat) (i : Ins C217p) : Kn El → VC (C217 k).T := retC Tryz.prog (C217 k) (rsOf Tryz.prog 217) [] [0, 1, 2, 3] (gj (g2 (gI 6) (gO arena_Arena.D [0, 1, 2, 3])) []) i

noncomputable def C217l0 (i_ : Ins C217p) : BCon El (Int × arena_Arena) := ⟨nav [1, 1, 0, 1] (bodyOf Tryz.prog 217), Unit, Int × Int × arena_Arena, Int × arena_Arena, Int × arena_Arena, fun u => .inr u, fun _ _ => none, fun x_ => [], fun x_ v_ ns_ as_ => [(0, .pointer (some ⟨i_.1.1, 0, none⟩)), (2, .bool i_.2.2.1), (7, .int .i64 v_.1), (8, .int .i64 v_.2.1)], fun x_ v_ ns_ as_ => zipL [0, 1, 2, 3] (arena_Arena.D.flat i_.1.1 i_.1.2.1 v_.2.2), 0, 0, fun x_ u_ ns_ as_ => [(7, .int .i64 u_.1)], fun x_ u_ ns_ as_ => zipL [0, 1, 2, 3] (arena_Arena.D.flat i_.1.1 i_.1.2.1 u_.2)⟩

noncomputable def C217l0g (k : Nat) (i_ : Ins C217p) : Nat → (C217l0 i_).X → (C217l0 i_).V → Option (C217l0 i_).W := fun m_ (x_ : Unit) (v_ : Int × Int × arena_Arena) => trees_Rise_l0 i_.2.2.1 m_ v_.1 v_.2.1 v_.2.2

theorem C217l0s (k : Nat) (i : Ins C217p) (m : Nat) : ((C217l0 i).at (C217l0g k i) m).Sound Tryz.prog 217 45 (C217r k i) :=
  loop_sound mixed (C217l0 i) (id := 0) (body := nav [1, 1, 0, 1, 0, 0] (bodyOf Tryz.prog 217)) (C217l0g k i) (fun _ => none) (fun u => u) (gj (g2 (gI 7) (g2 (gI 8) (gO arena_Arena.D [0, 1, 2, 3]))) []) (gj (g2 (gI 7) (gO arena_Arena.D [0, 1, 2, 3])) []) (fun m => (.join (Bool) 0 0 (gj (gB 20) []) (fun st_ s_ ns_ as_ => ([(20, .bool s_)] ++ kp [0, 2, 7, 8] st_, ka [0, 1, 2, 3] st_)) (.s (.seg 3 []) (.split 15 (.s (.seg 2 []) (.s (.call K230 [.K 0, .K 1, .K 2, .K 3] [0, 1, 2, 3]) (.s (.seg 2 []) .leaf))) (.s (.seg 5 []) .leaf))) (.cond (.blk (.s (.seg 2 []) (.s (.call K204 [.K 0, .K 1, .K 2, .K 3] [0, 1, 2, 3]) (.s (.seg 1 []) (.join (Bool × arena_Arena) 0 0 (gj (g2 (gB 38) (gO arena_Arena.D [0, 1, 2, 3])) []) (fun st_ s_ ns_ as_ => match (g2 (gP 0) (gA arena_Arena.D [0, 1, 2, 3])) st_ with | some x_ => ([(38, .bool s_.1)] ++ kp [0, 2, 7, 8, 9] st_, ka [] st_ ++ zipL [0, 1, 2, 3] (arena_Arena.D.flat (x_.1) (x_.2) s_.2)) | none => ([], [])) (.s (.seg 3 []) (.split 28 (.s (.seg 10 []) .leaf) (.s (.seg 3 []) (.split 31 (.s (.seg 3 []) (.s (.call (K218 m) [.K 0, .K 1, .K 2, .K 3] [0, 1, 2, 3]) (.s (.seg 3 []) .leaf))) (.s (.seg 7 []) .leaf))))) (.cond .leaf (.s (.seg 3 []) (.s (.call K238 [.K 0, .K 1, .K 2, .K 3] [0, 1, 2, 3]) (.s (.seg 2 []) (.s (.seg 3 []) .back)))))))))) .leaf))) (by kernel_rfl) (fun _ _ => rfl) (fun r y h => by cases h) (fun u => rfl) (fun m x v n1 n2 => by kernel_rfl) (fun m x v n1 n2 s => by kernel_rfl) m

theorem S217 (k : Nat) : (C217 k).Sound Tryz.prog :=
  fn_sound mixed (C217 k) (n := 45) (rs := rsOf Tryz.prog 217) [] [0, 1, 2, 3] (gj (g2 (gI 6) (gO arena_Arena.D [0, 1, 2, 3])) []) (fun i => (.s (.seg 1 []) (.s (.seg 2 []) (.s (.call K215 [.K 0, .K 1, .K 2, .K 3] [0, 1, 2, 3]) (.s (.seg 1 []) (.s (.seg 1 []) (.loop ⟨(C217l0 i).at (C217l0g k i) k, C217l0s k i k⟩ (gl gU (g2 (gI 7) (g2 (gI 8) (gO arena_Arena.D [0, 1, 2, 3]))) []) (.s (.seg 2 []) .ret)))))))) Tryz.func217 rfl rfl (by kernel_rfl) (fun _ => rfl) (fun i => by kernel_rfl) (fun i s => by kernel_rfl)

noncomputable def K217 (k : Nat) : SCon El Tryz.prog := ⟨C217 k, S217 k, Tryz.call217⟩

noncomputable abbrev C163p : List (PK El) := [pO arena_Arena.D, pI .i64, pI .i64]
noncomputable def C163 (k : Nat) : Con El := mkCon 163 C163p (fun i_ => binomial_Fall k i_.1.2.2 i_.2.1 i_.2.2.1) 0 0 (fun i_ t ns_ as_ => .int .i64 t.1) (fun i_ t ns_ as_ => arena_Arena.D.flat i_.1.1 i_.1.2.1 t.2)

theorem S163 (k : Nat) : (C163 k).Sound Tryz.prog :=
  fn_sound mixed (C163 k) (n := 13) (rs := rsOf Tryz.prog 163) [] [0, 1, 2, 3] (gj (g2 (gI 6) (gO arena_Arena.D [0, 1, 2, 3])) []) (fun i => (.s (.seg 1 []) (.s (.seg 2 []) (.condF (.s (.seg 2 []) (.s (.call (K217 k) [.K 0, .K 1, .K 2, .K 3] [0, 1, 2, 3]) (.s (.seg 2 []) .ret))))))) Tryz.func163 rfl rfl (by kernel_rfl) (fun _ => rfl) (fun i => by kernel_rfl) (fun i s => by kernel_rfl)

noncomputable def K163 (k : Nat) : SCon El Tryz.prog := ⟨C163 k, S163 k, Tryz.call163⟩

noncomputable abbrev C164p : List (PK El) := [pO arena_Arena.D, pI .i64, pI .i64]
noncomputable def C164 (k : Nat) : Con El := mkCon 164 C164p (fun i_ => skew_Fall k i_.1.2.2 i_.2.1 i_.2.2.1) 0 0 (fun i_ t ns_ as_ => .int .i64 t.1) (fun i_ t ns_ as_ => arena_Arena.D.flat i_.1.1 i_.1.2.1 t.2)

theorem S164 (k : Nat) : (C164 k).Sound Tryz.prog :=
  fn_sound mixed (C164 k) (n := 13) (rs := rsOf Tryz.prog 164) [] [0, 1, 2, 3] (gj (g2 (gI 6) (gO arena_Arena.D [0, 1, 2, 3])) []) (fun i => (.s (.seg 1 []) (.s (.seg 2 []) (.condF (.s (.seg 2 []) (.s (.call (K217 k) [.K 0, .K 1, .K 2, .K 3] [0, 1, 2, 3]) (.s (.seg 2 []) .ret))))))) Tryz.func164 rfl rfl (by kernel_rfl) (fun _ => rfl) (fun i => by kernel_rfl) (fun i s => by kernel_rfl)

noncomputable def K164 (k : Nat) : SCon El Tryz.prog := ⟨C164 k, S164 k, Tryz.call164⟩

noncomputable abbrev C165p : List (PK El) := [pO arena_Arena.D, pI .i64, pI .i64]
noncomputable def C165 : Con El := mkCon 165 C165p (fun i_ => fib_Fall i_.1.2.2 i_.2.1 i_.2.2.1) 0 0 (fun i_ t ns_ as_ => .int .i64 t) (fun i_ t ns_ as_ => arena_Arena.D.flat i_.1.1 i_.1.2.1 i_.1.2.2)

theorem S165 : (C165).Sound Tryz.prog := none_sound _ fun _ => rfl

noncomputable def K165 : SCon El Tryz.prog := ⟨C165, S165, Tryz.call165⟩

noncomputable abbrev C166p : List (PK El) := [pO arena_Arena.D, pI .i64, pI .i64]
noncomputable def C166 : Con El := mkCon 166 C166p (fun i_ => pairing_Fall i_.1.2.2 i_.2.1 i_.2.2.1) 0 0 (fun i_ t ns_ as_ => .int .i64 t) (fun i_ t ns_ as_ => arena_Arena.D.flat i_.1.1 i_.1.2.1 i_.1.2.2)

theorem S166 : (C166).Sound Tryz.prog := none_sound _ fun _ => rfl

noncomputable def K166 : SCon El Tryz.prog := ⟨C166, S166, Tryz.call166⟩

noncomputable abbrev C120p : List (PK El) := [pI .i64, pO arena_Arena.D, pI .i64, pI .i64]
noncomputable def C120 (k : Nat) : Con El := mkCon 120 C120p (fun i_ => kind_Fall k i_.1 i_.2.1.2.2 i_.2.2.1 i_.2.2.2.1) 0 0 (fun i_ t ns_ as_ => .int .i64 t.1) (fun i_ t ns_ as_ => arena_Arena.D.flat i_.2.1.1 i_.2.1.2.1 t.2)

theorem S120 (k : Nat) : (C120 k).Sound Tryz.prog :=
  fn_sound mixed (C120 k) (n := 41) (rs := rsOf Tryz.prog 120) [] [0, 1, 2, 3] (gj (g2 (gI 8) (gO arena_Arena.D [0, 1, 2, 3])) []) (fun i => (.s (.seg 1 []) (.s (.seg 1 []) (.blk (.s (.seg 2 []) (.cond (.s (.seg 3 []) (.s (.call (K162 k) [.K 0, .K 1, .K 2, .K 3] [0, 1, 2, 3]) (.s (.seg 1 []) .ret))) (.s (.seg 2 []) (.cond (.s (.seg 3 []) (.s (.call (K163 k) [.K 0, .K 1, .K 2, .K 3] [0, 1, 2, 3]) (.s (.seg 1 []) .ret))) (.s (.seg 2 []) (.cond (.s (.seg 3 []) (.s (.call (K164 k) [.K 0, .K 1, .K 2, .K 3] [0, 1, 2, 3]) (.s (.seg 1 []) .ret))) (.s (.seg 2 []) (.cond (.s (.seg 3 []) (.s (.call K165 [.K 0, .K 1, .K 2, .K 3] [0, 1, 2, 3]) (.s (.seg 1 []) .ret))) (.s (.seg 2 []) (.cond (.s (.seg 3 []) (.s (.call K166 [.K 0, .K 1, .K 2, .K 3] [0, 1, 2, 3]) (.s (.seg 1 []) .ret))) (.s (.seg 2 []) .ret))))))))))))))) Tryz.func120 rfl rfl (by kernel_rfl) (fun _ => rfl) (fun i => by kernel_rfl) (fun i s => by kernel_rfl)

noncomputable def K120 (k : Nat) : SCon El Tryz.prog := ⟨C120 k, S120 k, Tryz.call120⟩

noncomputable abbrev C80p : List (PK El) := [pO pq_Queues.D, pV api_Call.dv api_Call.val]
noncomputable def C80 (k : Nat) : Con El := mkCon 80 C80p (fun i_ => pq_Queues_decrease k i_.1.2.2 i_.2.1) 0 0 (fun i_ t ns_ as_ => .agg #[.int .i64 t.1.Why, .int .i64 t.1.Heap.At, .int .i64 t.1.Heap.Gen, .int .i64 t.1.Item.At, .int .i64 t.1.Item.Gen, .int .i64 t.1.Entry.Key, .int .i64 t.1.Entry.Serial, .int .i64 t.1.N]) (fun i_ t ns_ as_ => pq_Queues.D.flat i_.1.1 i_.1.2.1 t.2)

theorem S80 (k : Nat) : (C80 k).Sound Tryz.prog :=
  fn_sound mixed (C80 k) (n := 99) (rs := rsOf Tryz.prog 80) [.C 2000 0, .C 2000 1, .C 2000 2, .C 2000 3, .C 2000 4, .C 2000 5, .C 2000 6, .C 2000 7] [0, 1, 2, 3, 4, 5, 6, 7, 8, 9, 10, 11, 12, 13] (gj (g2 (gC 2000 0 8 api_Answer.dec) (gO pq_Queues.D [0, 1, 2, 3, 4, 5, 6, 7, 8, 9, 10, 11, 12, 13])) []) (fun i => (.s (.new 14 []) (.s (.new 15 []) (.drw (.q [0, 1, 2, 3, 4, 5] [.C 0 2, .C 14 6, .C 14 7] (.a 6 (.call K117 [.K 5, .K 6, .K 7, .K 8, .K 9, .K 10, .K 11, .K 12] [5, 6, 7, 8, 9, 10, 11, 12]) [] (.q [7, 8, 9, 10, 11] [] (.jg (api_Entry) 1 0 (gj (gC 18 0 2 api_Entry.dec) [nPk 18]) (fun st_ s_ ns_ as_ => ([(7, .pointer (some ⟨(nn ns_ 0), 0, none⟩))] ++ kp [0, 3, 4, 5, 6] st_, ka [0, 1, 2, 3, 4, 5, 6, 7, 8, 9, 10, 11, 12, 13, 15, 14] st_ ++ zipL [18] [.blk (nn ns_ 0) 120 [.int .i64 s_.Key, .int .i64 s_.Serial]])) (.drw (.q [0, 1, 2, 3, 4, 5] [.C 0 3, .C 14 6, .C 14 7] (.alt2 6 (.mget 13 1 31 api_Ref.key_ok (api_Entry.mk 0 0)) [] (.a 7 (.new 19 []) [] (.a 8 (.sto 19) [] (.rk [(19, 18), (18, 90018)] .leaf))) 7 (.new 20 []) [.C 14 6, .C 14 7, .C 0 3] (.a 6 (.mget 13 1 31 api_Ref.key_ok (api_Entry.mk 0 0)) [] (.a 8 (.sto 20) [] (.rk [(20, 18), (18, 90018)] .leaf)))))) (.blk (.s (.seg 3 []) (.cond (.s (.seg 1 []) (.s (.call K85 [] []) (.s (.sto 15) (.rk [(15, 2000), (2000, 92000)] .ret)))) (.s (.seg 6 [.C 14 8, .C 18 0]) (.cond (.s (.call K85 [] []) (.s (.sto 15) (.rk [(15, 2000), (2000, 92000)] .ret))) (.jg (api_Ref) 1 0 (gj (gC 23 0 2 api_Ref.dec) [nPk 23]) (fun st_ s_ ns_ as_ => ([(8, .pointer (some ⟨(nn ns_ 0), 0, none⟩))] ++ kp [0, 3, 4, 5, 7] st_, ka [18, 0, 1, 2, 3, 4, 5, 6, 7, 8, 9, 10, 11, 12, 13, 15, 14] st_ ++ zipL [23] [.blk (nn ns_ 0) 31 [.int .i64 s_.At, .int .i64 s_.Gen]])) (.drw (.q [0, 1, 2, 3, 4, 5] [.C 0 2, .C 14 6, .C 14 7] (.alt2 6 (.call K118 [.K 5, .K 6, .K 7, .K 8, .K 9, .K 10, .K 11, .K 12] [5, 6, 7, 8, 9, 10, 11, 12]) [] (.q [7, 8, 9] [] (.a 10 (.new 24 []) [] (.a 11 (.sto 24) [] (.q [12] [] (.rk [(24, 23), (23, 90023)] .leaf))))) 10 (.new 25 []) [.C 14 6, .C 14 7, .C 0 2] (.a 6 (.call K118 [.K 5, .K 6, .K 7, .K 8, .K 9, .K 10, .K 11, .K 12] [5, 6, 7, 8, 9, 10, 11, 12]) [] (.q [7, 8, 9] [] (.a 11 (.sto 25) [] (.q [12] [] (.rk [(25, 23), (23, 90023)] .leaf)))))))) (.drw (.q [0, 1, 2, 3, 4] [.C 0 2, .C 23 0, .C 23 1] (.a 5 (.call K83 [.K 5, .K 6, .K 7, .K 8, .K 9, .K 10, .K 11, .K 12] [5, 6, 7, 8, 9, 10, 11, 12]) [] (.q [6, 7, 8, 9, 10, 11, 12, 13, 14] [] (.drw (.q [0, 1, 2, 3, 4, 5, 6] [.C 0 1, .C 14 8] (.a 7 (.call K119 [.K 1, .K 2, .K 3, .K 4] [1, 2, 3, 4]) [] (.drw (.q [0, 1, 2, 3, 4, 5, 6, 7, 8, 9, 10, 11, 13] [.C 0 2, .C 23 0, .C 23 1, .C 0 1] (.a 12 (.call (K120 k) [.K 1, .K 2, .K 3, .K 4] [1, 2, 3, 4]) [.C 23 0, .C 23 1, .C 0 2] (.a 14 (.call K112 [.K 5, .K 6, .K 7, .K 8, .K 9, .K 10, .K 11, .K 12] [5, 6, 7, 8, 9, 10, 11, 12]) [] (.s (.seg 3 [.C 14 8]) (.s (.sto 18) (.drw (.q [0, 1, 2, 3, 4, 5, 6] [.C 0 3, .C 14 6, .C 14 7, .C 18 0, .C 18 1] (.a 7 (.mput 13 1 31 api_Ref.key_ok) [] (.s (.seg 2 [.C 18 0, .C 18 1]) (.s (.sto 15) (.rk [(15, 2000), (2000, 92000)] .ret))))))))))))))))))))))))))))))))) Tryz.func80 rfl rfl (by kernel_rfl) (fun _ => rfl) (fun i => by kernel_rfl) (fun i s => by kernel_rfl)

noncomputable def K80 (k : Nat) : SCon El Tryz.prog := ⟨C80 k, S80 k, Tryz.call80⟩

noncomputable abbrev C167p : List (PK El) := [pO arena_Arena.D, pI .i64, pI .i64]
noncomputable def C167 (k : Nat) : Con El := mkCon 167 C167p (fun i_ => leftist_Cut k i_.1.2.2 i_.2.1 i_.2.2.1) 1 1 (fun i_ t ns_ as_ => .int .i64 t.1) (fun i_ t ns_ as_ => arena_Arena.D.flat i_.1.1 (arena_Arena.A.mk i_.1.2.1.l_b i_.1.2.1.l_c (na as_ 0) (nn ns_ 0) i_.1.2.1.m__p) t.2)

theorem S167 (k : Nat) : (C167 k).Sound Tryz.prog :=
  fn_sound mixed (C167 k) (n := 49) (rs := rsOf Tryz.prog 167) [] [0, 1, 2, 3] (gj (g2 (gI 6) (gO arena_Arena.D [0, 1, 2, 3])) [nA arena_Arena.D [0, 1, 2, 3] (fun al => ([al.free_c], [al.free_b]))]) (fun i => (.s (.seg 1 []) (.s (.seg 2 []) (.condF (.s (.seg 2 []) (.s (.call K215 [.K 0, .K 1, .K 2, .K 3] [0, 1, 2, 3]) (.s (.seg 1 []) (.s (.seg 2 []) (.cond (.s (.seg 2 []) .ret) (.join (Bool × arena_Arena) 0 0 (gj (g2 (gB 28) (gO arena_Arena.D [0, 1, 2, 3])) []) (fun st_ s_ ns_ as_ => match (g2 (gP 0) (gA arena_Arena.D [0, 1, 2, 3])) st_ with | some x_ => ([(28, .bool s_.1)] ++ kp [0, 1, 7] st_, ka [] st_ ++ zipL [0, 1, 2, 3] (arena_Arena.D.flat (x_.1) (x_.2) s_.2)) | none => ([], [])) (.s (.seg 4 []) (.split 23 (.s (.seg 5 []) .leaf) (.s (.seg 2 []) (.s (.call K204 [.K 0, .K 1, .K 2, .K 3] [0, 1, 2, 3]) (.s (.seg 2 []) .leaf))))) (.cond (.s (.seg 2 []) (.s (.call (K153 k) [.K 0, .K 1, .K 2, .K 3] [0, 1, 2, 3]) (.s (.seg 5 []) (.s (.seg 2 []) .ret)))) (.s (.seg 2 []) (.s (.call (K216 k) [.K 0, .K 1, .K 2, .K 3] [0, 1, 2, 3]) (.s (.seg 2 []) (.s (.call (K153 k) [.K 0, .K 1, .K 2, .K 3] [0, 1, 2, 3]) (.s (.seg 5 []) (.s (.seg 3 []) (.s (.call (K196 k) [.K 0, .K 1, .K 2, .K 3] [0, 1, 2, 3]) (.s (.seg 1 []) .ret))))))))))))))))))) Tryz.func167 rfl rfl (by kernel_rfl) (fun _ => rfl) (fun i => by kernel_rfl) (fun i s => by kernel_rfl)

noncomputable def K167 (k : Nat) : SCon El Tryz.prog := ⟨C167 k, S167 k, Tryz.call167⟩

noncomputable abbrev C253p : List (PK El) := [pR 1, pI .i64]
noncomputable def C253 (k : Nat) : Con El := mkCon 253 C253p (fun i_ => slices_Index_int k i_.1.2.2 i_.2.1) 0 0 (fun i_ t ns_ as_ => .int .i64 t) (fun i_ t ns_ as_ => [])

noncomputable abbrev C253r (k : Nat) (i : Ins C253p) : Kn El → VC (C253 k).T := retC Tryz.prog (C253 k) (rsOf Tryz.prog 253) [] [] (gj (gI 4) []) i

noncomputable def C253l0 (i_ : Ins C253p) : BCon El (Int) := ⟨nav [1, 0, 1] (bodyOf Tryz.prog 253), Int, Int, Unit, (Int) ⊕ (Unit), fun r => r, fun _ _ => none, fun x_ => [(0, ⟨1, i_.1.1, i_.1.2.1, i_.1.2.2⟩)], fun x_ v_ ns_ as_ => [(0, .slice i_.1.1 i_.1.2.2.length i_.1.2.1), (1, .int .i64 i_.2.1), (7, .int .i64 (x_)), (8, .int .i64 v_)], fun x_ v_ ns_ as_ => [], 0, 0, fun x_ u_ ns_ as_ => [], fun x_ u_ ns_ as_ => []⟩

noncomputable def C253l0g (k : Nat) (i_ : Ins C253p) : Nat → (C253l0 i_).X → (C253l0 i_).V → Option (C253l0 i_).W := fun m_ (x_ : Int) (v_ : Int) => slices_Index_int_l0 i_.2.1 (x_) i_.1.2.2 m_ v_

theorem C253l0s (k : Nat) (i : Ins C253p) (m : Nat) : ((C253l0 i).at (C253l0g k i) m).Sound Tryz.prog 253 19 (C253r k i) :=
  loop_sound mixed (C253l0 i) (id := 0) (body := nav [1, 0, 1, 0, 0] (bodyOf Tryz.prog 253)) (C253l0g k i) (fun r => some (.inl r)) (fun u => .inr u) (gj (gI 8) []) (gj gU []) (fun m => (.s (.seg 1 []) (.cond (.blk (.s (.seg 2 []) (.s (.seg 3 []) (.s (.idx true 0 (.tmp 13) 2) (.s (.seg 3 [.A 2, .R 2 0]) (.cond (.s (.seg 2 []) .ret) (.s (.seg 2 []) .back))))))) .leaf))) (by kernel_rfl) (fun _ _ => rfl) (fun r y h => by cases h; rfl) (fun u => rfl) (fun m x v n1 n2 => by kernel_rfl) (fun m x v n1 n2 s => by kernel_rfl) m

theorem S253 (k : Nat) : (C253 k).Sound Tryz.prog :=
  fn_sound mixed (C253 k) (n := 19) (rs := rsOf Tryz.prog 253) [] [] (gj (gI 4) []) (fun i => (.s (.seg 1 []) (.s (.seg 3 []) (.loop ⟨(C253l0 i).at (C253l0g k i) k, C253l0s k i k⟩ (gl (gI 7) (gI 8) []) (.s (.seg 1 []) .ret))))) Tryz.func253 rfl rfl (by kernel_rfl) (fun _ => rfl) (fun i => by kernel_rfl) (fun i s => by kernel_rfl)

noncomputable def K253 (k : Nat) : SCon El Tryz.prog := ⟨C253 k, S253 k, Tryz.call253⟩

noncomputable abbrev C221p : List (PK El) := [pR 1, pI .i64]
noncomputable def C221 (k : Nat) : Con El := mkCon 221 C221p (fun i_ => slices_Contains_int k i_.1.2.2 i_.2.1) 0 0 (fun i_ t ns_ as_ => .bool t) (fun i_ t ns_ as_ => [])

theorem S221 (k : Nat) : (C221 k).Sound Tryz.prog :=
  fn_sound mixed (C221 k) (n := 9) (rs := rsOf Tryz.prog 221) [] [] (gj (gB 4) []) (fun i => (.s (.seg 1 []) (.s (.seg 2 []) (.s (.call (K253 k) [.R 0] []) (.s (.seg 2 []) .ret))))) Tryz.func221 rfl rfl (by kernel_rfl) (fun _ => rfl) (fun i => by kernel_rfl) (fun i s => by kernel_rfl)

noncomputable def K221 (k : Nat) : SCon El Tryz.prog := ⟨C221 k, S221 k, Tryz.call221⟩

noncomputable abbrev C168p : List (PK El) := [pO arena_Arena.D, pI .i64, pI .i64]
noncomputable def C168 (k : Nat) : Con El := mkCon 168 C168p (fun i_ => binomial_Cut k i_.1.2.2 i_.2.1 i_.2.2.1) 1 1 (fun i_ t ns_ as_ => .int .i64 t.1) (fun i_ t ns_ as_ => arena_Arena.D.flat i_.1.1 (arena_Arena.A.mk i_.1.2.1.l_b i_.1.2.1.l_c (na as_ 0) (nn ns_ 0) i_.1.2.1.m__p) t.2)

theorem S168 (k : Nat) : (C168 k).Sound Tryz.prog :=
  fn_sound mixed (C168 k) (n := 37) (rs := rsOf Tryz.prog 168) [] [0, 1, 2, 3] (gj (g2 (gI 6) (gO arena_Arena.D [0, 1, 2, 3])) [nA arena_Arena.D [0, 1, 2, 3] (fun al => ([al.free_c], [al.free_b]))]) (fun i => (.s (.seg 1 []) (.s (.seg 2 []) (.condF (.s (.seg 2 []) (.s (.call K215 [.K 0, .K 1, .K 2, .K 3] [0, 1, 2, 3]) (.s (.seg 1 []) (.cond (.s (.seg 2 []) .ret) (.s (.seg 2 []) (.s (.call (K217 k) [.K 0, .K 1, .K 2, .K 3] [0, 1, 2, 3]) (.s (.seg 1 []) (.s (.seg 2 []) (.s (.call (K198 k) [.K 0, .K 1, .K 2, .K 3] [4, 0, 1, 2, 3]) (.s (.seg 1 []) (.s (.seg 2 []) (.s (.call (K221 k) [.O 4] []) (.s (.seg 1 []) (.cond (.s (.seg 2 []) .ret) (.s (.seg 3 []) (.s (.call (K209 k) [.K 0, .K 1, .K 2, .K 3, .K 4] [0, 1, 2, 3]) (.s (.seg 5 []) (.s (.seg 2 []) .ret)))))))))))))))))))))) Tryz.func168 rfl rfl (by kernel_rfl) (fun _ => rfl) (fun i => by kernel_rfl) (fun i s => by kernel_rfl)

noncomputable def K168 (k : Nat) : SCon El Tryz.prog := ⟨C168 k, S168 k, Tryz.call168⟩

noncomputable abbrev C169p : List (PK El) := [pO arena_Arena.D, pI .i64, pI .i64]
noncomputable def C169 (k : Nat) : Con El := mkCon 169 C169p (fun i_ => skew_Cut k i_.1.2.2 i_.2.1 i_.2.2.1) 1 1 (fun i_ t ns_ as_ => .int .i64 t.1) (fun i_ t ns_ as_ => arena_Arena.D.flat i_.1.1 (arena_Arena.A.mk i_.1.2.1.l_b i_.1.2.1.l_c (na as_ 0) (nn ns_ 0) i_.1.2.1.m__p) t.2)

theorem S169 (k : Nat) : (C169 k).Sound Tryz.prog :=
  fn_sound mixed (C169 k) (n := 37) (rs := rsOf Tryz.prog 169) [] [0, 1, 2, 3] (gj (g2 (gI 6) (gO arena_Arena.D [0, 1, 2, 3])) [nA arena_Arena.D [0, 1, 2, 3] (fun al => ([al.free_c], [al.free_b]))]) (fun i => (.s (.seg 1 []) (.s (.seg 2 []) (.condF (.s (.seg 2 []) (.s (.call K215 [.K 0, .K 1, .K 2, .K 3] [0, 1, 2, 3]) (.s (.seg 1 []) (.cond (.s (.seg 2 []) .ret) (.s (.seg 2 []) (.s (.call (K217 k) [.K 0, .K 1, .K 2, .K 3] [0, 1, 2, 3]) (.s (.seg 1 []) (.s (.seg 2 []) (.s (.call (K198 k) [.K 0, .K 1, .K 2, .K 3] [4, 0, 1, 2, 3]) (.s (.seg 1 []) (.s (.seg 2 []) (.s (.call (K221 k) [.O 4] []) (.s (.seg 1 []) (.cond (.s (.seg 2 []) .ret) (.s (.seg 3 []) (.s (.call (K210 k) [.K 0, .K 1, .K 2, .K 3, .K 4] [0, 1, 2, 3]) (.s (.seg 5 []) (.s (.seg 2 []) .ret)))))))))))))))))))))) Tryz.func169 rfl rfl (by kernel_rfl) (fun _ => rfl) (fun i => by kernel_rfl) (fun i s => by kernel_rfl)

noncomputable def K169 (k : Nat) : SCon El Tryz.prog := ⟨C169 k, S169 k, Tryz.call169⟩

noncomputable abbrev C170p : List (PK El) := [pO arena_Arena.D, pI .i64, pI .i64]
noncomputable def C170 : Con El := mkCon 170 C170p (fun i_ => fib_Cut i_.1.2.2 i_.2.1 i_.2.2.1) 0 0 (fun i_ t ns_ as_ => .int .i64 t) (fun i_ t ns_ as_ => arena_Arena.D.flat i_.1.1 i_.1.2.1 i_.1.2.2)

theorem S170 : (C170).Sound Tryz.prog := none_sound _ fun _ => rfl

noncomputable def K170 : SCon El Tryz.prog := ⟨C170, S170, Tryz.call170⟩

noncomputable abbrev C171p : List (PK El) := [pO arena_Arena.D, pI .i64, pI .i64]
noncomputable def C171 : Con El := mkCon 171 C171p (fun i_ => pairing_Cut i_.1.2.2 i_.2.1 i_.2.2.1) 0 0 (fun i_ t ns_ as_ => .int .i64 t) (fun i_ t ns_ as_ => arena_Arena.D.flat i_.1.1 i_.1.2.1 i_.1.2.2)

theorem S171 : (C171).Sound Tryz.prog := none_sound _ fun _ => rfl

noncomputable def K171 : SCon El Tryz.prog := ⟨C171, S171, Tryz.call171⟩

noncomputable abbrev C121p : List (PK El) := [pI .i64, pO arena_Arena.D, pI .i64, pI .i64]
noncomputable def C121 (k : Nat) : Con El := mkCon 121 C121p (fun i_ => kind_Cut k i_.1 i_.2.1.2.2 i_.2.2.1 i_.2.2.2.1) 1 1 (fun i_ t ns_ as_ => .int .i64 t.1) (fun i_ t ns_ as_ => arena_Arena.D.flat i_.2.1.1 (arena_Arena.A.mk i_.2.1.2.1.l_b i_.2.1.2.1.l_c (na as_ 0) (nn ns_ 0) i_.2.1.2.1.m__p) t.2)

theorem S121 (k : Nat) : (C121 k).Sound Tryz.prog :=
  fn_sound mixed (C121 k) (n := 41) (rs := rsOf Tryz.prog 121) [] [0, 1, 2, 3] (gj (g2 (gI 8) (gO arena_Arena.D [0, 1, 2, 3])) [nA arena_Arena.D [0, 1, 2, 3] (fun al => ([al.free_c], [al.free_b]))]) (fun i => (.s (.seg 1 []) (.s (.seg 1 []) (.blk (.s (.seg 2 []) (.cond (.s (.seg 3 []) (.s (.call (K167 k) [.K 0, .K 1, .K 2, .K 3] [0, 1, 2, 3]) (.s (.seg 1 []) .ret))) (.s (.seg 2 []) (.cond (.s (.seg 3 []) (.s (.call (K168 k) [.K 0, .K 1, .K 2, .K 3] [0, 1, 2, 3]) (.s (.seg 1 []) .ret))) (.s (.seg 2 []) (.cond (.s (.seg 3 []) (.s (.call (K169 k) [.K 0, .K 1, .K 2, .K 3] [0, 1, 2, 3]) (.s (.seg 1 []) .ret))) (.s (.seg 2 []) (.cond (.s (.seg 3 []) (.s (.call K170 [.K 0, .K 1, .K 2, .K 3] [0, 1, 2, 3]) (.s (.seg 1 []) .ret))) (.s (.seg 2 []) (.cond (.s (.seg 3 []) (.s (.call K171 [.K 0, .K 1, .K 2, .K 3] [0, 1, 2, 3]) (.s (.seg 1 []) .ret))) (.s (.seg 2 []) .ret))))))))))))))) Tryz.func121 rfl rfl (by kernel_rfl) (fun _ => rfl) (fun i => by kernel_rfl) (fun i s => by kernel_rfl)

noncomputable def K121 (k : Nat) : SCon El Tryz.prog := ⟨C121 k, S121 k, Tryz.call121⟩

noncomputable abbrev C81p : List (PK El) := [pO pq_Queues.D, pV api_Ref.dv api_Ref.val]
noncomputable def C81 (k : Nat) : Con El := mkCon 81 C81p (fun i_ => pq_Queues_remove k i_.1.2.2 i_.2.1) 10 6 (fun i_ t ns_ as_ => .agg #[.int .i64 t.1.Why, .int .i64 t.1.Heap.At, .int .i64 t.1.Heap.Gen, .int .i64 t.1.Item.At, .int .i64 t.1.Item.Gen, .int .i64 t.1.Entry.Key, .int .i64 t.1.Entry.Serial, .int .i64 t.1.N]) (fun i_ t ns_ as_ => pq_Queues.D.flat i_.1.1 (pq_Queues.A.mk i_.1.2.1.a__p (arena_Arena.A.mk (na as_ 0) (nn ns_ 0) (na as_ 1) (nn ns_ 1) (nn ns_ 2)) i_.1.2.1.t__p (slots_Table.A.mk (nn ns_ 3) (pool_Pool_slots_heap.A.mk (na as_ 2) (nn ns_ 4) (na as_ 3) (nn ns_ 5)) (nn ns_ 6) (pool_Pool_slots_thing.A.mk (na as_ 4) (nn ns_ 7) (na as_ 5) (nn ns_ 8)) (nn ns_ 9)) i_.1.2.1.entries_p) t.2)

theorem S81 (k : Nat) : (C81 k).Sound Tryz.prog :=
  fn_sound mixed (C81 k) (n := 66) (rs := rsOf Tryz.prog 81) [.C 2000 0, .C 2000 1, .C 2000 2, .C 2000 3, .C 2000 4, .C 2000 5, .C 2000 6, .C 2000 7] [0, 1, 2, 3, 4, 5, 6, 7, 8, 9, 10, 11, 12, 13] (gj (g2 (gC 2000 0 8 api_Answer.dec) (gO pq_Queues.D [0, 1, 2, 3, 4, 5, 6, 7, 8, 9, 10, 11, 12, 13])) [nA pq_Queues.D [0, 1, 2, 3, 4, 5, 6, 7, 8, 9, 10, 11, 12, 13] (fun al => ([al.a__a.l_c, al.a__a.free_c, al.a__a.m__p, al.t__a.heaps_p, al.t__a.heaps_a.l_c, al.t__a.heaps_a.free_c, al.t__a.items_p, al.t__a.items_a.l_c, al.t__a.items_a.free_c, al.t__a.at__p], [al.a__a.l_b, al.a__a.free_b, al.t__a.heaps_a.l_b, al.t__a.heaps_a.free_b, al.t__a.items_a.l_b, al.t__a.items_a.free_b]))]) (fun i => (.s (.new 14 []) (.s (.new 15 []) (.drw (.q [0, 1, 2, 3, 4] [.C 0 2, .C 14 0, .C 14 1] (.a 5 (.call K117 [.K 5, .K 6, .K 7, .K 8, .K 9, .K 10, .K 11, .K 12] [5, 6, 7, 8, 9, 10, 11, 12]) [] (.q [6, 7, 8, 9, 10] [] (.s (.seg 2 []) (.cond (.s (.seg 1 []) (.s (.call K85 [] []) (.s (.sto 15) (.rk [(15, 2000), (2000, 92000)] .ret)))) (.jg (api_Ref) 1 0 (gj (gC 18 0 2 api_Ref.dec) [nPk 18]) (fun st_ s_ ns_ as_ => ([(7, .pointer (some ⟨(nn ns_ 0), 0, none⟩))] ++ kp [0, 3, 4, 5] st_, ka [0, 1, 2, 3, 4, 5, 6, 7, 8, 9, 10, 11, 12, 13, 15, 14] st_ ++ zipL [18] [.blk (nn ns_ 0) 31 [.int .i64 s_.At, .int .i64 s_.Gen]])) (.drw (.q [0, 1, 2, 3, 4] [.C 0 2, .C 14 0, .C 14 1] (.alt2 5 (.call K118 [.K 5, .K 6, .K 7, .K 8, .K 9, .K 10, .K 11, .K 12] [5, 6, 7, 8, 9, 10, 11, 12]) [] (.q [6, 7, 8] [] (.a 9 (.new 19 []) [] (.a 10 (.sto 19) [] (.q [11] [] (.rk [(19, 18), (18, 90018)] .leaf))))) 9 (.new 20 []) [.C 14 0, .C 14 1, .C 0 2] (.a 5 (.call K118 [.K 5, .K 6, .K 7, .K 8, .K 9, .K 10, .K 11, .K 12] [5, 6, 7, 8, 9, 10, 11, 12]) [] (.q [6, 7, 8] [] (.a 10 (.sto 20) [] (.q [11] [] (.rk [(20, 18), (18, 90018)] .leaf)))))))) (.drw (.q [0, 1, 2, 3, 4] [.C 0 2, .C 18 0, .C 18 1] (.a 5 (.call K83 [.K 5, .K 6, .K 7, .K 8, .K 9, .K 10, .K 11, .K 12] [5, 6, 7, 8, 9, 10, 11, 12]) [] (.q [6, 7, 8, 9, 10, 11, 12, 13, 14] [] (.drw (.q [0, 1, 2, 3, 4, 5, 6, 7, 8, 9, 10, 11, 13, 14] [.C 0 2, .C 18 0, .C 18 1, .C 0 1] (.a 12 (.call (K121 k) [.K 1, .K 2, .K 3, .K 4] [1, 2, 3, 4]) [.C 18 0, .C 18 1, .C 0 2] (.a 15 (.call K112 [.K 5, .K 6, .K 7, .K 8, .K 9, .K 10, .K 11, .K 12] [5, 6, 7, 8, 9, 10, 11, 12]) [] (.s (.seg 2 [.C 14 0, .C 14 1]) (.s (.call K116 [.K 0, .K 1, .K 2, .K 3, .K 4, .K 5, .K 6, .K 7, .K 8, .K 9, .K 10, .K 11, .K 12, .K 13] [0, 1, 2, 3, 4, 5, 6, 7, 8, 9, 10, 11, 12, 13]) (.s (.seg 1 []) (.s (.sto 15) (.rk [(15, 2000), (2000, 92000)] .ret))))))))))))))))))))))) Tryz.func81 rfl rfl (by kernel_rfl) (fun _ => rfl) (fun i => by kernel_rfl) (fun i s => by kernel_rfl)

noncomputable def K81 (k : Nat) : SCon El Tryz.prog := ⟨C81 k, S81 k, Tryz.call81⟩

noncomputable abbrev C185p : List (PK El) := [pO pool_Pool_slots_thing.D]
noncomputable def C185 (k : Nat) : Con El := mkCon 185 C185p (fun i_ => pool_Pool_slots_thing_All k i_.1.2.2) 1 1 (fun i_ t ns_ as_ => .slice (na as_ 0) t.length (nn ns_ 0)) (fun i_ t ns_ as_ => [.sl 6 31 (na as_ 0) (nn ns_ 0) t] ++ pool_Pool_slots_thing.D.flat i_.1.1 i_.1.2.1 i_.1.2.2)

noncomputable abbrev C185r (k : Nat) (i : Ins C185p) : Kn El → VC (C185 k).T := retC Tryz.prog (C185 k) (rsOf Tryz.prog 185) [] [1000, 0, 1, 2] (gj (gL 6 1000) [nSk 1000]) i

noncomputable def C185l0 (i_ : Ins C185p) : BCon El ((List api_Ref)) := ⟨nav [1, 1, 0, 1] (bodyOf Tryz.prog 185), Int, (List api_Ref) × Int, (List api_Ref), (List api_Ref), fun u => .inr u, fun _ _ => none, fun x_ => [], fun x_ v_ ns_ as_ => [(3, .slice (na as_ 0) v_.1.length (nn ns_ 0)), (9, .slice i_.1.2.1.l_b i_.1.2.2.l.length i_.1.2.1.l_c), (10, .int .i64 (x_)), (11, .int .i64 v_.2)], fun x_ v_ ns_ as_ => zipL [16] [.sl 6 31 (na as_ 0) (nn ns_ 0) v_.1] ++ zipL [0, 1, 2] (pool_Pool_slots_thing.D.flat i_.1.1 i_.1.2.1 i_.1.2.2), 1, 1, fun x_ u_ ns_ as_ => [(3, .slice (na as_ 0) u_.length (nn ns_ 0))], fun x_ u_ ns_ as_ => zipL [15] [.sl 6 31 (na as_ 0) (nn ns_ 0) u_] ++ zipL [0, 1, 2] (pool_Pool_slots_thing.D.flat i_.1.1 i_.1.2.1 i_.1.2.2)⟩

noncomputable def C185l0g (k : Nat) (i_ : Ins C185p) : Nat → (C185l0 i_).X → (C185l0 i_).V → Option (C185l0 i_).W := fun m_ (x_ : Int) (v_ : (List api_Ref) × Int) => pool_Pool_slots_thing_All_l0 (x_) i_.1.2.2 m_ v_.1 v_.2

theorem C185l0s (k : Nat) (i : Ins C185p) (m : Nat) : ((C185l0 i).at (C185l0g k i) m).Sound Tryz.prog 185 27 (C185r k i) :=
  loop_sound mixed (C185l0 i) (id := 0) (body := nav [1, 1, 0, 1, 0, 0] (bodyOf Tryz.prog 185)) (C185l0g k i) (fun _ => none) (fun u => u) (gj (g2 (gL 6 16) (gI 11)) [nSk 16]) (gj (gL 6 15) [nSk 15]) (fun m => (.s (.seg 1 []) (.cond (.join ((List api_Ref)) 1 1 (gj (gL 6 20) [nSk 20]) (fun st_ s_ ns_ as_ => ([(3, .slice (na as_ 0) s_.length (nn ns_ 0))] ++ kp [9, 10, 11] st_, ka [0, 1, 2] st_ ++ zipL [20] [.sl 6 31 (na as_ 0) (nn ns_ 0) s_])) (.blk (.s (.seg 1 []) (.s (.idx false 1 (.tmp 11) 5) (.s (.seg 2 [.A 5, .X 5 1 0, .X 5 1 1, .X 5 1 2, .X 5 1 3, .X 5 1 4]) (.s (.new 21 []) (.s (.seg 1 []) (.s (.sto 21) (.s (.seg 2 [.C 21 1]) (.cond (.s (.seg 5 [.C 21 0]) (.s (.bld 22 6 31) (.s (.app 16 (.O 22)) (.s (.seg 1 []) (.rk [(16, 20), (20, 90020)] .leaf))))) (.rk [(16, 20), (20, 90020)] .leaf)))))))))) (.s (.seg 2 []) (.rk [(20, 16), (16, 90016)] .back))) (.rk [(16, 15), (15, 90015)] .leaf)))) (by kernel_rfl) (fun _ _ => rfl) (fun r y h => by cases h) (fun u => rfl) (fun m x v n1 n2 => by kernel_rfl) (fun m x v n1 n2 s => by kernel_rfl) m

theorem S185 (k : Nat) : (C185 k).Sound Tryz.prog :=
  fn_sound mixed (C185 k) (n := 27) (rs := rsOf Tryz.prog 185) [] [1000, 0, 1, 2] (gj (gL 6 1000) [nSk 1000]) (fun i => (.s (.seg 1 []) (.s (.seg 1 []) (.s (.seg 6 [.C 0 1]) (.s (.nil 17 6 31) (.rk [(17, 16), (16, 90016)] (.loop ⟨(C185l0 i).at (C185l0g k i) k, C185l0s k i k⟩ (gl (gI 10) (g2 (gL 6 16) (gI 11)) [nSk 16]) (.s (.seg 2 []) (.rk [(15, 1000), (1000, 91000)] .ret))))))))) Tryz.func185 rfl rfl (by kernel_rfl) (fun _ => rfl) (fun i => by kernel_rfl) (fun i s => by kernel_rfl)

noncomputable def K185 (k : Nat) : SCon El Tryz.prog := ⟨C185 k, S185 k, Tryz.call185⟩

noncomputable abbrev C126p : List (PK El) := [pO slots_Table.D, pV api_Ref.dv api_Ref.val]
noncomputable def C126 (k : Nat) : Con El := mkCon 126 C126p (fun i_ => slots_Table_List k i_.1.2.2 i_.2.1) 1 1 (fun i_ t ns_ as_ => .slice (na as_ 0) t.length (nn ns_ 0)) (fun i_ t ns_ as_ => [.sl 6 31 (na as_ 0) (nn ns_ 0) t] ++ slots_Table.D.flat i_.1.1 i_.1.2.1 i_.1.2.2)

noncomputable abbrev C126r (k : Nat) (i : Ins C126p) : Kn El → VC (C126 k).T := retC Tryz.prog (C126 k) (rsOf Tryz.prog 126) [] [1000, 0, 1, 2, 3, 4, 5, 6, 7] (gj (gL 6 1000) [nSk 1000]) i

noncomputable def C126l0 (i_ : Ins C126p) : BCon El ((List api_Ref)) := ⟨nav [1, 1, 0, 1] (bodyOf Tryz.prog 126), (List api_Ref) × (Option Addr × Nat) × Nat × Int, (List api_Ref) × Int, (List api_Ref), (List api_Ref), fun u => .inr u, fun _ _ => none, fun x_ => [], fun x_ v_ ns_ as_ => [(0, .pointer (some ⟨i_.1.1, 0, none⟩)), (3, .pointer (some ⟨x_.2.2.1, 0, none⟩)), (5, .slice (na as_ 0) v_.1.length (nn ns_ 0)), (14, .slice (x_.2.1.1) (x_.1).length (x_.2.1.2)), (15, .int .i64 (x_.2.2.2)), (16, .int .i64 v_.2)], fun x_ v_ ns_ as_ => zipL [39] [.sl 6 31 (na as_ 0) (nn ns_ 0) v_.1] ++ zipL [0, 1, 2, 3, 4, 5, 6, 7] (slots_Table.D.flat i_.1.1 i_.1.2.1 i_.1.2.2) ++ zipL [9] [.sl 6 31 (x_.2.1.1) (x_.2.1.2) (x_.1)] ++ zipL [8] [.blk (x_.2.2.1) 31 [.int .i64 i_.2.1.At, .int .i64 i_.2.1.Gen]], 1, 1, fun x_ u_ ns_ as_ => [(5, .slice (na as_ 0) u_.length (nn ns_ 0))], fun x_ u_ ns_ as_ => zipL [38] [.sl 6 31 (na as_ 0) (nn ns_ 0) u_] ++ zipL [0, 1, 2, 3, 4, 5, 6, 7] (slots_Table.D.flat i_.1.1 i_.1.2.1 i_.1.2.2)⟩

noncomputable def C126l0g (k : Nat) (i_ : Ins C126p) : Nat → (C126l0 i_).X → (C126l0 i_).V → Option (C126l0 i_).W := fun m_ (x_ : (List api_Ref) × (Option Addr × Nat) × Nat × Int) (v_ : (List api_Ref) × Int) => slots_Table_List_l0 (x_.2.2.2) i_.1.2.2 (x_.1) i_.2.1.At i_.2.1.Gen m_ v_.1 v_.2

theorem C126l0s (k : Nat) (i : Ins C126p) (m : Nat) : ((C126l0 i).at (C126l0g k i) m).Sound Tryz.prog 126 39 (C126r k i) :=
  loop_sound mixed (C126l0 i) (id := 0) (body := nav [1, 1, 0, 1, 0, 0] (bodyOf Tryz.prog 126)) (C126l0g k i) (fun _ => none) (fun u => u) (gj (g2 (gL 6 39) (gI 16)) [nSk 39]) (gj (gL 6 38) [nSk 38]) (fun m => (.s (.seg 1 []) (.cond (.join ((List api_Ref)) 1 1 (gj (gL 6 47) [nSk 47]) (fun st_ s_ ns_ as_ => ([(5, .slice (na as_ 0) s_.length (nn ns_ 0))] ++ kp [0, 3, 14, 15, 16] st_, ka [0, 1, 2, 3, 4, 5, 6, 7, 9, 8] st_ ++ zipL [47] [.sl 6 31 (na as_ 0) (nn ns_ 0) s_])) (.blk (.s (.idx false 9 (.tmp 16) 5) (.s (.seg 2 [.A 5, .X 5 9 0, .X 5 9 1]) (.s (.new 48 []) (.s (.sto 48) (.jg (slots_thing) 1 0 (gj (gC 51 0 3 slots_thing.dec) [nPk 51]) (fun st_ s_ ns_ as_ => ([(8, .pointer (some ⟨(nn ns_ 0), 0, none⟩))] ++ kp [0, 3, 5, 7, 14, 15, 16] st_, ka [48, 39, 0, 1, 2, 3, 4, 5, 6, 7, 9, 8] st_ ++ zipL [51] [.blk (nn ns_ 0) 200 [.int .i64 s_.cell, .int .i64 s_.heap.At, .int .i64 s_.heap.Gen]])) (.drw (.q [0, 1, 2, 3, 4] [.C 0 1, .C 48 0, .C 48 1] (.alt2 5 (.call K160 [.K 4, .K 5, .K 6] [4, 5, 6]) [] (.q [6, 7, 8] [] (.a 9 (.new 52 []) [] (.a 10 (.sto 52) [] (.q [11] [] (.rk [(52, 51), (51, 90051)] .leaf))))) 9 (.new 53 []) [.C 48 0, .C 48 1, .C 0 1] (.a 5 (.call K160 [.K 4, .K 5, .K 6] [4, 5, 6]) [] (.q [6, 7, 8] [] (.a 10 (.sto 53) [] (.q [11] [] (.rk [(53, 51), (51, 90051)] .leaf)))))))) (.s (.seg 3 [.C 51 1, .C 51 2, .C 8 0, .C 8 1]) (.s (.eqs api_Ref.eqD) (.cond (.s (.seg 2 [.C 48 0, .C 48 1]) (.s (.bld 54 6 31) (.s (.app 39 (.O 54)) (.s (.seg 1 []) (.rk [(39, 47), (47, 90047)] .leaf))))) (.rk [(39, 47), (47, 90047)] .leaf)))))))))) (.s (.seg 2 []) (.rk [(47, 39), (39, 90039)] .back))) (.rk [(39, 38), (38, 90038)] .leaf)))) (by kernel_rfl) (fun _ _ => rfl) (fun r y h => by cases h) (fun u => rfl) (fun m x v n1 n2 => by kernel_rfl) (fun m x v n1 n2 s => by kernel_rfl) m

theorem S126 (k : Nat) : (C126 k).Sound Tryz.prog :=
  fn_sound mixed (C126 k) (n := 39) (rs := rsOf Tryz.prog 126) [] [1000, 0, 1, 2, 3, 4, 5, 6, 7] (gj (gL 6 1000) [nSk 1000]) (fun i => (.s (.new 8 []) (.s (.seg 1 []) (.s (.seg 1 []) (.s (.seg 4 [.C 0 1]) (.s (.call (K185 k) [.K 4, .K 5, .K 6] [9, 4, 5, 6]) (.s (.seg 2 []) (.s (.nil 40 6 31) (.rk [(40, 39), (39, 90039)] (.loop ⟨(C126l0 i).at (C126l0g k i) k, C126l0s k i k⟩ (gl (g2 (gL 6 9) (g2 (gh 9) (g2 (gP 8) (gI 15)))) (g2 (gL 6 39) (gI 16)) [nSk 39]) (.s (.seg 2 []) (.rk [(38, 1000), (1000, 91000)] .ret)))))))))))) Tryz.func126 rfl rfl (by kernel_rfl) (fun _ => rfl) (fun i => by kernel_rfl) (fun i s => by kernel_rfl)

noncomputable def K126 (k : Nat) : SCon El Tryz.prog := ⟨C126 k, S126 k, Tryz.call126⟩

noncomputable abbrev C172p : List (PK El) := [pO pool_Pool_slots_thing.D, pV api_Ref.dv api_Ref.val, pV slots_thing.dv slots_thing.val]
noncomputable def C172 : Con El := mkCon 172 C172p (fun i_ => pool_Pool_slots_thing_Set i_.1.2.2 i_.2.1 i_.2.2.1) 0 0 (fun i_ t ns_ as_ => .int .i64 t.1) (fun i_ t ns_ as_ => pool_Pool_slots_thing.D.flat i_.1.1 i_.1.2.1 t.2)

theorem S172 : (C172).Sound Tryz.prog :=
  fn_sound mixed (C172) (n := 22) (rs := rsOf Tryz.prog 172) [] [0, 1, 2] (gj (g2 (gI 6) (gO pool_Pool_slots_thing.D [0, 1, 2])) []) (fun i => (.s (.new 3 []) (.s (.new 4 []) (.s (.seg 1 []) (.s (.seg 2 [.C 3 0, .C 3 1]) (.s (.call K214 [.K 0, .K 1, .K 2] [0, 1, 2]) (.eo 12 0 1 0 (.s (.seg 5 []) (.s (.seg 2 []) (.join (Unit) 0 0 (gj gU []) (fun st_ s_ ns_ as_ => ([] ++ kp [8] st_, ka [0, 1, 2] st_)) (.cond .dead .leaf) (.s (.seg 2 []) .ret)))) (.s (.seg 5 []) (.s (.seg 2 []) (.join (pool_Pool_slots_thing) 0 0 (gj (gO pool_Pool_slots_thing.D [0, 1, 2]) []) (fun st_ s_ ns_ as_ => match (g2 (gP 0) (gA pool_Pool_slots_thing.D [0, 1, 2])) st_ with | some x_ => ([] ++ kp [8] st_, ka [] st_ ++ zipL [0, 1, 2] (pool_Pool_slots_thing.D.flat (x_.1) (x_.2) s_)) | none => ([], [])) (.cond (.s (.seg 4 [.C 4 0, .C 4 1, .C 4 2]) (.s (.sset 1 0 2) (.s (.rlc 0 0 1) .leaf))) .leaf) (.s (.seg 2 []) .ret))))))))))) Tryz.func172 rfl rfl (by kernel_rfl) (fun _ => rfl) (fun i => by kernel_rfl) (fun i s => by kernel_rfl)

noncomputable def K172 : SCon El Tryz.prog := ⟨C172, S172, Tryz.call172⟩

noncomputable abbrev C173p : List (PK El) := [pO pool_Pool_slots_heap.D, pV api_Ref.dv api_Ref.val]
noncomputable def C173 : Con El := mkCon 173 C173p (fun i_ => pool_Pool_slots_heap_Give i_.1.2.2 i_.2.1) 1 1 (fun i_ t ns_ as_ => .tuple #[.agg #[.int .i64 t.1.kind, .int .i64 t.1.root, .int .i64 t.1.n], .int .i64 t.2.1]) (fun i_ t ns_ as_ => pool_Pool_slots_heap.D.flat i_.1.1 (pool_Pool_slots_heap.A.mk i_.1.2.1.l_b i_.1.2.1.l_c (na as_ 0) (nn ns_ 0)) t.2.2)

theorem S173 : (C173).Sound Tryz.prog :=
  fn_sound mixed (C173) (n := 43) (rs := rsOf Tryz.prog 173) [.C 2000 0, .C 2000 1, .C 2000 2] [0, 1, 2] (gj (g2 (gC 2000 0 3 slots_heap.dec) (g2 (gI 5) (gO pool_Pool_slots_heap.D [0, 1, 2]))) [nA pool_Pool_slots_heap.D [0, 1, 2] (fun al => ([al.free_c], [al.free_b]))]) (fun i => (.s (.new 3 []) (.s (.new 4 []) (.s (.seg 1 []) (.s (.new 5 []) (.s (.seg 2 [.C 3 0, .C 3 1]) (.s (.call K179 [.K 0, .K 1, .K 2] [0, 1, 2]) (.eo 13 0 1 0 (.s (.seg 5 []) (.s (.seg 2 []) (.cond (.s (.seg 2 [.C 5 0, .C 5 1, .C 5 2]) (.s (.sto 4) (.s (.seg 1 []) (.rk [(4, 2000), (2000, 92000)] .ret)))) .dead))) (.s (.seg 5 []) (.s (.seg 2 []) (.cond (.s (.seg 2 [.C 5 0, .C 5 1, .C 5 2]) (.s (.sto 4) (.s (.seg 1 []) (.rk [(4, 2000), (2000, 92000)] .ret)))) (.s (.seg 4 [.X 0 1 2, .X 0 1 3, .X 0 1 4]) (.s (.new 6 []) (.s (.sto 6) (.drw (.q [0, 1, 2, 3, 4] [.C 5 0, .C 5 1, .C 5 2] (.a 5 (.sset 1 0 1) [.C 5 0, .C 5 1, .C 5 2] (.s (.rlc 0 0 1) (.q [6, 7] [] (.a 8 (.sset 1 0 2) [] (.s (.rlc 0 0 1) (.drw (.q [0, 1, 2, 3, 4, 5, 6] [.C 0 2, .C 3 0] (.a 7 (.bld 8 1 3) [.C 0 2] (.a 8 (.app 2 (.O 8)) [] (.q [9, 10] [] (.a 11 (.sto 0) [] (.s (.seg 1 [.C 6 0, .C 6 1, .C 6 2]) (.s (.sto 4) (.s (.seg 1 []) (.rk [(4, 2000), (2000, 92000)] .ret))))))))))))))))))))))))))))))) Tryz.func173 rfl rfl (by kernel_rfl) (fun _ => rfl) (fun i => by kernel_rfl) (fun i s => by kernel_rfl)

noncomputable def K173 : SCon El Tryz.prog := ⟨C173, S173, Tryz.call173⟩

noncomputable abbrev C122p : List (PK El) := [pO slots_Table.D, pV api_Ref.dv api_Ref.val, pV api_Ref.dv api_Ref.val]
noncomputable def C122 (k : Nat) : Con El := mkCon 122 C122p (fun i_ => slots_Table_Join k i_.1.2.2 i_.2.1 i_.2.2.1) 2 2 (fun i_ t ns_ as_ => .int .i64 t.1) (fun i_ t ns_ as_ => slots_Table.D.flat i_.1.1 (slots_Table.A.mk i_.1.2.1.heaps_p (pool_Pool_slots_heap.A.mk (na as_ 0) (nn ns_ 0) (na as_ 1) (nn ns_ 1)) i_.1.2.1.items_p i_.1.2.1.items_a i_.1.2.1.at__p) t.2)

noncomputable abbrev C122r (k : Nat) (i : Ins C122p) : Kn El → VC (C122 k).T := retC Tryz.prog (C122 k) (rsOf Tryz.prog 122) [] [0, 1, 2, 3, 4, 5, 6, 7] (gj (g2 (gI 6) (gO slots_Table.D [0, 1, 2, 3, 4, 5, 6, 7])) [nA slots_Table.D [0, 1, 2, 3, 4, 5, 6, 7] (fun al => ([al.heaps_a.l_c, al.heaps_a.free_c], [al.heaps_a.l_b, al.heaps_a.free_b]))]) i

noncomputable def C122l0 (i_ : Ins C122p) : BCon El (Int × slots_Table) := ⟨nav [1, 1, 1, 1, 1, 0, 1] (bodyOf Tryz.prog 122), (List api_Ref) × (Option Addr × Nat) × Nat × Nat × Int, Int × slots_Table, slots_Table, slots_Table, fun u => .inr u, fun _ _ => none, fun x_ => [], fun x_ v_ ns_ as_ => [(0, .pointer (some ⟨i_.1.1, 0, none⟩)), (4, .pointer (some ⟨x_.2.2.2.1, 0, none⟩)), (5, .pointer (some ⟨x_.2.2.1, 0, none⟩)), (51, .slice (x_.2.1.1) (x_.1).length (x_.2.1.2)), (52, .int .i64 (x_.2.2.2.2)), (53, .int .i64 v_.1)], fun x_ v_ ns_ as_ => zipL [20] [.sl 6 31 (x_.2.1.1) (x_.2.1.2) (x_.1)] ++ zipL [0, 1, 2, 3, 4, 5, 6, 7] (slots_Table.D.flat i_.1.1 i_.1.2.1 v_.2) ++ zipL [9] [.blk (x_.2.2.1) 31 [.int .i64 i_.2.2.1.At, .int .i64 i_.2.2.1.Gen]] ++ zipL [8] [.blk (x_.2.2.2.1) 31 [.int .i64 i_.2.1.At, .int .i64 i_.2.1.Gen]], 0, 0, fun x_ u_ ns_ as_ => [(0, .pointer (some ⟨i_.1.1, 0, none⟩)), (5, .pointer (some ⟨x_.2.2.1, 0, none⟩))], fun x_ u_ ns_ as_ => zipL [0, 1, 2, 3, 4, 5, 6, 7] (slots_Table.D.flat i_.1.1 i_.1.2.1 u_) ++ zipL [9] [.blk (x_.2.2.1) 31 [.int .i64 i_.2.2.1.At, .int .i64 i_.2.2.1.Gen]]⟩

noncomputable def C122l0g (k : Nat) (i_ : Ins C122p) : Nat → (C122l0 i_).X → (C122l0 i_).V → Option (C122l0 i_).W := fun m_ (x_ : (List api_Ref) × (Option Addr × Nat) × Nat × Nat × Int) (v_ : Int × slots_Table) => slots_Table_Join_l0 (x_.2.2.2.2) (x_.1) i_.2.2.1.At i_.2.2.1.Gen i_.2.1.At i_.2.1.Gen m_ v_.1 v_.2

theorem C122l0s (k : Nat) (i : Ins C122p) (m : Nat) : ((C122l0 i).at (C122l0g k i) m).Sound Tryz.prog 122 86 (C122r k i) :=
  loop_sound mixed (C122l0 i) (id := 1) (body := nav [1, 1, 1, 1, 1, 0, 1, 0, 0] (bodyOf Tryz.prog 122)) (C122l0g k i) (fun _ => none) (fun u => u) (gj (g2 (gI 53) (gO slots_Table.D [0, 1, 2, 3, 4, 5, 6, 7])) []) (gj (gO slots_Table.D [0, 1, 2, 3, 4, 5, 6, 7]) []) (fun m => (.s (.seg 1 []) (.cond (.blk (.s (.idx false 20 (.tmp 53) 2) (.s (.seg 2 [.A 2, .X 2 20 0, .X 2 20 1]) (.s (.new 31 []) (.s (.sto 31) (.jg (slots_thing) 1 0 (gj (gC 34 0 3 slots_thing.dec) [nPk 34]) (fun st_ s_ ns_ as_ => ([(12, .pointer (some ⟨(nn ns_ 0), 0, none⟩))] ++ kp [0, 4, 5, 11, 51, 52, 53] st_, ka [31, 20, 0, 1, 2, 3, 4, 5, 6, 7, 9, 8] st_ ++ zipL [34] [.blk (nn ns_ 0) 200 [.int .i64 s_.cell, .int .i64 s_.heap.At, .int .i64 s_.heap.Gen]])) (.drw (.q [0, 1, 2, 3, 4] [.C 0 1, .C 31 0, .C 31 1] (.alt2 5 (.call K160 [.K 4, .K 5, .K 6] [4, 5, 6]) [] (.q [6, 7, 8] [] (.a 9 (.new 35 []) [] (.a 10 (.sto 35) [] (.q [11] [] (.rk [(35, 34), (34, 90034)] .leaf))))) 9 (.new 36 []) [.C 31 0, .C 31 1, .C 0 1] (.a 5 (.call K160 [.K 4, .K 5, .K 6] [4, 5, 6]) [] (.q [6, 7, 8] [] (.a 10 (.sto 36) [] (.q [11] [] (.rk [(36, 34), (34, 90034)] .leaf)))))))) (.s (.seg 2 [.C 8 0, .C 8 1]) (.s (.sto 34) (.drw (.q [0, 1, 2, 3, 4, 5] [.C 0 1, .C 31 0, .C 31 1, .C 34 0, .C 34 1, .C 34 2] (.a 6 (.call K172 [.K 4, .K 5, .K 6] [4, 5, 6]) [] (.s (.seg 2 []) .back)))))))))))) .leaf))) (by kernel_rfl) (fun _ _ => rfl) (fun r y h => by cases h) (fun u => rfl) (fun m x v n1 n2 => by kernel_rfl) (fun m x v n1 n2 s => by kernel_rfl) m

theorem S122 (k : Nat) : (C122 k).Sound Tryz.prog :=
  fn_sound mixed (C122 k) (n := 86) (rs := rsOf Tryz.prog 122) [] [0, 1, 2, 3, 4, 5, 6, 7] (gj (g2 (gI 6) (gO slots_Table.D [0, 1, 2, 3, 4, 5, 6, 7])) [nA slots_Table.D [0, 1, 2, 3, 4, 5, 6, 7] (fun al => ([al.heaps_a.l_c, al.heaps_a.free_c], [al.heaps_a.l_b, al.heaps_a.free_b]))]) (fun i => (.s (.new 8 []) (.s (.new 9 []) (.s (.seg 1 []) (.jg (slots_heap × Int) 1 0 (gj (g2 (gC 12 0 3 slots_heap.dec) (gI 8)) [nPk 12]) (fun st_ s_ ns_ as_ => ([(7, .pointer (some ⟨(nn ns_ 0), 0, none⟩)), (8, .int .i64 s_.2)] ++ kp [0, 4, 5] st_, ka [9, 8, 0, 1, 2, 3, 4, 5, 6, 7] st_ ++ zipL [12] [.blk (nn ns_ 0) 196 [.int .i64 s_.1.kind, .int .i64 s_.1.root, .int .i64 s_.1.n]])) (.drw (.q [0, 1, 2, 3, 4] [.C 0 0, .C 8 0, .C 8 1] (.alt2 5 (.call K124 [.K 1, .K 2, .K 3] [1, 2, 3]) [] (.q [6, 7, 8] [] (.a 9 (.new 13 []) [] (.a 10 (.sto 13) [] (.q [11] [] (.rk [(13, 12), (12, 90012)] .leaf))))) 9 (.new 14 []) [.C 8 0, .C 8 1, .C 0 0] (.a 5 (.call K124 [.K 1, .K 2, .K 3] [1, 2, 3]) [] (.q [6, 7, 8] [] (.a 10 (.sto 14) [] (.q [11] [] (.rk [(14, 12), (12, 90012)] .leaf)))))))) (.s (.seg 2 []) (.cond (.s (.seg 2 []) .ret) (.jg (Int × slots_heap) 1 0 (gj (g2 (gI 8) (gC 17 0 3 slots_heap.dec)) [nPk 17]) (fun st_ s_ ns_ as_ => ([(8, .int .i64 s_.1), (9, .pointer (some ⟨(nn ns_ 0), 0, none⟩))] ++ kp [0, 4, 5, 7] st_, ka [12, 9, 8, 0, 1, 2, 3, 4, 5, 6, 7] st_ ++ zipL [17] [.blk (nn ns_ 0) 196 [.int .i64 s_.2.kind, .int .i64 s_.2.root, .int .i64 s_.2.n]])) (.drw (.q [0, 1, 2, 3, 4] [.C 0 0, .C 9 0, .C 9 1] (.alt2 5 (.call K124 [.K 1, .K 2, .K 3] [1, 2, 3]) [] (.q [6, 7, 8] [] (.a 9 (.new 18 []) [] (.a 10 (.sto 18) [] (.q [11] [] (.rk [(18, 17), (17, 90017)] .leaf))))) 9 (.new 19 []) [.C 9 0, .C 9 1, .C 0 0] (.a 5 (.call K124 [.K 1, .K 2, .K 3] [1, 2, 3]) [] (.q [6, 7, 8] [] (.a 10 (.sto 19) [] (.q [11] [] (.rk [(19, 17), (17, 90017)] .leaf)))))))) (.blk (.s (.seg 3 []) (.cond (.s (.seg 2 []) .ret) (.s (.seg 2 [.C 8 0, .C 8 1, .C 9 0, .C 9 1]) (.s (.eqs api_Ref.eqD) (.s (.seg 1 []) (.cond (.s (.seg 1 []) .ret) (.s (.seg 6 [.C 12 0, .C 17 0]) (.cond (.s (.seg 1 []) .ret) (.s (.seg 2 [.C 9 0, .C 9 1]) (.s (.call (K126 k) [.K 0, .K 1, .K 2, .K 3, .K 4, .K 5, .K 6, .K 7] [20, 0, 1, 2, 3, 4, 5, 6, 7]) (.s (.seg 2 []) (.loop ⟨(C122l0 i).at (C122l0g k i) k, C122l0s k i k⟩ (gl (g2 (gL 6 20) (g2 (gh 20) (g2 (gP 9) (g2 (gP 8) (gI 52))))) (g2 (gI 53) (gO slots_Table.D [0, 1, 2, 3, 4, 5, 6, 7])) []) (.drw (.q [0, 1, 2, 3, 4] [.C 0 0, .C 9 0, .C 9 1] (.a 5 (.call K173 [.K 1, .K 2, .K 3] [1, 2, 3]) [] (.q [6, 7, 8, 9] [] (.s (.seg 2 []) .ret)))))))))))))))))))))))))) Tryz.func122 rfl rfl (by kernel_rfl) (fun _ => rfl) (fun i => by kernel_rfl) (fun i s => by kernel_rfl)

noncomputable def K122 (k : Nat) : SCon El Tryz.prog := ⟨C122 k, S122 k, Tryz.call122⟩

noncomputable abbrev C174p : List (PK El) := [pO arena_Arena.D, pI .i64, pI .i64]
noncomputable def C174 (k : Nat) : Con El := mkCon 174 C174p (fun i_ => leftist_Meld k i_.1.2.2 i_.2.1 i_.2.2.1) 0 0 (fun i_ t ns_ as_ => .int .i64 t.1) (fun i_ t ns_ as_ => arena_Arena.D.flat i_.1.1 i_.1.2.1 t.2)

theorem S174 (k : Nat) : (C174 k).Sound Tryz.prog :=
  fn_sound mixed (C174 k) (n := 13) (rs := rsOf Tryz.prog 174) [] [0, 1, 2, 3] (gj (g2 (gI 6) (gO arena_Arena.D [0, 1, 2, 3])) []) (fun i => (.s (.seg 1 []) (.s (.seg 2 []) (.condF (.s (.seg 3 []) (.s (.call (K196 k) [.K 0, .K 1, .K 2, .K 3] [0, 1, 2, 3]) (.s (.seg 1 []) .ret))))))) Tryz.func174 rfl rfl (by kernel_rfl) (fun _ => rfl) (fun i => by kernel_rfl) (fun i s => by kernel_rfl)

noncomputable def K174 (k : Nat) : SCon El Tryz.prog := ⟨C174 k, S174 k, Tryz.call174⟩

noncomputable abbrev C175p : List (PK El) := [pO arena_Arena.D, pI .i64, pI .i64]
noncomputable def C175 (k : Nat) : Con El := mkCon 175 C175p (fun i_ => binomial_Meld k i_.1.2.2 i_.2.1 i_.2.2.1) 0 0 (fun i_ t ns_ as_ => .int .i64 t.1) (fun i_ t ns_ as_ => arena_Arena.D.flat i_.1.1 i_.1.2.1 t.2)

theorem S175 (k : Nat) : (C175 k).Sound Tryz.prog :=
  fn_sound mixed (C175 k) (n := 22) (rs := rsOf Tryz.prog 175) [] [0, 1, 2, 3] (gj (g2 (gI 6) (gO arena_Arena.D [0, 1, 2, 3])) []) (fun i => (.s (.seg 1 []) (.s (.seg 2 []) (.condF (.s (.seg 3 []) (.cond (.s (.seg 2 []) .ret) (.s (.seg 3 []) (.s (.call (K198 k) [.K 0, .K 1, .K 2, .K 3] [4, 0, 1, 2, 3]) (.s (.seg 2 []) (.s (.call (K198 k) [.K 0, .K 1, .K 2, .K 3] [5, 0, 1, 2, 3]) (.s (.app 4 (.O 5)) (.s (.call (K197 k) [.K 0, .K 1, .K 2, .K 3, .O 4] [0, 1, 2, 3]) (.s (.seg 1 []) .ret))))))))))))) Tryz.func175 rfl rfl (by kernel_rfl) (fun _ => rfl) (fun i => by kernel_rfl) (fun i s => by kernel_rfl)

noncomputable def K175 (k : Nat) : SCon El Tryz.prog := ⟨C175 k, S175 k, Tryz.call175⟩

noncomputable abbrev C176p : List (PK El) := [pO arena_Arena.D, pI .i64, pI .i64]
noncomputable def C176 (k : Nat) : Con El := mkCon 176 C176p (fun i_ => skew_Meld k i_.1.2.2 i_.2.1 i_.2.2.1) 0 0 (fun i_ t ns_ as_ => .int .i64 t.1) (fun i_ t ns_ as_ => arena_Arena.D.flat i_.1.1 i_.1.2.1 t.2)

theorem S176 (k : Nat) : (C176 k).Sound Tryz.prog :=
  fn_sound mixed (C176 k) (n := 22) (rs := rsOf Tryz.prog 176) [] [0, 1, 2, 3] (gj (g2 (gI 6) (gO arena_Arena.D [0, 1, 2, 3])) []) (fun i => (.s (.seg 1 []) (.s (.seg 2 []) (.condF (.s (.seg 3 []) (.cond (.s (.seg 2 []) .ret) (.s (.seg 3 []) (.s (.call (K198 k) [.K 0, .K 1, .K 2, .K 3] [4, 0, 1, 2, 3]) (.s (.seg 2 []) (.s (.call (K198 k) [.K 0, .K 1, .K 2, .K 3] [5, 0, 1, 2, 3]) (.s (.app 4 (.O 5)) (.s (.call (K197 k) [.K 0, .K 1, .K 2, .K 3, .O 4] [0, 1, 2, 3]) (.s (.seg 1 []) .ret))))))))))))) Tryz.func176 rfl rfl (by kernel_rfl) (fun _ => rfl) (fun i => by kernel_rfl) (fun i s => by kernel_rfl)

noncomputable def K176 (k : Nat) : SCon El Tryz.prog := ⟨C176 k, S176 k, Tryz.call176⟩

noncomputable abbrev C177p : List (PK El) := [pO arena_Arena.D, pI .i64, pI .i64]
noncomputable def C177 : Con El := mkCon 177 C177p (fun i_ => fib_Meld i_.1.2.2 i_.2.1 i_.2.2.1) 0 0 (fun i_ t ns_ as_ => .int .i64 t) (fun i_ t ns_ as_ => arena_Arena.D.flat i_.1.1 i_.1.2.1 i_.1.2.2)

theorem S177 : (C177).Sound Tryz.prog := none_sound _ fun _ => rfl

noncomputable def K177 : SCon El Tryz.prog := ⟨C177, S177, Tryz.call177⟩

noncomputable abbrev C178p : List (PK El) := [pO arena_Arena.D, pI .i64, pI .i64]
noncomputable def C178 : Con El := mkCon 178 C178p (fun i_ => pairing_Meld i_.1.2.2 i_.2.1 i_.2.2.1) 0 0 (fun i_ t ns_ as_ => .int .i64 t) (fun i_ t ns_ as_ => arena_Arena.D.flat i_.1.1 i_.1.2.1 i_.1.2.2)

theorem S178 : (C178).Sound Tryz.prog := none_sound _ fun _ => rfl

noncomputable def K178 : SCon El Tryz.prog := ⟨C178, S178, Tryz.call178⟩

noncomputable abbrev C123p : List (PK El) := [pI .i64, pO arena_Arena.D, pI .i64, pI .i64]
noncomputable def C123 (k : Nat) : Con El := mkCon 123 C123p (fun i_ => kind_Meld k i_.1 i_.2.1.2.2 i_.2.2.1 i_.2.2.2.1) 0 0 (fun i_ t ns_ as_ => .int .i64 t.1) (fun i_ t ns_ as_ => arena_Arena.D.flat i_.2.1.1 i_.2.1.2.1 t.2)

theorem S123 (k : Nat) : (C123 k).Sound Tryz.prog :=
  fn_sound mixed (C123 k) (n := 41) (rs := rsOf Tryz.prog 123) [] [0, 1, 2, 3] (gj (g2 (gI 8) (gO arena_Arena.D [0, 1, 2, 3])) []) (fun i => (.s (.seg 1 []) (.s (.seg 1 []) (.blk (.s (.seg 2 []) (.cond (.s (.seg 3 []) (.s (.call (K174 k) [.K 0, .K 1, .K 2, .K 3] [0, 1, 2, 3]) (.s (.seg 1 []) .ret))) (.s (.seg 2 []) (.cond (.s (.seg 3 []) (.s (.call (K175 k) [.K 0, .K 1, .K 2, .K 3] [0, 1, 2, 3]) (.s (.seg 1 []) .ret))) (.s (.seg 2 []) (.cond (.s (.seg 3 []) (.s (.call (K176 k) [.K 0, .K 1, .K 2, .K 3] [0, 1, 2, 3]) (.s (.seg 1 []) .ret))) (.s (.seg 2 []) (.cond (.s (.seg 3 []) (.s (.call K177 [.K 0, .K 1, .K 2, .K 3] [0, 1, 2, 3]) (.s (.seg 1 []) .ret))) (.s (.seg 2 []) (.cond (.s (.seg 3 []) (.s (.call K178 [.K 0, .K 1, .K 2, .K 3] [0, 1, 2, 3]) (.s (.seg 1 []) .ret))) (.s (.seg 2 []) .ret))))))))))))))) Tryz.func123 rfl rfl (by kernel_rfl) (fun _ => rfl) (fun i => by kernel_rfl) (fun i s => by kernel_rfl)

noncomputable def K123 (k : Nat) : SCon El Tryz.prog := ⟨C123 k, S123 k, Tryz.call123⟩

noncomputable abbrev C82p : List (PK El) := [pO pq_Queues.D, pV api_Ref.dv api_Ref.val, pV api_Ref.dv api_Ref.val]
noncomputable def C82 (k : Nat) : Con El := mkCon 82 C82p (fun i_ => pq_Queues_meld k i_.1.2.2 i_.2.1 i_.2.2.1) 7 4 (fun i_ t ns_ as_ => .agg #[.int .i64 t.1.Why, .int .i64 t.1.Heap.At, .int .i64 t.1.Heap.Gen, .int .i64 t.1.Item.At, .int .i64 t.1.Item.Gen, .int .i64 t.1.Entry.Key, .int .i64 t.1.Entry.Serial, .int .i64 t.1.N]) (fun i_ t ns_ as_ => pq_Queues.D.flat i_.1.1 (pq_Queues.A.mk i_.1.2.1.a__p i_.1.2.1.a__a i_.1.2.1.t__p (slots_Table.A.mk (nn ns_ 0) (pool_Pool_slots_heap.A.mk (na as_ 0) (nn ns_ 1) (na as_ 1) (nn ns_ 2)) (nn ns_ 3) (pool_Pool_slots_thing.A.mk (na as_ 2) (nn ns_ 4) (na as_ 3) (nn ns_ 5)) (nn ns_ 6)) i_.1.2.1.entries_p) t.2)

theorem S82 (k : Nat) : (C82 k).Sound Tryz.prog :=
  fn_sound mixed (C82 k) (n := 70) (rs := rsOf Tryz.prog 82) [.C 2000 0, .C 2000 1, .C 2000 2, .C 2000 3, .C 2000 4, .C 2000 5, .C 2000 6, .C 2000 7] [0, 1, 2, 3, 4, 5, 6, 7, 8, 9, 10, 11, 12, 13] (gj (g2 (gC 2000 0 8 api_Answer.dec) (gO pq_Queues.D [0, 1, 2, 3, 4, 5, 6, 7, 8, 9, 10, 11, 12, 13])) [nA pq_Queues.D [0, 1, 2, 3, 4, 5, 6, 7, 8, 9, 10, 11, 12, 13] (fun al => ([al.t__a.heaps_p, al.t__a.heaps_a.l_c, al.t__a.heaps_a.free_c, al.t__a.items_p, al.t__a.items_a.l_c, al.t__a.items_a.free_c, al.t__a.at__p], [al.t__a.heaps_a.l_b, al.t__a.heaps_a.free_b, al.t__a.items_a.l_b, al.t__a.items_a.free_b]))]) (fun i => (.s (.new 14 []) (.s (.new 15 []) (.s (.new 16 []) (.drw (.q [0, 1, 2, 3, 4] [.C 0 2, .C 14 0, .C 14 1] (.a 5 (.call K83 [.K 5, .K 6, .K 7, .K 8, .K 9, .K 10, .K 11, .K 12] [5, 6, 7, 8, 9, 10, 11, 12]) [] (.q [6, 7, 8, 9, 10, 11, 12, 13, 14] [] (.drw (.q [0, 1, 2, 3, 4] [.C 0 2, .C 15 0, .C 15 1] (.a 5 (.call K83 [.K 5, .K 6, .K 7, .K 8, .K 9, .K 10, .K 11, .K 12] [5, 6, 7, 8, 9, 10, 11, 12]) [] (.q [6, 7, 8, 9, 10, 11, 12, 13, 14] [] (.drw (.q [0, 1, 2, 3, 4, 5] [.C 0 2, .C 14 0, .C 14 1, .C 15 0, .C 15 1] (.a 6 (.call (K122 k) [.K 5, .K 6, .K 7, .K 8, .K 9, .K 10, .K 11, .K 12] [5, 6, 7, 8, 9, 10, 11, 12]) [] (.q [7] [] (.s (.seg 2 []) (.cond (.s (.seg 1 []) (.s (.call K85 [] []) (.s (.sto 16) (.rk [(16, 2000), (2000, 92000)] .ret)))) (.drw (.q [0, 1, 2, 3, 4, 5, 6, 7, 8, 9, 10, 11, 13, 14, 15] [.C 0 2, .C 14 0, .C 14 1, .C 0 1] (.a 12 (.call (K123 k) [.K 1, .K 2, .K 3, .K 4] [1, 2, 3, 4]) [.C 14 0, .C 14 1, .C 0 2] (.a 16 (.call K112 [.K 5, .K 6, .K 7, .K 8, .K 9, .K 10, .K 11, .K 12] [5, 6, 7, 8, 9, 10, 11, 12]) [] (.s (.seg 4 []) (.s (.sto 16) (.rk [(16, 2000), (2000, 92000)] .ret))))))))))))))))))))))))) Tryz.func82 rfl rfl (by kernel_rfl) (fun _ => rfl) (fun i => by kernel_rfl) (fun i s => by kernel_rfl)

noncomputable def K82 (k : Nat) : SCon El Tryz.prog := ⟨C82 k, S82 k, Tryz.call82⟩

noncomputable abbrev C84p : List (PK El) := [pO pq_Queues.D, pV api_Ref.dv api_Ref.val]
noncomputable def C84 : Con El := mkCon 84 C84p (fun i_ => pq_Queues_destroy i_.1.2.2 i_.2.1) 0 0 (fun i_ t ns_ as_ => .agg #[.int .i64 t.Why, .int .i64 t.Heap.At, .int .i64 t.Heap.Gen, .int .i64 t.Item.At, .int .i64 t.Item.Gen, .int .i64 t.Entry.Key, .int .i64 t.Entry.Serial, .int .i64 t.N]) (fun i_ t ns_ as_ => pq_Queues.D.flat i_.1.1 i_.1.2.1 i_.1.2.2)

theorem S84 : (C84).Sound Tryz.prog := none_sound _ fun _ => rfl

noncomputable def K84 : SCon El Tryz.prog := ⟨C84, S84, Tryz.call84⟩

noncomputable abbrev C53ap : List (PK El) := [pO pq_Queues.D, pV api_Call.dv api_Call.val]
noncomputable def C53a (k : Nat) : Con El := mkCon 53 C53ap (fun i_ => pq_Queues_Do k i_.1.2.2 i_.2.1) 10 6 (fun i_ t ns_ as_ => .agg #[.int .i64 t.1.Why, .int .i64 t.1.Heap.At, .int .i64 t.1.Heap.Gen, .int .i64 t.1.Item.At, .int .i64 t.1.Item.Gen, .int .i64 t.1.Entry.Key, .int .i64 t.1.Entry.Serial, .int .i64 t.1.N]) (fun i_ t ns_ as_ => pq_Queues.D.flat i_.1.1 (pq_Queues.A.mk i_.1.2.1.a__p (arena_Arena.A.mk (na as_ 0) (nn ns_ 0) (na as_ 1) (nn ns_ 1) (nn ns_ 2)) i_.1.2.1.t__p (slots_Table.A.mk (nn ns_ 3) (pool_Pool_slots_heap.A.mk (na as_ 2) (nn ns_ 4) (na as_ 3) (nn ns_ 5)) (nn ns_ 6) (pool_Pool_slots_thing.A.mk (na as_ 4) (nn ns_ 7) (na as_ 5) (nn ns_ 8)) (nn ns_ 9)) i_.1.2.1.entries_p) t.2)

theorem S53a (k : Nat) : (C53a k).Sound Tryz.prog :=
  fn_sound mixed (C53a k) (n := 94) (rs := rsOf Tryz.prog 53) [.C 2000 0, .C 2000 1, .C 2000 2, .C 2000 3, .C 2000 4, .C 2000 5, .C 2000 6, .C 2000 7] [0, 1, 2, 3, 4, 5, 6, 7, 8, 9, 10, 11, 12, 13] (gj (g2 (gC 2000 0 8 api_Answer.dec) (gO pq_Queues.D [0, 1, 2, 3, 4, 5, 6, 7, 8, 9, 10, 11, 12, 13])) [nA pq_Queues.D [0, 1, 2, 3, 4, 5, 6, 7, 8, 9, 10, 11, 12, 13] (fun al => ([al.a__a.l_c, al.a__a.free_c, al.a__a.m__p, al.t__a.heaps_p, al.t__a.heaps_a.l_c, al.t__a.heaps_a.free_c, al.t__a.items_p, al.t__a.items_a.l_c, al.t__a.items_a.free_c, al.t__a.at__p], [al.a__a.l_b, al.a__a.free_b, al.t__a.heaps_a.l_b, al.t__a.heaps_a.free_b, al.t__a.items_a.l_b, al.t__a.items_a.free_b]))]) (fun i => (.s (.new 14 []) (.s (.new 15 []) (.s (.seg 4 [.C 0 1]) (.s (.call K75 [.K 1, .K 2, .K 3, .K 4] [1, 2, 3, 4]) (.s (.call K76 [.K 4] [4]) (.s (.seg 2 [.C 14 0]) (.blk (.s (.seg 2 []) (.cond (.jg (api_Ref × Int × pq_Queues) 8 4 (gj (g2 (gC 18 0 2 api_Ref.dec) (g2 (gI 6) (gO pq_Queues.D [0, 1, 2, 3, 4, 5, 6, 7, 8, 9, 10, 11, 12, 13]))) [nPk 18, nA pq_Queues.D [0, 1, 2, 3, 4, 5, 6, 7, 8, 9, 10, 11, 12, 13] (fun al => ([al.t__a.heaps_p, al.t__a.heaps_a.l_c, al.t__a.heaps_a.free_c, al.t__a.items_p, al.t__a.items_a.l_c, al.t__a.items_a.free_c, al.t__a.at__p], [al.t__a.heaps_a.l_b, al.t__a.heaps_a.free_b, al.t__a.items_a.l_b, al.t__a.items_a.free_b]))]) (fun st_ s_ ns_ as_ => match (g2 (gP 0) (gA pq_Queues.D [0, 1, 2, 3, 4, 5, 6, 7, 8, 9, 10, 11, 12, 13])) st_ with | some x_ => ([(5, .pointer (some ⟨(nn ns_ 0), 0, none⟩)), (6, .int .i64 s_.2.1)] ++ kp [4] st_, ka [15] st_ ++ zipL [18] [.blk (nn ns_ 0) 31 [.int .i64 s_.1.At, .int .i64 s_.1.Gen]] ++ zipL [0, 1, 2, 3, 4, 5, 6, 7, 8, 9, 10, 11, 12, 13] (pq_Queues.D.flat (x_.1) (pq_Queues.A.mk (x_.2.a__p) (x_.2.a__a) (x_.2.t__p) (slots_Table.A.mk (nn ns_ 1) (pool_Pool_slots_heap.A.mk (na as_ 0) (nn ns_ 2) (na as_ 1) (nn ns_ 3)) (nn ns_ 4) (pool_Pool_slots_thing.A.mk (na as_ 2) (nn ns_ 5) (na as_ 3) (nn ns_ 6)) (nn ns_ 7)) (x_.2.entries_p)) s_.2.2)) | none => ([], [])) (.drw (.q [0, 1, 2, 3, 4, 5] [.C 0 2, .C 14 1] (.alt2 6 (.call K77 [.K 5, .K 6, .K 7, .K 8, .K 9, .K 10, .K 11, .K 12] [5, 6, 7, 8, 9, 10, 11, 12]) [] (.q [7, 8, 9] [] (.a 10 (.new 19 []) [] (.a 11 (.sto 19) [] (.q [12] [] (.rk [(19, 18), (18, 90018)] .leaf))))) 10 (.new 20 []) [.C 14 1, .C 0 2] (.a 6 (.call K77 [.K 5, .K 6, .K 7, .K 8, .K 9, .K 10, .K 11, .K 12] [5, 6, 7, 8, 9, 10, 11, 12]) [] (.q [7, 8, 9] [] (.a 11 (.sto 20) [] (.q [12] [] (.rk [(20, 18), (18, 90018)] .leaf)))))))) (.s (.seg 3 [.C 18 0, .C 18 1]) (.s (.sto 15) (.rk [(15, 2000), (2000, 92000)] .ret)))) (.s (.seg 2 []) (.cond (.s (.seg 2 [.C 14 0, .C 14 1, .C 14 2, .C 14 3, .C 14 4, .C 14 5, .C 14 6, .C 14 7, .C 14 8]) (.s (.call (K78 k) [.K 0, .K 1, .K 2, .K 3, .K 4, .K 5, .K 6, .K 7, .K 8, .K 9, .K 10, .K 11, .K 12, .K 13] [0, 1, 2, 3, 4, 5, 6, 7, 8, 9, 10, 11, 12, 13]) (.s (.sto 15) (.rk [(15, 2000), (2000, 92000)] .ret)))) (.s (.seg 2 []) (.cond (.s (.seg 3 [.C 14 2, .C 14 3]) (.s (.call (K79 k) [.K 0, .K 1, .K 2, .K 3, .K 4, .K 5, .K 6, .K 7, .K 8, .K 9, .K 10, .K 11, .K 12, .K 13] [0, 1, 2, 3, 4, 5, 6, 7, 8, 9, 10, 11, 12, 13]) (.s (.sto 15) (.rk [(15, 2000), (2000, 92000)] .ret)))) (.s (.seg 2 []) (.cond (.s (.seg 3 [.C 14 2, .C 14 3]) (.s (.call (K79 k) [.K 0, .K 1, .K 2, .K 3, .K 4, .K 5, .K 6, .K 7, .K 8, .K 9, .K 10, .K 11, .K 12, .K 13] [0, 1, 2, 3, 4, 5, 6, 7, 8, 9, 10, 11, 12, 13]) (.s (.sto 15) (.rk [(15, 2000), (2000, 92000)] .ret)))) (.s (.seg 2 []) (.cond (.s (.seg 2 [.C 14 0, .C 14 1, .C 14 2, .C 14 3, .C 14 4, .C 14 5, .C 14 6, .C 14 7, .C 14 8]) (.s (.call (K80 k) [.K 0, .K 1, .K 2, .K 3, .K 4, .K 5, .K 6, .K 7, .K 8, .K 9, .K 10, .K 11, .K 12, .K 13] [0, 1, 2, 3, 4, 5, 6, 7, 8, 9, 10, 11, 12, 13]) (.s (.sto 15) (.rk [(15, 2000), (2000, 92000)] .ret)))) (.s (.seg 2 []) (.cond (.s (.seg 3 [.C 14 6, .C 14 7]) (.s (.call (K81 k) [.K 0, .K 1, .K 2, .K 3, .K 4, .K 5, .K 6, .K 7, .K 8, .K 9, .K 10, .K 11, .K 12, .K 13] [0, 1, 2, 3, 4, 5, 6, 7, 8, 9, 10, 11, 12, 13]) (.s (.sto 15) (.rk [(15, 2000), (2000, 92000)] .ret)))) (.s (.seg 2 []) (.cond (.s (.seg 5 [.C 14 2, .C 14 3, .C 14 4, .C 14 5]) (.s (.call (K82 k) [.K 0, .K 1, .K 2, .K 3, .K 4, .K 5, .K 6, .K 7, .K 8, .K 9, .K 10, .K 11, .K 12, .K 13] [0, 1, 2, 3, 4, 5, 6, 7, 8, 9, 10, 11, 12, 13]) (.s (.sto 15) (.rk [(15, 2000), (2000, 92000)] .ret)))) (.s (.seg 2 []) (.cond (.drw (.q [0, 1, 2, 3, 4, 5] [.C 0 2, .C 14 2, .C 14 3] (.a 6 (.call K83 [.K 5, .K 6, .K 7, .K 8, .K 9, .K 10, .K 11, .K 12] [5, 6, 7, 8, 9, 10, 11, 12]) [] (.q [7, 8, 9, 10, 11, 12, 13, 14, 15] [] (.s (.seg 3 []) (.s (.sto 15) (.rk [(15, 2000), (2000, 92000)] .ret))))))) (.s (.seg 2 []) (.cond (.s (.seg 3 [.C 14 2, .C 14 3]) (.s (.call K84 [.K 0, .K 1, .K 2, .K 3, .K 4, .K 5, .K 6, .K 7, .K 8, .K 9, .K 10, .K 11, .K 12, .K 13] [0, 1, 2, 3, 4, 5, 6, 7, 8, 9, 10, 11, 12, 13]) (.s (.sto 15) (.rk [(15, 2000), (2000, 92000)] .ret)))) (.s (.call K85 [] []) (.s (.sto 15) (.rk [(15, 2000), (2000, 92000)] .ret))))))))))))))))))))))))))))) Tryz.func53 rfl rfl (by kernel_rfl) (fun _ => rfl) (fun i => by kernel_rfl) (fun i s => by kernel_rfl)

noncomputable def K53a (k : Nat) : SCon El Tryz.prog := ⟨C53a k, S53a k, Tryz.call53⟩

noncomputable abbrev C28p : List (PK El) := [pI .i64, pI .i64]
noncomputable def C28 (k : Nat) : Con El := mkConB 28 C28p (fun i_ => dispatch_New k i_.1 i_.2.1) 22 8 (fun i_ t ns_ as_ => .tuple #[.pointer none, .int .i64 t.2]) (fun i_ t ns_ as_ => []) (fun i_ t => t.1) 22 (fun i_ t m_ ns_ as_ => .tuple #[.pointer (some ⟨(nn ns_ 0), 0, none⟩), .int .i64 t.2]) (fun i_ t m_ ns_ as_ => dispatch_Dispatcher.D.flat (nn ns_ 0) (dispatch_Dispatcher.A.mk (nn ns_ 1) (pq_Queues.A.mk (nn ns_ 2) (arena_Arena.A.mk (na as_ 0) (nn ns_ 3) (na as_ 1) (nn ns_ 4) (nn ns_ 5)) (nn ns_ 6) (slots_Table.A.mk (nn ns_ 7) (pool_Pool_slots_heap.A.mk (na as_ 2) (nn ns_ 8) (na as_ 3) (nn ns_ 9)) (nn ns_ 10) (pool_Pool_slots_thing.A.mk (na as_ 4) (nn ns_ 11) (na as_ 5) (nn ns_ 12)) (nn ns_ 13)) (nn ns_ 14)) (nn ns_ 15) (jobs_Table.A.mk (nn ns_ 16) (pool_Pool_jobs_Job.A.mk (na as_ 6) (nn ns_ 17) (na as_ 7) (nn ns_ 18)) (nn ns_ 19)) (nn ns_ 20) (nn ns_ 21)) m_)

theorem S28 (k : Nat) : (C28 k).Sound Tryz.prog :=
  fn_sound mixed (C28 k) (n := 53) (rs := rsOf Tryz.prog 28) [] [1000, 1001, 1002, 1003, 1004, 1005, 1006, 1007, 1008, 1009, 1010, 1011, 1012, 1013, 1014, 1015, 1016, 1017, 1018, 1019, 1020, 1021] (gj (g2 (gOo dispatch_Dispatcher.D [1000, 1001, 1002, 1003, 1004, 1005, 1006, 1007, 1008, 1009, 1010, 1011, 1012, 1013, 1014, 1015, 1016, 1017, 1018, 1019, 1020, 1021] 4) (gI 5)) [nPo 1000, nAo dispatch_Dispatcher.D [1000, 1001, 1002, 1003, 1004, 1005, 1006, 1007, 1008, 1009, 1010, 1011, 1012, 1013, 1014, 1015, 1016, 1017, 1018, 1019, 1020, 1021] (fun al => ([al.q_p, al.q_a.a__p, al.q_a.a__a.l_c, al.q_a.a__a.free_c, al.q_a.a__a.m__p, al.q_a.t__p, al.q_a.t__a.heaps_p, al.q_a.t__a.heaps_a.l_c, al.q_a.t__a.heaps_a.free_c, al.q_a.t__a.items_p, al.q_a.t__a.items_a.l_c, al.q_a.t__a.items_a.free_c, al.q_a.t__a.at__p, al.q_a.entries_p, al.t__p, al.t__a.p_p, al.t__a.p_a.l_c, al.t__a.p_a.free_c, al.t__a.by__p, al.when_p, al.clock_p], [al.q_a.a__a.l_b, al.q_a.a__a.free_b, al.q_a.t__a.heaps_a.l_b, al.q_a.t__a.heaps_a.free_b, al.q_a.t__a.items_a.l_b, al.q_a.t__a.items_a.free_b, al.t__a.p_a.l_b, al.t__a.p_a.free_b])) 21 8]) (fun i => (.s (.seg 2 []) (.s (.seg 1 []) (.s (.call K48 [] []) (.s (.seg 1 []) (.cond (.s (.seg 2 []) .ret) (.s (.seg 2 []) (.s (.call (K49 k) [] []) (.s (.seg 5 []) (.s (.seg 2 []) (.cond (.s (.seg 2 []) .ret) (.s (.seg 1 []) (.s (.call K50 [] [0, 1, 2, 3, 4, 5, 6, 7, 8, 9, 10, 11, 12, 13]) (.np 25 0 (.s (.seg 5 []) (.s (.seg 4 []) (.s (.call K51 [] [14, 15, 16, 17, 18]) (.s (.mnew 19 3) (.s (.call K52 [] [20]) (.s (.seg 2 []) (.s (.new 21 []) (.s (.seg 1 []) (.s (.seg 1 []) (.unr (.s (.seg 1 []) (.condT (.blk (.s (.seg 2 []) (.drw (.q [0, 1, 2, 3, 4, 7, 8] [] (.a 5 (.call K53 [] []) [] (.q [6] [] (.s (.gd 4 (.tmp 42) 1) (.q [9] [.Q 1] (.a 10 (.sto 21) [] (.s (.seg 2 []) (.unr (.s (.seg 1 []) (.condT (.blk (.s (.seg 2 []) (.drw (.q [0, 1, 2, 3, 4, 7, 8] [] (.a 5 (.call K53 [] []) [] (.q [6] [] (.s (.gd 4 (.tmp 42) 3) (.q [9] [.Q 3] (.a 10 (.sto 21) [] (.s (.seg 2 []) (.unr (.s (.seg 1 []) (.condF (.s (.seg 3 []) .dead))))))))))))))))))))))))))))))))))))))) (.s (.seg 5 []) (.s (.seg 4 []) (.s (.call K51 [] [22, 23, 24, 25, 26]) (.s (.mnew 27 3) (.s (.call K52 [] [28]) (.s (.seg 2 []) (.s (.new 29 []) (.s (.seg 1 []) (.s (.seg 1 []) (.unr (.s (.seg 1 []) (.condT (.blk (.s (.seg 2 []) (.drw (.q [0, 1, 2, 3, 4, 7, 8] [] (.a 5 (.call (K53a k) [.K 0, .K 1, .K 2, .K 3, .K 4, .K 5, .K 6, .K 7, .K 8, .K 9, .K 10, .K 11, .K 12, .K 13] [0, 1, 2, 3, 4, 5, 6, 7, 8, 9, 10, 11, 12, 13]) [] (.q [6] [] (.s (.gd 4 (.tmp 42) 5) (.q [9] [.Q 5] (.a 10 (.sto 29) [] (.s (.seg 2 []) (.unr (.s (.seg 1 []) (.condT (.blk (.s (.seg 2 []) (.drw (.q [0, 1, 2, 3, 4, 7, 8] [] (.a 5 (.call (K53a k) [.K 0, .K 1, .K 2, .K 3, .K 4, .K 5, .K 6, .K 7, .K 8, .K 9, .K 10, .K 11, .K 12, .K 13] [0, 1, 2, 3, 4, 5, 6, 7, 8, 9, 10, 11, 12, 13]) [] (.q [6] [] (.s (.gd 4 (.tmp 42) 7) (.q [9] [.Q 7] (.a 10 (.sto 29) [] (.s (.seg 2 []) (.unr (.s (.seg 1 []) (.condF (.s (.seg 3 []) (.rk [(29, 1000), (0, 1001), (1, 1002), (2, 1003), (3, 1004), (4, 1005), (5, 1006), (6, 1007), (7, 1008), (8, 1009), (9, 1010), (10, 1011), (11, 1012), (12, 1013), (13, 1014), (22, 1015), (23, 1016), (24, 1017), (25, 1018), (26, 1019), (27, 1020), (28, 1021), (1000, 91000), (1001, 91001), (1002, 91002), (1003, 91003), (1004, 91004), (1005, 91005), (1006, 91006), (1007, 91007), (1008, 91008), (1009, 91009), (1010, 91010), (1011, 91011), (1012, 91012), (1013, 91013), (1014, 91014), (1015, 91015), (1016, 91016), (1017, 91017), (1018, 91018), (1019, 91019), (1020, 91020), (1021, 91021)] .ret)))))))))))))))))))))))))))))))))))))))))))))))))))))) Tryz.func28 rfl rfl (by kernel_rfl) (fun _ => rfl) (fun i => by kernel_rfl) (fun i s => by kernel_rfl)

noncomputable def K28 (k : Nat) : SCon El Tryz.prog := ⟨C28 k, S28 k, Tryz.call28⟩

theorem dispatch_New_ok {w0 w : World} {As : List HP} {k : Nat} {k_ : Int} {most : Int} {t : (Option dispatch_Dispatcher) × Int}  (hm : dispatch_New k k_ most = some t) (H : St w0 (As) w) :
    CallsR Tryz.prog 28 #[.int .i64 k_, .int .i64 most] w fun v w' => ∃ (q0 : Nat), ∃ (al0 : dispatch_Dispatcher.A), v = .tuple #[optV q0 t.1, .int .i64 t.2] ∧ St w0 (OptR (dispatch_Dispatcher.R q0 al0) t.1 :: As) w' := by
  refine (S28 k (k_, most, ()) t hm w0 w (As) rd0 H).mono ?_
  rintro v w' ⟨ns, as_, hn, ha, hv, H, hfx⟩
  obtain ⟨n0, ns0, rfl, hn0⟩ := lsS hn
  obtain ⟨n1, ns1, rfl, hn1⟩ := lsS hn0
  obtain ⟨n2, ns2, rfl, hn2⟩ := lsS hn1
  obtain ⟨n3, ns3, rfl, hn3⟩ := lsS hn2
  obtain ⟨n4, ns4, rfl, hn4⟩ := lsS hn3
  obtain ⟨n5, ns5, rfl, hn5⟩ := lsS hn4
  obtain ⟨n6, ns6, rfl, hn6⟩ := lsS hn5
  obtain ⟨n7, ns7, rfl, hn7⟩ := lsS hn6
  obtain ⟨n8, ns8, rfl, hn8⟩ := lsS hn7
  obtain ⟨n9, ns9, rfl, hn9⟩ := lsS hn8
  obtain ⟨n10, ns10, rfl, hn10⟩ := lsS hn9
  obtain ⟨n11, ns11, rfl, hn11⟩ := lsS hn10
  obtain ⟨n12, ns12, rfl, hn12⟩ := lsS hn11
  obtain ⟨n13, ns13, rfl, hn13⟩ := lsS hn12
  obtain ⟨n14, ns14, rfl, hn14⟩ := lsS hn13
  obtain ⟨n15, ns15, rfl, hn15⟩ := lsS hn14
  obtain ⟨n16, ns16, rfl, hn16⟩ := lsS hn15
  obtain ⟨n17, ns17, rfl, hn17⟩ := lsS hn16
  obtain ⟨n18, ns18, rfl, hn18⟩ := lsS hn17
  obtain ⟨n19, ns19, rfl, hn19⟩ := lsS hn18
  obtain ⟨n20, ns20, rfl, hn20⟩ := lsS hn19
  obtain ⟨n21, ns21, rfl, hn21⟩ := lsS hn20
  obtain rfl := ls0 hn21
  obtain ⟨a0, as0, rfl, ha0⟩ := lsS ha
  obtain ⟨a1, as1, rfl, ha1⟩ := lsS ha0
  obtain ⟨a2, as2, rfl, ha2⟩ := lsS ha1
  obtain ⟨a3, as3, rfl, ha3⟩ := lsS ha2
  obtain ⟨a4, as4, rfl, ha4⟩ := lsS ha3
  obtain ⟨a5, as5, rfl, ha5⟩ := lsS ha4
  obtain ⟨a6, as6, rfl, ha6⟩ := lsS ha5
  obtain ⟨a7, as7, rfl, ha7⟩ := lsS ha6
  obtain rfl := ls0 ha7
  rcases t with ⟨_ | m_, t_⟩
  · exact ⟨n0, (dispatch_Dispatcher.A.mk n1 (pq_Queues.A.mk n2 (arena_Arena.A.mk a0 n3 a1 n4 n5) n6 (slots_Table.A.mk n7 (pool_Pool_slots_heap.A.mk a2 n8 a3 n9) n10 (pool_Pool_slots_thing.A.mk a4 n11 a5 n12) n13) n14) n15 (jobs_Table.A.mk n16 (pool_Pool_jobs_Job.A.mk a6 n17 a7 n18) n19) n20 n21), hv, St.optN H⟩
  · exact ⟨n0, (dispatch_Dispatcher.A.mk n1 (pq_Queues.A.mk n2 (arena_Arena.A.mk a0 n3 a1 n4 n5) n6 (slots_Table.A.mk n7 (pool_Pool_slots_heap.A.mk a2 n8 a3 n9) n10 (pool_Pool_slots_thing.A.mk a4 n11 a5 n12) n13) n14) n15 (jobs_Table.A.mk n16 (pool_Pool_jobs_Job.A.mk a6 n17 a7 n18) n19) n20 n21), hv, (fs0 fun As => dispatch_Dispatcher.D_st).2 H⟩

theorem mail_NewBox_api_Command_ok {w0 w : World} {As : List HP} {room : Int} {t : mail_Box_api_Command}  (hm : mail_NewBox_api_Command room = some t) (H : St w0 (As) w) :
    CallsR Tryz.prog 54 #[.int .i64 room] w fun v w' => ∃ (q0 : Nat), ∃ (al0 : mail_Box_api_Command.A), v = .pointer (some ⟨q0, 0, none⟩) ∧ St w0 (mail_Box_api_Command.R q0 al0 t :: As) w' := by
 rw [mail_NewBox_api_Command] at hm
 refine enter (args := [.int .i64 room]) Tryz.func54 rfl rfl rfl fun a hE => ?_
 refine Runs.sr ?_
 refine WR.seg hE 1 [] [0] (Lo := [(0, .int .i64 room)]) (obs := []) rfl (by kernel_rfl) trivial fun a hE => ?_
 refine WR.done rfl ?_
 refine Runs.sr ?_
 refine WR.d0 hE 3 [(5, .int .i64 (if (if 4096 < room then 4096 else room) > 1 then (if 4096 < room then 4096 else room) else 1))] fun a hE => ?_
 obtain ⟨m_, em_, hm⟩ := bind_some hm
 refine WR.eff hE rfl rfl rfl rfl (OpTo.makeCh api_Command.val em_ hE H rfl rfl rfl rfl rfl) ?_
 rintro _ w ⟨r, rfl, H⟩ a hE
 refine WR.d0 hE 5 [(7, .agg #[.chan (some r)])] fun a hE => ?_
 refine WR.eff hE rfl rfl rfl rfl (OpTo.new hE H [] (.cells #[.chan (some r)] 169 (0, 0)) (fun r => .pointer (some ⟨r, 0, none⟩)) (obs := []) rfl (fun _ => by kernel_rfl) trivial) ?_
 rintro _ w ⟨r1, rfl, H⟩ a hE
 refine WR.e0 hE [(2, .pointer (some ⟨r1, 0, none⟩))] fun a hE => ?_
 replace H := mail_Box_api_Command.shut (mail_Box_api_Command.A.mk r) (mail_Box_api_Command.mk m_) H.t1.t1
 refine Runs.ret hE Tryz.func54 rfl rfl ?_
 cases hm
 exact ⟨r1, mail_Box_api_Command.A.mk r, rfl, H⟩

theorem mail_NewDesk_api_Command_ok {w0 w : World} {As : List HP} {k : Nat} {boxes : Int} {room : Int} {t : mail_Desk_api_Command}  (hm : mail_NewDesk_api_Command k boxes room = some t) (H : St w0 (As) w) :
    CallsR Tryz.prog 29 #[.int .i64 boxes, .int .i64 room] w fun v w' => ∃ (q0 : Nat), ∃ (al0 : mail_Desk_api_Command.A), v = .pointer (some ⟨q0, 0, none⟩) ∧ St w0 (mail_Desk_api_Command.R q0 al0 t :: As) w' := by
 rw [mail_NewDesk_api_Command] at hm
 refine enter (args := [.int .i64 boxes, .int .i64 room]) Tryz.func29 rfl rfl rfl fun a hE => ?_
 refine Runs.sr ?_
 refine WR.seg hE 1 [] [0, 1] (Lo := [(0, .int .i64 boxes), (1, .int .i64 room)]) (obs := []) rfl (by kernel_rfl) trivial fun a hE => ?_
 refine WR.done rfl ?_
 refine Runs.sr ?_
 refine WR.d0 hE 1 [(6, .agg #[.slice none 0 0])] fun a hE => ?_
 refine WR.eff hE rfl rfl rfl rfl (OpTo.new hE H [] (.cells #[.slice none 0 0] 128 (0, 0)) (fun r => .pointer (some ⟨r, 0, none⟩)) (obs := []) rfl (fun _ => by kernel_rfl) trivial) ?_
 rintro _ w ⟨r, rfl, H⟩ a hE
 refine WR.e0 hE [(5, .pointer (some ⟨r, 0, none⟩))] fun a hE => ?_
 refine Runs.seq ?_
 refine Runs.sr ?_
 refine WR.e0 hE [(10, .int .i64 (if (if 4 < boxes then 4 else boxes) > 1 then (if 4 < boxes then 4 else boxes) else 1)), (11, .int .i64 0)] fun a hE => ?_
 replace H := H.slxNil 129 mail_Box_api_Command.encX mail_Box_api_Command.RX
 replace H := mail_Desk_api_Command.shut (mail_Desk_api_Command.A.mk none 0) (mail_Desk_api_Command.mk ([] : List mail_Box_api_Command)) H.t1
 obtain ⟨s, es, hm⟩ := bind_some hm
 refine Runs.join (fun a w => ∃ (z2 : Option Addr), ∃ (z3 : Nat), EnvOk 26 a [(5, .pointer (some ⟨r, 0, none⟩))] ∧ St w0 (mail_Desk_api_Command.R r (mail_Desk_api_Command.A.mk z2 z3) s :: As) w) (fun hk => ?_) ?_
 ·replace hm := es; clear es
  refine Runs.block ?_
  refine Runs.loop (fun m a w => ∃ (x : Int), ∃ (m_ : mail_Desk_api_Command), ∃ (z4 : Option Addr), ∃ (z5 : Nat), EnvOk 26 a [(1, .int .i64 room), (5, .pointer (some ⟨r, 0, none⟩)), (10, .int .i64 (if (if 4 < boxes then 4 else boxes) > 1 then (if 4 < boxes then 4 else boxes) else 1)), (11, .int .i64 x)] ∧ St w0 (mail_Desk_api_Command.R r (mail_Desk_api_Command.A.mk z4 z5) m_ :: As) w ∧ mail_NewDesk_api_Command_l0 room (if (if 4 < boxes then 4 else boxes) > 1 then (if 4 < boxes then 4 else boxes) else 1) m x m_ = some s) k ⟨0, mail_Desk_api_Command.mk ([] : List mail_Box_api_Command), none, 0, hE.sel [1, 5, 10, 11] (by kernel_rfl), H, hm⟩ ?_
  rintro m ih a w ⟨x, m_, z4, z5, hE, H, hm⟩
  cases m with
  | zero => simp [mail_NewDesk_api_Command_l0] at hm
  | succ m =>
   rw [mail_NewDesk_api_Command_l0] at hm
   refine Runs.sr ?_
   refine WR.seg hE 1 [] [1, 5, 10, 11, 12] (Lo := [(1, .int .i64 room), (5, .pointer (some ⟨r, 0, none⟩)), (10, .int .i64 (if (if 4 < boxes then 4 else boxes) > 1 then (if 4 < boxes then 4 else boxes) else 1)), (11, .int .i64 x), (12, .bool (decide (x < (if (if 4 < boxes then 4 else boxes) > 1 then (if 4 < boxes then 4 else boxes) else 1))))]) (obs := []) rfl (by kernel_rfl) trivial fun a hE => ?_
   refine WR.done rfl ?_
   refine Runs.seq ?_
   refine Runs.cond hE rfl (fun c => ?_) (fun c => ?_)
   ·replace hm := cond_t c hm
    refine Runs.skip ?_
    refine Runs.seq ?_
    refine Runs.block ?_
    refine Runs.drawn mixed (by kernel_rfl) ?_
    replace H := H.drew
    replace H := mail_Desk_api_Command.open H
    try dsimp only at H
    refine WQ.d hE [0, 1, 2, 3, 4, 5] [.slice z4 m_.l.length z5] [(13, .pointer (some ⟨r, 0, none⟩)), (17, .slice z4 m_.l.length z5), (18, .int .i64 room)] (obs := [.cell ⟨r, 0, none⟩ (.slice z4 m_.l.length z5)]) ⟨H.cell 0 rfl rfl, trivial⟩ fun a hE => ?_
    obtain ⟨t_, et_, hm⟩ := bind_some hm
    refine WQ.eff (j := 6) (obs := [.cell ⟨r, 0, none⟩ (.slice z4 m_.l.length z5)]) hE (by kernel_rfl) rfl rfl rfl rfl (by kernel_rfl) (OpTo.fn hE rfl rfl Tryz.call54 (mail_NewBox_api_Command_ok et_ H)) ?_
    rintro _ w ⟨p, al, rfl, H⟩
    refine ⟨⟨H.cell 1 rfl rfl, trivial⟩, fun a hE => ?_⟩
    refine WQ.eff (j := 7) (obs := [.cell ⟨r, 0, none⟩ (.slice z4 m_.l.length z5)]) hE (by kernel_rfl) rfl rfl rfl rfl (by kernel_rfl) (OpTo.buildSl (T := 129) hE H mail_Box_api_Command.encX_ok ([(p, al)] : List (Nat × mail_Box_api_Command.A)) rfl (fun _ => by kernel_rfl) rfl rfl rfl) ?_
    rintro _ w ⟨r1, rfl, H⟩
    replace H := St.slxOf (R := mail_Box_api_Command.RX) ([(p, al)] : List (Nat × mail_Box_api_Command.A)) ([t_] : List mail_Box_api_Command) rfl H.t1.t1 rfl
    refine ⟨⟨H.cell 1 rfl rfl, trivial⟩, fun a hE => ?_⟩
    obtain ⟨l, el, hm⟩ := bind_some hm
    refine WQ.eff (j := 8) (obs := []) hE (by kernel_rfl) rfl rfl rfl rfl (by kernel_rfl) (OpTo.appendX el hE H.t2 mail_Box_api_Command.encX_ok rfl rfl rfl rfl rfl rfl rfl rfl rfl rfl) ?_
    rintro _ w ⟨sb, sc, rfl, H⟩
    refine ⟨trivial, fun a hE => ?_⟩
    refine WQ.d0 hE [9, 10] [(23, .pointer (some ⟨r, 0, none⟩))] fun a hE => ?_
    refine WQ.eff0 (j := 11) (obs := []) hE (by kernel_rfl) rfl rfl rfl (by kernel_rfl) (OpTo.store hE H.t1 rfl rfl rfl rfl rfl rfl (Nat.le_of_ble_eq_true rfl)) ?_
    rintro _ w H
    refine ⟨trivial, fun a hE => ?_⟩
    refine WQ.done (by kernel_rfl) ?_
    refine Runs.inBlock ?_
    refine Runs.region ?_
    refine WR.e0 hE [(11, .int .i64 (w64 (x + 1)))] fun a hE => ?_
    replace H := mail_Desk_api_Command.shut (mail_Desk_api_Command.A.mk sb sc) (mail_Desk_api_Command.mk l) H.t1.t1
    exact ih m (Nat.lt_succ_self m) _ _ ⟨w64 (x + 1), mail_Desk_api_Command.mk l, sb, sc, hE.sel [1, 5, 10, 11] (by kernel_rfl), H, hm⟩
   ·replace hm := cond_f c hm
    refine Runs.exit rfl ?_
    cases hm
    exact hk _ _ ⟨z4, z5, hE.sel [5] (by kernel_rfl), H⟩
 rintro a w ⟨z2, z3, hE, H⟩
 refine Runs.sr ?_
 refine WR.seg hE 2 [] [4] (Lo := [(4, .pointer (some ⟨r, 0, none⟩))]) (obs := []) rfl (by kernel_rfl) trivial fun a hE => ?_
 refine WR.done rfl ?_
 refine Runs.ret hE Tryz.func29 rfl rfl ?_
 cases hm
 exact ⟨r, mail_Desk_api_Command.A.mk z2 z3, rfl, H⟩

theorem server_New_ok {w0 w : World} {As : List HP} {k : Nat} {k_ : Int} {jobs : Int} {boxes : Int} {room : Int} {t : (Option server_Server) × Int}  (hm : server_New k k_ jobs boxes room = some t) (H : St w0 (As) w) :
    CallsR Tryz.prog 9 #[.int .i64 k_, .int .i64 jobs, .int .i64 boxes, .int .i64 room] w fun v w' => ∃ (q0 : Nat), ∃ (al0 : server_Server.A), v = .tuple #[optV q0 t.1, .int .i64 t.2] ∧ St w0 (OptR (server_Server.R q0 al0) t.1 :: As) w' := by
 rw [server_New] at hm
 refine enter (args := [.int .i64 k_, .int .i64 jobs, .int .i64 boxes, .int .i64 room]) Tryz.func9 rfl rfl rfl fun a hE => ?_
 refine Runs.sr ?_
 refine WR.seg hE 2 [] [0, 1, 2, 3] (Lo := [(0, .int .i64 k_), (1, .int .i64 jobs), (2, .int .i64 boxes), (3, .int .i64 room)]) (obs := []) rfl (by kernel_rfl) trivial fun a hE => ?_
 refine WR.done rfl ?_
 refine Runs.sr ?_
 refine WR.d0 hE 2 [(13, .int .i64 k_), (14, .int .i64 jobs)] fun a hE => ?_
 obtain ⟨t_, et_, hm⟩ := bind_some hm
 refine WR.eff hE rfl rfl rfl rfl (OpTo.fn hE rfl rfl Tryz.call28 (dispatch_New_ok et_ H)) ?_
 rintro _ w ⟨p, al, rfl, H⟩ a hE
 rcases ho : t_.1 with _ | m_
 ·replace hm := case_n ho hm
  rw [ho] at hE H
  replace H := H.x0
  refine WR.seg hE 8 [] [2, 3, 10, 11] (Lo := [(2, .int .i64 boxes), (3, .int .i64 room), (10, .pointer none), (11, .int .i64 t_.2)]) (obs := []) rfl (by kernel_rfl) trivial fun a hE => ?_
  refine WR.done rfl ?_
  refine Runs.seq ?_
  refine Runs.sr ?_
  refine WR.e0 hE [(19, .bool (t_.2 != 0))] fun a hE => ?_
  refine Runs.cond hE rfl (fun c => ?_) (fun c => ?_)
  ·replace hm := cond_t c hm
   refine Runs.sr ?_
   refine WR.e0 hE [(8, .pointer none), (9, .int .i64 t_.2)] fun a hE => ?_
   refine Runs.ret hE Tryz.func9 rfl rfl ?_
   cases hm
   exact ⟨0, default, rfl, (St.optN H)⟩
  ·replace hm := cond_f c hm
   refine Runs.skip ?_
   refine Runs.sr ?_
   refine WR.d0 hE 3 [(21, .pointer none), (22, .int .i64 boxes), (23, .int .i64 room)] fun a hE => ?_
   obtain ⟨t_1, et_1, hm⟩ := bind_some hm
   refine WR.eff hE rfl rfl rfl rfl (OpTo.fn hE rfl rfl Tryz.call29 (mail_NewDesk_api_Command_ok et_1 H)) ?_
   rintro _ w ⟨p1, al1, rfl, H⟩ a hE
   refine WR.d0 hE 5 [(25, .agg #[.pointer none, .pointer (some ⟨p1, 0, none⟩)])] fun a hE => ?_
   refine WR.eff hE rfl rfl rfl rfl (OpTo.new hE H [] (.cells #[.pointer none, .pointer (some ⟨p1, 0, none⟩)] 81 (0, 0)) (fun r => .pointer (some ⟨r, 0, none⟩)) (obs := []) rfl (fun _ => by kernel_rfl) trivial) ?_
   rintro _ w ⟨r, rfl, H⟩ a hE
   refine WR.e0 hE [(8, .pointer (some ⟨r, 0, none⟩)), (9, .int .i64 0)] fun a hE => ?_
   cases hm
 ·replace hm := case_s ho hm
  rw [ho] at hE H
  replace H : St w0 (dispatch_Dispatcher.R p al m_ :: _) _ := H
  refine WR.seg hE 8 [] [2, 3, 10, 11] (Lo := [(2, .int .i64 boxes), (3, .int .i64 room), (10, .pointer (some ⟨p, 0, none⟩)), (11, .int .i64 t_.2)]) (obs := []) rfl (by kernel_rfl) trivial fun a hE => ?_
  refine WR.done rfl ?_
  refine Runs.seq ?_
  refine Runs.sr ?_
  refine WR.e0 hE [(19, .bool (t_.2 != 0))] fun a hE => ?_
  refine Runs.cond hE rfl (fun c => ?_) (fun c => ?_)
  ·replace hm := cond_t c hm
   refine Runs.sr ?_
   refine WR.e0 hE [(8, .pointer none), (9, .int .i64 t_.2)] fun a hE => ?_
   refine Runs.ret hE Tryz.func9 rfl rfl ?_
   cases hm
   exact ⟨0, default, rfl, (St.optN H.x0)⟩
  ·replace hm := cond_f c hm
   refine Runs.skip ?_
   refine Runs.sr ?_
   refine WR.d0 hE 3 [(21, .pointer (some ⟨p, 0, none⟩)), (22, .int .i64 boxes), (23, .int .i64 room)] fun a hE => ?_
   obtain ⟨t_2, et_2, hm⟩ := bind_some hm
   refine WR.eff hE rfl rfl rfl rfl (OpTo.fn hE rfl rfl Tryz.call29 (mail_NewDesk_api_Command_ok et_2 H)) ?_
   rintro _ w ⟨p2, al2, rfl, H⟩ a hE
   refine WR.d0 hE 5 [(25, .agg #[.pointer (some ⟨p, 0, none⟩), .pointer (some ⟨p2, 0, none⟩)])] fun a hE => ?_
   refine WR.eff hE rfl rfl rfl rfl (OpTo.new hE H [] (.cells #[.pointer (some ⟨p, 0, none⟩), .pointer (some ⟨p2, 0, none⟩)] 81 (0, 0)) (fun r => .pointer (some ⟨r, 0, none⟩)) (obs := []) rfl (fun _ => by kernel_rfl) trivial) ?_
   rintro _ w ⟨r1, rfl, H⟩ a hE
   refine WR.e0 hE [(8, .pointer (some ⟨r1, 0, none⟩)), (9, .int .i64 0)] fun a hE => ?_
   replace H := server_Server.shut (server_Server.A.mk p al p2 al2) (server_Server.mk m_ t_2) H.t1.t2.t2
   refine Runs.ret hE Tryz.func9 rfl rfl ?_
   cases hm
   exact ⟨r1, server_Server.A.mk p al p2 al2, rfl, H⟩

theorem trace_New_ok {w0 w : World} {As : List HP} {k : Nat} {k_ : Int} {jobs : Int} {boxes : Int} {room : Int} {t : (Option trace_Book) × Int}  (hm : trace_New k k_ jobs boxes room = some t) (H : St w0 (As) w) :
    CallsR Tryz.prog 16 #[.int .i64 k_, .int .i64 jobs, .int .i64 boxes, .int .i64 room] w fun v w' => ∃ (q0 : Nat), ∃ (al0 : trace_Book.A), v = .tuple #[optV q0 t.1, .int .i64 t.2] ∧ St w0 (OptR (trace_Book.R q0 al0) t.1 :: As) w' := by
 rw [trace_New] at hm
 refine enter (args := [.int .i64 k_, .int .i64 jobs, .int .i64 boxes, .int .i64 room]) Tryz.func16 rfl rfl rfl fun a hE => ?_
 refine Runs.sr ?_
 refine WR.seg hE 2 [] [0, 1, 2, 3] (Lo := [(0, .int .i64 k_), (1, .int .i64 jobs), (2, .int .i64 boxes), (3, .int .i64 room)]) (obs := []) rfl (by kernel_rfl) trivial fun a hE => ?_
 refine WR.done rfl ?_
 refine Runs.sr ?_
 refine WR.d0 hE 4 [(13, .int .i64 k_), (14, .int .i64 jobs), (15, .int .i64 boxes), (16, .int .i64 room)] fun a hE => ?_
 obtain ⟨t_, et_, hm⟩ := bind_some hm
 refine WR.eff hE rfl rfl rfl rfl (OpTo.fn hE rfl rfl Tryz.call9 (server_New_ok et_ H)) ?_
 rintro _ w ⟨p, al, rfl, H⟩ a hE
 rcases ho : t_.1 with _ | m_
 ·replace hm := case_n ho hm
  rw [ho] at hE H
  replace H := H.x0
  refine WR.seg hE 10 [] [10, 11] (Lo := [(10, .pointer none), (11, .int .i64 t_.2)]) (obs := []) rfl (by kernel_rfl) trivial fun a hE => ?_
  refine WR.done rfl ?_
  refine Runs.seq ?_
  refine Runs.sr ?_
  refine WR.e0 hE [(21, .bool (t_.2 != 0))] fun a hE => ?_
  refine Runs.cond hE rfl (fun c => ?_) (fun c => ?_)
  ·replace hm := cond_t c hm
   refine Runs.sr ?_
   refine WR.e0 hE [(8, .pointer none), (9, .int .i64 t_.2)] fun a hE => ?_
   refine Runs.ret hE Tryz.func16 rfl rfl ?_
   cases hm
   exact ⟨0, default, rfl, (St.optN H)⟩
  ·replace hm := cond_f c hm
   refine Runs.skip ?_
   refine Runs.sr ?_
   refine WR.d0 hE 2 [(24, .agg #[.pointer none, .slice none 0 0])] fun a hE => ?_
   refine WR.eff hE rfl rfl rfl rfl (OpTo.new hE H [] (.cells #[.pointer none, .slice none 0 0] 96 (0, 0)) (fun r => .pointer (some ⟨r, 0, none⟩)) (obs := []) rfl (fun _ => by kernel_rfl) trivial) ?_
   rintro _ w ⟨r, rfl, H⟩ a hE
   refine WR.e0 hE [(8, .pointer (some ⟨r, 0, none⟩)), (9, .int .i64 0)] fun a hE => ?_
   cases hm
 ·replace hm := case_s ho hm
  rw [ho] at hE H
  replace H : St w0 (server_Server.R p al m_ :: _) _ := H
  refine WR.seg hE 10 [] [10, 11] (Lo := [(10, .pointer (some ⟨p, 0, none⟩)), (11, .int .i64 t_.2)]) (obs := []) rfl (by kernel_rfl) trivial fun a hE => ?_
  refine WR.done rfl ?_
  refine Runs.seq ?_
  refine Runs.sr ?_
  refine WR.e0 hE [(21, .bool (t_.2 != 0))] fun a hE => ?_
  refine Runs.cond hE rfl (fun c => ?_) (fun c => ?_)
  ·replace hm := cond_t c hm
   refine Runs.sr ?_
   refine WR.e0 hE [(8, .pointer none), (9, .int .i64 t_.2)] fun a hE => ?_
   refine Runs.ret hE Tryz.func16 rfl rfl ?_
   cases hm
   exact ⟨0, default, rfl, (St.optN H.x0)⟩
  ·replace hm := cond_f c hm
   refine Runs.skip ?_
   refine Runs.sr ?_
   refine WR.d0 hE 2 [(24, .agg #[.pointer (some ⟨p, 0, none⟩), .slice none 0 0])] fun a hE => ?_
   refine WR.eff hE rfl rfl rfl rfl (OpTo.new hE H [] (.cells #[.pointer (some ⟨p, 0, none⟩), .slice none 0 0] 96 (0, 0)) (fun r => .pointer (some ⟨r, 0, none⟩)) (obs := []) rfl (fun _ => by kernel_rfl) trivial) ?_
   rintro _ w ⟨r1, rfl, H⟩ a hE
   refine WR.e0 hE [(8, .pointer (some ⟨r1, 0, none⟩)), (9, .int .i64 0)] fun a hE => ?_
   replace H := H.slNil 61 trace_Event.enc 14
   replace H := trace_Book.shut (trace_Book.A.mk p al none 0) (trace_Book.mk m_ ([] : List trace_Event)) H.t2.t2
   refine Runs.ret hE Tryz.func16 rfl rfl ?_
   cases hm
   exact ⟨r1, trace_Book.A.mk p al none 0, rfl, H⟩

noncomputable abbrev C10p : List (PK El) := [pI .i64, pI .i64, pI .i64]
noncomputable def C10 : Con El := mkCon 10 C10p (fun i_ => thicketbook_Within i_.1 i_.2.1 i_.2.2.1) 0 0 (fun i_ t ns_ as_ => .int .i64 t) (fun i_ t ns_ as_ => [])

theorem S10 : (C10).Sound Tryz.prog :=
  fn_sound mixed (C10) (n := 33) (rs := rsOf Tryz.prog 10) [] [] (gj (gI 6) []) (fun i => (.s (.seg 1 []) (.s (.seg 4 []) (.pj 10 (Bool) mB (gB 14) (fun st s_ => ([(14, .bool s_)] ++ kp [0, 1, 2] st, ka [] st)) (.s (.seg 4 []) .leaf) (.s (.seg 4 []) .leaf) (.cond (.s (.seg 2 []) .ret) (.s (.seg 5 []) (.s (.gd 0 (.tmp 20) 0) (.s (.seg 2 [.Q 0]) (.s (.seg 2 []) (.join (Int) 0 0 (gj (gI 0) []) (fun st_ s_ ns_ as_ => ([(0, .int .i64 s_)] ++ kp [1] st_, ka [] st_)) (.cond (.s (.seg 7 []) .leaf) .leaf) (.s (.seg 4 []) .ret))))))))))) Tryz.func10 rfl rfl (by kernel_rfl) (fun _ => rfl) (fun i => by kernel_rfl) (fun i s => by kernel_rfl)

noncomputable def K10 : SCon El Tryz.prog := ⟨C10, S10, Tryz.call10⟩

theorem thicketbook_Within_ok {w0 w : World} {As : List HP} {n : Int} {lo : Int} {hi : Int} {t : Int}  (hm : thicketbook_Within n lo hi = some t) (H : St w0 (As) w) :
    CallsR Tryz.prog 10 #[.int .i64 n, .int .i64 lo, .int .i64 hi] w fun v w' => v = .int .i64 t ∧ St w0 (As) w' := by
  refine (S10 (n, lo, hi, ()) t hm w0 w (As) rd0 H).mono ?_
  rintro v w' ⟨ns, as_, hn, ha, hv, H, hfx⟩
  obtain rfl := ls0 hn
  obtain rfl := ls0 ha
  refine ⟨hv, ?_⟩
  exact H

theorem trace_Book_Server_ok {w0 w : World} {As : List HP} {p_b : Nat} {al_b : trace_Book.A} {b : trace_Book} {t : Unit}  (hm : trace_Book_Server b = some t) (H : St w0 (trace_Book.R p_b al_b b :: As) w) :
    CallsR Tryz.prog 23 #[.pointer (some ⟨p_b, 0, none⟩)] w fun v w' => v = .pointer (some ⟨al_b.s_p, 0, none⟩) ∧ St w0 (trace_Book.R p_b al_b b :: As) w' := by
 rw [trace_Book_Server] at hm
 refine enter (args := [.pointer (some ⟨p_b, 0, none⟩)]) Tryz.func23 rfl rfl rfl fun a hE => ?_
 refine Runs.sr ?_
 refine WR.seg hE 1 [] [0] (Lo := [(0, .pointer (some ⟨p_b, 0, none⟩))]) (obs := []) rfl (by kernel_rfl) trivial fun a hE => ?_
 refine WR.done rfl ?_
 refine Runs.sr ?_
 replace H := trace_Book.open H
 refine WR.e hE [.pointer (some ⟨al_b.s_p, 0, none⟩)] [(2, .pointer (some ⟨al_b.s_p, 0, none⟩))] (obs := [.cell ⟨p_b, 0, none⟩ (.pointer (some ⟨al_b.s_p, 0, none⟩))]) ⟨H.cell 0 rfl rfl, trivial⟩ fun a hE => ?_
 replace H := trace_Book.shut al_b (b) H.t2.t2.t2
 refine Runs.ret hE Tryz.func23 rfl rfl ?_
 cases hm
 exact ⟨rfl, H⟩

theorem server_Server_Dispatcher_ok {w0 w : World} {As : List HP} {p_s : Nat} {al_s : server_Server.A} {s : server_Server} {t : Unit}  (hm : server_Server_Dispatcher s = some t) (H : St w0 (server_Server.R p_s al_s s :: As) w) :
    CallsR Tryz.prog 24 #[.pointer (some ⟨p_s, 0, none⟩)] w fun v w' => v = .pointer (some ⟨al_s.d_p, 0, none⟩) ∧ St w0 (server_Server.R p_s al_s s :: As) w' := by
 rw [server_Server_Dispatcher] at hm
 refine enter (args := [.pointer (some ⟨p_s, 0, none⟩)]) Tryz.func24 rfl rfl rfl fun a hE => ?_
 refine Runs.sr ?_
 refine WR.seg hE 1 [] [0] (Lo := [(0, .pointer (some ⟨p_s, 0, none⟩))]) (obs := []) rfl (by kernel_rfl) trivial fun a hE => ?_
 refine WR.done rfl ?_
 refine Runs.sr ?_
 replace H := server_Server.open H
 refine WR.e hE [.pointer (some ⟨al_s.d_p, 0, none⟩)] [(2, .pointer (some ⟨al_s.d_p, 0, none⟩))] (obs := [.cell ⟨p_s, 0, none⟩ (.pointer (some ⟨al_s.d_p, 0, none⟩))]) ⟨H.cell 0 rfl rfl, trivial⟩ fun a hE => ?_
 replace H := server_Server.shut al_s (s) H.t2.t2.t2
 refine Runs.ret hE Tryz.func24 rfl rfl ?_
 cases hm
 exact ⟨rfl, H⟩

noncomputable abbrev C36p : List (PK El) := [pV thicketkeep_D.dv thicketkeep_D.val, pR 6]
noncomputable def C36 : Con El := mkCon 36 C36p (fun i_ => thicketkeep_Command i_.1 i_.2.1.2.2) 0 0 (fun i_ t ns_ as_ => .agg #[.int .i64 t.Kind, .int .i64 t.Queue, .int .i64 t.Job.At, .int .i64 t.Job.Gen, .int .i64 t.Time, .int .i64 t.Data]) (fun i_ t ns_ as_ => [])

theorem S36 : (C36).Sound Tryz.prog :=
  fn_sound mixed (C36) (n := 52) (rs := rsOf Tryz.prog 36) [.C 2000 0, .C 2000 1, .C 2000 2, .C 2000 3, .C 2000 4, .C 2000 5] [] (gj (gC 2000 0 6 api_Command.dec) []) (fun i => (.s (.new 0 []) (.s (.new 1 []) (.s (.seg 2 [.C 0 2]) (.s (.gd 0 (.const (.int .i64 16)) 0) (.s (.seg 2 [.Q 0]) (.cond (.s (.seg 2 [.C 0 5, .C 0 6, .C 0 7, .C 0 8, .C 0 9, .C 0 10]) (.s (.sto 1) (.rk [(1, 2000), (2000, 92000)] .ret))) (.s (.bld 2 1 3) (.s (.seg 1 []) (.jg (api_Command) 1 0 (gj (gC 5 0 6 api_Command.dec) [nPk 5]) (fun st_ s_ ns_ as_ => ([(6, .pointer (some ⟨(nn ns_ 0), 0, none⟩))] ++ kp [1, 2, 4] st_, ka [1, 0] st_ ++ zipL [5] [.blk (nn ns_ 0) 33 [.int .i64 s_.Kind, .int .i64 s_.Queue, .int .i64 s_.Job.At, .int .i64 s_.Job.Gen, .int .i64 s_.Time, .int .i64 s_.Data]])) (.drw (.q [0, 1, 2, 7, 8, 11, 12, 13, 14] [.C 0 0, .C 0 1, .C 0 3, .C 0 4] (.alt2 3 (.call K10 [] []) [.C 0 4, .C 0 3, .C 0 1] (.s (.gd 0 (.const (.int .i64 11)) 3) (.q [4] [.Q 3] (.s (.idx false 2 (.tmp 18) 1) (.q [5, 6] [.A 1, .X 1 2 0] (.alt2 9 (.call K10 [] []) [.X 1 2 0, .A 1, .Q 3, .C 0 4, .C 0 3] (.s (.gd 0 (.const (.int .i64 2)) 4) (.q [10, 15] [.Q 4] (.a 16 (.new 6 []) [.Q 4, .X 1 2 0, .A 1, .Q 3, .C 0 4, .C 0 3] (.a 17 (.sto 6) [] (.rk [(6, 5), (5, 90005)] .leaf))))) 16 (.new 7 []) [.X 1 2 0, .A 1, .Q 3, .C 0 4, .C 0 3, .C 0 1] (.a 9 (.call K10 [] []) [.X 1 2 0, .A 1, .Q 3, .C 0 4, .C 0 3] (.s (.gd 0 (.const (.int .i64 2)) 5) (.q [10, 15] [.Q 5] (.a 17 (.sto 7) [] (.rk [(7, 5), (5, 90005)] .leaf)))))))))) 16 (.new 8 []) [.C 0 4, .C 0 3, .C 0 1, .C 0 0] (.a 3 (.call K10 [] []) [.C 0 4, .C 0 3, .C 0 1] (.s (.gd 0 (.const (.int .i64 11)) 6) (.q [4] [.Q 6] (.s (.idx false 2 (.tmp 18) 2) (.q [5, 6] [.A 2, .X 2 2 0] (.a 9 (.call K10 [] []) [.X 2 2 0, .A 2, .Q 6, .C 0 4, .C 0 3] (.s (.gd 0 (.const (.int .i64 2)) 7) (.q [10, 15] [.Q 7] (.a 17 (.sto 8) [] (.rk [(8, 5), (5, 90005)] .leaf))))))))))))) (.s (.seg 2 [.C 0 3]) (.s (.gd 0 (.const (.int .i64 4)) 8) (.s (.seg 2 [.Q 8]) (.join (Int) 0 0 (gj (gC 5 4 1 dI) []) (fun st_ s_ ns_ as_ => match (g2 (gP 5) (g2 (gC 5 0 1 dI) (g2 (gC 5 1 1 dI) (g2 (gC 5 2 1 dI) (g2 (gC 5 3 1 dI) (gC 5 5 1 dI)))))) st_ with | some x_ => ([] ++ kp [1, 2, 4, 6] st_, ka [1, 0] st_ ++ zipL [5] [.blk (x_.1) 33 [.int .i64 (x_.2.1), .int .i64 (x_.2.2.1), .int .i64 (x_.2.2.2.1), .int .i64 (x_.2.2.2.2.1), .int .i64 s_, .int .i64 (x_.2.2.2.2.2)]]) | none => ([], [])) (.cond (.s (.seg 2 [.C 5 4]) (.s (.gd 0 (.const (.int .i64 30)) 10) (.s (.seg 2 [.Q 10]) (.s (.sto 5) .leaf)))) .leaf) (.s (.seg 3 []) (.join (Int × Int) 0 0 (gj (g2 (gC 5 2 1 dI) (gC 5 3 1 dI)) []) (fun st_ s_ ns_ as_ => match (g2 (gP 5) (g2 (gC 5 0 1 dI) (g2 (gC 5 1 1 dI) (g2 (gC 5 4 1 dI) (gC 5 5 1 dI))))) st_ with | some x_ => ([] ++ kp [4, 6] st_, ka [1] st_ ++ zipL [5] [.blk (x_.1) 33 [.int .i64 (x_.2.1), .int .i64 (x_.2.2.1), .int .i64 s_.1, .int .i64 s_.2, .int .i64 (x_.2.2.2.1), .int .i64 (x_.2.2.2.2)]]) | none => ([], [])) (.cond (.s (.seg 6 [.C 0 2]) (.s (.call K10 [] []) (.s (.idx true 0 (.tmp 47) 4) (.s (.seg 3 [.A 4, .R 4 0, .R 4 1]) (.s (.sto 5) .leaf))))) .leaf) (.s (.seg 1 [.C 5 0, .C 5 1, .C 5 2, .C 5 3, .C 5 4, .C 5 5]) (.s (.sto 1) (.rk [(1, 2000), (2000, 92000)] .ret))))))))))))))))))) Tryz.func36 rfl rfl (by kernel_rfl) (fun _ => rfl) (fun i => by kernel_rfl) (fun i s => by kernel_rfl)

noncomputable def K36 : SCon El Tryz.prog := ⟨C36, S36, Tryz.call36⟩

noncomputable abbrev C25p : List (PK El) := [pV thicketlaw25_Ask.dv thicketlaw25_Ask.val, pR 6]
noncomputable def C25 : Con El := mkCon 25 C25p (fun i_ => thicketlaw25_act i_.1 i_.2.1.2.2) 0 0 (fun i_ t ns_ as_ => .agg #[.int .i64 t.Kind, .int .i64 t.Box, .int .i64 t.Command.Kind, .int .i64 t.Command.Queue, .int .i64 t.Command.Job.At, .int .i64 t.Command.Job.Gen, .int .i64 t.Command.Time, .int .i64 t.Command.Data]) (fun i_ t ns_ as_ => [])

theorem S25 : (C25).Sound Tryz.prog :=
  fn_sound mixed (C25) (n := 33) (rs := rsOf Tryz.prog 25) [.C 2000 0, .C 2000 1, .C 2000 2, .C 2000 3, .C 2000 4, .C 2000 5, .C 2000 6, .C 2000 7] [] (gj (gC 2000 0 8 api_Act.dec) []) (fun i => (.s (.new 0 []) (.s (.new 1 []) (.s (.seg 3 [.C 0 2, .C 0 3, .C 0 4, .C 0 5, .C 0 6, .C 0 7, .C 0 8, .C 0 9, .C 0 10, .C 0 11, .C 0 12]) (.s (.call K36 [.R 0] []) (.s (.new 2 []) (.s (.sto 2) (.s (.seg 2 [.C 0 0]) (.joinR (Unit) 0 0 (gj gU []) (fun st_ s_ ns_ as_ => ([] ++ kp [4, 5] st_, ka [2, 1] st_)) (.blk (.s (.seg 2 []) (.join (Bool) 0 0 (gj (gB 12) []) (fun st_ s_ ns_ as_ => ([(12, .bool s_)] ++ kp [2, 4, 5, 11] st_, ka [2, 1, 0] st_)) (.cond .leaf (.s (.seg 2 []) .leaf)) (.cond (.drw (.q [0, 1, 3] [.C 0 1, .C 2 0, .C 2 1, .C 2 2, .C 2 3, .C 2 4, .C 2 5] (.a 2 (.call K10 [] []) [.C 2 0, .C 2 1, .C 2 2, .C 2 3, .C 2 4, .C 2 5] (.q [4] [] (.a 5 (.sto 1) [] (.rk [(1, 2000), (2000, 92000)] .ret)))))) (.s (.seg 2 []) (.join (Bool) 0 0 (gj (gB 20) []) (fun st_ s_ ns_ as_ => ([(20, .bool s_)] ++ kp [2, 4, 5, 11] st_, ka [2, 1, 0] st_)) (.cond .leaf (.s (.seg 2 []) .leaf)) (.cond (.s (.seg 1 []) (.s (.sto 1) (.rk [(1, 2000), (2000, 92000)] .ret))) (.s (.seg 2 []) (.cond (.s (.seg 1 []) (.s (.sto 1) (.rk [(1, 2000), (2000, 92000)] .ret))) (.s (.seg 2 []) (.cond (.s (.seg 2 [.C 0 13, .C 0 14, .C 0 15, .C 0 16, .C 0 17, .C 0 18, .C 0 19, .C 0 20]) (.s (.sto 1) (.rk [(1, 2000), (2000, 92000)] .ret))) .leaf))))))))))) (.s (.seg 2 [.C 2 0, .C 2 1, .C 2 2, .C 2 3, .C 2 4, .C 2 5]) (.s (.sto 1) (.rk [(1, 2000), (2000, 92000)] .ret)))))))))))) Tryz.func25 rfl rfl (by kernel_rfl) (fun _ => rfl) (fun i => by kernel_rfl) (fun i s => by kernel_rfl)

noncomputable def K25 : SCon El Tryz.prog := ⟨C25, S25, Tryz.call25⟩

theorem thicketlaw25_act_ok {w0 w : World} {As : List HP} {x : thicketlaw25_Ask} {sb_told : Option Addr} {sc_told : Nat} {told : List api_Ref} {X_told : HP} {t : api_Act} (hX_told : SlRd X_told api_Ref.enc 2 sb_told told) (hC_told : told.length ≤ sc_told) (hm : thicketlaw25_act x told = some t) (H : St w0 (X_told :: As) w) :
    CallsR Tryz.prog 25 #[.agg #[.int .i64 x.Kind, .int .i64 x.Box, .int .i64 x.D.Kind, .int .i64 x.D.Queue, .int .i64 x.D.Job, .int .i64 x.D.Data, .int .i64 x.D.Time, .int .i64 x.D.Raw.Kind, .int .i64 x.D.Raw.Queue, .int .i64 x.D.Raw.Job.At, .int .i64 x.D.Raw.Job.Gen, .int .i64 x.D.Raw.Time, .int .i64 x.D.Raw.Data, .int .i64 x.Raw.Kind, .int .i64 x.Raw.Box, .int .i64 x.Raw.Command.Kind, .int .i64 x.Raw.Command.Queue, .int .i64 x.Raw.Command.Job.At, .int .i64 x.Raw.Command.Job.Gen, .int .i64 x.Raw.Command.Time, .int .i64 x.Raw.Command.Data], .slice sb_told told.length sc_told] w fun v w' => v = .agg #[.int .i64 t.Kind, .int .i64 t.Box, .int .i64 t.Command.Kind, .int .i64 t.Command.Queue, .int .i64 t.Command.Job.At, .int .i64 t.Command.Job.Gen, .int .i64 t.Command.Time, .int .i64 t.Command.Data] ∧ St w0 (X_told :: As) w' := by
  refine (S25 (x, (sb_told, sc_told, told), ()) t hm w0 w (X_told :: As) (rdc (rdH 6 (.head _) hX_told hC_told) rd0) H).mono ?_
  rintro v w' ⟨ns, as_, hn, ha, hv, H, hfx⟩
  obtain rfl := ls0 hn
  obtain rfl := ls0 ha
  refine ⟨hv, ?_⟩
  exact H

theorem slices_Clone_trace_Event_ok {w0 w : World} {As : List HP} {sb_s : Option Addr} {sc_s : Nat} {s : List trace_Event} {X_s : HP} {t : List trace_Event} (hX_s : SlRd X_s trace_Event.enc 14 sb_s s) (hC_s : s.length ≤ sc_s) (hm : lClone s = some t) (H : St w0 (X_s :: As) w) :
    CallsR Tryz.prog 44 #[.slice sb_s s.length sc_s] w fun v w' => ∃ (sb0 : Option Addr) (sc0 : Nat), v = .slice sb0 t.length sc0 ∧ St w0 (Sl 61 trace_Event.enc 14 sb0 sc0 t :: X_s :: As) w' := by
  unfold lClone at hm
  split at hm
  · rename_i hmx
    cases hm
    have he := trace_Event.enc_ok
    refine enter (args := [.slice sb_s s.length sc_s]) Tryz.func44 rfl rfl rfl fun a hE => ?_
    refine Runs.seq ?_
    refine Runs.region ?_
    refine WR.seg hE 1 [] [0] (Lo := [(0, .slice sb_s s.length sc_s)]) (obs := []) rfl (by kernel_rfl) trivial fun a hE => ?_
    refine WR.done rfl ?_
    refine Runs.seq ?_
    refine Runs.seq ?_
    refine Runs.region ?_
    cases sb_s with
    | none =>
      have hs : s = [] := by
        obtain ⟨h1, _, h⟩ := H.at 0 rfl
        rcases hX_s h1 h with h | ⟨b, off, cs, T, fr, h, _⟩
        · exact h
        · cases h
      subst hs
      refine WR.seg hE 2 [] [4] (Lo := [(4, .bool true)]) (obs := []) rfl (by kernel_rfl) trivial fun a hE => ?_
      refine WR.done rfl ?_
      refine Runs.condT hE rfl ?_
      refine Runs.seq ?_
      refine Runs.region ?_
      refine WR.seg hE 1 [] [2] (Lo := [(2, .slice none 0 0)]) (obs := []) rfl (by kernel_rfl) trivial fun a hE => ?_
      refine WR.done rfl ?_
      refine Runs.ret hE Tryz.func44 rfl rfl ?_
      exact ⟨none, 0, rfl, H.slNil 61 trace_Event.enc 14⟩
    | some ad =>
      refine WR.seg hE 2 [] [0, 4] (Lo := [(0, .slice (some ad) s.length sc_s), (4, .bool false)]) (obs := []) rfl (by kernel_rfl) trivial fun a hE => ?_
      refine WR.done rfl ?_
      refine Runs.condF hE rfl ?_
      refine Runs.skip ?_
      refine Runs.seq ?_
      refine Runs.region ?_
      refine WR.eff hE rfl rfl rfl rfl (OpTo.buildSl (T := 61) hE H he ([] : List trace_Event) rfl (fun _ => by kernel_rfl) rfl rfl rfl) ?_
      rintro _ w ⟨r, rfl, H⟩ a hE
      refine WR.seg hE 2 [] [5, 6] (Lo := [(5, .slice (some ⟨r, 0, none⟩) ([] : List trace_Event).length 0), (6, .slice (some ad) s.length sc_s)]) (obs := []) rfl (by kernel_rfl) trivial fun a hE => ?_
      have happ : mApp ([] : List trace_Event) s = some s := by unfold mApp; rw [if_pos (by simpa using hmx)]; simp
      refine WR.eff hE rfl rfl rfl rfl (OpTo.appendM happ hE H he rfl rfl rfl rfl rfl rfl rfl rfl rfl rfl (SlRd.all hX_s he H 1 rfl) rfl) ?_
      rintro _ w ⟨sb, sc, rfl, H⟩ a hE
      refine WR.seg hE 4 [] [2] (Lo := [(2, .slice sb s.length sc)]) (obs := []) rfl (by kernel_rfl) trivial fun a hE => ?_
      refine WR.done rfl ?_
      refine Runs.ret hE Tryz.func44 rfl rfl ?_
      exact ⟨sb, sc, rfl, H⟩
  · cases hm

theorem trace_Book_Events_ok {w0 w : World} {As : List HP} {p_b : Nat} {al_b : trace_Book.A} {b : trace_Book} {t : (List trace_Event)}  (hm : trace_Book_Events b = some t) (H : St w0 (trace_Book.R p_b al_b b :: As) w) :
    CallsR Tryz.prog 21 #[.pointer (some ⟨p_b, 0, none⟩)] w fun v w' => ∃ (sb0 : Option Addr), ∃ (sc0 : Nat), v = .slice sb0 t.length sc0 ∧ St w0 (Sl 61 trace_Event.enc 14 sb0 sc0 t :: trace_Book.R p_b al_b b :: As) w' := by
 rw [trace_Book_Events] at hm
 refine enter (args := [.pointer (some ⟨p_b, 0, none⟩)]) Tryz.func21 rfl rfl rfl fun a hE => ?_
 refine Runs.sr ?_
 refine WR.seg hE 1 [] [0] (Lo := [(0, .pointer (some ⟨p_b, 0, none⟩))]) (obs := []) rfl (by kernel_rfl) trivial fun a hE => ?_
 refine WR.done rfl ?_
 refine Runs.sr ?_
 replace H := trace_Book.open H
 refine WR.d hE 4 [.slice al_b.l_b b.l.length al_b.l_c] [(6, .slice al_b.l_b b.l.length al_b.l_c)] (obs := [.cell ⟨p_b, 1, none⟩ (.slice al_b.l_b b.l.length al_b.l_c)]) ⟨H.cell 0 rfl rfl, trivial⟩ fun a hE => ?_
 obtain ⟨t_, et_, hm⟩ := bind_some hm
 replace H := H.t2
 refine WR.eff hE rfl rfl rfl rfl (OpTo.fn hE rfl rfl Tryz.call44 (slices_Clone_trace_Event_ok (hX_s := (sl_rd 61 trace_Event.enc 14 _ _ _)) (hC_s := (H.slCap 0 rfl).1) et_ H)) ?_
 rintro _ w ⟨sb, sc, rfl, H⟩ a hE
 refine WR.e0 hE [(2, .slice sb t_.length sc)] fun a hE => ?_
 replace H := trace_Book.shut al_b (b) H.t1.t3.t3
 refine Runs.ret hE Tryz.func21 rfl rfl ?_
 cases hm
 exact ⟨sb, sc, rfl, H.t1⟩

theorem mail_Box_api_Command_Len_ok {w0 w : World} {As : List HP} {p_b : Nat} {al_b : mail_Box_api_Command.A} {b : mail_Box_api_Command} {t : Int}  (hm : mail_Box_api_Command_Len b = some t) (H : St w0 (mail_Box_api_Command.R p_b al_b b :: As) w) :
    CallsR Tryz.prog 60 #[.pointer (some ⟨p_b, 0, none⟩)] w fun v w' => v = .int .i64 t ∧ St w0 (mail_Box_api_Command.R p_b al_b b :: As) w' := by
 rw [mail_Box_api_Command_Len] at hm
 refine enter (args := [.pointer (some ⟨p_b, 0, none⟩)]) Tryz.func60 rfl rfl rfl fun a hE => ?_
 refine Runs.sr ?_
 refine WR.seg hE 1 [] [0] (Lo := [(0, .pointer (some ⟨p_b, 0, none⟩))]) (obs := []) rfl (by kernel_rfl) trivial fun a hE => ?_
 refine WR.done rfl ?_
 refine Runs.sr ?_
 replace H := mail_Box_api_Command.open H
 refine WR.d hE 4 [.chan (some al_b.c__p)] [(6, .chan (some al_b.c__p))] (obs := [.cell ⟨p_b, 0, none⟩ (.chan (some al_b.c__p))]) ⟨H.cell 0 rfl rfl, trivial⟩ fun a hE => ?_
 refine WR.eff hE rfl rfl rfl rfl (OpTo.lenChM 1 hE H rfl rfl rfl rfl) ?_
 rintro _ _ ⟨rfl, rfl⟩ a hE
 refine WR.e0 hE [(2, .int .i64 (b.c_.buf.length : Int))] fun a hE => ?_
 replace H := mail_Box_api_Command.shut al_b (b) H.t1.t1
 refine Runs.ret hE Tryz.func60 rfl rfl ?_
 cases hm
 exact ⟨rfl, H⟩

theorem mail_Desk_api_Command_Len_ok {w0 w : World} {As : List HP} {k : Nat} {p_d : Nat} {al_d : mail_Desk_api_Command.A} {d : mail_Desk_api_Command} {t : Int}  (hm : mail_Desk_api_Command_Len k d = some t) (H : St w0 (mail_Desk_api_Command.R p_d al_d d :: As) w) :
    CallsR Tryz.prog 33 #[.pointer (some ⟨p_d, 0, none⟩)] w fun v w' => v = .int .i64 t ∧ St w0 (mail_Desk_api_Command.R p_d al_d d :: As) w' := by
 rw [mail_Desk_api_Command_Len] at hm
 refine enter (args := [.pointer (some ⟨p_d, 0, none⟩)]) Tryz.func33 rfl rfl rfl fun a hE => ?_
 refine Runs.sr ?_
 refine WR.seg hE 1 [] [0] (Lo := [(0, .pointer (some ⟨p_d, 0, none⟩))]) (obs := []) rfl (by kernel_rfl) trivial fun a hE => ?_
 refine WR.done rfl ?_
 refine Runs.sr ?_
 refine WR.e0 hE [(3, .int .i64 0)] fun a hE => ?_
 refine Runs.seq ?_
 refine Runs.sr ?_
 replace H := mail_Desk_api_Command.open H
 refine WR.e hE [.slice al_d.l_b d.l.length al_d.l_c] [(9, .slice al_d.l_b d.l.length al_d.l_c), (10, .int .i64 (d.l.length : Int)), (11, .int .i64 0)] (obs := [.cell ⟨p_d, 0, none⟩ (.slice al_d.l_b d.l.length al_d.l_c)]) ⟨H.cell 0 rfl rfl, trivial⟩ fun a hE => ?_
 replace H := mail_Desk_api_Command.shut al_d (d) H.t1.t1
 obtain ⟨s, es, hm⟩ := bind_some hm
 refine Runs.join (fun a w => EnvOk 21 a [(3, .int .i64 s)] ∧ St w0 (mail_Desk_api_Command.R p_d al_d d :: As) w) (fun hk => ?_) ?_
 ·replace hm := es; clear es
  refine Runs.block ?_
  refine Runs.loop (fun m a w => ∃ (n : Int), ∃ (x : Int), EnvOk 21 a [(3, .int .i64 n), (9, .slice al_d.l_b d.l.length al_d.l_c), (10, .int .i64 (d.l.length : Int)), (11, .int .i64 x)] ∧ St w0 (mail_Desk_api_Command.R p_d al_d d :: As) w ∧ mail_Desk_api_Command_Len_l0 (d.l.length : Int) d m n x = some s) k ⟨0, 0, hE.sel [3, 9, 10, 11] (by kernel_rfl), H, hm⟩ ?_
  rintro m ih a w ⟨n, x, hE, H, hm⟩
  cases m with
  | zero => simp [mail_Desk_api_Command_Len_l0] at hm
  | succ m =>
   rw [mail_Desk_api_Command_Len_l0] at hm
   refine Runs.sr ?_
   refine WR.seg hE 1 [] [3, 9, 10, 11, 12] (Lo := [(3, .int .i64 n), (9, .slice al_d.l_b d.l.length al_d.l_c), (10, .int .i64 (d.l.length : Int)), (11, .int .i64 x), (12, .bool (decide (x < (d.l.length : Int))))]) (obs := []) rfl (by kernel_rfl) trivial fun a hE => ?_
   refine WR.done rfl ?_
   refine Runs.seq ?_
   refine Runs.cond hE rfl (fun c => ?_) (fun c => ?_)
   ·replace hm := cond_t c hm
    refine Runs.skip ?_
    refine Runs.seq ?_
    refine Runs.block ?_
    refine Runs.sr ?_
    replace H := mail_Desk_api_Command.open H
    obtain ⟨x2, ex2, hm⟩ := bind_some hm
    obtain ⟨gs, ⟨p, al⟩, hgl, hg, H⟩ := St.slxTake (R := mail_Box_api_Command.RX) H.t1 ex2
    replace H : St w0 (mail_Box_api_Command.R p al x2 :: Sl 129 mail_Box_api_Command.encX 1 al_d.l_b al_d.l_c gs :: But mail_Box_api_Command.RX gs d.l x :: _) _ := H
    obtain ⟨b, o, hs, hb⟩ := SlRd.base (sl_rd 129 mail_Box_api_Command.encX 1 _ _ _) mail_Box_api_Command.encX_ok H 1 rfl hg
    refine WR.e hE [.pointer (some ⟨b, o, none⟩), .pointer (some ⟨p, 0, none⟩)] [(5, .pointer (some ⟨p, 0, none⟩))] (obs := [.p ((al_d.l_b : Option Addr) = some ⟨b, o, none⟩), .p (0 ≤ (x : Int) ∧ (x : Int) < ((d.l.length : Nat) : Int)), .cell ⟨b, o + (Int.toNat x) * 1, none⟩ (.pointer (some ⟨p, 0, none⟩))]) ⟨hs, (by have h_ := hb; rw [hgl] at h_; exact h_), SlRd.cells (sl_rd 129 mail_Box_api_Command.encX 1 _ _ _) mail_Box_api_Command.encX_ok H 1 rfl hs hg 0 _ rfl, trivial⟩ fun a hE => ?_
    refine Runs.region ?_
    refine WR.d0 hE 2 [(15, .int .i64 n), (16, .pointer (some ⟨p, 0, none⟩))] fun a hE => ?_
    obtain ⟨t_, et_, hm⟩ := bind_some hm
    refine WR.eff hE rfl rfl rfl rfl (OpTo.fn hE rfl rfl Tryz.call60 (mail_Box_api_Command_Len_ok et_ H)) ?_
    rintro _ w ⟨rfl, H⟩ a hE
    refine WR.e0 hE [(3, .int .i64 (w64 (n + t_)))] fun a hE => ?_
    refine Runs.inBlock ?_
    refine Runs.region ?_
    refine WR.e0 hE [(11, .int .i64 (w64 (x + 1)))] fun a hE => ?_
    replace H := St.slxPut0 (R := mail_Box_api_Command.RX) (g' := (p, al)) (x := x2) H.t2.t2.t2 ex2 hgl hg rfl
    replace H := mail_Desk_api_Command.shut al_d (d) H.t1
    exact ih m (Nat.lt_succ_self m) _ _ ⟨w64 (n + t_), w64 (x + 1), hE.sel [3, 9, 10, 11] (by kernel_rfl), H, hm⟩
   ·replace hm := cond_f c hm
    refine Runs.exit rfl ?_
    cases hm
    exact hk _ _ ⟨hE.sel [3] (by kernel_rfl), H⟩
 rintro a w ⟨hE, H⟩
 refine Runs.sr ?_
 refine WR.seg hE 2 [] [2] (Lo := [(2, .int .i64 s)]) (obs := []) rfl (by kernel_rfl) trivial fun a hE => ?_
 refine WR.done rfl ?_
 refine Runs.ret hE Tryz.func33 rfl rfl ?_
 cases hm
 exact ⟨rfl, H⟩

theorem server_Server_Waits_ok {w0 w : World} {As : List HP} {k : Nat} {p_s : Nat} {al_s : server_Server.A} {s : server_Server} {t : Int}  (hm : server_Server_Waits k s = some t) (H : St w0 (server_Server.R p_s al_s s :: As) w) :
    CallsR Tryz.prog 13 #[.pointer (some ⟨p_s, 0, none⟩)] w fun v w' => v = .int .i64 t ∧ St w0 (server_Server.R p_s al_s s :: As) w' := by
 rw [server_Server_Waits] at hm
 refine enter (args := [.pointer (some ⟨p_s, 0, none⟩)]) Tryz.func13 rfl rfl rfl fun a hE => ?_
 refine Runs.sr ?_
 refine WR.seg hE 1 [] [0] (Lo := [(0, .pointer (some ⟨p_s, 0, none⟩))]) (obs := []) rfl (by kernel_rfl) trivial fun a hE => ?_
 refine WR.done rfl ?_
 refine Runs.sr ?_
 replace H := server_Server.open H
 refine WR.d hE 4 [.pointer (some ⟨al_s.desk_p, 0, none⟩)] [(6, .pointer (some ⟨al_s.desk_p, 0, none⟩))] (obs := [.cell ⟨p_s, 1, none⟩ (.pointer (some ⟨al_s.desk_p, 0, none⟩))]) ⟨H.cell 0 rfl rfl, trivial⟩ fun a hE => ?_
 obtain ⟨t_, et_, hm⟩ := bind_some hm
 refine WR.eff hE rfl rfl rfl rfl (OpTo.fn hE rfl rfl Tryz.call33 (mail_Desk_api_Command_Len_ok et_ H.t2)) ?_
 rintro _ w ⟨rfl, H⟩ a hE
 refine WR.e0 hE [(2, .int .i64 t_)] fun a hE => ?_
 replace H := server_Server.shut al_s (s) H.t2.t2
 refine Runs.ret hE Tryz.func13 rfl rfl ?_
 cases hm
 exact ⟨rfl, H⟩

noncomputable abbrev C69p : List (PK El) := [pO pool_Pool_jobs_Job.D]
noncomputable def C69 (k : Nat) : Con El := mkCon 69 C69p (fun i_ => pool_Pool_jobs_Job_All k i_.1.2.2) 1 1 (fun i_ t ns_ as_ => .slice (na as_ 0) t.length (nn ns_ 0)) (fun i_ t ns_ as_ => [.sl 6 31 (na as_ 0) (nn ns_ 0) t] ++ pool_Pool_jobs_Job.D.flat i_.1.1 i_.1.2.1 i_.1.2.2)

noncomputable abbrev C69r (k : Nat) (i : Ins C69p) : Kn El → VC (C69 k).T := retC Tryz.prog (C69 k) (rsOf Tryz.prog 69) [] [1000, 0, 1, 2] (gj (gL 6 1000) [nSk 1000]) i

noncomputable def C69l0 (i_ : Ins C69p) : BCon El ((List api_Ref)) := ⟨nav [1, 1, 0, 1] (bodyOf Tryz.prog 69), Int, (List api_Ref) × Int, (List api_Ref), (List api_Ref), fun u => .inr u, fun _ _ => none, fun x_ => [], fun x_ v_ ns_ as_ => [(3, .slice (na as_ 0) v_.1.length (nn ns_ 0)), (9, .slice i_.1.2.1.l_b i_.1.2.2.l.length i_.1.2.1.l_c), (10, .int .i64 (x_)), (11, .int .i64 v_.2)], fun x_ v_ ns_ as_ => zipL [16] [.sl 6 31 (na as_ 0) (nn ns_ 0) v_.1] ++ zipL [0, 1, 2] (pool_Pool_jobs_Job.D.flat i_.1.1 i_.1.2.1 i_.1.2.2), 1, 1, fun x_ u_ ns_ as_ => [(3, .slice (na as_ 0) u_.length (nn ns_ 0))], fun x_ u_ ns_ as_ => zipL [15] [.sl 6 31 (na as_ 0) (nn ns_ 0) u_] ++ zipL [0, 1, 2] (pool_Pool_jobs_Job.D.flat i_.1.1 i_.1.2.1 i_.1.2.2)⟩

noncomputable def C69l0g (k : Nat) (i_ : Ins C69p) : Nat → (C69l0 i_).X → (C69l0 i_).V → Option (C69l0 i_).W := fun m_ (x_ : Int) (v_ : (List api_Ref) × Int) => pool_Pool_jobs_Job_All_l0 (x_) i_.1.2.2 m_ v_.1 v_.2

theorem C69l0s (k : Nat) (i : Ins C69p) (m : Nat) : ((C69l0 i).at (C69l0g k i) m).Sound Tryz.prog 69 27 (C69r k i) :=
  loop_sound mixed (C69l0 i) (id := 0) (body := nav [1, 1, 0, 1, 0, 0] (bodyOf Tryz.prog 69)) (C69l0g k i) (fun _ => none) (fun u => u) (gj (g2 (gL 6 16) (gI 11)) [nSk 16]) (gj (gL 6 15) [nSk 15]) (fun m => (.s (.seg 1 []) (.cond (.join ((List api_Ref)) 1 1 (gj (gL 6 20) [nSk 20]) (fun st_ s_ ns_ as_ => ([(3, .slice (na as_ 0) s_.length (nn ns_ 0))] ++ kp [9, 10, 11] st_, ka [0, 1, 2] st_ ++ zipL [20] [.sl 6 31 (na as_ 0) (nn ns_ 0) s_])) (.blk (.s (.seg 1 []) (.s (.idx false 1 (.tmp 11) 5) (.s (.seg 2 [.A 5, .X 5 1 0, .X 5 1 1, .X 5 1 2, .X 5 1 3, .X 5 1 4, .X 5 1 5, .X 5 1 6]) (.s (.new 21 []) (.s (.seg 1 []) (.s (.sto 21) (.s (.seg 2 [.C 21 1]) (.cond (.s (.seg 5 [.C 21 0]) (.s (.bld 22 6 31) (.s (.app 16 (.O 22)) (.s (.seg 1 []) (.rk [(16, 20), (20, 90020)] .leaf))))) (.rk [(16, 20), (20, 90020)] .leaf)))))))))) (.s (.seg 2 []) (.rk [(20, 16), (16, 90016)] .back))) (.rk [(16, 15), (15, 90015)] .leaf)))) (by kernel_rfl) (fun _ _ => rfl) (fun r y h => by cases h) (fun u => rfl) (fun m x v n1 n2 => by kernel_rfl) (fun m x v n1 n2 s => by kernel_rfl) m

theorem S69 (k : Nat) : (C69 k).Sound Tryz.prog :=
  fn_sound mixed (C69 k) (n := 27) (rs := rsOf Tryz.prog 69) [] [1000, 0, 1, 2] (gj (gL 6 1000) [nSk 1000]) (fun i => (.s (.seg 1 []) (.s (.seg 1 []) (.s (.seg 6 [.C 0 1]) (.s (.nil 17 6 31) (.rk [(17, 16), (16, 90016)] (.loop ⟨(C69l0 i).at (C69l0g k i) k, C69l0s k i k⟩ (gl (gI 10) (g2 (gL 6 16) (gI 11)) [nSk 16]) (.s (.seg 2 []) (.rk [(15, 1000), (1000, 91000)] .ret))))))))) Tryz.func69 rfl rfl (by kernel_rfl) (fun _ => rfl) (fun i => by kernel_rfl) (fun i s => by kernel_rfl)

noncomputable def K69 (k : Nat) : SCon El Tryz.prog := ⟨C69 k, S69 k, Tryz.call69⟩

noncomputable abbrev C45p : List (PK El) := [pO jobs_Table.D]
noncomputable def C45 (k : Nat) : Con El := mkCon 45 C45p (fun i_ => jobs_Table_All k i_.1.2.2) 1 1 (fun i_ t ns_ as_ => .slice (na as_ 0) t.length (nn ns_ 0)) (fun i_ t ns_ as_ => [.sl 6 31 (na as_ 0) (nn ns_ 0) t] ++ jobs_Table.D.flat i_.1.1 i_.1.2.1 i_.1.2.2)

theorem S45 (k : Nat) : (C45 k).Sound Tryz.prog :=
  fn_sound mixed (C45 k) (n := 8) (rs := rsOf Tryz.prog 45) [] [1000, 0, 1, 2, 3, 4] (gj (gL 6 1000) [nSk 1000]) (fun i => (.s (.seg 1 []) (.s (.seg 4 [.C 0 0]) (.s (.call (K69 k) [.K 1, .K 2, .K 3] [5, 1, 2, 3]) (.s (.seg 1 []) (.rk [(5, 1000), (1000, 91000)] .ret)))))) Tryz.func45 rfl rfl (by kernel_rfl) (fun _ => rfl) (fun i => by kernel_rfl) (fun i s => by kernel_rfl)

noncomputable def K45 (k : Nat) : SCon El Tryz.prog := ⟨C45 k, S45 k, Tryz.call45⟩

noncomputable abbrev C99p : List (PK El) := [pO pool_Pool_jobs_Job.D, pV api_Ref.dv api_Ref.val]
noncomputable def C99 : Con El := mkConO 99 C99p (fun i_ => pool_Pool_jobs_Job_find i_.1.2.2 i_.2.1) 0 0 (fun i_ t ns_ as_ => .tuple #[elemV i_.1.2.1.l_b 7 t.1, .int .i64 t.2]) (fun i_ t ns_ as_ => pool_Pool_jobs_Job.D.flat i_.1.1 i_.1.2.1 i_.1.2.2) (fun i_ t => t.1)

theorem S99 : (C99).Sound Tryz.prog :=
  fn_sound mixed (C99) (n := 61) (rs := rsOf Tryz.prog 99) [] [0, 1, 2] (gj (g2 gE (gI 5)) []) (fun i => (.s (.new 3 []) (.s (.seg 2 []) (.join (Bool) 0 0 (gj (gB 38) []) (fun st_ s_ ns_ as_ => ([(38, .bool s_)] ++ kp [0, 3] st_, ka [3, 0, 1, 2] st_)) (.drw (.q [0, 1, 2, 3] [.C 3 0] (.split 10 (.q [4, 5, 6, 7, 8, 9, 10, 11, 12, 13, 14, 15, 16, 17, 18, 19, 20, 21, 22, 23, 24, 25, 26, 27, 28, 29, 30, 31] [] .leaf) (.q [4, 5, 6, 7, 8, 9, 10, 11, 12, 13] [.C 3 0, .C 0 1] (.split 20 (.q [14, 15, 16, 17, 18, 19, 20, 21, 22, 23, 24, 25, 26, 27, 28, 29, 30, 31] [] .leaf) (.q [14, 15, 16, 17, 18] [.C 3 1] (.split 25 (.q [19, 20, 21, 22, 23, 24, 25, 26, 27, 28, 29, 30, 31] [] .leaf) (.q [19, 20, 21, 22, 23, 24, 25, 26] [.C 3 1, .C 0 1, .C 3 0] (.s (.idx false 1 (.tmp 33) 2) (.q [27, 28, 29, 30, 31] [.A 2, .X 2 1 0] .leaf)))))))))) (.cond (.s (.seg 2 []) .ret) (.drw (.q [0, 1, 2, 3, 4, 5] [.C 0 1, .C 3 0] (.s (.idx false 1 (.tmp 44) 4) (.q [6, 7] [.A 4] (.drw (.q [0, 1, 2, 3, 4, 5, 6, 7] [.C 3 1, .X 4 1 0] (.pj 53 (Bool) mB (gB 59) (fun st s_ => ([(59, .bool s_)] ++ kp [6] st, ka [0, 1, 2, 3] st)) (.q [8, 9, 10, 11, 12, 13] [] .leaf) (.q [8, 9, 10, 11, 12, 13] [.X 4 1 1] .leaf) (.cond (.s (.seg 2 []) .ret) (.s (.seg 3 []) (.s (.el 4 4) .ret))))))))))))))) Tryz.func99 rfl rfl (by kernel_rfl) (fun _ => rfl) (fun i => by kernel_rfl) (fun i s => by kernel_rfl)

noncomputable def K99 : SCon El Tryz.prog := ⟨C99, S99, Tryz.call99⟩

noncomputable abbrev C70p : List (PK El) := [pO pool_Pool_jobs_Job.D, pV api_Ref.dv api_Ref.val]
noncomputable def C70 : Con El := mkCon 70 C70p (fun i_ => pool_Pool_jobs_Job_Get i_.1.2.2 i_.2.1) 0 0 (fun i_ t ns_ as_ => .tuple #[.agg #[.int .i64 t.1.Queue, .int .i64 t.1.Time, .int .i64 t.1.Data, .int .i64 t.1.Item.At, .int .i64 t.1.Item.Gen], .int .i64 t.2]) (fun i_ t ns_ as_ => pool_Pool_jobs_Job.D.flat i_.1.1 i_.1.2.1 i_.1.2.2)

theorem S70 : (C70).Sound Tryz.prog :=
  fn_sound mixed (C70) (n := 23) (rs := rsOf Tryz.prog 70) [.C 2000 0, .C 2000 1, .C 2000 2, .C 2000 3, .C 2000 4] [0, 1, 2] (gj (g2 (gC 2000 0 5 jobs_Job.dec) (gI 5)) []) (fun i => (.s (.new 3 []) (.s (.new 4 []) (.s (.seg 1 []) (.s (.seg 2 [.C 3 0, .C 3 1]) (.s (.call K99 [.K 0, .K 1, .K 2] [0, 1, 2]) (.eo 12 0 1 0 (.s (.seg 5 []) (.s (.seg 2 []) (.cond (.s (.new 5 []) (.s (.seg 2 [.C 5 0, .C 5 1, .C 5 2, .C 5 3, .C 5 4]) (.s (.sto 4) (.s (.seg 1 []) (.rk [(4, 2000), (2000, 92000)] .ret))))) .dead))) (.s (.seg 5 []) (.s (.seg 2 []) (.cond (.s (.new 6 []) (.s (.seg 2 [.C 6 0, .C 6 1, .C 6 2, .C 6 3, .C 6 4]) (.s (.sto 4) (.s (.seg 1 []) (.rk [(4, 2000), (2000, 92000)] .ret))))) (.s (.seg 4 [.X 0 1 2, .X 0 1 3, .X 0 1 4, .X 0 1 5, .X 0 1 6]) (.s (.sto 4) (.s (.seg 1 []) (.rk [(4, 2000), (2000, 92000)] .ret)))))))))))))) Tryz.func70 rfl rfl (by kernel_rfl) (fun _ => rfl) (fun i => by kernel_rfl) (fun i s => by kernel_rfl)

noncomputable def K70 : SCon El Tryz.prog := ⟨C70, S70, Tryz.call70⟩

noncomputable abbrev C46p : List (PK El) := [pO jobs_Table.D, pV api_Ref.dv api_Ref.val]
noncomputable def C46 : Con El := mkCon 46 C46p (fun i_ => jobs_Table_Get i_.1.2.2 i_.2.1) 0 0 (fun i_ t ns_ as_ => .tuple #[.agg #[.int .i64 t.1.Queue, .int .i64 t.1.Time, .int .i64 t.1.Data, .int .i64 t.1.Item.At, .int .i64 t.1.Item.Gen], .int .i64 t.2]) (fun i_ t ns_ as_ => jobs_Table.D.flat i_.1.1 i_.1.2.1 i_.1.2.2)

theorem S46 : (C46).Sound Tryz.prog :=
  fn_sound mixed (C46) (n := 14) (rs := rsOf Tryz.prog 46) [.C 2000 0, .C 2000 1, .C 2000 2, .C 2000 3, .C 2000 4] [0, 1, 2, 3, 4] (gj (g2 (gC 2000 0 5 jobs_Job.dec) (gI 5)) []) (fun i => (.s (.new 5 []) (.s (.new 6 []) (.s (.seg 1 []) (.drw (.q [0, 1, 2, 3, 4] [.C 0 0, .C 5 0, .C 5 1] (.a 5 (.call K70 [.K 1, .K 2, .K 3] [1, 2, 3]) [] (.q [6, 7] [] (.a 8 (.sto 6) [] (.q [9] [] (.rk [(6, 2000), (2000, 92000)] .ret))))))))))) Tryz.func46 rfl rfl (by kernel_rfl) (fun _ => rfl) (fun i => by kernel_rfl) (fun i s => by kernel_rfl)

noncomputable def K46 : SCon El Tryz.prog := ⟨C46, S46, Tryz.call46⟩

noncomputable abbrev C47p : List (PK El) := [pO clock_Clock.D, pI .i64]
noncomputable def C47 : Con El := mkCon 47 C47p (fun i_ => clock_Clock_Due i_.1.2.2 i_.2.1) 0 0 (fun i_ t ns_ as_ => .bool t) (fun i_ t ns_ as_ => clock_Clock.D.flat i_.1.1 i_.1.2.1 i_.1.2.2)

theorem S47 : (C47).Sound Tryz.prog :=
  fn_sound mixed (C47) (n := 11) (rs := rsOf Tryz.prog 47) [] [0] (gj (gB 4) []) (fun i => (.s (.seg 1 []) (.s (.seg 7 [.C 0 0]) .ret))) Tryz.func47 rfl rfl (by kernel_rfl) (fun _ => rfl) (fun i => by kernel_rfl) (fun i s => by kernel_rfl)

noncomputable def K47 : SCon El Tryz.prog := ⟨C47, S47, Tryz.call47⟩

noncomputable abbrev C26p : List (PK El) := [pO dispatch_Dispatcher.D, pI .i64]
noncomputable def C26 (k : Nat) : Con El := mkCon 26 C26p (fun i_ => dispatch_Dispatcher_Due k i_.1.2.2 i_.2.1) 0 0 (fun i_ t ns_ as_ => .int .i64 t) (fun i_ t ns_ as_ => dispatch_Dispatcher.D.flat i_.1.1 i_.1.2.1 i_.1.2.2)

noncomputable abbrev C26r (k : Nat) (i : Ins C26p) : Kn El → VC (C26 k).T := retC Tryz.prog (C26 k) (rsOf Tryz.prog 26) [] [0, 1, 2, 3, 4, 5, 6, 7, 8, 9, 10, 11, 12, 13, 14, 15, 16, 17, 18, 19, 20, 21] (gj (gI 4) []) i

noncomputable def C26l0 (i_ : Ins C26p) : BCon El (Int) := ⟨nav [1, 1, 0, 1] (bodyOf Tryz.prog 26), (List api_Ref) × (Option Addr × Nat) × Int, Int × Int, Int, Int, fun u => .inr u, fun _ _ => none, fun x_ => [], fun x_ v_ ns_ as_ => [(0, .pointer (some ⟨i_.1.1, 0, none⟩)), (1, .int .i64 i_.2.1), (5, .int .i64 v_.1), (14, .slice (x_.2.1.1) (x_.1).length (x_.2.1.2)), (15, .int .i64 (x_.2.2)), (16, .int .i64 v_.2)], fun x_ v_ ns_ as_ => zipL [0, 1, 2, 3, 4, 5, 6, 7, 8, 9, 10, 11, 12, 13, 14, 15, 16, 17, 18, 19, 20, 21] (dispatch_Dispatcher.D.flat i_.1.1 i_.1.2.1 i_.1.2.2) ++ zipL [22] [.sl 6 31 (x_.2.1.1) (x_.2.1.2) (x_.1)], 0, 0, fun x_ u_ ns_ as_ => [(5, .int .i64 u_)], fun x_ u_ ns_ as_ => zipL [0, 1, 2, 3, 4, 5, 6, 7, 8, 9, 10, 11, 12, 13, 14, 15, 16, 17, 18, 19, 20, 21] (dispatch_Dispatcher.D.flat i_.1.1 i_.1.2.1 i_.1.2.2)⟩

noncomputable def C26l0g (k : Nat) (i_ : Ins C26p) : Nat → (C26l0 i_).X → (C26l0 i_).V → Option (C26l0 i_).W := fun m_ (x_ : (List api_Ref) × (Option Addr × Nat) × Int) (v_ : Int × Int) => dispatch_Dispatcher_Due_l0 i_.2.1 (x_.2.2) i_.1.2.2 (x_.1) m_ v_.1 v_.2

theorem C26l0s (k : Nat) (i : Ins C26p) (m : Nat) : ((C26l0 i).at (C26l0g k i) m).Sound Tryz.prog 26 46 (C26r k i) :=
  loop_sound mixed (C26l0 i) (id := 0) (body := nav [1, 1, 0, 1, 0, 0] (bodyOf Tryz.prog 26)) (C26l0g k i) (fun _ => none) (fun u => u) (gj (g2 (gI 5) (gI 16)) []) (gj (gI 5) []) (fun m => (.s (.seg 1 []) (.cond (.join (Int) 0 0 (gj (gI 5) []) (fun st_ s_ ns_ as_ => ([(5, .int .i64 s_)] ++ kp [0, 1, 14, 15, 16] st_, ka [0, 1, 2, 3, 4, 5, 6, 7, 8, 9, 10, 11, 12, 13, 14, 15, 16, 17, 18, 19, 20, 21, 22] st_)) (.blk (.s (.idx false 22 (.tmp 16) 5) (.s (.seg 2 [.A 5, .X 5 22 0, .X 5 22 1]) (.s (.new 48 []) (.s (.sto 48) (.jg (jobs_Job) 1 0 (gj (gC 51 0 5 jobs_Job.dec) [nPk 51]) (fun st_ s_ ns_ as_ => ([(8, .pointer (some ⟨(nn ns_ 0), 0, none⟩))] ++ kp [0, 1, 5, 14, 15, 16] st_, ka [0, 1, 2, 3, 4, 5, 6, 7, 8, 9, 10, 11, 12, 13, 14, 15, 16, 17, 18, 19, 20, 21, 22] st_ ++ zipL [51] [.blk (nn ns_ 0) 108 [.int .i64 s_.Queue, .int .i64 s_.Time, .int .i64 s_.Data, .int .i64 s_.Item.At, .int .i64 s_.Item.Gen]])) (.drw (.q [0, 1, 2, 3, 4] [.C 0 7, .C 48 0, .C 48 1] (.alt2 5 (.call K46 [.K 15, .K 16, .K 17, .K 18, .K 19] [15, 16, 17, 18, 19]) [] (.q [6, 7, 8] [] (.a 9 (.new 52 []) [] (.a 10 (.sto 52) [] (.q [11] [] (.rk [(52, 51), (51, 90051)] .leaf))))) 9 (.new 53 []) [.C 48 0, .C 48 1, .C 0 7] (.a 5 (.call K46 [.K 15, .K 16, .K 17, .K 18, .K 19] [15, 16, 17, 18, 19]) [] (.q [6, 7, 8] [] (.a 10 (.sto 53) [] (.q [11] [] (.rk [(53, 51), (51, 90051)] .leaf)))))))) (.join (Bool) 0 0 (gj (gB 41) []) (fun st_ s_ ns_ as_ => ([(41, .bool s_)] ++ kp [0, 1, 5, 14, 15, 16] st_, ka [0, 1, 2, 3, 4, 5, 6, 7, 8, 9, 10, 11, 12, 13, 14, 15, 16, 17, 18, 19, 20, 21, 22] st_)) (.drw (.q [0, 1, 2, 3, 4] [.C 51 0] (.split 33 (.q [5, 6, 7, 8, 9, 10] [.C 0 9, .C 51 1] (.a 11 (.call K47 [.K 21] [21]) [] (.q [12] [] .leaf))) (.q [5, 6, 7, 8, 9, 10, 11, 12] [] .leaf)))) (.cond (.s (.seg 3 []) .leaf) .leaf)))))))) (.s (.seg 2 []) .back)) .leaf))) (by kernel_rfl) (fun _ _ => rfl) (fun r y h => by cases h) (fun u => rfl) (fun m x v n1 n2 => by kernel_rfl) (fun m x v n1 n2 s => by kernel_rfl) m

theorem S26 (k : Nat) : (C26 k).Sound Tryz.prog :=
  fn_sound mixed (C26 k) (n := 46) (rs := rsOf Tryz.prog 26) [] [0, 1, 2, 3, 4, 5, 6, 7, 8, 9, 10, 11, 12, 13, 14, 15, 16, 17, 18, 19, 20, 21] (gj (gI 4) []) (fun i => (.s (.seg 1 []) (.s (.seg 1 []) (.s (.seg 4 [.C 0 7]) (.s (.call (K45 k) [.K 15, .K 16, .K 17, .K 18, .K 19] [22, 15, 16, 17, 18, 19]) (.s (.seg 2 []) (.loop ⟨(C26l0 i).at (C26l0g k i) k, C26l0s k i k⟩ (gl (g2 (gL 6 22) (g2 (gh 22) (gI 15))) (g2 (gI 5) (gI 16)) []) (.s (.seg 2 []) .ret)))))))) Tryz.func26 rfl rfl (by kernel_rfl) (fun _ => rfl) (fun i => by kernel_rfl) (fun i s => by kernel_rfl)

noncomputable def K26 (k : Nat) : SCon El Tryz.prog := ⟨C26 k, S26 k, Tryz.call26⟩

theorem dispatch_Dispatcher_Due_ok {w0 w : World} {As : List HP} {k : Nat} {p_d : Nat} {al_d : dispatch_Dispatcher.A} {d : dispatch_Dispatcher} {queue : Int} {t : Int}  (hm : dispatch_Dispatcher_Due k d queue = some t) (H : St w0 (dispatch_Dispatcher.R p_d al_d d :: As) w) :
    CallsR Tryz.prog 26 #[.pointer (some ⟨p_d, 0, none⟩), .int .i64 queue] w fun v w' => v = .int .i64 t ∧ St w0 (dispatch_Dispatcher.R p_d al_d d :: As) w' := by
  replace H := (fs0 fun As => dispatch_Dispatcher.D_st).1 H
  refine (S26 k ((p_d, al_d, d), queue, ()) t hm w0 w (As) rd0 H).mono ?_
  rintro v w' ⟨ns, as_, hn, ha, hv, H, hfx⟩
  obtain rfl := ls0 hn
  obtain rfl := ls0 ha
  refine ⟨hv, ?_⟩
  refine (fs0 fun As => dispatch_Dispatcher.D_st).2 ?_
  exact H

theorem mail_Box_api_Command_Post_ok {w0 w : World} {As : List HP} {p_b : Nat} {al_b : mail_Box_api_Command.A} {b : mail_Box_api_Command} {v_ : api_Command} {t : Bool × mail_Box_api_Command}  (hm : mail_Box_api_Command_Post b v_ = some t) (H : St w0 (mail_Box_api_Command.R p_b al_b b :: As) w) :
    CallsR Tryz.prog 55 #[.pointer (some ⟨p_b, 0, none⟩), .agg #[.int .i64 v_.Kind, .int .i64 v_.Queue, .int .i64 v_.Job.At, .int .i64 v_.Job.Gen, .int .i64 v_.Time, .int .i64 v_.Data]] w fun v w' => v = .bool t.1 ∧ St w0 (mail_Box_api_Command.R p_b al_b t.2 :: As) w' := by
 rw [mail_Box_api_Command_Post] at hm
 refine enter (args := [.pointer (some ⟨p_b, 0, none⟩), .agg #[.int .i64 v_.Kind, .int .i64 v_.Queue, .int .i64 v_.Job.At, .int .i64 v_.Job.Gen, .int .i64 v_.Time, .int .i64 v_.Data]]) Tryz.func55 rfl rfl rfl fun a hE => ?_
 refine Runs.sr ?_
 refine WR.eff hE rfl rfl rfl rfl (OpTo.new hE H [] (.cells #[.int .i64 v_.Kind, .int .i64 v_.Queue, .int .i64 v_.Job.At, .int .i64 v_.Job.Gen, .int .i64 v_.Time, .int .i64 v_.Data] 33 (0, 0)) (fun r => .pointer (some ⟨r, 0, none⟩)) (obs := []) rfl (fun _ => by kernel_rfl) trivial) ?_
 rintro _ w ⟨r, rfl, H⟩ a hE
 refine WR.seg hE 2 [] [0, 3] (Lo := [(0, .pointer (some ⟨p_b, 0, none⟩)), (3, .pointer (some ⟨r, 0, none⟩))]) (obs := []) rfl (by kernel_rfl) trivial fun a hE => ?_
 refine WR.done rfl ?_
 refine Runs.seq ?_
 refine Runs.sr ?_
 replace H := mail_Box_api_Command.open H.t1
 refine WR.e hE [.chan (some al_b.c__p)] [(8, .chan (some al_b.c__p))] (obs := [.cell ⟨p_b, 0, none⟩ (.chan (some al_b.c__p))]) ⟨H.cell 0 rfl rfl, trivial⟩ fun a hE => ?_
 refine Runs.region ?_
 refine WR.e hE [.int .i64 v_.Kind, .int .i64 v_.Queue, .int .i64 v_.Job.At, .int .i64 v_.Job.Gen, .int .i64 v_.Time, .int .i64 v_.Data] [(9, .agg #[.int .i64 v_.Kind, .int .i64 v_.Queue, .int .i64 v_.Job.At, .int .i64 v_.Job.Gen, .int .i64 v_.Time, .int .i64 v_.Data])] (obs := [.cell ⟨r, 0, none⟩ (.int .i64 v_.Kind), .cell ⟨r, 1, none⟩ (.int .i64 v_.Queue), .cell ⟨r, 2, none⟩ (.int .i64 v_.Job.At), .cell ⟨r, 3, none⟩ (.int .i64 v_.Job.Gen), .cell ⟨r, 4, none⟩ (.int .i64 v_.Time), .cell ⟨r, 5, none⟩ (.int .i64 v_.Data)]) ⟨H.cell 2 rfl rfl, H.cell 2 rfl rfl, H.cell 2 rfl rfl, H.cell 2 rfl rfl, H.cell 2 rfl rfl, H.cell 2 rfl rfl, trivial⟩ fun a hE => ?_
 refine Runs.seq ?_
 rcases Bool.eq_false_or_eq_true (MCh.room b.c_) with c | c
 ·replace hm := cond_t c hm
  refine Runs.selSendT (u := v_) hE H.t1 rfl rfl rfl rfl rfl rfl rfl rfl rfl c fun a w hE H => ?_
  refine WR.e0 hE [(12, .bool true)] fun a hE => ?_
  refine Runs.block ?_
  refine Runs.condT hE rfl ?_
  refine Runs.sr ?_
  refine WR.e0 hE [(4, .bool true)] fun a hE => ?_
  replace H := mail_Box_api_Command.shut al_b (mail_Box_api_Command.mk (MCh.push b.c_ v_)) H.t1
  refine Runs.ret hE Tryz.func55 rfl rfl ?_
  cases hm
  exact ⟨rfl, H.x1⟩
 ·replace hm := cond_f c hm
  replace H := H.t1
  refine Runs.selSendF (u := v_) hE H rfl rfl rfl rfl rfl rfl rfl rfl rfl c fun a hE => ?_
  refine WR.e0 hE [(12, .bool false)] fun a hE => ?_
  refine Runs.block ?_
  refine Runs.condF hE rfl ?_
  refine Runs.sr ?_
  refine WR.e0 hE [(4, .bool false)] fun a hE => ?_
  replace H := mail_Box_api_Command.shut al_b (b) H.t1
  refine Runs.ret hE Tryz.func55 rfl rfl ?_
  cases hm
  exact ⟨rfl, H.x1⟩

theorem mail_Desk_api_Command_Post_ok {w0 w : World} {As : List HP} {p_d : Nat} {al_d : mail_Desk_api_Command.A} {d : mail_Desk_api_Command} {box : Int} {v_ : api_Command} {t : Int × mail_Desk_api_Command}  (hm : mail_Desk_api_Command_Post d box v_ = some t) (H : St w0 (mail_Desk_api_Command.R p_d al_d d :: As) w) :
    CallsR Tryz.prog 30 #[.pointer (some ⟨p_d, 0, none⟩), .int .i64 box, .agg #[.int .i64 v_.Kind, .int .i64 v_.Queue, .int .i64 v_.Job.At, .int .i64 v_.Job.Gen, .int .i64 v_.Time, .int .i64 v_.Data]] w fun v w' => v = .int .i64 t.1 ∧ St w0 (mail_Desk_api_Command.R p_d al_d t.2 :: As) w' := by
 rw [mail_Desk_api_Command_Post] at hm
 refine enter (args := [.pointer (some ⟨p_d, 0, none⟩), .int .i64 box, .agg #[.int .i64 v_.Kind, .int .i64 v_.Queue, .int .i64 v_.Job.At, .int .i64 v_.Job.Gen, .int .i64 v_.Time, .int .i64 v_.Data]]) Tryz.func30 rfl rfl rfl fun a hE => ?_
 refine Runs.sr ?_
 refine WR.eff hE rfl rfl rfl rfl (OpTo.new hE H [] (.cells #[.int .i64 v_.Kind, .int .i64 v_.Queue, .int .i64 v_.Job.At, .int .i64 v_.Job.Gen, .int .i64 v_.Time, .int .i64 v_.Data] 33 (0, 0)) (fun r => .pointer (some ⟨r, 0, none⟩)) (obs := []) rfl (fun _ => by kernel_rfl) trivial) ?_
 rintro _ w ⟨r, rfl, H⟩ a hE
 refine WR.seg hE 2 [] [0, 1, 5] (Lo := [(0, .pointer (some ⟨p_d, 0, none⟩)), (1, .int .i64 box), (5, .pointer (some ⟨r, 0, none⟩))]) (obs := []) rfl (by kernel_rfl) trivial fun a hE => ?_
 refine WR.done rfl ?_
 refine Runs.seq ?_
 refine Runs.block ?_
 refine Runs.seq ?_
 obtain ⟨s, es, hm⟩ := bind_some hm
 refine Runs.join (fun a w => EnvOk 30 a [(0, .pointer (some ⟨p_d, 0, none⟩)), (1, .int .i64 box), (5, .pointer (some ⟨r, 0, none⟩)), (7, .bool s)] ∧ St w0 (Blk r 33 [.int .i64 v_.Kind, .int .i64 v_.Queue, .int .i64 v_.Job.At, .int .i64 v_.Job.Gen, .int .i64 v_.Time, .int .i64 v_.Data] :: mail_Desk_api_Command.R p_d al_d d :: As) w) (fun hk => ?_) ?_
 ·replace hm := es; clear es
  refine Runs.region ?_
  refine WR.d0 hE 3 [(10, .bool (decide (box < 0)))] fun a hE => ?_
  rcases Bool.eq_false_or_eq_true (decide (box < 0)) with c | c
  ·replace hE := hE.dec 10 c (by kernel_rfl)
   replace hm := cond_t c hm
   have c_ := c
   refine WR.e0 hE [(7, .bool true)] fun a hE => ?_
   cases hm
   exact hk _ _ ⟨hE.sel [0, 1, 5, 7] (by kernel_rfl), H.t1.t1⟩
  ·replace hE := hE.dec 10 c (by kernel_rfl)
   replace hm := cond_f c hm
   have c_1 := c
   replace H := mail_Desk_api_Command.open H.t1
   refine WR.e hE [.slice al_d.l_b d.l.length al_d.l_c] [(7, .bool (decide (box ≥ (d.l.length : Int))))] (obs := [.cell ⟨p_d, 0, none⟩ (.slice al_d.l_b d.l.length al_d.l_c)]) ⟨H.cell 0 rfl rfl, trivial⟩ fun a hE => ?_
   replace H := mail_Desk_api_Command.shut al_d (d) H.t1.t1
   cases hm
   exact hk _ _ ⟨hE.sel [0, 1, 5, 7] (by kernel_rfl), H.t1⟩
 rintro a w ⟨hE, H⟩
 refine Runs.cond hE rfl (fun c => ?_) (fun c => ?_)
 ·replace hm := cond_t c hm
  refine Runs.sr ?_
  refine WR.seg hE 1 [] [6] (Lo := [(6, .int .i64 30)]) (obs := []) rfl (by kernel_rfl) trivial fun a hE => ?_
  refine WR.done rfl ?_
  refine Runs.ret hE Tryz.func30 rfl rfl ?_
  cases hm
  exact ⟨rfl, H.x0⟩
 ·replace hm := cond_f c hm
  refine Runs.seq ?_
  refine Runs.drawn mixed (by kernel_rfl) ?_
  replace H := H.drew
  replace H := mail_Desk_api_Command.open H.t1
  obtain ⟨x, ex, hm⟩ := bind_some hm
  obtain ⟨gs, ⟨p, al⟩, hgl, hg, H⟩ := St.slxTake (R := mail_Box_api_Command.RX) H.t1 ex
  replace H : St w0 (mail_Box_api_Command.R p al x :: Sl 129 mail_Box_api_Command.encX 1 al_d.l_b al_d.l_c gs :: But mail_Box_api_Command.RX gs d.l box :: _) _ := H
  obtain ⟨b, o, hs, hb⟩ := SlRd.base (sl_rd 129 mail_Box_api_Command.encX 1 _ _ _) mail_Box_api_Command.encX_ok H 1 rfl hg
  refine WQ.seg hE [0, 1, 2, 3, 4, 5, 6, 7] [.slice al_d.l_b d.l.length al_d.l_c, .pointer (some ⟨b, o, none⟩), .pointer (some ⟨p, 0, none⟩), .int .i64 v_.Kind, .int .i64 v_.Queue, .int .i64 v_.Job.At, .int .i64 v_.Job.Gen, .int .i64 v_.Time, .int .i64 v_.Data] [26, 27] (Lo := [(26, .pointer (some ⟨p, 0, none⟩)), (27, .agg #[.int .i64 v_.Kind, .int .i64 v_.Queue, .int .i64 v_.Job.At, .int .i64 v_.Job.Gen, .int .i64 v_.Time, .int .i64 v_.Data])]) (obs := [.cell ⟨p_d, 0, none⟩ (.slice al_d.l_b d.l.length al_d.l_c), .p ((al_d.l_b : Option Addr) = some ⟨b, o, none⟩), .p (0 ≤ (box : Int) ∧ (box : Int) < ((d.l.length : Nat) : Int)), .cell ⟨b, o + (Int.toNat box) * 1, none⟩ (.pointer (some ⟨p, 0, none⟩)), .cell ⟨r, 0, none⟩ (.int .i64 v_.Kind), .cell ⟨r, 1, none⟩ (.int .i64 v_.Queue), .cell ⟨r, 2, none⟩ (.int .i64 v_.Job.At), .cell ⟨r, 3, none⟩ (.int .i64 v_.Job.Gen), .cell ⟨r, 4, none⟩ (.int .i64 v_.Time), .cell ⟨r, 5, none⟩ (.int .i64 v_.Data)]) (by kernel_rfl) (by kernel_rfl) ⟨H.cell 3 rfl rfl, hs, (by have h_ := hb; rw [hgl] at h_; exact h_), SlRd.cells (sl_rd 129 mail_Box_api_Command.encX 1 _ _ _) mail_Box_api_Command.encX_ok H 1 rfl hs hg 0 _ rfl, H.cell 4 rfl rfl, H.cell 4 rfl rfl, H.cell 4 rfl rfl, H.cell 4 rfl rfl, H.cell 4 rfl rfl, H.cell 4 rfl rfl, trivial⟩ fun a hE => ?_
  obtain ⟨t_, et_, hm⟩ := bind_some hm
  refine WQ.eff (j := 8) (obs := []) hE (by kernel_rfl) rfl rfl rfl rfl (by kernel_rfl) (OpTo.fn hE rfl rfl Tryz.call55 (mail_Box_api_Command_Post_ok et_ H)) ?_
  rintro _ w ⟨rfl, H⟩
  refine ⟨trivial, fun a hE => ?_⟩
  refine WQ.d0 hE [9, 10] [(19, .bool (!t_.1))] fun a hE => ?_
  refine WQ.done (by kernel_rfl) ?_
  refine Runs.cond hE rfl (fun c => ?_) (fun c => ?_)
  ·replace hm := cond_t c hm
   refine Runs.sr ?_
   refine WR.e0 hE [(6, .int .i64 13)] fun a hE => ?_
   replace H := St.slxPut (R := mail_Box_api_Command.RX) (g' := (p, al)) (x' := t_.2) H.t2.t2.t2 ex hgl hg rfl
   rw [← mSet_len d.l box t_.2] at H
   replace H := mail_Desk_api_Command.shut al_d (mail_Desk_api_Command.mk (mSet d.l box t_.2)) H.t1
   refine Runs.ret hE Tryz.func30 rfl rfl ?_
   cases hm
   exact ⟨rfl, H.x1⟩
  ·replace hm := cond_f c hm
   refine Runs.skip ?_
   refine Runs.inBlock ?_
   refine Runs.sr ?_
   refine WR.e0 hE [(6, .int .i64 0)] fun a hE => ?_
   replace H := St.slxPut (R := mail_Box_api_Command.RX) (g' := (p, al)) (x' := t_.2) H.t2.t2.t2 ex hgl hg rfl
   rw [← mSet_len d.l box t_.2] at H
   replace H := mail_Desk_api_Command.shut al_d (mail_Desk_api_Command.mk (mSet d.l box t_.2)) H.t1
   refine Runs.ret hE Tryz.func30 rfl rfl ?_
   cases hm
   exact ⟨rfl, H.x1⟩

theorem server_Server_Post_ok {w0 w : World} {As : List HP} {p_s : Nat} {al_s : server_Server.A} {s : server_Server} {box : Int} {c_ : api_Command} {t : Int × server_Server}  (hm : server_Server_Post s box c_ = some t) (H : St w0 (server_Server.R p_s al_s s :: As) w) :
    CallsR Tryz.prog 11 #[.pointer (some ⟨p_s, 0, none⟩), .int .i64 box, .agg #[.int .i64 c_.Kind, .int .i64 c_.Queue, .int .i64 c_.Job.At, .int .i64 c_.Job.Gen, .int .i64 c_.Time, .int .i64 c_.Data]] w fun v w' => v = .int .i64 t.1 ∧ St w0 (server_Server.R p_s al_s t.2 :: As) w' := by
 rw [server_Server_Post] at hm
 refine enter (args := [.pointer (some ⟨p_s, 0, none⟩), .int .i64 box, .agg #[.int .i64 c_.Kind, .int .i64 c_.Queue, .int .i64 c_.Job.At, .int .i64 c_.Job.Gen, .int .i64 c_.Time, .int .i64 c_.Data]]) Tryz.func11 rfl rfl rfl fun a hE => ?_
 refine Runs.sr ?_
 refine WR.eff hE rfl rfl rfl rfl (OpTo.new hE H [] (.cells #[.int .i64 c_.Kind, .int .i64 c_.Queue, .int .i64 c_.Job.At, .int .i64 c_.Job.Gen, .int .i64 c_.Time, .int .i64 c_.Data] 33 (0, 0)) (fun r => .pointer (some ⟨r, 0, none⟩)) (obs := []) rfl (fun _ => by kernel_rfl) trivial) ?_
 rintro _ w ⟨r, rfl, H⟩ a hE
 refine WR.seg hE 2 [] [0, 1, 5] (Lo := [(0, .pointer (some ⟨p_s, 0, none⟩)), (1, .int .i64 box), (5, .pointer (some ⟨r, 0, none⟩))]) (obs := []) rfl (by kernel_rfl) trivial fun a hE => ?_
 refine WR.done rfl ?_
 refine Runs.seq ?_
 refine Runs.drawn mixed (by kernel_rfl) ?_
 replace H := H.drew
 replace H := server_Server.open H.t1
 refine WQ.d hE [0, 1, 2, 3, 4, 5] [.pointer (some ⟨al_s.desk_p, 0, none⟩), .int .i64 c_.Kind, .int .i64 c_.Queue, .int .i64 c_.Job.At, .int .i64 c_.Job.Gen, .int .i64 c_.Time, .int .i64 c_.Data] [(10, .pointer (some ⟨al_s.desk_p, 0, none⟩)), (11, .int .i64 box), (12, .agg #[.int .i64 c_.Kind, .int .i64 c_.Queue, .int .i64 c_.Job.At, .int .i64 c_.Job.Gen, .int .i64 c_.Time, .int .i64 c_.Data])] (obs := [.cell ⟨p_s, 1, none⟩ (.pointer (some ⟨al_s.desk_p, 0, none⟩)), .cell ⟨r, 0, none⟩ (.int .i64 c_.Kind), .cell ⟨r, 1, none⟩ (.int .i64 c_.Queue), .cell ⟨r, 2, none⟩ (.int .i64 c_.Job.At), .cell ⟨r, 3, none⟩ (.int .i64 c_.Job.Gen), .cell ⟨r, 4, none⟩ (.int .i64 c_.Time), .cell ⟨r, 5, none⟩ (.int .i64 c_.Data)]) ⟨H.cell 0 rfl rfl, H.cell 3 rfl rfl, H.cell 3 rfl rfl, H.cell 3 rfl rfl, H.cell 3 rfl rfl, H.cell 3 rfl rfl, H.cell 3 rfl rfl, trivial⟩ fun a hE => ?_
 obtain ⟨t_, et_, hm⟩ := bind_some hm
 refine WQ.eff (j := 6) (obs := []) hE (by kernel_rfl) rfl rfl rfl rfl (by kernel_rfl) (OpTo.fn hE rfl rfl Tryz.call30 (mail_Desk_api_Command_Post_ok et_ H.t2)) ?_
 rintro _ w ⟨rfl, H⟩
 refine ⟨trivial, fun a hE => ?_⟩
 refine WQ.d0 hE [7] [(6, .int .i64 t_.1)] fun a hE => ?_
 refine WQ.done (by kernel_rfl) ?_
 replace H := server_Server.shut al_s (server_Server.mk s.d t_.2) H.t2.t2
 refine Runs.ret hE Tryz.func11 rfl rfl ?_
 cases hm
 exact ⟨rfl, H.x1⟩

theorem mail_Box_api_Command_Take_ok {w0 w : World} {As : List HP} {p_b : Nat} {al_b : mail_Box_api_Command.A} {b : mail_Box_api_Command} {t : api_Command × Bool × mail_Box_api_Command}  (hm : mail_Box_api_Command_Take b = some t) (H : St w0 (mail_Box_api_Command.R p_b al_b b :: As) w) :
    CallsR Tryz.prog 56 #[.pointer (some ⟨p_b, 0, none⟩)] w fun v w' => v = .tuple #[.agg #[.int .i64 t.1.Kind, .int .i64 t.1.Queue, .int .i64 t.1.Job.At, .int .i64 t.1.Job.Gen, .int .i64 t.1.Time, .int .i64 t.1.Data], .bool t.2.1] ∧ St w0 (mail_Box_api_Command.R p_b al_b t.2.2 :: As) w' := by
 rw [mail_Box_api_Command_Take] at hm
 refine enter (args := [.pointer (some ⟨p_b, 0, none⟩)]) Tryz.func56 rfl rfl rfl fun a hE => ?_
 refine Runs.sr ?_
 refine WR.eff hE rfl rfl rfl rfl (OpTo.new hE H [] (.cells #[.int .i64 0, .int .i64 0, .int .i64 0, .int .i64 0, .int .i64 0, .int .i64 0] 33 (0, 0)) (fun r => .pointer (some ⟨r, 0, none⟩)) (obs := []) rfl (fun _ => by kernel_rfl) trivial) ?_
 rintro _ w ⟨r, rfl, H⟩ a hE
 refine WR.seg hE 2 [] [0, 2] (Lo := [(0, .pointer (some ⟨p_b, 0, none⟩)), (2, .pointer (some ⟨r, 0, none⟩))]) (obs := []) rfl (by kernel_rfl) trivial fun a hE => ?_
 refine WR.done rfl ?_
 refine Runs.sr ?_
 replace H := mail_Box_api_Command.open H.t1
 refine WR.e hE [.chan (some al_b.c__p)] [(9, .chan (some al_b.c__p))] (obs := [.cell ⟨p_b, 0, none⟩ (.chan (some al_b.c__p))]) ⟨H.cell 0 rfl rfl, trivial⟩ fun a hE => ?_
 refine Runs.seq ?_
 rcases hb : MCh.buf b.c_ with _ | ⟨u, r1⟩
 ·rw [hb] at hm; dsimp only at hm
  replace H := H.t1
  refine Runs.selRecvF hb hE H rfl rfl rfl rfl rfl rfl rfl rfl fun a hE => ?_
  refine WR.e0 hE [(10, .tuple #[.int .i64 (-1), .bool false, .agg #[.int .i64 0, .int .i64 0, .int .i64 0, .int .i64 0, .int .i64 0, .int .i64 0]]), (12, .bool false)] fun a hE => ?_
  refine Runs.block ?_
  refine Runs.condF hE rfl ?_
  refine Runs.sr ?_
  refine WR.eff hE rfl rfl rfl rfl (OpTo.new hE H [] (.cells #[.int .i64 0, .int .i64 0, .int .i64 0, .int .i64 0, .int .i64 0, .int .i64 0] 33 (0, 0)) (fun r => .pointer (some ⟨r, 0, none⟩)) (obs := []) rfl (fun _ => by kernel_rfl) trivial) ?_
  rintro _ w ⟨r2, rfl, H⟩ a hE
  refine WR.done rfl ?_
  refine Runs.sr ?_
  refine WR.d hE 1 [.int .i64 0, .int .i64 0, .int .i64 0, .int .i64 0, .int .i64 0, .int .i64 0] [(13, .agg #[.int .i64 0, .int .i64 0, .int .i64 0, .int .i64 0, .int .i64 0, .int .i64 0])] (obs := [.cell ⟨r2, 0, none⟩ (.int .i64 0), .cell ⟨r2, 1, none⟩ (.int .i64 0), .cell ⟨r2, 2, none⟩ (.int .i64 0), .cell ⟨r2, 3, none⟩ (.int .i64 0), .cell ⟨r2, 4, none⟩ (.int .i64 0), .cell ⟨r2, 5, none⟩ (.int .i64 0)]) ⟨H.cell 0 rfl rfl, H.cell 0 rfl rfl, H.cell 0 rfl rfl, H.cell 0 rfl rfl, H.cell 0 rfl rfl, H.cell 0 rfl rfl, trivial⟩ fun a hE => ?_
  refine WR.eff0 hE rfl rfl rfl (OpTo.store hE H.t3 rfl rfl rfl rfl rfl rfl (Nat.le_of_ble_eq_true rfl)) ?_
  rintro _ w H a hE
  refine WR.e0 hE [(3, .bool false)] fun a hE => ?_
  refine Runs.retO (vs := [.agg #[.int .i64 0, .int .i64 0, .int .i64 0, .int .i64 0, .int .i64 0, .int .i64 0], .bool false]) (obs := [.cell ⟨r, 0, none⟩ (.int .i64 0), .cell ⟨r, 1, none⟩ (.int .i64 0), .cell ⟨r, 2, none⟩ (.int .i64 0), .cell ⟨r, 3, none⟩ (.int .i64 0), .cell ⟨r, 4, none⟩ (.int .i64 0), .cell ⟨r, 5, none⟩ (.int .i64 0)]) hE Tryz.func56 rfl [.int .i64 0, .int .i64 0, .int .i64 0, .int .i64 0, .int .i64 0, .int .i64 0] (by kernel_rfl) ⟨H.cell 0 rfl rfl, H.cell 0 rfl rfl, H.cell 0 rfl rfl, H.cell 0 rfl rfl, H.cell 0 rfl rfl, H.cell 0 rfl rfl, trivial⟩ ?_
  replace H := mail_Box_api_Command.shut al_b (b) H.t2.t3
  cases hm
  exact ⟨rfl, H.x2.x1⟩
 ·rw [hb] at hm; dsimp only at hm
  replace H := H.t1
  refine Runs.selRecvT hb hE H rfl rfl rfl rfl rfl rfl rfl rfl fun a w hE H => ?_
  refine WR.e0 hE [(10, .tuple #[.int .i64 0, .bool true, .agg #[.int .i64 u.Kind, .int .i64 u.Queue, .int .i64 u.Job.At, .int .i64 u.Job.Gen, .int .i64 u.Time, .int .i64 u.Data]]), (12, .bool true)] fun a hE => ?_
  refine Runs.block ?_
  refine Runs.condT hE rfl ?_
  refine Runs.sr ?_
  refine WR.d0 hE 1 [(14, .agg #[.int .i64 u.Kind, .int .i64 u.Queue, .int .i64 u.Job.At, .int .i64 u.Job.Gen, .int .i64 u.Time, .int .i64 u.Data])] fun a hE => ?_
  refine WR.eff hE rfl rfl rfl rfl (OpTo.new hE H [] (.cells #[.int .i64 0, .int .i64 0, .int .i64 0, .int .i64 0, .int .i64 0, .int .i64 0] 33 (0, 0)) (fun r => .pointer (some ⟨r, 0, none⟩)) (obs := []) rfl (fun _ => by kernel_rfl) trivial) ?_
  rintro _ w ⟨r3, rfl, H⟩ a hE
  refine WR.eff0 hE rfl rfl rfl (OpTo.store hE H rfl rfl rfl rfl rfl rfl (Nat.le_of_ble_eq_true rfl)) ?_
  rintro _ w H a hE
  refine WR.done rfl ?_
  refine Runs.sr ?_
  refine WR.d hE 1 [.int .i64 u.Kind, .int .i64 u.Queue, .int .i64 u.Job.At, .int .i64 u.Job.Gen, .int .i64 u.Time, .int .i64 u.Data] [(15, .agg #[.int .i64 u.Kind, .int .i64 u.Queue, .int .i64 u.Job.At, .int .i64 u.Job.Gen, .int .i64 u.Time, .int .i64 u.Data])] (obs := [.cell ⟨r3, 0, none⟩ (.int .i64 u.Kind), .cell ⟨r3, 1, none⟩ (.int .i64 u.Queue), .cell ⟨r3, 2, none⟩ (.int .i64 u.Job.At), .cell ⟨r3, 3, none⟩ (.int .i64 u.Job.Gen), .cell ⟨r3, 4, none⟩ (.int .i64 u.Time), .cell ⟨r3, 5, none⟩ (.int .i64 u.Data)]) ⟨H.cell 0 rfl rfl, H.cell 0 rfl rfl, H.cell 0 rfl rfl, H.cell 0 rfl rfl, H.cell 0 rfl rfl, H.cell 0 rfl rfl, trivial⟩ fun a hE => ?_
  refine WR.eff0 hE rfl rfl rfl (OpTo.store hE H.t3 rfl rfl rfl rfl rfl rfl (Nat.le_of_ble_eq_true rfl)) ?_
  rintro _ w H a hE
  refine WR.e0 hE [(3, .bool true)] fun a hE => ?_
  refine Runs.retO (vs := [.agg #[.int .i64 u.Kind, .int .i64 u.Queue, .int .i64 u.Job.At, .int .i64 u.Job.Gen, .int .i64 u.Time, .int .i64 u.Data], .bool true]) (obs := [.cell ⟨r, 0, none⟩ (.int .i64 u.Kind), .cell ⟨r, 1, none⟩ (.int .i64 u.Queue), .cell ⟨r, 2, none⟩ (.int .i64 u.Job.At), .cell ⟨r, 3, none⟩ (.int .i64 u.Job.Gen), .cell ⟨r, 4, none⟩ (.int .i64 u.Time), .cell ⟨r, 5, none⟩ (.int .i64 u.Data)]) hE Tryz.func56 rfl [.int .i64 u.Kind, .int .i64 u.Queue, .int .i64 u.Job.At, .int .i64 u.Job.Gen, .int .i64 u.Time, .int .i64 u.Data] (by kernel_rfl) ⟨H.cell 0 rfl rfl, H.cell 0 rfl rfl, H.cell 0 rfl rfl, H.cell 0 rfl rfl, H.cell 0 rfl rfl, H.cell 0 rfl rfl, trivial⟩ ?_
  replace H := mail_Box_api_Command.shut al_b (mail_Box_api_Command.mk (MCh.rest b.c_ r1)) H.t2.t3
  cases hm
  exact ⟨rfl, H.x2.x1⟩

theorem mail_Desk_api_Command_Next_ok {w0 w : World} {As : List HP} {k : Nat} {p_d : Nat} {al_d : mail_Desk_api_Command.A} {d : mail_Desk_api_Command} {t : api_Command × Int × Bool × mail_Desk_api_Command}  (hm : mail_Desk_api_Command_Next k d = some t) (H : St w0 (mail_Desk_api_Command.R p_d al_d d :: As) w) :
    CallsR Tryz.prog 31 #[.pointer (some ⟨p_d, 0, none⟩)] w fun v w' => v = .tuple #[.agg #[.int .i64 t.1.Kind, .int .i64 t.1.Queue, .int .i64 t.1.Job.At, .int .i64 t.1.Job.Gen, .int .i64 t.1.Time, .int .i64 t.1.Data], .int .i64 t.2.1, .bool t.2.2.1] ∧ St w0 (mail_Desk_api_Command.R p_d al_d t.2.2.2 :: As) w' := by
 rw [mail_Desk_api_Command_Next] at hm
 refine enter (args := [.pointer (some ⟨p_d, 0, none⟩)]) Tryz.func31 rfl rfl rfl fun a hE => ?_
 refine Runs.sr ?_
 refine WR.eff hE rfl rfl rfl rfl (OpTo.new hE H [] (.cells #[.int .i64 0, .int .i64 0, .int .i64 0, .int .i64 0, .int .i64 0, .int .i64 0] 33 (0, 0)) (fun r => .pointer (some ⟨r, 0, none⟩)) (obs := []) rfl (fun _ => by kernel_rfl) trivial) ?_
 rintro _ w ⟨r, rfl, H⟩ a hE
 refine WR.seg hE 3 [] [0, 2] (Lo := [(0, .pointer (some ⟨p_d, 0, none⟩)), (2, .pointer (some ⟨r, 0, none⟩))]) (obs := []) rfl (by kernel_rfl) trivial fun a hE => ?_
 refine WR.done rfl ?_
 refine Runs.seq ?_
 refine Runs.sr ?_
 replace H := mail_Desk_api_Command.open H.t1
 refine WR.e hE [.slice al_d.l_b d.l.length al_d.l_c] [(13, .slice al_d.l_b d.l.length al_d.l_c), (14, .int .i64 (d.l.length : Int)), (15, .int .i64 0)] (obs := [.cell ⟨p_d, 0, none⟩ (.slice al_d.l_b d.l.length al_d.l_c)]) ⟨H.cell 0 rfl rfl, trivial⟩ fun a hE => ?_
 replace H := mail_Desk_api_Command.shut al_d (d) H.t1.t1
 obtain ⟨s, es, hR⟩ := bind_some hm
 refine Runs.join (fun a w => ∃ s1, s = Sum.inr s1 ∧ EnvOk 30 a [(2, .pointer (some ⟨r, 0, none⟩))] ∧ St w0 (mail_Desk_api_Command.R p_d al_d s1 :: Blk r 33 [.int .i64 0, .int .i64 0, .int .i64 0, .int .i64 0, .int .i64 0, .int .i64 0] :: As) w) (fun hk => ?_) ?_
 ·replace hm := es; clear es
  refine Runs.block ?_
  refine Runs.loop (fun m a w => ∃ (x : Int), ∃ (m_ : mail_Desk_api_Command), EnvOk 30 a [(2, .pointer (some ⟨r, 0, none⟩)), (13, .slice al_d.l_b m_.l.length al_d.l_c), (14, .int .i64 (d.l.length : Int)), (15, .int .i64 x)] ∧ St w0 (mail_Desk_api_Command.R p_d al_d m_ :: Blk r 33 [.int .i64 0, .int .i64 0, .int .i64 0, .int .i64 0, .int .i64 0, .int .i64 0] :: As) w ∧ mail_Desk_api_Command_Next_l0 (d.l.length : Int) m x m_ = some s) k ⟨0, d, hE.sel [2, 13, 14, 15] (by kernel_rfl), H.t1.t1, hm⟩ ?_
  rintro m ih a w ⟨x, m_, hE, H, hm⟩
  cases m with
  | zero => simp [mail_Desk_api_Command_Next_l0] at hm
  | succ m =>
   rw [mail_Desk_api_Command_Next_l0] at hm
   refine Runs.sr ?_
   refine WR.seg hE 1 [] [2, 13, 14, 15, 16] (Lo := [(2, .pointer (some ⟨r, 0, none⟩)), (13, .slice al_d.l_b m_.l.length al_d.l_c), (14, .int .i64 (d.l.length : Int)), (15, .int .i64 x), (16, .bool (decide (x < (d.l.length : Int))))]) (obs := []) rfl (by kernel_rfl) trivial fun a hE => ?_
   refine WR.done rfl ?_
   refine Runs.seq ?_
   refine Runs.cond hE rfl (fun c => ?_) (fun c => ?_)
   ·replace hm := cond_t c hm
    refine Runs.skip ?_
    refine Runs.seq ?_
    refine Runs.block ?_
    refine Runs.sr ?_
    replace H := mail_Desk_api_Command.open H
    obtain ⟨x2, ex2, hm⟩ := bind_some hm
    obtain ⟨gs, ⟨p, al⟩, hgl, hg, H⟩ := St.slxTake (R := mail_Box_api_Command.RX) H.t1 ex2
    replace H : St w0 (mail_Box_api_Command.R p al x2 :: Sl 129 mail_Box_api_Command.encX 1 al_d.l_b al_d.l_c gs :: But mail_Box_api_Command.RX gs m_.l x :: _) _ := H
    obtain ⟨b, o, hs, hb⟩ := SlRd.base (sl_rd 129 mail_Box_api_Command.encX 1 _ _ _) mail_Box_api_Command.encX_ok H 1 rfl hg
    refine WR.e hE [.pointer (some ⟨b, o, none⟩), .pointer (some ⟨p, 0, none⟩)] [(5, .int .i64 x), (6, .pointer (some ⟨p, 0, none⟩))] (obs := [.p ((al_d.l_b : Option Addr) = some ⟨b, o, none⟩), .p (0 ≤ (x : Int) ∧ (x : Int) < ((m_.l.length : Nat) : Int)), .cell ⟨b, o + (Int.toNat x) * 1, none⟩ (.pointer (some ⟨p, 0, none⟩))]) ⟨hs, (by have h_ := hb; rw [hgl] at h_; exact h_), SlRd.cells (sl_rd 129 mail_Box_api_Command.encX 1 _ _ _) mail_Box_api_Command.encX_ok H 1 rfl hs hg 0 _ rfl, trivial⟩ fun a hE => ?_
    refine Runs.sr ?_
    refine WR.d0 hE 1 [(21, .pointer (some ⟨p, 0, none⟩))] fun a hE => ?_
    obtain ⟨t_, et_, hm⟩ := bind_some hm
    refine WR.eff hE rfl rfl rfl rfl (OpTo.fn hE rfl rfl Tryz.call56 (mail_Box_api_Command_Take_ok et_ H)) ?_
    rintro _ w ⟨rfl, H⟩ a hE
    refine WR.d0 hE 5 [(23, .agg #[.int .i64 t_.1.Kind, .int .i64 t_.1.Queue, .int .i64 t_.1.Job.At, .int .i64 t_.1.Job.Gen, .int .i64 t_.1.Time, .int .i64 t_.1.Data]), (24, .bool t_.2.1)] fun a hE => ?_
    refine WR.eff hE rfl rfl rfl rfl (OpTo.new hE H [] (.cells #[.int .i64 0, .int .i64 0, .int .i64 0, .int .i64 0, .int .i64 0, .int .i64 0] 33 (0, 0)) (fun r => .pointer (some ⟨r, 0, none⟩)) (obs := []) rfl (fun _ => by kernel_rfl) trivial) ?_
    rintro _ w ⟨r1, rfl, H⟩ a hE
    refine WR.eff0 hE rfl rfl rfl (OpTo.store hE H rfl rfl rfl rfl rfl rfl (Nat.le_of_ble_eq_true rfl)) ?_
    rintro _ w H a hE
    refine WR.e0 hE [(8, .bool t_.2.1)] fun a hE => ?_
    refine Runs.sr ?_
    refine WR.e0 hE [(25, .bool t_.2.1)] fun a hE => ?_
    refine Runs.cond hE rfl (fun c => ?_) (fun c => ?_)
    ·replace hm := cond_t c hm
     refine Runs.sr ?_
     refine WR.d hE 2 [.int .i64 t_.1.Kind, .int .i64 t_.1.Queue, .int .i64 t_.1.Job.At, .int .i64 t_.1.Job.Gen, .int .i64 t_.1.Time, .int .i64 t_.1.Data] [(26, .agg #[.int .i64 t_.1.Kind, .int .i64 t_.1.Queue, .int .i64 t_.1.Job.At, .int .i64 t_.1.Job.Gen, .int .i64 t_.1.Time, .int .i64 t_.1.Data]), (27, .int .i64 x)] (obs := [.cell ⟨r1, 0, none⟩ (.int .i64 t_.1.Kind), .cell ⟨r1, 1, none⟩ (.int .i64 t_.1.Queue), .cell ⟨r1, 2, none⟩ (.int .i64 t_.1.Job.At), .cell ⟨r1, 3, none⟩ (.int .i64 t_.1.Job.Gen), .cell ⟨r1, 4, none⟩ (.int .i64 t_.1.Time), .cell ⟨r1, 5, none⟩ (.int .i64 t_.1.Data)]) ⟨H.cell 0 rfl rfl, H.cell 0 rfl rfl, H.cell 0 rfl rfl, H.cell 0 rfl rfl, H.cell 0 rfl rfl, H.cell 0 rfl rfl, trivial⟩ fun a hE => ?_
     refine WR.eff0 hE rfl rfl rfl (OpTo.store hE H.t5 rfl rfl rfl rfl rfl rfl (Nat.le_of_ble_eq_true rfl)) ?_
     rintro _ w H a hE
     refine WR.e0 hE [(3, .int .i64 x), (4, .bool true)] fun a hE => ?_
     refine Runs.retO (vs := [.agg #[.int .i64 t_.1.Kind, .int .i64 t_.1.Queue, .int .i64 t_.1.Job.At, .int .i64 t_.1.Job.Gen, .int .i64 t_.1.Time, .int .i64 t_.1.Data], .int .i64 x, .bool true]) (obs := [.cell ⟨r, 0, none⟩ (.int .i64 t_.1.Kind), .cell ⟨r, 1, none⟩ (.int .i64 t_.1.Queue), .cell ⟨r, 2, none⟩ (.int .i64 t_.1.Job.At), .cell ⟨r, 3, none⟩ (.int .i64 t_.1.Job.Gen), .cell ⟨r, 4, none⟩ (.int .i64 t_.1.Time), .cell ⟨r, 5, none⟩ (.int .i64 t_.1.Data)]) hE Tryz.func31 rfl [.int .i64 t_.1.Kind, .int .i64 t_.1.Queue, .int .i64 t_.1.Job.At, .int .i64 t_.1.Job.Gen, .int .i64 t_.1.Time, .int .i64 t_.1.Data] (by kernel_rfl) ⟨H.cell 0 rfl rfl, H.cell 0 rfl rfl, H.cell 0 rfl rfl, H.cell 0 rfl rfl, H.cell 0 rfl rfl, H.cell 0 rfl rfl, trivial⟩ ?_
     replace H := St.slxPut (R := mail_Box_api_Command.RX) (g' := (p, al)) (x' := t_.2.2) H.t4.t4.t4 ex2 hgl hg rfl
     rw [← mSet_len m_.l x t_.2.2] at H
     replace H := mail_Desk_api_Command.shut al_d (mail_Desk_api_Command.mk (mSet m_.l x t_.2.2)) H.t3
     cases hm
     dsimp only at hR; cases hR
     exact ⟨rfl, H.x2.x1⟩
    ·replace hm := cond_f c hm
     refine Runs.skip ?_
     refine Runs.inBlock ?_
     refine Runs.region ?_
     refine WR.e0 hE [(15, .int .i64 (w64 (x + 1)))] fun a hE => ?_
     replace H := St.slxPut (R := mail_Box_api_Command.RX) (g' := (p, al)) (x' := t_.2.2) H.t3.t3.t3 ex2 hgl hg rfl
     rw [← mSet_len m_.l x t_.2.2] at H
     try rw [← mSet_len m_.l x t_.2.2] at hE
     replace H := mail_Desk_api_Command.shut al_d (mail_Desk_api_Command.mk (mSet m_.l x t_.2.2)) H.t2
     exact ih m (Nat.lt_succ_self m) _ _ ⟨w64 (x + 1), mail_Desk_api_Command.mk (mSet m_.l x t_.2.2), hE.sel [2, 13, 14, 15] (by kernel_rfl), H.x1.t1.t1, hm⟩
   ·replace hm := cond_f c hm
    refine Runs.exit rfl ?_
    cases hm
    exact hk _ _ ⟨_, rfl, hE.sel [2] (by kernel_rfl), H.t1.t1⟩
 rintro a w ⟨s1, rfl, hE, H⟩
 replace hm := hR; dsimp only at hm
 refine Runs.sr ?_
 refine WR.eff hE rfl rfl rfl rfl (OpTo.new hE H [] (.cells #[.int .i64 0, .int .i64 0, .int .i64 0, .int .i64 0, .int .i64 0, .int .i64 0] 33 (0, 0)) (fun r => .pointer (some ⟨r, 0, none⟩)) (obs := []) rfl (fun _ => by kernel_rfl) trivial) ?_
 rintro _ w ⟨r2, rfl, H⟩ a hE
 refine WR.done rfl ?_
 refine Runs.sr ?_
 refine WR.seg hE 1 [.int .i64 0, .int .i64 0, .int .i64 0, .int .i64 0, .int .i64 0, .int .i64 0] [2, 29] (Lo := [(2, .pointer (some ⟨r, 0, none⟩)), (29, .agg #[.int .i64 0, .int .i64 0, .int .i64 0, .int .i64 0, .int .i64 0, .int .i64 0])]) (obs := [.cell ⟨r2, 0, none⟩ (.int .i64 0), .cell ⟨r2, 1, none⟩ (.int .i64 0), .cell ⟨r2, 2, none⟩ (.int .i64 0), .cell ⟨r2, 3, none⟩ (.int .i64 0), .cell ⟨r2, 4, none⟩ (.int .i64 0), .cell ⟨r2, 5, none⟩ (.int .i64 0)]) rfl (by kernel_rfl) ⟨H.cell 0 rfl rfl, H.cell 0 rfl rfl, H.cell 0 rfl rfl, H.cell 0 rfl rfl, H.cell 0 rfl rfl, H.cell 0 rfl rfl, trivial⟩ fun a hE => ?_
 refine WR.eff0 hE rfl rfl rfl (OpTo.store hE H.t2 rfl rfl rfl rfl rfl rfl (Nat.le_of_ble_eq_true rfl)) ?_
 rintro _ w H a hE
 refine WR.e0 hE [(3, .int .i64 0), (4, .bool false)] fun a hE => ?_
 refine Runs.retO (vs := [.agg #[.int .i64 0, .int .i64 0, .int .i64 0, .int .i64 0, .int .i64 0, .int .i64 0], .int .i64 0, .bool false]) (obs := [.cell ⟨r, 0, none⟩ (.int .i64 0), .cell ⟨r, 1, none⟩ (.int .i64 0), .cell ⟨r, 2, none⟩ (.int .i64 0), .cell ⟨r, 3, none⟩ (.int .i64 0), .cell ⟨r, 4, none⟩ (.int .i64 0), .cell ⟨r, 5, none⟩ (.int .i64 0)]) hE Tryz.func31 rfl [.int .i64 0, .int .i64 0, .int .i64 0, .int .i64 0, .int .i64 0, .int .i64 0] (by kernel_rfl) ⟨H.cell 0 rfl rfl, H.cell 0 rfl rfl, H.cell 0 rfl rfl, H.cell 0 rfl rfl, H.cell 0 rfl rfl, H.cell 0 rfl rfl, trivial⟩ ?_
 cases hm
 exact ⟨rfl, H.x1.x0⟩

noncomputable abbrev C86p : List (PK El) := [pO meter_Meter.D]
noncomputable def C86 : Con El := mkCon 86 C86p (fun i_ => meter_Meter_Steps i_.1.2.2) 0 0 (fun i_ t ns_ as_ => .int .i64 t) (fun i_ t ns_ as_ => meter_Meter.D.flat i_.1.1 i_.1.2.1 i_.1.2.2)

theorem S86 : (C86).Sound Tryz.prog :=
  fn_sound mixed (C86) (n := 7) (rs := rsOf Tryz.prog 86) [] [0] (gj (gI 2) []) (fun i => (.s (.seg 1 []) (.s (.seg 5 [.C 0 0]) .ret))) Tryz.func86 rfl rfl (by kernel_rfl) (fun _ => rfl) (fun i => by kernel_rfl) (fun i s => by kernel_rfl)

noncomputable def K86 : SCon El Tryz.prog := ⟨C86, S86, Tryz.call86⟩

noncomputable abbrev C57p : List (PK El) := [pO pq_Queues.D]
noncomputable def C57 : Con El := mkCon 57 C57p (fun i_ => pq_Queues_Steps i_.1.2.2) 0 0 (fun i_ t ns_ as_ => .int .i64 t) (fun i_ t ns_ as_ => pq_Queues.D.flat i_.1.1 i_.1.2.1 i_.1.2.2)

theorem S57 : (C57).Sound Tryz.prog :=
  fn_sound mixed (C57) (n := 9) (rs := rsOf Tryz.prog 57) [] [0, 1, 2, 3, 4, 5, 6, 7, 8, 9, 10, 11, 12, 13] (gj (gI 2) []) (fun i => (.s (.seg 1 []) (.s (.seg 4 [.C 0 1]) (.s (.call K75 [.K 1, .K 2, .K 3, .K 4] [1, 2, 3, 4]) (.s (.call K86 [.K 4] [4]) (.s (.seg 1 []) .ret)))))) Tryz.func57 rfl rfl (by kernel_rfl) (fun _ => rfl) (fun i => by kernel_rfl) (fun i s => by kernel_rfl)

noncomputable def K57 : SCon El Tryz.prog := ⟨C57, S57, Tryz.call57⟩

noncomputable abbrev C59p : List (PK El) := [pI .i64]
noncomputable def C59 : Con El := mkCon 59 C59p (fun i_ => dispatch_refused i_.1) 0 0 (fun i_ t ns_ as_ => .agg #[.int .i64 t.Why, .int .i64 t.Job.At, .int .i64 t.Job.Gen, .int .i64 t.Time, .int .i64 t.Data, .int .i64 t.N]) (fun i_ t ns_ as_ => [])

theorem S59 : (C59).Sound Tryz.prog :=
  fn_sound mixed (C59) (n := 5) (rs := rsOf Tryz.prog 59) [.C 2000 0, .C 2000 1, .C 2000 2, .C 2000 3, .C 2000 4, .C 2000 5] [] (gj (gC 2000 0 6 api_Reply.dec) []) (fun i => (.s (.new 0 []) (.s (.seg 2 []) (.s (.sto 0) (.rk [(0, 2000), (2000, 92000)] .ret))))) Tryz.func59 rfl rfl (by kernel_rfl) (fun _ => rfl) (fun i => by kernel_rfl) (fun i s => by kernel_rfl)

noncomputable def K59 : SCon El Tryz.prog := ⟨C59, S59, Tryz.call59⟩

noncomputable abbrev C94p : List (PK El) := [pO pool_Pool_jobs_Job.D]
noncomputable def C94 : Con El := mkCon 94 C94p (fun i_ => pool_Pool_jobs_Job_Len i_.1.2.2) 0 0 (fun i_ t ns_ as_ => .int .i64 t) (fun i_ t ns_ as_ => pool_Pool_jobs_Job.D.flat i_.1.1 i_.1.2.1 i_.1.2.2)

theorem S94 : (C94).Sound Tryz.prog :=
  fn_sound mixed (C94) (n := 14) (rs := rsOf Tryz.prog 94) [] [0, 1, 2] (gj (gI 2) []) (fun i => (.s (.seg 1 []) (.drw (.q [0, 1, 2, 3, 4, 5, 6, 7, 8, 9, 10, 11] [.C 0 1, .C 0 2] .ret)))) Tryz.func94 rfl rfl (by kernel_rfl) (fun _ => rfl) (fun i => by kernel_rfl) (fun i s => by kernel_rfl)

noncomputable def K94 : SCon El Tryz.prog := ⟨C94, S94, Tryz.call94⟩

noncomputable abbrev C61p : List (PK El) := [pO jobs_Table.D]
noncomputable def C61 : Con El := mkCon 61 C61p (fun i_ => jobs_Table_Len i_.1.2.2) 0 0 (fun i_ t ns_ as_ => .int .i64 t) (fun i_ t ns_ as_ => jobs_Table.D.flat i_.1.1 i_.1.2.1 i_.1.2.2)

theorem S61 : (C61).Sound Tryz.prog :=
  fn_sound mixed (C61) (n := 8) (rs := rsOf Tryz.prog 61) [] [0, 1, 2, 3, 4] (gj (gI 2) []) (fun i => (.s (.seg 1 []) (.s (.seg 4 [.C 0 0]) (.s (.call K94 [.K 1, .K 2, .K 3] [1, 2, 3]) (.s (.seg 1 []) .ret))))) Tryz.func61 rfl rfl (by kernel_rfl) (fun _ => rfl) (fun i => by kernel_rfl) (fun i s => by kernel_rfl)

noncomputable def K61 : SCon El Tryz.prog := ⟨C61, S61, Tryz.call61⟩

noncomputable abbrev C186p : List (PK El) := [pO pool_Pool_jobs_Job.D]
noncomputable def C186 : Con El := mkCon 186 C186p (fun i_ => pool_Pool_jobs_Job_Places i_.1.2.2) 0 0 (fun i_ t ns_ as_ => .int .i64 t) (fun i_ t ns_ as_ => pool_Pool_jobs_Job.D.flat i_.1.1 i_.1.2.1 i_.1.2.2)

theorem S186 : (C186).Sound Tryz.prog :=
  fn_sound mixed (C186) (n := 7) (rs := rsOf Tryz.prog 186) [] [0, 1, 2] (gj (gI 2) []) (fun i => (.s (.seg 1 []) (.s (.seg 5 [.C 0 0]) .ret))) Tryz.func186 rfl rfl (by kernel_rfl) (fun _ => rfl) (fun i => by kernel_rfl) (fun i s => by kernel_rfl)

noncomputable def K186 : SCon El Tryz.prog := ⟨C186, S186, Tryz.call186⟩

noncomputable abbrev C187p : List (PK El) := [pO pool_Pool_jobs_Job.D, pV jobs_Job.dv jobs_Job.val]
noncomputable def C187 : Con El := mkCon 187 C187p (fun i_ => pool_Pool_jobs_Job_Take i_.1.2.2 i_.2.1) 2 2 (fun i_ t ns_ as_ => .tuple #[.agg #[.int .i64 t.1.At, .int .i64 t.1.Gen], .bool t.2.1]) (fun i_ t ns_ as_ => pool_Pool_jobs_Job.D.flat i_.1.1 (pool_Pool_jobs_Job.A.mk (na as_ 0) (nn ns_ 0) (na as_ 1) (nn ns_ 1)) t.2.2)

theorem S187 : (C187).Sound Tryz.prog :=
  fn_sound mixed (C187) (n := 81) (rs := rsOf Tryz.prog 187) [.C 2000 0, .C 2000 1] [0, 1, 2] (gj (g2 (gC 2000 0 2 api_Ref.dec) (g2 (gB 5) (gO pool_Pool_jobs_Job.D [0, 1, 2]))) [nA pool_Pool_jobs_Job.D [0, 1, 2] (fun al => ([al.l_c, al.free_c], [al.l_b, al.free_b]))]) (fun i => (.s (.new 3 []) (.s (.new 4 []) (.s (.seg 1 []) (.s (.seg 6 [.C 0 1]) (.s (.seg 7 [.C 0 2]) (.s (.seg 2 []) (.joinR (Int × pool_Pool_jobs_Job) 2 2 (gj (g2 (gI 6) (gO pool_Pool_jobs_Job.D [0, 1, 2])) [nA pool_Pool_jobs_Job.D [0, 1, 2] (fun al => ([al.l_c, al.free_c], [al.l_b, al.free_b]))]) (fun st_ s_ ns_ as_ => match (gP 0) st_ with | some x_ => ([(6, .int .i64 s_.1)] ++ kp [0, 3, 4] st_, ka [4, 3] st_ ++ zipL [0, 1, 2] (pool_Pool_jobs_Job.D.flat (x_) (pool_Pool_jobs_Job.A.mk (na as_ 0) (nn ns_ 0) (na as_ 1) (nn ns_ 1)) s_.2)) | none => ([], [])) (.cond (.s (.seg 5 [.C 0 2]) (.s (.idx false 2 (.tmp 26) 2) (.s (.seg 3 [.A 2, .X 2 2 0]) (.s (.seg 6 [.C 0 2]) (.s (.cut false 2 none (some (.tmp 34)) 1003) (.s (.seg 3 [.W 1003]) (.s (.sto 0) (.s (.own 1003 2) .leaf)))))))) (.s (.seg 6 [.C 0 0]) (.cond (.s (.seg 1 []) (.s (.sto 4) (.s (.seg 1 []) (.rk [(4, 2000), (2000, 92000)] .ret)))) (.s (.seg 6 [.C 0 1]) (.s (.bld 6 4 186) (.s (.app 1 (.O 6)) (.s (.seg 2 []) (.s (.sto 0) .leaf)))))))) (.s (.seg 5 [.C 0 1]) (.s (.idx false 1 (.tmp 59) 4) (.s (.seg 2 [.A 4]) (.s (.seg 7 [.X 4 1 0]) (.s (.sset 1 4 0) (.s (.rlc 4 0 1) (.drw (.q [0, 1, 2, 3, 4] [.C 3 0, .C 3 1, .C 3 2, .C 3 3, .C 3 4] (.a 5 (.sset 1 4 1) [.C 3 0, .C 3 1, .C 3 2, .C 3 3, .C 3 4] (.s (.rlc 4 0 1) (.q [6, 7] [] (.a 8 (.sset 1 4 2) [] (.s (.rlc 4 0 1) (.s (.seg 6 [.X 4 1 0]) (.s (.sto 4) (.s (.seg 1 []) (.rk [(4, 2000), (2000, 92000)] .ret))))))))))))))))))))))))) Tryz.func187 rfl rfl (by kernel_rfl) (fun _ => rfl) (fun i => by kernel_rfl) (fun i s => by kernel_rfl)

noncomputable def K187 : SCon El Tryz.prog := ⟨C187, S187, Tryz.call187⟩

noncomputable abbrev C128p : List (PK El) := [pO jobs_Table.D, pV jobs_Job.dv jobs_Job.val]
noncomputable def C128 : Con El := mkCon 128 C128p (fun i_ => jobs_Table_Add i_.1.2.2 i_.2.1) 2 2 (fun i_ t ns_ as_ => .tuple #[.agg #[.int .i64 t.1.At, .int .i64 t.1.Gen], .int .i64 t.2.1]) (fun i_ t ns_ as_ => jobs_Table.D.flat i_.1.1 (jobs_Table.A.mk i_.1.2.1.p_p (pool_Pool_jobs_Job.A.mk (na as_ 0) (nn ns_ 0) (na as_ 1) (nn ns_ 1)) i_.1.2.1.by__p) t.2.2)

theorem S128 : (C128).Sound Tryz.prog :=
  fn_sound mixed (C128) (n := 53) (rs := rsOf Tryz.prog 128) [.C 2000 0, .C 2000 1] [0, 1, 2, 3, 4] (gj (g2 (gC 2000 0 2 api_Ref.dec) (g2 (gI 5) (gO jobs_Table.D [0, 1, 2, 3, 4]))) [nA jobs_Table.D [0, 1, 2, 3, 4] (fun al => ([al.p_a.l_c, al.p_a.free_c], [al.p_a.l_b, al.p_a.free_b]))]) (fun i => (.s (.new 5 []) (.s (.new 6 []) (.s (.seg 1 []) (.jg (Bool) 0 0 (gj (gB 7) []) (fun st_ s_ ns_ as_ => ([(7, .bool s_)] ++ kp [0, 3, 4] st_, ka [6, 5, 0, 1, 2, 3, 4] st_)) (.drw (.q [0, 1, 2, 3, 4, 5] [.C 0 1, .C 5 3, .C 5 4] (.alt2 6 (.mget 4 2 31 api_Ref.key_ok (api_Ref.mk 0 0)) [] (.q [7, 8, 9] [] (.a 10 (.new 8 []) [] (.a 11 (.sto 8) [] (.q [12] [] .leaf)))) 10 (.new 9 []) [.C 5 3, .C 5 4, .C 0 1] (.a 6 (.mget 4 2 31 api_Ref.key_ok (api_Ref.mk 0 0)) [] (.q [7, 8, 9] [] (.a 11 (.sto 9) [] (.q [12] [] .leaf))))))) (.blk (.drw (.q [0, 1, 2, 3, 5, 6, 7, 8] [.C 0 0, .C 0 0] (.a 4 (.call K94 [.K 1, .K 2, .K 3] [1, 2, 3]) [.C 0 0] (.a 9 (.call K186 [.K 1, .K 2, .K 3] [1, 2, 3]) [] (.q [10, 11] [] (.cond (.s (.seg 1 []) (.s (.sto 6) (.s (.seg 1 []) (.rk [(6, 2000), (2000, 92000)] .ret)))) (.s (.seg 2 []) (.cond (.s (.seg 1 []) (.s (.sto 6) (.s (.seg 1 []) (.rk [(6, 2000), (2000, 92000)] .ret)))) (.jg (api_Ref × jobs_Table) 3 2 (gj (g2 (gC 12 0 2 api_Ref.dec) (gO jobs_Table.D [0, 1, 2, 3, 4])) [nPk 12, nA jobs_Table.D [0, 1, 2, 3, 4] (fun al => ([al.p_a.l_c, al.p_a.free_c], [al.p_a.l_b, al.p_a.free_b]))]) (fun st_ s_ ns_ as_ => match (g2 (gP 0) (gA jobs_Table.D [0, 1, 2, 3, 4])) st_ with | some x_ => ([(8, .pointer (some ⟨(nn ns_ 0), 0, none⟩))] ++ kp [0, 3, 4] st_, ka [6, 5] st_ ++ zipL [12] [.blk (nn ns_ 0) 31 [.int .i64 s_.1.At, .int .i64 s_.1.Gen]] ++ zipL [0, 1, 2, 3, 4] (jobs_Table.D.flat (x_.1) (jobs_Table.A.mk (x_.2.p_p) (pool_Pool_jobs_Job.A.mk (na as_ 0) (nn ns_ 1) (na as_ 1) (nn ns_ 2)) (x_.2.by__p)) s_.2)) | none => ([], [])) (.drw (.q [0, 1, 2, 3, 4] [.C 0 0, .C 5 0, .C 5 1, .C 5 2, .C 5 3, .C 5 4] (.alt2 5 (.call K187 [.K 1, .K 2, .K 3] [1, 2, 3]) [] (.q [6, 7, 8] [] (.a 9 (.new 13 []) [] (.a 10 (.sto 13) [] (.q [11] [] (.rk [(13, 12), (12, 90012)] .leaf))))) 9 (.new 14 []) [.C 5 0, .C 5 1, .C 5 2, .C 5 3, .C 5 4, .C 0 0] (.a 5 (.call K187 [.K 1, .K 2, .K 3] [1, 2, 3]) [] (.q [6, 7, 8] [] (.a 10 (.sto 14) [] (.q [11] [] (.rk [(14, 12), (12, 90012)] .leaf)))))))) (.drw (.q [0, 1, 2, 3, 4, 5, 6] [.C 0 1, .C 5 3, .C 5 4, .C 12 0, .C 12 1] (.a 7 (.mput 4 2 31 api_Ref.key_ok) [] (.s (.seg 1 [.C 12 0, .C 12 1]) (.s (.sto 6) (.s (.seg 1 []) (.rk [(6, 2000), (2000, 92000)] .ret)))))))))))))))))))))) Tryz.func128 rfl rfl (by kernel_rfl) (fun _ => rfl) (fun i => by kernel_rfl) (fun i s => by kernel_rfl)

noncomputable def K128 : SCon El Tryz.prog := ⟨C128, S128, Tryz.call128⟩

noncomputable abbrev C129p : List (PK El) := [pV jobs_Job.dv jobs_Job.val]
noncomputable def C129 : Con El := mkCon 129 C129p (fun i_ => dispatch_told i_.1) 0 0 (fun i_ t ns_ as_ => .agg #[.int .i64 t.Why, .int .i64 t.Job.At, .int .i64 t.Job.Gen, .int .i64 t.Time, .int .i64 t.Data, .int .i64 t.N]) (fun i_ t ns_ as_ => [])

theorem S129 : (C129).Sound Tryz.prog :=
  fn_sound mixed (C129) (n := 8) (rs := rsOf Tryz.prog 129) [.C 2000 0, .C 2000 1, .C 2000 2, .C 2000 3, .C 2000 4, .C 2000 5] [] (gj (gC 2000 0 6 api_Reply.dec) []) (fun i => (.s (.new 0 []) (.s (.new 1 []) (.s (.seg 5 [.C 0 1, .C 0 2]) (.s (.sto 1) (.rk [(1, 2000), (2000, 92000)] .ret)))))) Tryz.func129 rfl rfl (by kernel_rfl) (fun _ => rfl) (fun i => by kernel_rfl) (fun i s => by kernel_rfl)

noncomputable def K129 : SCon El Tryz.prog := ⟨C129, S129, Tryz.call129⟩

noncomputable abbrev C87p : List (PK El) := [pO dispatch_Dispatcher.D, pV api_Command.dv api_Command.val]
noncomputable def C87 (k : Nat) : Con El := mkCon 87 C87p (fun i_ => dispatch_Dispatcher_schedule k i_.1.2.2 i_.2.1) 17 8 (fun i_ t ns_ as_ => .agg #[.int .i64 t.1.Why, .int .i64 t.1.Job.At, .int .i64 t.1.Job.Gen, .int .i64 t.1.Time, .int .i64 t.1.Data, .int .i64 t.1.N]) (fun i_ t ns_ as_ => dispatch_Dispatcher.D.flat i_.1.1 (dispatch_Dispatcher.A.mk i_.1.2.1.q_p (pq_Queues.A.mk (nn ns_ 0) (arena_Arena.A.mk (na as_ 0) (nn ns_ 1) (na as_ 1) (nn ns_ 2) (nn ns_ 3)) (nn ns_ 4) (slots_Table.A.mk (nn ns_ 5) (pool_Pool_slots_heap.A.mk (na as_ 2) (nn ns_ 6) (na as_ 3) (nn ns_ 7)) (nn ns_ 8) (pool_Pool_slots_thing.A.mk (na as_ 4) (nn ns_ 9) (na as_ 5) (nn ns_ 10)) (nn ns_ 11)) (nn ns_ 12)) i_.1.2.1.t__p (jobs_Table.A.mk (nn ns_ 13) (pool_Pool_jobs_Job.A.mk (na as_ 6) (nn ns_ 14) (na as_ 7) (nn ns_ 15)) (nn ns_ 16)) i_.1.2.1.when_p i_.1.2.1.clock_p) t.2)

theorem S87 (k : Nat) : (C87 k).Sound Tryz.prog :=
  fn_sound mixed (C87 k) (n := 67) (rs := rsOf Tryz.prog 87) [.C 2000 0, .C 2000 1, .C 2000 2, .C 2000 3, .C 2000 4, .C 2000 5] [0, 1, 2, 3, 4, 5, 6, 7, 8, 9, 10, 11, 12, 13, 14, 15, 16, 17, 18, 19, 20, 21] (gj (g2 (gC 2000 0 6 api_Reply.dec) (gO dispatch_Dispatcher.D [0, 1, 2, 3, 4, 5, 6, 7, 8, 9, 10, 11, 12, 13, 14, 15, 16, 17, 18, 19, 20, 21])) [nA dispatch_Dispatcher.D [0, 1, 2, 3, 4, 5, 6, 7, 8, 9, 10, 11, 12, 13, 14, 15, 16, 17, 18, 19, 20, 21] (fun al => ([al.q_a.a__p, al.q_a.a__a.l_c, al.q_a.a__a.free_c, al.q_a.a__a.m__p, al.q_a.t__p, al.q_a.t__a.heaps_p, al.q_a.t__a.heaps_a.l_c, al.q_a.t__a.heaps_a.free_c, al.q_a.t__a.items_p, al.q_a.t__a.items_a.l_c, al.q_a.t__a.items_a.free_c, al.q_a.t__a.at__p, al.q_a.entries_p, al.t__a.p_p, al.t__a.p_a.l_c, al.t__a.p_a.free_c, al.t__a.by__p], [al.q_a.a__a.l_b, al.q_a.a__a.free_b, al.q_a.t__a.heaps_a.l_b, al.q_a.t__a.heaps_a.free_b, al.q_a.t__a.items_a.l_b, al.q_a.t__a.items_a.free_b, al.t__a.p_a.l_b, al.t__a.p_a.free_b]))]) (fun i => (.s (.new 22 []) (.s (.new 23 []) (.drw (.q [0, 1, 2, 3, 5, 6, 7, 8] [.C 0 7, .C 0 1] (.a 4 (.call K61 [.K 15, .K 16, .K 17, .K 18, .K 19] [15, 16, 17, 18, 19]) [.C 0 1] (.q [9] [] (.cond (.s (.call K59 [] []) (.s (.sto 23) (.rk [(23, 2000), (2000, 92000)] .ret))) (.jg (api_Answer × dispatch_Dispatcher) 14 6 (gj (g2 (gC 26 0 8 api_Answer.dec) (gO dispatch_Dispatcher.D [0, 1, 2, 3, 4, 5, 6, 7, 8, 9, 10, 11, 12, 13, 14, 15, 16, 17, 18, 19, 20, 21])) [nPk 26, nA dispatch_Dispatcher.D [0, 1, 2, 3, 4, 5, 6, 7, 8, 9, 10, 11, 12, 13, 14, 15, 16, 17, 18, 19, 20, 21] (fun al => ([al.q_a.a__p, al.q_a.a__a.l_c, al.q_a.a__a.free_c, al.q_a.a__a.m__p, al.q_a.t__p, al.q_a.t__a.heaps_p, al.q_a.t__a.heaps_a.l_c, al.q_a.t__a.heaps_a.free_c, al.q_a.t__a.items_p, al.q_a.t__a.items_a.l_c, al.q_a.t__a.items_a.free_c, al.q_a.t__a.at__p, al.q_a.entries_p], [al.q_a.a__a.l_b, al.q_a.a__a.free_b, al.q_a.t__a.heaps_a.l_b, al.q_a.t__a.heaps_a.free_b, al.q_a.t__a.items_a.l_b, al.q_a.t__a.items_a.free_b]))]) (fun st_ s_ ns_ as_ => match (g2 (gP 0) (gA dispatch_Dispatcher.D [0, 1, 2, 3, 4, 5, 6, 7, 8, 9, 10, 11, 12, 13, 14, 15, 16, 17, 18, 19, 20, 21])) st_ with | some x_ => ([(5, .pointer (some ⟨(nn ns_ 0), 0, none⟩))] ++ kp [0, 3, 4] st_, ka [23, 22] st_ ++ zipL [26] [.blk (nn ns_ 0) 122 [.int .i64 s_.1.Why, .int .i64 s_.1.Heap.At, .int .i64 s_.1.Heap.Gen, .int .i64 s_.1.Item.At, .int .i64 s_.1.Item.Gen, .int .i64 s_.1.Entry.Key, .int .i64 s_.1.Entry.Serial, .int .i64 s_.1.N]] ++ zipL [0, 1, 2, 3, 4, 5, 6, 7, 8, 9, 10, 11, 12, 13, 14, 15, 16, 17, 18, 19, 20, 21] (dispatch_Dispatcher.D.flat (x_.1) (dispatch_Dispatcher.A.mk (x_.2.q_p) (pq_Queues.A.mk (nn ns_ 1) (arena_Arena.A.mk (na as_ 0) (nn ns_ 2) (na as_ 1) (nn ns_ 3) (nn ns_ 4)) (nn ns_ 5) (slots_Table.A.mk (nn ns_ 6) (pool_Pool_slots_heap.A.mk (na as_ 2) (nn ns_ 7) (na as_ 3) (nn ns_ 8)) (nn ns_ 9) (pool_Pool_slots_thing.A.mk (na as_ 4) (nn ns_ 10) (na as_ 5) (nn ns_ 11)) (nn ns_ 12)) (nn ns_ 13)) (x_.2.t__p) (x_.2.t__a) (x_.2.when_p) (x_.2.clock_p)) s_.2)) | none => ([], [])) (.drw (.q [0, 1, 2, 3, 4, 5, 6, 7, 8] [.C 0 2, .C 22 1] (.s (.pix 0 3 2 6 (.tmp 27) 2002) (.q [9, 10, 11, 12, 13] [.Q 2002, .P 2002 0 0, .P 2002 0 1, .C 22 4] (.alt2 14 (.call (K53a k) [.K 1, .K 2, .K 3, .K 4, .K 5, .K 6, .K 7, .K 8, .K 9, .K 10, .K 11, .K 12, .K 13, .K 14] [1, 2, 3, 4, 5, 6, 7, 8, 9, 10, 11, 12, 13, 14]) [] (.a 15 (.new 27 []) [] (.a 16 (.sto 27) [] (.rk [(27, 26), (26, 90026)] .leaf))) 15 (.new 28 []) [.C 22 4, .P 2002 0 0, .P 2002 0 1, .Q 2002, .C 22 1, .C 0 2] (.a 14 (.call (K53a k) [.K 1, .K 2, .K 3, .K 4, .K 5, .K 6, .K 7, .K 8, .K 9, .K 10, .K 11, .K 12, .K 13, .K 14] [1, 2, 3, 4, 5, 6, 7, 8, 9, 10, 11, 12, 13, 14]) [] (.a 16 (.sto 28) [] (.rk [(28, 26), (26, 90026)] .leaf)))))))) (.s (.seg 9 [.C 22 1, .C 22 4, .C 22 5, .C 26 3, .C 26 4]) (.s (.new 29 []) (.s (.sto 29) (.jg (api_Ref × dispatch_Dispatcher) 5 2 (gj (g2 (gC 32 0 2 api_Ref.dec) (gO dispatch_Dispatcher.D [0, 1, 2, 3, 4, 5, 6, 7, 8, 9, 10, 11, 12, 13, 14, 15, 16, 17, 18, 19, 20, 21])) [nPk 32, nA dispatch_Dispatcher.D [0, 1, 2, 3, 4, 5, 6, 7, 8, 9, 10, 11, 12, 13, 14, 15, 16, 17, 18, 19, 20, 21] (fun al => ([al.t__a.p_p, al.t__a.p_a.l_c, al.t__a.p_a.free_c, al.t__a.by__p], [al.t__a.p_a.l_b, al.t__a.p_a.free_b]))]) (fun st_ s_ ns_ as_ => match (g2 (gP 0) (gA dispatch_Dispatcher.D [0, 1, 2, 3, 4, 5, 6, 7, 8, 9, 10, 11, 12, 13, 14, 15, 16, 17, 18, 19, 20, 21])) st_ with | some x_ => ([(7, .pointer (some ⟨(nn ns_ 0), 0, none⟩))] ++ kp [0, 4, 5, 6] st_, ka [29, 26, 23] st_ ++ zipL [32] [.blk (nn ns_ 0) 31 [.int .i64 s_.1.At, .int .i64 s_.1.Gen]] ++ zipL [0, 1, 2, 3, 4, 5, 6, 7, 8, 9, 10, 11, 12, 13, 14, 15, 16, 17, 18, 19, 20, 21] (dispatch_Dispatcher.D.flat (x_.1) (dispatch_Dispatcher.A.mk (x_.2.q_p) (x_.2.q_a) (x_.2.t__p) (jobs_Table.A.mk (nn ns_ 1) (pool_Pool_jobs_Job.A.mk (na as_ 0) (nn ns_ 2) (na as_ 1) (nn ns_ 3)) (nn ns_ 4)) (x_.2.when_p) (x_.2.clock_p)) s_.2)) | none => ([], [])) (.drw (.q [0, 1, 2, 3, 4] [.C 0 7, .C 29 0, .C 29 1, .C 29 2, .C 29 3, .C 29 4] (.alt2 5 (.call K128 [.K 15, .K 16, .K 17, .K 18, .K 19] [15, 16, 17, 18, 19]) [] (.q [6, 7, 8] [] (.a 9 (.new 33 []) [] (.a 10 (.sto 33) [] (.q [11] [] (.rk [(33, 32), (32, 90032)] .leaf))))) 9 (.new 34 []) [.C 29 0, .C 29 1, .C 29 2, .C 29 3, .C 29 4, .C 0 7] (.a 5 (.call K128 [.K 15, .K 16, .K 17, .K 18, .K 19] [15, 16, 17, 18, 19]) [] (.q [6, 7, 8] [] (.a 10 (.sto 34) [] (.q [11] [] (.rk [(34, 32), (32, 90032)] .leaf)))))))) (.drw (.q [0, 1, 2, 3, 4, 5, 6, 7] [.C 0 8, .C 32 0, .C 32 1, .C 26 6] (.a 8 (.mput 20 3 31 api_Ref.key_ok) [] (.s (.seg 1 [.C 29 0, .C 29 1, .C 29 2, .C 29 3, .C 29 4]) (.s (.call K129 [] []) (.s (.new 35 []) (.s (.sto 35) (.s (.seg 2 [.C 32 0, .C 32 1]) (.s (.sto 35) (.s (.seg 1 [.C 35 0, .C 35 1, .C 35 2, .C 35 3, .C 35 4, .C 35 5]) (.s (.sto 23) (.rk [(23, 2000), (2000, 92000)] .ret))))))))))))))))))))))))) Tryz.func87 rfl rfl (by kernel_rfl) (fun _ => rfl) (fun i => by kernel_rfl) (fun i s => by kernel_rfl)

noncomputable def K87 (k : Nat) : SCon El Tryz.prog := ⟨C87 k, S87 k, Tryz.call87⟩

noncomputable abbrev C188p : List (PK El) := [pO pool_Pool_jobs_Job.D, pV api_Ref.dv api_Ref.val, pV jobs_Job.dv jobs_Job.val]
noncomputable def C188 : Con El := mkCon 188 C188p (fun i_ => pool_Pool_jobs_Job_Set i_.1.2.2 i_.2.1 i_.2.2.1) 0 0 (fun i_ t ns_ as_ => .int .i64 t.1) (fun i_ t ns_ as_ => pool_Pool_jobs_Job.D.flat i_.1.1 i_.1.2.1 t.2)

theorem S188 : (C188).Sound Tryz.prog :=
  fn_sound mixed (C188) (n := 22) (rs := rsOf Tryz.prog 188) [] [0, 1, 2] (gj (g2 (gI 6) (gO pool_Pool_jobs_Job.D [0, 1, 2])) []) (fun i => (.s (.new 3 []) (.s (.new 4 []) (.s (.seg 1 []) (.s (.seg 2 [.C 3 0, .C 3 1]) (.s (.call K99 [.K 0, .K 1, .K 2] [0, 1, 2]) (.eo 12 0 1 0 (.s (.seg 5 []) (.s (.seg 2 []) (.join (Unit) 0 0 (gj gU []) (fun st_ s_ ns_ as_ => ([] ++ kp [8] st_, ka [0, 1, 2] st_)) (.cond .dead .leaf) (.s (.seg 2 []) .ret)))) (.s (.seg 5 []) (.s (.seg 2 []) (.join (pool_Pool_jobs_Job) 0 0 (gj (gO pool_Pool_jobs_Job.D [0, 1, 2]) []) (fun st_ s_ ns_ as_ => match (g2 (gP 0) (gA pool_Pool_jobs_Job.D [0, 1, 2])) st_ with | some x_ => ([] ++ kp [8] st_, ka [] st_ ++ zipL [0, 1, 2] (pool_Pool_jobs_Job.D.flat (x_.1) (x_.2) s_)) | none => ([], [])) (.cond (.s (.seg 4 [.C 4 0, .C 4 1, .C 4 2, .C 4 3, .C 4 4]) (.s (.sset 1 0 2) (.s (.rlc 0 0 1) .leaf))) .leaf) (.s (.seg 2 []) .ret))))))))))) Tryz.func188 rfl rfl (by kernel_rfl) (fun _ => rfl) (fun i => by kernel_rfl) (fun i s => by kernel_rfl)

noncomputable def K188 : SCon El Tryz.prog := ⟨C188, S188, Tryz.call188⟩

noncomputable abbrev C130p : List (PK El) := [pO jobs_Table.D, pV api_Ref.dv api_Ref.val, pV jobs_Job.dv jobs_Job.val]
noncomputable def C130 : Con El := mkCon 130 C130p (fun i_ => jobs_Table_Set i_.1.2.2 i_.2.1 i_.2.2.1) 0 0 (fun i_ t ns_ as_ => .int .i64 t.1) (fun i_ t ns_ as_ => jobs_Table.D.flat i_.1.1 i_.1.2.1 t.2)

theorem S130 : (C130).Sound Tryz.prog :=
  fn_sound mixed (C130) (n := 59) (rs := rsOf Tryz.prog 130) [] [0, 1, 2, 3, 4] (gj (g2 (gI 6) (gO jobs_Table.D [0, 1, 2, 3, 4])) []) (fun i => (.s (.new 5 []) (.s (.new 6 []) (.s (.seg 1 []) (.jg (jobs_Job × Int) 1 0 (gj (g2 (gC 9 0 5 jobs_Job.dec) (gI 8)) [nPk 9]) (fun st_ s_ ns_ as_ => ([(7, .pointer (some ⟨(nn ns_ 0), 0, none⟩)), (8, .int .i64 s_.2)] ++ kp [0, 4, 5] st_, ka [6, 5, 0, 1, 2, 3, 4] st_ ++ zipL [9] [.blk (nn ns_ 0) 108 [.int .i64 s_.1.Queue, .int .i64 s_.1.Time, .int .i64 s_.1.Data, .int .i64 s_.1.Item.At, .int .i64 s_.1.Item.Gen]])) (.drw (.q [0, 1, 2, 3, 4] [.C 0 0, .C 5 0, .C 5 1] (.alt2 5 (.call K70 [.K 1, .K 2, .K 3] [1, 2, 3]) [] (.q [6, 7, 8] [] (.a 9 (.new 10 []) [] (.a 10 (.sto 10) [] (.q [11] [] (.rk [(10, 9), (9, 90009)] .leaf))))) 9 (.new 11 []) [.C 5 0, .C 5 1, .C 0 0] (.a 5 (.call K70 [.K 1, .K 2, .K 3] [1, 2, 3]) [] (.q [6, 7, 8] [] (.a 10 (.sto 11) [] (.q [11] [] (.rk [(11, 9), (9, 90009)] .leaf)))))))) (.s (.seg 2 []) (.cond (.s (.seg 2 []) .ret) (.jg (api_Ref × Bool) 1 0 (gj (g2 (gC 14 0 2 api_Ref.dec) (gB 10)) [nPk 14]) (fun st_ s_ ns_ as_ => ([(9, .pointer (some ⟨(nn ns_ 0), 0, none⟩)), (10, .bool s_.2)] ++ kp [0, 4, 5, 7] st_, ka [9, 6, 5, 0, 1, 2, 3, 4] st_ ++ zipL [14] [.blk (nn ns_ 0) 31 [.int .i64 s_.1.At, .int .i64 s_.1.Gen]])) (.drw (.q [0, 1, 2, 3, 4, 5] [.C 0 1, .C 6 3, .C 6 4] (.alt2 6 (.mget 4 2 31 api_Ref.key_ok (api_Ref.mk 0 0)) [] (.q [7, 8, 9] [] (.a 10 (.new 15 []) [] (.a 11 (.sto 15) [] (.q [12] [] (.rk [(15, 14), (14, 90014)] .leaf))))) 10 (.new 16 []) [.C 6 3, .C 6 4, .C 0 1] (.a 6 (.mget 4 2 31 api_Ref.key_ok (api_Ref.mk 0 0)) [] (.q [7, 8, 9] [] (.a 11 (.sto 16) [] (.q [12] [] (.rk [(16, 14), (14, 90014)] .leaf)))))))) (.join (Bool) 0 0 (gj (gB 38) []) (fun st_ s_ ns_ as_ => ([(38, .bool s_)] ++ kp [0, 4, 5, 7] st_, ka [9, 6, 5, 0, 1, 2, 3, 4] st_)) (.s (.seg 2 []) (.split 34 (.s (.seg 2 [.C 14 0, .C 14 1, .C 5 0, .C 5 1]) (.s (.eqs api_Ref.eqD) (.s (.seg 1 []) .leaf))) (.s (.seg 4 []) .leaf))) (.cond (.s (.seg 1 []) .ret) (.drw (.q [0, 1, 2, 3, 4, 5] [.C 0 1, .C 9 3, .C 9 4] (.a 6 (.mdel 4 2 31 api_Ref.key_ok) [] (.drw (.q [0, 1, 2, 3, 4, 5, 6] [.C 0 1, .C 6 3, .C 6 4, .C 5 0, .C 5 1] (.a 7 (.mput 4 2 31 api_Ref.key_ok) [] (.drw (.q [0, 1, 2, 3, 4, 5] [.C 0 0, .C 5 0, .C 5 1, .C 6 0, .C 6 1, .C 6 2, .C 6 3, .C 6 4] (.a 6 (.call K188 [.K 1, .K 2, .K 3] [1, 2, 3]) [] (.q [7] [] .ret)))))))))))))))))))) Tryz.func130 rfl rfl (by kernel_rfl) (fun _ => rfl) (fun i => by kernel_rfl) (fun i s => by kernel_rfl)

noncomputable def K130 : SCon El Tryz.prog := ⟨C130, S130, Tryz.call130⟩

noncomputable abbrev C88p : List (PK El) := [pO dispatch_Dispatcher.D, pV api_Command.dv api_Command.val]
noncomputable def C88 (k : Nat) : Con El := mkCon 88 C88p (fun i_ => dispatch_Dispatcher_sooner k i_.1.2.2 i_.2.1) 13 6 (fun i_ t ns_ as_ => .agg #[.int .i64 t.1.Why, .int .i64 t.1.Job.At, .int .i64 t.1.Job.Gen, .int .i64 t.1.Time, .int .i64 t.1.Data, .int .i64 t.1.N]) (fun i_ t ns_ as_ => dispatch_Dispatcher.D.flat i_.1.1 (dispatch_Dispatcher.A.mk i_.1.2.1.q_p (pq_Queues.A.mk (nn ns_ 0) (arena_Arena.A.mk (na as_ 0) (nn ns_ 1) (na as_ 1) (nn ns_ 2) (nn ns_ 3)) (nn ns_ 4) (slots_Table.A.mk (nn ns_ 5) (pool_Pool_slots_heap.A.mk (na as_ 2) (nn ns_ 6) (na as_ 3) (nn ns_ 7)) (nn ns_ 8) (pool_Pool_slots_thing.A.mk (na as_ 4) (nn ns_ 9) (na as_ 5) (nn ns_ 10)) (nn ns_ 11)) (nn ns_ 12)) i_.1.2.1.t__p i_.1.2.1.t__a i_.1.2.1.when_p i_.1.2.1.clock_p) t.2)

theorem S88 (k : Nat) : (C88 k).Sound Tryz.prog :=
  fn_sound mixed (C88 k) (n := 52) (rs := rsOf Tryz.prog 88) [.C 2000 0, .C 2000 1, .C 2000 2, .C 2000 3, .C 2000 4, .C 2000 5] [0, 1, 2, 3, 4, 5, 6, 7, 8, 9, 10, 11, 12, 13, 14, 15, 16, 17, 18, 19, 20, 21] (gj (g2 (gC 2000 0 6 api_Reply.dec) (gO dispatch_Dispatcher.D [0, 1, 2, 3, 4, 5, 6, 7, 8, 9, 10, 11, 12, 13, 14, 15, 16, 17, 18, 19, 20, 21])) [nA dispatch_Dispatcher.D [0, 1, 2, 3, 4, 5, 6, 7, 8, 9, 10, 11, 12, 13, 14, 15, 16, 17, 18, 19, 20, 21] (fun al => ([al.q_a.a__p, al.q_a.a__a.l_c, al.q_a.a__a.free_c, al.q_a.a__a.m__p, al.q_a.t__p, al.q_a.t__a.heaps_p, al.q_a.t__a.heaps_a.l_c, al.q_a.t__a.heaps_a.free_c, al.q_a.t__a.items_p, al.q_a.t__a.items_a.l_c, al.q_a.t__a.items_a.free_c, al.q_a.t__a.at__p, al.q_a.entries_p], [al.q_a.a__a.l_b, al.q_a.a__a.free_b, al.q_a.t__a.heaps_a.l_b, al.q_a.t__a.heaps_a.free_b, al.q_a.t__a.items_a.l_b, al.q_a.t__a.items_a.free_b]))]) (fun i => (.s (.new 22 []) (.s (.new 23 []) (.jg (jobs_Job × Int) 1 0 (gj (g2 (gC 26 0 5 jobs_Job.dec) (gI 6)) [nPk 26]) (fun st_ s_ ns_ as_ => ([(5, .pointer (some ⟨(nn ns_ 0), 0, none⟩)), (6, .int .i64 s_.2)] ++ kp [0, 3, 4] st_, ka [23, 22, 0, 1, 2, 3, 4, 5, 6, 7, 8, 9, 10, 11, 12, 13, 14, 15, 16, 17, 18, 19, 20, 21] st_ ++ zipL [26] [.blk (nn ns_ 0) 108 [.int .i64 s_.1.Queue, .int .i64 s_.1.Time, .int .i64 s_.1.Data, .int .i64 s_.1.Item.At, .int .i64 s_.1.Item.Gen]])) (.drw (.q [0, 1, 2, 3, 4, 5] [.C 0 7, .C 22 2, .C 22 3] (.alt2 6 (.call K46 [.K 15, .K 16, .K 17, .K 18, .K 19] [15, 16, 17, 18, 19]) [] (.q [7, 8, 9] [] (.a 10 (.new 27 []) [] (.a 11 (.sto 27) [] (.q [12] [] (.rk [(27, 26), (26, 90026)] .leaf))))) 10 (.new 28 []) [.C 22 2, .C 22 3, .C 0 7] (.a 6 (.call K46 [.K 15, .K 16, .K 17, .K 18, .K 19] [15, 16, 17, 18, 19]) [] (.q [7, 8, 9] [] (.a 11 (.sto 28) [] (.q [12] [] (.rk [(28, 26), (26, 90026)] .leaf)))))))) (.blk (.s (.seg 3 []) (.cond (.s (.seg 1 []) (.s (.call K59 [] []) (.s (.sto 23) (.rk [(23, 2000), (2000, 92000)] .ret)))) (.s (.seg 6 [.C 22 4, .C 26 1]) (.cond (.s (.call K59 [] []) (.s (.sto 23) (.rk [(23, 2000), (2000, 92000)] .ret))) (.drw (.q [0, 1, 2, 3, 4, 5, 6, 7, 8] [.C 0 2, .C 26 3, .C 26 4, .C 22 4] (.a 9 (.call (K53a k) [.K 1, .K 2, .K 3, .K 4, .K 5, .K 6, .K 7, .K 8, .K 9, .K 10, .K 11, .K 12, .K 13, .K 14] [1, 2, 3, 4, 5, 6, 7, 8, 9, 10, 11, 12, 13, 14]) [] (.s (.seg 3 [.C 22 4]) (.s (.sto 26) (.drw (.q [0, 1, 2, 3, 4, 5, 6] [.C 0 7, .C 22 2, .C 22 3, .C 26 0, .C 26 1, .C 26 2, .C 26 3, .C 26 4] (.a 7 (.call K130 [.K 15, .K 16, .K 17, .K 18, .K 19] [15, 16, 17, 18, 19]) [] (.s (.seg 1 [.C 26 0, .C 26 1, .C 26 2, .C 26 3, .C 26 4]) (.s (.call K129 [] []) (.s (.sto 23) (.rk [(23, 2000), (2000, 92000)] .ret))))))))))))))))))))) Tryz.func88 rfl rfl (by kernel_rfl) (fun _ => rfl) (fun i => by kernel_rfl) (fun i s => by kernel_rfl)

noncomputable def K88 (k : Nat) : SCon El Tryz.prog := ⟨C88 k, S88 k, Tryz.call88⟩

noncomputable abbrev C228p : List (PK El) := [pO pool_Pool_jobs_Job.D, pV api_Ref.dv api_Ref.val]
noncomputable def C228 : Con El := mkCon 228 C228p (fun i_ => pool_Pool_jobs_Job_Give i_.1.2.2 i_.2.1) 1 1 (fun i_ t ns_ as_ => .tuple #[.agg #[.int .i64 t.1.Queue, .int .i64 t.1.Time, .int .i64 t.1.Data, .int .i64 t.1.Item.At, .int .i64 t.1.Item.Gen], .int .i64 t.2.1]) (fun i_ t ns_ as_ => pool_Pool_jobs_Job.D.flat i_.1.1 (pool_Pool_jobs_Job.A.mk i_.1.2.1.l_b i_.1.2.1.l_c (na as_ 0) (nn ns_ 0)) t.2.2)

theorem S228 : (C228).Sound Tryz.prog :=
  fn_sound mixed (C228) (n := 43) (rs := rsOf Tryz.prog 228) [.C 2000 0, .C 2000 1, .C 2000 2, .C 2000 3, .C 2000 4] [0, 1, 2] (gj (g2 (gC 2000 0 5 jobs_Job.dec) (g2 (gI 5) (gO pool_Pool_jobs_Job.D [0, 1, 2]))) [nA pool_Pool_jobs_Job.D [0, 1, 2] (fun al => ([al.free_c], [al.free_b]))]) (fun i => (.s (.new 3 []) (.s (.new 4 []) (.s (.seg 1 []) (.s (.new 5 []) (.s (.seg 2 [.C 3 0, .C 3 1]) (.s (.call K99 [.K 0, .K 1, .K 2] [0, 1, 2]) (.eo 13 0 1 0 (.s (.seg 5 []) (.s (.seg 2 []) (.cond (.s (.seg 2 [.C 5 0, .C 5 1, .C 5 2, .C 5 3, .C 5 4]) (.s (.sto 4) (.s (.seg 1 []) (.rk [(4, 2000), (2000, 92000)] .ret)))) .dead))) (.s (.seg 5 []) (.s (.seg 2 []) (.cond (.s (.seg 2 [.C 5 0, .C 5 1, .C 5 2, .C 5 3, .C 5 4]) (.s (.sto 4) (.s (.seg 1 []) (.rk [(4, 2000), (2000, 92000)] .ret)))) (.s (.seg 4 [.X 0 1 2, .X 0 1 3, .X 0 1 4, .X 0 1 5, .X 0 1 6]) (.s (.new 6 []) (.s (.sto 6) (.drw (.q [0, 1, 2, 3, 4] [.C 5 0, .C 5 1, .C 5 2, .C 5 3, .C 5 4] (.a 5 (.sset 1 0 1) [.C 5 0, .C 5 1, .C 5 2, .C 5 3, .C 5 4] (.s (.rlc 0 0 1) (.q [6, 7] [] (.a 8 (.sset 1 0 2) [] (.s (.rlc 0 0 1) (.drw (.q [0, 1, 2, 3, 4, 5, 6] [.C 0 2, .C 3 0] (.a 7 (.bld 8 1 3) [.C 0 2] (.a 8 (.app 2 (.O 8)) [] (.q [9, 10] [] (.a 11 (.sto 0) [] (.s (.seg 1 [.C 6 0, .C 6 1, .C 6 2, .C 6 3, .C 6 4]) (.s (.sto 4) (.s (.seg 1 []) (.rk [(4, 2000), (2000, 92000)] .ret))))))))))))))))))))))))))))))) Tryz.func228 rfl rfl (by kernel_rfl) (fun _ => rfl) (fun i => by kernel_rfl) (fun i s => by kernel_rfl)

noncomputable def K228 : SCon El Tryz.prog := ⟨C228, S228, Tryz.call228⟩

noncomputable abbrev C189p : List (PK El) := [pO jobs_Table.D, pV api_Ref.dv api_Ref.val]
noncomputable def C189 : Con El := mkCon 189 C189p (fun i_ => jobs_Table_Take i_.1.2.2 i_.2.1) 2 2 (fun i_ t ns_ as_ => .tuple #[.agg #[.int .i64 t.1.Queue, .int .i64 t.1.Time, .int .i64 t.1.Data, .int .i64 t.1.Item.At, .int .i64 t.1.Item.Gen], .int .i64 t.2.1]) (fun i_ t ns_ as_ => jobs_Table.D.flat i_.1.1 (jobs_Table.A.mk i_.1.2.1.p_p (pool_Pool_jobs_Job.A.mk (na as_ 0) (nn ns_ 0) (na as_ 1) (nn ns_ 1)) i_.1.2.1.by__p) t.2.2)

theorem S189 : (C189).Sound Tryz.prog :=
  fn_sound mixed (C189) (n := 27) (rs := rsOf Tryz.prog 189) [.C 2000 0, .C 2000 1, .C 2000 2, .C 2000 3, .C 2000 4] [0, 1, 2, 3, 4] (gj (g2 (gC 2000 0 5 jobs_Job.dec) (g2 (gI 5) (gO jobs_Table.D [0, 1, 2, 3, 4]))) [nA jobs_Table.D [0, 1, 2, 3, 4] (fun al => ([al.p_a.l_c, al.p_a.free_c], [al.p_a.l_b, al.p_a.free_b]))]) (fun i => (.s (.new 5 []) (.s (.new 6 []) (.s (.seg 1 []) (.jg (jobs_Job × Int × jobs_Table) 3 2 (gj (g2 (gC 9 0 5 jobs_Job.dec) (g2 (gI 7) (gO jobs_Table.D [0, 1, 2, 3, 4]))) [nPk 9, nA jobs_Table.D [0, 1, 2, 3, 4] (fun al => ([al.p_a.l_c, al.p_a.free_c], [al.p_a.l_b, al.p_a.free_b]))]) (fun st_ s_ ns_ as_ => match (g2 (gP 0) (gA jobs_Table.D [0, 1, 2, 3, 4])) st_ with | some x_ => ([(6, .pointer (some ⟨(nn ns_ 0), 0, none⟩)), (7, .int .i64 s_.2.1)] ++ kp [0, 4] st_, ka [6] st_ ++ zipL [9] [.blk (nn ns_ 0) 108 [.int .i64 s_.1.Queue, .int .i64 s_.1.Time, .int .i64 s_.1.Data, .int .i64 s_.1.Item.At, .int .i64 s_.1.Item.Gen]] ++ zipL [0, 1, 2, 3, 4] (jobs_Table.D.flat (x_.1) (jobs_Table.A.mk (x_.2.p_p) (pool_Pool_jobs_Job.A.mk (na as_ 0) (nn ns_ 1) (na as_ 1) (nn ns_ 2)) (x_.2.by__p)) s_.2.2)) | none => ([], [])) (.drw (.q [0, 1, 2, 3, 4] [.C 0 0, .C 5 0, .C 5 1] (.alt2 5 (.call K228 [.K 1, .K 2, .K 3] [1, 2, 3]) [] (.q [6, 7, 8] [] (.a 9 (.new 10 []) [] (.a 10 (.sto 10) [] (.q [11] [] (.rk [(10, 9), (9, 90009)] .leaf))))) 9 (.new 11 []) [.C 5 0, .C 5 1, .C 0 0] (.a 5 (.call K228 [.K 1, .K 2, .K 3] [1, 2, 3]) [] (.q [6, 7, 8] [] (.a 10 (.sto 11) [] (.q [11] [] (.rk [(11, 9), (9, 90009)] .leaf)))))))) (.s (.seg 2 []) (.join (jobs_Table) 0 0 (gj (gO jobs_Table.D [0, 1, 2, 3, 4]) []) (fun st_ s_ ns_ as_ => match (g2 (gP 0) (gA jobs_Table.D [0, 1, 2, 3, 4])) st_ with | some x_ => ([] ++ kp [4, 6, 7] st_, ka [9, 6] st_ ++ zipL [0, 1, 2, 3, 4] (jobs_Table.D.flat (x_.1) (jobs_Table.A.mk (x_.2.p_p) (x_.2.p_a) (x_.2.by__p)) s_)) | none => ([], [])) (.cond (.drw (.q [0, 1, 2, 3, 4, 5] [.C 0 1, .C 9 3, .C 9 4] (.a 6 (.mdel 4 2 31 api_Ref.key_ok) [] .leaf))) .leaf) (.s (.seg 2 [.C 9 0, .C 9 1, .C 9 2, .C 9 3, .C 9 4]) (.s (.sto 6) (.s (.seg 1 []) (.rk [(6, 2000), (2000, 92000)] .ret))))))))))) Tryz.func189 rfl rfl (by kernel_rfl) (fun _ => rfl) (fun i => by kernel_rfl) (fun i s => by kernel_rfl)

noncomputable def K189 : SCon El Tryz.prog := ⟨C189, S189, Tryz.call189⟩

noncomputable abbrev C131p : List (PK El) := [pO dispatch_Dispatcher.D, pV api_Ref.dv api_Ref.val]
noncomputable def C131 : Con El := mkCon 131 C131p (fun i_ => dispatch_Dispatcher_gone i_.1.2.2 i_.2.1) 4 2 (fun i_ t ns_ as_ => .agg #[.int .i64 t.1.Why, .int .i64 t.1.Job.At, .int .i64 t.1.Job.Gen, .int .i64 t.1.Time, .int .i64 t.1.Data, .int .i64 t.1.N]) (fun i_ t ns_ as_ => dispatch_Dispatcher.D.flat i_.1.1 (dispatch_Dispatcher.A.mk i_.1.2.1.q_p i_.1.2.1.q_a i_.1.2.1.t__p (jobs_Table.A.mk (nn ns_ 0) (pool_Pool_jobs_Job.A.mk (na as_ 0) (nn ns_ 1) (na as_ 1) (nn ns_ 2)) (nn ns_ 3)) i_.1.2.1.when_p i_.1.2.1.clock_p) t.2)

theorem S131 : (C131).Sound Tryz.prog :=
  fn_sound mixed (C131) (n := 27) (rs := rsOf Tryz.prog 131) [.C 2000 0, .C 2000 1, .C 2000 2, .C 2000 3, .C 2000 4, .C 2000 5] [0, 1, 2, 3, 4, 5, 6, 7, 8, 9, 10, 11, 12, 13, 14, 15, 16, 17, 18, 19, 20, 21] (gj (g2 (gC 2000 0 6 api_Reply.dec) (gO dispatch_Dispatcher.D [0, 1, 2, 3, 4, 5, 6, 7, 8, 9, 10, 11, 12, 13, 14, 15, 16, 17, 18, 19, 20, 21])) [nA dispatch_Dispatcher.D [0, 1, 2, 3, 4, 5, 6, 7, 8, 9, 10, 11, 12, 13, 14, 15, 16, 17, 18, 19, 20, 21] (fun al => ([al.t__a.p_p, al.t__a.p_a.l_c, al.t__a.p_a.free_c, al.t__a.by__p], [al.t__a.p_a.l_b, al.t__a.p_a.free_b]))]) (fun i => (.s (.new 22 []) (.s (.new 23 []) (.jg (jobs_Job × Int × dispatch_Dispatcher) 5 2 (gj (g2 (gC 26 0 5 jobs_Job.dec) (g2 (gI 6) (gO dispatch_Dispatcher.D [0, 1, 2, 3, 4, 5, 6, 7, 8, 9, 10, 11, 12, 13, 14, 15, 16, 17, 18, 19, 20, 21]))) [nPk 26, nA dispatch_Dispatcher.D [0, 1, 2, 3, 4, 5, 6, 7, 8, 9, 10, 11, 12, 13, 14, 15, 16, 17, 18, 19, 20, 21] (fun al => ([al.t__a.p_p, al.t__a.p_a.l_c, al.t__a.p_a.free_c, al.t__a.by__p], [al.t__a.p_a.l_b, al.t__a.p_a.free_b]))]) (fun st_ s_ ns_ as_ => match (g2 (gP 0) (gA dispatch_Dispatcher.D [0, 1, 2, 3, 4, 5, 6, 7, 8, 9, 10, 11, 12, 13, 14, 15, 16, 17, 18, 19, 20, 21])) st_ with | some x_ => ([(5, .pointer (some ⟨(nn ns_ 0), 0, none⟩)), (6, .int .i64 s_.2.1)] ++ kp [0, 3, 4] st_, ka [23, 22] st_ ++ zipL [26] [.blk (nn ns_ 0) 108 [.int .i64 s_.1.Queue, .int .i64 s_.1.Time, .int .i64 s_.1.Data, .int .i64 s_.1.Item.At, .int .i64 s_.1.Item.Gen]] ++ zipL [0, 1, 2, 3, 4, 5, 6, 7, 8, 9, 10, 11, 12, 13, 14, 15, 16, 17, 18, 19, 20, 21] (dispatch_Dispatcher.D.flat (x_.1) (dispatch_Dispatcher.A.mk (x_.2.q_p) (x_.2.q_a) (x_.2.t__p) (jobs_Table.A.mk (nn ns_ 1) (pool_Pool_jobs_Job.A.mk (na as_ 0) (nn ns_ 2) (na as_ 1) (nn ns_ 3)) (nn ns_ 4)) (x_.2.when_p) (x_.2.clock_p)) s_.2.2)) | none => ([], [])) (.drw (.q [0, 1, 2, 3, 4] [.C 0 7, .C 22 0, .C 22 1] (.alt2 5 (.call K189 [.K 15, .K 16, .K 17, .K 18, .K 19] [15, 16, 17, 18, 19]) [] (.q [6, 7, 8] [] (.a 9 (.new 27 []) [] (.a 10 (.sto 27) [] (.q [11] [] (.rk [(27, 26), (26, 90026)] .leaf))))) 9 (.new 28 []) [.C 22 0, .C 22 1, .C 0 7] (.a 5 (.call K189 [.K 15, .K 16, .K 17, .K 18, .K 19] [15, 16, 17, 18, 19]) [] (.q [6, 7, 8] [] (.a 10 (.sto 28) [] (.q [11] [] (.rk [(28, 26), (26, 90026)] .leaf)))))))) (.s (.seg 2 []) (.cond (.s (.seg 1 []) (.s (.call K59 [] []) (.s (.sto 23) (.rk [(23, 2000), (2000, 92000)] .ret)))) (.drw (.q [0, 1, 2, 3, 4] [.C 0 8, .C 22 0, .C 22 1] (.a 5 (.mdel 20 3 31 api_Ref.key_ok) [] (.s (.seg 1 [.C 26 0, .C 26 1, .C 26 2, .C 26 3, .C 26 4]) (.s (.call K129 [] []) (.s (.sto 23) (.rk [(23, 2000), (2000, 92000)] .ret))))))))))))) Tryz.func131 rfl rfl (by kernel_rfl) (fun _ => rfl) (fun i => by kernel_rfl) (fun i s => by kernel_rfl)

noncomputable def K131 : SCon El Tryz.prog := ⟨C131, S131, Tryz.call131⟩

noncomputable abbrev C89p : List (PK El) := [pO dispatch_Dispatcher.D, pV api_Ref.dv api_Ref.val]
noncomputable def C89 (k : Nat) : Con El := mkCon 89 C89p (fun i_ => dispatch_Dispatcher_cancel k i_.1.2.2 i_.2.1) 17 8 (fun i_ t ns_ as_ => .agg #[.int .i64 t.1.Why, .int .i64 t.1.Job.At, .int .i64 t.1.Job.Gen, .int .i64 t.1.Time, .int .i64 t.1.Data, .int .i64 t.1.N]) (fun i_ t ns_ as_ => dispatch_Dispatcher.D.flat i_.1.1 (dispatch_Dispatcher.A.mk i_.1.2.1.q_p (pq_Queues.A.mk (nn ns_ 0) (arena_Arena.A.mk (na as_ 0) (nn ns_ 1) (na as_ 1) (nn ns_ 2) (nn ns_ 3)) (nn ns_ 4) (slots_Table.A.mk (nn ns_ 5) (pool_Pool_slots_heap.A.mk (na as_ 2) (nn ns_ 6) (na as_ 3) (nn ns_ 7)) (nn ns_ 8) (pool_Pool_slots_thing.A.mk (na as_ 4) (nn ns_ 9) (na as_ 5) (nn ns_ 10)) (nn ns_ 11)) (nn ns_ 12)) i_.1.2.1.t__p (jobs_Table.A.mk (nn ns_ 13) (pool_Pool_jobs_Job.A.mk (na as_ 6) (nn ns_ 14) (na as_ 7) (nn ns_ 15)) (nn ns_ 16)) i_.1.2.1.when_p i_.1.2.1.clock_p) t.2)

theorem S89 (k : Nat) : (C89 k).Sound Tryz.prog :=
  fn_sound mixed (C89 k) (n := 29) (rs := rsOf Tryz.prog 89) [.C 2000 0, .C 2000 1, .C 2000 2, .C 2000 3, .C 2000 4, .C 2000 5] [0, 1, 2, 3, 4, 5, 6, 7, 8, 9, 10, 11, 12, 13, 14, 15, 16, 17, 18, 19, 20, 21] (gj (g2 (gC 2000 0 6 api_Reply.dec) (gO dispatch_Dispatcher.D [0, 1, 2, 3, 4, 5, 6, 7, 8, 9, 10, 11, 12, 13, 14, 15, 16, 17, 18, 19, 20, 21])) [nA dispatch_Dispatcher.D [0, 1, 2, 3, 4, 5, 6, 7, 8, 9, 10, 11, 12, 13, 14, 15, 16, 17, 18, 19, 20, 21] (fun al => ([al.q_a.a__p, al.q_a.a__a.l_c, al.q_a.a__a.free_c, al.q_a.a__a.m__p, al.q_a.t__p, al.q_a.t__a.heaps_p, al.q_a.t__a.heaps_a.l_c, al.q_a.t__a.heaps_a.free_c, al.q_a.t__a.items_p, al.q_a.t__a.items_a.l_c, al.q_a.t__a.items_a.free_c, al.q_a.t__a.at__p, al.q_a.entries_p, al.t__a.p_p, al.t__a.p_a.l_c, al.t__a.p_a.free_c, al.t__a.by__p], [al.q_a.a__a.l_b, al.q_a.a__a.free_b, al.q_a.t__a.heaps_a.l_b, al.q_a.t__a.heaps_a.free_b, al.q_a.t__a.items_a.l_b, al.q_a.t__a.items_a.free_b, al.t__a.p_a.l_b, al.t__a.p_a.free_b]))]) (fun i => (.s (.new 22 []) (.s (.new 23 []) (.jg (jobs_Job × Int) 1 0 (gj (g2 (gC 26 0 5 jobs_Job.dec) (gI 6)) [nPk 26]) (fun st_ s_ ns_ as_ => ([(5, .pointer (some ⟨(nn ns_ 0), 0, none⟩)), (6, .int .i64 s_.2)] ++ kp [0, 3, 4] st_, ka [23, 22, 0, 1, 2, 3, 4, 5, 6, 7, 8, 9, 10, 11, 12, 13, 14, 15, 16, 17, 18, 19, 20, 21] st_ ++ zipL [26] [.blk (nn ns_ 0) 108 [.int .i64 s_.1.Queue, .int .i64 s_.1.Time, .int .i64 s_.1.Data, .int .i64 s_.1.Item.At, .int .i64 s_.1.Item.Gen]])) (.drw (.q [0, 1, 2, 3, 4] [.C 0 7, .C 22 0, .C 22 1] (.alt2 5 (.call K46 [.K 15, .K 16, .K 17, .K 18, .K 19] [15, 16, 17, 18, 19]) [] (.q [6, 7, 8] [] (.a 9 (.new 27 []) [] (.a 10 (.sto 27) [] (.q [11] [] (.rk [(27, 26), (26, 90026)] .leaf))))) 9 (.new 28 []) [.C 22 0, .C 22 1, .C 0 7] (.a 5 (.call K46 [.K 15, .K 16, .K 17, .K 18, .K 19] [15, 16, 17, 18, 19]) [] (.q [6, 7, 8] [] (.a 10 (.sto 28) [] (.q [11] [] (.rk [(28, 26), (26, 90026)] .leaf)))))))) (.s (.seg 2 []) (.join (dispatch_Dispatcher) 13 6 (gj (gO dispatch_Dispatcher.D [0, 1, 2, 3, 4, 5, 6, 7, 8, 9, 10, 11, 12, 13, 14, 15, 16, 17, 18, 19, 20, 21]) [nA dispatch_Dispatcher.D [0, 1, 2, 3, 4, 5, 6, 7, 8, 9, 10, 11, 12, 13, 14, 15, 16, 17, 18, 19, 20, 21] (fun al => ([al.q_a.a__p, al.q_a.a__a.l_c, al.q_a.a__a.free_c, al.q_a.a__a.m__p, al.q_a.t__p, al.q_a.t__a.heaps_p, al.q_a.t__a.heaps_a.l_c, al.q_a.t__a.heaps_a.free_c, al.q_a.t__a.items_p, al.q_a.t__a.items_a.l_c, al.q_a.t__a.items_a.free_c, al.q_a.t__a.at__p, al.q_a.entries_p], [al.q_a.a__a.l_b, al.q_a.a__a.free_b, al.q_a.t__a.heaps_a.l_b, al.q_a.t__a.heaps_a.free_b, al.q_a.t__a.items_a.l_b, al.q_a.t__a.items_a.free_b]))]) (fun st_ s_ ns_ as_ => match (g2 (gP 0) (gA dispatch_Dispatcher.D [0, 1, 2, 3, 4, 5, 6, 7, 8, 9, 10, 11, 12, 13, 14, 15, 16, 17, 18, 19, 20, 21])) st_ with | some x_ => ([] ++ kp [0, 3, 4] st_, ka [23, 22] st_ ++ zipL [0, 1, 2, 3, 4, 5, 6, 7, 8, 9, 10, 11, 12, 13, 14, 15, 16, 17, 18, 19, 20, 21] (dispatch_Dispatcher.D.flat (x_.1) (dispatch_Dispatcher.A.mk (x_.2.q_p) (pq_Queues.A.mk (nn ns_ 0) (arena_Arena.A.mk (na as_ 0) (nn ns_ 1) (na as_ 1) (nn ns_ 2) (nn ns_ 3)) (nn ns_ 4) (slots_Table.A.mk (nn ns_ 5) (pool_Pool_slots_heap.A.mk (na as_ 2) (nn ns_ 6) (na as_ 3) (nn ns_ 7)) (nn ns_ 8) (pool_Pool_slots_thing.A.mk (na as_ 4) (nn ns_ 9) (na as_ 5) (nn ns_ 10)) (nn ns_ 11)) (nn ns_ 12)) (x_.2.t__p) (x_.2.t__a) (x_.2.when_p) (x_.2.clock_p)) s_)) | none => ([], [])) (.cond (.drw (.q [0, 1, 2, 3, 4, 5, 6] [.C 0 2, .C 26 3, .C 26 4] (.a 7 (.call (K53a k) [.K 1, .K 2, .K 3, .K 4, .K 5, .K 6, .K 7, .K 8, .K 9, .K 10, .K 11, .K 12, .K 13, .K 14] [1, 2, 3, 4, 5, 6, 7, 8, 9, 10, 11, 12, 13, 14]) [] .leaf))) .leaf) (.s (.seg 2 [.C 22 0, .C 22 1]) (.s (.call K131 [.K 0, .K 1, .K 2, .K 3, .K 4, .K 5, .K 6, .K 7, .K 8, .K 9, .K 10, .K 11, .K 12, .K 13, .K 14, .K 15, .K 16, .K 17, .K 18, .K 19, .K 20, .K 21] [0, 1, 2, 3, 4, 5, 6, 7, 8, 9, 10, 11, 12, 13, 14, 15, 16, 17, 18, 19, 20, 21]) (.s (.sto 23) (.rk [(23, 2000), (2000, 92000)] .ret)))))))))) Tryz.func89 rfl rfl (by kernel_rfl) (fun _ => rfl) (fun i => by kernel_rfl) (fun i s => by kernel_rfl)

noncomputable def K89 (k : Nat) : SCon El Tryz.prog := ⟨C89 k, S89 k, Tryz.call89⟩

noncomputable abbrev C90p : List (PK El) := [pO clock_Clock.D, pI .i64]
noncomputable def C90 : Con El := mkCon 90 C90p (fun i_ => clock_Clock_Go i_.1.2.2 i_.2.1) 0 0 (fun i_ t ns_ as_ => .int .i64 t.1) (fun i_ t ns_ as_ => clock_Clock.D.flat i_.1.1 i_.1.2.1 t.2)

theorem S90 : (C90).Sound Tryz.prog :=
  fn_sound mixed (C90) (n := 16) (rs := rsOf Tryz.prog 90) [] [0] (gj (g2 (gI 4) (gO clock_Clock.D [0])) []) (fun i => (.s (.seg 1 []) (.s (.seg 2 []) (.cond (.s (.seg 1 []) .ret) (.s (.seg 6 [.C 0 0]) (.s (.call K101 [] []) (.s (.seg 2 []) (.s (.sto 0) (.s (.seg 1 []) .ret))))))))) Tryz.func90 rfl rfl (by kernel_rfl) (fun _ => rfl) (fun i => by kernel_rfl) (fun i s => by kernel_rfl)

noncomputable def K90 : SCon El Tryz.prog := ⟨C90, S90, Tryz.call90⟩

noncomputable abbrev C68p : List (PK El) := [pO clock_Clock.D]
noncomputable def C68 : Con El := mkCon 68 C68p (fun i_ => clock_Clock_Now i_.1.2.2) 0 0 (fun i_ t ns_ as_ => .int .i64 t) (fun i_ t ns_ as_ => clock_Clock.D.flat i_.1.1 i_.1.2.1 i_.1.2.2)

theorem S68 : (C68).Sound Tryz.prog :=
  fn_sound mixed (C68) (n := 7) (rs := rsOf Tryz.prog 68) [] [0] (gj (gI 2) []) (fun i => (.s (.seg 1 []) (.s (.seg 5 [.C 0 0]) .ret))) Tryz.func68 rfl rfl (by kernel_rfl) (fun _ => rfl) (fun i => by kernel_rfl) (fun i s => by kernel_rfl)

noncomputable def K68 : SCon El Tryz.prog := ⟨C68, S68, Tryz.call68⟩

noncomputable abbrev C132p : List (PK El) := [pO jobs_Table.D, pV api_Ref.dv api_Ref.val]
noncomputable def C132 : Con El := mkCon 132 C132p (fun i_ => jobs_Table_By i_.1.2.2 i_.2.1) 0 0 (fun i_ t ns_ as_ => .tuple #[.agg #[.int .i64 t.1.At, .int .i64 t.1.Gen], .bool t.2]) (fun i_ t ns_ as_ => jobs_Table.D.flat i_.1.1 i_.1.2.1 i_.1.2.2)

theorem S132 : (C132).Sound Tryz.prog :=
  fn_sound mixed (C132) (n := 19) (rs := rsOf Tryz.prog 132) [.C 2000 0, .C 2000 1] [0, 1, 2, 3, 4] (gj (g2 (gC 2000 0 2 api_Ref.dec) (gB 5)) []) (fun i => (.s (.new 5 []) (.s (.new 6 []) (.s (.seg 1 []) (.jg (api_Ref × Bool) 1 0 (gj (g2 (gC 9 0 2 api_Ref.dec) (gB 7)) [nPk 9]) (fun st_ s_ ns_ as_ => ([(6, .pointer (some ⟨(nn ns_ 0), 0, none⟩)), (7, .bool s_.2)] ++ kp [4] st_, ka [6, 0, 1, 2, 3, 4] st_ ++ zipL [9] [.blk (nn ns_ 0) 31 [.int .i64 s_.1.At, .int .i64 s_.1.Gen]])) (.drw (.q [0, 1, 2, 3, 4] [.C 0 1, .C 5 0, .C 5 1] (.alt2 5 (.mget 4 2 31 api_Ref.key_ok (api_Ref.mk 0 0)) [] (.q [6, 7, 8] [] (.a 9 (.new 10 []) [] (.a 10 (.sto 10) [] (.q [11] [] (.rk [(10, 9), (9, 90009)] .leaf))))) 9 (.new 11 []) [.C 5 0, .C 5 1, .C 0 1] (.a 5 (.mget 4 2 31 api_Ref.key_ok (api_Ref.mk 0 0)) [] (.q [6, 7, 8] [] (.a 10 (.sto 11) [] (.q [11] [] (.rk [(11, 9), (9, 90009)] .leaf)))))))) (.s (.seg 2 [.C 9 0, .C 9 1]) (.s (.sto 6) (.s (.seg 1 []) (.rk [(6, 2000), (2000, 92000)] .ret))))))))) Tryz.func132 rfl rfl (by kernel_rfl) (fun _ => rfl) (fun i => by kernel_rfl) (fun i s => by kernel_rfl)

noncomputable def K132 : SCon El Tryz.prog := ⟨C132, S132, Tryz.call132⟩

noncomputable abbrev C91p : List (PK El) := [pO dispatch_Dispatcher.D, pI .i64]
noncomputable def C91 (k : Nat) : Con El := mkCon 91 C91p (fun i_ => dispatch_Dispatcher_fire k i_.1.2.2 i_.2.1) 17 8 (fun i_ t ns_ as_ => .agg #[.int .i64 t.1.Why, .int .i64 t.1.Job.At, .int .i64 t.1.Job.Gen, .int .i64 t.1.Time, .int .i64 t.1.Data, .int .i64 t.1.N]) (fun i_ t ns_ as_ => dispatch_Dispatcher.D.flat i_.1.1 (dispatch_Dispatcher.A.mk i_.1.2.1.q_p (pq_Queues.A.mk (nn ns_ 0) (arena_Arena.A.mk (na as_ 0) (nn ns_ 1) (na as_ 1) (nn ns_ 2) (nn ns_ 3)) (nn ns_ 4) (slots_Table.A.mk (nn ns_ 5) (pool_Pool_slots_heap.A.mk (na as_ 2) (nn ns_ 6) (na as_ 3) (nn ns_ 7)) (nn ns_ 8) (pool_Pool_slots_thing.A.mk (na as_ 4) (nn ns_ 9) (na as_ 5) (nn ns_ 10)) (nn ns_ 11)) (nn ns_ 12)) i_.1.2.1.t__p (jobs_Table.A.mk (nn ns_ 13) (pool_Pool_jobs_Job.A.mk (na as_ 6) (nn ns_ 14) (na as_ 7) (nn ns_ 15)) (nn ns_ 16)) i_.1.2.1.when_p i_.1.2.1.clock_p) t.2)

theorem S91 (k : Nat) : (C91 k).Sound Tryz.prog :=
  fn_sound mixed (C91 k) (n := 61) (rs := rsOf Tryz.prog 91) [.C 2000 0, .C 2000 1, .C 2000 2, .C 2000 3, .C 2000 4, .C 2000 5] [0, 1, 2, 3, 4, 5, 6, 7, 8, 9, 10, 11, 12, 13, 14, 15, 16, 17, 18, 19, 20, 21] (gj (g2 (gC 2000 0 6 api_Reply.dec) (gO dispatch_Dispatcher.D [0, 1, 2, 3, 4, 5, 6, 7, 8, 9, 10, 11, 12, 13, 14, 15, 16, 17, 18, 19, 20, 21])) [nA dispatch_Dispatcher.D [0, 1, 2, 3, 4, 5, 6, 7, 8, 9, 10, 11, 12, 13, 14, 15, 16, 17, 18, 19, 20, 21] (fun al => ([al.q_a.a__p, al.q_a.a__a.l_c, al.q_a.a__a.free_c, al.q_a.a__a.m__p, al.q_a.t__p, al.q_a.t__a.heaps_p, al.q_a.t__a.heaps_a.l_c, al.q_a.t__a.heaps_a.free_c, al.q_a.t__a.items_p, al.q_a.t__a.items_a.l_c, al.q_a.t__a.items_a.free_c, al.q_a.t__a.at__p, al.q_a.entries_p, al.t__a.p_p, al.t__a.p_a.l_c, al.t__a.p_a.free_c, al.t__a.by__p], [al.q_a.a__a.l_b, al.q_a.a__a.free_b, al.q_a.t__a.heaps_a.l_b, al.q_a.t__a.heaps_a.free_b, al.q_a.t__a.items_a.l_b, al.q_a.t__a.items_a.free_b, al.t__a.p_a.l_b, al.t__a.p_a.free_b]))]) (fun i => (.s (.new 22 []) (.s (.seg 4 []) (.s (.pix 0 3 2 6 (.tmp 11) 2000) (.s (.seg 2 [.Q 2000, .P 2000 0 0, .P 2000 0 1]) (.s (.new 23 []) (.s (.sto 23) (.jg (api_Answer × dispatch_Dispatcher) 14 6 (gj (g2 (gC 26 0 8 api_Answer.dec) (gO dispatch_Dispatcher.D [0, 1, 2, 3, 4, 5, 6, 7, 8, 9, 10, 11, 12, 13, 14, 15, 16, 17, 18, 19, 20, 21])) [nPk 26, nA dispatch_Dispatcher.D [0, 1, 2, 3, 4, 5, 6, 7, 8, 9, 10, 11, 12, 13, 14, 15, 16, 17, 18, 19, 20, 21] (fun al => ([al.q_a.a__p, al.q_a.a__a.l_c, al.q_a.a__a.free_c, al.q_a.a__a.m__p, al.q_a.t__p, al.q_a.t__a.heaps_p, al.q_a.t__a.heaps_a.l_c, al.q_a.t__a.heaps_a.free_c, al.q_a.t__a.items_p, al.q_a.t__a.items_a.l_c, al.q_a.t__a.items_a.free_c, al.q_a.t__a.at__p, al.q_a.entries_p], [al.q_a.a__a.l_b, al.q_a.a__a.free_b, al.q_a.t__a.heaps_a.l_b, al.q_a.t__a.heaps_a.free_b, al.q_a.t__a.items_a.l_b, al.q_a.t__a.items_a.free_b]))]) (fun st_ s_ ns_ as_ => match (g2 (gP 0) (gA dispatch_Dispatcher.D [0, 1, 2, 3, 4, 5, 6, 7, 8, 9, 10, 11, 12, 13, 14, 15, 16, 17, 18, 19, 20, 21])) st_ with | some x_ => ([(6, .pointer (some ⟨(nn ns_ 0), 0, none⟩))] ++ kp [0, 4, 5] st_, ka [23, 22] st_ ++ zipL [26] [.blk (nn ns_ 0) 122 [.int .i64 s_.1.Why, .int .i64 s_.1.Heap.At, .int .i64 s_.1.Heap.Gen, .int .i64 s_.1.Item.At, .int .i64 s_.1.Item.Gen, .int .i64 s_.1.Entry.Key, .int .i64 s_.1.Entry.Serial, .int .i64 s_.1.N]] ++ zipL [0, 1, 2, 3, 4, 5, 6, 7, 8, 9, 10, 11, 12, 13, 14, 15, 16, 17, 18, 19, 20, 21] (dispatch_Dispatcher.D.flat (x_.1) (dispatch_Dispatcher.A.mk (x_.2.q_p) (pq_Queues.A.mk (nn ns_ 1) (arena_Arena.A.mk (na as_ 0) (nn ns_ 2) (na as_ 1) (nn ns_ 3) (nn ns_ 4)) (nn ns_ 5) (slots_Table.A.mk (nn ns_ 6) (pool_Pool_slots_heap.A.mk (na as_ 2) (nn ns_ 7) (na as_ 3) (nn ns_ 8)) (nn ns_ 9) (pool_Pool_slots_thing.A.mk (na as_ 4) (nn ns_ 10) (na as_ 5) (nn ns_ 11)) (nn ns_ 12)) (nn ns_ 13)) (x_.2.t__p) (x_.2.t__a) (x_.2.when_p) (x_.2.clock_p)) s_.2)) | none => ([], [])) (.drw (.q [0, 1, 2, 3, 4, 5] [.C 0 2, .C 23 0, .C 23 1] (.alt2 6 (.call (K53a k) [.K 1, .K 2, .K 3, .K 4, .K 5, .K 6, .K 7, .K 8, .K 9, .K 10, .K 11, .K 12, .K 13, .K 14] [1, 2, 3, 4, 5, 6, 7, 8, 9, 10, 11, 12, 13, 14]) [] (.a 7 (.new 27 []) [] (.a 8 (.sto 27) [] (.rk [(27, 26), (26, 90026)] .leaf))) 7 (.new 28 []) [.C 23 0, .C 23 1, .C 0 2] (.a 6 (.call (K53a k) [.K 1, .K 2, .K 3, .K 4, .K 5, .K 6, .K 7, .K 8, .K 9, .K 10, .K 11, .K 12, .K 13, .K 14] [1, 2, 3, 4, 5, 6, 7, 8, 9, 10, 11, 12, 13, 14]) [] (.a 8 (.sto 28) [] (.rk [(28, 26), (26, 90026)] .leaf)))))) (.join (Bool × dispatch_Dispatcher) 0 0 (gj (g2 (gB 36) (gO dispatch_Dispatcher.D [0, 1, 2, 3, 4, 5, 6, 7, 8, 9, 10, 11, 12, 13, 14, 15, 16, 17, 18, 19, 20, 21])) []) (fun st_ s_ ns_ as_ => match (g2 (gP 0) (gA dispatch_Dispatcher.D [0, 1, 2, 3, 4, 5, 6, 7, 8, 9, 10, 11, 12, 13, 14, 15, 16, 17, 18, 19, 20, 21])) st_ with | some x_ => ([(36, .bool s_.1)] ++ kp [0, 4, 5, 6] st_, ka [26, 23, 22] st_ ++ zipL [0, 1, 2, 3, 4, 5, 6, 7, 8, 9, 10, 11, 12, 13, 14, 15, 16, 17, 18, 19, 20, 21] (dispatch_Dispatcher.D.flat (x_.1) (dispatch_Dispatcher.A.mk (x_.2.q_p) (x_.2.q_a) (x_.2.t__p) (x_.2.t__a) (x_.2.when_p) (x_.2.clock_p)) s_.2)) | none => ([], [])) (.drw (.q [0, 1, 2, 3] [.C 26 0] (.split 26 (.q [4, 5, 6, 7, 8, 9, 10, 11, 12, 13] [] .leaf) (.q [4, 5, 6, 7, 8, 9, 10] [.C 0 9, .C 26 5] (.a 11 (.call K47 [.K 21] [21]) [] (.q [12, 13] [] .leaf)))))) (.cond (.s (.call K59 [] []) (.s (.sto 22) (.rk [(22, 2000), (2000, 92000)] .ret))) (.drw (.q [0, 1, 2, 3, 4, 5] [.C 0 2, .C 23 0, .C 23 1] (.a 6 (.call (K53a k) [.K 1, .K 2, .K 3, .K 4, .K 5, .K 6, .K 7, .K 8, .K 9, .K 10, .K 11, .K 12, .K 13, .K 14] [1, 2, 3, 4, 5, 6, 7, 8, 9, 10, 11, 12, 13, 14]) [] (.a 7 (.sto 26) [] (.jg (api_Ref) 1 0 (gj (gC 31 0 2 api_Ref.dec) [nPk 31]) (fun st_ s_ ns_ as_ => ([(7, .pointer (some ⟨(nn ns_ 0), 0, none⟩))] ++ kp [0, 4] st_, ka [0, 1, 2, 3, 4, 5, 6, 7, 8, 9, 10, 11, 12, 13, 14, 15, 16, 17, 18, 19, 20, 21, 22] st_ ++ zipL [31] [.blk (nn ns_ 0) 31 [.int .i64 s_.At, .int .i64 s_.Gen]])) (.drw (.q [0, 1, 2, 3, 4, 5] [.C 0 7, .C 26 3, .C 26 4] (.alt2 6 (.call K132 [.K 15, .K 16, .K 17, .K 18, .K 19] [15, 16, 17, 18, 19]) [] (.q [7, 8, 9] [] (.a 10 (.new 32 []) [] (.a 11 (.sto 32) [] (.q [12] [] (.rk [(32, 31), (31, 90031)] .leaf))))) 10 (.new 33 []) [.C 26 3, .C 26 4, .C 0 7] (.a 6 (.call K132 [.K 15, .K 16, .K 17, .K 18, .K 19] [15, 16, 17, 18, 19]) [] (.q [7, 8, 9] [] (.a 11 (.sto 33) [] (.q [12] [] (.rk [(33, 31), (31, 90031)] .leaf)))))))) (.s (.seg 2 [.C 31 0, .C 31 1]) (.s (.call K131 [.K 0, .K 1, .K 2, .K 3, .K 4, .K 5, .K 6, .K 7, .K 8, .K 9, .K 10, .K 11, .K 12, .K 13, .K 14, .K 15, .K 16, .K 17, .K 18, .K 19, .K 20, .K 21] [0, 1, 2, 3, 4, 5, 6, 7, 8, 9, 10, 11, 12, 13, 14, 15, 16, 17, 18, 19, 20, 21]) (.s (.new 34 []) (.s (.sto 34) (.s (.seg 2 [.C 31 0, .C 31 1]) (.s (.sto 34) (.s (.seg 1 [.C 34 0, .C 34 1, .C 34 2, .C 34 3, .C 34 4, .C 34 5]) (.s (.sto 22) (.rk [(22, 2000), (2000, 92000)] .ret)))))))))))))))))))))))) Tryz.func91 rfl rfl (by kernel_rfl) (fun _ => rfl) (fun i => by kernel_rfl) (fun i s => by kernel_rfl)

noncomputable def K91 (k : Nat) : SCon El Tryz.prog := ⟨C91 k, S91 k, Tryz.call91⟩

noncomputable abbrev C133p : List (PK El) := [pO jobs_Table.D, pI .i64, pI .i64]
noncomputable def C133 (k : Nat) : Con El := mkCon 133 C133p (fun i_ => jobs_Table_Move k i_.1.2.2 i_.2.1 i_.2.2.1) 0 0 (fun i_ t ns_ as_ => .int .i64 t.1) (fun i_ t ns_ as_ => jobs_Table.D.flat i_.1.1 i_.1.2.1 t.2)

noncomputable abbrev C133r (k : Nat) (i : Ins C133p) : Kn El → VC (C133 k).T := retC Tryz.prog (C133 k) (rsOf Tryz.prog 133) [] [0, 1, 2, 3, 4] (gj (g2 (gI 6) (gO jobs_Table.D [0, 1, 2, 3, 4])) []) i

noncomputable def C133l0 (i_ : Ins C133p) : BCon El (Int × jobs_Table) := ⟨nav [1, 1, 0, 1] (bodyOf Tryz.prog 133), (List api_Ref) × (Option Addr × Nat) × Int, Int × Int × jobs_Table, Int × jobs_Table, Int × jobs_Table, fun u => .inr u, fun _ _ => none, fun x_ => [], fun x_ v_ ns_ as_ => [(0, .pointer (some ⟨i_.1.1, 0, none⟩)), (1, .int .i64 i_.2.1), (2, .int .i64 i_.2.2.1), (7, .int .i64 v_.1), (16, .slice (x_.2.1.1) (x_.1).length (x_.2.1.2)), (17, .int .i64 (x_.2.2)), (18, .int .i64 v_.2.1)], fun x_ v_ ns_ as_ => zipL [0, 1, 2, 3, 4] (jobs_Table.D.flat i_.1.1 i_.1.2.1 v_.2.2) ++ zipL [5] [.sl 6 31 (x_.2.1.1) (x_.2.1.2) (x_.1)], 0, 0, fun x_ u_ ns_ as_ => [(7, .int .i64 u_.1)], fun x_ u_ ns_ as_ => zipL [0, 1, 2, 3, 4] (jobs_Table.D.flat i_.1.1 i_.1.2.1 u_.2)⟩

noncomputable def C133l0g (k : Nat) (i_ : Ins C133p) : Nat → (C133l0 i_).X → (C133l0 i_).V → Option (C133l0 i_).W := fun m_ (x_ : (List api_Ref) × (Option Addr × Nat) × Int) (v_ : Int × Int × jobs_Table) => jobs_Table_Move_l0 i_.2.1 i_.2.2.1 (x_.2.2) (x_.1) m_ v_.1 v_.2.1 v_.2.2

theorem C133l0s (k : Nat) (i : Ins C133p) (m : Nat) : ((C133l0 i).at (C133l0g k i) m).Sound Tryz.prog 133 48 (C133r k i) :=
  loop_sound mixed (C133l0 i) (id := 0) (body := nav [1, 1, 0, 1, 0, 0] (bodyOf Tryz.prog 133)) (C133l0g k i) (fun _ => none) (fun u => u) (gj (g2 (gI 7) (g2 (gI 18) (gO jobs_Table.D [0, 1, 2, 3, 4]))) []) (gj (g2 (gI 7) (gO jobs_Table.D [0, 1, 2, 3, 4])) []) (fun m => (.s (.seg 1 []) (.cond (.join (Int × jobs_Table) 0 0 (gj (g2 (gI 7) (gO jobs_Table.D [0, 1, 2, 3, 4])) []) (fun st_ s_ ns_ as_ => match (g2 (gP 0) (gA jobs_Table.D [0, 1, 2, 3, 4])) st_ with | some x_ => ([(7, .int .i64 s_.1)] ++ kp [0, 1, 2, 16, 17, 18] st_, ka [5] st_ ++ zipL [0, 1, 2, 3, 4] (jobs_Table.D.flat (x_.1) (x_.2) s_.2)) | none => ([], [])) (.blk (.s (.idx false 5 (.tmp 18) 5) (.s (.seg 2 [.A 5, .X 5 5 0, .X 5 5 1]) (.s (.new 31 []) (.s (.sto 31) (.jg (jobs_Job) 1 0 (gj (gC 34 0 5 jobs_Job.dec) [nPk 34]) (fun st_ s_ ns_ as_ => ([(10, .pointer (some ⟨(nn ns_ 0), 0, none⟩))] ++ kp [0, 1, 2, 7, 9, 16, 17, 18] st_, ka [31, 0, 1, 2, 3, 4, 5] st_ ++ zipL [34] [.blk (nn ns_ 0) 108 [.int .i64 s_.Queue, .int .i64 s_.Time, .int .i64 s_.Data, .int .i64 s_.Item.At, .int .i64 s_.Item.Gen]])) (.drw (.q [0, 1, 2, 3, 4] [.C 0 0, .C 31 0, .C 31 1] (.alt2 5 (.call K70 [.K 1, .K 2, .K 3] [1, 2, 3]) [] (.q [6, 7, 8] [] (.a 9 (.new 35 []) [] (.a 10 (.sto 35) [] (.q [11] [] (.rk [(35, 34), (34, 90034)] .leaf))))) 9 (.new 36 []) [.C 31 0, .C 31 1, .C 0 0] (.a 5 (.call K70 [.K 1, .K 2, .K 3] [1, 2, 3]) [] (.q [6, 7, 8] [] (.a 10 (.sto 36) [] (.q [11] [] (.rk [(36, 34), (34, 90034)] .leaf)))))))) (.s (.seg 4 [.C 34 0]) (.cond (.s (.seg 2 []) (.s (.sto 34) (.drw (.q [0, 1, 2, 3, 4, 5] [.C 0 0, .C 31 0, .C 31 1, .C 34 0, .C 34 1, .C 34 2, .C 34 3, .C 34 4] (.a 6 (.call K188 [.K 1, .K 2, .K 3] [1, 2, 3]) [] (.s (.seg 3 []) .leaf)))))) .leaf)))))))) (.s (.seg 2 []) .back)) .leaf))) (by kernel_rfl) (fun _ _ => rfl) (fun r y h => by cases h) (fun u => rfl) (fun m x v n1 n2 => by kernel_rfl) (fun m x v n1 n2 s => by kernel_rfl) m

theorem S133 (k : Nat) : (C133 k).Sound Tryz.prog :=
  fn_sound mixed (C133 k) (n := 48) (rs := rsOf Tryz.prog 133) [] [0, 1, 2, 3, 4] (gj (g2 (gI 6) (gO jobs_Table.D [0, 1, 2, 3, 4])) []) (fun i => (.s (.seg 1 []) (.s (.seg 1 []) (.s (.seg 4 [.C 0 0]) (.s (.call (K69 k) [.K 1, .K 2, .K 3] [5, 1, 2, 3]) (.s (.seg 2 []) (.loop ⟨(C133l0 i).at (C133l0g k i) k, C133l0s k i k⟩ (gl (g2 (gL 6 5) (g2 (gh 5) (gI 17))) (g2 (gI 7) (g2 (gI 18) (gO jobs_Table.D [0, 1, 2, 3, 4]))) []) (.s (.seg 2 []) .ret)))))))) Tryz.func133 rfl rfl (by kernel_rfl) (fun _ => rfl) (fun i => by kernel_rfl) (fun i s => by kernel_rfl)

noncomputable def K133 (k : Nat) : SCon El Tryz.prog := ⟨C133 k, S133 k, Tryz.call133⟩

noncomputable abbrev C92p : List (PK El) := [pO dispatch_Dispatcher.D]
noncomputable def C92 (k : Nat) : Con El := mkCon 92 C92p (fun i_ => dispatch_Dispatcher_merge k i_.1.2.2) 13 6 (fun i_ t ns_ as_ => .agg #[.int .i64 t.1.Why, .int .i64 t.1.Job.At, .int .i64 t.1.Job.Gen, .int .i64 t.1.Time, .int .i64 t.1.Data, .int .i64 t.1.N]) (fun i_ t ns_ as_ => dispatch_Dispatcher.D.flat i_.1.1 (dispatch_Dispatcher.A.mk i_.1.2.1.q_p (pq_Queues.A.mk (nn ns_ 0) (arena_Arena.A.mk (na as_ 0) (nn ns_ 1) (na as_ 1) (nn ns_ 2) (nn ns_ 3)) (nn ns_ 4) (slots_Table.A.mk (nn ns_ 5) (pool_Pool_slots_heap.A.mk (na as_ 2) (nn ns_ 6) (na as_ 3) (nn ns_ 7)) (nn ns_ 8) (pool_Pool_slots_thing.A.mk (na as_ 4) (nn ns_ 9) (na as_ 5) (nn ns_ 10)) (nn ns_ 11)) (nn ns_ 12)) i_.1.2.1.t__p i_.1.2.1.t__a i_.1.2.1.when_p i_.1.2.1.clock_p) t.2)

theorem S92 (k : Nat) : (C92 k).Sound Tryz.prog :=
  fn_sound mixed (C92 k) (n := 40) (rs := rsOf Tryz.prog 92) [.C 2000 0, .C 2000 1, .C 2000 2, .C 2000 3, .C 2000 4, .C 2000 5] [0, 1, 2, 3, 4, 5, 6, 7, 8, 9, 10, 11, 12, 13, 14, 15, 16, 17, 18, 19, 20, 21] (gj (g2 (gC 2000 0 6 api_Reply.dec) (gO dispatch_Dispatcher.D [0, 1, 2, 3, 4, 5, 6, 7, 8, 9, 10, 11, 12, 13, 14, 15, 16, 17, 18, 19, 20, 21])) [nA dispatch_Dispatcher.D [0, 1, 2, 3, 4, 5, 6, 7, 8, 9, 10, 11, 12, 13, 14, 15, 16, 17, 18, 19, 20, 21] (fun al => ([al.q_a.a__p, al.q_a.a__a.l_c, al.q_a.a__a.free_c, al.q_a.a__a.m__p, al.q_a.t__p, al.q_a.t__a.heaps_p, al.q_a.t__a.heaps_a.l_c, al.q_a.t__a.heaps_a.free_c, al.q_a.t__a.items_p, al.q_a.t__a.items_a.l_c, al.q_a.t__a.items_a.free_c, al.q_a.t__a.at__p, al.q_a.entries_p], [al.q_a.a__a.l_b, al.q_a.a__a.free_b, al.q_a.t__a.heaps_a.l_b, al.q_a.t__a.heaps_a.free_b, al.q_a.t__a.items_a.l_b, al.q_a.t__a.items_a.free_b]))]) (fun i => (.s (.new 22 []) (.drw (.q [0, 1, 2, 3, 4, 5, 6] [.C 0 2] (.s (.gd 4 (.const (.int .i64 0)) 2) (.q [7, 8, 9, 10, 11] [.Q 2, .C 0 3, .C 0 4] (.s (.gd 4 (.const (.int .i64 1)) 3) (.q [12, 13, 14] [.Q 3, .C 0 5, .C 0 6] (.a 15 (.call (K53a k) [.K 1, .K 2, .K 3, .K 4, .K 5, .K 6, .K 7, .K 8, .K 9, .K 10, .K 11, .K 12, .K 13, .K 14] [1, 2, 3, 4, 5, 6, 7, 8, 9, 10, 11, 12, 13, 14]) [] (.drw (.q [0, 1, 2, 3, 4, 5, 6, 7, 8, 9, 12, 13] [.C 0 2, .C 0 0] (.a 10 (.call (K53a k) [.K 1, .K 2, .K 3, .K 4, .K 5, .K 6, .K 7, .K 8, .K 9, .K 10, .K 11, .K 12, .K 13, .K 14] [1, 2, 3, 4, 5, 6, 7, 8, 9, 10, 11, 12, 13, 14]) [] (.q [11] [] (.s (.gd 4 (.const (.int .i64 1)) 5) (.q [14] [.Q 5] (.a 15 (.sto 0) [] (.s (.seg 4 [.C 0 7]) (.s (.call (K133 k) [.K 15, .K 16, .K 17, .K 18, .K 19] [15, 16, 17, 18, 19]) (.s (.seg 1 []) (.s (.sto 22) (.rk [(22, 2000), (2000, 92000)] .ret))))))))))))))))))))) Tryz.func92 rfl rfl (by kernel_rfl) (fun _ => rfl) (fun i => by kernel_rfl) (fun i s => by kernel_rfl)

noncomputable def K92 (k : Nat) : SCon El Tryz.prog := ⟨C92 k, S92 k, Tryz.call92⟩

noncomputable abbrev C93p : List (PK El) := [pO jobs_Table.D, pI .i64]
noncomputable def C93 (k : Nat) : Con El := mkCon 93 C93p (fun i_ => jobs_Table_Count k i_.1.2.2 i_.2.1) 0 0 (fun i_ t ns_ as_ => .int .i64 t) (fun i_ t ns_ as_ => jobs_Table.D.flat i_.1.1 i_.1.2.1 i_.1.2.2)

noncomputable abbrev C93r (k : Nat) (i : Ins C93p) : Kn El → VC (C93 k).T := retC Tryz.prog (C93 k) (rsOf Tryz.prog 93) [] [0, 1, 2, 3, 4] (gj (gI 4) []) i

noncomputable def C93l0 (i_ : Ins C93p) : BCon El (Int) := ⟨nav [1, 1, 0, 1] (bodyOf Tryz.prog 93), (List api_Ref) × (Option Addr × Nat) × Int, Int × Int, Int, Int, fun u => .inr u, fun _ _ => none, fun x_ => [], fun x_ v_ ns_ as_ => [(0, .pointer (some ⟨i_.1.1, 0, none⟩)), (1, .int .i64 i_.2.1), (5, .int .i64 v_.1), (14, .slice (x_.2.1.1) (x_.1).length (x_.2.1.2)), (15, .int .i64 (x_.2.2)), (16, .int .i64 v_.2)], fun x_ v_ ns_ as_ => zipL [0, 1, 2, 3, 4] (jobs_Table.D.flat i_.1.1 i_.1.2.1 i_.1.2.2) ++ zipL [5] [.sl 6 31 (x_.2.1.1) (x_.2.1.2) (x_.1)], 0, 0, fun x_ u_ ns_ as_ => [(5, .int .i64 u_)], fun x_ u_ ns_ as_ => zipL [0, 1, 2, 3, 4] (jobs_Table.D.flat i_.1.1 i_.1.2.1 i_.1.2.2)⟩

noncomputable def C93l0g (k : Nat) (i_ : Ins C93p) : Nat → (C93l0 i_).X → (C93l0 i_).V → Option (C93l0 i_).W := fun m_ (x_ : (List api_Ref) × (Option Addr × Nat) × Int) (v_ : Int × Int) => jobs_Table_Count_l0 i_.2.1 (x_.2.2) i_.1.2.2 (x_.1) m_ v_.1 v_.2

theorem C93l0s (k : Nat) (i : Ins C93p) (m : Nat) : ((C93l0 i).at (C93l0g k i) m).Sound Tryz.prog 93 37 (C93r k i) :=
  loop_sound mixed (C93l0 i) (id := 0) (body := nav [1, 1, 0, 1, 0, 0] (bodyOf Tryz.prog 93)) (C93l0g k i) (fun _ => none) (fun u => u) (gj (g2 (gI 5) (gI 16)) []) (gj (gI 5) []) (fun m => (.s (.seg 1 []) (.cond (.join (Int) 0 0 (gj (gI 5) []) (fun st_ s_ ns_ as_ => ([(5, .int .i64 s_)] ++ kp [0, 1, 14, 15, 16] st_, ka [0, 1, 2, 3, 4, 5] st_)) (.blk (.s (.idx false 5 (.tmp 16) 5) (.s (.seg 2 [.A 5, .X 5 5 0, .X 5 5 1]) (.s (.new 31 []) (.s (.sto 31) (.jg (jobs_Job) 1 0 (gj (gC 34 0 5 jobs_Job.dec) [nPk 34]) (fun st_ s_ ns_ as_ => ([(8, .pointer (some ⟨(nn ns_ 0), 0, none⟩))] ++ kp [0, 1, 5, 14, 15, 16] st_, ka [0, 1, 2, 3, 4, 5] st_ ++ zipL [34] [.blk (nn ns_ 0) 108 [.int .i64 s_.Queue, .int .i64 s_.Time, .int .i64 s_.Data, .int .i64 s_.Item.At, .int .i64 s_.Item.Gen]])) (.drw (.q [0, 1, 2, 3, 4] [.C 0 0, .C 31 0, .C 31 1] (.alt2 5 (.call K70 [.K 1, .K 2, .K 3] [1, 2, 3]) [] (.q [6, 7, 8] [] (.a 9 (.new 35 []) [] (.a 10 (.sto 35) [] (.q [11] [] (.rk [(35, 34), (34, 90034)] .leaf))))) 9 (.new 36 []) [.C 31 0, .C 31 1, .C 0 0] (.a 5 (.call K70 [.K 1, .K 2, .K 3] [1, 2, 3]) [] (.q [6, 7, 8] [] (.a 10 (.sto 36) [] (.q [11] [] (.rk [(36, 34), (34, 90034)] .leaf)))))))) (.s (.seg 4 [.C 34 0]) (.cond (.s (.seg 3 []) .leaf) .leaf)))))))) (.s (.seg 2 []) .back)) .leaf))) (by kernel_rfl) (fun _ _ => rfl) (fun r y h => by cases h) (fun u => rfl) (fun m x v n1 n2 => by kernel_rfl) (fun m x v n1 n2 s => by kernel_rfl) m

theorem S93 (k : Nat) : (C93 k).Sound Tryz.prog :=
  fn_sound mixed (C93 k) (n := 37) (rs := rsOf Tryz.prog 93) [] [0, 1, 2, 3, 4] (gj (gI 4) []) (fun i => (.s (.seg 1 []) (.s (.seg 1 []) (.s (.seg 4 [.C 0 0]) (.s (.call (K69 k) [.K 1, .K 2, .K 3] [5, 1, 2, 3]) (.s (.seg 2 []) (.loop ⟨(C93l0 i).at (C93l0g k i) k, C93l0s k i k⟩ (gl (g2 (gL 6 5) (g2 (gh 5) (gI 15))) (g2 (gI 5) (gI 16)) []) (.s (.seg 2 []) .ret)))))))) Tryz.func93 rfl rfl (by kernel_rfl) (fun _ => rfl) (fun i => by kernel_rfl) (fun i s => by kernel_rfl)

noncomputable def K93 (k : Nat) : SCon El Tryz.prog := ⟨C93 k, S93 k, Tryz.call93⟩

noncomputable abbrev C58p : List (PK El) := [pO dispatch_Dispatcher.D, pV api_Command.dv api_Command.val]
noncomputable def C58 (k : Nat) : Con El := mkCon 58 C58p (fun i_ => dispatch_Dispatcher_one k i_.1.2.2 i_.2.1) 17 8 (fun i_ t ns_ as_ => .agg #[.int .i64 t.1.Why, .int .i64 t.1.Job.At, .int .i64 t.1.Job.Gen, .int .i64 t.1.Time, .int .i64 t.1.Data, .int .i64 t.1.N]) (fun i_ t ns_ as_ => dispatch_Dispatcher.D.flat i_.1.1 (dispatch_Dispatcher.A.mk i_.1.2.1.q_p (pq_Queues.A.mk (nn ns_ 0) (arena_Arena.A.mk (na as_ 0) (nn ns_ 1) (na as_ 1) (nn ns_ 2) (nn ns_ 3)) (nn ns_ 4) (slots_Table.A.mk (nn ns_ 5) (pool_Pool_slots_heap.A.mk (na as_ 2) (nn ns_ 6) (na as_ 3) (nn ns_ 7)) (nn ns_ 8) (pool_Pool_slots_thing.A.mk (na as_ 4) (nn ns_ 9) (na as_ 5) (nn ns_ 10)) (nn ns_ 11)) (nn ns_ 12)) i_.1.2.1.t__p (jobs_Table.A.mk (nn ns_ 13) (pool_Pool_jobs_Job.A.mk (na as_ 6) (nn ns_ 14) (na as_ 7) (nn ns_ 15)) (nn ns_ 16)) i_.1.2.1.when_p i_.1.2.1.clock_p) t.2)

theorem S58 (k : Nat) : (C58 k).Sound Tryz.prog :=
  fn_sound mixed (C58 k) (n := 87) (rs := rsOf Tryz.prog 58) [.C 2000 0, .C 2000 1, .C 2000 2, .C 2000 3, .C 2000 4, .C 2000 5] [0, 1, 2, 3, 4, 5, 6, 7, 8, 9, 10, 11, 12, 13, 14, 15, 16, 17, 18, 19, 20, 21] (gj (g2 (gC 2000 0 6 api_Reply.dec) (gO dispatch_Dispatcher.D [0, 1, 2, 3, 4, 5, 6, 7, 8, 9, 10, 11, 12, 13, 14, 15, 16, 17, 18, 19, 20, 21])) [nA dispatch_Dispatcher.D [0, 1, 2, 3, 4, 5, 6, 7, 8, 9, 10, 11, 12, 13, 14, 15, 16, 17, 18, 19, 20, 21] (fun al => ([al.q_a.a__p, al.q_a.a__a.l_c, al.q_a.a__a.free_c, al.q_a.a__a.m__p, al.q_a.t__p, al.q_a.t__a.heaps_p, al.q_a.t__a.heaps_a.l_c, al.q_a.t__a.heaps_a.free_c, al.q_a.t__a.items_p, al.q_a.t__a.items_a.l_c, al.q_a.t__a.items_a.free_c, al.q_a.t__a.at__p, al.q_a.entries_p, al.t__a.p_p, al.t__a.p_a.l_c, al.t__a.p_a.free_c, al.t__a.by__p], [al.q_a.a__a.l_b, al.q_a.a__a.free_b, al.q_a.t__a.heaps_a.l_b, al.q_a.t__a.heaps_a.free_b, al.q_a.t__a.items_a.l_b, al.q_a.t__a.items_a.free_b, al.t__a.p_a.l_b, al.t__a.p_a.free_b]))]) (fun i => (.s (.new 22 []) (.s (.new 23 []) (.s (.seg 4 [.C 22 1]) (.pj 10 (Bool) mB (gB 5) (fun st s_ => ([(5, .bool s_)] ++ kp [0, 3, 4] st, ka [23, 22, 0, 1, 2, 3, 4, 5, 6, 7, 8, 9, 10, 11, 12, 13, 14, 15, 16, 17, 18, 19, 20, 21] st)) (.s (.seg 5 [.C 22 1]) .leaf) (.s (.seg 5 []) .leaf) (.s (.seg 2 [.C 22 0]) (.joinR (Unit) 0 0 (gj gU []) (fun st_ s_ ns_ as_ => ([] ++ kp [0, 3, 4] st_, ka [23, 22, 0, 1, 2, 3, 4, 5, 6, 7, 8, 9, 10, 11, 12, 13, 14, 15, 16, 17, 18, 19, 20, 21] st_)) (.blk (.s (.seg 2 []) (.join (Bool) 0 0 (gj (gB 17) []) (fun st_ s_ ns_ as_ => ([(17, .bool s_)] ++ kp [0, 3, 4, 5] st_, ka [23, 22, 0, 1, 2, 3, 4, 5, 6, 7, 8, 9, 10, 11, 12, 13, 14, 15, 16, 17, 18, 19, 20, 21] st_)) (.cond .leaf (.s (.seg 2 []) (.cond .leaf (.s (.seg 2 []) (.cond .leaf (.s (.seg 2 []) .leaf)))))) (.cond (.s (.seg 2 []) (.cond (.s (.call K59 [] []) (.s (.sto 23) (.rk [(23, 2000), (2000, 92000)] .ret))) .leaf)) .leaf)))) (.s (.seg 2 [.C 22 0]) (.blk (.s (.seg 2 []) (.cond (.s (.seg 2 [.C 22 0, .C 22 1, .C 22 2, .C 22 3, .C 22 4, .C 22 5]) (.s (.call (K87 k) [.K 0, .K 1, .K 2, .K 3, .K 4, .K 5, .K 6, .K 7, .K 8, .K 9, .K 10, .K 11, .K 12, .K 13, .K 14, .K 15, .K 16, .K 17, .K 18, .K 19, .K 20, .K 21] [0, 1, 2, 3, 4, 5, 6, 7, 8, 9, 10, 11, 12, 13, 14, 15, 16, 17, 18, 19, 20, 21]) (.s (.sto 23) (.rk [(23, 2000), (2000, 92000)] .ret)))) (.s (.seg 2 []) (.cond (.s (.seg 2 [.C 22 0, .C 22 1, .C 22 2, .C 22 3, .C 22 4, .C 22 5]) (.s (.call (K88 k) [.K 0, .K 1, .K 2, .K 3, .K 4, .K 5, .K 6, .K 7, .K 8, .K 9, .K 10, .K 11, .K 12, .K 13, .K 14, .K 15, .K 16, .K 17, .K 18, .K 19, .K 20, .K 21] [0, 1, 2, 3, 4, 5, 6, 7, 8, 9, 10, 11, 12, 13, 14, 15, 16, 17, 18, 19, 20, 21]) (.s (.sto 23) (.rk [(23, 2000), (2000, 92000)] .ret)))) (.s (.seg 2 []) (.cond (.s (.seg 3 [.C 22 2, .C 22 3]) (.s (.call (K89 k) [.K 0, .K 1, .K 2, .K 3, .K 4, .K 5, .K 6, .K 7, .K 8, .K 9, .K 10, .K 11, .K 12, .K 13, .K 14, .K 15, .K 16, .K 17, .K 18, .K 19, .K 20, .K 21] [0, 1, 2, 3, 4, 5, 6, 7, 8, 9, 10, 11, 12, 13, 14, 15, 16, 17, 18, 19, 20, 21]) (.s (.sto 23) (.rk [(23, 2000), (2000, 92000)] .ret)))) (.s (.seg 2 []) (.cond (.drw (.q [0, 1, 2, 3, 4, 5] [.C 0 9, .C 22 4] (.a 6 (.call K90 [.K 21] [21]) [] (.q [7] [] (.s (.seg 2 []) (.cond (.s (.seg 1 []) (.s (.call K59 [] []) (.s (.sto 23) (.rk [(23, 2000), (2000, 92000)] .ret)))) (.s (.seg 4 [.C 0 9]) (.s (.call K68 [.K 21] [21]) (.s (.seg 1 []) (.s (.sto 23) (.rk [(23, 2000), (2000, 92000)] .ret))))))))))) (.s (.seg 2 []) (.cond (.s (.seg 3 [.C 22 1]) (.s (.call (K91 k) [.K 0, .K 1, .K 2, .K 3, .K 4, .K 5, .K 6, .K 7, .K 8, .K 9, .K 10, .K 11, .K 12, .K 13, .K 14, .K 15, .K 16, .K 17, .K 18, .K 19, .K 20, .K 21] [0, 1, 2, 3, 4, 5, 6, 7, 8, 9, 10, 11, 12, 13, 14, 15, 16, 17, 18, 19, 20, 21]) (.s (.sto 23) (.rk [(23, 2000), (2000, 92000)] .ret)))) (.s (.seg 2 []) (.cond (.s (.seg 3 [.C 22 1]) (.cond (.s (.call K59 [] []) (.s (.sto 23) (.rk [(23, 2000), (2000, 92000)] .ret))) (.s (.seg 1 []) (.s (.call (K92 k) [.K 0, .K 1, .K 2, .K 3, .K 4, .K 5, .K 6, .K 7, .K 8, .K 9, .K 10, .K 11, .K 12, .K 13, .K 14, .K 15, .K 16, .K 17, .K 18, .K 19, .K 20, .K 21] [0, 1, 2, 3, 4, 5, 6, 7, 8, 9, 10, 11, 12, 13, 14, 15, 16, 17, 18, 19, 20, 21]) (.s (.sto 23) (.rk [(23, 2000), (2000, 92000)] .ret)))))) (.s (.seg 2 []) (.cond (.drw (.q [0, 1, 2, 3, 4, 5] [.C 0 7, .C 22 1] (.a 6 (.call (K93 k) [.K 15, .K 16, .K 17, .K 18, .K 19] [15, 16, 17, 18, 19]) [] (.q [7] [] (.a 8 (.sto 23) [] (.rk [(23, 2000), (2000, 92000)] .ret)))))) (.s (.call K59 [] []) (.s (.sto 23) (.rk [(23, 2000), (2000, 92000)] .ret)))))))))))))))))))))))))) Tryz.func58 rfl rfl (by kernel_rfl) (fun _ => rfl) (fun i => by kernel_rfl) (fun i s => by kernel_rfl)

noncomputable def K58 (k : Nat) : SCon El Tryz.prog := ⟨C58 k, S58 k, Tryz.call58⟩

noncomputable abbrev C32p : List (PK El) := [pO dispatch_Dispatcher.D, pV api_Command.dv api_Command.val]
noncomputable def C32 (k : Nat) : Con El := mkCon 32 C32p (fun i_ => dispatch_Dispatcher_Do k i_.1.2.2 i_.2.1) 17 8 (fun i_ t ns_ as_ => .agg #[.int .i64 t.1.Why, .int .i64 t.1.Job.At, .int .i64 t.1.Job.Gen, .int .i64 t.1.Time, .int .i64 t.1.Data, .int .i64 t.1.N]) (fun i_ t ns_ as_ => dispatch_Dispatcher.D.flat i_.1.1 (dispatch_Dispatcher.A.mk i_.1.2.1.q_p (pq_Queues.A.mk (nn ns_ 0) (arena_Arena.A.mk (na as_ 0) (nn ns_ 1) (na as_ 1) (nn ns_ 2) (nn ns_ 3)) (nn ns_ 4) (slots_Table.A.mk (nn ns_ 5) (pool_Pool_slots_heap.A.mk (na as_ 2) (nn ns_ 6) (na as_ 3) (nn ns_ 7)) (nn ns_ 8) (pool_Pool_slots_thing.A.mk (na as_ 4) (nn ns_ 9) (na as_ 5) (nn ns_ 10)) (nn ns_ 11)) (nn ns_ 12)) i_.1.2.1.t__p (jobs_Table.A.mk (nn ns_ 13) (pool_Pool_jobs_Job.A.mk (na as_ 6) (nn ns_ 14) (na as_ 7) (nn ns_ 15)) (nn ns_ 16)) i_.1.2.1.when_p i_.1.2.1.clock_p) t.2)

theorem S32 (k : Nat) : (C32 k).Sound Tryz.prog :=
  fn_sound mixed (C32 k) (n := 48) (rs := rsOf Tryz.prog 32) [.C 2000 0, .C 2000 1, .C 2000 2, .C 2000 3, .C 2000 4, .C 2000 5] [0, 1, 2, 3, 4, 5, 6, 7, 8, 9, 10, 11, 12, 13, 14, 15, 16, 17, 18, 19, 20, 21] (gj (g2 (gC 2000 0 6 api_Reply.dec) (gO dispatch_Dispatcher.D [0, 1, 2, 3, 4, 5, 6, 7, 8, 9, 10, 11, 12, 13, 14, 15, 16, 17, 18, 19, 20, 21])) [nA dispatch_Dispatcher.D [0, 1, 2, 3, 4, 5, 6, 7, 8, 9, 10, 11, 12, 13, 14, 15, 16, 17, 18, 19, 20, 21] (fun al => ([al.q_a.a__p, al.q_a.a__a.l_c, al.q_a.a__a.free_c, al.q_a.a__a.m__p, al.q_a.t__p, al.q_a.t__a.heaps_p, al.q_a.t__a.heaps_a.l_c, al.q_a.t__a.heaps_a.free_c, al.q_a.t__a.items_p, al.q_a.t__a.items_a.l_c, al.q_a.t__a.items_a.free_c, al.q_a.t__a.at__p, al.q_a.entries_p, al.t__a.p_p, al.t__a.p_a.l_c, al.t__a.p_a.free_c, al.t__a.by__p], [al.q_a.a__a.l_b, al.q_a.a__a.free_b, al.q_a.t__a.heaps_a.l_b, al.q_a.t__a.heaps_a.free_b, al.q_a.t__a.items_a.l_b, al.q_a.t__a.items_a.free_b, al.t__a.p_a.l_b, al.t__a.p_a.free_b]))]) (fun i => (.s (.new 22 []) (.s (.new 23 []) (.s (.seg 4 [.C 0 2]) (.s (.call K57 [.K 1, .K 2, .K 3, .K 4, .K 5, .K 6, .K 7, .K 8, .K 9, .K 10, .K 11, .K 12, .K 13, .K 14] [1, 2, 3, 4, 5, 6, 7, 8, 9, 10, 11, 12, 13, 14]) (.s (.seg 1 []) (.s (.seg 2 [.C 22 0, .C 22 1, .C 22 2, .C 22 3, .C 22 4, .C 22 5]) (.s (.call (K58 k) [.K 0, .K 1, .K 2, .K 3, .K 4, .K 5, .K 6, .K 7, .K 8, .K 9, .K 10, .K 11, .K 12, .K 13, .K 14, .K 15, .K 16, .K 17, .K 18, .K 19, .K 20, .K 21] [0, 1, 2, 3, 4, 5, 6, 7, 8, 9, 10, 11, 12, 13, 14, 15, 16, 17, 18, 19, 20, 21]) (.s (.new 24 []) (.s (.sto 24) (.s (.seg 5 [.C 0 2]) (.s (.call K57 [.K 1, .K 2, .K 3, .K 4, .K 5, .K 6, .K 7, .K 8, .K 9, .K 10, .K 11, .K 12, .K 13, .K 14] [1, 2, 3, 4, 5, 6, 7, 8, 9, 10, 11, 12, 13, 14]) (.s (.seg 4 []) (.s (.sto 0) (.drw (.q [0, 1, 2, 3, 4, 5, 6, 7, 8, 9, 10, 11] [.C 0 12, .C 0 11] (.a 12 (.sto 0) [] (.drw (.q [0, 1, 2, 3, 4, 5, 6, 7, 8] [.C 0 11, .C 0 10] (.cond (.s (.call K59 [] []) (.s (.sto 23) (.rk [(23, 2000), (2000, 92000)] .ret))) (.s (.seg 1 [.C 24 0, .C 24 1, .C 24 2, .C 24 3, .C 24 4, .C 24 5]) (.s (.sto 23) (.rk [(23, 2000), (2000, 92000)] .ret))))))))))))))))))))))) Tryz.func32 rfl rfl (by kernel_rfl) (fun _ => rfl) (fun i => by kernel_rfl) (fun i s => by kernel_rfl)

noncomputable def K32 (k : Nat) : SCon El Tryz.prog := ⟨C32 k, S32 k, Tryz.call32⟩

theorem dispatch_Dispatcher_Do_ok {w0 w : World} {As : List HP} {k : Nat} {p_d : Nat} {al_d : dispatch_Dispatcher.A} {d : dispatch_Dispatcher} {c_ : api_Command} {t : api_Reply × dispatch_Dispatcher}  (hm : dispatch_Dispatcher_Do k d c_ = some t) (H : St w0 (dispatch_Dispatcher.R p_d al_d d :: As) w) :
    CallsR Tryz.prog 32 #[.pointer (some ⟨p_d, 0, none⟩), .agg #[.int .i64 c_.Kind, .int .i64 c_.Queue, .int .i64 c_.Job.At, .int .i64 c_.Job.Gen, .int .i64 c_.Time, .int .i64 c_.Data]] w fun v w' => ∃ (z_d_q_a : pq_Queues.A), ∃ (z_d_t__a : jobs_Table.A), v = .agg #[.int .i64 t.1.Why, .int .i64 t.1.Job.At, .int .i64 t.1.Job.Gen, .int .i64 t.1.Time, .int .i64 t.1.Data, .int .i64 t.1.N] ∧ St w0 (dispatch_Dispatcher.R p_d (dispatch_Dispatcher.A.mk al_d.q_p z_d_q_a al_d.t__p z_d_t__a al_d.when_p al_d.clock_p) t.2 :: As) w' := by
  replace H := (fs0 fun As => dispatch_Dispatcher.D_st).1 H
  refine (S32 k ((p_d, al_d, d), c_, ()) t hm w0 w (As) rd0 H).mono ?_
  rintro v w' ⟨ns, as_, hn, ha, hv, H, hfx⟩
  obtain ⟨n0, ns0, rfl, hn0⟩ := lsS hn
  obtain ⟨n1, ns1, rfl, hn1⟩ := lsS hn0
  obtain ⟨n2, ns2, rfl, hn2⟩ := lsS hn1
  obtain ⟨n3, ns3, rfl, hn3⟩ := lsS hn2
  obtain ⟨n4, ns4, rfl, hn4⟩ := lsS hn3
  obtain ⟨n5, ns5, rfl, hn5⟩ := lsS hn4
  obtain ⟨n6, ns6, rfl, hn6⟩ := lsS hn5
  obtain ⟨n7, ns7, rfl, hn7⟩ := lsS hn6
  obtain ⟨n8, ns8, rfl, hn8⟩ := lsS hn7
  obtain ⟨n9, ns9, rfl, hn9⟩ := lsS hn8
  obtain ⟨n10, ns10, rfl, hn10⟩ := lsS hn9
  obtain ⟨n11, ns11, rfl, hn11⟩ := lsS hn10
  obtain ⟨n12, ns12, rfl, hn12⟩ := lsS hn11
  obtain ⟨n13, ns13, rfl, hn13⟩ := lsS hn12
  obtain ⟨n14, ns14, rfl, hn14⟩ := lsS hn13
  obtain ⟨n15, ns15, rfl, hn15⟩ := lsS hn14
  obtain ⟨n16, ns16, rfl, hn16⟩ := lsS hn15
  obtain rfl := ls0 hn16
  obtain ⟨a0, as0, rfl, ha0⟩ := lsS ha
  obtain ⟨a1, as1, rfl, ha1⟩ := lsS ha0
  obtain ⟨a2, as2, rfl, ha2⟩ := lsS ha1
  obtain ⟨a3, as3, rfl, ha3⟩ := lsS ha2
  obtain ⟨a4, as4, rfl, ha4⟩ := lsS ha3
  obtain ⟨a5, as5, rfl, ha5⟩ := lsS ha4
  obtain ⟨a6, as6, rfl, ha6⟩ := lsS ha5
  obtain ⟨a7, as7, rfl, ha7⟩ := lsS ha6
  obtain rfl := ls0 ha7
  refine ⟨(pq_Queues.A.mk n0 (arena_Arena.A.mk a0 n1 a1 n2 n3) n4 (slots_Table.A.mk n5 (pool_Pool_slots_heap.A.mk a2 n6 a3 n7) n8 (pool_Pool_slots_thing.A.mk a4 n9 a5 n10) n11) n12), (jobs_Table.A.mk n13 (pool_Pool_jobs_Job.A.mk a6 n14 a7 n15) n16), hv, ?_⟩
  refine (fs0 fun As => dispatch_Dispatcher.D_st).2 ?_
  exact H

end Go.Proofs.YtgchbhnchhiehaaGreat
