import Derived.Test.YteflmnbkdhneiaaGreatDp1
set_option linter.unusedVariables false
set_option linter.unusedSimpArgs false
set_option maxRecDepth 10000
set_option maxHeartbeats 4000000
namespace Go.Proofs.YteflmnbkdhneiaaGreat
open Go.Th

theorem skew_without_ok {w0 w : World} {As : List HP} {k : Nat} {p_a_ : Nat} {al_a_ : arena_Arena.A} {a_ : arena_Arena} {sb_l : Option Addr} {sc_l : Nat} {l : List Int} {n : Int} {t : Int × Int × arena_Arena}  (hm : skew_without k a_ l n = some t) (H : St w0 (arena_Arena.R p_a_ al_a_ a_ :: Sl 3 ecI 1 sb_l sc_l l :: As) w) :
    CallsR Tryz.prog 221 #[.pointer (some ⟨p_a_, 0, none⟩), .slice sb_l l.length sc_l, .int .i64 n] w fun v w' => ∃ (z_a__free_b : Option Addr), ∃ (z_a__free_c : Nat), v = .tuple #[.int .i64 t.1, .int .i64 t.2.1] ∧ St w0 (arena_Arena.R p_a_ (arena_Arena.A.mk al_a_.l_b al_a_.l_c z_a__free_b z_a__free_c al_a_.m__p) t.2.2 :: As) w' := by
 rw [skew_without] at hm
 refine enter (args := [.pointer (some ⟨p_a_, 0, none⟩), .slice sb_l l.length sc_l, .int .i64 n]) Tryz.func221 rfl rfl rfl fun a hE => ?_
 refine Runs.sr ?_
 refine WR.eff hE rfl rfl rfl rfl (OpTo.new hE H [] (.cells #[.int .i64 n] 3 (0, 0)) (fun r => .pointer (some ⟨r, 0, none⟩)) (obs := []) rfl (fun _ => by kernel_rfl) trivial) ?_
 rintro _ w ⟨r, rfl, H⟩ a hE
 refine WR.seg hE 3 [] [0, 1, 5] (Lo := [(0, .pointer (some ⟨p_a_, 0, none⟩)), (1, .slice sb_l l.length sc_l), (5, .pointer (some ⟨r, 0, none⟩))]) (obs := []) rfl (by kernel_rfl) trivial fun a hE => ?_
 refine WR.done rfl ?_
 refine Runs.sr ?_
 refine WR.d0 hE 2 [(16, .slice sb_l l.length sc_l), (17, .func (.func 255) #[] #[.pointer (some ⟨r, 0, none⟩)])] fun a hE => ?_
 obtain ⟨t_, et_, hm⟩ := bind_some hm
 refine WR.eff hE rfl rfl rfl rfl (OpTo.fn hE rfl rfl Tryz.call252 (slices_DeleteFunc_int_g255_ok et_ H.t2)) ?_
 rintro _ w ⟨sb, sc, rfl, H⟩ a hE
 refine WR.e0 hE [(8, .slice sb t_.length sc)] fun a hE => ?_
 refine Runs.sr ?_
 refine WR.e0 hE [(9, .slice none 0 0)] fun a hE => ?_
 refine Runs.seq ?_
 refine Runs.sr ?_
 refine WR.d hE 2 [.int .i64 n] [(19, .pointer (some ⟨p_a_, 0, none⟩)), (20, .int .i64 n)] (obs := [.cell ⟨r, 0, none⟩ (.int .i64 n)]) ⟨H.cell 1 rfl rfl, trivial⟩ fun a hE => ?_
 obtain ⟨t_1, et_1, hm⟩ := bind_some hm
 refine WR.eff hE rfl rfl rfl rfl (OpTo.fn hE rfl rfl Tryz.call254 (trees_Kids_ok et_1 H.t2)) ?_
 rintro _ w ⟨sb1, sc1, rfl, H⟩ a hE
 refine WR.e0 hE [(22, .int .i64 (t_1.1.length : Int)), (23, .int .i64 0)] fun a hE => ?_
 obtain ⟨s, es, hm⟩ := bind_some hm
 refine Runs.join (fun a w => ∃ (sb4 : Option Addr), ∃ (sc4 : Nat), ∃ (sb5 : Option Addr), ∃ (sc5 : Nat), EnvOk 59 a [(0, .pointer (some ⟨p_a_, 0, none⟩)), (5, .pointer (some ⟨r, 0, none⟩)), (8, .slice sb4 s.1.length sc4), (9, .slice sb5 s.2.1.length sc5)] ∧ St w0 (Sl 3 ecI 1 sb4 sc4 s.1 :: Sl 3 ecI 1 sb5 sc5 s.2.1 :: arena_Arena.R p_a_ al_a_ s.2.2 :: Blk r 3 [.int .i64 n] :: As) w) (fun hk => ?_) ?_
 ·replace hm := es; clear es
  replace H := H.slNil 3 ecI 1
  refine Runs.block ?_
  refine Runs.loop (fun m a w => ∃ (rest : List Int), ∃ (alone : List Int), ∃ (x : Int), ∃ (m_ : arena_Arena), ∃ (sb6 : Option Addr), ∃ (sc6 : Nat), ∃ (sb7 : Option Addr), ∃ (sc7 : Nat), EnvOk 59 a [(0, .pointer (some ⟨p_a_, 0, none⟩)), (5, .pointer (some ⟨r, 0, none⟩)), (8, .slice sb6 rest.length sc6), (9, .slice sb7 alone.length sc7), (21, .slice sb1 t_1.1.length sc1), (22, .int .i64 (t_1.1.length : Int)), (23, .int .i64 x)] ∧ St w0 (Sl 3 ecI 1 sb6 sc6 rest :: Sl 3 ecI 1 sb7 sc7 alone :: Sl 3 ecI 1 sb1 sc1 t_1.1 :: arena_Arena.R p_a_ al_a_ m_ :: Blk r 3 [.int .i64 n] :: As) w ∧ skew_without_l0 (t_1.1.length : Int) t_1.1 n m rest alone x m_ = some s) k ⟨t_, ([] : List Int), 0, t_1.2, sb, sc, none, 0, hE.sel [0, 5, 8, 9, 21, 22, 23] (by kernel_rfl), H.t4.t3.t3.t3.t4, hm⟩ ?_
  rintro m ih a w ⟨rest, alone, x, m_, sb6, sc6, sb7, sc7, hE, H, hm⟩
  cases m with
  | zero => simp [skew_without_l0] at hm
  | succ m =>
   rw [skew_without_l0] at hm
   refine Runs.sr ?_
   refine WR.seg hE 1 [] [0, 5, 8, 9, 21, 22, 23, 24] (Lo := [(0, .pointer (some ⟨p_a_, 0, none⟩)), (5, .pointer (some ⟨r, 0, none⟩)), (8, .slice sb6 rest.length sc6), (9, .slice sb7 alone.length sc7), (21, .slice sb1 t_1.1.length sc1), (22, .int .i64 (t_1.1.length : Int)), (23, .int .i64 x), (24, .bool (decide (x < (t_1.1.length : Int))))]) (obs := []) rfl (by kernel_rfl) trivial fun a hE => ?_
   refine WR.done rfl ?_
   refine Runs.seq ?_
   refine Runs.cond hE rfl (fun c => ?_) (fun c => ?_)
   ·replace hm := cond_t c hm
    refine Runs.skip ?_
    refine Runs.seq ?_
    obtain ⟨s1, es1, hm⟩ := bind_some hm
    refine Runs.join (fun a w => ∃ (sb8 : Option Addr), ∃ (sc8 : Nat), ∃ (sb9 : Option Addr), ∃ (sc9 : Nat), EnvOk 59 a [(0, .pointer (some ⟨p_a_, 0, none⟩)), (5, .pointer (some ⟨r, 0, none⟩)), (8, .slice sb8 s1.1.length sc8), (9, .slice sb9 s1.2.1.length sc9), (21, .slice sb1 t_1.1.length sc1), (22, .int .i64 (t_1.1.length : Int)), (23, .int .i64 x)] ∧ St w0 (Sl 3 ecI 1 sb8 sc8 s1.1 :: Sl 3 ecI 1 sb9 sc9 s1.2.1 :: Sl 3 ecI 1 sb1 sc1 t_1.1 :: arena_Arena.R p_a_ al_a_ s1.2.2 :: Blk r 3 [.int .i64 n] :: As) w) (fun hk => ?_) ?_
    ·replace hm := es1; clear es1
     refine Runs.block ?_
     refine Runs.sr ?_
     obtain ⟨x2, ex2, hm⟩ := bind_some hm
     obtain ⟨b, o, hs, hb⟩ := SlRd.base (sl_rd 3 ecI 1 _ _ _) ecI_ok H 2 rfl ex2
     refine WR.e hE [.pointer (some ⟨b, o, none⟩), .int .i64 x2] [(11, .int .i64 x2)] (obs := [.p ((sb1 : Option Addr) = some ⟨b, o, none⟩), .p (0 ≤ (x : Int) ∧ (x : Int) < ((t_1.1.length : Nat) : Int)), .cell ⟨b, o + (Int.toNat x) * 1, none⟩ (.int .i64 x2)]) ⟨hs, hb, SlRd.cells (sl_rd 3 ecI 1 _ _ _) ecI_ok H 2 rfl hs ex2 0 _ rfl, trivial⟩ fun a hE => ?_
     refine Runs.sr ?_
     refine WR.d0 hE 2 [(27, .pointer (some ⟨p_a_, 0, none⟩)), (28, .int .i64 x2)] fun a hE => ?_
     obtain ⟨t_2, et_2, hm⟩ := bind_some hm
     refine WR.eff hE rfl rfl rfl rfl (OpTo.fn hE rfl rfl Tryz.call174 (arena_Arena_Get_ok et_2 H.t3)) ?_
     rintro _ w ⟨rfl, H⟩ a hE
     refine WR.e0 hE [(30, .bool (t_2.1 == 0))] fun a hE => ?_
     refine Runs.cond hE rfl (fun c => ?_) (fun c => ?_)
     ·replace hm := cond_t c hm
      refine Runs.region ?_
      refine WR.d0 hE 2 [(31, .slice sb7 alone.length sc7), (32, .int .i64 x2)] fun a hE => ?_
      refine WR.eff hE rfl rfl rfl rfl (OpTo.buildSl (T := 3) hE H ecI_ok ([x2] : List Int) rfl (fun _ => by kernel_rfl) rfl rfl rfl) ?_
      rintro _ w ⟨r1, rfl, H⟩ a hE
      obtain ⟨l2, el2, hm⟩ := bind_some hm
      replace H := H.t3
      refine WR.eff hE rfl rfl rfl rfl (OpTo.appendM el2 hE H ecI_ok rfl rfl rfl rfl rfl rfl rfl rfl rfl rfl (SlRd.all (sl_rd 3 ecI 1 _ _ _) ecI_ok H 1 rfl) rfl) ?_
      rintro _ w ⟨sb10, sc10, rfl, H⟩ a hE
      refine WR.e0 hE [(9, .slice sb10 l2.length sc10)] fun a hE => ?_
      refine Runs.inBlock ?_
      cases hm
      exact hk _ _ ⟨sb6, sc6, sb10, sc10, hE.sel [0, 5, 8, 9, 21, 22, 23] (by kernel_rfl), H.x1.t4.t2.t4.t3.t4⟩
     ·replace hm := cond_f c hm
      refine Runs.region ?_
      refine WR.d0 hE 2 [(35, .slice sb6 rest.length sc6), (36, .int .i64 x2)] fun a hE => ?_
      refine WR.eff hE rfl rfl rfl rfl (OpTo.buildSl (T := 3) hE H ecI_ok ([x2] : List Int) rfl (fun _ => by kernel_rfl) rfl rfl rfl) ?_
      rintro _ w ⟨r2, rfl, H⟩ a hE
      obtain ⟨l3, el3, hm⟩ := bind_some hm
      replace H := H.t2
      refine WR.eff hE rfl rfl rfl rfl (OpTo.appendM el3 hE H ecI_ok rfl rfl rfl rfl rfl rfl rfl rfl rfl rfl (SlRd.all (sl_rd 3 ecI 1 _ _ _) ecI_ok H 1 rfl) rfl) ?_
      rintro _ w ⟨sb11, sc11, rfl, H⟩ a hE
      refine WR.e0 hE [(8, .slice sb11 l3.length sc11)] fun a hE => ?_
      refine Runs.inBlock ?_
      cases hm
      exact hk _ _ ⟨sb11, sc11, sb7, sc7, hE.sel [0, 5, 8, 9, 21, 22, 23] (by kernel_rfl), H.x1.t4.t2.t4.t4.t4⟩
    rintro a w ⟨sb8, sc8, sb9, sc9, hE, H⟩
    refine Runs.region ?_
    refine WR.seg hE 2 [] [0, 5, 8, 9, 21, 22, 23] (Lo := [(0, .pointer (some ⟨p_a_, 0, none⟩)), (5, .pointer (some ⟨r, 0, none⟩)), (8, .slice sb8 s1.1.length sc8), (9, .slice sb9 s1.2.1.length sc9), (21, .slice sb1 t_1.1.length sc1), (22, .int .i64 (t_1.1.length : Int)), (23, .int .i64 (w64 (x + 1)))]) (obs := []) rfl (by kernel_rfl) trivial fun a hE => ?_
    refine WR.done rfl ?_
    exact ih m (Nat.lt_succ_self m) _ _ ⟨s1.1, s1.2.1, w64 (x + 1), s1.2.2, sb8, sc8, sb9, sc9, hE.sel [0, 5, 8, 9, 21, 22, 23] (by kernel_rfl), H.t4.t4.t4.t4.t4, hm⟩
   ·replace hm := cond_f c hm
    refine Runs.exit rfl ?_
    cases hm
    exact hk _ _ ⟨sb6, sc6, sb7, sc7, hE.sel [0, 5, 8, 9] (by kernel_rfl), H.x2.t3.t3.t3.t3⟩
 rintro a w ⟨sb4, sc4, sb5, sc5, hE, H⟩
 refine Runs.sr ?_
 refine WR.seg hE 2 [.int .i64 n] [0, 8, 9, 40, 41] (Lo := [(0, .pointer (some ⟨p_a_, 0, none⟩)), (8, .slice sb4 s.1.length sc4), (9, .slice sb5 s.2.1.length sc5), (40, .pointer (some ⟨p_a_, 0, none⟩)), (41, .int .i64 n)]) (obs := [.cell ⟨r, 0, none⟩ (.int .i64 n)]) rfl (by kernel_rfl) ⟨H.cell 3 rfl rfl, trivial⟩ fun a hE => ?_
 obtain ⟨t_3, et_3, hm⟩ := bind_some hm
 refine WR.eff hE rfl rfl rfl rfl (OpTo.fn hE rfl rfl Tryz.call219 (node_End_ok et_3 H.t2)) ?_
 rintro _ w ⟨z, z1, rfl, H⟩ a hE
 refine WR.e0 hE [(12, .int .i64 t_3.1)] fun a hE => ?_
 refine Runs.sr ?_
 refine WR.d0 hE 2 [(43, .pointer (some ⟨p_a_, 0, none⟩)), (44, .slice sb4 s.1.length sc4)] fun a hE => ?_
 obtain ⟨t_4, et_4, hm⟩ := bind_some hm
 replace H := H.t1.t1
 refine WR.eff hE rfl rfl rfl rfl (OpTo.fn hE rfl rfl Tryz.call208 (trees_Carry_ok (hX_l := (sl_rd 3 ecI 1 _ _ _)) (hC_l := (H.slCap 1 rfl).1) et_4 H)) ?_
 rintro _ w ⟨rfl, H⟩ a hE
 refine WR.e0 hE [(13, .int .i64 t_4.1)] fun a hE => ?_
 refine Runs.seq ?_
 refine Runs.sr ?_
 refine WR.e0 hE [(46, .slice sb5 s.2.1.length sc5), (47, .int .i64 (s.2.1.length : Int)), (48, .int .i64 0)] fun a hE => ?_
 obtain ⟨s2, es2, hm⟩ := bind_some hm
 refine Runs.join (fun a w => EnvOk 59 a [(12, .int .i64 t_3.1), (13, .int .i64 s2.1)] ∧ St w0 (arena_Arena.R p_a_ (arena_Arena.A.mk al_a_.l_b al_a_.l_c z z1 al_a_.m__p) s2.2 :: As) w) (fun hk => ?_) ?_
 ·replace hm := es2; clear es2
  refine Runs.block ?_
  refine Runs.loop (fun m a w => ∃ (r3 : Int), ∃ (x3 : Int), ∃ (m_1 : arena_Arena), EnvOk 59 a [(0, .pointer (some ⟨p_a_, 0, none⟩)), (12, .int .i64 t_3.1), (13, .int .i64 r3), (46, .slice sb5 s.2.1.length sc5), (47, .int .i64 (s.2.1.length : Int)), (48, .int .i64 x3)] ∧ St w0 (arena_Arena.R p_a_ (arena_Arena.A.mk al_a_.l_b al_a_.l_c z z1 al_a_.m__p) m_1 :: Sl 3 ecI 1 sb5 sc5 s.2.1 :: As) w ∧ skew_without_l1 t_3.1 (s.2.1.length : Int) s.2.1 m r3 x3 m_1 = some s2) k ⟨t_4.1, 0, t_4.2, hE.sel [0, 12, 13, 46, 47, 48] (by kernel_rfl), H.x3.x1.t1.t1, hm⟩ ?_
  rintro m ih a w ⟨r3, x3, m_1, hE, H, hm⟩
  cases m with
  | zero => simp [skew_without_l1] at hm
  | succ m =>
   rw [skew_without_l1] at hm
   refine Runs.sr ?_
   refine WR.seg hE 1 [] [0, 12, 13, 46, 47, 48, 49] (Lo := [(0, .pointer (some ⟨p_a_, 0, none⟩)), (12, .int .i64 t_3.1), (13, .int .i64 r3), (46, .slice sb5 s.2.1.length sc5), (47, .int .i64 (s.2.1.length : Int)), (48, .int .i64 x3), (49, .bool (decide (x3 < (s.2.1.length : Int))))]) (obs := []) rfl (by kernel_rfl) trivial fun a hE => ?_
   refine WR.done rfl ?_
   refine Runs.seq ?_
   refine Runs.cond hE rfl (fun c => ?_) (fun c => ?_)
   ·replace hm := cond_t c hm
    refine Runs.skip ?_
    refine Runs.seq ?_
    refine Runs.block ?_
    refine Runs.sr ?_
    obtain ⟨x5, ex5, hm⟩ := bind_some hm
    obtain ⟨b1, o1, hs1, hb1⟩ := SlRd.base (sl_rd 3 ecI 1 _ _ _) ecI_ok H 1 rfl ex5
    refine WR.e hE [.pointer (some ⟨b1, o1, none⟩), .int .i64 x5] [(15, .int .i64 x5)] (obs := [.p ((sb5 : Option Addr) = some ⟨b1, o1, none⟩), .p (0 ≤ (x3 : Int) ∧ (x3 : Int) < ((s.2.1.length : Nat) : Int)), .cell ⟨b1, o1 + (Int.toNat x3) * 1, none⟩ (.int .i64 x5)]) ⟨hs1, hb1, SlRd.cells (sl_rd 3 ecI 1 _ _ _) ecI_ok H 1 rfl hs1 ex5 0 _ rfl, trivial⟩ fun a hE => ?_
    refine Runs.region ?_
    refine WR.d0 hE 3 [(52, .pointer (some ⟨p_a_, 0, none⟩)), (53, .int .i64 r3), (54, .int .i64 x5)] fun a hE => ?_
    obtain ⟨t_5, et_5, hm⟩ := bind_some hm
    refine WR.eff hE rfl rfl rfl rfl (OpTo.fn hE rfl rfl Tryz.call210 (skew_single_ok et_5 H)) ?_
    rintro _ w ⟨rfl, H⟩ a hE
    refine WR.e0 hE [(13, .int .i64 t_5.1)] fun a hE => ?_
    refine Runs.inBlock ?_
    refine Runs.region ?_
    refine WR.e0 hE [(48, .int .i64 (w64 (x3 + 1)))] fun a hE => ?_
    exact ih m (Nat.lt_succ_self m) _ _ ⟨t_5.1, w64 (x3 + 1), t_5.2, hE.sel [0, 12, 13, 46, 47, 48] (by kernel_rfl), H.t1.t1, hm⟩
   ·replace hm := cond_f c hm
    refine Runs.exit rfl ?_
    cases hm
    exact hk _ _ ⟨hE.sel [12, 13] (by kernel_rfl), H.x1⟩
 rintro a w ⟨hE, H⟩
 refine Runs.sr ?_
 refine WR.seg hE 4 [] [6, 7] (Lo := [(6, .int .i64 s2.1), (7, .int .i64 t_3.1)]) (obs := []) rfl (by kernel_rfl) trivial fun a hE => ?_
 refine WR.done rfl ?_
 refine Runs.ret hE Tryz.func221 rfl rfl ?_
 cases hm
 exact ⟨z, z1, rfl, H⟩

noncomputable abbrev C221p : List (PK El) := [pO arena_Arena.D, pW 0 3, pI .i64]
noncomputable def C221 (k : Nat) : Con El := mkCon 221 C221p (fun i_ => skew_without k i_.1.2.2 i_.2.1.2.2 i_.2.2.1) 1 1 (fun i_ t ns_ as_ => .tuple #[.int .i64 t.1, .int .i64 t.2.1]) (fun i_ t ns_ as_ => arena_Arena.D.flat i_.1.1 (arena_Arena.A.mk i_.1.2.1.l_b i_.1.2.1.l_c (na as_ 0) (nn ns_ 0) i_.1.2.1.m__p) t.2.2)

theorem S221 (k : Nat) : (C221 k).Sound Tryz.prog := fun i_ t hm w0 w F hr H => by
  obtain ⟨⟨p0, l0, x0⟩, ⟨b1, c1, x1⟩, x2, _⟩ := i_
  have H2 : St w0 (arena_Arena.R p0 l0 x0 :: Sl 3 ecI 1 b1 c1 x1 :: F) w := by
    refine (fs0 fun As => arena_Arena.D_st).2 ?_
    exact H
  refine (skew_without_ok (show skew_without k x0 x1 x2 = some t from hm) H2).mono ?_
  rintro v w' ⟨e0, e1, hv, H⟩
  refine ⟨[e1], [e0], rfl, rfl, hv, ?_, fun _ h => by cases h⟩
  replace H := (fs0 fun As => arena_Arena.D_st).1 H
  exact H

noncomputable def K221 (k : Nat) : SCon El Tryz.prog := ⟨C221 k, S221 k, Tryz.call221⟩

noncomputable abbrev C168p : List (PK El) := [pO arena_Arena.D, pI .i64]
noncomputable def C168 (k : Nat) : Con El := mkCon 168 C168p (fun i_ => skew_Pop k i_.1.2.2 i_.2.1) 1 1 (fun i_ t ns_ as_ => .tuple #[.int .i64 t.1, .int .i64 t.2.1]) (fun i_ t ns_ as_ => arena_Arena.D.flat i_.1.1 (arena_Arena.A.mk i_.1.2.1.l_b i_.1.2.1.l_c (na as_ 0) (nn ns_ 0) i_.1.2.1.m__p) t.2.2)

theorem S168 (k : Nat) : (C168 k).Sound Tryz.prog :=
  fn_sound mixed (C168 k) (n := 26) (rs := rsOf Tryz.prog 168) [] [0, 1, 2, 3] (gj (g2 (gI 4) (g2 (gI 5) (gO arena_Arena.D [0, 1, 2, 3]))) [nA arena_Arena.D [0, 1, 2, 3] (fun al => ([al.free_c], [al.free_b]))]) (fun i => (.s (.seg 2 []) (.join (Bool) 0 0 (gj (gB 14) []) (fun st_ s_ ns_ as_ => ([(14, .bool s_)] ++ kp [0, 1] st_, ka [0, 1, 2, 3] st_)) (.s (.seg 5 []) (.s (.call K217 [.K 0, .K 1, .K 2, .K 3] [0, 1, 2, 3]) (.s (.seg 2 []) .leaf))) (.cond (.s (.seg 2 []) .ret) (.s (.seg 2 []) (.s (.call (K209 k) [.K 0, .K 1, .K 2, .K 3] [4, 0, 1, 2, 3]) (.s (.seg 1 []) (.s (.seg 4 []) (.s (.call (K216 k) [.K 0, .K 1, .K 2, .K 3, .O 4] [0, 1, 2, 3]) (.s (.call (K221 k) [.K 0, .K 1, .K 2, .K 3, .K 4] [0, 1, 2, 3]) (.s (.seg 4 []) .ret))))))))))) Tryz.func168 rfl rfl (by kernel_rfl) (fun _ => rfl) (fun i => by kernel_rfl) (fun i s => by kernel_rfl)

noncomputable def K168 (k : Nat) : SCon El Tryz.prog := ⟨C168 k, S168 k, Tryz.call168⟩

noncomputable abbrev C169p : List (PK El) := [pO arena_Arena.D, pI .i64]
noncomputable def C169 : Con El := mkCon 169 C169p (fun i_ => fib_Pop i_.1.2.2 i_.2.1) 0 0 (fun i_ t ns_ as_ => .tuple #[.int .i64 t.1, .int .i64 t.2]) (fun i_ t ns_ as_ => arena_Arena.D.flat i_.1.1 i_.1.2.1 i_.1.2.2)

theorem S169 : (C169).Sound Tryz.prog := none_sound _ fun _ => rfl

noncomputable def K169 : SCon El Tryz.prog := ⟨C169, S169, Tryz.call169⟩

noncomputable abbrev C170p : List (PK El) := [pO arena_Arena.D, pI .i64]
noncomputable def C170 : Con El := mkCon 170 C170p (fun i_ => pairing_Pop i_.1.2.2 i_.2.1) 0 0 (fun i_ t ns_ as_ => .tuple #[.int .i64 t.1, .int .i64 t.2]) (fun i_ t ns_ as_ => arena_Arena.D.flat i_.1.1 i_.1.2.1 i_.1.2.2)

theorem S170 : (C170).Sound Tryz.prog := none_sound _ fun _ => rfl

noncomputable def K170 : SCon El Tryz.prog := ⟨C170, S170, Tryz.call170⟩

noncomputable abbrev C126p : List (PK El) := [pI .i64, pO arena_Arena.D, pI .i64]
noncomputable def C126 (k : Nat) : Con El := mkCon 126 C126p (fun i_ => kind_Pop k i_.1 i_.2.1.2.2 i_.2.2.1) 1 1 (fun i_ t ns_ as_ => .tuple #[.int .i64 t.1, .int .i64 t.2.1]) (fun i_ t ns_ as_ => arena_Arena.D.flat i_.2.1.1 (arena_Arena.A.mk i_.2.1.2.1.l_b i_.2.1.2.1.l_c (na as_ 0) (nn ns_ 0) i_.2.1.2.1.m__p) t.2.2)

theorem S126 (k : Nat) : (C126 k).Sound Tryz.prog :=
  fn_sound mixed (C126 k) (n := 44) (rs := rsOf Tryz.prog 126) [] [0, 1, 2, 3] (gj (g2 (gI 6) (g2 (gI 7) (gO arena_Arena.D [0, 1, 2, 3]))) [nA arena_Arena.D [0, 1, 2, 3] (fun al => ([al.free_c], [al.free_b]))]) (fun i => (.s (.seg 2 []) (.s (.seg 1 []) (.blk (.s (.seg 2 []) (.cond (.s (.seg 2 []) (.s (.call (K166 k) [.K 0, .K 1, .K 2, .K 3] [0, 1, 2, 3]) (.s (.seg 4 []) .ret))) (.s (.seg 2 []) (.cond (.s (.seg 2 []) (.s (.call (K167 k) [.K 0, .K 1, .K 2, .K 3] [0, 1, 2, 3]) (.s (.seg 4 []) .ret))) (.s (.seg 2 []) (.cond (.s (.seg 2 []) (.s (.call (K168 k) [.K 0, .K 1, .K 2, .K 3] [0, 1, 2, 3]) (.s (.seg 4 []) .ret))) (.s (.seg 2 []) (.cond (.s (.seg 2 []) (.s (.call K169 [.K 0, .K 1, .K 2, .K 3] [0, 1, 2, 3]) (.s (.seg 4 []) .ret))) (.s (.seg 2 []) (.cond (.s (.seg 2 []) (.s (.call K170 [.K 0, .K 1, .K 2, .K 3] [0, 1, 2, 3]) (.s (.seg 4 []) .ret))) (.s (.seg 2 []) .ret))))))))))))))) Tryz.func126 rfl rfl (by kernel_rfl) (fun _ => rfl) (fun i => by kernel_rfl) (fun i s => by kernel_rfl)

noncomputable def K126 (k : Nat) : SCon El Tryz.prog := ⟨C126 k, S126 k, Tryz.call126⟩

noncomputable abbrev C225p : List (PK El) := [pO pool_Pool_slots_thing.D, pV api_Ref.dv api_Ref.val]
noncomputable def C225 : Con El := mkConO 225 C225p (fun i_ => pool_Pool_slots_thing_find i_.1.2.2 i_.2.1) 0 0 (fun i_ t ns_ as_ => .tuple #[elemV i_.1.2.1.l_b 5 t.1, .int .i64 t.2]) (fun i_ t ns_ as_ => pool_Pool_slots_thing.D.flat i_.1.1 i_.1.2.1 i_.1.2.2) (fun i_ t => t.1)

theorem S225 : (C225).Sound Tryz.prog :=
  fn_sound mixed (C225) (n := 61) (rs := rsOf Tryz.prog 225) [] [0, 1, 2] (gj (g2 gE (gI 5)) []) (fun i => (.s (.new 3 []) (.s (.seg 2 []) (.join (Bool) 0 0 (gj (gB 38) []) (fun st_ s_ ns_ as_ => ([(38, .bool s_)] ++ kp [0, 3] st_, ka [3, 0, 1, 2] st_)) (.drw (.q [0, 1, 2, 3] [.C 3 0] (.split 10 (.q [4, 5, 6, 7, 8, 9, 10, 11, 12, 13, 14, 15, 16, 17, 18, 19, 20, 21, 22, 23, 24, 25, 26, 27, 28, 29, 30, 31] [] .leaf) (.q [4, 5, 6, 7, 8, 9, 10, 11, 12, 13] [.C 3 0, .C 0 1] (.split 20 (.q [14, 15, 16, 17, 18, 19, 20, 21, 22, 23, 24, 25, 26, 27, 28, 29, 30, 31] [] .leaf) (.q [14, 15, 16, 17, 18] [.C 3 1] (.split 25 (.q [19, 20, 21, 22, 23, 24, 25, 26, 27, 28, 29, 30, 31] [] .leaf) (.q [19, 20, 21, 22, 23, 24, 25, 26] [.C 3 1, .C 0 1, .C 3 0] (.s (.idx false 1 (.tmp 33) 2) (.q [27, 28, 29, 30, 31] [.A 2, .X 2 1 0] .leaf)))))))))) (.cond (.s (.seg 2 []) .ret) (.drw (.q [0, 1, 2, 3, 4, 5] [.C 0 1, .C 3 0] (.s (.idx false 1 (.tmp 44) 4) (.q [6, 7] [.A 4] (.drw (.q [0, 1, 2, 3, 4, 5, 6, 7] [.C 3 1, .X 4 1 0] (.pj 53 (Bool) mB (gB 59) (fun st s_ => ([(59, .bool s_)] ++ kp [6] st, ka [0, 1, 2, 3] st)) (.q [8, 9, 10, 11, 12, 13] [] .leaf) (.q [8, 9, 10, 11, 12, 13] [.X 4 1 1] .leaf) (.cond (.s (.seg 2 []) .ret) (.s (.seg 3 []) (.s (.el 4 4) .ret))))))))))))))) Tryz.func225 rfl rfl (by kernel_rfl) (fun _ => rfl) (fun i => by kernel_rfl) (fun i s => by kernel_rfl)

noncomputable def K225 : SCon El Tryz.prog := ⟨C225, S225, Tryz.call225⟩

noncomputable abbrev C224p : List (PK El) := [pO pool_Pool_slots_thing.D, pV api_Ref.dv api_Ref.val]
noncomputable def C224 : Con El := mkCon 224 C224p (fun i_ => pool_Pool_slots_thing_Give i_.1.2.2 i_.2.1) 1 1 (fun i_ t ns_ as_ => .tuple #[.agg #[.int .i64 t.1.cell, .int .i64 t.1.heap.At, .int .i64 t.1.heap.Gen], .int .i64 t.2.1]) (fun i_ t ns_ as_ => pool_Pool_slots_thing.D.flat i_.1.1 (pool_Pool_slots_thing.A.mk i_.1.2.1.l_b i_.1.2.1.l_c (na as_ 0) (nn ns_ 0)) t.2.2)

theorem S224 : (C224).Sound Tryz.prog :=
  fn_sound mixed (C224) (n := 43) (rs := rsOf Tryz.prog 224) [.C 2000 0, .C 2000 1, .C 2000 2] [0, 1, 2] (gj (g2 (gC 2000 0 3 slots_thing.dec) (g2 (gI 5) (gO pool_Pool_slots_thing.D [0, 1, 2]))) [nA pool_Pool_slots_thing.D [0, 1, 2] (fun al => ([al.free_c], [al.free_b]))]) (fun i => (.s (.new 3 []) (.s (.new 4 []) (.s (.seg 1 []) (.s (.new 5 []) (.s (.seg 2 [.C 3 0, .C 3 1]) (.s (.call K225 [.K 0, .K 1, .K 2] [0, 1, 2]) (.eo 13 0 1 0 (.s (.seg 5 []) (.s (.seg 2 []) (.cond (.s (.seg 2 [.C 5 0, .C 5 1, .C 5 2]) (.s (.sto 4) (.s (.seg 1 []) (.rk [(4, 2000), (2000, 92000)] .ret)))) .dead))) (.s (.seg 5 []) (.s (.seg 2 []) (.cond (.s (.seg 2 [.C 5 0, .C 5 1, .C 5 2]) (.s (.sto 4) (.s (.seg 1 []) (.rk [(4, 2000), (2000, 92000)] .ret)))) (.s (.seg 4 [.X 0 1 2, .X 0 1 3, .X 0 1 4]) (.s (.new 6 []) (.s (.sto 6) (.drw (.q [0, 1, 2, 3, 4] [.C 5 0, .C 5 1, .C 5 2] (.a 5 (.sset 1 0 1) [.C 5 0, .C 5 1, .C 5 2] (.s (.rlc 0 0 1) (.q [6, 7] [] (.a 8 (.sset 1 0 2) [] (.s (.rlc 0 0 1) (.drw (.q [0, 1, 2, 3, 4, 5, 6] [.C 0 2, .C 3 0] (.a 7 (.bld 8 0 3) [.C 0 2] (.a 8 (.app 2 (.O 8)) [] (.q [9, 10] [] (.a 11 (.sto 0) [] (.s (.seg 1 [.C 6 0, .C 6 1, .C 6 2]) (.s (.sto 4) (.s (.seg 1 []) (.rk [(4, 2000), (2000, 92000)] .ret))))))))))))))))))))))))))))))) Tryz.func224 rfl rfl (by kernel_rfl) (fun _ => rfl) (fun i => by kernel_rfl) (fun i s => by kernel_rfl)

noncomputable def K224 : SCon El Tryz.prog := ⟨C224, S224, Tryz.call224⟩

noncomputable abbrev C171p : List (PK El) := [pO slots_Table.D, pV api_Ref.dv api_Ref.val]
noncomputable def C171 : Con El := mkCon 171 C171p (fun i_ => slots_Table_Take i_.1.2.2 i_.2.1) 2 2 (fun i_ t ns_ as_ => .tuple #[.int .i64 t.1, .int .i64 t.2.1]) (fun i_ t ns_ as_ => slots_Table.D.flat i_.1.1 (slots_Table.A.mk i_.1.2.1.heaps_p i_.1.2.1.heaps_a i_.1.2.1.items_p (pool_Pool_slots_thing.A.mk (na as_ 0) (nn ns_ 0) (na as_ 1) (nn ns_ 1)) i_.1.2.1.at__p) t.2.2)

theorem S171 : (C171).Sound Tryz.prog :=
  fn_sound mixed (C171) (n := 28) (rs := rsOf Tryz.prog 171) [] [0, 1, 2, 3, 4, 5, 6, 7] (gj (g2 (gI 4) (g2 (gI 5) (gO slots_Table.D [0, 1, 2, 3, 4, 5, 6, 7]))) [nA slots_Table.D [0, 1, 2, 3, 4, 5, 6, 7] (fun al => ([al.items_a.l_c, al.items_a.free_c], [al.items_a.l_b, al.items_a.free_b]))]) (fun i => (.s (.new 8 []) (.s (.seg 2 []) (.jg (slots_thing × Int × slots_Table) 3 2 (gj (g2 (gC 11 0 3 slots_thing.dec) (g2 (gI 7) (gO slots_Table.D [0, 1, 2, 3, 4, 5, 6, 7]))) [nPk 11, nA slots_Table.D [0, 1, 2, 3, 4, 5, 6, 7] (fun al => ([al.items_a.l_c, al.items_a.free_c], [al.items_a.l_b, al.items_a.free_b]))]) (fun st_ s_ ns_ as_ => match (g2 (gP 0) (gA slots_Table.D [0, 1, 2, 3, 4, 5, 6, 7])) st_ with | some x_ => ([(6, .pointer (some ⟨(nn ns_ 0), 0, none⟩)), (7, .int .i64 s_.2.1)] ++ kp [0] st_, ka [] st_ ++ zipL [11] [.blk (nn ns_ 0) 186 [.int .i64 s_.1.cell, .int .i64 s_.1.heap.At, .int .i64 s_.1.heap.Gen]] ++ zipL [0, 1, 2, 3, 4, 5, 6, 7] (slots_Table.D.flat (x_.1) (slots_Table.A.mk (x_.2.heaps_p) (x_.2.heaps_a) (x_.2.items_p) (pool_Pool_slots_thing.A.mk (na as_ 0) (nn ns_ 1) (na as_ 1) (nn ns_ 2)) (x_.2.at__p)) s_.2.2)) | none => ([], [])) (.drw (.q [0, 1, 2, 3, 4] [.C 0 1, .C 8 0, .C 8 1] (.alt2 5 (.call K224 [.K 4, .K 5, .K 6] [4, 5, 6]) [] (.q [6, 7, 8] [] (.a 9 (.new 12 []) [] (.a 10 (.sto 12) [] (.q [11] [] (.rk [(12, 11), (11, 90011)] .leaf))))) 9 (.new 13 []) [.C 8 0, .C 8 1, .C 0 1] (.a 5 (.call K224 [.K 4, .K 5, .K 6] [4, 5, 6]) [] (.q [6, 7, 8] [] (.a 10 (.sto 13) [] (.q [11] [] (.rk [(13, 11), (11, 90011)] .leaf)))))))) (.s (.seg 2 []) (.join (slots_Table) 0 0 (gj (gO slots_Table.D [0, 1, 2, 3, 4, 5, 6, 7]) []) (fun st_ s_ ns_ as_ => match (g2 (gP 0) (gA slots_Table.D [0, 1, 2, 3, 4, 5, 6, 7])) st_ with | some x_ => ([] ++ kp [6, 7] st_, ka [11] st_ ++ zipL [0, 1, 2, 3, 4, 5, 6, 7] (slots_Table.D.flat (x_.1) (slots_Table.A.mk (x_.2.heaps_p) (x_.2.heaps_a) (x_.2.items_p) (x_.2.items_a) (x_.2.at__p)) s_)) | none => ([], [])) (.cond (.drw (.q [0, 1, 2, 3, 4, 5] [.C 0 2, .C 11 0] (.a 6 (.mdel 7 0 3 (KeyOk.int rfl)) [] .leaf))) .leaf) (.s (.seg 5 [.C 11 0]) .ret))))))) Tryz.func171 rfl rfl (by kernel_rfl) (fun _ => rfl) (fun i => by kernel_rfl) (fun i s => by kernel_rfl)

noncomputable def K171 : SCon El Tryz.prog := ⟨C171, S171, Tryz.call171⟩

noncomputable abbrev C127p : List (PK El) := [pO pq_Queues.D, pV api_Ref.dv api_Ref.val]
noncomputable def C127 : Con El := mkCon 127 C127p (fun i_ => pq_Queues_gone i_.1.2.2 i_.2.1) 10 6 (fun i_ t ns_ as_ => .agg #[.int .i64 t.1.Key, .int .i64 t.1.Serial]) (fun i_ t ns_ as_ => pq_Queues.D.flat i_.1.1 (pq_Queues.A.mk i_.1.2.1.a__p (arena_Arena.A.mk (na as_ 0) (nn ns_ 0) (na as_ 1) (nn ns_ 1) (nn ns_ 2)) i_.1.2.1.t__p (slots_Table.A.mk (nn ns_ 3) (pool_Pool_slots_heap.A.mk (na as_ 2) (nn ns_ 4) (na as_ 3) (nn ns_ 5)) (nn ns_ 6) (pool_Pool_slots_thing.A.mk (na as_ 4) (nn ns_ 7) (na as_ 5) (nn ns_ 8)) (nn ns_ 9)) i_.1.2.1.entries_p) t.2)

theorem S127 : (C127).Sound Tryz.prog :=
  fn_sound mixed (C127) (n := 35) (rs := rsOf Tryz.prog 127) [.C 2000 0, .C 2000 1] [0, 1, 2, 3, 4, 5, 6, 7, 8, 9, 10, 11, 12, 13] (gj (g2 (gC 2000 0 2 api_Entry.dec) (gO pq_Queues.D [0, 1, 2, 3, 4, 5, 6, 7, 8, 9, 10, 11, 12, 13])) [nA pq_Queues.D [0, 1, 2, 3, 4, 5, 6, 7, 8, 9, 10, 11, 12, 13] (fun al => ([al.a__a.l_c, al.a__a.free_c, al.a__a.m__p, al.t__a.heaps_p, al.t__a.heaps_a.l_c, al.t__a.heaps_a.free_c, al.t__a.items_p, al.t__a.items_a.l_c, al.t__a.items_a.free_c, al.t__a.at__p], [al.a__a.l_b, al.a__a.free_b, al.t__a.heaps_a.l_b, al.t__a.heaps_a.free_b, al.t__a.items_a.l_b, al.t__a.items_a.free_b]))]) (fun i => (.s (.new 14 []) (.s (.new 15 []) (.drw (.q [0, 1, 2, 3, 4] [.C 0 2, .C 14 0, .C 14 1] (.a 5 (.call K171 [.K 5, .K 6, .K 7, .K 8, .K 9, .K 10, .K 11, .K 12] [5, 6, 7, 8, 9, 10, 11, 12]) [] (.q [6, 7, 8, 9, 10] [] (.s (.seg 5 [.C 0 1]) (.s (.call K172 [.K 1, .K 2, .K 3, .K 4] [1, 2, 3, 4]) (.jg (api_Entry) 1 0 (gj (gC 18 0 2 api_Entry.dec) [nPk 18]) (fun st_ s_ ns_ as_ => ([(7, .pointer (some ⟨(nn ns_ 0), 0, none⟩))] ++ kp [0, 3, 4] st_, ka [0, 1, 2, 3, 4, 5, 6, 7, 8, 9, 10, 11, 12, 13, 15, 14] st_ ++ zipL [18] [.blk (nn ns_ 0) 57 [.int .i64 s_.Key, .int .i64 s_.Serial]])) (.drw (.q [0, 1, 2, 3, 4] [.C 0 3, .C 14 0, .C 14 1] (.alt2 5 (.mget 13 1 28 api_Ref.key_ok (api_Entry.mk 0 0)) [] (.a 6 (.new 19 []) [] (.a 7 (.sto 19) [] (.rk [(19, 18), (18, 90018)] .leaf))) 6 (.new 20 []) [.C 14 0, .C 14 1, .C 0 3] (.a 5 (.mget 13 1 28 api_Ref.key_ok (api_Entry.mk 0 0)) [] (.a 7 (.sto 20) [] (.rk [(20, 18), (18, 90018)] .leaf)))))) (.drw (.q [0, 1, 2, 3, 4] [.C 0 3, .C 14 0, .C 14 1] (.a 5 (.mdel 13 1 28 api_Ref.key_ok) [] (.s (.seg 1 [.C 18 0, .C 18 1]) (.s (.sto 15) (.rk [(15, 2000), (2000, 92000)] .ret)))))))))))))))) Tryz.func127 rfl rfl (by kernel_rfl) (fun _ => rfl) (fun i => by kernel_rfl) (fun i s => by kernel_rfl)

noncomputable def K127 : SCon El Tryz.prog := ⟨C127, S127, Tryz.call127⟩

noncomputable abbrev C88p : List (PK El) := [pO pq_Queues.D, pV api_Ref.dv api_Ref.val, pB]
noncomputable def C88 (k : Nat) : Con El := mkCon 88 C88p (fun i_ => pq_Queues_min k i_.1.2.2 i_.2.1 i_.2.2.1) 10 6 (fun i_ t ns_ as_ => .agg #[.int .i64 t.1.Why, .int .i64 t.1.Heap.At, .int .i64 t.1.Heap.Gen, .int .i64 t.1.Item.At, .int .i64 t.1.Item.Gen, .int .i64 t.1.Entry.Key, .int .i64 t.1.Entry.Serial, .int .i64 t.1.N]) (fun i_ t ns_ as_ => pq_Queues.D.flat i_.1.1 (pq_Queues.A.mk i_.1.2.1.a__p (arena_Arena.A.mk (na as_ 0) (nn ns_ 0) (na as_ 1) (nn ns_ 1) (nn ns_ 2)) i_.1.2.1.t__p (slots_Table.A.mk (nn ns_ 3) (pool_Pool_slots_heap.A.mk (na as_ 2) (nn ns_ 4) (na as_ 3) (nn ns_ 5)) (nn ns_ 6) (pool_Pool_slots_thing.A.mk (na as_ 4) (nn ns_ 7) (na as_ 5) (nn ns_ 8)) (nn ns_ 9)) i_.1.2.1.entries_p) t.2)

theorem S88 (k : Nat) : (C88 k).Sound Tryz.prog :=
  fn_sound mixed (C88 k) (n := 94) (rs := rsOf Tryz.prog 88) [.C 2000 0, .C 2000 1, .C 2000 2, .C 2000 3, .C 2000 4, .C 2000 5, .C 2000 6, .C 2000 7] [0, 1, 2, 3, 4, 5, 6, 7, 8, 9, 10, 11, 12, 13] (gj (g2 (gC 2000 0 8 api_Answer.dec) (gO pq_Queues.D [0, 1, 2, 3, 4, 5, 6, 7, 8, 9, 10, 11, 12, 13])) [nA pq_Queues.D [0, 1, 2, 3, 4, 5, 6, 7, 8, 9, 10, 11, 12, 13] (fun al => ([al.a__a.l_c, al.a__a.free_c, al.a__a.m__p, al.t__a.heaps_p, al.t__a.heaps_a.l_c, al.t__a.heaps_a.free_c, al.t__a.items_p, al.t__a.items_a.l_c, al.t__a.items_a.free_c, al.t__a.at__p], [al.a__a.l_b, al.a__a.free_b, al.t__a.heaps_a.l_b, al.t__a.heaps_a.free_b, al.t__a.items_a.l_b, al.t__a.items_a.free_b]))]) (fun i => (.s (.new 14 []) (.s (.new 15 []) (.drw (.q [0, 1, 2, 3, 4] [.C 0 2, .C 14 0, .C 14 1] (.a 5 (.call K92 [.K 5, .K 6, .K 7, .K 8, .K 9, .K 10, .K 11, .K 12] [5, 6, 7, 8, 9, 10, 11, 12]) [] (.q [6, 7, 8, 9, 10, 11, 12, 13, 14] [] (.blk (.s (.seg 3 []) (.cond (.s (.seg 1 []) (.s (.call K94 [] []) (.s (.sto 15) (.rk [(15, 2000), (2000, 92000)] .ret)))) (.s (.seg 3 []) (.cond (.s (.call K94 [] []) (.s (.sto 15) (.rk [(15, 2000), (2000, 92000)] .ret))) (.s (.seg 2 []) (.cond (.jg (api_Ref × pq_Queues) 1 0 (gj (g2 (gC 18 0 2 api_Ref.dec) (gO pq_Queues.D [0, 1, 2, 3, 4, 5, 6, 7, 8, 9, 10, 11, 12, 13])) [nPk 18]) (fun st_ s_ ns_ as_ => match (g2 (gP 0) (gA pq_Queues.D [0, 1, 2, 3, 4, 5, 6, 7, 8, 9, 10, 11, 12, 13])) st_ with | some x_ => ([(11, .pointer (some ⟨(nn ns_ 0), 0, none⟩))] ++ kp [0, 6] st_, ka [15] st_ ++ zipL [18] [.blk (nn ns_ 0) 28 [.int .i64 s_.1.At, .int .i64 s_.1.Gen]] ++ zipL [0, 1, 2, 3, 4, 5, 6, 7, 8, 9, 10, 11, 12, 13] (pq_Queues.D.flat (x_.1) (x_.2) s_.2)) | none => ([], [])) (.drw (.q [0, 1, 2, 3, 4, 5, 6, 7, 8, 9] [.C 0 2, .C 0 1] (.alt2 10 (.call (K125 k) [.K 1, .K 2, .K 3, .K 4] [1, 2, 3, 4]) [.C 0 2] (.alt2 11 (.call K124 [.K 5, .K 6, .K 7, .K 8, .K 9, .K 10, .K 11, .K 12] [5, 6, 7, 8, 9, 10, 11, 12]) [] (.q [12, 13, 14] [] (.a 15 (.new 19 []) [] (.a 16 (.sto 19) [] (.q [17] [] (.rk [(19, 18), (18, 90018)] .leaf))))) 15 (.new 20 []) [.C 0 2] (.a 11 (.call K124 [.K 5, .K 6, .K 7, .K 8, .K 9, .K 10, .K 11, .K 12] [5, 6, 7, 8, 9, 10, 11, 12]) [] (.q [12, 13, 14] [] (.a 16 (.sto 20) [] (.q [17] [] (.rk [(20, 18), (18, 90018)] .leaf)))))) 15 (.new 21 []) [.C 0 1, .C 0 2] (.a 10 (.call (K125 k) [.K 1, .K 2, .K 3, .K 4] [1, 2, 3, 4]) [.C 0 2] (.a 11 (.call K124 [.K 5, .K 6, .K 7, .K 8, .K 9, .K 10, .K 11, .K 12] [5, 6, 7, 8, 9, 10, 11, 12]) [] (.q [12, 13, 14] [] (.a 16 (.sto 21) [] (.q [17] [] (.rk [(21, 18), (18, 90018)] .leaf))))))))) (.drw (.q [0, 1, 2, 3, 4, 5] [.C 18 0, .C 18 1, .C 0 3, .C 18 0, .C 18 1] (.a 6 (.mget 13 1 28 api_Ref.key_ok (api_Entry.mk 0 0)) [.C 18 0, .C 18 1] (.q [7] [] (.a 8 (.sto 15) [] (.rk [(15, 2000), (2000, 92000)] .ret))))))) (.s (.seg 6 [.C 0 1]) (.s (.call (K126 k) [.K 1, .K 2, .K 3, .K 4] [1, 2, 3, 4]) (.s (.seg 5 []) (.s (.seg 5 [.C 0 2]) (.s (.call K124 [.K 5, .K 6, .K 7, .K 8, .K 9, .K 10, .K 11, .K 12] [5, 6, 7, 8, 9, 10, 11, 12]) (.s (.seg 3 []) (.s (.new 22 []) (.s (.sto 22) (.s (.seg 1 []) (.drw (.q [0, 1, 2, 3, 4, 5, 6, 7] [.C 0 2, .C 14 0, .C 14 1] (.a 8 (.call K123 [.K 5, .K 6, .K 7, .K 8, .K 9, .K 10, .K 11, .K 12] [5, 6, 7, 8, 9, 10, 11, 12]) [] (.drw (.q [0, 1, 2] [.C 22 0, .C 22 1, .C 22 0, .C 22 1] (.a 3 (.call K127 [.K 0, .K 1, .K 2, .K 3, .K 4, .K 5, .K 6, .K 7, .K 8, .K 9, .K 10, .K 11, .K 12, .K 13] [0, 1, 2, 3, 4, 5, 6, 7, 8, 9, 10, 11, 12, 13]) [.C 22 0, .C 22 1] (.q [4] [] (.a 5 (.sto 15) [] (.rk [(15, 2000), (2000, 92000)] .ret)))))))))))))))))))))))))))))))) Tryz.func88 rfl rfl (by kernel_rfl) (fun _ => rfl) (fun i => by kernel_rfl) (fun i s => by kernel_rfl)

noncomputable def K88 (k : Nat) : SCon El Tryz.prog := ⟨C88 k, S88 k, Tryz.call88⟩

noncomputable abbrev C173p : List (PK El) := [pO pool_Pool_slots_thing.D, pV api_Ref.dv api_Ref.val]
noncomputable def C173 : Con El := mkCon 173 C173p (fun i_ => pool_Pool_slots_thing_Get i_.1.2.2 i_.2.1) 0 0 (fun i_ t ns_ as_ => .tuple #[.agg #[.int .i64 t.1.cell, .int .i64 t.1.heap.At, .int .i64 t.1.heap.Gen], .int .i64 t.2]) (fun i_ t ns_ as_ => pool_Pool_slots_thing.D.flat i_.1.1 i_.1.2.1 i_.1.2.2)

theorem S173 : (C173).Sound Tryz.prog :=
  fn_sound mixed (C173) (n := 23) (rs := rsOf Tryz.prog 173) [.C 2000 0, .C 2000 1, .C 2000 2] [0, 1, 2] (gj (g2 (gC 2000 0 3 slots_thing.dec) (gI 5)) []) (fun i => (.s (.new 3 []) (.s (.new 4 []) (.s (.seg 1 []) (.s (.seg 2 [.C 3 0, .C 3 1]) (.s (.call K225 [.K 0, .K 1, .K 2] [0, 1, 2]) (.eo 12 0 1 0 (.s (.seg 5 []) (.s (.seg 2 []) (.cond (.s (.new 5 []) (.s (.seg 2 [.C 5 0, .C 5 1, .C 5 2]) (.s (.sto 4) (.s (.seg 1 []) (.rk [(4, 2000), (2000, 92000)] .ret))))) .dead))) (.s (.seg 5 []) (.s (.seg 2 []) (.cond (.s (.new 6 []) (.s (.seg 2 [.C 6 0, .C 6 1, .C 6 2]) (.s (.sto 4) (.s (.seg 1 []) (.rk [(4, 2000), (2000, 92000)] .ret))))) (.s (.seg 4 [.X 0 1 2, .X 0 1 3, .X 0 1 4]) (.s (.sto 4) (.s (.seg 1 []) (.rk [(4, 2000), (2000, 92000)] .ret)))))))))))))) Tryz.func173 rfl rfl (by kernel_rfl) (fun _ => rfl) (fun i => by kernel_rfl) (fun i s => by kernel_rfl)

noncomputable def K173 : SCon El Tryz.prog := ⟨C173, S173, Tryz.call173⟩

noncomputable abbrev C128p : List (PK El) := [pO slots_Table.D, pV api_Ref.dv api_Ref.val]
noncomputable def C128 : Con El := mkCon 128 C128p (fun i_ => slots_Table_Cell i_.1.2.2 i_.2.1) 0 0 (fun i_ t ns_ as_ => .tuple #[.int .i64 t.1, .int .i64 t.2]) (fun i_ t ns_ as_ => slots_Table.D.flat i_.1.1 i_.1.2.1 i_.1.2.2)

theorem S128 : (C128).Sound Tryz.prog :=
  fn_sound mixed (C128) (n := 20) (rs := rsOf Tryz.prog 128) [] [0, 1, 2, 3, 4, 5, 6, 7] (gj (g2 (gI 4) (gI 5)) []) (fun i => (.s (.new 8 []) (.s (.seg 2 []) (.jg (slots_thing × Int) 1 0 (gj (g2 (gC 11 0 3 slots_thing.dec) (gI 7)) [nPk 11]) (fun st_ s_ ns_ as_ => ([(6, .pointer (some ⟨(nn ns_ 0), 0, none⟩)), (7, .int .i64 s_.2)] ++ kp [] st_, ka [0, 1, 2, 3, 4, 5, 6, 7] st_ ++ zipL [11] [.blk (nn ns_ 0) 186 [.int .i64 s_.1.cell, .int .i64 s_.1.heap.At, .int .i64 s_.1.heap.Gen]])) (.drw (.q [0, 1, 2, 3, 4] [.C 0 1, .C 8 0, .C 8 1] (.alt2 5 (.call K173 [.K 4, .K 5, .K 6] [4, 5, 6]) [] (.q [6, 7, 8] [] (.a 9 (.new 12 []) [] (.a 10 (.sto 12) [] (.q [11] [] (.rk [(12, 11), (11, 90011)] .leaf))))) 9 (.new 13 []) [.C 8 0, .C 8 1, .C 0 1] (.a 5 (.call K173 [.K 4, .K 5, .K 6] [4, 5, 6]) [] (.q [6, 7, 8] [] (.a 10 (.sto 13) [] (.q [11] [] (.rk [(13, 11), (11, 90011)] .leaf)))))))) (.s (.seg 5 [.C 11 0]) .ret))))) Tryz.func128 rfl rfl (by kernel_rfl) (fun _ => rfl) (fun i => by kernel_rfl) (fun i s => by kernel_rfl)

noncomputable def K128 : SCon El Tryz.prog := ⟨C128, S128, Tryz.call128⟩

noncomputable abbrev C129p : List (PK El) := [pO slots_Table.D, pV api_Ref.dv api_Ref.val]
noncomputable def C129 : Con El := mkCon 129 C129p (fun i_ => slots_Table_Of i_.1.2.2 i_.2.1) 0 0 (fun i_ t ns_ as_ => .tuple #[.agg #[.int .i64 t.1.At, .int .i64 t.1.Gen], .int .i64 t.2]) (fun i_ t ns_ as_ => slots_Table.D.flat i_.1.1 i_.1.2.1 i_.1.2.2)

theorem S129 : (C129).Sound Tryz.prog :=
  fn_sound mixed (C129) (n := 20) (rs := rsOf Tryz.prog 129) [.C 2000 0, .C 2000 1] [0, 1, 2, 3, 4, 5, 6, 7] (gj (g2 (gC 2000 0 2 api_Ref.dec) (gI 5)) []) (fun i => (.s (.new 8 []) (.s (.new 9 []) (.s (.seg 1 []) (.jg (slots_thing × Int) 1 0 (gj (g2 (gC 12 0 3 slots_thing.dec) (gI 7)) [nPk 12]) (fun st_ s_ ns_ as_ => ([(6, .pointer (some ⟨(nn ns_ 0), 0, none⟩)), (7, .int .i64 s_.2)] ++ kp [4] st_, ka [9, 0, 1, 2, 3, 4, 5, 6, 7] st_ ++ zipL [12] [.blk (nn ns_ 0) 186 [.int .i64 s_.1.cell, .int .i64 s_.1.heap.At, .int .i64 s_.1.heap.Gen]])) (.drw (.q [0, 1, 2, 3, 4] [.C 0 1, .C 8 0, .C 8 1] (.alt2 5 (.call K173 [.K 4, .K 5, .K 6] [4, 5, 6]) [] (.q [6, 7, 8] [] (.a 9 (.new 13 []) [] (.a 10 (.sto 13) [] (.q [11] [] (.rk [(13, 12), (12, 90012)] .leaf))))) 9 (.new 14 []) [.C 8 0, .C 8 1, .C 0 1] (.a 5 (.call K173 [.K 4, .K 5, .K 6] [4, 5, 6]) [] (.q [6, 7, 8] [] (.a 10 (.sto 14) [] (.q [11] [] (.rk [(14, 12), (12, 90012)] .leaf)))))))) (.s (.seg 3 [.C 12 1, .C 12 2]) (.s (.sto 9) (.s (.seg 1 []) (.rk [(9, 2000), (2000, 92000)] .ret))))))))) Tryz.func129 rfl rfl (by kernel_rfl) (fun _ => rfl) (fun i => by kernel_rfl) (fun i s => by kernel_rfl)

noncomputable def K129 : SCon El Tryz.prog := ⟨C129, S129, Tryz.call129⟩

noncomputable abbrev C130p : List (PK El) := [pO arena_Arena.D, pI .i64, pI .i64]
noncomputable def C130 : Con El := mkCon 130 C130p (fun i_ => item_Lower i_.1.2.2 i_.2.1 i_.2.2.1) 0 0 (fun i_ t ns_ as_ => .bool t.1) (fun i_ t ns_ as_ => arena_Arena.D.flat i_.1.1 i_.1.2.1 t.2)

theorem S130 : (C130).Sound Tryz.prog :=
  fn_sound mixed (C130) (n := 20) (rs := rsOf Tryz.prog 130) [] [0, 1, 2, 3] (gj (g2 (gB 6) (gO arena_Arena.D [0, 1, 2, 3])) []) (fun i => (.s (.seg 1 []) (.join (Bool × arena_Arena) 0 0 (gj (g2 (gB 15) (gO arena_Arena.D [0, 1, 2, 3])) []) (fun st_ s_ ns_ as_ => match (g2 (gP 0) (gA arena_Arena.D [0, 1, 2, 3])) st_ with | some x_ => ([(15, .bool s_.1)] ++ kp [0, 1, 2] st_, ka [] st_ ++ zipL [0, 1, 2, 3] (arena_Arena.D.flat (x_.1) (x_.2) s_.2)) | none => ([], [])) (.s (.seg 6 []) (.s (.call K174 [.K 0, .K 1, .K 2, .K 3] [0, 1, 2, 3]) (.s (.seg 2 []) .leaf))) (.cond (.s (.seg 1 []) .ret) (.s (.seg 3 []) (.s (.call K152 [.K 0, .K 1, .K 2, .K 3] [0, 1, 2, 3]) (.s (.seg 1 []) .ret))))))) Tryz.func130 rfl rfl (by kernel_rfl) (fun _ => rfl) (fun i => by kernel_rfl) (fun i s => by kernel_rfl)

noncomputable def K130 : SCon El Tryz.prog := ⟨C130, S130, Tryz.call130⟩

noncomputable abbrev C226p : List (PK El) := [pO arena_Arena.D, pI .i64]
noncomputable def C226 : Con El := mkCon 226 C226p (fun i_ => item_Node i_.1.2.2 i_.2.1) 0 0 (fun i_ t ns_ as_ => .int .i64 t.1) (fun i_ t ns_ as_ => arena_Arena.D.flat i_.1.1 i_.1.2.1 t.2)

theorem S226 : (C226).Sound Tryz.prog :=
  fn_sound mixed (C226) (n := 10) (rs := rsOf Tryz.prog 226) [] [0, 1, 2, 3] (gj (g2 (gI 4) (gO arena_Arena.D [0, 1, 2, 3])) []) (fun i => (.s (.seg 1 []) (.s (.seg 2 []) (.condF (.s (.seg 2 []) (.s (.call K215 [.K 0, .K 1, .K 2, .K 3] [0, 1, 2, 3]) (.s (.seg 1 []) .ret))))))) Tryz.func226 rfl rfl (by kernel_rfl) (fun _ => rfl) (fun i => by kernel_rfl) (fun i s => by kernel_rfl)

noncomputable def K226 : SCon El Tryz.prog := ⟨C226, S226, Tryz.call226⟩

noncomputable abbrev C227p : List (PK El) := [pO arena_Arena.D, pI .i64]
noncomputable def C227 (k : Nat) : Con El := mkCon 227 C227p (fun i_ => leftist_leave k i_.1.2.2 i_.2.1) 0 0 (fun i_ t ns_ as_ => .tuple #[]) (fun i_ t ns_ as_ => arena_Arena.D.flat i_.1.1 i_.1.2.1 t)

noncomputable abbrev C227r (k : Nat) (i : Ins C227p) : Kn El → VC (C227 k).T := retC Tryz.prog (C227 k) (rsOf Tryz.prog 227) [] [0, 1, 2, 3] (gj (gO arena_Arena.D [0, 1, 2, 3]) []) i

noncomputable def C227l0 (i_ : Ins C227p) : BCon El (arena_Arena) := ⟨nav [1, 1, 1, 1] (bodyOf Tryz.prog 227), Unit, Int × Int × arena_Arena, arena_Arena, arena_Arena, fun u => .inr u, fun _ _ => none, fun x_ => [], fun x_ v_ ns_ as_ => [(0, .pointer (some ⟨i_.1.1, 0, none⟩)), (4, .int .i64 v_.1), (5, .int .i64 v_.2.1)], fun x_ v_ ns_ as_ => zipL [0, 1, 2, 3] (arena_Arena.D.flat i_.1.1 i_.1.2.1 v_.2.2), 0, 0, fun x_ u_ ns_ as_ => [], fun x_ u_ ns_ as_ => zipL [0, 1, 2, 3] (arena_Arena.D.flat i_.1.1 i_.1.2.1 u_)⟩

noncomputable def C227l0g (k : Nat) (i_ : Ins C227p) : Nat → (C227l0 i_).X → (C227l0 i_).V → Option (C227l0 i_).W := fun m_ (x_ : Unit) (v_ : Int × Int × arena_Arena) => leftist_leave_l0 m_ v_.1 v_.2.1 v_.2.2

theorem C227l0s (k : Nat) (i : Ins C227p) (m : Nat) : ((C227l0 i).at (C227l0g k i) m).Sound Tryz.prog 227 46 (C227r k i) :=
  loop_sound mixed (C227l0 i) (id := 0) (body := nav [1, 1, 1, 1, 0, 0] (bodyOf Tryz.prog 227)) (C227l0g k i) (fun _ => none) (fun u => u) (gj (g2 (gI 4) (g2 (gI 5) (gO arena_Arena.D [0, 1, 2, 3]))) []) (gj (gO arena_Arena.D [0, 1, 2, 3]) []) (fun m => (.join (Bool × arena_Arena) 0 0 (gj (g2 (gB 40) (gO arena_Arena.D [0, 1, 2, 3])) []) (fun st_ s_ ns_ as_ => match (g2 (gP 0) (gA arena_Arena.D [0, 1, 2, 3])) st_ with | some x_ => ([(40, .bool s_.1)] ++ kp [0, 4, 5] st_, ka [] st_ ++ zipL [0, 1, 2, 3] (arena_Arena.D.flat (x_.1) (x_.2) s_.2)) | none => ([], [])) (.s (.seg 3 []) (.split 30 (.s (.seg 2 []) (.s (.call K241 [.K 0, .K 1, .K 2, .K 3] [0, 1, 2, 3]) (.s (.seg 3 []) (.split 36 (.s (.seg 2 []) (.s (.call K242 [.K 0, .K 1, .K 2, .K 3] [0, 1, 2, 3]) (.s (.seg 1 []) .leaf))) (.s (.seg 4 []) .leaf))))) (.s (.seg 10 []) .leaf))) (.cond (.blk (.s (.seg 2 []) (.s (.call K215 [.K 0, .K 1, .K 2, .K 3] [0, 1, 2, 3]) (.s (.seg 1 []) (.s (.seg 3 []) .back))))) .leaf))) (by kernel_rfl) (fun _ _ => rfl) (fun r y h => by cases h) (fun u => rfl) (fun m x v n1 n2 => by kernel_rfl) (fun m x v n1 n2 s => by kernel_rfl) m

theorem S227 (k : Nat) : (C227 k).Sound Tryz.prog :=
  fn_sound mixed (C227 k) (n := 46) (rs := rsOf Tryz.prog 227) [] [0, 1, 2, 3] (gj (gO arena_Arena.D [0, 1, 2, 3]) []) (fun i => (.s (.seg 2 []) (.s (.call K215 [.K 0, .K 1, .K 2, .K 3] [0, 1, 2, 3]) (.s (.seg 1 []) (.s (.seg 2 []) (.s (.call K215 [.K 0, .K 1, .K 2, .K 3] [0, 1, 2, 3]) (.s (.seg 2 []) (.join (arena_Arena) 0 0 (gj (gO arena_Arena.D [0, 1, 2, 3]) []) (fun st_ s_ ns_ as_ => match (g2 (gP 0) (gA arena_Arena.D [0, 1, 2, 3])) st_ with | some x_ => ([] ++ kp [0, 1, 4] st_, ka [] st_ ++ zipL [0, 1, 2, 3] (arena_Arena.D.flat (x_.1) (x_.2) s_)) | none => ([], [])) (.cond (.s (.seg 2 []) (.s (.call K152 [.K 0, .K 1, .K 2, .K 3] [0, 1, 2, 3]) .leaf)) (.s (.seg 2 []) (.s (.call K215 [.K 0, .K 1, .K 2, .K 3] [0, 1, 2, 3]) (.s (.seg 2 []) (.cond (.s (.seg 2 []) (.s (.call K152 [.K 0, .K 1, .K 2, .K 3] [0, 1, 2, 3]) .leaf)) .leaf))))) (.s (.seg 2 []) (.s (.call K152 [.K 0, .K 1, .K 2, .K 3] [0, 1, 2, 3]) (.s (.seg 1 []) (.loop ⟨(C227l0 i).at (C227l0g k i) k, C227l0s k i k⟩ (gl gU (g2 (gI 4) (g2 (gI 5) (gO arena_Arena.D [0, 1, 2, 3]))) []) .leaf)))))))))))) Tryz.func227 rfl rfl (by kernel_rfl) (fun _ => rfl) (fun i => by kernel_rfl) (fun i s => by kernel_rfl)

noncomputable def K227 (k : Nat) : SCon El Tryz.prog := ⟨C227 k, S227 k, Tryz.call227⟩

noncomputable abbrev C175p : List (PK El) := [pO arena_Arena.D, pI .i64, pI .i64]
noncomputable def C175 (k : Nat) : Con El := mkCon 175 C175p (fun i_ => leftist_Fall k i_.1.2.2 i_.2.1 i_.2.2.1) 0 0 (fun i_ t ns_ as_ => .int .i64 t.1) (fun i_ t ns_ as_ => arena_Arena.D.flat i_.1.1 i_.1.2.1 t.2)

theorem S175 (k : Nat) : (C175 k).Sound Tryz.prog :=
  fn_sound mixed (C175 k) (n := 34) (rs := rsOf Tryz.prog 175) [] [0, 1, 2, 3] (gj (g2 (gI 6) (gO arena_Arena.D [0, 1, 2, 3])) []) (fun i => (.s (.seg 1 []) (.s (.seg 2 []) (.condF (.s (.seg 2 []) (.s (.call K226 [.K 0, .K 1, .K 2, .K 3] [0, 1, 2, 3]) (.s (.seg 1 []) (.join (Bool × arena_Arena) 0 0 (gj (g2 (gB 25) (gO arena_Arena.D [0, 1, 2, 3])) []) (fun st_ s_ ns_ as_ => match (g2 (gP 0) (gA arena_Arena.D [0, 1, 2, 3])) st_ with | some x_ => ([(25, .bool s_.1)] ++ kp [0, 1, 7] st_, ka [] st_ ++ zipL [0, 1, 2, 3] (arena_Arena.D.flat (x_.1) (x_.2) s_.2)) | none => ([], [])) (.s (.seg 3 []) (.split 15 (.s (.seg 10 []) .leaf) (.s (.seg 5 []) (.split 20 (.s (.seg 5 []) .leaf) (.s (.seg 2 []) (.s (.call K215 [.K 0, .K 1, .K 2, .K 3] [0, 1, 2, 3]) (.s (.seg 2 []) .leaf))))))) (.cond (.s (.seg 2 []) .ret) (.s (.seg 2 []) (.s (.call (K227 k) [.K 0, .K 1, .K 2, .K 3] [0, 1, 2, 3]) (.s (.seg 3 []) (.s (.call (K207 k) [.K 0, .K 1, .K 2, .K 3] [0, 1, 2, 3]) (.s (.seg 1 []) .ret)))))))))))))) Tryz.func175 rfl rfl (by kernel_rfl) (fun _ => rfl) (fun i => by kernel_rfl) (fun i s => by kernel_rfl)

noncomputable def K175 (k : Nat) : SCon El Tryz.prog := ⟨C175 k, S175 k, Tryz.call175⟩

noncomputable abbrev C228p : List (PK El) := [pO arena_Arena.D, pI .i64, pB]
noncomputable def C228 (k : Nat) : Con El := mkCon 228 C228p (fun i_ => trees_Rise k i_.1.2.2 i_.2.1 i_.2.2.1) 0 0 (fun i_ t ns_ as_ => .int .i64 t.1) (fun i_ t ns_ as_ => arena_Arena.D.flat i_.1.1 i_.1.2.1 t.2)

noncomputable abbrev C228r (k : Nat) (i : Ins C228p) : Kn El → VC (C228 k).T := retC Tryz.prog (C228 k) (rsOf Tryz.prog 228) [] [0, 1, 2, 3] (gj (g2 (gI 6) (gO arena_Arena.D [0, 1, 2, 3])) []) i

noncomputable def C228l0 (i_ : Ins C228p) : BCon El (Int × arena_Arena) := ⟨nav [1, 1, 0, 1] (bodyOf Tryz.prog 228), Unit, Int × Int × arena_Arena, Int × arena_Arena, Int × arena_Arena, fun u => .inr u, fun _ _ => none, fun x_ => [], fun x_ v_ ns_ as_ => [(0, .pointer (some ⟨i_.1.1, 0, none⟩)), (2, .bool i_.2.2.1), (7, .int .i64 v_.1), (8, .int .i64 v_.2.1)], fun x_ v_ ns_ as_ => zipL [0, 1, 2, 3] (arena_Arena.D.flat i_.1.1 i_.1.2.1 v_.2.2), 0, 0, fun x_ u_ ns_ as_ => [(7, .int .i64 u_.1)], fun x_ u_ ns_ as_ => zipL [0, 1, 2, 3] (arena_Arena.D.flat i_.1.1 i_.1.2.1 u_.2)⟩

noncomputable def C228l0g (k : Nat) (i_ : Ins C228p) : Nat → (C228l0 i_).X → (C228l0 i_).V → Option (C228l0 i_).W := fun m_ (x_ : Unit) (v_ : Int × Int × arena_Arena) => trees_Rise_l0 i_.2.2.1 m_ v_.1 v_.2.1 v_.2.2

theorem C228l0s (k : Nat) (i : Ins C228p) (m : Nat) : ((C228l0 i).at (C228l0g k i) m).Sound Tryz.prog 228 45 (C228r k i) :=
  loop_sound mixed (C228l0 i) (id := 0) (body := nav [1, 1, 0, 1, 0, 0] (bodyOf Tryz.prog 228)) (C228l0g k i) (fun _ => none) (fun u => u) (gj (g2 (gI 7) (g2 (gI 8) (gO arena_Arena.D [0, 1, 2, 3]))) []) (gj (g2 (gI 7) (gO arena_Arena.D [0, 1, 2, 3])) []) (fun m => (.join (Bool) 0 0 (gj (gB 20) []) (fun st_ s_ ns_ as_ => ([(20, .bool s_)] ++ kp [0, 2, 7, 8] st_, ka [0, 1, 2, 3] st_)) (.s (.seg 3 []) (.split 15 (.s (.seg 2 []) (.s (.call K241 [.K 0, .K 1, .K 2, .K 3] [0, 1, 2, 3]) (.s (.seg 2 []) .leaf))) (.s (.seg 5 []) .leaf))) (.cond (.blk (.s (.seg 2 []) (.s (.call K215 [.K 0, .K 1, .K 2, .K 3] [0, 1, 2, 3]) (.s (.seg 1 []) (.join (Bool × arena_Arena) 0 0 (gj (g2 (gB 38) (gO arena_Arena.D [0, 1, 2, 3])) []) (fun st_ s_ ns_ as_ => match (g2 (gP 0) (gA arena_Arena.D [0, 1, 2, 3])) st_ with | some x_ => ([(38, .bool s_.1)] ++ kp [0, 2, 7, 8, 9] st_, ka [] st_ ++ zipL [0, 1, 2, 3] (arena_Arena.D.flat (x_.1) (x_.2) s_.2)) | none => ([], [])) (.s (.seg 3 []) (.split 28 (.s (.seg 10 []) .leaf) (.s (.seg 3 []) (.split 31 (.s (.seg 3 []) (.s (.call (K229 m) [.K 0, .K 1, .K 2, .K 3] [0, 1, 2, 3]) (.s (.seg 3 []) .leaf))) (.s (.seg 7 []) .leaf))))) (.cond .leaf (.s (.seg 3 []) (.s (.call K249 [.K 0, .K 1, .K 2, .K 3] [0, 1, 2, 3]) (.s (.seg 2 []) (.s (.seg 3 []) .back)))))))))) .leaf))) (by kernel_rfl) (fun _ _ => rfl) (fun r y h => by cases h) (fun u => rfl) (fun m x v n1 n2 => by kernel_rfl) (fun m x v n1 n2 s => by kernel_rfl) m

theorem S228 (k : Nat) : (C228 k).Sound Tryz.prog :=
  fn_sound mixed (C228 k) (n := 45) (rs := rsOf Tryz.prog 228) [] [0, 1, 2, 3] (gj (g2 (gI 6) (gO arena_Arena.D [0, 1, 2, 3])) []) (fun i => (.s (.seg 1 []) (.s (.seg 2 []) (.s (.call K226 [.K 0, .K 1, .K 2, .K 3] [0, 1, 2, 3]) (.s (.seg 1 []) (.s (.seg 1 []) (.loop ⟨(C228l0 i).at (C228l0g k i) k, C228l0s k i k⟩ (gl gU (g2 (gI 7) (g2 (gI 8) (gO arena_Arena.D [0, 1, 2, 3]))) []) (.s (.seg 2 []) .ret)))))))) Tryz.func228 rfl rfl (by kernel_rfl) (fun _ => rfl) (fun i => by kernel_rfl) (fun i s => by kernel_rfl)

noncomputable def K228 (k : Nat) : SCon El Tryz.prog := ⟨C228 k, S228 k, Tryz.call228⟩

noncomputable abbrev C176p : List (PK El) := [pO arena_Arena.D, pI .i64, pI .i64]
noncomputable def C176 (k : Nat) : Con El := mkCon 176 C176p (fun i_ => binomial_Fall k i_.1.2.2 i_.2.1 i_.2.2.1) 0 0 (fun i_ t ns_ as_ => .int .i64 t.1) (fun i_ t ns_ as_ => arena_Arena.D.flat i_.1.1 i_.1.2.1 t.2)

theorem S176 (k : Nat) : (C176 k).Sound Tryz.prog :=
  fn_sound mixed (C176 k) (n := 13) (rs := rsOf Tryz.prog 176) [] [0, 1, 2, 3] (gj (g2 (gI 6) (gO arena_Arena.D [0, 1, 2, 3])) []) (fun i => (.s (.seg 1 []) (.s (.seg 2 []) (.condF (.s (.seg 2 []) (.s (.call (K228 k) [.K 0, .K 1, .K 2, .K 3] [0, 1, 2, 3]) (.s (.seg 2 []) .ret))))))) Tryz.func176 rfl rfl (by kernel_rfl) (fun _ => rfl) (fun i => by kernel_rfl) (fun i s => by kernel_rfl)

noncomputable def K176 (k : Nat) : SCon El Tryz.prog := ⟨C176 k, S176 k, Tryz.call176⟩

noncomputable abbrev C177p : List (PK El) := [pO arena_Arena.D, pI .i64, pI .i64]
noncomputable def C177 (k : Nat) : Con El := mkCon 177 C177p (fun i_ => skew_Fall k i_.1.2.2 i_.2.1 i_.2.2.1) 0 0 (fun i_ t ns_ as_ => .int .i64 t.1) (fun i_ t ns_ as_ => arena_Arena.D.flat i_.1.1 i_.1.2.1 t.2)

theorem S177 (k : Nat) : (C177 k).Sound Tryz.prog :=
  fn_sound mixed (C177 k) (n := 13) (rs := rsOf Tryz.prog 177) [] [0, 1, 2, 3] (gj (g2 (gI 6) (gO arena_Arena.D [0, 1, 2, 3])) []) (fun i => (.s (.seg 1 []) (.s (.seg 2 []) (.condF (.s (.seg 2 []) (.s (.call (K228 k) [.K 0, .K 1, .K 2, .K 3] [0, 1, 2, 3]) (.s (.seg 2 []) .ret))))))) Tryz.func177 rfl rfl (by kernel_rfl) (fun _ => rfl) (fun i => by kernel_rfl) (fun i s => by kernel_rfl)

noncomputable def K177 (k : Nat) : SCon El Tryz.prog := ⟨C177 k, S177 k, Tryz.call177⟩

noncomputable abbrev C178p : List (PK El) := [pO arena_Arena.D, pI .i64, pI .i64]
noncomputable def C178 : Con El := mkCon 178 C178p (fun i_ => fib_Fall i_.1.2.2 i_.2.1 i_.2.2.1) 0 0 (fun i_ t ns_ as_ => .int .i64 t) (fun i_ t ns_ as_ => arena_Arena.D.flat i_.1.1 i_.1.2.1 i_.1.2.2)

theorem S178 : (C178).Sound Tryz.prog := none_sound _ fun _ => rfl

noncomputable def K178 : SCon El Tryz.prog := ⟨C178, S178, Tryz.call178⟩

noncomputable abbrev C179p : List (PK El) := [pO arena_Arena.D, pI .i64, pI .i64]
noncomputable def C179 : Con El := mkCon 179 C179p (fun i_ => pairing_Fall i_.1.2.2 i_.2.1 i_.2.2.1) 0 0 (fun i_ t ns_ as_ => .int .i64 t) (fun i_ t ns_ as_ => arena_Arena.D.flat i_.1.1 i_.1.2.1 i_.1.2.2)

theorem S179 : (C179).Sound Tryz.prog := none_sound _ fun _ => rfl

noncomputable def K179 : SCon El Tryz.prog := ⟨C179, S179, Tryz.call179⟩

noncomputable abbrev C131p : List (PK El) := [pI .i64, pO arena_Arena.D, pI .i64, pI .i64]
noncomputable def C131 (k : Nat) : Con El := mkCon 131 C131p (fun i_ => kind_Fall k i_.1 i_.2.1.2.2 i_.2.2.1 i_.2.2.2.1) 0 0 (fun i_ t ns_ as_ => .int .i64 t.1) (fun i_ t ns_ as_ => arena_Arena.D.flat i_.2.1.1 i_.2.1.2.1 t.2)

theorem S131 (k : Nat) : (C131 k).Sound Tryz.prog :=
  fn_sound mixed (C131 k) (n := 41) (rs := rsOf Tryz.prog 131) [] [0, 1, 2, 3] (gj (g2 (gI 8) (gO arena_Arena.D [0, 1, 2, 3])) []) (fun i => (.s (.seg 1 []) (.s (.seg 1 []) (.blk (.s (.seg 2 []) (.cond (.s (.seg 3 []) (.s (.call (K175 k) [.K 0, .K 1, .K 2, .K 3] [0, 1, 2, 3]) (.s (.seg 1 []) .ret))) (.s (.seg 2 []) (.cond (.s (.seg 3 []) (.s (.call (K176 k) [.K 0, .K 1, .K 2, .K 3] [0, 1, 2, 3]) (.s (.seg 1 []) .ret))) (.s (.seg 2 []) (.cond (.s (.seg 3 []) (.s (.call (K177 k) [.K 0, .K 1, .K 2, .K 3] [0, 1, 2, 3]) (.s (.seg 1 []) .ret))) (.s (.seg 2 []) (.cond (.s (.seg 3 []) (.s (.call K178 [.K 0, .K 1, .K 2, .K 3] [0, 1, 2, 3]) (.s (.seg 1 []) .ret))) (.s (.seg 2 []) (.cond (.s (.seg 3 []) (.s (.call K179 [.K 0, .K 1, .K 2, .K 3] [0, 1, 2, 3]) (.s (.seg 1 []) .ret))) (.s (.seg 2 []) .ret))))))))))))))) Tryz.func131 rfl rfl (by kernel_rfl) (fun _ => rfl) (fun i => by kernel_rfl) (fun i s => by kernel_rfl)

noncomputable def K131 (k : Nat) : SCon El Tryz.prog := ⟨C131 k, S131 k, Tryz.call131⟩

noncomputable abbrev C89p : List (PK El) := [pO pq_Queues.D, pV api_Call.dv api_Call.val]
noncomputable def C89 (k : Nat) : Con El := mkCon 89 C89p (fun i_ => pq_Queues_decrease k i_.1.2.2 i_.2.1) 0 0 (fun i_ t ns_ as_ => .agg #[.int .i64 t.1.Why, .int .i64 t.1.Heap.At, .int .i64 t.1.Heap.Gen, .int .i64 t.1.Item.At, .int .i64 t.1.Item.Gen, .int .i64 t.1.Entry.Key, .int .i64 t.1.Entry.Serial, .int .i64 t.1.N]) (fun i_ t ns_ as_ => pq_Queues.D.flat i_.1.1 i_.1.2.1 t.2)

theorem S89 (k : Nat) : (C89 k).Sound Tryz.prog :=
  fn_sound mixed (C89 k) (n := 99) (rs := rsOf Tryz.prog 89) [.C 2000 0, .C 2000 1, .C 2000 2, .C 2000 3, .C 2000 4, .C 2000 5, .C 2000 6, .C 2000 7] [0, 1, 2, 3, 4, 5, 6, 7, 8, 9, 10, 11, 12, 13] (gj (g2 (gC 2000 0 8 api_Answer.dec) (gO pq_Queues.D [0, 1, 2, 3, 4, 5, 6, 7, 8, 9, 10, 11, 12, 13])) []) (fun i => (.s (.new 14 []) (.s (.new 15 []) (.drw (.q [0, 1, 2, 3, 4, 5] [.C 0 2, .C 14 6, .C 14 7] (.a 6 (.call K128 [.K 5, .K 6, .K 7, .K 8, .K 9, .K 10, .K 11, .K 12] [5, 6, 7, 8, 9, 10, 11, 12]) [] (.q [7, 8, 9, 10, 11] [] (.jg (api_Entry) 1 0 (gj (gC 18 0 2 api_Entry.dec) [nPk 18]) (fun st_ s_ ns_ as_ => ([(7, .pointer (some ⟨(nn ns_ 0), 0, none⟩))] ++ kp [0, 3, 4, 5, 6] st_, ka [0, 1, 2, 3, 4, 5, 6, 7, 8, 9, 10, 11, 12, 13, 15, 14] st_ ++ zipL [18] [.blk (nn ns_ 0) 57 [.int .i64 s_.Key, .int .i64 s_.Serial]])) (.drw (.q [0, 1, 2, 3, 4, 5] [.C 0 3, .C 14 6, .C 14 7] (.alt2 6 (.mget 13 1 28 api_Ref.key_ok (api_Entry.mk 0 0)) [] (.a 7 (.new 19 []) [] (.a 8 (.sto 19) [] (.rk [(19, 18), (18, 90018)] .leaf))) 7 (.new 20 []) [.C 14 6, .C 14 7, .C 0 3] (.a 6 (.mget 13 1 28 api_Ref.key_ok (api_Entry.mk 0 0)) [] (.a 8 (.sto 20) [] (.rk [(20, 18), (18, 90018)] .leaf)))))) (.blk (.s (.seg 3 []) (.cond (.s (.seg 1 []) (.s (.call K94 [] []) (.s (.sto 15) (.rk [(15, 2000), (2000, 92000)] .ret)))) (.s (.seg 6 [.C 14 8, .C 18 0]) (.cond (.s (.call K94 [] []) (.s (.sto 15) (.rk [(15, 2000), (2000, 92000)] .ret))) (.jg (api_Ref) 1 0 (gj (gC 23 0 2 api_Ref.dec) [nPk 23]) (fun st_ s_ ns_ as_ => ([(8, .pointer (some ⟨(nn ns_ 0), 0, none⟩))] ++ kp [0, 3, 4, 5, 7] st_, ka [18, 0, 1, 2, 3, 4, 5, 6, 7, 8, 9, 10, 11, 12, 13, 15, 14] st_ ++ zipL [23] [.blk (nn ns_ 0) 28 [.int .i64 s_.At, .int .i64 s_.Gen]])) (.drw (.q [0, 1, 2, 3, 4, 5] [.C 0 2, .C 14 6, .C 14 7] (.alt2 6 (.call K129 [.K 5, .K 6, .K 7, .K 8, .K 9, .K 10, .K 11, .K 12] [5, 6, 7, 8, 9, 10, 11, 12]) [] (.q [7, 8, 9] [] (.a 10 (.new 24 []) [] (.a 11 (.sto 24) [] (.q [12] [] (.rk [(24, 23), (23, 90023)] .leaf))))) 10 (.new 25 []) [.C 14 6, .C 14 7, .C 0 2] (.a 6 (.call K129 [.K 5, .K 6, .K 7, .K 8, .K 9, .K 10, .K 11, .K 12] [5, 6, 7, 8, 9, 10, 11, 12]) [] (.q [7, 8, 9] [] (.a 11 (.sto 25) [] (.q [12] [] (.rk [(25, 23), (23, 90023)] .leaf)))))))) (.drw (.q [0, 1, 2, 3, 4] [.C 0 2, .C 23 0, .C 23 1] (.a 5 (.call K92 [.K 5, .K 6, .K 7, .K 8, .K 9, .K 10, .K 11, .K 12] [5, 6, 7, 8, 9, 10, 11, 12]) [] (.q [6, 7, 8, 9, 10, 11, 12, 13, 14] [] (.drw (.q [0, 1, 2, 3, 4, 5, 6] [.C 0 1, .C 14 8] (.a 7 (.call K130 [.K 1, .K 2, .K 3, .K 4] [1, 2, 3, 4]) [] (.drw (.q [0, 1, 2, 3, 4, 5, 6, 7, 8, 9, 10, 11, 13] [.C 0 2, .C 23 0, .C 23 1, .C 0 1] (.a 12 (.call (K131 k) [.K 1, .K 2, .K 3, .K 4] [1, 2, 3, 4]) [.C 23 0, .C 23 1, .C 0 2] (.a 14 (.call K123 [.K 5, .K 6, .K 7, .K 8, .K 9, .K 10, .K 11, .K 12] [5, 6, 7, 8, 9, 10, 11, 12]) [] (.s (.seg 3 [.C 14 8]) (.s (.sto 18) (.drw (.q [0, 1, 2, 3, 4, 5, 6] [.C 0 3, .C 14 6, .C 14 7, .C 18 0, .C 18 1] (.a 7 (.mput 13 1 28 api_Ref.key_ok) [] (.s (.seg 2 [.C 18 0, .C 18 1]) (.s (.sto 15) (.rk [(15, 2000), (2000, 92000)] .ret))))))))))))))))))))))))))))))))) Tryz.func89 rfl rfl (by kernel_rfl) (fun _ => rfl) (fun i => by kernel_rfl) (fun i s => by kernel_rfl)

noncomputable def K89 (k : Nat) : SCon El Tryz.prog := ⟨C89 k, S89 k, Tryz.call89⟩

noncomputable abbrev C180p : List (PK El) := [pO arena_Arena.D, pI .i64, pI .i64]
noncomputable def C180 (k : Nat) : Con El := mkCon 180 C180p (fun i_ => leftist_Cut k i_.1.2.2 i_.2.1 i_.2.2.1) 1 1 (fun i_ t ns_ as_ => .int .i64 t.1) (fun i_ t ns_ as_ => arena_Arena.D.flat i_.1.1 (arena_Arena.A.mk i_.1.2.1.l_b i_.1.2.1.l_c (na as_ 0) (nn ns_ 0) i_.1.2.1.m__p) t.2)

theorem S180 (k : Nat) : (C180 k).Sound Tryz.prog :=
  fn_sound mixed (C180 k) (n := 49) (rs := rsOf Tryz.prog 180) [] [0, 1, 2, 3] (gj (g2 (gI 6) (gO arena_Arena.D [0, 1, 2, 3])) [nA arena_Arena.D [0, 1, 2, 3] (fun al => ([al.free_c], [al.free_b]))]) (fun i => (.s (.seg 1 []) (.s (.seg 2 []) (.condF (.s (.seg 2 []) (.s (.call K226 [.K 0, .K 1, .K 2, .K 3] [0, 1, 2, 3]) (.s (.seg 1 []) (.s (.seg 2 []) (.cond (.s (.seg 2 []) .ret) (.join (Bool × arena_Arena) 0 0 (gj (g2 (gB 28) (gO arena_Arena.D [0, 1, 2, 3])) []) (fun st_ s_ ns_ as_ => match (g2 (gP 0) (gA arena_Arena.D [0, 1, 2, 3])) st_ with | some x_ => ([(28, .bool s_.1)] ++ kp [0, 1, 7] st_, ka [] st_ ++ zipL [0, 1, 2, 3] (arena_Arena.D.flat (x_.1) (x_.2) s_.2)) | none => ([], [])) (.s (.seg 4 []) (.split 23 (.s (.seg 5 []) .leaf) (.s (.seg 2 []) (.s (.call K215 [.K 0, .K 1, .K 2, .K 3] [0, 1, 2, 3]) (.s (.seg 2 []) .leaf))))) (.cond (.s (.seg 2 []) (.s (.call (K166 k) [.K 0, .K 1, .K 2, .K 3] [0, 1, 2, 3]) (.s (.seg 5 []) (.s (.seg 2 []) .ret)))) (.s (.seg 2 []) (.s (.call (K227 k) [.K 0, .K 1, .K 2, .K 3] [0, 1, 2, 3]) (.s (.seg 2 []) (.s (.call (K166 k) [.K 0, .K 1, .K 2, .K 3] [0, 1, 2, 3]) (.s (.seg 5 []) (.s (.seg 3 []) (.s (.call (K207 k) [.K 0, .K 1, .K 2, .K 3] [0, 1, 2, 3]) (.s (.seg 1 []) .ret))))))))))))))))))) Tryz.func180 rfl rfl (by kernel_rfl) (fun _ => rfl) (fun i => by kernel_rfl) (fun i s => by kernel_rfl)

noncomputable def K180 (k : Nat) : SCon El Tryz.prog := ⟨C180 k, S180 k, Tryz.call180⟩

noncomputable abbrev C264p : List (PK El) := [pR 0, pI .i64]
noncomputable def C264 (k : Nat) : Con El := mkCon 264 C264p (fun i_ => slices_Index_int k i_.1.2.2 i_.2.1) 0 0 (fun i_ t ns_ as_ => .int .i64 t) (fun i_ t ns_ as_ => [])

noncomputable abbrev C264r (k : Nat) (i : Ins C264p) : Kn El → VC (C264 k).T := retC Tryz.prog (C264 k) (rsOf Tryz.prog 264) [] [] (gj (gI 4) []) i

noncomputable def C264l0 (i_ : Ins C264p) : BCon El (Int) := ⟨nav [1, 0, 1] (bodyOf Tryz.prog 264), Int, Int, Unit, (Int) ⊕ (Unit), fun r => r, fun _ _ => none, fun x_ => [(0, ⟨0, i_.1.1, i_.1.2.1, i_.1.2.2⟩)], fun x_ v_ ns_ as_ => [(0, .slice i_.1.1 i_.1.2.2.length i_.1.2.1), (1, .int .i64 i_.2.1), (7, .int .i64 (x_)), (8, .int .i64 v_)], fun x_ v_ ns_ as_ => [], 0, 0, fun x_ u_ ns_ as_ => [], fun x_ u_ ns_ as_ => []⟩

noncomputable def C264l0g (k : Nat) (i_ : Ins C264p) : Nat → (C264l0 i_).X → (C264l0 i_).V → Option (C264l0 i_).W := fun m_ (x_ : Int) (v_ : Int) => slices_Index_int_l0 i_.2.1 (x_) i_.1.2.2 m_ v_

theorem C264l0s (k : Nat) (i : Ins C264p) (m : Nat) : ((C264l0 i).at (C264l0g k i) m).Sound Tryz.prog 264 19 (C264r k i) :=
  loop_sound mixed (C264l0 i) (id := 0) (body := nav [1, 0, 1, 0, 0] (bodyOf Tryz.prog 264)) (C264l0g k i) (fun r => some (.inl r)) (fun u => .inr u) (gj (gI 8) []) (gj gU []) (fun m => (.s (.seg 1 []) (.cond (.blk (.s (.seg 2 []) (.s (.seg 3 []) (.s (.idx true 0 (.tmp 13) 2) (.s (.seg 3 [.A 2, .R 2 0]) (.cond (.s (.seg 2 []) .ret) (.s (.seg 2 []) .back))))))) .leaf))) (by kernel_rfl) (fun _ _ => rfl) (fun r y h => by cases h; rfl) (fun u => rfl) (fun m x v n1 n2 => by kernel_rfl) (fun m x v n1 n2 s => by kernel_rfl) m

theorem S264 (k : Nat) : (C264 k).Sound Tryz.prog :=
  fn_sound mixed (C264 k) (n := 19) (rs := rsOf Tryz.prog 264) [] [] (gj (gI 4) []) (fun i => (.s (.seg 1 []) (.s (.seg 3 []) (.loop ⟨(C264l0 i).at (C264l0g k i) k, C264l0s k i k⟩ (gl (gI 7) (gI 8) []) (.s (.seg 1 []) .ret))))) Tryz.func264 rfl rfl (by kernel_rfl) (fun _ => rfl) (fun i => by kernel_rfl) (fun i s => by kernel_rfl)

noncomputable def K264 (k : Nat) : SCon El Tryz.prog := ⟨C264 k, S264 k, Tryz.call264⟩

noncomputable abbrev C232p : List (PK El) := [pR 0, pI .i64]
noncomputable def C232 (k : Nat) : Con El := mkCon 232 C232p (fun i_ => slices_Contains_int k i_.1.2.2 i_.2.1) 0 0 (fun i_ t ns_ as_ => .bool t) (fun i_ t ns_ as_ => [])

theorem S232 (k : Nat) : (C232 k).Sound Tryz.prog :=
  fn_sound mixed (C232 k) (n := 9) (rs := rsOf Tryz.prog 232) [] [] (gj (gB 4) []) (fun i => (.s (.seg 1 []) (.s (.seg 2 []) (.s (.call (K264 k) [.R 0] []) (.s (.seg 2 []) .ret))))) Tryz.func232 rfl rfl (by kernel_rfl) (fun _ => rfl) (fun i => by kernel_rfl) (fun i s => by kernel_rfl)

noncomputable def K232 (k : Nat) : SCon El Tryz.prog := ⟨C232 k, S232 k, Tryz.call232⟩

noncomputable abbrev C181p : List (PK El) := [pO arena_Arena.D, pI .i64, pI .i64]
noncomputable def C181 (k : Nat) : Con El := mkCon 181 C181p (fun i_ => binomial_Cut k i_.1.2.2 i_.2.1 i_.2.2.1) 1 1 (fun i_ t ns_ as_ => .int .i64 t.1) (fun i_ t ns_ as_ => arena_Arena.D.flat i_.1.1 (arena_Arena.A.mk i_.1.2.1.l_b i_.1.2.1.l_c (na as_ 0) (nn ns_ 0) i_.1.2.1.m__p) t.2)

theorem S181 (k : Nat) : (C181 k).Sound Tryz.prog :=
  fn_sound mixed (C181 k) (n := 37) (rs := rsOf Tryz.prog 181) [] [0, 1, 2, 3] (gj (g2 (gI 6) (gO arena_Arena.D [0, 1, 2, 3])) [nA arena_Arena.D [0, 1, 2, 3] (fun al => ([al.free_c], [al.free_b]))]) (fun i => (.s (.seg 1 []) (.s (.seg 2 []) (.condF (.s (.seg 2 []) (.s (.call K226 [.K 0, .K 1, .K 2, .K 3] [0, 1, 2, 3]) (.s (.seg 1 []) (.cond (.s (.seg 2 []) .ret) (.s (.seg 2 []) (.s (.call (K228 k) [.K 0, .K 1, .K 2, .K 3] [0, 1, 2, 3]) (.s (.seg 1 []) (.s (.seg 2 []) (.s (.call (K209 k) [.K 0, .K 1, .K 2, .K 3] [4, 0, 1, 2, 3]) (.s (.seg 1 []) (.s (.seg 2 []) (.s (.call (K232 k) [.O 4] []) (.s (.seg 1 []) (.cond (.s (.seg 2 []) .ret) (.s (.seg 3 []) (.s (.call (K220 k) [.K 0, .K 1, .K 2, .K 3, .K 4] [0, 1, 2, 3]) (.s (.seg 5 []) (.s (.seg 2 []) .ret)))))))))))))))))))))) Tryz.func181 rfl rfl (by kernel_rfl) (fun _ => rfl) (fun i => by kernel_rfl) (fun i s => by kernel_rfl)

noncomputable def K181 (k : Nat) : SCon El Tryz.prog := ⟨C181 k, S181 k, Tryz.call181⟩

noncomputable abbrev C182p : List (PK El) := [pO arena_Arena.D, pI .i64, pI .i64]
noncomputable def C182 (k : Nat) : Con El := mkCon 182 C182p (fun i_ => skew_Cut k i_.1.2.2 i_.2.1 i_.2.2.1) 1 1 (fun i_ t ns_ as_ => .int .i64 t.1) (fun i_ t ns_ as_ => arena_Arena.D.flat i_.1.1 (arena_Arena.A.mk i_.1.2.1.l_b i_.1.2.1.l_c (na as_ 0) (nn ns_ 0) i_.1.2.1.m__p) t.2)

theorem S182 (k : Nat) : (C182 k).Sound Tryz.prog :=
  fn_sound mixed (C182 k) (n := 37) (rs := rsOf Tryz.prog 182) [] [0, 1, 2, 3] (gj (g2 (gI 6) (gO arena_Arena.D [0, 1, 2, 3])) [nA arena_Arena.D [0, 1, 2, 3] (fun al => ([al.free_c], [al.free_b]))]) (fun i => (.s (.seg 1 []) (.s (.seg 2 []) (.condF (.s (.seg 2 []) (.s (.call K226 [.K 0, .K 1, .K 2, .K 3] [0, 1, 2, 3]) (.s (.seg 1 []) (.cond (.s (.seg 2 []) .ret) (.s (.seg 2 []) (.s (.call (K228 k) [.K 0, .K 1, .K 2, .K 3] [0, 1, 2, 3]) (.s (.seg 1 []) (.s (.seg 2 []) (.s (.call (K209 k) [.K 0, .K 1, .K 2, .K 3] [4, 0, 1, 2, 3]) (.s (.seg 1 []) (.s (.seg 2 []) (.s (.call (K232 k) [.O 4] []) (.s (.seg 1 []) (.cond (.s (.seg 2 []) .ret) (.s (.seg 3 []) (.s (.call (K221 k) [.K 0, .K 1, .K 2, .K 3, .K 4] [0, 1, 2, 3]) (.s (.seg 5 []) (.s (.seg 2 []) .ret)))))))))))))))))))))) Tryz.func182 rfl rfl (by kernel_rfl) (fun _ => rfl) (fun i => by kernel_rfl) (fun i s => by kernel_rfl)

noncomputable def K182 (k : Nat) : SCon El Tryz.prog := ⟨C182 k, S182 k, Tryz.call182⟩

noncomputable abbrev C183p : List (PK El) := [pO arena_Arena.D, pI .i64, pI .i64]
noncomputable def C183 : Con El := mkCon 183 C183p (fun i_ => fib_Cut i_.1.2.2 i_.2.1 i_.2.2.1) 0 0 (fun i_ t ns_ as_ => .int .i64 t) (fun i_ t ns_ as_ => arena_Arena.D.flat i_.1.1 i_.1.2.1 i_.1.2.2)

theorem S183 : (C183).Sound Tryz.prog := none_sound _ fun _ => rfl

noncomputable def K183 : SCon El Tryz.prog := ⟨C183, S183, Tryz.call183⟩

noncomputable abbrev C184p : List (PK El) := [pO arena_Arena.D, pI .i64, pI .i64]
noncomputable def C184 : Con El := mkCon 184 C184p (fun i_ => pairing_Cut i_.1.2.2 i_.2.1 i_.2.2.1) 0 0 (fun i_ t ns_ as_ => .int .i64 t) (fun i_ t ns_ as_ => arena_Arena.D.flat i_.1.1 i_.1.2.1 i_.1.2.2)

theorem S184 : (C184).Sound Tryz.prog := none_sound _ fun _ => rfl

noncomputable def K184 : SCon El Tryz.prog := ⟨C184, S184, Tryz.call184⟩

noncomputable abbrev C132p : List (PK El) := [pI .i64, pO arena_Arena.D, pI .i64, pI .i64]
noncomputable def C132 (k : Nat) : Con El := mkCon 132 C132p (fun i_ => kind_Cut k i_.1 i_.2.1.2.2 i_.2.2.1 i_.2.2.2.1) 1 1 (fun i_ t ns_ as_ => .int .i64 t.1) (fun i_ t ns_ as_ => arena_Arena.D.flat i_.2.1.1 (arena_Arena.A.mk i_.2.1.2.1.l_b i_.2.1.2.1.l_c (na as_ 0) (nn ns_ 0) i_.2.1.2.1.m__p) t.2)

theorem S132 (k : Nat) : (C132 k).Sound Tryz.prog :=
  fn_sound mixed (C132 k) (n := 41) (rs := rsOf Tryz.prog 132) [] [0, 1, 2, 3] (gj (g2 (gI 8) (gO arena_Arena.D [0, 1, 2, 3])) [nA arena_Arena.D [0, 1, 2, 3] (fun al => ([al.free_c], [al.free_b]))]) (fun i => (.s (.seg 1 []) (.s (.seg 1 []) (.blk (.s (.seg 2 []) (.cond (.s (.seg 3 []) (.s (.call (K180 k) [.K 0, .K 1, .K 2, .K 3] [0, 1, 2, 3]) (.s (.seg 1 []) .ret))) (.s (.seg 2 []) (.cond (.s (.seg 3 []) (.s (.call (K181 k) [.K 0, .K 1, .K 2, .K 3] [0, 1, 2, 3]) (.s (.seg 1 []) .ret))) (.s (.seg 2 []) (.cond (.s (.seg 3 []) (.s (.call (K182 k) [.K 0, .K 1, .K 2, .K 3] [0, 1, 2, 3]) (.s (.seg 1 []) .ret))) (.s (.seg 2 []) (.cond (.s (.seg 3 []) (.s (.call K183 [.K 0, .K 1, .K 2, .K 3] [0, 1, 2, 3]) (.s (.seg 1 []) .ret))) (.s (.seg 2 []) (.cond (.s (.seg 3 []) (.s (.call K184 [.K 0, .K 1, .K 2, .K 3] [0, 1, 2, 3]) (.s (.seg 1 []) .ret))) (.s (.seg 2 []) .ret))))))))))))))) Tryz.func132 rfl rfl (by kernel_rfl) (fun _ => rfl) (fun i => by kernel_rfl) (fun i s => by kernel_rfl)

noncomputable def K132 (k : Nat) : SCon El Tryz.prog := ⟨C132 k, S132 k, Tryz.call132⟩

noncomputable abbrev C90p : List (PK El) := [pO pq_Queues.D, pV api_Ref.dv api_Ref.val]
noncomputable def C90 (k : Nat) : Con El := mkCon 90 C90p (fun i_ => pq_Queues_remove k i_.1.2.2 i_.2.1) 10 6 (fun i_ t ns_ as_ => .agg #[.int .i64 t.1.Why, .int .i64 t.1.Heap.At, .int .i64 t.1.Heap.Gen, .int .i64 t.1.Item.At, .int .i64 t.1.Item.Gen, .int .i64 t.1.Entry.Key, .int .i64 t.1.Entry.Serial, .int .i64 t.1.N]) (fun i_ t ns_ as_ => pq_Queues.D.flat i_.1.1 (pq_Queues.A.mk i_.1.2.1.a__p (arena_Arena.A.mk (na as_ 0) (nn ns_ 0) (na as_ 1) (nn ns_ 1) (nn ns_ 2)) i_.1.2.1.t__p (slots_Table.A.mk (nn ns_ 3) (pool_Pool_slots_heap.A.mk (na as_ 2) (nn ns_ 4) (na as_ 3) (nn ns_ 5)) (nn ns_ 6) (pool_Pool_slots_thing.A.mk (na as_ 4) (nn ns_ 7) (na as_ 5) (nn ns_ 8)) (nn ns_ 9)) i_.1.2.1.entries_p) t.2)

theorem S90 (k : Nat) : (C90 k).Sound Tryz.prog :=
  fn_sound mixed (C90 k) (n := 66) (rs := rsOf Tryz.prog 90) [.C 2000 0, .C 2000 1, .C 2000 2, .C 2000 3, .C 2000 4, .C 2000 5, .C 2000 6, .C 2000 7] [0, 1, 2, 3, 4, 5, 6, 7, 8, 9, 10, 11, 12, 13] (gj (g2 (gC 2000 0 8 api_Answer.dec) (gO pq_Queues.D [0, 1, 2, 3, 4, 5, 6, 7, 8, 9, 10, 11, 12, 13])) [nA pq_Queues.D [0, 1, 2, 3, 4, 5, 6, 7, 8, 9, 10, 11, 12, 13] (fun al => ([al.a__a.l_c, al.a__a.free_c, al.a__a.m__p, al.t__a.heaps_p, al.t__a.heaps_a.l_c, al.t__a.heaps_a.free_c, al.t__a.items_p, al.t__a.items_a.l_c, al.t__a.items_a.free_c, al.t__a.at__p], [al.a__a.l_b, al.a__a.free_b, al.t__a.heaps_a.l_b, al.t__a.heaps_a.free_b, al.t__a.items_a.l_b, al.t__a.items_a.free_b]))]) (fun i => (.s (.new 14 []) (.s (.new 15 []) (.drw (.q [0, 1, 2, 3, 4] [.C 0 2, .C 14 0, .C 14 1] (.a 5 (.call K128 [.K 5, .K 6, .K 7, .K 8, .K 9, .K 10, .K 11, .K 12] [5, 6, 7, 8, 9, 10, 11, 12]) [] (.q [6, 7, 8, 9, 10] [] (.s (.seg 2 []) (.cond (.s (.seg 1 []) (.s (.call K94 [] []) (.s (.sto 15) (.rk [(15, 2000), (2000, 92000)] .ret)))) (.jg (api_Ref) 1 0 (gj (gC 18 0 2 api_Ref.dec) [nPk 18]) (fun st_ s_ ns_ as_ => ([(7, .pointer (some ⟨(nn ns_ 0), 0, none⟩))] ++ kp [0, 3, 4, 5] st_, ka [0, 1, 2, 3, 4, 5, 6, 7, 8, 9, 10, 11, 12, 13, 15, 14] st_ ++ zipL [18] [.blk (nn ns_ 0) 28 [.int .i64 s_.At, .int .i64 s_.Gen]])) (.drw (.q [0, 1, 2, 3, 4] [.C 0 2, .C 14 0, .C 14 1] (.alt2 5 (.call K129 [.K 5, .K 6, .K 7, .K 8, .K 9, .K 10, .K 11, .K 12] [5, 6, 7, 8, 9, 10, 11, 12]) [] (.q [6, 7, 8] [] (.a 9 (.new 19 []) [] (.a 10 (.sto 19) [] (.q [11] [] (.rk [(19, 18), (18, 90018)] .leaf))))) 9 (.new 20 []) [.C 14 0, .C 14 1, .C 0 2] (.a 5 (.call K129 [.K 5, .K 6, .K 7, .K 8, .K 9, .K 10, .K 11, .K 12] [5, 6, 7, 8, 9, 10, 11, 12]) [] (.q [6, 7, 8] [] (.a 10 (.sto 20) [] (.q [11] [] (.rk [(20, 18), (18, 90018)] .leaf)))))))) (.drw (.q [0, 1, 2, 3, 4] [.C 0 2, .C 18 0, .C 18 1] (.a 5 (.call K92 [.K 5, .K 6, .K 7, .K 8, .K 9, .K 10, .K 11, .K 12] [5, 6, 7, 8, 9, 10, 11, 12]) [] (.q [6, 7, 8, 9, 10, 11, 12, 13, 14] [] (.drw (.q [0, 1, 2, 3, 4, 5, 6, 7, 8, 9, 10, 11, 13, 14] [.C 0 2, .C 18 0, .C 18 1, .C 0 1] (.a 12 (.call (K132 k) [.K 1, .K 2, .K 3, .K 4] [1, 2, 3, 4]) [.C 18 0, .C 18 1, .C 0 2] (.a 15 (.call K123 [.K 5, .K 6, .K 7, .K 8, .K 9, .K 10, .K 11, .K 12] [5, 6, 7, 8, 9, 10, 11, 12]) [] (.s (.seg 2 [.C 14 0, .C 14 1]) (.s (.call K127 [.K 0, .K 1, .K 2, .K 3, .K 4, .K 5, .K 6, .K 7, .K 8, .K 9, .K 10, .K 11, .K 12, .K 13] [0, 1, 2, 3, 4, 5, 6, 7, 8, 9, 10, 11, 12, 13]) (.s (.seg 1 []) (.s (.sto 15) (.rk [(15, 2000), (2000, 92000)] .ret))))))))))))))))))))))) Tryz.func90 rfl rfl (by kernel_rfl) (fun _ => rfl) (fun i => by kernel_rfl) (fun i s => by kernel_rfl)

noncomputable def K90 (k : Nat) : SCon El Tryz.prog := ⟨C90 k, S90 k, Tryz.call90⟩

noncomputable abbrev C198p : List (PK El) := [pO pool_Pool_slots_thing.D]
noncomputable def C198 (k : Nat) : Con El := mkCon 198 C198p (fun i_ => pool_Pool_slots_thing_All k i_.1.2.2) 1 1 (fun i_ t ns_ as_ => .slice (na as_ 0) t.length (nn ns_ 0)) (fun i_ t ns_ as_ => [.sl 6 28 (na as_ 0) (nn ns_ 0) t] ++ pool_Pool_slots_thing.D.flat i_.1.1 i_.1.2.1 i_.1.2.2)

noncomputable abbrev C198r (k : Nat) (i : Ins C198p) : Kn El → VC (C198 k).T := retC Tryz.prog (C198 k) (rsOf Tryz.prog 198) [] [1000, 0, 1, 2] (gj (gL 6 1000) [nSk 1000]) i

noncomputable def C198l0 (i_ : Ins C198p) : BCon El ((List api_Ref)) := ⟨nav [1, 1, 0, 1] (bodyOf Tryz.prog 198), Int, (List api_Ref) × Int, (List api_Ref), (List api_Ref), fun u => .inr u, fun _ _ => none, fun x_ => [], fun x_ v_ ns_ as_ => [(3, .slice (na as_ 0) v_.1.length (nn ns_ 0)), (9, .slice i_.1.2.1.l_b i_.1.2.2.l.length i_.1.2.1.l_c), (10, .int .i64 (x_)), (11, .int .i64 v_.2)], fun x_ v_ ns_ as_ => zipL [16] [.sl 6 28 (na as_ 0) (nn ns_ 0) v_.1] ++ zipL [0, 1, 2] (pool_Pool_slots_thing.D.flat i_.1.1 i_.1.2.1 i_.1.2.2), 1, 1, fun x_ u_ ns_ as_ => [(3, .slice (na as_ 0) u_.length (nn ns_ 0))], fun x_ u_ ns_ as_ => zipL [15] [.sl 6 28 (na as_ 0) (nn ns_ 0) u_] ++ zipL [0, 1, 2] (pool_Pool_slots_thing.D.flat i_.1.1 i_.1.2.1 i_.1.2.2)⟩

noncomputable def C198l0g (k : Nat) (i_ : Ins C198p) : Nat → (C198l0 i_).X → (C198l0 i_).V → Option (C198l0 i_).W := fun m_ (x_ : Int) (v_ : (List api_Ref) × Int) => pool_Pool_slots_thing_All_l0 (x_) i_.1.2.2 m_ v_.1 v_.2

theorem C198l0s (k : Nat) (i : Ins C198p) (m : Nat) : ((C198l0 i).at (C198l0g k i) m).Sound Tryz.prog 198 27 (C198r k i) :=
  loop_sound mixed (C198l0 i) (id := 0) (body := nav [1, 1, 0, 1, 0, 0] (bodyOf Tryz.prog 198)) (C198l0g k i) (fun _ => none) (fun u => u) (gj (g2 (gL 6 16) (gI 11)) [nSk 16]) (gj (gL 6 15) [nSk 15]) (fun m => (.s (.seg 1 []) (.cond (.join ((List api_Ref)) 1 1 (gj (gL 6 20) [nSk 20]) (fun st_ s_ ns_ as_ => ([(3, .slice (na as_ 0) s_.length (nn ns_ 0))] ++ kp [9, 10, 11] st_, ka [0, 1, 2] st_ ++ zipL [20] [.sl 6 28 (na as_ 0) (nn ns_ 0) s_])) (.blk (.s (.seg 1 []) (.s (.idx false 1 (.tmp 11) 5) (.s (.seg 2 [.A 5, .X 5 1 0, .X 5 1 1, .X 5 1 2, .X 5 1 3, .X 5 1 4]) (.s (.new 21 []) (.s (.seg 1 []) (.s (.sto 21) (.s (.seg 2 [.C 21 1]) (.cond (.s (.seg 5 [.C 21 0]) (.s (.bld 22 6 28) (.s (.app 16 (.O 22)) (.s (.seg 1 []) (.rk [(16, 20), (20, 90020)] .leaf))))) (.rk [(16, 20), (20, 90020)] .leaf)))))))))) (.s (.seg 2 []) (.rk [(20, 16), (16, 90016)] .back))) (.rk [(16, 15), (15, 90015)] .leaf)))) (by kernel_rfl) (fun _ _ => rfl) (fun r y h => by cases h) (fun u => rfl) (fun m x v n1 n2 => by kernel_rfl) (fun m x v n1 n2 s => by kernel_rfl) m

theorem S198 (k : Nat) : (C198 k).Sound Tryz.prog :=
  fn_sound mixed (C198 k) (n := 27) (rs := rsOf Tryz.prog 198) [] [1000, 0, 1, 2] (gj (gL 6 1000) [nSk 1000]) (fun i => (.s (.seg 1 []) (.s (.seg 1 []) (.s (.seg 6 [.C 0 1]) (.s (.nil 17 6 28) (.rk [(17, 16), (16, 90016)] (.loop ⟨(C198l0 i).at (C198l0g k i) k, C198l0s k i k⟩ (gl (gI 10) (g2 (gL 6 16) (gI 11)) [nSk 16]) (.s (.seg 2 []) (.rk [(15, 1000), (1000, 91000)] .ret))))))))) Tryz.func198 rfl rfl (by kernel_rfl) (fun _ => rfl) (fun i => by kernel_rfl) (fun i s => by kernel_rfl)

noncomputable def K198 (k : Nat) : SCon El Tryz.prog := ⟨C198 k, S198 k, Tryz.call198⟩

noncomputable abbrev C137p : List (PK El) := [pO slots_Table.D, pV api_Ref.dv api_Ref.val]
noncomputable def C137 (k : Nat) : Con El := mkCon 137 C137p (fun i_ => slots_Table_List k i_.1.2.2 i_.2.1) 1 1 (fun i_ t ns_ as_ => .slice (na as_ 0) t.length (nn ns_ 0)) (fun i_ t ns_ as_ => [.sl 6 28 (na as_ 0) (nn ns_ 0) t] ++ slots_Table.D.flat i_.1.1 i_.1.2.1 i_.1.2.2)

noncomputable abbrev C137r (k : Nat) (i : Ins C137p) : Kn El → VC (C137 k).T := retC Tryz.prog (C137 k) (rsOf Tryz.prog 137) [] [1000, 0, 1, 2, 3, 4, 5, 6, 7] (gj (gL 6 1000) [nSk 1000]) i

noncomputable def C137l0 (i_ : Ins C137p) : BCon El ((List api_Ref)) := ⟨nav [1, 1, 0, 1] (bodyOf Tryz.prog 137), (List api_Ref) × (Option Addr × Nat) × Nat × Int, (List api_Ref) × Int, (List api_Ref), (List api_Ref), fun u => .inr u, fun _ _ => none, fun x_ => [], fun x_ v_ ns_ as_ => [(0, .pointer (some ⟨i_.1.1, 0, none⟩)), (3, .pointer (some ⟨x_.2.2.1, 0, none⟩)), (5, .slice (na as_ 0) v_.1.length (nn ns_ 0)), (14, .slice (x_.2.1.1) (x_.1).length (x_.2.1.2)), (15, .int .i64 (x_.2.2.2)), (16, .int .i64 v_.2)], fun x_ v_ ns_ as_ => zipL [39] [.sl 6 28 (na as_ 0) (nn ns_ 0) v_.1] ++ zipL [0, 1, 2, 3, 4, 5, 6, 7] (slots_Table.D.flat i_.1.1 i_.1.2.1 i_.1.2.2) ++ zipL [9] [.sl 6 28 (x_.2.1.1) (x_.2.1.2) (x_.1)] ++ zipL [8] [.blk (x_.2.2.1) 28 [.int .i64 i_.2.1.At, .int .i64 i_.2.1.Gen]], 1, 1, fun x_ u_ ns_ as_ => [(5, .slice (na as_ 0) u_.length (nn ns_ 0))], fun x_ u_ ns_ as_ => zipL [38] [.sl 6 28 (na as_ 0) (nn ns_ 0) u_] ++ zipL [0, 1, 2, 3, 4, 5, 6, 7] (slots_Table.D.flat i_.1.1 i_.1.2.1 i_.1.2.2)⟩

noncomputable def C137l0g (k : Nat) (i_ : Ins C137p) : Nat → (C137l0 i_).X → (C137l0 i_).V → Option (C137l0 i_).W := fun m_ (x_ : (List api_Ref) × (Option Addr × Nat) × Nat × Int) (v_ : (List api_Ref) × Int) => slots_Table_List_l0 (x_.2.2.2) i_.1.2.2 (x_.1) i_.2.1.At i_.2.1.Gen m_ v_.1 v_.2

theorem C137l0s (k : Nat) (i : Ins C137p) (m : Nat) : ((C137l0 i).at (C137l0g k i) m).Sound Tryz.prog 137 39 (C137r k i) :=
  loop_sound mixed (C137l0 i) (id := 0) (body := nav [1, 1, 0, 1, 0, 0] (bodyOf Tryz.prog 137)) (C137l0g k i) (fun _ => none) (fun u => u) (gj (g2 (gL 6 39) (gI 16)) [nSk 39]) (gj (gL 6 38) [nSk 38]) (fun m => (.s (.seg 1 []) (.cond (.join ((List api_Ref)) 1 1 (gj (gL 6 47) [nSk 47]) (fun st_ s_ ns_ as_ => ([(5, .slice (na as_ 0) s_.length (nn ns_ 0))] ++ kp [0, 3, 14, 15, 16] st_, ka [0, 1, 2, 3, 4, 5, 6, 7, 9, 8] st_ ++ zipL [47] [.sl 6 28 (na as_ 0) (nn ns_ 0) s_])) (.blk (.s (.idx false 9 (.tmp 16) 5) (.s (.seg 2 [.A 5, .X 5 9 0, .X 5 9 1]) (.s (.new 48 []) (.s (.sto 48) (.jg (slots_thing) 1 0 (gj (gC 51 0 3 slots_thing.dec) [nPk 51]) (fun st_ s_ ns_ as_ => ([(8, .pointer (some ⟨(nn ns_ 0), 0, none⟩))] ++ kp [0, 3, 5, 7, 14, 15, 16] st_, ka [48, 39, 0, 1, 2, 3, 4, 5, 6, 7, 9, 8] st_ ++ zipL [51] [.blk (nn ns_ 0) 186 [.int .i64 s_.cell, .int .i64 s_.heap.At, .int .i64 s_.heap.Gen]])) (.drw (.q [0, 1, 2, 3, 4] [.C 0 1, .C 48 0, .C 48 1] (.alt2 5 (.call K173 [.K 4, .K 5, .K 6] [4, 5, 6]) [] (.q [6, 7, 8] [] (.a 9 (.new 52 []) [] (.a 10 (.sto 52) [] (.q [11] [] (.rk [(52, 51), (51, 90051)] .leaf))))) 9 (.new 53 []) [.C 48 0, .C 48 1, .C 0 1] (.a 5 (.call K173 [.K 4, .K 5, .K 6] [4, 5, 6]) [] (.q [6, 7, 8] [] (.a 10 (.sto 53) [] (.q [11] [] (.rk [(53, 51), (51, 90051)] .leaf)))))))) (.s (.seg 3 [.C 51 1, .C 51 2, .C 8 0, .C 8 1]) (.s (.eqs api_Ref.eqD) (.cond (.s (.seg 2 [.C 48 0, .C 48 1]) (.s (.bld 54 6 28) (.s (.app 39 (.O 54)) (.s (.seg 1 []) (.rk [(39, 47), (47, 90047)] .leaf))))) (.rk [(39, 47), (47, 90047)] .leaf)))))))))) (.s (.seg 2 []) (.rk [(47, 39), (39, 90039)] .back))) (.rk [(39, 38), (38, 90038)] .leaf)))) (by kernel_rfl) (fun _ _ => rfl) (fun r y h => by cases h) (fun u => rfl) (fun m x v n1 n2 => by kernel_rfl) (fun m x v n1 n2 s => by kernel_rfl) m

theorem S137 (k : Nat) : (C137 k).Sound Tryz.prog :=
  fn_sound mixed (C137 k) (n := 39) (rs := rsOf Tryz.prog 137) [] [1000, 0, 1, 2, 3, 4, 5, 6, 7] (gj (gL 6 1000) [nSk 1000]) (fun i => (.s (.new 8 []) (.s (.seg 1 []) (.s (.seg 1 []) (.s (.seg 4 [.C 0 1]) (.s (.call (K198 k) [.K 4, .K 5, .K 6] [9, 4, 5, 6]) (.s (.seg 2 []) (.s (.nil 40 6 28) (.rk [(40, 39), (39, 90039)] (.loop ⟨(C137l0 i).at (C137l0g k i) k, C137l0s k i k⟩ (gl (g2 (gL 6 9) (g2 (gh 9) (g2 (gP 8) (gI 15)))) (g2 (gL 6 39) (gI 16)) [nSk 39]) (.s (.seg 2 []) (.rk [(38, 1000), (1000, 91000)] .ret)))))))))))) Tryz.func137 rfl rfl (by kernel_rfl) (fun _ => rfl) (fun i => by kernel_rfl) (fun i s => by kernel_rfl)

noncomputable def K137 (k : Nat) : SCon El Tryz.prog := ⟨C137 k, S137 k, Tryz.call137⟩

noncomputable abbrev C185p : List (PK El) := [pO pool_Pool_slots_thing.D, pV api_Ref.dv api_Ref.val, pV slots_thing.dv slots_thing.val]
noncomputable def C185 : Con El := mkCon 185 C185p (fun i_ => pool_Pool_slots_thing_Set i_.1.2.2 i_.2.1 i_.2.2.1) 0 0 (fun i_ t ns_ as_ => .int .i64 t.1) (fun i_ t ns_ as_ => pool_Pool_slots_thing.D.flat i_.1.1 i_.1.2.1 t.2)

theorem S185 : (C185).Sound Tryz.prog :=
  fn_sound mixed (C185) (n := 22) (rs := rsOf Tryz.prog 185) [] [0, 1, 2] (gj (g2 (gI 6) (gO pool_Pool_slots_thing.D [0, 1, 2])) []) (fun i => (.s (.new 3 []) (.s (.new 4 []) (.s (.seg 1 []) (.s (.seg 2 [.C 3 0, .C 3 1]) (.s (.call K225 [.K 0, .K 1, .K 2] [0, 1, 2]) (.eo 12 0 1 0 (.s (.seg 5 []) (.s (.seg 2 []) (.join (Unit) 0 0 (gj gU []) (fun st_ s_ ns_ as_ => ([] ++ kp [8] st_, ka [0, 1, 2] st_)) (.cond .dead .leaf) (.s (.seg 2 []) .ret)))) (.s (.seg 5 []) (.s (.seg 2 []) (.join (pool_Pool_slots_thing) 0 0 (gj (gO pool_Pool_slots_thing.D [0, 1, 2]) []) (fun st_ s_ ns_ as_ => match (g2 (gP 0) (gA pool_Pool_slots_thing.D [0, 1, 2])) st_ with | some x_ => ([] ++ kp [8] st_, ka [] st_ ++ zipL [0, 1, 2] (pool_Pool_slots_thing.D.flat (x_.1) (x_.2) s_)) | none => ([], [])) (.cond (.s (.seg 4 [.C 4 0, .C 4 1, .C 4 2]) (.s (.sset 1 0 2) (.s (.rlc 0 0 1) .leaf))) .leaf) (.s (.seg 2 []) .ret))))))))))) Tryz.func185 rfl rfl (by kernel_rfl) (fun _ => rfl) (fun i => by kernel_rfl) (fun i s => by kernel_rfl)

noncomputable def K185 : SCon El Tryz.prog := ⟨C185, S185, Tryz.call185⟩

noncomputable abbrev C186p : List (PK El) := [pO pool_Pool_slots_heap.D, pV api_Ref.dv api_Ref.val]
noncomputable def C186 : Con El := mkCon 186 C186p (fun i_ => pool_Pool_slots_heap_Give i_.1.2.2 i_.2.1) 1 1 (fun i_ t ns_ as_ => .tuple #[.agg #[.int .i64 t.1.kind, .int .i64 t.1.root, .int .i64 t.1.n], .int .i64 t.2.1]) (fun i_ t ns_ as_ => pool_Pool_slots_heap.D.flat i_.1.1 (pool_Pool_slots_heap.A.mk i_.1.2.1.l_b i_.1.2.1.l_c (na as_ 0) (nn ns_ 0)) t.2.2)

theorem S186 : (C186).Sound Tryz.prog :=
  fn_sound mixed (C186) (n := 43) (rs := rsOf Tryz.prog 186) [.C 2000 0, .C 2000 1, .C 2000 2] [0, 1, 2] (gj (g2 (gC 2000 0 3 slots_heap.dec) (g2 (gI 5) (gO pool_Pool_slots_heap.D [0, 1, 2]))) [nA pool_Pool_slots_heap.D [0, 1, 2] (fun al => ([al.free_c], [al.free_b]))]) (fun i => (.s (.new 3 []) (.s (.new 4 []) (.s (.seg 1 []) (.s (.new 5 []) (.s (.seg 2 [.C 3 0, .C 3 1]) (.s (.call K192 [.K 0, .K 1, .K 2] [0, 1, 2]) (.eo 13 0 1 0 (.s (.seg 5 []) (.s (.seg 2 []) (.cond (.s (.seg 2 [.C 5 0, .C 5 1, .C 5 2]) (.s (.sto 4) (.s (.seg 1 []) (.rk [(4, 2000), (2000, 92000)] .ret)))) .dead))) (.s (.seg 5 []) (.s (.seg 2 []) (.cond (.s (.seg 2 [.C 5 0, .C 5 1, .C 5 2]) (.s (.sto 4) (.s (.seg 1 []) (.rk [(4, 2000), (2000, 92000)] .ret)))) (.s (.seg 4 [.X 0 1 2, .X 0 1 3, .X 0 1 4]) (.s (.new 6 []) (.s (.sto 6) (.drw (.q [0, 1, 2, 3, 4] [.C 5 0, .C 5 1, .C 5 2] (.a 5 (.sset 1 0 1) [.C 5 0, .C 5 1, .C 5 2] (.s (.rlc 0 0 1) (.q [6, 7] [] (.a 8 (.sset 1 0 2) [] (.s (.rlc 0 0 1) (.drw (.q [0, 1, 2, 3, 4, 5, 6] [.C 0 2, .C 3 0] (.a 7 (.bld 8 0 3) [.C 0 2] (.a 8 (.app 2 (.O 8)) [] (.q [9, 10] [] (.a 11 (.sto 0) [] (.s (.seg 1 [.C 6 0, .C 6 1, .C 6 2]) (.s (.sto 4) (.s (.seg 1 []) (.rk [(4, 2000), (2000, 92000)] .ret))))))))))))))))))))))))))))))) Tryz.func186 rfl rfl (by kernel_rfl) (fun _ => rfl) (fun i => by kernel_rfl) (fun i s => by kernel_rfl)

noncomputable def K186 : SCon El Tryz.prog := ⟨C186, S186, Tryz.call186⟩

noncomputable abbrev C133p : List (PK El) := [pO slots_Table.D, pV api_Ref.dv api_Ref.val, pV api_Ref.dv api_Ref.val]
noncomputable def C133 (k : Nat) : Con El := mkCon 133 C133p (fun i_ => slots_Table_Join k i_.1.2.2 i_.2.1 i_.2.2.1) 2 2 (fun i_ t ns_ as_ => .int .i64 t.1) (fun i_ t ns_ as_ => slots_Table.D.flat i_.1.1 (slots_Table.A.mk i_.1.2.1.heaps_p (pool_Pool_slots_heap.A.mk (na as_ 0) (nn ns_ 0) (na as_ 1) (nn ns_ 1)) i_.1.2.1.items_p i_.1.2.1.items_a i_.1.2.1.at__p) t.2)

noncomputable abbrev C133r (k : Nat) (i : Ins C133p) : Kn El → VC (C133 k).T := retC Tryz.prog (C133 k) (rsOf Tryz.prog 133) [] [0, 1, 2, 3, 4, 5, 6, 7] (gj (g2 (gI 6) (gO slots_Table.D [0, 1, 2, 3, 4, 5, 6, 7])) [nA slots_Table.D [0, 1, 2, 3, 4, 5, 6, 7] (fun al => ([al.heaps_a.l_c, al.heaps_a.free_c], [al.heaps_a.l_b, al.heaps_a.free_b]))]) i

noncomputable def C133l0 (i_ : Ins C133p) : BCon El (Int × slots_Table) := ⟨nav [1, 1, 1, 1, 1, 0, 1] (bodyOf Tryz.prog 133), (List api_Ref) × (Option Addr × Nat) × Nat × Nat × Int, Int × slots_Table, slots_Table, slots_Table, fun u => .inr u, fun _ _ => none, fun x_ => [], fun x_ v_ ns_ as_ => [(0, .pointer (some ⟨i_.1.1, 0, none⟩)), (4, .pointer (some ⟨x_.2.2.2.1, 0, none⟩)), (5, .pointer (some ⟨x_.2.2.1, 0, none⟩)), (51, .slice (x_.2.1.1) (x_.1).length (x_.2.1.2)), (52, .int .i64 (x_.2.2.2.2)), (53, .int .i64 v_.1)], fun x_ v_ ns_ as_ => zipL [20] [.sl 6 28 (x_.2.1.1) (x_.2.1.2) (x_.1)] ++ zipL [0, 1, 2, 3, 4, 5, 6, 7] (slots_Table.D.flat i_.1.1 i_.1.2.1 v_.2) ++ zipL [9] [.blk (x_.2.2.1) 28 [.int .i64 i_.2.2.1.At, .int .i64 i_.2.2.1.Gen]] ++ zipL [8] [.blk (x_.2.2.2.1) 28 [.int .i64 i_.2.1.At, .int .i64 i_.2.1.Gen]], 0, 0, fun x_ u_ ns_ as_ => [(0, .pointer (some ⟨i_.1.1, 0, none⟩)), (5, .pointer (some ⟨x_.2.2.1, 0, none⟩))], fun x_ u_ ns_ as_ => zipL [0, 1, 2, 3, 4, 5, 6, 7] (slots_Table.D.flat i_.1.1 i_.1.2.1 u_) ++ zipL [9] [.blk (x_.2.2.1) 28 [.int .i64 i_.2.2.1.At, .int .i64 i_.2.2.1.Gen]]⟩

noncomputable def C133l0g (k : Nat) (i_ : Ins C133p) : Nat → (C133l0 i_).X → (C133l0 i_).V → Option (C133l0 i_).W := fun m_ (x_ : (List api_Ref) × (Option Addr × Nat) × Nat × Nat × Int) (v_ : Int × slots_Table) => slots_Table_Join_l0 (x_.2.2.2.2) (x_.1) i_.2.2.1.At i_.2.2.1.Gen i_.2.1.At i_.2.1.Gen m_ v_.1 v_.2

theorem C133l0s (k : Nat) (i : Ins C133p) (m : Nat) : ((C133l0 i).at (C133l0g k i) m).Sound Tryz.prog 133 86 (C133r k i) :=
  loop_sound mixed (C133l0 i) (id := 1) (body := nav [1, 1, 1, 1, 1, 0, 1, 0, 0] (bodyOf Tryz.prog 133)) (C133l0g k i) (fun _ => none) (fun u => u) (gj (g2 (gI 53) (gO slots_Table.D [0, 1, 2, 3, 4, 5, 6, 7])) []) (gj (gO slots_Table.D [0, 1, 2, 3, 4, 5, 6, 7]) []) (fun m => (.s (.seg 1 []) (.cond (.blk (.s (.idx false 20 (.tmp 53) 2) (.s (.seg 2 [.A 2, .X 2 20 0, .X 2 20 1]) (.s (.new 31 []) (.s (.sto 31) (.jg (slots_thing) 1 0 (gj (gC 34 0 3 slots_thing.dec) [nPk 34]) (fun st_ s_ ns_ as_ => ([(12, .pointer (some ⟨(nn ns_ 0), 0, none⟩))] ++ kp [0, 4, 5, 11, 51, 52, 53] st_, ka [31, 20, 0, 1, 2, 3, 4, 5, 6, 7, 9, 8] st_ ++ zipL [34] [.blk (nn ns_ 0) 186 [.int .i64 s_.cell, .int .i64 s_.heap.At, .int .i64 s_.heap.Gen]])) (.drw (.q [0, 1, 2, 3, 4] [.C 0 1, .C 31 0, .C 31 1] (.alt2 5 (.call K173 [.K 4, .K 5, .K 6] [4, 5, 6]) [] (.q [6, 7, 8] [] (.a 9 (.new 35 []) [] (.a 10 (.sto 35) [] (.q [11] [] (.rk [(35, 34), (34, 90034)] .leaf))))) 9 (.new 36 []) [.C 31 0, .C 31 1, .C 0 1] (.a 5 (.call K173 [.K 4, .K 5, .K 6] [4, 5, 6]) [] (.q [6, 7, 8] [] (.a 10 (.sto 36) [] (.q [11] [] (.rk [(36, 34), (34, 90034)] .leaf)))))))) (.s (.seg 2 [.C 8 0, .C 8 1]) (.s (.sto 34) (.drw (.q [0, 1, 2, 3, 4, 5] [.C 0 1, .C 31 0, .C 31 1, .C 34 0, .C 34 1, .C 34 2] (.a 6 (.call K185 [.K 4, .K 5, .K 6] [4, 5, 6]) [] (.s (.seg 2 []) .back)))))))))))) .leaf))) (by kernel_rfl) (fun _ _ => rfl) (fun r y h => by cases h) (fun u => rfl) (fun m x v n1 n2 => by kernel_rfl) (fun m x v n1 n2 s => by kernel_rfl) m

theorem S133 (k : Nat) : (C133 k).Sound Tryz.prog :=
  fn_sound mixed (C133 k) (n := 86) (rs := rsOf Tryz.prog 133) [] [0, 1, 2, 3, 4, 5, 6, 7] (gj (g2 (gI 6) (gO slots_Table.D [0, 1, 2, 3, 4, 5, 6, 7])) [nA slots_Table.D [0, 1, 2, 3, 4, 5, 6, 7] (fun al => ([al.heaps_a.l_c, al.heaps_a.free_c], [al.heaps_a.l_b, al.heaps_a.free_b]))]) (fun i => (.s (.new 8 []) (.s (.new 9 []) (.s (.seg 1 []) (.jg (slots_heap × Int) 1 0 (gj (g2 (gC 12 0 3 slots_heap.dec) (gI 8)) [nPk 12]) (fun st_ s_ ns_ as_ => ([(7, .pointer (some ⟨(nn ns_ 0), 0, none⟩)), (8, .int .i64 s_.2)] ++ kp [0, 4, 5] st_, ka [9, 8, 0, 1, 2, 3, 4, 5, 6, 7] st_ ++ zipL [12] [.blk (nn ns_ 0) 182 [.int .i64 s_.1.kind, .int .i64 s_.1.root, .int .i64 s_.1.n]])) (.drw (.q [0, 1, 2, 3, 4] [.C 0 0, .C 8 0, .C 8 1] (.alt2 5 (.call K135 [.K 1, .K 2, .K 3] [1, 2, 3]) [] (.q [6, 7, 8] [] (.a 9 (.new 13 []) [] (.a 10 (.sto 13) [] (.q [11] [] (.rk [(13, 12), (12, 90012)] .leaf))))) 9 (.new 14 []) [.C 8 0, .C 8 1, .C 0 0] (.a 5 (.call K135 [.K 1, .K 2, .K 3] [1, 2, 3]) [] (.q [6, 7, 8] [] (.a 10 (.sto 14) [] (.q [11] [] (.rk [(14, 12), (12, 90012)] .leaf)))))))) (.s (.seg 2 []) (.cond (.s (.seg 2 []) .ret) (.jg (Int × slots_heap) 1 0 (gj (g2 (gI 8) (gC 17 0 3 slots_heap.dec)) [nPk 17]) (fun st_ s_ ns_ as_ => ([(8, .int .i64 s_.1), (9, .pointer (some ⟨(nn ns_ 0), 0, none⟩))] ++ kp [0, 4, 5, 7] st_, ka [12, 9, 8, 0, 1, 2, 3, 4, 5, 6, 7] st_ ++ zipL [17] [.blk (nn ns_ 0) 182 [.int .i64 s_.2.kind, .int .i64 s_.2.root, .int .i64 s_.2.n]])) (.drw (.q [0, 1, 2, 3, 4] [.C 0 0, .C 9 0, .C 9 1] (.alt2 5 (.call K135 [.K 1, .K 2, .K 3] [1, 2, 3]) [] (.q [6, 7, 8] [] (.a 9 (.new 18 []) [] (.a 10 (.sto 18) [] (.q [11] [] (.rk [(18, 17), (17, 90017)] .leaf))))) 9 (.new 19 []) [.C 9 0, .C 9 1, .C 0 0] (.a 5 (.call K135 [.K 1, .K 2, .K 3] [1, 2, 3]) [] (.q [6, 7, 8] [] (.a 10 (.sto 19) [] (.q [11] [] (.rk [(19, 17), (17, 90017)] .leaf)))))))) (.blk (.s (.seg 3 []) (.cond (.s (.seg 2 []) .ret) (.s (.seg 2 [.C 8 0, .C 8 1, .C 9 0, .C 9 1]) (.s (.eqs api_Ref.eqD) (.s (.seg 1 []) (.cond (.s (.seg 1 []) .ret) (.s (.seg 6 [.C 12 0, .C 17 0]) (.cond (.s (.seg 1 []) .ret) (.s (.seg 2 [.C 9 0, .C 9 1]) (.s (.call (K137 k) [.K 0, .K 1, .K 2, .K 3, .K 4, .K 5, .K 6, .K 7] [20, 0, 1, 2, 3, 4, 5, 6, 7]) (.s (.seg 2 []) (.loop ⟨(C133l0 i).at (C133l0g k i) k, C133l0s k i k⟩ (gl (g2 (gL 6 20) (g2 (gh 20) (g2 (gP 9) (g2 (gP 8) (gI 52))))) (g2 (gI 53) (gO slots_Table.D [0, 1, 2, 3, 4, 5, 6, 7])) []) (.drw (.q [0, 1, 2, 3, 4] [.C 0 0, .C 9 0, .C 9 1] (.a 5 (.call K186 [.K 1, .K 2, .K 3] [1, 2, 3]) [] (.q [6, 7, 8, 9] [] (.s (.seg 2 []) .ret)))))))))))))))))))))))))) Tryz.func133 rfl rfl (by kernel_rfl) (fun _ => rfl) (fun i => by kernel_rfl) (fun i s => by kernel_rfl)

noncomputable def K133 (k : Nat) : SCon El Tryz.prog := ⟨C133 k, S133 k, Tryz.call133⟩

noncomputable abbrev C187p : List (PK El) := [pO arena_Arena.D, pI .i64, pI .i64]
noncomputable def C187 (k : Nat) : Con El := mkCon 187 C187p (fun i_ => leftist_Meld k i_.1.2.2 i_.2.1 i_.2.2.1) 0 0 (fun i_ t ns_ as_ => .int .i64 t.1) (fun i_ t ns_ as_ => arena_Arena.D.flat i_.1.1 i_.1.2.1 t.2)

theorem S187 (k : Nat) : (C187 k).Sound Tryz.prog :=
  fn_sound mixed (C187 k) (n := 13) (rs := rsOf Tryz.prog 187) [] [0, 1, 2, 3] (gj (g2 (gI 6) (gO arena_Arena.D [0, 1, 2, 3])) []) (fun i => (.s (.seg 1 []) (.s (.seg 2 []) (.condF (.s (.seg 3 []) (.s (.call (K207 k) [.K 0, .K 1, .K 2, .K 3] [0, 1, 2, 3]) (.s (.seg 1 []) .ret))))))) Tryz.func187 rfl rfl (by kernel_rfl) (fun _ => rfl) (fun i => by kernel_rfl) (fun i s => by kernel_rfl)

noncomputable def K187 (k : Nat) : SCon El Tryz.prog := ⟨C187 k, S187 k, Tryz.call187⟩

noncomputable abbrev C188p : List (PK El) := [pO arena_Arena.D, pI .i64, pI .i64]
noncomputable def C188 (k : Nat) : Con El := mkCon 188 C188p (fun i_ => binomial_Meld k i_.1.2.2 i_.2.1 i_.2.2.1) 0 0 (fun i_ t ns_ as_ => .int .i64 t.1) (fun i_ t ns_ as_ => arena_Arena.D.flat i_.1.1 i_.1.2.1 t.2)

theorem S188 (k : Nat) : (C188 k).Sound Tryz.prog :=
  fn_sound mixed (C188 k) (n := 22) (rs := rsOf Tryz.prog 188) [] [0, 1, 2, 3] (gj (g2 (gI 6) (gO arena_Arena.D [0, 1, 2, 3])) []) (fun i => (.s (.seg 1 []) (.s (.seg 2 []) (.condF (.s (.seg 3 []) (.cond (.s (.seg 2 []) .ret) (.s (.seg 3 []) (.s (.call (K209 k) [.K 0, .K 1, .K 2, .K 3] [4, 0, 1, 2, 3]) (.s (.seg 2 []) (.s (.call (K209 k) [.K 0, .K 1, .K 2, .K 3] [5, 0, 1, 2, 3]) (.s (.app 4 (.O 5)) (.s (.call (K208 k) [.K 0, .K 1, .K 2, .K 3, .O 4] [0, 1, 2, 3]) (.s (.seg 1 []) .ret))))))))))))) Tryz.func188 rfl rfl (by kernel_rfl) (fun _ => rfl) (fun i => by kernel_rfl) (fun i s => by kernel_rfl)

noncomputable def K188 (k : Nat) : SCon El Tryz.prog := ⟨C188 k, S188 k, Tryz.call188⟩

noncomputable abbrev C189p : List (PK El) := [pO arena_Arena.D, pI .i64, pI .i64]
noncomputable def C189 (k : Nat) : Con El := mkCon 189 C189p (fun i_ => skew_Meld k i_.1.2.2 i_.2.1 i_.2.2.1) 0 0 (fun i_ t ns_ as_ => .int .i64 t.1) (fun i_ t ns_ as_ => arena_Arena.D.flat i_.1.1 i_.1.2.1 t.2)

theorem S189 (k : Nat) : (C189 k).Sound Tryz.prog :=
  fn_sound mixed (C189 k) (n := 22) (rs := rsOf Tryz.prog 189) [] [0, 1, 2, 3] (gj (g2 (gI 6) (gO arena_Arena.D [0, 1, 2, 3])) []) (fun i => (.s (.seg 1 []) (.s (.seg 2 []) (.condF (.s (.seg 3 []) (.cond (.s (.seg 2 []) .ret) (.s (.seg 3 []) (.s (.call (K209 k) [.K 0, .K 1, .K 2, .K 3] [4, 0, 1, 2, 3]) (.s (.seg 2 []) (.s (.call (K209 k) [.K 0, .K 1, .K 2, .K 3] [5, 0, 1, 2, 3]) (.s (.app 4 (.O 5)) (.s (.call (K208 k) [.K 0, .K 1, .K 2, .K 3, .O 4] [0, 1, 2, 3]) (.s (.seg 1 []) .ret))))))))))))) Tryz.func189 rfl rfl (by kernel_rfl) (fun _ => rfl) (fun i => by kernel_rfl) (fun i s => by kernel_rfl)

noncomputable def K189 (k : Nat) : SCon El Tryz.prog := ⟨C189 k, S189 k, Tryz.call189⟩

noncomputable abbrev C190p : List (PK El) := [pO arena_Arena.D, pI .i64, pI .i64]
noncomputable def C190 : Con El := mkCon 190 C190p (fun i_ => fib_Meld i_.1.2.2 i_.2.1 i_.2.2.1) 0 0 (fun i_ t ns_ as_ => .int .i64 t) (fun i_ t ns_ as_ => arena_Arena.D.flat i_.1.1 i_.1.2.1 i_.1.2.2)

theorem S190 : (C190).Sound Tryz.prog := none_sound _ fun _ => rfl

noncomputable def K190 : SCon El Tryz.prog := ⟨C190, S190, Tryz.call190⟩

noncomputable abbrev C191p : List (PK El) := [pO arena_Arena.D, pI .i64, pI .i64]
noncomputable def C191 : Con El := mkCon 191 C191p (fun i_ => pairing_Meld i_.1.2.2 i_.2.1 i_.2.2.1) 0 0 (fun i_ t ns_ as_ => .int .i64 t) (fun i_ t ns_ as_ => arena_Arena.D.flat i_.1.1 i_.1.2.1 i_.1.2.2)

theorem S191 : (C191).Sound Tryz.prog := none_sound _ fun _ => rfl

noncomputable def K191 : SCon El Tryz.prog := ⟨C191, S191, Tryz.call191⟩

noncomputable abbrev C134p : List (PK El) := [pI .i64, pO arena_Arena.D, pI .i64, pI .i64]
noncomputable def C134 (k : Nat) : Con El := mkCon 134 C134p (fun i_ => kind_Meld k i_.1 i_.2.1.2.2 i_.2.2.1 i_.2.2.2.1) 0 0 (fun i_ t ns_ as_ => .int .i64 t.1) (fun i_ t ns_ as_ => arena_Arena.D.flat i_.2.1.1 i_.2.1.2.1 t.2)

theorem S134 (k : Nat) : (C134 k).Sound Tryz.prog :=
  fn_sound mixed (C134 k) (n := 41) (rs := rsOf Tryz.prog 134) [] [0, 1, 2, 3] (gj (g2 (gI 8) (gO arena_Arena.D [0, 1, 2, 3])) []) (fun i => (.s (.seg 1 []) (.s (.seg 1 []) (.blk (.s (.seg 2 []) (.cond (.s (.seg 3 []) (.s (.call (K187 k) [.K 0, .K 1, .K 2, .K 3] [0, 1, 2, 3]) (.s (.seg 1 []) .ret))) (.s (.seg 2 []) (.cond (.s (.seg 3 []) (.s (.call (K188 k) [.K 0, .K 1, .K 2, .K 3] [0, 1, 2, 3]) (.s (.seg 1 []) .ret))) (.s (.seg 2 []) (.cond (.s (.seg 3 []) (.s (.call (K189 k) [.K 0, .K 1, .K 2, .K 3] [0, 1, 2, 3]) (.s (.seg 1 []) .ret))) (.s (.seg 2 []) (.cond (.s (.seg 3 []) (.s (.call K190 [.K 0, .K 1, .K 2, .K 3] [0, 1, 2, 3]) (.s (.seg 1 []) .ret))) (.s (.seg 2 []) (.cond (.s (.seg 3 []) (.s (.call K191 [.K 0, .K 1, .K 2, .K 3] [0, 1, 2, 3]) (.s (.seg 1 []) .ret))) (.s (.seg 2 []) .ret))))))))))))))) Tryz.func134 rfl rfl (by kernel_rfl) (fun _ => rfl) (fun i => by kernel_rfl) (fun i s => by kernel_rfl)

noncomputable def K134 (k : Nat) : SCon El Tryz.prog := ⟨C134 k, S134 k, Tryz.call134⟩

noncomputable abbrev C91p : List (PK El) := [pO pq_Queues.D, pV api_Ref.dv api_Ref.val, pV api_Ref.dv api_Ref.val]
noncomputable def C91 (k : Nat) : Con El := mkCon 91 C91p (fun i_ => pq_Queues_meld k i_.1.2.2 i_.2.1 i_.2.2.1) 7 4 (fun i_ t ns_ as_ => .agg #[.int .i64 t.1.Why, .int .i64 t.1.Heap.At, .int .i64 t.1.Heap.Gen, .int .i64 t.1.Item.At, .int .i64 t.1.Item.Gen, .int .i64 t.1.Entry.Key, .int .i64 t.1.Entry.Serial, .int .i64 t.1.N]) (fun i_ t ns_ as_ => pq_Queues.D.flat i_.1.1 (pq_Queues.A.mk i_.1.2.1.a__p i_.1.2.1.a__a i_.1.2.1.t__p (slots_Table.A.mk (nn ns_ 0) (pool_Pool_slots_heap.A.mk (na as_ 0) (nn ns_ 1) (na as_ 1) (nn ns_ 2)) (nn ns_ 3) (pool_Pool_slots_thing.A.mk (na as_ 2) (nn ns_ 4) (na as_ 3) (nn ns_ 5)) (nn ns_ 6)) i_.1.2.1.entries_p) t.2)

theorem S91 (k : Nat) : (C91 k).Sound Tryz.prog :=
  fn_sound mixed (C91 k) (n := 70) (rs := rsOf Tryz.prog 91) [.C 2000 0, .C 2000 1, .C 2000 2, .C 2000 3, .C 2000 4, .C 2000 5, .C 2000 6, .C 2000 7] [0, 1, 2, 3, 4, 5, 6, 7, 8, 9, 10, 11, 12, 13] (gj (g2 (gC 2000 0 8 api_Answer.dec) (gO pq_Queues.D [0, 1, 2, 3, 4, 5, 6, 7, 8, 9, 10, 11, 12, 13])) [nA pq_Queues.D [0, 1, 2, 3, 4, 5, 6, 7, 8, 9, 10, 11, 12, 13] (fun al => ([al.t__a.heaps_p, al.t__a.heaps_a.l_c, al.t__a.heaps_a.free_c, al.t__a.items_p, al.t__a.items_a.l_c, al.t__a.items_a.free_c, al.t__a.at__p], [al.t__a.heaps_a.l_b, al.t__a.heaps_a.free_b, al.t__a.items_a.l_b, al.t__a.items_a.free_b]))]) (fun i => (.s (.new 14 []) (.s (.new 15 []) (.s (.new 16 []) (.drw (.q [0, 1, 2, 3, 4] [.C 0 2, .C 14 0, .C 14 1] (.a 5 (.call K92 [.K 5, .K 6, .K 7, .K 8, .K 9, .K 10, .K 11, .K 12] [5, 6, 7, 8, 9, 10, 11, 12]) [] (.q [6, 7, 8, 9, 10, 11, 12, 13, 14] [] (.drw (.q [0, 1, 2, 3, 4] [.C 0 2, .C 15 0, .C 15 1] (.a 5 (.call K92 [.K 5, .K 6, .K 7, .K 8, .K 9, .K 10, .K 11, .K 12] [5, 6, 7, 8, 9, 10, 11, 12]) [] (.q [6, 7, 8, 9, 10, 11, 12, 13, 14] [] (.drw (.q [0, 1, 2, 3, 4, 5] [.C 0 2, .C 14 0, .C 14 1, .C 15 0, .C 15 1] (.a 6 (.call (K133 k) [.K 5, .K 6, .K 7, .K 8, .K 9, .K 10, .K 11, .K 12] [5, 6, 7, 8, 9, 10, 11, 12]) [] (.q [7] [] (.s (.seg 2 []) (.cond (.s (.seg 1 []) (.s (.call K94 [] []) (.s (.sto 16) (.rk [(16, 2000), (2000, 92000)] .ret)))) (.drw (.q [0, 1, 2, 3, 4, 5, 6, 7, 8, 9, 10, 11, 13, 14, 15] [.C 0 2, .C 14 0, .C 14 1, .C 0 1] (.a 12 (.call (K134 k) [.K 1, .K 2, .K 3, .K 4] [1, 2, 3, 4]) [.C 14 0, .C 14 1, .C 0 2] (.a 16 (.call K123 [.K 5, .K 6, .K 7, .K 8, .K 9, .K 10, .K 11, .K 12] [5, 6, 7, 8, 9, 10, 11, 12]) [] (.s (.seg 4 []) (.s (.sto 16) (.rk [(16, 2000), (2000, 92000)] .ret))))))))))))))))))))))))) Tryz.func91 rfl rfl (by kernel_rfl) (fun _ => rfl) (fun i => by kernel_rfl) (fun i s => by kernel_rfl)

noncomputable def K91 (k : Nat) : SCon El Tryz.prog := ⟨C91 k, S91 k, Tryz.call91⟩

noncomputable abbrev C93p : List (PK El) := [pO pq_Queues.D, pV api_Ref.dv api_Ref.val]
noncomputable def C93 : Con El := mkCon 93 C93p (fun i_ => pq_Queues_destroy i_.1.2.2 i_.2.1) 0 0 (fun i_ t ns_ as_ => .agg #[.int .i64 t.Why, .int .i64 t.Heap.At, .int .i64 t.Heap.Gen, .int .i64 t.Item.At, .int .i64 t.Item.Gen, .int .i64 t.Entry.Key, .int .i64 t.Entry.Serial, .int .i64 t.N]) (fun i_ t ns_ as_ => pq_Queues.D.flat i_.1.1 i_.1.2.1 i_.1.2.2)

theorem S93 : (C93).Sound Tryz.prog := none_sound _ fun _ => rfl

noncomputable def K93 : SCon El Tryz.prog := ⟨C93, S93, Tryz.call93⟩

noncomputable abbrev C56ap : List (PK El) := [pO pq_Queues.D, pV api_Call.dv api_Call.val]
noncomputable def C56a (k : Nat) : Con El := mkCon 56 C56ap (fun i_ => pq_Queues_Do k i_.1.2.2 i_.2.1) 10 6 (fun i_ t ns_ as_ => .agg #[.int .i64 t.1.Why, .int .i64 t.1.Heap.At, .int .i64 t.1.Heap.Gen, .int .i64 t.1.Item.At, .int .i64 t.1.Item.Gen, .int .i64 t.1.Entry.Key, .int .i64 t.1.Entry.Serial, .int .i64 t.1.N]) (fun i_ t ns_ as_ => pq_Queues.D.flat i_.1.1 (pq_Queues.A.mk i_.1.2.1.a__p (arena_Arena.A.mk (na as_ 0) (nn ns_ 0) (na as_ 1) (nn ns_ 1) (nn ns_ 2)) i_.1.2.1.t__p (slots_Table.A.mk (nn ns_ 3) (pool_Pool_slots_heap.A.mk (na as_ 2) (nn ns_ 4) (na as_ 3) (nn ns_ 5)) (nn ns_ 6) (pool_Pool_slots_thing.A.mk (na as_ 4) (nn ns_ 7) (na as_ 5) (nn ns_ 8)) (nn ns_ 9)) i_.1.2.1.entries_p) t.2)

theorem S56a (k : Nat) : (C56a k).Sound Tryz.prog :=
  fn_sound mixed (C56a k) (n := 94) (rs := rsOf Tryz.prog 56) [.C 2000 0, .C 2000 1, .C 2000 2, .C 2000 3, .C 2000 4, .C 2000 5, .C 2000 6, .C 2000 7] [0, 1, 2, 3, 4, 5, 6, 7, 8, 9, 10, 11, 12, 13] (gj (g2 (gC 2000 0 8 api_Answer.dec) (gO pq_Queues.D [0, 1, 2, 3, 4, 5, 6, 7, 8, 9, 10, 11, 12, 13])) [nA pq_Queues.D [0, 1, 2, 3, 4, 5, 6, 7, 8, 9, 10, 11, 12, 13] (fun al => ([al.a__a.l_c, al.a__a.free_c, al.a__a.m__p, al.t__a.heaps_p, al.t__a.heaps_a.l_c, al.t__a.heaps_a.free_c, al.t__a.items_p, al.t__a.items_a.l_c, al.t__a.items_a.free_c, al.t__a.at__p], [al.a__a.l_b, al.a__a.free_b, al.t__a.heaps_a.l_b, al.t__a.heaps_a.free_b, al.t__a.items_a.l_b, al.t__a.items_a.free_b]))]) (fun i => (.s (.new 14 []) (.s (.new 15 []) (.s (.seg 4 [.C 0 1]) (.s (.call K66 [.K 1, .K 2, .K 3, .K 4] [1, 2, 3, 4]) (.s (.call K85 [.K 4] [4]) (.s (.seg 2 [.C 14 0]) (.blk (.s (.seg 2 []) (.cond (.jg (api_Ref × Int × pq_Queues) 8 4 (gj (g2 (gC 18 0 2 api_Ref.dec) (g2 (gI 6) (gO pq_Queues.D [0, 1, 2, 3, 4, 5, 6, 7, 8, 9, 10, 11, 12, 13]))) [nPk 18, nA pq_Queues.D [0, 1, 2, 3, 4, 5, 6, 7, 8, 9, 10, 11, 12, 13] (fun al => ([al.t__a.heaps_p, al.t__a.heaps_a.l_c, al.t__a.heaps_a.free_c, al.t__a.items_p, al.t__a.items_a.l_c, al.t__a.items_a.free_c, al.t__a.at__p], [al.t__a.heaps_a.l_b, al.t__a.heaps_a.free_b, al.t__a.items_a.l_b, al.t__a.items_a.free_b]))]) (fun st_ s_ ns_ as_ => match (g2 (gP 0) (gA pq_Queues.D [0, 1, 2, 3, 4, 5, 6, 7, 8, 9, 10, 11, 12, 13])) st_ with | some x_ => ([(5, .pointer (some ⟨(nn ns_ 0), 0, none⟩)), (6, .int .i64 s_.2.1)] ++ kp [4] st_, ka [15] st_ ++ zipL [18] [.blk (nn ns_ 0) 28 [.int .i64 s_.1.At, .int .i64 s_.1.Gen]] ++ zipL [0, 1, 2, 3, 4, 5, 6, 7, 8, 9, 10, 11, 12, 13] (pq_Queues.D.flat (x_.1) (pq_Queues.A.mk (x_.2.a__p) (x_.2.a__a) (x_.2.t__p) (slots_Table.A.mk (nn ns_ 1) (pool_Pool_slots_heap.A.mk (na as_ 0) (nn ns_ 2) (na as_ 1) (nn ns_ 3)) (nn ns_ 4) (pool_Pool_slots_thing.A.mk (na as_ 2) (nn ns_ 5) (na as_ 3) (nn ns_ 6)) (nn ns_ 7)) (x_.2.entries_p)) s_.2.2)) | none => ([], [])) (.drw (.q [0, 1, 2, 3, 4, 5] [.C 0 2, .C 14 1] (.alt2 6 (.call K86 [.K 5, .K 6, .K 7, .K 8, .K 9, .K 10, .K 11, .K 12] [5, 6, 7, 8, 9, 10, 11, 12]) [] (.q [7, 8, 9] [] (.a 10 (.new 19 []) [] (.a 11 (.sto 19) [] (.q [12] [] (.rk [(19, 18), (18, 90018)] .leaf))))) 10 (.new 20 []) [.C 14 1, .C 0 2] (.a 6 (.call K86 [.K 5, .K 6, .K 7, .K 8, .K 9, .K 10, .K 11, .K 12] [5, 6, 7, 8, 9, 10, 11, 12]) [] (.q [7, 8, 9] [] (.a 11 (.sto 20) [] (.q [12] [] (.rk [(20, 18), (18, 90018)] .leaf)))))))) (.s (.seg 3 [.C 18 0, .C 18 1]) (.s (.sto 15) (.rk [(15, 2000), (2000, 92000)] .ret)))) (.s (.seg 2 []) (.cond (.s (.seg 2 [.C 14 0, .C 14 1, .C 14 2, .C 14 3, .C 14 4, .C 14 5, .C 14 6, .C 14 7, .C 14 8]) (.s (.call (K87 k) [.K 0, .K 1, .K 2, .K 3, .K 4, .K 5, .K 6, .K 7, .K 8, .K 9, .K 10, .K 11, .K 12, .K 13] [0, 1, 2, 3, 4, 5, 6, 7, 8, 9, 10, 11, 12, 13]) (.s (.sto 15) (.rk [(15, 2000), (2000, 92000)] .ret)))) (.s (.seg 2 []) (.cond (.s (.seg 3 [.C 14 2, .C 14 3]) (.s (.call (K88 k) [.K 0, .K 1, .K 2, .K 3, .K 4, .K 5, .K 6, .K 7, .K 8, .K 9, .K 10, .K 11, .K 12, .K 13] [0, 1, 2, 3, 4, 5, 6, 7, 8, 9, 10, 11, 12, 13]) (.s (.sto 15) (.rk [(15, 2000), (2000, 92000)] .ret)))) (.s (.seg 2 []) (.cond (.s (.seg 3 [.C 14 2, .C 14 3]) (.s (.call (K88 k) [.K 0, .K 1, .K 2, .K 3, .K 4, .K 5, .K 6, .K 7, .K 8, .K 9, .K 10, .K 11, .K 12, .K 13] [0, 1, 2, 3, 4, 5, 6, 7, 8, 9, 10, 11, 12, 13]) (.s (.sto 15) (.rk [(15, 2000), (2000, 92000)] .ret)))) (.s (.seg 2 []) (.cond (.s (.seg 2 [.C 14 0, .C 14 1, .C 14 2, .C 14 3, .C 14 4, .C 14 5, .C 14 6, .C 14 7, .C 14 8]) (.s (.call (K89 k) [.K 0, .K 1, .K 2, .K 3, .K 4, .K 5, .K 6, .K 7, .K 8, .K 9, .K 10, .K 11, .K 12, .K 13] [0, 1, 2, 3, 4, 5, 6, 7, 8, 9, 10, 11, 12, 13]) (.s (.sto 15) (.rk [(15, 2000), (2000, 92000)] .ret)))) (.s (.seg 2 []) (.cond (.s (.seg 3 [.C 14 6, .C 14 7]) (.s (.call (K90 k) [.K 0, .K 1, .K 2, .K 3, .K 4, .K 5, .K 6, .K 7, .K 8, .K 9, .K 10, .K 11, .K 12, .K 13] [0, 1, 2, 3, 4, 5, 6, 7, 8, 9, 10, 11, 12, 13]) (.s (.sto 15) (.rk [(15, 2000), (2000, 92000)] .ret)))) (.s (.seg 2 []) (.cond (.s (.seg 5 [.C 14 2, .C 14 3, .C 14 4, .C 14 5]) (.s (.call (K91 k) [.K 0, .K 1, .K 2, .K 3, .K 4, .K 5, .K 6, .K 7, .K 8, .K 9, .K 10, .K 11, .K 12, .K 13] [0, 1, 2, 3, 4, 5, 6, 7, 8, 9, 10, 11, 12, 13]) (.s (.sto 15) (.rk [(15, 2000), (2000, 92000)] .ret)))) (.s (.seg 2 []) (.cond (.drw (.q [0, 1, 2, 3, 4, 5] [.C 0 2, .C 14 2, .C 14 3] (.a 6 (.call K92 [.K 5, .K 6, .K 7, .K 8, .K 9, .K 10, .K 11, .K 12] [5, 6, 7, 8, 9, 10, 11, 12]) [] (.q [7, 8, 9, 10, 11, 12, 13, 14, 15] [] (.s (.seg 3 []) (.s (.sto 15) (.rk [(15, 2000), (2000, 92000)] .ret))))))) (.s (.seg 2 []) (.cond (.s (.seg 3 [.C 14 2, .C 14 3]) (.s (.call K93 [.K 0, .K 1, .K 2, .K 3, .K 4, .K 5, .K 6, .K 7, .K 8, .K 9, .K 10, .K 11, .K 12, .K 13] [0, 1, 2, 3, 4, 5, 6, 7, 8, 9, 10, 11, 12, 13]) (.s (.sto 15) (.rk [(15, 2000), (2000, 92000)] .ret)))) (.s (.call K94 [] []) (.s (.sto 15) (.rk [(15, 2000), (2000, 92000)] .ret))))))))))))))))))))))))))))) Tryz.func56 rfl rfl (by kernel_rfl) (fun _ => rfl) (fun i => by kernel_rfl) (fun i s => by kernel_rfl)

noncomputable def K56a (k : Nat) : SCon El Tryz.prog := ⟨C56a k, S56a k, Tryz.call56⟩

noncomputable abbrev C28p : List (PK El) := [pI .i64, pI .i64]
noncomputable def C28 (k : Nat) : Con El := mkConB 28 C28p (fun i_ => dispatch_New k i_.1 i_.2.1) 22 8 (fun i_ t ns_ as_ => .tuple #[.pointer none, .int .i64 t.2]) (fun i_ t ns_ as_ => []) (fun i_ t => t.1) 22 (fun i_ t m_ ns_ as_ => .tuple #[.pointer (some ⟨(nn ns_ 0), 0, none⟩), .int .i64 t.2]) (fun i_ t m_ ns_ as_ => dispatch_Dispatcher.D.flat (nn ns_ 0) (dispatch_Dispatcher.A.mk (nn ns_ 1) (pq_Queues.A.mk (nn ns_ 2) (arena_Arena.A.mk (na as_ 0) (nn ns_ 3) (na as_ 1) (nn ns_ 4) (nn ns_ 5)) (nn ns_ 6) (slots_Table.A.mk (nn ns_ 7) (pool_Pool_slots_heap.A.mk (na as_ 2) (nn ns_ 8) (na as_ 3) (nn ns_ 9)) (nn ns_ 10) (pool_Pool_slots_thing.A.mk (na as_ 4) (nn ns_ 11) (na as_ 5) (nn ns_ 12)) (nn ns_ 13)) (nn ns_ 14)) (nn ns_ 15) (jobs_Table.A.mk (nn ns_ 16) (pool_Pool_jobs_Job.A.mk (na as_ 6) (nn ns_ 17) (na as_ 7) (nn ns_ 18)) (nn ns_ 19)) (nn ns_ 20) (nn ns_ 21)) m_)

theorem S28 (k : Nat) : (C28 k).Sound Tryz.prog :=
  fn_sound mixed (C28 k) (n := 53) (rs := rsOf Tryz.prog 28) [] [1000, 1001, 1002, 1003, 1004, 1005, 1006, 1007, 1008, 1009, 1010, 1011, 1012, 1013, 1014, 1015, 1016, 1017, 1018, 1019, 1020, 1021] (gj (g2 (gOo dispatch_Dispatcher.D [1000, 1001, 1002, 1003, 1004, 1005, 1006, 1007, 1008, 1009, 1010, 1011, 1012, 1013, 1014, 1015, 1016, 1017, 1018, 1019, 1020, 1021] 4) (gI 5)) [nPo 1000, nAo dispatch_Dispatcher.D [1000, 1001, 1002, 1003, 1004, 1005, 1006, 1007, 1008, 1009, 1010, 1011, 1012, 1013, 1014, 1015, 1016, 1017, 1018, 1019, 1020, 1021] (fun al => ([al.q_p, al.q_a.a__p, al.q_a.a__a.l_c, al.q_a.a__a.free_c, al.q_a.a__a.m__p, al.q_a.t__p, al.q_a.t__a.heaps_p, al.q_a.t__a.heaps_a.l_c, al.q_a.t__a.heaps_a.free_c, al.q_a.t__a.items_p, al.q_a.t__a.items_a.l_c, al.q_a.t__a.items_a.free_c, al.q_a.t__a.at__p, al.q_a.entries_p, al.t__p, al.t__a.p_p, al.t__a.p_a.l_c, al.t__a.p_a.free_c, al.t__a.by__p, al.when_p, al.clock_p], [al.q_a.a__a.l_b, al.q_a.a__a.free_b, al.q_a.t__a.heaps_a.l_b, al.q_a.t__a.heaps_a.free_b, al.q_a.t__a.items_a.l_b, al.q_a.t__a.items_a.free_b, al.t__a.p_a.l_b, al.t__a.p_a.free_b])) 21 8]) (fun i => (.s (.seg 2 []) (.s (.seg 1 []) (.s (.call K51 [] []) (.s (.seg 1 []) (.cond (.s (.seg 2 []) .ret) (.s (.seg 2 []) (.s (.call (K52 k) [] []) (.s (.seg 5 []) (.s (.seg 2 []) (.cond (.s (.seg 2 []) .ret) (.s (.seg 1 []) (.s (.call K53 [] [0, 1, 2, 3, 4, 5, 6, 7, 8, 9, 10, 11, 12, 13]) (.np 25 0 (.s (.seg 5 []) (.s (.seg 4 []) (.s (.call K54 [] [14, 15, 16, 17, 18]) (.s (.mnew 19 3) (.s (.call K55 [] [20]) (.s (.seg 2 []) (.s (.new 21 []) (.s (.seg 1 []) (.s (.seg 1 []) (.unr (.s (.seg 1 []) (.condT (.blk (.s (.seg 2 []) (.drw (.q [0, 1, 2, 3, 4, 7, 8] [] (.a 5 (.call K56 [] []) [] (.q [6] [] (.s (.gd 4 (.tmp 42) 1) (.q [9] [.Q 1] (.a 10 (.sto 21) [] (.s (.seg 2 []) (.unr (.s (.seg 1 []) (.condT (.blk (.s (.seg 2 []) (.drw (.q [0, 1, 2, 3, 4, 7, 8] [] (.a 5 (.call K56 [] []) [] (.q [6] [] (.s (.gd 4 (.tmp 42) 3) (.q [9] [.Q 3] (.a 10 (.sto 21) [] (.s (.seg 2 []) (.unr (.s (.seg 1 []) (.condF (.s (.seg 3 []) .dead))))))))))))))))))))))))))))))))))))))) (.s (.seg 5 []) (.s (.seg 4 []) (.s (.call K54 [] [22, 23, 24, 25, 26]) (.s (.mnew 27 3) (.s (.call K55 [] [28]) (.s (.seg 2 []) (.s (.new 29 []) (.s (.seg 1 []) (.s (.seg 1 []) (.unr (.s (.seg 1 []) (.condT (.blk (.s (.seg 2 []) (.drw (.q [0, 1, 2, 3, 4, 7, 8] [] (.a 5 (.call (K56a k) [.K 0, .K 1, .K 2, .K 3, .K 4, .K 5, .K 6, .K 7, .K 8, .K 9, .K 10, .K 11, .K 12, .K 13] [0, 1, 2, 3, 4, 5, 6, 7, 8, 9, 10, 11, 12, 13]) [] (.q [6] [] (.s (.gd 4 (.tmp 42) 5) (.q [9] [.Q 5] (.a 10 (.sto 29) [] (.s (.seg 2 []) (.unr (.s (.seg 1 []) (.condT (.blk (.s (.seg 2 []) (.drw (.q [0, 1, 2, 3, 4, 7, 8] [] (.a 5 (.call (K56a k) [.K 0, .K 1, .K 2, .K 3, .K 4, .K 5, .K 6, .K 7, .K 8, .K 9, .K 10, .K 11, .K 12, .K 13] [0, 1, 2, 3, 4, 5, 6, 7, 8, 9, 10, 11, 12, 13]) [] (.q [6] [] (.s (.gd 4 (.tmp 42) 7) (.q [9] [.Q 7] (.a 10 (.sto 29) [] (.s (.seg 2 []) (.unr (.s (.seg 1 []) (.condF (.s (.seg 3 []) (.rk [(29, 1000), (0, 1001), (1, 1002), (2, 1003), (3, 1004), (4, 1005), (5, 1006), (6, 1007), (7, 1008), (8, 1009), (9, 1010), (10, 1011), (11, 1012), (12, 1013), (13, 1014), (22, 1015), (23, 1016), (24, 1017), (25, 1018), (26, 1019), (27, 1020), (28, 1021), (1000, 91000), (1001, 91001), (1002, 91002), (1003, 91003), (1004, 91004), (1005, 91005), (1006, 91006), (1007, 91007), (1008, 91008), (1009, 91009), (1010, 91010), (1011, 91011), (1012, 91012), (1013, 91013), (1014, 91014), (1015, 91015), (1016, 91016), (1017, 91017), (1018, 91018), (1019, 91019), (1020, 91020), (1021, 91021)] .ret)))))))))))))))))))))))))))))))))))))))))))))))))))))) Tryz.func28 rfl rfl (by kernel_rfl) (fun _ => rfl) (fun i => by kernel_rfl) (fun i s => by kernel_rfl)

noncomputable def K28 (k : Nat) : SCon El Tryz.prog := ⟨C28 k, S28 k, Tryz.call28⟩

noncomputable abbrev C57p : List (PK El) := [pI .i64]
noncomputable def C57 : Con El := mkCon 57 C57p (fun i_ => thicketref19_worst i_.1) 0 0 (fun i_ t ns_ as_ => .bool t) (fun i_ t ns_ as_ => [])

theorem S57 : (C57).Sound Tryz.prog :=
  fn_sound mixed (C57) (n := 13) (rs := rsOf Tryz.prog 57) [] [] (gj (gB 2) []) (fun i => (.s (.seg 1 []) (.s (.seg 3 []) (.pj 5 (Bool) mB (gB 2) (fun st s_ => ([(2, .bool s_)] ++ kp [] st, ka [] st)) (.s (.seg 8 []) .leaf) (.s (.seg 4 []) (.pj 9 (Bool) mB (gB 2) (fun st s_ => ([(2, .bool s_)] ++ kp [] st, ka [] st)) (.s (.seg 4 []) .leaf) (.s (.seg 4 []) .leaf) .leaf)) .ret)))) Tryz.func57 rfl rfl (by kernel_rfl) (fun _ => rfl) (fun i => by kernel_rfl) (fun i s => by kernel_rfl)

noncomputable def K57 : SCon El Tryz.prog := ⟨C57, S57, Tryz.call57⟩

noncomputable abbrev C139p : List (PK El) := [pI .i64]
noncomputable def C139 (k : Nat) : Con El := mkCon 139 C139p (fun i_ => thicketref1_Bits k i_.1) 0 0 (fun i_ t ns_ as_ => .int .i64 t) (fun i_ t ns_ as_ => [])

noncomputable abbrev C139r (k : Nat) (i : Ins C139p) : Kn El → VC (C139 k).T := retC Tryz.prog (C139 k) (rsOf Tryz.prog 139) [] [] (gj (gI 2) []) i

noncomputable def C139l0 (i_ : Ins C139p) : BCon El (Int) := ⟨nav [1, 1, 0] (bodyOf Tryz.prog 139), Unit, Int × Int, Int, Int, fun u => .inr u, fun _ _ => none, fun x_ => [], fun x_ v_ ns_ as_ => [(0, .int .i64 v_.1), (3, .int .i64 v_.2)], fun x_ v_ ns_ as_ => [], 0, 0, fun x_ u_ ns_ as_ => [(3, .int .i64 u_)], fun x_ u_ ns_ as_ => []⟩

noncomputable def C139l0g (k : Nat) (i_ : Ins C139p) : Nat → (C139l0 i_).X → (C139l0 i_).V → Option (C139l0 i_).W := fun m_ (x_ : Unit) (v_ : Int × Int) => thicketref1_Bits_l0 m_ v_.1 v_.2

theorem C139l0s (k : Nat) (i : Ins C139p) (m : Nat) : ((C139l0 i).at (C139l0g k i) m).Sound Tryz.prog 139 11 (C139r k i) :=
  loop_sound mixed (C139l0 i) (id := 0) (body := nav [1, 1, 0, 0, 0] (bodyOf Tryz.prog 139)) (C139l0g k i) (fun _ => none) (fun u => u) (gj (g2 (gI 0) (gI 3)) []) (gj (gI 3) []) (fun m => (.s (.seg 2 []) (.cond (.blk (.s (.seg 1 []) (.s (.gd 0 (.const (.int .i64 2)) 2) (.s (.seg 2 [.Q 2]) (.s (.seg 3 []) .back))))) .leaf))) (by kernel_rfl) (fun _ _ => rfl) (fun r y h => by cases h) (fun u => rfl) (fun m x v n1 n2 => by kernel_rfl) (fun m x v n1 n2 s => by kernel_rfl) m

theorem S139 (k : Nat) : (C139 k).Sound Tryz.prog :=
  fn_sound mixed (C139 k) (n := 11) (rs := rsOf Tryz.prog 139) [] [] (gj (gI 2) []) (fun i => (.s (.seg 1 []) (.s (.seg 1 []) (.loop ⟨(C139l0 i).at (C139l0g k i) k, C139l0s k i k⟩ (gl gU (g2 (gI 0) (gI 3)) []) (.s (.seg 2 []) .ret))))) Tryz.func139 rfl rfl (by kernel_rfl) (fun _ => rfl) (fun i => by kernel_rfl) (fun i s => by kernel_rfl)

noncomputable def K139 (k : Nat) : SCon El Tryz.prog := ⟨C139 k, S139 k, Tryz.call139⟩

noncomputable abbrev C64p : List (PK El) := [pI .i64, pI .i64]
noncomputable def C64 : Con El := mkCon 64 C64p (fun i_ => thicketref1_Add i_.1 i_.2.1) 0 0 (fun i_ t ns_ as_ => .int .i64 t) (fun i_ t ns_ as_ => [])

theorem S64 : (C64).Sound Tryz.prog :=
  fn_sound mixed (C64) (n := 24) (rs := rsOf Tryz.prog 64) [] [] (gj (gI 4) []) (fun i => (.s (.seg 1 []) (.s (.seg 3 []) (.pj 7 (Bool) mB (gB 12) (fun st s_ => ([(12, .bool s_)] ++ kp [0, 1] st, ka [] st)) (.s (.seg 5 []) .leaf) (.s (.seg 5 []) .leaf) (.cond (.s (.seg 1 []) .ret) (.s (.seg 3 []) (.pj 15 (Bool) mB (gB 20) (fun st s_ => ([(20, .bool s_)] ++ kp [0, 1] st, ka [] st)) (.s (.seg 5 []) .leaf) (.s (.seg 5 []) .leaf) (.cond (.s (.seg 1 []) .ret) (.s (.seg 4 []) .ret))))))))) Tryz.func64 rfl rfl (by kernel_rfl) (fun _ => rfl) (fun i => by kernel_rfl) (fun i s => by kernel_rfl)

noncomputable def K64 : SCon El Tryz.prog := ⟨C64, S64, Tryz.call64⟩

noncomputable abbrev C95p : List (PK El) := [pI .i64, pI .i64, pI .i64]
noncomputable def C95 (k : Nat) : Con El := mkCon 95 C95p (fun i_ => thicketref1_Limit k i_.1 i_.2.1 i_.2.2.1) 0 0 (fun i_ t ns_ as_ => .int .i64 t) (fun i_ t ns_ as_ => [])

noncomputable abbrev C95r (k : Nat) (i : Ins C95p) : Kn El → VC (C95 k).T := retC Tryz.prog (C95 k) (rsOf Tryz.prog 95) [] [] (gj (gI 6) []) i

noncomputable def C95l0 (i_ : Ins C95p) : BCon El (Int) := ⟨nav [1, 1, 0, 1] (bodyOf Tryz.prog 95), Unit, Int × Int, Int, Int, fun u => .inr u, fun _ _ => none, fun x_ => [], fun x_ v_ ns_ as_ => [(1, .int .i64 i_.2.1), (7, .int .i64 v_.1), (8, .int .i64 v_.2)], fun x_ v_ ns_ as_ => [], 0, 0, fun x_ u_ ns_ as_ => [(7, .int .i64 u_)], fun x_ u_ ns_ as_ => []⟩

noncomputable def C95l0g (k : Nat) (i_ : Ins C95p) : Nat → (C95l0 i_).X → (C95l0 i_).V → Option (C95l0 i_).W := fun m_ (x_ : Unit) (v_ : Int × Int) => thicketref1_Limit_l0 i_.2.1 m_ v_.1 v_.2

theorem C95l0s (k : Nat) (i : Ins C95p) (m : Nat) : ((C95l0 i).at (C95l0g k i) m).Sound Tryz.prog 95 20 (C95r k i) :=
  loop_sound mixed (C95l0 i) (id := 0) (body := nav [1, 1, 0, 1, 0, 0] (bodyOf Tryz.prog 95)) (C95l0g k i) (fun _ => none) (fun u => u) (gj (g2 (gI 7) (gI 8)) []) (gj (gI 7) []) (fun m => (.s (.seg 2 []) (.cond (.blk (.s (.seg 2 []) (.s (.call K64 [] []) (.s (.seg 1 []) (.s (.seg 3 []) .back))))) .leaf))) (by kernel_rfl) (fun _ _ => rfl) (fun r y h => by cases h) (fun u => rfl) (fun m x v n1 n2 => by kernel_rfl) (fun m x v n1 n2 s => by kernel_rfl) m

theorem S95 (k : Nat) : (C95 k).Sound Tryz.prog :=
  fn_sound mixed (C95 k) (n := 20) (rs := rsOf Tryz.prog 95) [] [] (gj (gI 6) []) (fun i => (.s (.seg 1 []) (.s (.seg 2 []) (.s (.seg 1 []) (.s (.call (K139 k) [] []) (.s (.seg 1 []) (.loop ⟨(C95l0 i).at (C95l0g k i) k, C95l0s k i k⟩ (gl gU (g2 (gI 7) (gI 8)) []) (.s (.seg 2 []) .ret)))))))) Tryz.func95 rfl rfl (by kernel_rfl) (fun _ => rfl) (fun i => by kernel_rfl) (fun i s => by kernel_rfl)

noncomputable def K95 (k : Nat) : SCon El Tryz.prog := ⟨C95 k, S95 k, Tryz.call95⟩

noncomputable abbrev C58p : List (PK El) := [pI .i64]
noncomputable def C58 (k : Nat) : Con El := mkCon 58 C58p (fun i_ => thicketref19_log k i_.1) 0 0 (fun i_ t ns_ as_ => .int .i64 t) (fun i_ t ns_ as_ => [])

theorem S58 (k : Nat) : (C58 k).Sound Tryz.prog :=
  fn_sound mixed (C58 k) (n := 7) (rs := rsOf Tryz.prog 58) [] [] (gj (gI 2) []) (fun i => (.s (.seg 1 []) (.s (.seg 3 []) (.s (.call (K95 k) [] []) (.s (.seg 1 []) .ret))))) Tryz.func58 rfl rfl (by kernel_rfl) (fun _ => rfl) (fun i => by kernel_rfl) (fun i s => by kernel_rfl)

noncomputable def K58 (k : Nat) : SCon El Tryz.prog := ⟨C58 k, S58 k, Tryz.call58⟩

noncomputable abbrev C29p : List (PK El) := [pI .i64, pI .i64]
noncomputable def C29 (k : Nat) : Con El := mkCon 29 C29p (fun i_ => thicketref19_Budget k i_.1 i_.2.1) 0 0 (fun i_ t ns_ as_ => .tuple #[.int .i64 t.1, .bool t.2]) (fun i_ t ns_ as_ => [])

theorem S29 (k : Nat) : (C29 k).Sound Tryz.prog :=
  fn_sound mixed (C29 k) (n := 20) (rs := rsOf Tryz.prog 29) [] [] (gj (g2 (gI 4) (gB 5)) []) (fun i => (.s (.seg 2 []) (.join (Bool) 0 0 (gj (gB 16) []) (fun st_ s_ ns_ as_ => ([(16, .bool s_)] ++ kp [1] st_, ka [] st_)) (.s (.seg 1 []) (.s (.call K57 [] []) (.s (.seg 2 []) (.split 9 (.s (.seg 7 []) .leaf) (.s (.seg 4 []) (.split 13 (.s (.seg 3 []) .leaf) (.s (.seg 3 []) .leaf))))))) (.cond (.s (.seg 2 []) .ret) (.s (.seg 1 []) (.s (.call (K58 k) [] []) (.s (.seg 3 []) .ret))))))) Tryz.func29 rfl rfl (by kernel_rfl) (fun _ => rfl) (fun i => by kernel_rfl) (fun i s => by kernel_rfl)

noncomputable def K29 (k : Nat) : SCon El Tryz.prog := ⟨C29 k, S29 k, Tryz.call29⟩

noncomputable abbrev C24p : List (PK El) := [pO dispatch_Dispatcher.D]
noncomputable def C24 : Con El := mkCon 24 C24p (fun i_ => dispatch_Dispatcher_Budget i_.1.2.2) 0 0 (fun i_ t ns_ as_ => .int .i64 t) (fun i_ t ns_ as_ => dispatch_Dispatcher.D.flat i_.1.1 i_.1.2.1 i_.1.2.2)

theorem S24 : (C24).Sound Tryz.prog :=
  fn_sound mixed (C24) (n := 7) (rs := rsOf Tryz.prog 24) [] [0, 1, 2, 3, 4, 5, 6, 7, 8, 9, 10, 11, 12, 13, 14, 15, 16, 17, 18, 19, 20, 21] (gj (gI 2) []) (fun i => (.s (.seg 1 []) (.s (.seg 5 [.C 0 10]) .ret))) Tryz.func24 rfl rfl (by kernel_rfl) (fun _ => rfl) (fun i => by kernel_rfl) (fun i s => by kernel_rfl)

noncomputable def K24 : SCon El Tryz.prog := ⟨C24, S24, Tryz.call24⟩

theorem dispatch_Dispatcher_Budget_ok {w0 w : World} {As : List HP} {p_d : Nat} {al_d : dispatch_Dispatcher.A} {d : dispatch_Dispatcher} {t : Int}  (hm : dispatch_Dispatcher_Budget d = some t) (H : St w0 (dispatch_Dispatcher.R p_d al_d d :: As) w) :
    CallsR Tryz.prog 24 #[.pointer (some ⟨p_d, 0, none⟩)] w fun v w' => v = .int .i64 t ∧ St w0 (dispatch_Dispatcher.R p_d al_d d :: As) w' := by
  replace H := (fs0 fun As => dispatch_Dispatcher.D_st).1 H
  refine (S24 ((p_d, al_d, d), ()) t hm w0 w (As) rd0 H).mono ?_
  rintro v w' ⟨ns, as_, hn, ha, hv, H, hfx⟩
  obtain rfl := ls0 hn
  obtain rfl := ls0 ha
  refine ⟨hv, ?_⟩
  refine (fs0 fun As => dispatch_Dispatcher.D_st).2 ?_
  exact H

noncomputable abbrev C20p : List (PK El) := [pI .i64, pI .i64, pI .i64]
noncomputable def C20 : Con El := mkCon 20 C20p (fun i_ => thicketbook_Within i_.1 i_.2.1 i_.2.2.1) 0 0 (fun i_ t ns_ as_ => .int .i64 t) (fun i_ t ns_ as_ => [])

theorem S20 : (C20).Sound Tryz.prog :=
  fn_sound mixed (C20) (n := 33) (rs := rsOf Tryz.prog 20) [] [] (gj (gI 6) []) (fun i => (.s (.seg 1 []) (.s (.seg 4 []) (.pj 10 (Bool) mB (gB 14) (fun st s_ => ([(14, .bool s_)] ++ kp [0, 1, 2] st, ka [] st)) (.s (.seg 4 []) .leaf) (.s (.seg 4 []) .leaf) (.cond (.s (.seg 2 []) .ret) (.s (.seg 5 []) (.s (.gd 0 (.tmp 20) 0) (.s (.seg 2 [.Q 0]) (.s (.seg 2 []) (.join (Int) 0 0 (gj (gI 0) []) (fun st_ s_ ns_ as_ => ([(0, .int .i64 s_)] ++ kp [1] st_, ka [] st_)) (.cond (.s (.seg 7 []) .leaf) .leaf) (.s (.seg 4 []) .ret))))))))))) Tryz.func20 rfl rfl (by kernel_rfl) (fun _ => rfl) (fun i => by kernel_rfl) (fun i s => by kernel_rfl)

noncomputable def K20 : SCon El Tryz.prog := ⟨C20, S20, Tryz.call20⟩

noncomputable abbrev C65p : List (PK El) := [pI .i64]
noncomputable def C65 : Con El := mkCon 65 C65p (fun i_ => thicketref2_New i_.1) 5 4 (fun i_ t ns_ as_ => .pointer (some ⟨(nn ns_ 0), 0, none⟩)) (fun i_ t ns_ as_ => thicketref2_Pool.D.flat (nn ns_ 0) (thicketref2_Pool.A.mk (na as_ 0) (nn ns_ 1) (na as_ 1) (nn ns_ 2) (na as_ 2) (nn ns_ 3) (na as_ 3) (nn ns_ 4)) t)

theorem S65 : (C65).Sound Tryz.prog :=
  fn_sound mixed (C65) (n := 8) (rs := rsOf Tryz.prog 65) [] [1000, 1001, 1002, 1003, 1004] (gj (gO thicketref2_Pool.D [1000, 1001, 1002, 1003, 1004]) [nPk 1000, nA thicketref2_Pool.D [1000, 1001, 1002, 1003, 1004] (fun al => ([al.Gens_c, al.In_c, al.V_c, al.Back_c], [al.Gens_b, al.In_b, al.V_b, al.Back_b]))]) (fun i => (.s (.seg 1 []) (.s (.seg 4 []) (.s (.new 0 []) (.s (.seg 1 []) (.s (.nil 1 0 3) (.s (.nil 2 7 4) (.s (.nil 3 8 2) (.s (.nil 4 0 3) (.rk [(0, 1000), (1, 1001), (2, 1002), (3, 1003), (4, 1004), (1000, 91000), (1001, 91001), (1002, 91002), (1003, 91003), (1004, 91004)] .ret)))))))))) Tryz.func65 rfl rfl (by kernel_rfl) (fun _ => rfl) (fun i => by kernel_rfl) (fun i s => by kernel_rfl)

noncomputable def K65 : SCon El Tryz.prog := ⟨C65, S65, Tryz.call65⟩

noncomputable abbrev C41p : List (PK El) := [pI .i64]
noncomputable def C41 : Con El := mkCon 41 C41p (fun i_ => thicketref22_New i_.1) 7 5 (fun i_ t ns_ as_ => .pointer (some ⟨(nn ns_ 0), 0, none⟩)) (fun i_ t ns_ as_ => thicketref22_Dispatcher.D.flat (nn ns_ 0) (thicketref22_Dispatcher.A.mk (nn ns_ 1) (thicketref2_Pool.A.mk (na as_ 0) (nn ns_ 2) (na as_ 1) (nn ns_ 3) (na as_ 2) (nn ns_ 4) (na as_ 3) (nn ns_ 5)) (na as_ 4) (nn ns_ 6)) t)

theorem S41 : (C41).Sound Tryz.prog :=
  fn_sound mixed (C41) (n := 8) (rs := rsOf Tryz.prog 41) [] [1000, 1001, 1002, 1003, 1004, 1005, 1006] (gj (gO thicketref22_Dispatcher.D [1000, 1001, 1002, 1003, 1004, 1005, 1006]) [nPk 1000, nA thicketref22_Dispatcher.D [1000, 1001, 1002, 1003, 1004, 1005, 1006] (fun al => ([al.Pool_p, al.Pool_a.Gens_c, al.Pool_a.In_c, al.Pool_a.V_c, al.Pool_a.Back_c, al.L_c], [al.Pool_a.Gens_b, al.Pool_a.In_b, al.Pool_a.V_b, al.Pool_a.Back_b, al.L_b]))]) (fun i => (.s (.seg 1 []) (.s (.seg 2 []) (.s (.call K65 [] [0, 1, 2, 3, 4]) (.s (.seg 1 []) (.s (.new 5 []) (.s (.seg 1 []) (.s (.nil 6 9 112) (.rk [(5, 1000), (0, 1001), (1, 1002), (2, 1003), (3, 1004), (4, 1005), (6, 1006), (1000, 91000), (1001, 91001), (1002, 91002), (1003, 91003), (1004, 91004), (1005, 91005), (1006, 91006)] .ret))))))))) Tryz.func41 rfl rfl (by kernel_rfl) (fun _ => rfl) (fun i => by kernel_rfl) (fun i s => by kernel_rfl)

noncomputable def K41 : SCon El Tryz.prog := ⟨C41, S41, Tryz.call41⟩

noncomputable abbrev C12p : List (PK El) := [pI .i64, pI .i64]
noncomputable def C12 (k : Nat) : Con El := mkConB 12 C12p (fun i_ => thicketlaw22_fresh k i_.1 i_.2.1) 31 14 (fun i_ t ns_ as_ => .pointer none) (fun i_ t ns_ as_ => []) (fun i_ t => t) 31 (fun i_ t m_ ns_ as_ => .pointer (some ⟨(nn ns_ 0), 0, none⟩)) (fun i_ t m_ ns_ as_ => thicketlaw22_world.D.flat (nn ns_ 0) (thicketlaw22_world.A.mk (nn ns_ 1) (dispatch_Dispatcher.A.mk (nn ns_ 2) (pq_Queues.A.mk (nn ns_ 3) (arena_Arena.A.mk (na as_ 0) (nn ns_ 4) (na as_ 1) (nn ns_ 5) (nn ns_ 6)) (nn ns_ 7) (slots_Table.A.mk (nn ns_ 8) (pool_Pool_slots_heap.A.mk (na as_ 2) (nn ns_ 9) (na as_ 3) (nn ns_ 10)) (nn ns_ 11) (pool_Pool_slots_thing.A.mk (na as_ 4) (nn ns_ 12) (na as_ 5) (nn ns_ 13)) (nn ns_ 14)) (nn ns_ 15)) (nn ns_ 16) (jobs_Table.A.mk (nn ns_ 17) (pool_Pool_jobs_Job.A.mk (na as_ 6) (nn ns_ 18) (na as_ 7) (nn ns_ 19)) (nn ns_ 20)) (nn ns_ 21) (nn ns_ 22)) (nn ns_ 23) (thicketref22_Dispatcher.A.mk (nn ns_ 24) (thicketref2_Pool.A.mk (na as_ 8) (nn ns_ 25) (na as_ 9) (nn ns_ 26) (na as_ 10) (nn ns_ 27) (na as_ 11) (nn ns_ 28)) (na as_ 12) (nn ns_ 29)) (na as_ 13) (nn ns_ 30)) m_)

theorem S12 (k : Nat) : (C12 k).Sound Tryz.prog :=
  fn_sound mixed (C12 k) (n := 31) (rs := rsOf Tryz.prog 12) [] [1000, 1001, 1002, 1003, 1004, 1005, 1006, 1007, 1008, 1009, 1010, 1011, 1012, 1013, 1014, 1015, 1016, 1017, 1018, 1019, 1020, 1021, 1022, 1023, 1024, 1025, 1026, 1027, 1028, 1029, 1030] (gj (gOo thicketlaw22_world.D [1000, 1001, 1002, 1003, 1004, 1005, 1006, 1007, 1008, 1009, 1010, 1011, 1012, 1013, 1014, 1015, 1016, 1017, 1018, 1019, 1020, 1021, 1022, 1023, 1024, 1025, 1026, 1027, 1028, 1029, 1030] 4) [nPo 1000, nAo thicketlaw22_world.D [1000, 1001, 1002, 1003, 1004, 1005, 1006, 1007, 1008, 1009, 1010, 1011, 1012, 1013, 1014, 1015, 1016, 1017, 1018, 1019, 1020, 1021, 1022, 1023, 1024, 1025, 1026, 1027, 1028, 1029, 1030] (fun al => ([al.d_p, al.d_a.q_p, al.d_a.q_a.a__p, al.d_a.q_a.a__a.l_c, al.d_a.q_a.a__a.free_c, al.d_a.q_a.a__a.m__p, al.d_a.q_a.t__p, al.d_a.q_a.t__a.heaps_p, al.d_a.q_a.t__a.heaps_a.l_c, al.d_a.q_a.t__a.heaps_a.free_c, al.d_a.q_a.t__a.items_p, al.d_a.q_a.t__a.items_a.l_c, al.d_a.q_a.t__a.items_a.free_c, al.d_a.q_a.t__a.at__p, al.d_a.q_a.entries_p, al.d_a.t__p, al.d_a.t__a.p_p, al.d_a.t__a.p_a.l_c, al.d_a.t__a.p_a.free_c, al.d_a.t__a.by__p, al.d_a.when_p, al.d_a.clock_p, al.m__p, al.m__a.Pool_p, al.m__a.Pool_a.Gens_c, al.m__a.Pool_a.In_c, al.m__a.Pool_a.V_c, al.m__a.Pool_a.Back_c, al.m__a.L_c, al.told_c], [al.d_a.q_a.a__a.l_b, al.d_a.q_a.a__a.free_b, al.d_a.q_a.t__a.heaps_a.l_b, al.d_a.q_a.t__a.heaps_a.free_b, al.d_a.q_a.t__a.items_a.l_b, al.d_a.q_a.t__a.items_a.free_b, al.d_a.t__a.p_a.l_b, al.d_a.t__a.p_a.free_b, al.m__a.Pool_a.Gens_b, al.m__a.Pool_a.In_b, al.m__a.Pool_a.V_b, al.m__a.Pool_a.Back_b, al.m__a.L_b, al.told_b])) 30 14]) (fun i => (.s (.seg 1 []) (.s (.seg 1 []) (.s (.call K20 [] []) (.s (.seg 1 []) (.s (.seg 1 []) (.s (.call K20 [] []) (.s (.seg 1 []) (.s (.seg 2 []) (.s (.call (K28 k) [] [0, 1, 2, 3, 4, 5, 6, 7, 8, 9, 10, 11, 12, 13, 14, 15, 16, 17, 18, 19, 20, 21]) (.np 16 0 (.s (.seg 5 []) (.s (.seg 6 []) (.condT (.s (.seg 1 []) .ret)))) (.s (.seg 5 []) (.s (.seg 6 []) (.cond (.s (.seg 1 []) .ret) (.s (.seg 2 []) (.s (.call K41 [] [22, 23, 24, 25, 26, 27, 28]) (.s (.seg 2 []) (.s (.new 29 []) (.s (.seg 1 []) (.s (.nil 30 6 28) (.rk [(29, 1000), (0, 1001), (1, 1002), (2, 1003), (3, 1004), (4, 1005), (5, 1006), (6, 1007), (7, 1008), (8, 1009), (9, 1010), (10, 1011), (11, 1012), (12, 1013), (13, 1014), (14, 1015), (15, 1016), (16, 1017), (17, 1018), (18, 1019), (19, 1020), (20, 1021), (21, 1022), (22, 1023), (23, 1024), (24, 1025), (25, 1026), (26, 1027), (27, 1028), (28, 1029), (30, 1030), (1000, 91000), (1001, 91001), (1002, 91002), (1003, 91003), (1004, 91004), (1005, 91005), (1006, 91006), (1007, 91007), (1008, 91008), (1009, 91009), (1010, 91010), (1011, 91011), (1012, 91012), (1013, 91013), (1014, 91014), (1015, 91015), (1016, 91016), (1017, 91017), (1018, 91018), (1019, 91019), (1020, 91020), (1021, 91021), (1022, 91022), (1023, 91023), (1024, 91024), (1025, 91025), (1026, 91026), (1027, 91027), (1028, 91028), (1029, 91029), (1030, 91030)] .ret))))))))))))))))))))) Tryz.func12 rfl rfl (by kernel_rfl) (fun _ => rfl) (fun i => by kernel_rfl) (fun i s => by kernel_rfl)

noncomputable def K12 (k : Nat) : SCon El Tryz.prog := ⟨C12 k, S12 k, Tryz.call12⟩

noncomputable abbrev C67p : List (PK El) := [pO meter_Meter.D]
noncomputable def C67 : Con El := mkCon 67 C67p (fun i_ => meter_Meter_Steps i_.1.2.2) 0 0 (fun i_ t ns_ as_ => .int .i64 t) (fun i_ t ns_ as_ => meter_Meter.D.flat i_.1.1 i_.1.2.1 i_.1.2.2)

theorem S67 : (C67).Sound Tryz.prog :=
  fn_sound mixed (C67) (n := 7) (rs := rsOf Tryz.prog 67) [] [0] (gj (gI 2) []) (fun i => (.s (.seg 1 []) (.s (.seg 5 [.C 0 0]) .ret))) Tryz.func67 rfl rfl (by kernel_rfl) (fun _ => rfl) (fun i => by kernel_rfl) (fun i s => by kernel_rfl)

noncomputable def K67 : SCon El Tryz.prog := ⟨C67, S67, Tryz.call67⟩

noncomputable abbrev C42p : List (PK El) := [pO pq_Queues.D]
noncomputable def C42 : Con El := mkCon 42 C42p (fun i_ => pq_Queues_Steps i_.1.2.2) 0 0 (fun i_ t ns_ as_ => .int .i64 t) (fun i_ t ns_ as_ => pq_Queues.D.flat i_.1.1 i_.1.2.1 i_.1.2.2)

theorem S42 : (C42).Sound Tryz.prog :=
  fn_sound mixed (C42) (n := 9) (rs := rsOf Tryz.prog 42) [] [0, 1, 2, 3, 4, 5, 6, 7, 8, 9, 10, 11, 12, 13] (gj (gI 2) []) (fun i => (.s (.seg 1 []) (.s (.seg 4 [.C 0 1]) (.s (.call K66 [.K 1, .K 2, .K 3, .K 4] [1, 2, 3, 4]) (.s (.call K67 [.K 4] [4]) (.s (.seg 1 []) .ret)))))) Tryz.func42 rfl rfl (by kernel_rfl) (fun _ => rfl) (fun i => by kernel_rfl) (fun i s => by kernel_rfl)

noncomputable def K42 : SCon El Tryz.prog := ⟨C42, S42, Tryz.call42⟩

noncomputable abbrev C44p : List (PK El) := [pI .i64]
noncomputable def C44 : Con El := mkCon 44 C44p (fun i_ => dispatch_refused i_.1) 0 0 (fun i_ t ns_ as_ => .agg #[.int .i64 t.Why, .int .i64 t.Job.At, .int .i64 t.Job.Gen, .int .i64 t.Time, .int .i64 t.Data, .int .i64 t.N]) (fun i_ t ns_ as_ => [])

theorem S44 : (C44).Sound Tryz.prog :=
  fn_sound mixed (C44) (n := 5) (rs := rsOf Tryz.prog 44) [.C 2000 0, .C 2000 1, .C 2000 2, .C 2000 3, .C 2000 4, .C 2000 5] [] (gj (gC 2000 0 6 api_Reply.dec) []) (fun i => (.s (.new 0 []) (.s (.seg 2 []) (.s (.sto 0) (.rk [(0, 2000), (2000, 92000)] .ret))))) Tryz.func44 rfl rfl (by kernel_rfl) (fun _ => rfl) (fun i => by kernel_rfl) (fun i s => by kernel_rfl)

noncomputable def K44 : SCon El Tryz.prog := ⟨C44, S44, Tryz.call44⟩

noncomputable abbrev C75p : List (PK El) := [pO pool_Pool_jobs_Job.D]
noncomputable def C75 : Con El := mkCon 75 C75p (fun i_ => pool_Pool_jobs_Job_Len i_.1.2.2) 0 0 (fun i_ t ns_ as_ => .int .i64 t) (fun i_ t ns_ as_ => pool_Pool_jobs_Job.D.flat i_.1.1 i_.1.2.1 i_.1.2.2)

theorem S75 : (C75).Sound Tryz.prog :=
  fn_sound mixed (C75) (n := 14) (rs := rsOf Tryz.prog 75) [] [0, 1, 2] (gj (gI 2) []) (fun i => (.s (.seg 1 []) (.drw (.q [0, 1, 2, 3, 4, 5, 6, 7, 8, 9, 10, 11] [.C 0 1, .C 0 2] .ret)))) Tryz.func75 rfl rfl (by kernel_rfl) (fun _ => rfl) (fun i => by kernel_rfl) (fun i s => by kernel_rfl)

noncomputable def K75 : SCon El Tryz.prog := ⟨C75, S75, Tryz.call75⟩

noncomputable abbrev C45p : List (PK El) := [pO jobs_Table.D]
noncomputable def C45 : Con El := mkCon 45 C45p (fun i_ => jobs_Table_Len i_.1.2.2) 0 0 (fun i_ t ns_ as_ => .int .i64 t) (fun i_ t ns_ as_ => jobs_Table.D.flat i_.1.1 i_.1.2.1 i_.1.2.2)

theorem S45 : (C45).Sound Tryz.prog :=
  fn_sound mixed (C45) (n := 8) (rs := rsOf Tryz.prog 45) [] [0, 1, 2, 3, 4] (gj (gI 2) []) (fun i => (.s (.seg 1 []) (.s (.seg 4 [.C 0 0]) (.s (.call K75 [.K 1, .K 2, .K 3] [1, 2, 3]) (.s (.seg 1 []) .ret))))) Tryz.func45 rfl rfl (by kernel_rfl) (fun _ => rfl) (fun i => by kernel_rfl) (fun i s => by kernel_rfl)

noncomputable def K45 : SCon El Tryz.prog := ⟨C45, S45, Tryz.call45⟩

noncomputable abbrev C141p : List (PK El) := [pO pool_Pool_jobs_Job.D]
noncomputable def C141 : Con El := mkCon 141 C141p (fun i_ => pool_Pool_jobs_Job_Places i_.1.2.2) 0 0 (fun i_ t ns_ as_ => .int .i64 t) (fun i_ t ns_ as_ => pool_Pool_jobs_Job.D.flat i_.1.1 i_.1.2.1 i_.1.2.2)

theorem S141 : (C141).Sound Tryz.prog :=
  fn_sound mixed (C141) (n := 7) (rs := rsOf Tryz.prog 141) [] [0, 1, 2] (gj (gI 2) []) (fun i => (.s (.seg 1 []) (.s (.seg 5 [.C 0 0]) .ret))) Tryz.func141 rfl rfl (by kernel_rfl) (fun _ => rfl) (fun i => by kernel_rfl) (fun i s => by kernel_rfl)

noncomputable def K141 : SCon El Tryz.prog := ⟨C141, S141, Tryz.call141⟩

noncomputable abbrev C142p : List (PK El) := [pO pool_Pool_jobs_Job.D, pV jobs_Job.dv jobs_Job.val]
noncomputable def C142 : Con El := mkCon 142 C142p (fun i_ => pool_Pool_jobs_Job_Take i_.1.2.2 i_.2.1) 2 2 (fun i_ t ns_ as_ => .tuple #[.agg #[.int .i64 t.1.At, .int .i64 t.1.Gen], .bool t.2.1]) (fun i_ t ns_ as_ => pool_Pool_jobs_Job.D.flat i_.1.1 (pool_Pool_jobs_Job.A.mk (na as_ 0) (nn ns_ 0) (na as_ 1) (nn ns_ 1)) t.2.2)

theorem S142 : (C142).Sound Tryz.prog :=
  fn_sound mixed (C142) (n := 81) (rs := rsOf Tryz.prog 142) [.C 2000 0, .C 2000 1] [0, 1, 2] (gj (g2 (gC 2000 0 2 api_Ref.dec) (g2 (gB 5) (gO pool_Pool_jobs_Job.D [0, 1, 2]))) [nA pool_Pool_jobs_Job.D [0, 1, 2] (fun al => ([al.l_c, al.free_c], [al.l_b, al.free_b]))]) (fun i => (.s (.new 3 []) (.s (.new 4 []) (.s (.seg 1 []) (.s (.seg 6 [.C 0 1]) (.s (.seg 7 [.C 0 2]) (.s (.seg 2 []) (.joinR (Int × pool_Pool_jobs_Job) 2 2 (gj (g2 (gI 6) (gO pool_Pool_jobs_Job.D [0, 1, 2])) [nA pool_Pool_jobs_Job.D [0, 1, 2] (fun al => ([al.l_c, al.free_c], [al.l_b, al.free_b]))]) (fun st_ s_ ns_ as_ => match (gP 0) st_ with | some x_ => ([(6, .int .i64 s_.1)] ++ kp [0, 3, 4] st_, ka [4, 3] st_ ++ zipL [0, 1, 2] (pool_Pool_jobs_Job.D.flat (x_) (pool_Pool_jobs_Job.A.mk (na as_ 0) (nn ns_ 0) (na as_ 1) (nn ns_ 1)) s_.2)) | none => ([], [])) (.cond (.s (.seg 5 [.C 0 2]) (.s (.idx false 2 (.tmp 26) 2) (.s (.seg 3 [.A 2, .X 2 2 0]) (.s (.seg 6 [.C 0 2]) (.s (.cut false 2 none (some (.tmp 34)) 1003) (.s (.seg 3 [.W 1003]) (.s (.sto 0) (.s (.own 1003 2) .leaf)))))))) (.s (.seg 6 [.C 0 0]) (.cond (.s (.seg 1 []) (.s (.sto 4) (.s (.seg 1 []) (.rk [(4, 2000), (2000, 92000)] .ret)))) (.s (.seg 6 [.C 0 1]) (.s (.bld 6 4 172) (.s (.app 1 (.O 6)) (.s (.seg 2 []) (.s (.sto 0) .leaf)))))))) (.s (.seg 5 [.C 0 1]) (.s (.idx false 1 (.tmp 59) 4) (.s (.seg 2 [.A 4]) (.s (.seg 7 [.X 4 1 0]) (.s (.sset 1 4 0) (.s (.rlc 4 0 1) (.drw (.q [0, 1, 2, 3, 4] [.C 3 0, .C 3 1, .C 3 2, .C 3 3, .C 3 4] (.a 5 (.sset 1 4 1) [.C 3 0, .C 3 1, .C 3 2, .C 3 3, .C 3 4] (.s (.rlc 4 0 1) (.q [6, 7] [] (.a 8 (.sset 1 4 2) [] (.s (.rlc 4 0 1) (.s (.seg 6 [.X 4 1 0]) (.s (.sto 4) (.s (.seg 1 []) (.rk [(4, 2000), (2000, 92000)] .ret))))))))))))))))))))))))) Tryz.func142 rfl rfl (by kernel_rfl) (fun _ => rfl) (fun i => by kernel_rfl) (fun i s => by kernel_rfl)

noncomputable def K142 : SCon El Tryz.prog := ⟨C142, S142, Tryz.call142⟩

noncomputable abbrev C101p : List (PK El) := [pO jobs_Table.D, pV jobs_Job.dv jobs_Job.val]
noncomputable def C101 : Con El := mkCon 101 C101p (fun i_ => jobs_Table_Add i_.1.2.2 i_.2.1) 2 2 (fun i_ t ns_ as_ => .tuple #[.agg #[.int .i64 t.1.At, .int .i64 t.1.Gen], .int .i64 t.2.1]) (fun i_ t ns_ as_ => jobs_Table.D.flat i_.1.1 (jobs_Table.A.mk i_.1.2.1.p_p (pool_Pool_jobs_Job.A.mk (na as_ 0) (nn ns_ 0) (na as_ 1) (nn ns_ 1)) i_.1.2.1.by__p) t.2.2)

theorem S101 : (C101).Sound Tryz.prog :=
  fn_sound mixed (C101) (n := 53) (rs := rsOf Tryz.prog 101) [.C 2000 0, .C 2000 1] [0, 1, 2, 3, 4] (gj (g2 (gC 2000 0 2 api_Ref.dec) (g2 (gI 5) (gO jobs_Table.D [0, 1, 2, 3, 4]))) [nA jobs_Table.D [0, 1, 2, 3, 4] (fun al => ([al.p_a.l_c, al.p_a.free_c], [al.p_a.l_b, al.p_a.free_b]))]) (fun i => (.s (.new 5 []) (.s (.new 6 []) (.s (.seg 1 []) (.jg (Bool) 0 0 (gj (gB 7) []) (fun st_ s_ ns_ as_ => ([(7, .bool s_)] ++ kp [0, 3, 4] st_, ka [6, 5, 0, 1, 2, 3, 4] st_)) (.drw (.q [0, 1, 2, 3, 4, 5] [.C 0 1, .C 5 3, .C 5 4] (.alt2 6 (.mget 4 2 28 api_Ref.key_ok (api_Ref.mk 0 0)) [] (.q [7, 8, 9] [] (.a 10 (.new 8 []) [] (.a 11 (.sto 8) [] (.q [12] [] .leaf)))) 10 (.new 9 []) [.C 5 3, .C 5 4, .C 0 1] (.a 6 (.mget 4 2 28 api_Ref.key_ok (api_Ref.mk 0 0)) [] (.q [7, 8, 9] [] (.a 11 (.sto 9) [] (.q [12] [] .leaf))))))) (.blk (.drw (.q [0, 1, 2, 3, 5, 6, 7, 8] [.C 0 0, .C 0 0] (.a 4 (.call K75 [.K 1, .K 2, .K 3] [1, 2, 3]) [.C 0 0] (.a 9 (.call K141 [.K 1, .K 2, .K 3] [1, 2, 3]) [] (.q [10, 11] [] (.cond (.s (.seg 1 []) (.s (.sto 6) (.s (.seg 1 []) (.rk [(6, 2000), (2000, 92000)] .ret)))) (.s (.seg 2 []) (.cond (.s (.seg 1 []) (.s (.sto 6) (.s (.seg 1 []) (.rk [(6, 2000), (2000, 92000)] .ret)))) (.jg (api_Ref × jobs_Table) 3 2 (gj (g2 (gC 12 0 2 api_Ref.dec) (gO jobs_Table.D [0, 1, 2, 3, 4])) [nPk 12, nA jobs_Table.D [0, 1, 2, 3, 4] (fun al => ([al.p_a.l_c, al.p_a.free_c], [al.p_a.l_b, al.p_a.free_b]))]) (fun st_ s_ ns_ as_ => match (g2 (gP 0) (gA jobs_Table.D [0, 1, 2, 3, 4])) st_ with | some x_ => ([(8, .pointer (some ⟨(nn ns_ 0), 0, none⟩))] ++ kp [0, 3, 4] st_, ka [6, 5] st_ ++ zipL [12] [.blk (nn ns_ 0) 28 [.int .i64 s_.1.At, .int .i64 s_.1.Gen]] ++ zipL [0, 1, 2, 3, 4] (jobs_Table.D.flat (x_.1) (jobs_Table.A.mk (x_.2.p_p) (pool_Pool_jobs_Job.A.mk (na as_ 0) (nn ns_ 1) (na as_ 1) (nn ns_ 2)) (x_.2.by__p)) s_.2)) | none => ([], [])) (.drw (.q [0, 1, 2, 3, 4] [.C 0 0, .C 5 0, .C 5 1, .C 5 2, .C 5 3, .C 5 4] (.alt2 5 (.call K142 [.K 1, .K 2, .K 3] [1, 2, 3]) [] (.q [6, 7, 8] [] (.a 9 (.new 13 []) [] (.a 10 (.sto 13) [] (.q [11] [] (.rk [(13, 12), (12, 90012)] .leaf))))) 9 (.new 14 []) [.C 5 0, .C 5 1, .C 5 2, .C 5 3, .C 5 4, .C 0 0] (.a 5 (.call K142 [.K 1, .K 2, .K 3] [1, 2, 3]) [] (.q [6, 7, 8] [] (.a 10 (.sto 14) [] (.q [11] [] (.rk [(14, 12), (12, 90012)] .leaf)))))))) (.drw (.q [0, 1, 2, 3, 4, 5, 6] [.C 0 1, .C 5 3, .C 5 4, .C 12 0, .C 12 1] (.a 7 (.mput 4 2 28 api_Ref.key_ok) [] (.s (.seg 1 [.C 12 0, .C 12 1]) (.s (.sto 6) (.s (.seg 1 []) (.rk [(6, 2000), (2000, 92000)] .ret)))))))))))))))))))))) Tryz.func101 rfl rfl (by kernel_rfl) (fun _ => rfl) (fun i => by kernel_rfl) (fun i s => by kernel_rfl)

noncomputable def K101 : SCon El Tryz.prog := ⟨C101, S101, Tryz.call101⟩

noncomputable abbrev C102p : List (PK El) := [pV jobs_Job.dv jobs_Job.val]
noncomputable def C102 : Con El := mkCon 102 C102p (fun i_ => dispatch_told i_.1) 0 0 (fun i_ t ns_ as_ => .agg #[.int .i64 t.Why, .int .i64 t.Job.At, .int .i64 t.Job.Gen, .int .i64 t.Time, .int .i64 t.Data, .int .i64 t.N]) (fun i_ t ns_ as_ => [])

theorem S102 : (C102).Sound Tryz.prog :=
  fn_sound mixed (C102) (n := 8) (rs := rsOf Tryz.prog 102) [.C 2000 0, .C 2000 1, .C 2000 2, .C 2000 3, .C 2000 4, .C 2000 5] [] (gj (gC 2000 0 6 api_Reply.dec) []) (fun i => (.s (.new 0 []) (.s (.new 1 []) (.s (.seg 5 [.C 0 1, .C 0 2]) (.s (.sto 1) (.rk [(1, 2000), (2000, 92000)] .ret)))))) Tryz.func102 rfl rfl (by kernel_rfl) (fun _ => rfl) (fun i => by kernel_rfl) (fun i s => by kernel_rfl)

noncomputable def K102 : SCon El Tryz.prog := ⟨C102, S102, Tryz.call102⟩

noncomputable abbrev C68p : List (PK El) := [pO dispatch_Dispatcher.D, pV api_Command.dv api_Command.val]
noncomputable def C68 (k : Nat) : Con El := mkCon 68 C68p (fun i_ => dispatch_Dispatcher_schedule k i_.1.2.2 i_.2.1) 17 8 (fun i_ t ns_ as_ => .agg #[.int .i64 t.1.Why, .int .i64 t.1.Job.At, .int .i64 t.1.Job.Gen, .int .i64 t.1.Time, .int .i64 t.1.Data, .int .i64 t.1.N]) (fun i_ t ns_ as_ => dispatch_Dispatcher.D.flat i_.1.1 (dispatch_Dispatcher.A.mk i_.1.2.1.q_p (pq_Queues.A.mk (nn ns_ 0) (arena_Arena.A.mk (na as_ 0) (nn ns_ 1) (na as_ 1) (nn ns_ 2) (nn ns_ 3)) (nn ns_ 4) (slots_Table.A.mk (nn ns_ 5) (pool_Pool_slots_heap.A.mk (na as_ 2) (nn ns_ 6) (na as_ 3) (nn ns_ 7)) (nn ns_ 8) (pool_Pool_slots_thing.A.mk (na as_ 4) (nn ns_ 9) (na as_ 5) (nn ns_ 10)) (nn ns_ 11)) (nn ns_ 12)) i_.1.2.1.t__p (jobs_Table.A.mk (nn ns_ 13) (pool_Pool_jobs_Job.A.mk (na as_ 6) (nn ns_ 14) (na as_ 7) (nn ns_ 15)) (nn ns_ 16)) i_.1.2.1.when_p i_.1.2.1.clock_p) t.2)

theorem S68 (k : Nat) : (C68 k).Sound Tryz.prog :=
  fn_sound mixed (C68 k) (n := 67) (rs := rsOf Tryz.prog 68) [.C 2000 0, .C 2000 1, .C 2000 2, .C 2000 3, .C 2000 4, .C 2000 5] [0, 1, 2, 3, 4, 5, 6, 7, 8, 9, 10, 11, 12, 13, 14, 15, 16, 17, 18, 19, 20, 21] (gj (g2 (gC 2000 0 6 api_Reply.dec) (gO dispatch_Dispatcher.D [0, 1, 2, 3, 4, 5, 6, 7, 8, 9, 10, 11, 12, 13, 14, 15, 16, 17, 18, 19, 20, 21])) [nA dispatch_Dispatcher.D [0, 1, 2, 3, 4, 5, 6, 7, 8, 9, 10, 11, 12, 13, 14, 15, 16, 17, 18, 19, 20, 21] (fun al => ([al.q_a.a__p, al.q_a.a__a.l_c, al.q_a.a__a.free_c, al.q_a.a__a.m__p, al.q_a.t__p, al.q_a.t__a.heaps_p, al.q_a.t__a.heaps_a.l_c, al.q_a.t__a.heaps_a.free_c, al.q_a.t__a.items_p, al.q_a.t__a.items_a.l_c, al.q_a.t__a.items_a.free_c, al.q_a.t__a.at__p, al.q_a.entries_p, al.t__a.p_p, al.t__a.p_a.l_c, al.t__a.p_a.free_c, al.t__a.by__p], [al.q_a.a__a.l_b, al.q_a.a__a.free_b, al.q_a.t__a.heaps_a.l_b, al.q_a.t__a.heaps_a.free_b, al.q_a.t__a.items_a.l_b, al.q_a.t__a.items_a.free_b, al.t__a.p_a.l_b, al.t__a.p_a.free_b]))]) (fun i => (.s (.new 22 []) (.s (.new 23 []) (.drw (.q [0, 1, 2, 3, 5, 6, 7, 8] [.C 0 7, .C 0 1] (.a 4 (.call K45 [.K 15, .K 16, .K 17, .K 18, .K 19] [15, 16, 17, 18, 19]) [.C 0 1] (.q [9] [] (.cond (.s (.call K44 [] []) (.s (.sto 23) (.rk [(23, 2000), (2000, 92000)] .ret))) (.jg (api_Answer × dispatch_Dispatcher) 14 6 (gj (g2 (gC 26 0 8 api_Answer.dec) (gO dispatch_Dispatcher.D [0, 1, 2, 3, 4, 5, 6, 7, 8, 9, 10, 11, 12, 13, 14, 15, 16, 17, 18, 19, 20, 21])) [nPk 26, nA dispatch_Dispatcher.D [0, 1, 2, 3, 4, 5, 6, 7, 8, 9, 10, 11, 12, 13, 14, 15, 16, 17, 18, 19, 20, 21] (fun al => ([al.q_a.a__p, al.q_a.a__a.l_c, al.q_a.a__a.free_c, al.q_a.a__a.m__p, al.q_a.t__p, al.q_a.t__a.heaps_p, al.q_a.t__a.heaps_a.l_c, al.q_a.t__a.heaps_a.free_c, al.q_a.t__a.items_p, al.q_a.t__a.items_a.l_c, al.q_a.t__a.items_a.free_c, al.q_a.t__a.at__p, al.q_a.entries_p], [al.q_a.a__a.l_b, al.q_a.a__a.free_b, al.q_a.t__a.heaps_a.l_b, al.q_a.t__a.heaps_a.free_b, al.q_a.t__a.items_a.l_b, al.q_a.t__a.items_a.free_b]))]) (fun st_ s_ ns_ as_ => match (g2 (gP 0) (gA dispatch_Dispatcher.D [0, 1, 2, 3, 4, 5, 6, 7, 8, 9, 10, 11, 12, 13, 14, 15, 16, 17, 18, 19, 20, 21])) st_ with | some x_ => ([(5, .pointer (some ⟨(nn ns_ 0), 0, none⟩))] ++ kp [0, 3, 4] st_, ka [23, 22] st_ ++ zipL [26] [.blk (nn ns_ 0) 106 [.int .i64 s_.1.Why, .int .i64 s_.1.Heap.At, .int .i64 s_.1.Heap.Gen, .int .i64 s_.1.Item.At, .int .i64 s_.1.Item.Gen, .int .i64 s_.1.Entry.Key, .int .i64 s_.1.Entry.Serial, .int .i64 s_.1.N]] ++ zipL [0, 1, 2, 3, 4, 5, 6, 7, 8, 9, 10, 11, 12, 13, 14, 15, 16, 17, 18, 19, 20, 21] (dispatch_Dispatcher.D.flat (x_.1) (dispatch_Dispatcher.A.mk (x_.2.q_p) (pq_Queues.A.mk (nn ns_ 1) (arena_Arena.A.mk (na as_ 0) (nn ns_ 2) (na as_ 1) (nn ns_ 3) (nn ns_ 4)) (nn ns_ 5) (slots_Table.A.mk (nn ns_ 6) (pool_Pool_slots_heap.A.mk (na as_ 2) (nn ns_ 7) (na as_ 3) (nn ns_ 8)) (nn ns_ 9) (pool_Pool_slots_thing.A.mk (na as_ 4) (nn ns_ 10) (na as_ 5) (nn ns_ 11)) (nn ns_ 12)) (nn ns_ 13)) (x_.2.t__p) (x_.2.t__a) (x_.2.when_p) (x_.2.clock_p)) s_.2)) | none => ([], [])) (.drw (.q [0, 1, 2, 3, 4, 5, 6, 7, 8] [.C 0 2, .C 22 1] (.s (.pix 0 3 2 6 (.tmp 27) 2002) (.q [9, 10, 11, 12, 13] [.Q 2002, .P 2002 0 0, .P 2002 0 1, .C 22 4] (.alt2 14 (.call (K56a k) [.K 1, .K 2, .K 3, .K 4, .K 5, .K 6, .K 7, .K 8, .K 9, .K 10, .K 11, .K 12, .K 13, .K 14] [1, 2, 3, 4, 5, 6, 7, 8, 9, 10, 11, 12, 13, 14]) [] (.a 15 (.new 27 []) [] (.a 16 (.sto 27) [] (.rk [(27, 26), (26, 90026)] .leaf))) 15 (.new 28 []) [.C 22 4, .P 2002 0 0, .P 2002 0 1, .Q 2002, .C 22 1, .C 0 2] (.a 14 (.call (K56a k) [.K 1, .K 2, .K 3, .K 4, .K 5, .K 6, .K 7, .K 8, .K 9, .K 10, .K 11, .K 12, .K 13, .K 14] [1, 2, 3, 4, 5, 6, 7, 8, 9, 10, 11, 12, 13, 14]) [] (.a 16 (.sto 28) [] (.rk [(28, 26), (26, 90026)] .leaf)))))))) (.s (.seg 9 [.C 22 1, .C 22 4, .C 22 5, .C 26 3, .C 26 4]) (.s (.new 29 []) (.s (.sto 29) (.jg (api_Ref × dispatch_Dispatcher) 5 2 (gj (g2 (gC 32 0 2 api_Ref.dec) (gO dispatch_Dispatcher.D [0, 1, 2, 3, 4, 5, 6, 7, 8, 9, 10, 11, 12, 13, 14, 15, 16, 17, 18, 19, 20, 21])) [nPk 32, nA dispatch_Dispatcher.D [0, 1, 2, 3, 4, 5, 6, 7, 8, 9, 10, 11, 12, 13, 14, 15, 16, 17, 18, 19, 20, 21] (fun al => ([al.t__a.p_p, al.t__a.p_a.l_c, al.t__a.p_a.free_c, al.t__a.by__p], [al.t__a.p_a.l_b, al.t__a.p_a.free_b]))]) (fun st_ s_ ns_ as_ => match (g2 (gP 0) (gA dispatch_Dispatcher.D [0, 1, 2, 3, 4, 5, 6, 7, 8, 9, 10, 11, 12, 13, 14, 15, 16, 17, 18, 19, 20, 21])) st_ with | some x_ => ([(7, .pointer (some ⟨(nn ns_ 0), 0, none⟩))] ++ kp [0, 4, 5, 6] st_, ka [29, 26, 23] st_ ++ zipL [32] [.blk (nn ns_ 0) 28 [.int .i64 s_.1.At, .int .i64 s_.1.Gen]] ++ zipL [0, 1, 2, 3, 4, 5, 6, 7, 8, 9, 10, 11, 12, 13, 14, 15, 16, 17, 18, 19, 20, 21] (dispatch_Dispatcher.D.flat (x_.1) (dispatch_Dispatcher.A.mk (x_.2.q_p) (x_.2.q_a) (x_.2.t__p) (jobs_Table.A.mk (nn ns_ 1) (pool_Pool_jobs_Job.A.mk (na as_ 0) (nn ns_ 2) (na as_ 1) (nn ns_ 3)) (nn ns_ 4)) (x_.2.when_p) (x_.2.clock_p)) s_.2)) | none => ([], [])) (.drw (.q [0, 1, 2, 3, 4] [.C 0 7, .C 29 0, .C 29 1, .C 29 2, .C 29 3, .C 29 4] (.alt2 5 (.call K101 [.K 15, .K 16, .K 17, .K 18, .K 19] [15, 16, 17, 18, 19]) [] (.q [6, 7, 8] [] (.a 9 (.new 33 []) [] (.a 10 (.sto 33) [] (.q [11] [] (.rk [(33, 32), (32, 90032)] .leaf))))) 9 (.new 34 []) [.C 29 0, .C 29 1, .C 29 2, .C 29 3, .C 29 4, .C 0 7] (.a 5 (.call K101 [.K 15, .K 16, .K 17, .K 18, .K 19] [15, 16, 17, 18, 19]) [] (.q [6, 7, 8] [] (.a 10 (.sto 34) [] (.q [11] [] (.rk [(34, 32), (32, 90032)] .leaf)))))))) (.drw (.q [0, 1, 2, 3, 4, 5, 6, 7] [.C 0 8, .C 32 0, .C 32 1, .C 26 6] (.a 8 (.mput 20 3 28 api_Ref.key_ok) [] (.s (.seg 1 [.C 29 0, .C 29 1, .C 29 2, .C 29 3, .C 29 4]) (.s (.call K102 [] []) (.s (.new 35 []) (.s (.sto 35) (.s (.seg 2 [.C 32 0, .C 32 1]) (.s (.sto 35) (.s (.seg 1 [.C 35 0, .C 35 1, .C 35 2, .C 35 3, .C 35 4, .C 35 5]) (.s (.sto 23) (.rk [(23, 2000), (2000, 92000)] .ret))))))))))))))))))))))))) Tryz.func68 rfl rfl (by kernel_rfl) (fun _ => rfl) (fun i => by kernel_rfl) (fun i s => by kernel_rfl)

noncomputable def K68 (k : Nat) : SCon El Tryz.prog := ⟨C68 k, S68 k, Tryz.call68⟩

noncomputable abbrev C108p : List (PK El) := [pO pool_Pool_jobs_Job.D, pV api_Ref.dv api_Ref.val]
noncomputable def C108 : Con El := mkConO 108 C108p (fun i_ => pool_Pool_jobs_Job_find i_.1.2.2 i_.2.1) 0 0 (fun i_ t ns_ as_ => .tuple #[elemV i_.1.2.1.l_b 7 t.1, .int .i64 t.2]) (fun i_ t ns_ as_ => pool_Pool_jobs_Job.D.flat i_.1.1 i_.1.2.1 i_.1.2.2) (fun i_ t => t.1)

theorem S108 : (C108).Sound Tryz.prog :=
  fn_sound mixed (C108) (n := 61) (rs := rsOf Tryz.prog 108) [] [0, 1, 2] (gj (g2 gE (gI 5)) []) (fun i => (.s (.new 3 []) (.s (.seg 2 []) (.join (Bool) 0 0 (gj (gB 38) []) (fun st_ s_ ns_ as_ => ([(38, .bool s_)] ++ kp [0, 3] st_, ka [3, 0, 1, 2] st_)) (.drw (.q [0, 1, 2, 3] [.C 3 0] (.split 10 (.q [4, 5, 6, 7, 8, 9, 10, 11, 12, 13, 14, 15, 16, 17, 18, 19, 20, 21, 22, 23, 24, 25, 26, 27, 28, 29, 30, 31] [] .leaf) (.q [4, 5, 6, 7, 8, 9, 10, 11, 12, 13] [.C 3 0, .C 0 1] (.split 20 (.q [14, 15, 16, 17, 18, 19, 20, 21, 22, 23, 24, 25, 26, 27, 28, 29, 30, 31] [] .leaf) (.q [14, 15, 16, 17, 18] [.C 3 1] (.split 25 (.q [19, 20, 21, 22, 23, 24, 25, 26, 27, 28, 29, 30, 31] [] .leaf) (.q [19, 20, 21, 22, 23, 24, 25, 26] [.C 3 1, .C 0 1, .C 3 0] (.s (.idx false 1 (.tmp 33) 2) (.q [27, 28, 29, 30, 31] [.A 2, .X 2 1 0] .leaf)))))))))) (.cond (.s (.seg 2 []) .ret) (.drw (.q [0, 1, 2, 3, 4, 5] [.C 0 1, .C 3 0] (.s (.idx false 1 (.tmp 44) 4) (.q [6, 7] [.A 4] (.drw (.q [0, 1, 2, 3, 4, 5, 6, 7] [.C 3 1, .X 4 1 0] (.pj 53 (Bool) mB (gB 59) (fun st s_ => ([(59, .bool s_)] ++ kp [6] st, ka [0, 1, 2, 3] st)) (.q [8, 9, 10, 11, 12, 13] [] .leaf) (.q [8, 9, 10, 11, 12, 13] [.X 4 1 1] .leaf) (.cond (.s (.seg 2 []) .ret) (.s (.seg 3 []) (.s (.el 4 4) .ret))))))))))))))) Tryz.func108 rfl rfl (by kernel_rfl) (fun _ => rfl) (fun i => by kernel_rfl) (fun i s => by kernel_rfl)

noncomputable def K108 : SCon El Tryz.prog := ⟨C108, S108, Tryz.call108⟩

noncomputable abbrev C77p : List (PK El) := [pO pool_Pool_jobs_Job.D, pV api_Ref.dv api_Ref.val]
noncomputable def C77 : Con El := mkCon 77 C77p (fun i_ => pool_Pool_jobs_Job_Get i_.1.2.2 i_.2.1) 0 0 (fun i_ t ns_ as_ => .tuple #[.agg #[.int .i64 t.1.Queue, .int .i64 t.1.Time, .int .i64 t.1.Data, .int .i64 t.1.Item.At, .int .i64 t.1.Item.Gen], .int .i64 t.2]) (fun i_ t ns_ as_ => pool_Pool_jobs_Job.D.flat i_.1.1 i_.1.2.1 i_.1.2.2)

theorem S77 : (C77).Sound Tryz.prog :=
  fn_sound mixed (C77) (n := 23) (rs := rsOf Tryz.prog 77) [.C 2000 0, .C 2000 1, .C 2000 2, .C 2000 3, .C 2000 4] [0, 1, 2] (gj (g2 (gC 2000 0 5 jobs_Job.dec) (gI 5)) []) (fun i => (.s (.new 3 []) (.s (.new 4 []) (.s (.seg 1 []) (.s (.seg 2 [.C 3 0, .C 3 1]) (.s (.call K108 [.K 0, .K 1, .K 2] [0, 1, 2]) (.eo 12 0 1 0 (.s (.seg 5 []) (.s (.seg 2 []) (.cond (.s (.new 5 []) (.s (.seg 2 [.C 5 0, .C 5 1, .C 5 2, .C 5 3, .C 5 4]) (.s (.sto 4) (.s (.seg 1 []) (.rk [(4, 2000), (2000, 92000)] .ret))))) .dead))) (.s (.seg 5 []) (.s (.seg 2 []) (.cond (.s (.new 6 []) (.s (.seg 2 [.C 6 0, .C 6 1, .C 6 2, .C 6 3, .C 6 4]) (.s (.sto 4) (.s (.seg 1 []) (.rk [(4, 2000), (2000, 92000)] .ret))))) (.s (.seg 4 [.X 0 1 2, .X 0 1 3, .X 0 1 4, .X 0 1 5, .X 0 1 6]) (.s (.sto 4) (.s (.seg 1 []) (.rk [(4, 2000), (2000, 92000)] .ret)))))))))))))) Tryz.func77 rfl rfl (by kernel_rfl) (fun _ => rfl) (fun i => by kernel_rfl) (fun i s => by kernel_rfl)

noncomputable def K77 : SCon El Tryz.prog := ⟨C77, S77, Tryz.call77⟩

noncomputable abbrev C47p : List (PK El) := [pO jobs_Table.D, pV api_Ref.dv api_Ref.val]
noncomputable def C47 : Con El := mkCon 47 C47p (fun i_ => jobs_Table_Get i_.1.2.2 i_.2.1) 0 0 (fun i_ t ns_ as_ => .tuple #[.agg #[.int .i64 t.1.Queue, .int .i64 t.1.Time, .int .i64 t.1.Data, .int .i64 t.1.Item.At, .int .i64 t.1.Item.Gen], .int .i64 t.2]) (fun i_ t ns_ as_ => jobs_Table.D.flat i_.1.1 i_.1.2.1 i_.1.2.2)

theorem S47 : (C47).Sound Tryz.prog :=
  fn_sound mixed (C47) (n := 14) (rs := rsOf Tryz.prog 47) [.C 2000 0, .C 2000 1, .C 2000 2, .C 2000 3, .C 2000 4] [0, 1, 2, 3, 4] (gj (g2 (gC 2000 0 5 jobs_Job.dec) (gI 5)) []) (fun i => (.s (.new 5 []) (.s (.new 6 []) (.s (.seg 1 []) (.drw (.q [0, 1, 2, 3, 4] [.C 0 0, .C 5 0, .C 5 1] (.a 5 (.call K77 [.K 1, .K 2, .K 3] [1, 2, 3]) [] (.q [6, 7] [] (.a 8 (.sto 6) [] (.q [9] [] (.rk [(6, 2000), (2000, 92000)] .ret))))))))))) Tryz.func47 rfl rfl (by kernel_rfl) (fun _ => rfl) (fun i => by kernel_rfl) (fun i s => by kernel_rfl)

noncomputable def K47 : SCon El Tryz.prog := ⟨C47, S47, Tryz.call47⟩

noncomputable abbrev C143p : List (PK El) := [pO pool_Pool_jobs_Job.D, pV api_Ref.dv api_Ref.val, pV jobs_Job.dv jobs_Job.val]
noncomputable def C143 : Con El := mkCon 143 C143p (fun i_ => pool_Pool_jobs_Job_Set i_.1.2.2 i_.2.1 i_.2.2.1) 0 0 (fun i_ t ns_ as_ => .int .i64 t.1) (fun i_ t ns_ as_ => pool_Pool_jobs_Job.D.flat i_.1.1 i_.1.2.1 t.2)

theorem S143 : (C143).Sound Tryz.prog :=
  fn_sound mixed (C143) (n := 22) (rs := rsOf Tryz.prog 143) [] [0, 1, 2] (gj (g2 (gI 6) (gO pool_Pool_jobs_Job.D [0, 1, 2])) []) (fun i => (.s (.new 3 []) (.s (.new 4 []) (.s (.seg 1 []) (.s (.seg 2 [.C 3 0, .C 3 1]) (.s (.call K108 [.K 0, .K 1, .K 2] [0, 1, 2]) (.eo 12 0 1 0 (.s (.seg 5 []) (.s (.seg 2 []) (.join (Unit) 0 0 (gj gU []) (fun st_ s_ ns_ as_ => ([] ++ kp [8] st_, ka [0, 1, 2] st_)) (.cond .dead .leaf) (.s (.seg 2 []) .ret)))) (.s (.seg 5 []) (.s (.seg 2 []) (.join (pool_Pool_jobs_Job) 0 0 (gj (gO pool_Pool_jobs_Job.D [0, 1, 2]) []) (fun st_ s_ ns_ as_ => match (g2 (gP 0) (gA pool_Pool_jobs_Job.D [0, 1, 2])) st_ with | some x_ => ([] ++ kp [8] st_, ka [] st_ ++ zipL [0, 1, 2] (pool_Pool_jobs_Job.D.flat (x_.1) (x_.2) s_)) | none => ([], [])) (.cond (.s (.seg 4 [.C 4 0, .C 4 1, .C 4 2, .C 4 3, .C 4 4]) (.s (.sset 1 0 2) (.s (.rlc 0 0 1) .leaf))) .leaf) (.s (.seg 2 []) .ret))))))))))) Tryz.func143 rfl rfl (by kernel_rfl) (fun _ => rfl) (fun i => by kernel_rfl) (fun i s => by kernel_rfl)

noncomputable def K143 : SCon El Tryz.prog := ⟨C143, S143, Tryz.call143⟩

noncomputable abbrev C103p : List (PK El) := [pO jobs_Table.D, pV api_Ref.dv api_Ref.val, pV jobs_Job.dv jobs_Job.val]
noncomputable def C103 : Con El := mkCon 103 C103p (fun i_ => jobs_Table_Set i_.1.2.2 i_.2.1 i_.2.2.1) 0 0 (fun i_ t ns_ as_ => .int .i64 t.1) (fun i_ t ns_ as_ => jobs_Table.D.flat i_.1.1 i_.1.2.1 t.2)

theorem S103 : (C103).Sound Tryz.prog :=
  fn_sound mixed (C103) (n := 59) (rs := rsOf Tryz.prog 103) [] [0, 1, 2, 3, 4] (gj (g2 (gI 6) (gO jobs_Table.D [0, 1, 2, 3, 4])) []) (fun i => (.s (.new 5 []) (.s (.new 6 []) (.s (.seg 1 []) (.jg (jobs_Job × Int) 1 0 (gj (g2 (gC 9 0 5 jobs_Job.dec) (gI 8)) [nPk 9]) (fun st_ s_ ns_ as_ => ([(7, .pointer (some ⟨(nn ns_ 0), 0, none⟩)), (8, .int .i64 s_.2)] ++ kp [0, 4, 5] st_, ka [6, 5, 0, 1, 2, 3, 4] st_ ++ zipL [9] [.blk (nn ns_ 0) 91 [.int .i64 s_.1.Queue, .int .i64 s_.1.Time, .int .i64 s_.1.Data, .int .i64 s_.1.Item.At, .int .i64 s_.1.Item.Gen]])) (.drw (.q [0, 1, 2, 3, 4] [.C 0 0, .C 5 0, .C 5 1] (.alt2 5 (.call K77 [.K 1, .K 2, .K 3] [1, 2, 3]) [] (.q [6, 7, 8] [] (.a 9 (.new 10 []) [] (.a 10 (.sto 10) [] (.q [11] [] (.rk [(10, 9), (9, 90009)] .leaf))))) 9 (.new 11 []) [.C 5 0, .C 5 1, .C 0 0] (.a 5 (.call K77 [.K 1, .K 2, .K 3] [1, 2, 3]) [] (.q [6, 7, 8] [] (.a 10 (.sto 11) [] (.q [11] [] (.rk [(11, 9), (9, 90009)] .leaf)))))))) (.s (.seg 2 []) (.cond (.s (.seg 2 []) .ret) (.jg (api_Ref × Bool) 1 0 (gj (g2 (gC 14 0 2 api_Ref.dec) (gB 10)) [nPk 14]) (fun st_ s_ ns_ as_ => ([(9, .pointer (some ⟨(nn ns_ 0), 0, none⟩)), (10, .bool s_.2)] ++ kp [0, 4, 5, 7] st_, ka [9, 6, 5, 0, 1, 2, 3, 4] st_ ++ zipL [14] [.blk (nn ns_ 0) 28 [.int .i64 s_.1.At, .int .i64 s_.1.Gen]])) (.drw (.q [0, 1, 2, 3, 4, 5] [.C 0 1, .C 6 3, .C 6 4] (.alt2 6 (.mget 4 2 28 api_Ref.key_ok (api_Ref.mk 0 0)) [] (.q [7, 8, 9] [] (.a 10 (.new 15 []) [] (.a 11 (.sto 15) [] (.q [12] [] (.rk [(15, 14), (14, 90014)] .leaf))))) 10 (.new 16 []) [.C 6 3, .C 6 4, .C 0 1] (.a 6 (.mget 4 2 28 api_Ref.key_ok (api_Ref.mk 0 0)) [] (.q [7, 8, 9] [] (.a 11 (.sto 16) [] (.q [12] [] (.rk [(16, 14), (14, 90014)] .leaf)))))))) (.join (Bool) 0 0 (gj (gB 38) []) (fun st_ s_ ns_ as_ => ([(38, .bool s_)] ++ kp [0, 4, 5, 7] st_, ka [9, 6, 5, 0, 1, 2, 3, 4] st_)) (.s (.seg 2 []) (.split 34 (.s (.seg 2 [.C 14 0, .C 14 1, .C 5 0, .C 5 1]) (.s (.eqs api_Ref.eqD) (.s (.seg 1 []) .leaf))) (.s (.seg 4 []) .leaf))) (.cond (.s (.seg 1 []) .ret) (.drw (.q [0, 1, 2, 3, 4, 5] [.C 0 1, .C 9 3, .C 9 4] (.a 6 (.mdel 4 2 28 api_Ref.key_ok) [] (.drw (.q [0, 1, 2, 3, 4, 5, 6] [.C 0 1, .C 6 3, .C 6 4, .C 5 0, .C 5 1] (.a 7 (.mput 4 2 28 api_Ref.key_ok) [] (.drw (.q [0, 1, 2, 3, 4, 5] [.C 0 0, .C 5 0, .C 5 1, .C 6 0, .C 6 1, .C 6 2, .C 6 3, .C 6 4] (.a 6 (.call K143 [.K 1, .K 2, .K 3] [1, 2, 3]) [] (.q [7] [] .ret)))))))))))))))))))) Tryz.func103 rfl rfl (by kernel_rfl) (fun _ => rfl) (fun i => by kernel_rfl) (fun i s => by kernel_rfl)

noncomputable def K103 : SCon El Tryz.prog := ⟨C103, S103, Tryz.call103⟩

noncomputable abbrev C69p : List (PK El) := [pO dispatch_Dispatcher.D, pV api_Command.dv api_Command.val]
noncomputable def C69 (k : Nat) : Con El := mkCon 69 C69p (fun i_ => dispatch_Dispatcher_sooner k i_.1.2.2 i_.2.1) 13 6 (fun i_ t ns_ as_ => .agg #[.int .i64 t.1.Why, .int .i64 t.1.Job.At, .int .i64 t.1.Job.Gen, .int .i64 t.1.Time, .int .i64 t.1.Data, .int .i64 t.1.N]) (fun i_ t ns_ as_ => dispatch_Dispatcher.D.flat i_.1.1 (dispatch_Dispatcher.A.mk i_.1.2.1.q_p (pq_Queues.A.mk (nn ns_ 0) (arena_Arena.A.mk (na as_ 0) (nn ns_ 1) (na as_ 1) (nn ns_ 2) (nn ns_ 3)) (nn ns_ 4) (slots_Table.A.mk (nn ns_ 5) (pool_Pool_slots_heap.A.mk (na as_ 2) (nn ns_ 6) (na as_ 3) (nn ns_ 7)) (nn ns_ 8) (pool_Pool_slots_thing.A.mk (na as_ 4) (nn ns_ 9) (na as_ 5) (nn ns_ 10)) (nn ns_ 11)) (nn ns_ 12)) i_.1.2.1.t__p i_.1.2.1.t__a i_.1.2.1.when_p i_.1.2.1.clock_p) t.2)

theorem S69 (k : Nat) : (C69 k).Sound Tryz.prog :=
  fn_sound mixed (C69 k) (n := 52) (rs := rsOf Tryz.prog 69) [.C 2000 0, .C 2000 1, .C 2000 2, .C 2000 3, .C 2000 4, .C 2000 5] [0, 1, 2, 3, 4, 5, 6, 7, 8, 9, 10, 11, 12, 13, 14, 15, 16, 17, 18, 19, 20, 21] (gj (g2 (gC 2000 0 6 api_Reply.dec) (gO dispatch_Dispatcher.D [0, 1, 2, 3, 4, 5, 6, 7, 8, 9, 10, 11, 12, 13, 14, 15, 16, 17, 18, 19, 20, 21])) [nA dispatch_Dispatcher.D [0, 1, 2, 3, 4, 5, 6, 7, 8, 9, 10, 11, 12, 13, 14, 15, 16, 17, 18, 19, 20, 21] (fun al => ([al.q_a.a__p, al.q_a.a__a.l_c, al.q_a.a__a.free_c, al.q_a.a__a.m__p, al.q_a.t__p, al.q_a.t__a.heaps_p, al.q_a.t__a.heaps_a.l_c, al.q_a.t__a.heaps_a.free_c, al.q_a.t__a.items_p, al.q_a.t__a.items_a.l_c, al.q_a.t__a.items_a.free_c, al.q_a.t__a.at__p, al.q_a.entries_p], [al.q_a.a__a.l_b, al.q_a.a__a.free_b, al.q_a.t__a.heaps_a.l_b, al.q_a.t__a.heaps_a.free_b, al.q_a.t__a.items_a.l_b, al.q_a.t__a.items_a.free_b]))]) (fun i => (.s (.new 22 []) (.s (.new 23 []) (.jg (jobs_Job × Int) 1 0 (gj (g2 (gC 26 0 5 jobs_Job.dec) (gI 6)) [nPk 26]) (fun st_ s_ ns_ as_ => ([(5, .pointer (some ⟨(nn ns_ 0), 0, none⟩)), (6, .int .i64 s_.2)] ++ kp [0, 3, 4] st_, ka [23, 22, 0, 1, 2, 3, 4, 5, 6, 7, 8, 9, 10, 11, 12, 13, 14, 15, 16, 17, 18, 19, 20, 21] st_ ++ zipL [26] [.blk (nn ns_ 0) 91 [.int .i64 s_.1.Queue, .int .i64 s_.1.Time, .int .i64 s_.1.Data, .int .i64 s_.1.Item.At, .int .i64 s_.1.Item.Gen]])) (.drw (.q [0, 1, 2, 3, 4, 5] [.C 0 7, .C 22 2, .C 22 3] (.alt2 6 (.call K47 [.K 15, .K 16, .K 17, .K 18, .K 19] [15, 16, 17, 18, 19]) [] (.q [7, 8, 9] [] (.a 10 (.new 27 []) [] (.a 11 (.sto 27) [] (.q [12] [] (.rk [(27, 26), (26, 90026)] .leaf))))) 10 (.new 28 []) [.C 22 2, .C 22 3, .C 0 7] (.a 6 (.call K47 [.K 15, .K 16, .K 17, .K 18, .K 19] [15, 16, 17, 18, 19]) [] (.q [7, 8, 9] [] (.a 11 (.sto 28) [] (.q [12] [] (.rk [(28, 26), (26, 90026)] .leaf)))))))) (.blk (.s (.seg 3 []) (.cond (.s (.seg 1 []) (.s (.call K44 [] []) (.s (.sto 23) (.rk [(23, 2000), (2000, 92000)] .ret)))) (.s (.seg 6 [.C 22 4, .C 26 1]) (.cond (.s (.call K44 [] []) (.s (.sto 23) (.rk [(23, 2000), (2000, 92000)] .ret))) (.drw (.q [0, 1, 2, 3, 4, 5, 6, 7, 8] [.C 0 2, .C 26 3, .C 26 4, .C 22 4] (.a 9 (.call (K56a k) [.K 1, .K 2, .K 3, .K 4, .K 5, .K 6, .K 7, .K 8, .K 9, .K 10, .K 11, .K 12, .K 13, .K 14] [1, 2, 3, 4, 5, 6, 7, 8, 9, 10, 11, 12, 13, 14]) [] (.s (.seg 3 [.C 22 4]) (.s (.sto 26) (.drw (.q [0, 1, 2, 3, 4, 5, 6] [.C 0 7, .C 22 2, .C 22 3, .C 26 0, .C 26 1, .C 26 2, .C 26 3, .C 26 4] (.a 7 (.call K103 [.K 15, .K 16, .K 17, .K 18, .K 19] [15, 16, 17, 18, 19]) [] (.s (.seg 1 [.C 26 0, .C 26 1, .C 26 2, .C 26 3, .C 26 4]) (.s (.call K102 [] []) (.s (.sto 23) (.rk [(23, 2000), (2000, 92000)] .ret))))))))))))))))))))) Tryz.func69 rfl rfl (by kernel_rfl) (fun _ => rfl) (fun i => by kernel_rfl) (fun i s => by kernel_rfl)

noncomputable def K69 (k : Nat) : SCon El Tryz.prog := ⟨C69 k, S69 k, Tryz.call69⟩

noncomputable abbrev C199p : List (PK El) := [pO pool_Pool_jobs_Job.D, pV api_Ref.dv api_Ref.val]
noncomputable def C199 : Con El := mkCon 199 C199p (fun i_ => pool_Pool_jobs_Job_Give i_.1.2.2 i_.2.1) 1 1 (fun i_ t ns_ as_ => .tuple #[.agg #[.int .i64 t.1.Queue, .int .i64 t.1.Time, .int .i64 t.1.Data, .int .i64 t.1.Item.At, .int .i64 t.1.Item.Gen], .int .i64 t.2.1]) (fun i_ t ns_ as_ => pool_Pool_jobs_Job.D.flat i_.1.1 (pool_Pool_jobs_Job.A.mk i_.1.2.1.l_b i_.1.2.1.l_c (na as_ 0) (nn ns_ 0)) t.2.2)

theorem S199 : (C199).Sound Tryz.prog :=
  fn_sound mixed (C199) (n := 43) (rs := rsOf Tryz.prog 199) [.C 2000 0, .C 2000 1, .C 2000 2, .C 2000 3, .C 2000 4] [0, 1, 2] (gj (g2 (gC 2000 0 5 jobs_Job.dec) (g2 (gI 5) (gO pool_Pool_jobs_Job.D [0, 1, 2]))) [nA pool_Pool_jobs_Job.D [0, 1, 2] (fun al => ([al.free_c], [al.free_b]))]) (fun i => (.s (.new 3 []) (.s (.new 4 []) (.s (.seg 1 []) (.s (.new 5 []) (.s (.seg 2 [.C 3 0, .C 3 1]) (.s (.call K108 [.K 0, .K 1, .K 2] [0, 1, 2]) (.eo 13 0 1 0 (.s (.seg 5 []) (.s (.seg 2 []) (.cond (.s (.seg 2 [.C 5 0, .C 5 1, .C 5 2, .C 5 3, .C 5 4]) (.s (.sto 4) (.s (.seg 1 []) (.rk [(4, 2000), (2000, 92000)] .ret)))) .dead))) (.s (.seg 5 []) (.s (.seg 2 []) (.cond (.s (.seg 2 [.C 5 0, .C 5 1, .C 5 2, .C 5 3, .C 5 4]) (.s (.sto 4) (.s (.seg 1 []) (.rk [(4, 2000), (2000, 92000)] .ret)))) (.s (.seg 4 [.X 0 1 2, .X 0 1 3, .X 0 1 4, .X 0 1 5, .X 0 1 6]) (.s (.new 6 []) (.s (.sto 6) (.drw (.q [0, 1, 2, 3, 4] [.C 5 0, .C 5 1, .C 5 2, .C 5 3, .C 5 4] (.a 5 (.sset 1 0 1) [.C 5 0, .C 5 1, .C 5 2, .C 5 3, .C 5 4] (.s (.rlc 0 0 1) (.q [6, 7] [] (.a 8 (.sset 1 0 2) [] (.s (.rlc 0 0 1) (.drw (.q [0, 1, 2, 3, 4, 5, 6] [.C 0 2, .C 3 0] (.a 7 (.bld 8 0 3) [.C 0 2] (.a 8 (.app 2 (.O 8)) [] (.q [9, 10] [] (.a 11 (.sto 0) [] (.s (.seg 1 [.C 6 0, .C 6 1, .C 6 2, .C 6 3, .C 6 4]) (.s (.sto 4) (.s (.seg 1 []) (.rk [(4, 2000), (2000, 92000)] .ret))))))))))))))))))))))))))))))) Tryz.func199 rfl rfl (by kernel_rfl) (fun _ => rfl) (fun i => by kernel_rfl) (fun i s => by kernel_rfl)

noncomputable def K199 : SCon El Tryz.prog := ⟨C199, S199, Tryz.call199⟩

noncomputable abbrev C144p : List (PK El) := [pO jobs_Table.D, pV api_Ref.dv api_Ref.val]
noncomputable def C144 : Con El := mkCon 144 C144p (fun i_ => jobs_Table_Take i_.1.2.2 i_.2.1) 2 2 (fun i_ t ns_ as_ => .tuple #[.agg #[.int .i64 t.1.Queue, .int .i64 t.1.Time, .int .i64 t.1.Data, .int .i64 t.1.Item.At, .int .i64 t.1.Item.Gen], .int .i64 t.2.1]) (fun i_ t ns_ as_ => jobs_Table.D.flat i_.1.1 (jobs_Table.A.mk i_.1.2.1.p_p (pool_Pool_jobs_Job.A.mk (na as_ 0) (nn ns_ 0) (na as_ 1) (nn ns_ 1)) i_.1.2.1.by__p) t.2.2)

theorem S144 : (C144).Sound Tryz.prog :=
  fn_sound mixed (C144) (n := 27) (rs := rsOf Tryz.prog 144) [.C 2000 0, .C 2000 1, .C 2000 2, .C 2000 3, .C 2000 4] [0, 1, 2, 3, 4] (gj (g2 (gC 2000 0 5 jobs_Job.dec) (g2 (gI 5) (gO jobs_Table.D [0, 1, 2, 3, 4]))) [nA jobs_Table.D [0, 1, 2, 3, 4] (fun al => ([al.p_a.l_c, al.p_a.free_c], [al.p_a.l_b, al.p_a.free_b]))]) (fun i => (.s (.new 5 []) (.s (.new 6 []) (.s (.seg 1 []) (.jg (jobs_Job × Int × jobs_Table) 3 2 (gj (g2 (gC 9 0 5 jobs_Job.dec) (g2 (gI 7) (gO jobs_Table.D [0, 1, 2, 3, 4]))) [nPk 9, nA jobs_Table.D [0, 1, 2, 3, 4] (fun al => ([al.p_a.l_c, al.p_a.free_c], [al.p_a.l_b, al.p_a.free_b]))]) (fun st_ s_ ns_ as_ => match (g2 (gP 0) (gA jobs_Table.D [0, 1, 2, 3, 4])) st_ with | some x_ => ([(6, .pointer (some ⟨(nn ns_ 0), 0, none⟩)), (7, .int .i64 s_.2.1)] ++ kp [0, 4] st_, ka [6] st_ ++ zipL [9] [.blk (nn ns_ 0) 91 [.int .i64 s_.1.Queue, .int .i64 s_.1.Time, .int .i64 s_.1.Data, .int .i64 s_.1.Item.At, .int .i64 s_.1.Item.Gen]] ++ zipL [0, 1, 2, 3, 4] (jobs_Table.D.flat (x_.1) (jobs_Table.A.mk (x_.2.p_p) (pool_Pool_jobs_Job.A.mk (na as_ 0) (nn ns_ 1) (na as_ 1) (nn ns_ 2)) (x_.2.by__p)) s_.2.2)) | none => ([], [])) (.drw (.q [0, 1, 2, 3, 4] [.C 0 0, .C 5 0, .C 5 1] (.alt2 5 (.call K199 [.K 1, .K 2, .K 3] [1, 2, 3]) [] (.q [6, 7, 8] [] (.a 9 (.new 10 []) [] (.a 10 (.sto 10) [] (.q [11] [] (.rk [(10, 9), (9, 90009)] .leaf))))) 9 (.new 11 []) [.C 5 0, .C 5 1, .C 0 0] (.a 5 (.call K199 [.K 1, .K 2, .K 3] [1, 2, 3]) [] (.q [6, 7, 8] [] (.a 10 (.sto 11) [] (.q [11] [] (.rk [(11, 9), (9, 90009)] .leaf)))))))) (.s (.seg 2 []) (.join (jobs_Table) 0 0 (gj (gO jobs_Table.D [0, 1, 2, 3, 4]) []) (fun st_ s_ ns_ as_ => match (g2 (gP 0) (gA jobs_Table.D [0, 1, 2, 3, 4])) st_ with | some x_ => ([] ++ kp [4, 6, 7] st_, ka [9, 6] st_ ++ zipL [0, 1, 2, 3, 4] (jobs_Table.D.flat (x_.1) (jobs_Table.A.mk (x_.2.p_p) (x_.2.p_a) (x_.2.by__p)) s_)) | none => ([], [])) (.cond (.drw (.q [0, 1, 2, 3, 4, 5] [.C 0 1, .C 9 3, .C 9 4] (.a 6 (.mdel 4 2 28 api_Ref.key_ok) [] .leaf))) .leaf) (.s (.seg 2 [.C 9 0, .C 9 1, .C 9 2, .C 9 3, .C 9 4]) (.s (.sto 6) (.s (.seg 1 []) (.rk [(6, 2000), (2000, 92000)] .ret))))))))))) Tryz.func144 rfl rfl (by kernel_rfl) (fun _ => rfl) (fun i => by kernel_rfl) (fun i s => by kernel_rfl)

noncomputable def K144 : SCon El Tryz.prog := ⟨C144, S144, Tryz.call144⟩

noncomputable abbrev C104p : List (PK El) := [pO dispatch_Dispatcher.D, pV api_Ref.dv api_Ref.val]
noncomputable def C104 : Con El := mkCon 104 C104p (fun i_ => dispatch_Dispatcher_gone i_.1.2.2 i_.2.1) 4 2 (fun i_ t ns_ as_ => .agg #[.int .i64 t.1.Why, .int .i64 t.1.Job.At, .int .i64 t.1.Job.Gen, .int .i64 t.1.Time, .int .i64 t.1.Data, .int .i64 t.1.N]) (fun i_ t ns_ as_ => dispatch_Dispatcher.D.flat i_.1.1 (dispatch_Dispatcher.A.mk i_.1.2.1.q_p i_.1.2.1.q_a i_.1.2.1.t__p (jobs_Table.A.mk (nn ns_ 0) (pool_Pool_jobs_Job.A.mk (na as_ 0) (nn ns_ 1) (na as_ 1) (nn ns_ 2)) (nn ns_ 3)) i_.1.2.1.when_p i_.1.2.1.clock_p) t.2)

theorem S104 : (C104).Sound Tryz.prog :=
  fn_sound mixed (C104) (n := 27) (rs := rsOf Tryz.prog 104) [.C 2000 0, .C 2000 1, .C 2000 2, .C 2000 3, .C 2000 4, .C 2000 5] [0, 1, 2, 3, 4, 5, 6, 7, 8, 9, 10, 11, 12, 13, 14, 15, 16, 17, 18, 19, 20, 21] (gj (g2 (gC 2000 0 6 api_Reply.dec) (gO dispatch_Dispatcher.D [0, 1, 2, 3, 4, 5, 6, 7, 8, 9, 10, 11, 12, 13, 14, 15, 16, 17, 18, 19, 20, 21])) [nA dispatch_Dispatcher.D [0, 1, 2, 3, 4, 5, 6, 7, 8, 9, 10, 11, 12, 13, 14, 15, 16, 17, 18, 19, 20, 21] (fun al => ([al.t__a.p_p, al.t__a.p_a.l_c, al.t__a.p_a.free_c, al.t__a.by__p], [al.t__a.p_a.l_b, al.t__a.p_a.free_b]))]) (fun i => (.s (.new 22 []) (.s (.new 23 []) (.jg (jobs_Job × Int × dispatch_Dispatcher) 5 2 (gj (g2 (gC 26 0 5 jobs_Job.dec) (g2 (gI 6) (gO dispatch_Dispatcher.D [0, 1, 2, 3, 4, 5, 6, 7, 8, 9, 10, 11, 12, 13, 14, 15, 16, 17, 18, 19, 20, 21]))) [nPk 26, nA dispatch_Dispatcher.D [0, 1, 2, 3, 4, 5, 6, 7, 8, 9, 10, 11, 12, 13, 14, 15, 16, 17, 18, 19, 20, 21] (fun al => ([al.t__a.p_p, al.t__a.p_a.l_c, al.t__a.p_a.free_c, al.t__a.by__p], [al.t__a.p_a.l_b, al.t__a.p_a.free_b]))]) (fun st_ s_ ns_ as_ => match (g2 (gP 0) (gA dispatch_Dispatcher.D [0, 1, 2, 3, 4, 5, 6, 7, 8, 9, 10, 11, 12, 13, 14, 15, 16, 17, 18, 19, 20, 21])) st_ with | some x_ => ([(5, .pointer (some ⟨(nn ns_ 0), 0, none⟩)), (6, .int .i64 s_.2.1)] ++ kp [0, 3, 4] st_, ka [23, 22] st_ ++ zipL [26] [.blk (nn ns_ 0) 91 [.int .i64 s_.1.Queue, .int .i64 s_.1.Time, .int .i64 s_.1.Data, .int .i64 s_.1.Item.At, .int .i64 s_.1.Item.Gen]] ++ zipL [0, 1, 2, 3, 4, 5, 6, 7, 8, 9, 10, 11, 12, 13, 14, 15, 16, 17, 18, 19, 20, 21] (dispatch_Dispatcher.D.flat (x_.1) (dispatch_Dispatcher.A.mk (x_.2.q_p) (x_.2.q_a) (x_.2.t__p) (jobs_Table.A.mk (nn ns_ 1) (pool_Pool_jobs_Job.A.mk (na as_ 0) (nn ns_ 2) (na as_ 1) (nn ns_ 3)) (nn ns_ 4)) (x_.2.when_p) (x_.2.clock_p)) s_.2.2)) | none => ([], [])) (.drw (.q [0, 1, 2, 3, 4] [.C 0 7, .C 22 0, .C 22 1] (.alt2 5 (.call K144 [.K 15, .K 16, .K 17, .K 18, .K 19] [15, 16, 17, 18, 19]) [] (.q [6, 7, 8] [] (.a 9 (.new 27 []) [] (.a 10 (.sto 27) [] (.q [11] [] (.rk [(27, 26), (26, 90026)] .leaf))))) 9 (.new 28 []) [.C 22 0, .C 22 1, .C 0 7] (.a 5 (.call K144 [.K 15, .K 16, .K 17, .K 18, .K 19] [15, 16, 17, 18, 19]) [] (.q [6, 7, 8] [] (.a 10 (.sto 28) [] (.q [11] [] (.rk [(28, 26), (26, 90026)] .leaf)))))))) (.s (.seg 2 []) (.cond (.s (.seg 1 []) (.s (.call K44 [] []) (.s (.sto 23) (.rk [(23, 2000), (2000, 92000)] .ret)))) (.drw (.q [0, 1, 2, 3, 4] [.C 0 8, .C 22 0, .C 22 1] (.a 5 (.mdel 20 3 28 api_Ref.key_ok) [] (.s (.seg 1 [.C 26 0, .C 26 1, .C 26 2, .C 26 3, .C 26 4]) (.s (.call K102 [] []) (.s (.sto 23) (.rk [(23, 2000), (2000, 92000)] .ret))))))))))))) Tryz.func104 rfl rfl (by kernel_rfl) (fun _ => rfl) (fun i => by kernel_rfl) (fun i s => by kernel_rfl)

noncomputable def K104 : SCon El Tryz.prog := ⟨C104, S104, Tryz.call104⟩

noncomputable abbrev C70p : List (PK El) := [pO dispatch_Dispatcher.D, pV api_Ref.dv api_Ref.val]
noncomputable def C70 (k : Nat) : Con El := mkCon 70 C70p (fun i_ => dispatch_Dispatcher_cancel k i_.1.2.2 i_.2.1) 17 8 (fun i_ t ns_ as_ => .agg #[.int .i64 t.1.Why, .int .i64 t.1.Job.At, .int .i64 t.1.Job.Gen, .int .i64 t.1.Time, .int .i64 t.1.Data, .int .i64 t.1.N]) (fun i_ t ns_ as_ => dispatch_Dispatcher.D.flat i_.1.1 (dispatch_Dispatcher.A.mk i_.1.2.1.q_p (pq_Queues.A.mk (nn ns_ 0) (arena_Arena.A.mk (na as_ 0) (nn ns_ 1) (na as_ 1) (nn ns_ 2) (nn ns_ 3)) (nn ns_ 4) (slots_Table.A.mk (nn ns_ 5) (pool_Pool_slots_heap.A.mk (na as_ 2) (nn ns_ 6) (na as_ 3) (nn ns_ 7)) (nn ns_ 8) (pool_Pool_slots_thing.A.mk (na as_ 4) (nn ns_ 9) (na as_ 5) (nn ns_ 10)) (nn ns_ 11)) (nn ns_ 12)) i_.1.2.1.t__p (jobs_Table.A.mk (nn ns_ 13) (pool_Pool_jobs_Job.A.mk (na as_ 6) (nn ns_ 14) (na as_ 7) (nn ns_ 15)) (nn ns_ 16)) i_.1.2.1.when_p i_.1.2.1.clock_p) t.2)

theorem S70 (k : Nat) : (C70 k).Sound Tryz.prog :=
  fn_sound mixed (C70 k) (n := 29) (rs := rsOf Tryz.prog 70) [.C 2000 0, .C 2000 1, .C 2000 2, .C 2000 3, .C 2000 4, .C 2000 5] [0, 1, 2, 3, 4, 5, 6, 7, 8, 9, 10, 11, 12, 13, 14, 15, 16, 17, 18, 19, 20, 21] (gj (g2 (gC 2000 0 6 api_Reply.dec) (gO dispatch_Dispatcher.D [0, 1, 2, 3, 4, 5, 6, 7, 8, 9, 10, 11, 12, 13, 14, 15, 16, 17, 18, 19, 20, 21])) [nA dispatch_Dispatcher.D [0, 1, 2, 3, 4, 5, 6, 7, 8, 9, 10, 11, 12, 13, 14, 15, 16, 17, 18, 19, 20, 21] (fun al => ([al.q_a.a__p, al.q_a.a__a.l_c, al.q_a.a__a.free_c, al.q_a.a__a.m__p, al.q_a.t__p, al.q_a.t__a.heaps_p, al.q_a.t__a.heaps_a.l_c, al.q_a.t__a.heaps_a.free_c, al.q_a.t__a.items_p, al.q_a.t__a.items_a.l_c, al.q_a.t__a.items_a.free_c, al.q_a.t__a.at__p, al.q_a.entries_p, al.t__a.p_p, al.t__a.p_a.l_c, al.t__a.p_a.free_c, al.t__a.by__p], [al.q_a.a__a.l_b, al.q_a.a__a.free_b, al.q_a.t__a.heaps_a.l_b, al.q_a.t__a.heaps_a.free_b, al.q_a.t__a.items_a.l_b, al.q_a.t__a.items_a.free_b, al.t__a.p_a.l_b, al.t__a.p_a.free_b]))]) (fun i => (.s (.new 22 []) (.s (.new 23 []) (.jg (jobs_Job × Int) 1 0 (gj (g2 (gC 26 0 5 jobs_Job.dec) (gI 6)) [nPk 26]) (fun st_ s_ ns_ as_ => ([(5, .pointer (some ⟨(nn ns_ 0), 0, none⟩)), (6, .int .i64 s_.2)] ++ kp [0, 3, 4] st_, ka [23, 22, 0, 1, 2, 3, 4, 5, 6, 7, 8, 9, 10, 11, 12, 13, 14, 15, 16, 17, 18, 19, 20, 21] st_ ++ zipL [26] [.blk (nn ns_ 0) 91 [.int .i64 s_.1.Queue, .int .i64 s_.1.Time, .int .i64 s_.1.Data, .int .i64 s_.1.Item.At, .int .i64 s_.1.Item.Gen]])) (.drw (.q [0, 1, 2, 3, 4] [.C 0 7, .C 22 0, .C 22 1] (.alt2 5 (.call K47 [.K 15, .K 16, .K 17, .K 18, .K 19] [15, 16, 17, 18, 19]) [] (.q [6, 7, 8] [] (.a 9 (.new 27 []) [] (.a 10 (.sto 27) [] (.q [11] [] (.rk [(27, 26), (26, 90026)] .leaf))))) 9 (.new 28 []) [.C 22 0, .C 22 1, .C 0 7] (.a 5 (.call K47 [.K 15, .K 16, .K 17, .K 18, .K 19] [15, 16, 17, 18, 19]) [] (.q [6, 7, 8] [] (.a 10 (.sto 28) [] (.q [11] [] (.rk [(28, 26), (26, 90026)] .leaf)))))))) (.s (.seg 2 []) (.join (dispatch_Dispatcher) 13 6 (gj (gO dispatch_Dispatcher.D [0, 1, 2, 3, 4, 5, 6, 7, 8, 9, 10, 11, 12, 13, 14, 15, 16, 17, 18, 19, 20, 21]) [nA dispatch_Dispatcher.D [0, 1, 2, 3, 4, 5, 6, 7, 8, 9, 10, 11, 12, 13, 14, 15, 16, 17, 18, 19, 20, 21] (fun al => ([al.q_a.a__p, al.q_a.a__a.l_c, al.q_a.a__a.free_c, al.q_a.a__a.m__p, al.q_a.t__p, al.q_a.t__a.heaps_p, al.q_a.t__a.heaps_a.l_c, al.q_a.t__a.heaps_a.free_c, al.q_a.t__a.items_p, al.q_a.t__a.items_a.l_c, al.q_a.t__a.items_a.free_c, al.q_a.t__a.at__p, al.q_a.entries_p], [al.q_a.a__a.l_b, al.q_a.a__a.free_b, al.q_a.t__a.heaps_a.l_b, al.q_a.t__a.heaps_a.free_b, al.q_a.t__a.items_a.l_b, al.q_a.t__a.items_a.free_b]))]) (fun st_ s_ ns_ as_ => match (g2 (gP 0) (gA dispatch_Dispatcher.D [0, 1, 2, 3, 4, 5, 6, 7, 8, 9, 10, 11, 12, 13, 14, 15, 16, 17, 18, 19, 20, 21])) st_ with | some x_ => ([] ++ kp [0, 3, 4] st_, ka [23, 22] st_ ++ zipL [0, 1, 2, 3, 4, 5, 6, 7, 8, 9, 10, 11, 12, 13, 14, 15, 16, 17, 18, 19, 20, 21] (dispatch_Dispatcher.D.flat (x_.1) (dispatch_Dispatcher.A.mk (x_.2.q_p) (pq_Queues.A.mk (nn ns_ 0) (arena_Arena.A.mk (na as_ 0) (nn ns_ 1) (na as_ 1) (nn ns_ 2) (nn ns_ 3)) (nn ns_ 4) (slots_Table.A.mk (nn ns_ 5) (pool_Pool_slots_heap.A.mk (na as_ 2) (nn ns_ 6) (na as_ 3) (nn ns_ 7)) (nn ns_ 8) (pool_Pool_slots_thing.A.mk (na as_ 4) (nn ns_ 9) (na as_ 5) (nn ns_ 10)) (nn ns_ 11)) (nn ns_ 12)) (x_.2.t__p) (x_.2.t__a) (x_.2.when_p) (x_.2.clock_p)) s_)) | none => ([], [])) (.cond (.drw (.q [0, 1, 2, 3, 4, 5, 6] [.C 0 2, .C 26 3, .C 26 4] (.a 7 (.call (K56a k) [.K 1, .K 2, .K 3, .K 4, .K 5, .K 6, .K 7, .K 8, .K 9, .K 10, .K 11, .K 12, .K 13, .K 14] [1, 2, 3, 4, 5, 6, 7, 8, 9, 10, 11, 12, 13, 14]) [] .leaf))) .leaf) (.s (.seg 2 [.C 22 0, .C 22 1]) (.s (.call K104 [.K 0, .K 1, .K 2, .K 3, .K 4, .K 5, .K 6, .K 7, .K 8, .K 9, .K 10, .K 11, .K 12, .K 13, .K 14, .K 15, .K 16, .K 17, .K 18, .K 19, .K 20, .K 21] [0, 1, 2, 3, 4, 5, 6, 7, 8, 9, 10, 11, 12, 13, 14, 15, 16, 17, 18, 19, 20, 21]) (.s (.sto 23) (.rk [(23, 2000), (2000, 92000)] .ret)))))))))) Tryz.func70 rfl rfl (by kernel_rfl) (fun _ => rfl) (fun i => by kernel_rfl) (fun i s => by kernel_rfl)

noncomputable def K70 (k : Nat) : SCon El Tryz.prog := ⟨C70 k, S70 k, Tryz.call70⟩

noncomputable abbrev C71p : List (PK El) := [pO clock_Clock.D, pI .i64]
noncomputable def C71 : Con El := mkCon 71 C71p (fun i_ => clock_Clock_Go i_.1.2.2 i_.2.1) 0 0 (fun i_ t ns_ as_ => .int .i64 t.1) (fun i_ t ns_ as_ => clock_Clock.D.flat i_.1.1 i_.1.2.1 t.2)

theorem S71 : (C71).Sound Tryz.prog :=
  fn_sound mixed (C71) (n := 16) (rs := rsOf Tryz.prog 71) [] [0] (gj (g2 (gI 4) (gO clock_Clock.D [0])) []) (fun i => (.s (.seg 1 []) (.s (.seg 2 []) (.cond (.s (.seg 1 []) .ret) (.s (.seg 6 [.C 0 0]) (.s (.call K105 [] []) (.s (.seg 2 []) (.s (.sto 0) (.s (.seg 1 []) .ret))))))))) Tryz.func71 rfl rfl (by kernel_rfl) (fun _ => rfl) (fun i => by kernel_rfl) (fun i s => by kernel_rfl)

noncomputable def K71 : SCon El Tryz.prog := ⟨C71, S71, Tryz.call71⟩

noncomputable abbrev C49p : List (PK El) := [pO clock_Clock.D]
noncomputable def C49 : Con El := mkCon 49 C49p (fun i_ => clock_Clock_Now i_.1.2.2) 0 0 (fun i_ t ns_ as_ => .int .i64 t) (fun i_ t ns_ as_ => clock_Clock.D.flat i_.1.1 i_.1.2.1 i_.1.2.2)

theorem S49 : (C49).Sound Tryz.prog :=
  fn_sound mixed (C49) (n := 7) (rs := rsOf Tryz.prog 49) [] [0] (gj (gI 2) []) (fun i => (.s (.seg 1 []) (.s (.seg 5 [.C 0 0]) .ret))) Tryz.func49 rfl rfl (by kernel_rfl) (fun _ => rfl) (fun i => by kernel_rfl) (fun i s => by kernel_rfl)

noncomputable def K49 : SCon El Tryz.prog := ⟨C49, S49, Tryz.call49⟩

noncomputable abbrev C48p : List (PK El) := [pO clock_Clock.D, pI .i64]
noncomputable def C48 : Con El := mkCon 48 C48p (fun i_ => clock_Clock_Due i_.1.2.2 i_.2.1) 0 0 (fun i_ t ns_ as_ => .bool t) (fun i_ t ns_ as_ => clock_Clock.D.flat i_.1.1 i_.1.2.1 i_.1.2.2)

theorem S48 : (C48).Sound Tryz.prog :=
  fn_sound mixed (C48) (n := 11) (rs := rsOf Tryz.prog 48) [] [0] (gj (gB 4) []) (fun i => (.s (.seg 1 []) (.s (.seg 7 [.C 0 0]) .ret))) Tryz.func48 rfl rfl (by kernel_rfl) (fun _ => rfl) (fun i => by kernel_rfl) (fun i s => by kernel_rfl)

noncomputable def K48 : SCon El Tryz.prog := ⟨C48, S48, Tryz.call48⟩

noncomputable abbrev C106p : List (PK El) := [pO jobs_Table.D, pV api_Ref.dv api_Ref.val]
noncomputable def C106 : Con El := mkCon 106 C106p (fun i_ => jobs_Table_By i_.1.2.2 i_.2.1) 0 0 (fun i_ t ns_ as_ => .tuple #[.agg #[.int .i64 t.1.At, .int .i64 t.1.Gen], .bool t.2]) (fun i_ t ns_ as_ => jobs_Table.D.flat i_.1.1 i_.1.2.1 i_.1.2.2)

theorem S106 : (C106).Sound Tryz.prog :=
  fn_sound mixed (C106) (n := 19) (rs := rsOf Tryz.prog 106) [.C 2000 0, .C 2000 1] [0, 1, 2, 3, 4] (gj (g2 (gC 2000 0 2 api_Ref.dec) (gB 5)) []) (fun i => (.s (.new 5 []) (.s (.new 6 []) (.s (.seg 1 []) (.jg (api_Ref × Bool) 1 0 (gj (g2 (gC 9 0 2 api_Ref.dec) (gB 7)) [nPk 9]) (fun st_ s_ ns_ as_ => ([(6, .pointer (some ⟨(nn ns_ 0), 0, none⟩)), (7, .bool s_.2)] ++ kp [4] st_, ka [6, 0, 1, 2, 3, 4] st_ ++ zipL [9] [.blk (nn ns_ 0) 28 [.int .i64 s_.1.At, .int .i64 s_.1.Gen]])) (.drw (.q [0, 1, 2, 3, 4] [.C 0 1, .C 5 0, .C 5 1] (.alt2 5 (.mget 4 2 28 api_Ref.key_ok (api_Ref.mk 0 0)) [] (.q [6, 7, 8] [] (.a 9 (.new 10 []) [] (.a 10 (.sto 10) [] (.q [11] [] (.rk [(10, 9), (9, 90009)] .leaf))))) 9 (.new 11 []) [.C 5 0, .C 5 1, .C 0 1] (.a 5 (.mget 4 2 28 api_Ref.key_ok (api_Ref.mk 0 0)) [] (.q [6, 7, 8] [] (.a 10 (.sto 11) [] (.q [11] [] (.rk [(11, 9), (9, 90009)] .leaf)))))))) (.s (.seg 2 [.C 9 0, .C 9 1]) (.s (.sto 6) (.s (.seg 1 []) (.rk [(6, 2000), (2000, 92000)] .ret))))))))) Tryz.func106 rfl rfl (by kernel_rfl) (fun _ => rfl) (fun i => by kernel_rfl) (fun i s => by kernel_rfl)

noncomputable def K106 : SCon El Tryz.prog := ⟨C106, S106, Tryz.call106⟩

noncomputable abbrev C72p : List (PK El) := [pO dispatch_Dispatcher.D, pI .i64]
noncomputable def C72 (k : Nat) : Con El := mkCon 72 C72p (fun i_ => dispatch_Dispatcher_fire k i_.1.2.2 i_.2.1) 17 8 (fun i_ t ns_ as_ => .agg #[.int .i64 t.1.Why, .int .i64 t.1.Job.At, .int .i64 t.1.Job.Gen, .int .i64 t.1.Time, .int .i64 t.1.Data, .int .i64 t.1.N]) (fun i_ t ns_ as_ => dispatch_Dispatcher.D.flat i_.1.1 (dispatch_Dispatcher.A.mk i_.1.2.1.q_p (pq_Queues.A.mk (nn ns_ 0) (arena_Arena.A.mk (na as_ 0) (nn ns_ 1) (na as_ 1) (nn ns_ 2) (nn ns_ 3)) (nn ns_ 4) (slots_Table.A.mk (nn ns_ 5) (pool_Pool_slots_heap.A.mk (na as_ 2) (nn ns_ 6) (na as_ 3) (nn ns_ 7)) (nn ns_ 8) (pool_Pool_slots_thing.A.mk (na as_ 4) (nn ns_ 9) (na as_ 5) (nn ns_ 10)) (nn ns_ 11)) (nn ns_ 12)) i_.1.2.1.t__p (jobs_Table.A.mk (nn ns_ 13) (pool_Pool_jobs_Job.A.mk (na as_ 6) (nn ns_ 14) (na as_ 7) (nn ns_ 15)) (nn ns_ 16)) i_.1.2.1.when_p i_.1.2.1.clock_p) t.2)

theorem S72 (k : Nat) : (C72 k).Sound Tryz.prog :=
  fn_sound mixed (C72 k) (n := 61) (rs := rsOf Tryz.prog 72) [.C 2000 0, .C 2000 1, .C 2000 2, .C 2000 3, .C 2000 4, .C 2000 5] [0, 1, 2, 3, 4, 5, 6, 7, 8, 9, 10, 11, 12, 13, 14, 15, 16, 17, 18, 19, 20, 21] (gj (g2 (gC 2000 0 6 api_Reply.dec) (gO dispatch_Dispatcher.D [0, 1, 2, 3, 4, 5, 6, 7, 8, 9, 10, 11, 12, 13, 14, 15, 16, 17, 18, 19, 20, 21])) [nA dispatch_Dispatcher.D [0, 1, 2, 3, 4, 5, 6, 7, 8, 9, 10, 11, 12, 13, 14, 15, 16, 17, 18, 19, 20, 21] (fun al => ([al.q_a.a__p, al.q_a.a__a.l_c, al.q_a.a__a.free_c, al.q_a.a__a.m__p, al.q_a.t__p, al.q_a.t__a.heaps_p, al.q_a.t__a.heaps_a.l_c, al.q_a.t__a.heaps_a.free_c, al.q_a.t__a.items_p, al.q_a.t__a.items_a.l_c, al.q_a.t__a.items_a.free_c, al.q_a.t__a.at__p, al.q_a.entries_p, al.t__a.p_p, al.t__a.p_a.l_c, al.t__a.p_a.free_c, al.t__a.by__p], [al.q_a.a__a.l_b, al.q_a.a__a.free_b, al.q_a.t__a.heaps_a.l_b, al.q_a.t__a.heaps_a.free_b, al.q_a.t__a.items_a.l_b, al.q_a.t__a.items_a.free_b, al.t__a.p_a.l_b, al.t__a.p_a.free_b]))]) (fun i => (.s (.new 22 []) (.s (.seg 4 []) (.s (.pix 0 3 2 6 (.tmp 11) 2000) (.s (.seg 2 [.Q 2000, .P 2000 0 0, .P 2000 0 1]) (.s (.new 23 []) (.s (.sto 23) (.jg (api_Answer × dispatch_Dispatcher) 14 6 (gj (g2 (gC 26 0 8 api_Answer.dec) (gO dispatch_Dispatcher.D [0, 1, 2, 3, 4, 5, 6, 7, 8, 9, 10, 11, 12, 13, 14, 15, 16, 17, 18, 19, 20, 21])) [nPk 26, nA dispatch_Dispatcher.D [0, 1, 2, 3, 4, 5, 6, 7, 8, 9, 10, 11, 12, 13, 14, 15, 16, 17, 18, 19, 20, 21] (fun al => ([al.q_a.a__p, al.q_a.a__a.l_c, al.q_a.a__a.free_c, al.q_a.a__a.m__p, al.q_a.t__p, al.q_a.t__a.heaps_p, al.q_a.t__a.heaps_a.l_c, al.q_a.t__a.heaps_a.free_c, al.q_a.t__a.items_p, al.q_a.t__a.items_a.l_c, al.q_a.t__a.items_a.free_c, al.q_a.t__a.at__p, al.q_a.entries_p], [al.q_a.a__a.l_b, al.q_a.a__a.free_b, al.q_a.t__a.heaps_a.l_b, al.q_a.t__a.heaps_a.free_b, al.q_a.t__a.items_a.l_b, al.q_a.t__a.items_a.free_b]))]) (fun st_ s_ ns_ as_ => match (g2 (gP 0) (gA dispatch_Dispatcher.D [0, 1, 2, 3, 4, 5, 6, 7, 8, 9, 10, 11, 12, 13, 14, 15, 16, 17, 18, 19, 20, 21])) st_ with | some x_ => ([(6, .pointer (some ⟨(nn ns_ 0), 0, none⟩))] ++ kp [0, 4, 5] st_, ka [23, 22] st_ ++ zipL [26] [.blk (nn ns_ 0) 106 [.int .i64 s_.1.Why, .int .i64 s_.1.Heap.At, .int .i64 s_.1.Heap.Gen, .int .i64 s_.1.Item.At, .int .i64 s_.1.Item.Gen, .int .i64 s_.1.Entry.Key, .int .i64 s_.1.Entry.Serial, .int .i64 s_.1.N]] ++ zipL [0, 1, 2, 3, 4, 5, 6, 7, 8, 9, 10, 11, 12, 13, 14, 15, 16, 17, 18, 19, 20, 21] (dispatch_Dispatcher.D.flat (x_.1) (dispatch_Dispatcher.A.mk (x_.2.q_p) (pq_Queues.A.mk (nn ns_ 1) (arena_Arena.A.mk (na as_ 0) (nn ns_ 2) (na as_ 1) (nn ns_ 3) (nn ns_ 4)) (nn ns_ 5) (slots_Table.A.mk (nn ns_ 6) (pool_Pool_slots_heap.A.mk (na as_ 2) (nn ns_ 7) (na as_ 3) (nn ns_ 8)) (nn ns_ 9) (pool_Pool_slots_thing.A.mk (na as_ 4) (nn ns_ 10) (na as_ 5) (nn ns_ 11)) (nn ns_ 12)) (nn ns_ 13)) (x_.2.t__p) (x_.2.t__a) (x_.2.when_p) (x_.2.clock_p)) s_.2)) | none => ([], [])) (.drw (.q [0, 1, 2, 3, 4, 5] [.C 0 2, .C 23 0, .C 23 1] (.alt2 6 (.call (K56a k) [.K 1, .K 2, .K 3, .K 4, .K 5, .K 6, .K 7, .K 8, .K 9, .K 10, .K 11, .K 12, .K 13, .K 14] [1, 2, 3, 4, 5, 6, 7, 8, 9, 10, 11, 12, 13, 14]) [] (.a 7 (.new 27 []) [] (.a 8 (.sto 27) [] (.rk [(27, 26), (26, 90026)] .leaf))) 7 (.new 28 []) [.C 23 0, .C 23 1, .C 0 2] (.a 6 (.call (K56a k) [.K 1, .K 2, .K 3, .K 4, .K 5, .K 6, .K 7, .K 8, .K 9, .K 10, .K 11, .K 12, .K 13, .K 14] [1, 2, 3, 4, 5, 6, 7, 8, 9, 10, 11, 12, 13, 14]) [] (.a 8 (.sto 28) [] (.rk [(28, 26), (26, 90026)] .leaf)))))) (.join (Bool × dispatch_Dispatcher) 0 0 (gj (g2 (gB 36) (gO dispatch_Dispatcher.D [0, 1, 2, 3, 4, 5, 6, 7, 8, 9, 10, 11, 12, 13, 14, 15, 16, 17, 18, 19, 20, 21])) []) (fun st_ s_ ns_ as_ => match (g2 (gP 0) (gA dispatch_Dispatcher.D [0, 1, 2, 3, 4, 5, 6, 7, 8, 9, 10, 11, 12, 13, 14, 15, 16, 17, 18, 19, 20, 21])) st_ with | some x_ => ([(36, .bool s_.1)] ++ kp [0, 4, 5, 6] st_, ka [26, 23, 22] st_ ++ zipL [0, 1, 2, 3, 4, 5, 6, 7, 8, 9, 10, 11, 12, 13, 14, 15, 16, 17, 18, 19, 20, 21] (dispatch_Dispatcher.D.flat (x_.1) (dispatch_Dispatcher.A.mk (x_.2.q_p) (x_.2.q_a) (x_.2.t__p) (x_.2.t__a) (x_.2.when_p) (x_.2.clock_p)) s_.2)) | none => ([], [])) (.drw (.q [0, 1, 2, 3] [.C 26 0] (.split 26 (.q [4, 5, 6, 7, 8, 9, 10, 11, 12, 13] [] .leaf) (.q [4, 5, 6, 7, 8, 9, 10] [.C 0 9, .C 26 5] (.a 11 (.call K48 [.K 21] [21]) [] (.q [12, 13] [] .leaf)))))) (.cond (.s (.call K44 [] []) (.s (.sto 22) (.rk [(22, 2000), (2000, 92000)] .ret))) (.drw (.q [0, 1, 2, 3, 4, 5] [.C 0 2, .C 23 0, .C 23 1] (.a 6 (.call (K56a k) [.K 1, .K 2, .K 3, .K 4, .K 5, .K 6, .K 7, .K 8, .K 9, .K 10, .K 11, .K 12, .K 13, .K 14] [1, 2, 3, 4, 5, 6, 7, 8, 9, 10, 11, 12, 13, 14]) [] (.a 7 (.sto 26) [] (.jg (api_Ref) 1 0 (gj (gC 31 0 2 api_Ref.dec) [nPk 31]) (fun st_ s_ ns_ as_ => ([(7, .pointer (some ⟨(nn ns_ 0), 0, none⟩))] ++ kp [0, 4] st_, ka [0, 1, 2, 3, 4, 5, 6, 7, 8, 9, 10, 11, 12, 13, 14, 15, 16, 17, 18, 19, 20, 21, 22] st_ ++ zipL [31] [.blk (nn ns_ 0) 28 [.int .i64 s_.At, .int .i64 s_.Gen]])) (.drw (.q [0, 1, 2, 3, 4, 5] [.C 0 7, .C 26 3, .C 26 4] (.alt2 6 (.call K106 [.K 15, .K 16, .K 17, .K 18, .K 19] [15, 16, 17, 18, 19]) [] (.q [7, 8, 9] [] (.a 10 (.new 32 []) [] (.a 11 (.sto 32) [] (.q [12] [] (.rk [(32, 31), (31, 90031)] .leaf))))) 10 (.new 33 []) [.C 26 3, .C 26 4, .C 0 7] (.a 6 (.call K106 [.K 15, .K 16, .K 17, .K 18, .K 19] [15, 16, 17, 18, 19]) [] (.q [7, 8, 9] [] (.a 11 (.sto 33) [] (.q [12] [] (.rk [(33, 31), (31, 90031)] .leaf)))))))) (.s (.seg 2 [.C 31 0, .C 31 1]) (.s (.call K104 [.K 0, .K 1, .K 2, .K 3, .K 4, .K 5, .K 6, .K 7, .K 8, .K 9, .K 10, .K 11, .K 12, .K 13, .K 14, .K 15, .K 16, .K 17, .K 18, .K 19, .K 20, .K 21] [0, 1, 2, 3, 4, 5, 6, 7, 8, 9, 10, 11, 12, 13, 14, 15, 16, 17, 18, 19, 20, 21]) (.s (.new 34 []) (.s (.sto 34) (.s (.seg 2 [.C 31 0, .C 31 1]) (.s (.sto 34) (.s (.seg 1 [.C 34 0, .C 34 1, .C 34 2, .C 34 3, .C 34 4, .C 34 5]) (.s (.sto 22) (.rk [(22, 2000), (2000, 92000)] .ret)))))))))))))))))))))))) Tryz.func72 rfl rfl (by kernel_rfl) (fun _ => rfl) (fun i => by kernel_rfl) (fun i s => by kernel_rfl)

noncomputable def K72 (k : Nat) : SCon El Tryz.prog := ⟨C72 k, S72 k, Tryz.call72⟩

noncomputable abbrev C76p : List (PK El) := [pO pool_Pool_jobs_Job.D]
noncomputable def C76 (k : Nat) : Con El := mkCon 76 C76p (fun i_ => pool_Pool_jobs_Job_All k i_.1.2.2) 1 1 (fun i_ t ns_ as_ => .slice (na as_ 0) t.length (nn ns_ 0)) (fun i_ t ns_ as_ => [.sl 6 28 (na as_ 0) (nn ns_ 0) t] ++ pool_Pool_jobs_Job.D.flat i_.1.1 i_.1.2.1 i_.1.2.2)

noncomputable abbrev C76r (k : Nat) (i : Ins C76p) : Kn El → VC (C76 k).T := retC Tryz.prog (C76 k) (rsOf Tryz.prog 76) [] [1000, 0, 1, 2] (gj (gL 6 1000) [nSk 1000]) i

noncomputable def C76l0 (i_ : Ins C76p) : BCon El ((List api_Ref)) := ⟨nav [1, 1, 0, 1] (bodyOf Tryz.prog 76), Int, (List api_Ref) × Int, (List api_Ref), (List api_Ref), fun u => .inr u, fun _ _ => none, fun x_ => [], fun x_ v_ ns_ as_ => [(3, .slice (na as_ 0) v_.1.length (nn ns_ 0)), (9, .slice i_.1.2.1.l_b i_.1.2.2.l.length i_.1.2.1.l_c), (10, .int .i64 (x_)), (11, .int .i64 v_.2)], fun x_ v_ ns_ as_ => zipL [16] [.sl 6 28 (na as_ 0) (nn ns_ 0) v_.1] ++ zipL [0, 1, 2] (pool_Pool_jobs_Job.D.flat i_.1.1 i_.1.2.1 i_.1.2.2), 1, 1, fun x_ u_ ns_ as_ => [(3, .slice (na as_ 0) u_.length (nn ns_ 0))], fun x_ u_ ns_ as_ => zipL [15] [.sl 6 28 (na as_ 0) (nn ns_ 0) u_] ++ zipL [0, 1, 2] (pool_Pool_jobs_Job.D.flat i_.1.1 i_.1.2.1 i_.1.2.2)⟩

noncomputable def C76l0g (k : Nat) (i_ : Ins C76p) : Nat → (C76l0 i_).X → (C76l0 i_).V → Option (C76l0 i_).W := fun m_ (x_ : Int) (v_ : (List api_Ref) × Int) => pool_Pool_jobs_Job_All_l0 (x_) i_.1.2.2 m_ v_.1 v_.2

theorem C76l0s (k : Nat) (i : Ins C76p) (m : Nat) : ((C76l0 i).at (C76l0g k i) m).Sound Tryz.prog 76 27 (C76r k i) :=
  loop_sound mixed (C76l0 i) (id := 0) (body := nav [1, 1, 0, 1, 0, 0] (bodyOf Tryz.prog 76)) (C76l0g k i) (fun _ => none) (fun u => u) (gj (g2 (gL 6 16) (gI 11)) [nSk 16]) (gj (gL 6 15) [nSk 15]) (fun m => (.s (.seg 1 []) (.cond (.join ((List api_Ref)) 1 1 (gj (gL 6 20) [nSk 20]) (fun st_ s_ ns_ as_ => ([(3, .slice (na as_ 0) s_.length (nn ns_ 0))] ++ kp [9, 10, 11] st_, ka [0, 1, 2] st_ ++ zipL [20] [.sl 6 28 (na as_ 0) (nn ns_ 0) s_])) (.blk (.s (.seg 1 []) (.s (.idx false 1 (.tmp 11) 5) (.s (.seg 2 [.A 5, .X 5 1 0, .X 5 1 1, .X 5 1 2, .X 5 1 3, .X 5 1 4, .X 5 1 5, .X 5 1 6]) (.s (.new 21 []) (.s (.seg 1 []) (.s (.sto 21) (.s (.seg 2 [.C 21 1]) (.cond (.s (.seg 5 [.C 21 0]) (.s (.bld 22 6 28) (.s (.app 16 (.O 22)) (.s (.seg 1 []) (.rk [(16, 20), (20, 90020)] .leaf))))) (.rk [(16, 20), (20, 90020)] .leaf)))))))))) (.s (.seg 2 []) (.rk [(20, 16), (16, 90016)] .back))) (.rk [(16, 15), (15, 90015)] .leaf)))) (by kernel_rfl) (fun _ _ => rfl) (fun r y h => by cases h) (fun u => rfl) (fun m x v n1 n2 => by kernel_rfl) (fun m x v n1 n2 s => by kernel_rfl) m

theorem S76 (k : Nat) : (C76 k).Sound Tryz.prog :=
  fn_sound mixed (C76 k) (n := 27) (rs := rsOf Tryz.prog 76) [] [1000, 0, 1, 2] (gj (gL 6 1000) [nSk 1000]) (fun i => (.s (.seg 1 []) (.s (.seg 1 []) (.s (.seg 6 [.C 0 1]) (.s (.nil 17 6 28) (.rk [(17, 16), (16, 90016)] (.loop ⟨(C76l0 i).at (C76l0g k i) k, C76l0s k i k⟩ (gl (gI 10) (g2 (gL 6 16) (gI 11)) [nSk 16]) (.s (.seg 2 []) (.rk [(15, 1000), (1000, 91000)] .ret))))))))) Tryz.func76 rfl rfl (by kernel_rfl) (fun _ => rfl) (fun i => by kernel_rfl) (fun i s => by kernel_rfl)

noncomputable def K76 (k : Nat) : SCon El Tryz.prog := ⟨C76 k, S76 k, Tryz.call76⟩

noncomputable abbrev C107p : List (PK El) := [pO jobs_Table.D, pI .i64, pI .i64]
noncomputable def C107 (k : Nat) : Con El := mkCon 107 C107p (fun i_ => jobs_Table_Move k i_.1.2.2 i_.2.1 i_.2.2.1) 0 0 (fun i_ t ns_ as_ => .int .i64 t.1) (fun i_ t ns_ as_ => jobs_Table.D.flat i_.1.1 i_.1.2.1 t.2)

noncomputable abbrev C107r (k : Nat) (i : Ins C107p) : Kn El → VC (C107 k).T := retC Tryz.prog (C107 k) (rsOf Tryz.prog 107) [] [0, 1, 2, 3, 4] (gj (g2 (gI 6) (gO jobs_Table.D [0, 1, 2, 3, 4])) []) i

noncomputable def C107l0 (i_ : Ins C107p) : BCon El (Int × jobs_Table) := ⟨nav [1, 1, 0, 1] (bodyOf Tryz.prog 107), (List api_Ref) × (Option Addr × Nat) × Int, Int × Int × jobs_Table, Int × jobs_Table, Int × jobs_Table, fun u => .inr u, fun _ _ => none, fun x_ => [], fun x_ v_ ns_ as_ => [(0, .pointer (some ⟨i_.1.1, 0, none⟩)), (1, .int .i64 i_.2.1), (2, .int .i64 i_.2.2.1), (7, .int .i64 v_.1), (16, .slice (x_.2.1.1) (x_.1).length (x_.2.1.2)), (17, .int .i64 (x_.2.2)), (18, .int .i64 v_.2.1)], fun x_ v_ ns_ as_ => zipL [0, 1, 2, 3, 4] (jobs_Table.D.flat i_.1.1 i_.1.2.1 v_.2.2) ++ zipL [5] [.sl 6 28 (x_.2.1.1) (x_.2.1.2) (x_.1)], 0, 0, fun x_ u_ ns_ as_ => [(7, .int .i64 u_.1)], fun x_ u_ ns_ as_ => zipL [0, 1, 2, 3, 4] (jobs_Table.D.flat i_.1.1 i_.1.2.1 u_.2)⟩

noncomputable def C107l0g (k : Nat) (i_ : Ins C107p) : Nat → (C107l0 i_).X → (C107l0 i_).V → Option (C107l0 i_).W := fun m_ (x_ : (List api_Ref) × (Option Addr × Nat) × Int) (v_ : Int × Int × jobs_Table) => jobs_Table_Move_l0 i_.2.1 i_.2.2.1 (x_.2.2) (x_.1) m_ v_.1 v_.2.1 v_.2.2

theorem C107l0s (k : Nat) (i : Ins C107p) (m : Nat) : ((C107l0 i).at (C107l0g k i) m).Sound Tryz.prog 107 48 (C107r k i) :=
  loop_sound mixed (C107l0 i) (id := 0) (body := nav [1, 1, 0, 1, 0, 0] (bodyOf Tryz.prog 107)) (C107l0g k i) (fun _ => none) (fun u => u) (gj (g2 (gI 7) (g2 (gI 18) (gO jobs_Table.D [0, 1, 2, 3, 4]))) []) (gj (g2 (gI 7) (gO jobs_Table.D [0, 1, 2, 3, 4])) []) (fun m => (.s (.seg 1 []) (.cond (.join (Int × jobs_Table) 0 0 (gj (g2 (gI 7) (gO jobs_Table.D [0, 1, 2, 3, 4])) []) (fun st_ s_ ns_ as_ => match (g2 (gP 0) (gA jobs_Table.D [0, 1, 2, 3, 4])) st_ with | some x_ => ([(7, .int .i64 s_.1)] ++ kp [0, 1, 2, 16, 17, 18] st_, ka [5] st_ ++ zipL [0, 1, 2, 3, 4] (jobs_Table.D.flat (x_.1) (x_.2) s_.2)) | none => ([], [])) (.blk (.s (.idx false 5 (.tmp 18) 5) (.s (.seg 2 [.A 5, .X 5 5 0, .X 5 5 1]) (.s (.new 31 []) (.s (.sto 31) (.jg (jobs_Job) 1 0 (gj (gC 34 0 5 jobs_Job.dec) [nPk 34]) (fun st_ s_ ns_ as_ => ([(10, .pointer (some ⟨(nn ns_ 0), 0, none⟩))] ++ kp [0, 1, 2, 7, 9, 16, 17, 18] st_, ka [31, 0, 1, 2, 3, 4, 5] st_ ++ zipL [34] [.blk (nn ns_ 0) 91 [.int .i64 s_.Queue, .int .i64 s_.Time, .int .i64 s_.Data, .int .i64 s_.Item.At, .int .i64 s_.Item.Gen]])) (.drw (.q [0, 1, 2, 3, 4] [.C 0 0, .C 31 0, .C 31 1] (.alt2 5 (.call K77 [.K 1, .K 2, .K 3] [1, 2, 3]) [] (.q [6, 7, 8] [] (.a 9 (.new 35 []) [] (.a 10 (.sto 35) [] (.q [11] [] (.rk [(35, 34), (34, 90034)] .leaf))))) 9 (.new 36 []) [.C 31 0, .C 31 1, .C 0 0] (.a 5 (.call K77 [.K 1, .K 2, .K 3] [1, 2, 3]) [] (.q [6, 7, 8] [] (.a 10 (.sto 36) [] (.q [11] [] (.rk [(36, 34), (34, 90034)] .leaf)))))))) (.s (.seg 4 [.C 34 0]) (.cond (.s (.seg 2 []) (.s (.sto 34) (.drw (.q [0, 1, 2, 3, 4, 5] [.C 0 0, .C 31 0, .C 31 1, .C 34 0, .C 34 1, .C 34 2, .C 34 3, .C 34 4] (.a 6 (.call K143 [.K 1, .K 2, .K 3] [1, 2, 3]) [] (.s (.seg 3 []) .leaf)))))) .leaf)))))))) (.s (.seg 2 []) .back)) .leaf))) (by kernel_rfl) (fun _ _ => rfl) (fun r y h => by cases h) (fun u => rfl) (fun m x v n1 n2 => by kernel_rfl) (fun m x v n1 n2 s => by kernel_rfl) m

theorem S107 (k : Nat) : (C107 k).Sound Tryz.prog :=
  fn_sound mixed (C107 k) (n := 48) (rs := rsOf Tryz.prog 107) [] [0, 1, 2, 3, 4] (gj (g2 (gI 6) (gO jobs_Table.D [0, 1, 2, 3, 4])) []) (fun i => (.s (.seg 1 []) (.s (.seg 1 []) (.s (.seg 4 [.C 0 0]) (.s (.call (K76 k) [.K 1, .K 2, .K 3] [5, 1, 2, 3]) (.s (.seg 2 []) (.loop ⟨(C107l0 i).at (C107l0g k i) k, C107l0s k i k⟩ (gl (g2 (gL 6 5) (g2 (gh 5) (gI 17))) (g2 (gI 7) (g2 (gI 18) (gO jobs_Table.D [0, 1, 2, 3, 4]))) []) (.s (.seg 2 []) .ret)))))))) Tryz.func107 rfl rfl (by kernel_rfl) (fun _ => rfl) (fun i => by kernel_rfl) (fun i s => by kernel_rfl)

noncomputable def K107 (k : Nat) : SCon El Tryz.prog := ⟨C107 k, S107 k, Tryz.call107⟩

noncomputable abbrev C73p : List (PK El) := [pO dispatch_Dispatcher.D]
noncomputable def C73 (k : Nat) : Con El := mkCon 73 C73p (fun i_ => dispatch_Dispatcher_merge k i_.1.2.2) 13 6 (fun i_ t ns_ as_ => .agg #[.int .i64 t.1.Why, .int .i64 t.1.Job.At, .int .i64 t.1.Job.Gen, .int .i64 t.1.Time, .int .i64 t.1.Data, .int .i64 t.1.N]) (fun i_ t ns_ as_ => dispatch_Dispatcher.D.flat i_.1.1 (dispatch_Dispatcher.A.mk i_.1.2.1.q_p (pq_Queues.A.mk (nn ns_ 0) (arena_Arena.A.mk (na as_ 0) (nn ns_ 1) (na as_ 1) (nn ns_ 2) (nn ns_ 3)) (nn ns_ 4) (slots_Table.A.mk (nn ns_ 5) (pool_Pool_slots_heap.A.mk (na as_ 2) (nn ns_ 6) (na as_ 3) (nn ns_ 7)) (nn ns_ 8) (pool_Pool_slots_thing.A.mk (na as_ 4) (nn ns_ 9) (na as_ 5) (nn ns_ 10)) (nn ns_ 11)) (nn ns_ 12)) i_.1.2.1.t__p i_.1.2.1.t__a i_.1.2.1.when_p i_.1.2.1.clock_p) t.2)

theorem S73 (k : Nat) : (C73 k).Sound Tryz.prog :=
  fn_sound mixed (C73 k) (n := 40) (rs := rsOf Tryz.prog 73) [.C 2000 0, .C 2000 1, .C 2000 2, .C 2000 3, .C 2000 4, .C 2000 5] [0, 1, 2, 3, 4, 5, 6, 7, 8, 9, 10, 11, 12, 13, 14, 15, 16, 17, 18, 19, 20, 21] (gj (g2 (gC 2000 0 6 api_Reply.dec) (gO dispatch_Dispatcher.D [0, 1, 2, 3, 4, 5, 6, 7, 8, 9, 10, 11, 12, 13, 14, 15, 16, 17, 18, 19, 20, 21])) [nA dispatch_Dispatcher.D [0, 1, 2, 3, 4, 5, 6, 7, 8, 9, 10, 11, 12, 13, 14, 15, 16, 17, 18, 19, 20, 21] (fun al => ([al.q_a.a__p, al.q_a.a__a.l_c, al.q_a.a__a.free_c, al.q_a.a__a.m__p, al.q_a.t__p, al.q_a.t__a.heaps_p, al.q_a.t__a.heaps_a.l_c, al.q_a.t__a.heaps_a.free_c, al.q_a.t__a.items_p, al.q_a.t__a.items_a.l_c, al.q_a.t__a.items_a.free_c, al.q_a.t__a.at__p, al.q_a.entries_p], [al.q_a.a__a.l_b, al.q_a.a__a.free_b, al.q_a.t__a.heaps_a.l_b, al.q_a.t__a.heaps_a.free_b, al.q_a.t__a.items_a.l_b, al.q_a.t__a.items_a.free_b]))]) (fun i => (.s (.new 22 []) (.drw (.q [0, 1, 2, 3, 4, 5, 6] [.C 0 2] (.s (.gd 4 (.const (.int .i64 0)) 2) (.q [7, 8, 9, 10, 11] [.Q 2, .C 0 3, .C 0 4] (.s (.gd 4 (.const (.int .i64 1)) 3) (.q [12, 13, 14] [.Q 3, .C 0 5, .C 0 6] (.a 15 (.call (K56a k) [.K 1, .K 2, .K 3, .K 4, .K 5, .K 6, .K 7, .K 8, .K 9, .K 10, .K 11, .K 12, .K 13, .K 14] [1, 2, 3, 4, 5, 6, 7, 8, 9, 10, 11, 12, 13, 14]) [] (.drw (.q [0, 1, 2, 3, 4, 5, 6, 7, 8, 9, 12, 13] [.C 0 2, .C 0 0] (.a 10 (.call (K56a k) [.K 1, .K 2, .K 3, .K 4, .K 5, .K 6, .K 7, .K 8, .K 9, .K 10, .K 11, .K 12, .K 13, .K 14] [1, 2, 3, 4, 5, 6, 7, 8, 9, 10, 11, 12, 13, 14]) [] (.q [11] [] (.s (.gd 4 (.const (.int .i64 1)) 5) (.q [14] [.Q 5] (.a 15 (.sto 0) [] (.s (.seg 4 [.C 0 7]) (.s (.call (K107 k) [.K 15, .K 16, .K 17, .K 18, .K 19] [15, 16, 17, 18, 19]) (.s (.seg 1 []) (.s (.sto 22) (.rk [(22, 2000), (2000, 92000)] .ret))))))))))))))))))))) Tryz.func73 rfl rfl (by kernel_rfl) (fun _ => rfl) (fun i => by kernel_rfl) (fun i s => by kernel_rfl)

noncomputable def K73 (k : Nat) : SCon El Tryz.prog := ⟨C73 k, S73 k, Tryz.call73⟩

noncomputable abbrev C74p : List (PK El) := [pO jobs_Table.D, pI .i64]
noncomputable def C74 (k : Nat) : Con El := mkCon 74 C74p (fun i_ => jobs_Table_Count k i_.1.2.2 i_.2.1) 0 0 (fun i_ t ns_ as_ => .int .i64 t) (fun i_ t ns_ as_ => jobs_Table.D.flat i_.1.1 i_.1.2.1 i_.1.2.2)

noncomputable abbrev C74r (k : Nat) (i : Ins C74p) : Kn El → VC (C74 k).T := retC Tryz.prog (C74 k) (rsOf Tryz.prog 74) [] [0, 1, 2, 3, 4] (gj (gI 4) []) i

noncomputable def C74l0 (i_ : Ins C74p) : BCon El (Int) := ⟨nav [1, 1, 0, 1] (bodyOf Tryz.prog 74), (List api_Ref) × (Option Addr × Nat) × Int, Int × Int, Int, Int, fun u => .inr u, fun _ _ => none, fun x_ => [], fun x_ v_ ns_ as_ => [(0, .pointer (some ⟨i_.1.1, 0, none⟩)), (1, .int .i64 i_.2.1), (5, .int .i64 v_.1), (14, .slice (x_.2.1.1) (x_.1).length (x_.2.1.2)), (15, .int .i64 (x_.2.2)), (16, .int .i64 v_.2)], fun x_ v_ ns_ as_ => zipL [0, 1, 2, 3, 4] (jobs_Table.D.flat i_.1.1 i_.1.2.1 i_.1.2.2) ++ zipL [5] [.sl 6 28 (x_.2.1.1) (x_.2.1.2) (x_.1)], 0, 0, fun x_ u_ ns_ as_ => [(5, .int .i64 u_)], fun x_ u_ ns_ as_ => zipL [0, 1, 2, 3, 4] (jobs_Table.D.flat i_.1.1 i_.1.2.1 i_.1.2.2)⟩

noncomputable def C74l0g (k : Nat) (i_ : Ins C74p) : Nat → (C74l0 i_).X → (C74l0 i_).V → Option (C74l0 i_).W := fun m_ (x_ : (List api_Ref) × (Option Addr × Nat) × Int) (v_ : Int × Int) => jobs_Table_Count_l0 i_.2.1 (x_.2.2) i_.1.2.2 (x_.1) m_ v_.1 v_.2

theorem C74l0s (k : Nat) (i : Ins C74p) (m : Nat) : ((C74l0 i).at (C74l0g k i) m).Sound Tryz.prog 74 37 (C74r k i) :=
  loop_sound mixed (C74l0 i) (id := 0) (body := nav [1, 1, 0, 1, 0, 0] (bodyOf Tryz.prog 74)) (C74l0g k i) (fun _ => none) (fun u => u) (gj (g2 (gI 5) (gI 16)) []) (gj (gI 5) []) (fun m => (.s (.seg 1 []) (.cond (.join (Int) 0 0 (gj (gI 5) []) (fun st_ s_ ns_ as_ => ([(5, .int .i64 s_)] ++ kp [0, 1, 14, 15, 16] st_, ka [0, 1, 2, 3, 4, 5] st_)) (.blk (.s (.idx false 5 (.tmp 16) 5) (.s (.seg 2 [.A 5, .X 5 5 0, .X 5 5 1]) (.s (.new 31 []) (.s (.sto 31) (.jg (jobs_Job) 1 0 (gj (gC 34 0 5 jobs_Job.dec) [nPk 34]) (fun st_ s_ ns_ as_ => ([(8, .pointer (some ⟨(nn ns_ 0), 0, none⟩))] ++ kp [0, 1, 5, 14, 15, 16] st_, ka [0, 1, 2, 3, 4, 5] st_ ++ zipL [34] [.blk (nn ns_ 0) 91 [.int .i64 s_.Queue, .int .i64 s_.Time, .int .i64 s_.Data, .int .i64 s_.Item.At, .int .i64 s_.Item.Gen]])) (.drw (.q [0, 1, 2, 3, 4] [.C 0 0, .C 31 0, .C 31 1] (.alt2 5 (.call K77 [.K 1, .K 2, .K 3] [1, 2, 3]) [] (.q [6, 7, 8] [] (.a 9 (.new 35 []) [] (.a 10 (.sto 35) [] (.q [11] [] (.rk [(35, 34), (34, 90034)] .leaf))))) 9 (.new 36 []) [.C 31 0, .C 31 1, .C 0 0] (.a 5 (.call K77 [.K 1, .K 2, .K 3] [1, 2, 3]) [] (.q [6, 7, 8] [] (.a 10 (.sto 36) [] (.q [11] [] (.rk [(36, 34), (34, 90034)] .leaf)))))))) (.s (.seg 4 [.C 34 0]) (.cond (.s (.seg 3 []) .leaf) .leaf)))))))) (.s (.seg 2 []) .back)) .leaf))) (by kernel_rfl) (fun _ _ => rfl) (fun r y h => by cases h) (fun u => rfl) (fun m x v n1 n2 => by kernel_rfl) (fun m x v n1 n2 s => by kernel_rfl) m

theorem S74 (k : Nat) : (C74 k).Sound Tryz.prog :=
  fn_sound mixed (C74 k) (n := 37) (rs := rsOf Tryz.prog 74) [] [0, 1, 2, 3, 4] (gj (gI 4) []) (fun i => (.s (.seg 1 []) (.s (.seg 1 []) (.s (.seg 4 [.C 0 0]) (.s (.call (K76 k) [.K 1, .K 2, .K 3] [5, 1, 2, 3]) (.s (.seg 2 []) (.loop ⟨(C74l0 i).at (C74l0g k i) k, C74l0s k i k⟩ (gl (g2 (gL 6 5) (g2 (gh 5) (gI 15))) (g2 (gI 5) (gI 16)) []) (.s (.seg 2 []) .ret)))))))) Tryz.func74 rfl rfl (by kernel_rfl) (fun _ => rfl) (fun i => by kernel_rfl) (fun i s => by kernel_rfl)

noncomputable def K74 (k : Nat) : SCon El Tryz.prog := ⟨C74 k, S74 k, Tryz.call74⟩

noncomputable abbrev C43p : List (PK El) := [pO dispatch_Dispatcher.D, pV api_Command.dv api_Command.val]
noncomputable def C43 (k : Nat) : Con El := mkCon 43 C43p (fun i_ => dispatch_Dispatcher_one k i_.1.2.2 i_.2.1) 17 8 (fun i_ t ns_ as_ => .agg #[.int .i64 t.1.Why, .int .i64 t.1.Job.At, .int .i64 t.1.Job.Gen, .int .i64 t.1.Time, .int .i64 t.1.Data, .int .i64 t.1.N]) (fun i_ t ns_ as_ => dispatch_Dispatcher.D.flat i_.1.1 (dispatch_Dispatcher.A.mk i_.1.2.1.q_p (pq_Queues.A.mk (nn ns_ 0) (arena_Arena.A.mk (na as_ 0) (nn ns_ 1) (na as_ 1) (nn ns_ 2) (nn ns_ 3)) (nn ns_ 4) (slots_Table.A.mk (nn ns_ 5) (pool_Pool_slots_heap.A.mk (na as_ 2) (nn ns_ 6) (na as_ 3) (nn ns_ 7)) (nn ns_ 8) (pool_Pool_slots_thing.A.mk (na as_ 4) (nn ns_ 9) (na as_ 5) (nn ns_ 10)) (nn ns_ 11)) (nn ns_ 12)) i_.1.2.1.t__p (jobs_Table.A.mk (nn ns_ 13) (pool_Pool_jobs_Job.A.mk (na as_ 6) (nn ns_ 14) (na as_ 7) (nn ns_ 15)) (nn ns_ 16)) i_.1.2.1.when_p i_.1.2.1.clock_p) t.2)

theorem S43 (k : Nat) : (C43 k).Sound Tryz.prog :=
  fn_sound mixed (C43 k) (n := 87) (rs := rsOf Tryz.prog 43) [.C 2000 0, .C 2000 1, .C 2000 2, .C 2000 3, .C 2000 4, .C 2000 5] [0, 1, 2, 3, 4, 5, 6, 7, 8, 9, 10, 11, 12, 13, 14, 15, 16, 17, 18, 19, 20, 21] (gj (g2 (gC 2000 0 6 api_Reply.dec) (gO dispatch_Dispatcher.D [0, 1, 2, 3, 4, 5, 6, 7, 8, 9, 10, 11, 12, 13, 14, 15, 16, 17, 18, 19, 20, 21])) [nA dispatch_Dispatcher.D [0, 1, 2, 3, 4, 5, 6, 7, 8, 9, 10, 11, 12, 13, 14, 15, 16, 17, 18, 19, 20, 21] (fun al => ([al.q_a.a__p, al.q_a.a__a.l_c, al.q_a.a__a.free_c, al.q_a.a__a.m__p, al.q_a.t__p, al.q_a.t__a.heaps_p, al.q_a.t__a.heaps_a.l_c, al.q_a.t__a.heaps_a.free_c, al.q_a.t__a.items_p, al.q_a.t__a.items_a.l_c, al.q_a.t__a.items_a.free_c, al.q_a.t__a.at__p, al.q_a.entries_p, al.t__a.p_p, al.t__a.p_a.l_c, al.t__a.p_a.free_c, al.t__a.by__p], [al.q_a.a__a.l_b, al.q_a.a__a.free_b, al.q_a.t__a.heaps_a.l_b, al.q_a.t__a.heaps_a.free_b, al.q_a.t__a.items_a.l_b, al.q_a.t__a.items_a.free_b, al.t__a.p_a.l_b, al.t__a.p_a.free_b]))]) (fun i => (.s (.new 22 []) (.s (.new 23 []) (.s (.seg 4 [.C 22 1]) (.pj 10 (Bool) mB (gB 5) (fun st s_ => ([(5, .bool s_)] ++ kp [0, 3, 4] st, ka [23, 22, 0, 1, 2, 3, 4, 5, 6, 7, 8, 9, 10, 11, 12, 13, 14, 15, 16, 17, 18, 19, 20, 21] st)) (.s (.seg 5 [.C 22 1]) .leaf) (.s (.seg 5 []) .leaf) (.s (.seg 2 [.C 22 0]) (.joinR (Unit) 0 0 (gj gU []) (fun st_ s_ ns_ as_ => ([] ++ kp [0, 3, 4] st_, ka [23, 22, 0, 1, 2, 3, 4, 5, 6, 7, 8, 9, 10, 11, 12, 13, 14, 15, 16, 17, 18, 19, 20, 21] st_)) (.blk (.s (.seg 2 []) (.join (Bool) 0 0 (gj (gB 17) []) (fun st_ s_ ns_ as_ => ([(17, .bool s_)] ++ kp [0, 3, 4, 5] st_, ka [23, 22, 0, 1, 2, 3, 4, 5, 6, 7, 8, 9, 10, 11, 12, 13, 14, 15, 16, 17, 18, 19, 20, 21] st_)) (.cond .leaf (.s (.seg 2 []) (.cond .leaf (.s (.seg 2 []) (.cond .leaf (.s (.seg 2 []) .leaf)))))) (.cond (.s (.seg 2 []) (.cond (.s (.call K44 [] []) (.s (.sto 23) (.rk [(23, 2000), (2000, 92000)] .ret))) .leaf)) .leaf)))) (.s (.seg 2 [.C 22 0]) (.blk (.s (.seg 2 []) (.cond (.s (.seg 2 [.C 22 0, .C 22 1, .C 22 2, .C 22 3, .C 22 4, .C 22 5]) (.s (.call (K68 k) [.K 0, .K 1, .K 2, .K 3, .K 4, .K 5, .K 6, .K 7, .K 8, .K 9, .K 10, .K 11, .K 12, .K 13, .K 14, .K 15, .K 16, .K 17, .K 18, .K 19, .K 20, .K 21] [0, 1, 2, 3, 4, 5, 6, 7, 8, 9, 10, 11, 12, 13, 14, 15, 16, 17, 18, 19, 20, 21]) (.s (.sto 23) (.rk [(23, 2000), (2000, 92000)] .ret)))) (.s (.seg 2 []) (.cond (.s (.seg 2 [.C 22 0, .C 22 1, .C 22 2, .C 22 3, .C 22 4, .C 22 5]) (.s (.call (K69 k) [.K 0, .K 1, .K 2, .K 3, .K 4, .K 5, .K 6, .K 7, .K 8, .K 9, .K 10, .K 11, .K 12, .K 13, .K 14, .K 15, .K 16, .K 17, .K 18, .K 19, .K 20, .K 21] [0, 1, 2, 3, 4, 5, 6, 7, 8, 9, 10, 11, 12, 13, 14, 15, 16, 17, 18, 19, 20, 21]) (.s (.sto 23) (.rk [(23, 2000), (2000, 92000)] .ret)))) (.s (.seg 2 []) (.cond (.s (.seg 3 [.C 22 2, .C 22 3]) (.s (.call (K70 k) [.K 0, .K 1, .K 2, .K 3, .K 4, .K 5, .K 6, .K 7, .K 8, .K 9, .K 10, .K 11, .K 12, .K 13, .K 14, .K 15, .K 16, .K 17, .K 18, .K 19, .K 20, .K 21] [0, 1, 2, 3, 4, 5, 6, 7, 8, 9, 10, 11, 12, 13, 14, 15, 16, 17, 18, 19, 20, 21]) (.s (.sto 23) (.rk [(23, 2000), (2000, 92000)] .ret)))) (.s (.seg 2 []) (.cond (.drw (.q [0, 1, 2, 3, 4, 5] [.C 0 9, .C 22 4] (.a 6 (.call K71 [.K 21] [21]) [] (.q [7] [] (.s (.seg 2 []) (.cond (.s (.seg 1 []) (.s (.call K44 [] []) (.s (.sto 23) (.rk [(23, 2000), (2000, 92000)] .ret)))) (.s (.seg 4 [.C 0 9]) (.s (.call K49 [.K 21] [21]) (.s (.seg 1 []) (.s (.sto 23) (.rk [(23, 2000), (2000, 92000)] .ret))))))))))) (.s (.seg 2 []) (.cond (.s (.seg 3 [.C 22 1]) (.s (.call (K72 k) [.K 0, .K 1, .K 2, .K 3, .K 4, .K 5, .K 6, .K 7, .K 8, .K 9, .K 10, .K 11, .K 12, .K 13, .K 14, .K 15, .K 16, .K 17, .K 18, .K 19, .K 20, .K 21] [0, 1, 2, 3, 4, 5, 6, 7, 8, 9, 10, 11, 12, 13, 14, 15, 16, 17, 18, 19, 20, 21]) (.s (.sto 23) (.rk [(23, 2000), (2000, 92000)] .ret)))) (.s (.seg 2 []) (.cond (.s (.seg 3 [.C 22 1]) (.cond (.s (.call K44 [] []) (.s (.sto 23) (.rk [(23, 2000), (2000, 92000)] .ret))) (.s (.seg 1 []) (.s (.call (K73 k) [.K 0, .K 1, .K 2, .K 3, .K 4, .K 5, .K 6, .K 7, .K 8, .K 9, .K 10, .K 11, .K 12, .K 13, .K 14, .K 15, .K 16, .K 17, .K 18, .K 19, .K 20, .K 21] [0, 1, 2, 3, 4, 5, 6, 7, 8, 9, 10, 11, 12, 13, 14, 15, 16, 17, 18, 19, 20, 21]) (.s (.sto 23) (.rk [(23, 2000), (2000, 92000)] .ret)))))) (.s (.seg 2 []) (.cond (.drw (.q [0, 1, 2, 3, 4, 5] [.C 0 7, .C 22 1] (.a 6 (.call (K74 k) [.K 15, .K 16, .K 17, .K 18, .K 19] [15, 16, 17, 18, 19]) [] (.q [7] [] (.a 8 (.sto 23) [] (.rk [(23, 2000), (2000, 92000)] .ret)))))) (.s (.call K44 [] []) (.s (.sto 23) (.rk [(23, 2000), (2000, 92000)] .ret)))))))))))))))))))))))))) Tryz.func43 rfl rfl (by kernel_rfl) (fun _ => rfl) (fun i => by kernel_rfl) (fun i s => by kernel_rfl)

noncomputable def K43 (k : Nat) : SCon El Tryz.prog := ⟨C43 k, S43 k, Tryz.call43⟩

noncomputable abbrev C13p : List (PK El) := [pO dispatch_Dispatcher.D, pV api_Command.dv api_Command.val]
noncomputable def C13 (k : Nat) : Con El := mkCon 13 C13p (fun i_ => dispatch_Dispatcher_Do k i_.1.2.2 i_.2.1) 17 8 (fun i_ t ns_ as_ => .agg #[.int .i64 t.1.Why, .int .i64 t.1.Job.At, .int .i64 t.1.Job.Gen, .int .i64 t.1.Time, .int .i64 t.1.Data, .int .i64 t.1.N]) (fun i_ t ns_ as_ => dispatch_Dispatcher.D.flat i_.1.1 (dispatch_Dispatcher.A.mk i_.1.2.1.q_p (pq_Queues.A.mk (nn ns_ 0) (arena_Arena.A.mk (na as_ 0) (nn ns_ 1) (na as_ 1) (nn ns_ 2) (nn ns_ 3)) (nn ns_ 4) (slots_Table.A.mk (nn ns_ 5) (pool_Pool_slots_heap.A.mk (na as_ 2) (nn ns_ 6) (na as_ 3) (nn ns_ 7)) (nn ns_ 8) (pool_Pool_slots_thing.A.mk (na as_ 4) (nn ns_ 9) (na as_ 5) (nn ns_ 10)) (nn ns_ 11)) (nn ns_ 12)) i_.1.2.1.t__p (jobs_Table.A.mk (nn ns_ 13) (pool_Pool_jobs_Job.A.mk (na as_ 6) (nn ns_ 14) (na as_ 7) (nn ns_ 15)) (nn ns_ 16)) i_.1.2.1.when_p i_.1.2.1.clock_p) t.2)

theorem S13 (k : Nat) : (C13 k).Sound Tryz.prog :=
  fn_sound mixed (C13 k) (n := 48) (rs := rsOf Tryz.prog 13) [.C 2000 0, .C 2000 1, .C 2000 2, .C 2000 3, .C 2000 4, .C 2000 5] [0, 1, 2, 3, 4, 5, 6, 7, 8, 9, 10, 11, 12, 13, 14, 15, 16, 17, 18, 19, 20, 21] (gj (g2 (gC 2000 0 6 api_Reply.dec) (gO dispatch_Dispatcher.D [0, 1, 2, 3, 4, 5, 6, 7, 8, 9, 10, 11, 12, 13, 14, 15, 16, 17, 18, 19, 20, 21])) [nA dispatch_Dispatcher.D [0, 1, 2, 3, 4, 5, 6, 7, 8, 9, 10, 11, 12, 13, 14, 15, 16, 17, 18, 19, 20, 21] (fun al => ([al.q_a.a__p, al.q_a.a__a.l_c, al.q_a.a__a.free_c, al.q_a.a__a.m__p, al.q_a.t__p, al.q_a.t__a.heaps_p, al.q_a.t__a.heaps_a.l_c, al.q_a.t__a.heaps_a.free_c, al.q_a.t__a.items_p, al.q_a.t__a.items_a.l_c, al.q_a.t__a.items_a.free_c, al.q_a.t__a.at__p, al.q_a.entries_p, al.t__a.p_p, al.t__a.p_a.l_c, al.t__a.p_a.free_c, al.t__a.by__p], [al.q_a.a__a.l_b, al.q_a.a__a.free_b, al.q_a.t__a.heaps_a.l_b, al.q_a.t__a.heaps_a.free_b, al.q_a.t__a.items_a.l_b, al.q_a.t__a.items_a.free_b, al.t__a.p_a.l_b, al.t__a.p_a.free_b]))]) (fun i => (.s (.new 22 []) (.s (.new 23 []) (.s (.seg 4 [.C 0 2]) (.s (.call K42 [.K 1, .K 2, .K 3, .K 4, .K 5, .K 6, .K 7, .K 8, .K 9, .K 10, .K 11, .K 12, .K 13, .K 14] [1, 2, 3, 4, 5, 6, 7, 8, 9, 10, 11, 12, 13, 14]) (.s (.seg 1 []) (.s (.seg 2 [.C 22 0, .C 22 1, .C 22 2, .C 22 3, .C 22 4, .C 22 5]) (.s (.call (K43 k) [.K 0, .K 1, .K 2, .K 3, .K 4, .K 5, .K 6, .K 7, .K 8, .K 9, .K 10, .K 11, .K 12, .K 13, .K 14, .K 15, .K 16, .K 17, .K 18, .K 19, .K 20, .K 21] [0, 1, 2, 3, 4, 5, 6, 7, 8, 9, 10, 11, 12, 13, 14, 15, 16, 17, 18, 19, 20, 21]) (.s (.new 24 []) (.s (.sto 24) (.s (.seg 5 [.C 0 2]) (.s (.call K42 [.K 1, .K 2, .K 3, .K 4, .K 5, .K 6, .K 7, .K 8, .K 9, .K 10, .K 11, .K 12, .K 13, .K 14] [1, 2, 3, 4, 5, 6, 7, 8, 9, 10, 11, 12, 13, 14]) (.s (.seg 4 []) (.s (.sto 0) (.drw (.q [0, 1, 2, 3, 4, 5, 6, 7, 8, 9, 10, 11] [.C 0 12, .C 0 11] (.a 12 (.sto 0) [] (.drw (.q [0, 1, 2, 3, 4, 5, 6, 7, 8] [.C 0 11, .C 0 10] (.cond (.s (.call K44 [] []) (.s (.sto 23) (.rk [(23, 2000), (2000, 92000)] .ret))) (.s (.seg 1 [.C 24 0, .C 24 1, .C 24 2, .C 24 3, .C 24 4, .C 24 5]) (.s (.sto 23) (.rk [(23, 2000), (2000, 92000)] .ret))))))))))))))))))))))) Tryz.func13 rfl rfl (by kernel_rfl) (fun _ => rfl) (fun i => by kernel_rfl) (fun i s => by kernel_rfl)

noncomputable def K13 (k : Nat) : SCon El Tryz.prog := ⟨C13 k, S13 k, Tryz.call13⟩

theorem dispatch_Dispatcher_Do_ok {w0 w : World} {As : List HP} {k : Nat} {p_d : Nat} {al_d : dispatch_Dispatcher.A} {d : dispatch_Dispatcher} {c_ : api_Command} {t : api_Reply × dispatch_Dispatcher}  (hm : dispatch_Dispatcher_Do k d c_ = some t) (H : St w0 (dispatch_Dispatcher.R p_d al_d d :: As) w) :
    CallsR Tryz.prog 13 #[.pointer (some ⟨p_d, 0, none⟩), .agg #[.int .i64 c_.Kind, .int .i64 c_.Queue, .int .i64 c_.Job.At, .int .i64 c_.Job.Gen, .int .i64 c_.Time, .int .i64 c_.Data]] w fun v w' => ∃ (z_d_q_a : pq_Queues.A), ∃ (z_d_t__a : jobs_Table.A), v = .agg #[.int .i64 t.1.Why, .int .i64 t.1.Job.At, .int .i64 t.1.Job.Gen, .int .i64 t.1.Time, .int .i64 t.1.Data, .int .i64 t.1.N] ∧ St w0 (dispatch_Dispatcher.R p_d (dispatch_Dispatcher.A.mk al_d.q_p z_d_q_a al_d.t__p z_d_t__a al_d.when_p al_d.clock_p) t.2 :: As) w' := by
  replace H := (fs0 fun As => dispatch_Dispatcher.D_st).1 H
  refine (S13 k ((p_d, al_d, d), c_, ()) t hm w0 w (As) rd0 H).mono ?_
  rintro v w' ⟨ns, as_, hn, ha, hv, H, hfx⟩
  obtain ⟨n0, ns0, rfl, hn0⟩ := lsS hn
  obtain ⟨n1, ns1, rfl, hn1⟩ := lsS hn0
  obtain ⟨n2, ns2, rfl, hn2⟩ := lsS hn1
  obtain ⟨n3, ns3, rfl, hn3⟩ := lsS hn2
  obtain ⟨n4, ns4, rfl, hn4⟩ := lsS hn3
  obtain ⟨n5, ns5, rfl, hn5⟩ := lsS hn4
  obtain ⟨n6, ns6, rfl, hn6⟩ := lsS hn5
  obtain ⟨n7, ns7, rfl, hn7⟩ := lsS hn6
  obtain ⟨n8, ns8, rfl, hn8⟩ := lsS hn7
  obtain ⟨n9, ns9, rfl, hn9⟩ := lsS hn8
  obtain ⟨n10, ns10, rfl, hn10⟩ := lsS hn9
  obtain ⟨n11, ns11, rfl, hn11⟩ := lsS hn10
  obtain ⟨n12, ns12, rfl, hn12⟩ := lsS hn11
  obtain ⟨n13, ns13, rfl, hn13⟩ := lsS hn12
  obtain ⟨n14, ns14, rfl, hn14⟩ := lsS hn13
  obtain ⟨n15, ns15, rfl, hn15⟩ := lsS hn14
  obtain ⟨n16, ns16, rfl, hn16⟩ := lsS hn15
  obtain rfl := ls0 hn16
  obtain ⟨a0, as0, rfl, ha0⟩ := lsS ha
  obtain ⟨a1, as1, rfl, ha1⟩ := lsS ha0
  obtain ⟨a2, as2, rfl, ha2⟩ := lsS ha1
  obtain ⟨a3, as3, rfl, ha3⟩ := lsS ha2
  obtain ⟨a4, as4, rfl, ha4⟩ := lsS ha3
  obtain ⟨a5, as5, rfl, ha5⟩ := lsS ha4
  obtain ⟨a6, as6, rfl, ha6⟩ := lsS ha5
  obtain ⟨a7, as7, rfl, ha7⟩ := lsS ha6
  obtain rfl := ls0 ha7
  refine ⟨(pq_Queues.A.mk n0 (arena_Arena.A.mk a0 n1 a1 n2 n3) n4 (slots_Table.A.mk n5 (pool_Pool_slots_heap.A.mk a2 n6 a3 n7) n8 (pool_Pool_slots_thing.A.mk a4 n9 a5 n10) n11) n12), (jobs_Table.A.mk n13 (pool_Pool_jobs_Job.A.mk a6 n14 a7 n15) n16), hv, ?_⟩
  refine (fs0 fun As => dispatch_Dispatcher.D_st).2 ?_
  exact H

noncomputable abbrev C97p : List (PK El) := [pO thicketref2_Pool.D, pI .i64]
noncomputable def C97 : Con El := mkCon 97 C97p (fun i_ => thicketref2_Pool_Take i_.1.2.2 i_.2.1) 4 4 (fun i_ t ns_ as_ => .tuple #[.agg #[.int .i64 t.1.At, .int .i64 t.1.Gen], .bool t.2.1]) (fun i_ t ns_ as_ => thicketref2_Pool.D.flat i_.1.1 (thicketref2_Pool.A.mk (na as_ 0) (nn ns_ 0) (na as_ 1) (nn ns_ 1) (na as_ 2) (nn ns_ 2) (na as_ 3) (nn ns_ 3)) t.2.2)

theorem S97 : (C97).Sound Tryz.prog :=
  fn_sound mixed (C97) (n := 103) (rs := rsOf Tryz.prog 97) [.C 2000 0, .C 2000 1] [0, 1, 2, 3, 4] (gj (g2 (gC 2000 0 2 api_Ref.dec) (g2 (gB 5) (gO thicketref2_Pool.D [0, 1, 2, 3, 4]))) [nA thicketref2_Pool.D [0, 1, 2, 3, 4] (fun al => ([al.Gens_c, al.In_c, al.V_c, al.Back_c], [al.Gens_b, al.In_b, al.V_b, al.Back_b]))]) (fun i => (.s (.new 5 []) (.s (.seg 1 []) (.s (.seg 6 [.C 0 1]) (.s (.seg 6 [.C 0 4]) (.s (.seg 2 []) (.joinR (Int × thicketref2_Pool) 4 4 (gj (g2 (gI 6) (gO thicketref2_Pool.D [0, 1, 2, 3, 4])) [nA thicketref2_Pool.D [0, 1, 2, 3, 4] (fun al => ([al.Gens_c, al.In_c, al.V_c, al.Back_c], [al.Gens_b, al.In_b, al.V_b, al.Back_b]))]) (fun st_ s_ ns_ as_ => match (gP 0) st_ with | some x_ => ([(6, .int .i64 s_.1)] ++ kp [0, 1, 4] st_, ka [5] st_ ++ zipL [0, 1, 2, 3, 4] (thicketref2_Pool.D.flat (x_) (thicketref2_Pool.A.mk (na as_ 0) (nn ns_ 0) (na as_ 1) (nn ns_ 1) (na as_ 2) (nn ns_ 2) (na as_ 3) (nn ns_ 3)) s_.2)) | none => ([], [])) (.cond (.s (.seg 6 [.C 0 4]) (.s (.idx false 4 (.tmp 25) 2) (.s (.seg 3 [.A 2, .X 2 4 0]) (.s (.seg 7 [.C 0 4]) (.s (.cut false 4 none (some (.tmp 34)) 1003) (.s (.seg 3 [.W 1003]) (.s (.sto 0) (.s (.own 1003 4) .leaf)))))))) (.s (.seg 6 [.C 0 0]) (.cond (.s (.seg 1 []) (.s (.sto 5) (.s (.seg 1 []) (.rk [(5, 2000), (2000, 92000)] .ret)))) (.jg (thicketref2_Pool) 3 3 (gj (gO thicketref2_Pool.D [0, 1, 2, 3, 4]) [nA thicketref2_Pool.D [0, 1, 2, 3, 4] (fun al => ([al.Gens_c, al.In_c, al.V_c], [al.Gens_b, al.In_b, al.V_b]))]) (fun st_ s_ ns_ as_ => match (g2 (gP 0) (gA thicketref2_Pool.D [0, 1, 2, 3, 4])) st_ with | some x_ => ([] ++ kp [0, 1, 4, 6] st_, ka [5] st_ ++ zipL [0, 1, 2, 3, 4] (thicketref2_Pool.D.flat (x_.1) (thicketref2_Pool.A.mk (na as_ 0) (nn ns_ 0) (na as_ 1) (nn ns_ 1) (na as_ 2) (nn ns_ 2) (x_.2.Back_b) (x_.2.Back_c)) s_)) | none => ([], [])) (.drw (.q [0, 1, 2, 3, 4, 5, 6, 9, 10, 11, 12, 15, 16, 17, 18] [.C 0 1, .C 0 2, .C 0 3] (.alt3 7 (.bld 38 0 3) [.C 0 3, .C 0 2, .C 0 1] (.alt3 8 (.app 1 (.O 38)) [.C 0 3, .C 0 2] (.alt2 13 (.bld 39 7 4) [.C 0 3, .C 0 2] (.alt2 14 (.app 2 (.O 39)) [.C 0 3] (.a 19 (.bld 40 8 2) [.C 0 3] (.a 20 (.app 3 (.O 40)) [] (.q [21, 22] [] (.a 23 (.sto 0) [] (.q [24, 25] [] (.a 26 (.sto 0) [] (.q [27, 28] [] (.a 29 (.sto 0) [] .leaf)))))))) 19 (.bld 41 8 2) [.C 0 3, .C 0 2] (.a 14 (.app 2 (.O 39)) [.C 0 3] (.a 20 (.app 3 (.O 41)) [] (.q [21, 22] [] (.a 23 (.sto 0) [] (.q [24, 25] [] (.a 26 (.sto 0) [] (.q [27, 28] [] (.a 29 (.sto 0) [] .leaf))))))))) 19 (.bld 42 8 2) [.C 0 3, .C 0 2] (.a 13 (.bld 43 7 4) [.C 0 3, .C 0 2] (.a 14 (.app 2 (.O 43)) [.C 0 3] (.a 20 (.app 3 (.O 42)) [] (.q [21, 22] [] (.a 23 (.sto 0) [] (.q [24, 25] [] (.a 26 (.sto 0) [] (.q [27, 28] [] (.a 29 (.sto 0) [] .leaf)))))))))) 13 (.bld 44 7 4) [.C 0 3, .C 0 2, .C 0 1] (.alt2 8 (.app 1 (.O 38)) [.C 0 3, .C 0 2] (.alt2 14 (.app 2 (.O 44)) [.C 0 3] (.a 19 (.bld 45 8 2) [.C 0 3] (.a 20 (.app 3 (.O 45)) [] (.q [21, 22] [] (.a 23 (.sto 0) [] (.q [24, 25] [] (.a 26 (.sto 0) [] (.q [27, 28] [] (.a 29 (.sto 0) [] .leaf)))))))) 19 (.bld 46 8 2) [.C 0 3, .C 0 2] (.a 14 (.app 2 (.O 44)) [.C 0 3] (.a 20 (.app 3 (.O 46)) [] (.q [21, 22] [] (.a 23 (.sto 0) [] (.q [24, 25] [] (.a 26 (.sto 0) [] (.q [27, 28] [] (.a 29 (.sto 0) [] .leaf))))))))) 19 (.bld 47 8 2) [.C 0 3, .C 0 2, .C 0 1] (.a 8 (.app 1 (.O 38)) [.C 0 3, .C 0 2] (.a 14 (.app 2 (.O 44)) [.C 0 3] (.a 20 (.app 3 (.O 47)) [] (.q [21, 22] [] (.a 23 (.sto 0) [] (.q [24, 25] [] (.a 26 (.sto 0) [] (.q [27, 28] [] (.a 29 (.sto 0) [] .leaf)))))))))) 19 (.bld 48 8 2) [.C 0 3, .C 0 2, .C 0 1] (.alt2 8 (.app 1 (.O 38)) [.C 0 3, .C 0 2] (.a 13 (.bld 49 7 4) [.C 0 3, .C 0 2] (.a 14 (.app 2 (.O 49)) [.C 0 3] (.a 20 (.app 3 (.O 48)) [] (.q [21, 22] [] (.a 23 (.sto 0) [] (.q [24, 25] [] (.a 26 (.sto 0) [] (.q [27, 28] [] (.a 29 (.sto 0) [] .leaf))))))))) 13 (.bld 50 7 4) [.C 0 3, .C 0 2, .C 0 1] (.a 8 (.app 1 (.O 38)) [.C 0 3, .C 0 2] (.a 14 (.app 2 (.O 50)) [.C 0 3] (.a 20 (.app 3 (.O 48)) [] (.q [21, 22] [] (.a 23 (.sto 0) [] (.q [24, 25] [] (.a 26 (.sto 0) [] (.q [27, 28] [] (.a 29 (.sto 0) [] .leaf))))))))))) 13 (.bld 51 7 4) [.C 0 3, .C 0 2, .C 0 1] (.alt2 7 (.bld 52 0 3) [.C 0 3, .C 0 2, .C 0 1] (.alt2 8 (.app 1 (.O 52)) [.C 0 3, .C 0 2] (.alt2 14 (.app 2 (.O 51)) [.C 0 3] (.a 19 (.bld 53 8 2) [.C 0 3] (.a 20 (.app 3 (.O 53)) [] (.q [21, 22] [] (.a 23 (.sto 0) [] (.q [24, 25] [] (.a 26 (.sto 0) [] (.q [27, 28] [] (.a 29 (.sto 0) [] .leaf)))))))) 19 (.bld 54 8 2) [.C 0 3, .C 0 2] (.a 14 (.app 2 (.O 51)) [.C 0 3] (.a 20 (.app 3 (.O 54)) [] (.q [21, 22] [] (.a 23 (.sto 0) [] (.q [24, 25] [] (.a 26 (.sto 0) [] (.q [27, 28] [] (.a 29 (.sto 0) [] .leaf))))))))) 19 (.bld 55 8 2) [.C 0 3, .C 0 2, .C 0 1] (.a 8 (.app 1 (.O 52)) [.C 0 3, .C 0 2] (.a 14 (.app 2 (.O 51)) [.C 0 3] (.a 20 (.app 3 (.O 55)) [] (.q [21, 22] [] (.a 23 (.sto 0) [] (.q [24, 25] [] (.a 26 (.sto 0) [] (.q [27, 28] [] (.a 29 (.sto 0) [] .leaf)))))))))) 19 (.bld 56 8 2) [.C 0 3, .C 0 2, .C 0 1] (.a 7 (.bld 57 0 3) [.C 0 3, .C 0 2, .C 0 1] (.a 8 (.app 1 (.O 57)) [.C 0 3, .C 0 2] (.a 14 (.app 2 (.O 51)) [.C 0 3] (.a 20 (.app 3 (.O 56)) [] (.q [21, 22] [] (.a 23 (.sto 0) [] (.q [24, 25] [] (.a 26 (.sto 0) [] (.q [27, 28] [] (.a 29 (.sto 0) [] .leaf))))))))))) 19 (.bld 58 8 2) [.C 0 3, .C 0 2, .C 0 1] (.alt2 7 (.bld 59 0 3) [.C 0 3, .C 0 2, .C 0 1] (.alt2 8 (.app 1 (.O 59)) [.C 0 3, .C 0 2] (.a 13 (.bld 60 7 4) [.C 0 3, .C 0 2] (.a 14 (.app 2 (.O 60)) [.C 0 3] (.a 20 (.app 3 (.O 58)) [] (.q [21, 22] [] (.a 23 (.sto 0) [] (.q [24, 25] [] (.a 26 (.sto 0) [] (.q [27, 28] [] (.a 29 (.sto 0) [] .leaf))))))))) 13 (.bld 61 7 4) [.C 0 3, .C 0 2, .C 0 1] (.a 8 (.app 1 (.O 59)) [.C 0 3, .C 0 2] (.a 14 (.app 2 (.O 61)) [.C 0 3] (.a 20 (.app 3 (.O 58)) [] (.q [21, 22] [] (.a 23 (.sto 0) [] (.q [24, 25] [] (.a 26 (.sto 0) [] (.q [27, 28] [] (.a 29 (.sto 0) [] .leaf)))))))))) 13 (.bld 62 7 4) [.C 0 3, .C 0 2, .C 0 1] (.a 7 (.bld 63 0 3) [.C 0 3, .C 0 2, .C 0 1] (.a 8 (.app 1 (.O 63)) [.C 0 3, .C 0 2] (.a 14 (.app 2 (.O 62)) [.C 0 3] (.a 20 (.app 3 (.O 58)) [] (.q [21, 22] [] (.a 23 (.sto 0) [] (.q [24, 25] [] (.a 26 (.sto 0) [] (.q [27, 28] [] (.a 29 (.sto 0) [] .leaf)))))))))))))) .leaf)))) (.s (.seg 5 [.C 0 1]) (.s (.idx false 1 (.tmp 76) 4) (.s (.seg 3 [.A 4, .X 4 1 0]) (.s (.idx false 1 (.tmp 76) 5) (.s (.seg 1 [.A 5]) (.s (.sset 1 5 0) (.s (.rlc 5 0 1) (.drw (.q [0, 1, 2, 3, 4, 5, 6, 7, 8, 9, 10] [.C 0 2, .C 0 3] (.s (.idx false 2 (.tmp 85) 8) (.q [11] [.A 8] (.a 12 (.sset 2 8 0) [] (.s (.rlc 8 0 2) (.s (.idx false 3 (.tmp 90) 9) (.q [13] [.A 9] (.a 14 (.sset 3 9 0) [] (.s (.rlc 9 0 3) (.s (.seg 6 [.C 0 1]) (.s (.idx false 1 (.tmp 99) 10) (.s (.seg 3 [.A 10, .X 10 1 0]) (.s (.sto 5) (.s (.seg 1 []) (.rk [(5, 2000), (2000, 92000)] .ret)))))))))))))))))))))))))))))) Tryz.func97 rfl rfl (by kernel_rfl) (fun _ => rfl) (fun i => by kernel_rfl) (fun i s => by kernel_rfl)

noncomputable def K97 : SCon El Tryz.prog := ⟨C97, S97, Tryz.call97⟩

noncomputable abbrev C140p : List (PK El) := [pV api_Entry.dv api_Entry.val, pV api_Entry.dv api_Entry.val]
noncomputable def C140 : Con El := mkCon 140 C140p (fun i_ => thicketref1_Before i_.1 i_.2.1) 0 0 (fun i_ t ns_ as_ => .bool t) (fun i_ t ns_ as_ => [])

theorem S140 : (C140).Sound Tryz.prog :=
  fn_sound mixed (C140) (n := 24) (rs := rsOf Tryz.prog 140) [] [] (gj (gB 4) []) (fun i => (.s (.new 0 []) (.s (.new 1 []) (.s (.seg 1 []) (.s (.seg 6 [.C 0 0, .C 1 0]) (.pj 10 (Bool) mB (gB 4) (fun st s_ => ([(4, .bool s_)] ++ kp [] st, ka [1, 0] st)) (.s (.seg 14 []) .leaf) (.s (.seg 6 [.C 0 0, .C 1 0]) (.pj 16 (Bool) mB (gB 4) (fun st s_ => ([(4, .bool s_)] ++ kp [] st, ka [1, 0] st)) (.s (.seg 8 [.C 0 1, .C 1 1]) .leaf) (.s (.seg 8 []) .leaf) .leaf)) .ret)))))) Tryz.func140 rfl rfl (by kernel_rfl) (fun _ => rfl) (fun i => by kernel_rfl) (fun i s => by kernel_rfl)

noncomputable def K140 : SCon El Tryz.prog := ⟨C140, S140, Tryz.call140⟩

noncomputable abbrev C98p : List (PK El) := [pO thicketref22_Dispatcher.D, pI .i64]
noncomputable def C98 (k : Nat) : Con El := mkCon 98 C98p (fun i_ => thicketref22_Dispatcher_first k i_.1.2.2 i_.2.1) 0 0 (fun i_ t ns_ as_ => .int .i64 t) (fun i_ t ns_ as_ => thicketref22_Dispatcher.D.flat i_.1.1 i_.1.2.1 i_.1.2.2)

noncomputable abbrev C98r (k : Nat) (i : Ins C98p) : Kn El → VC (C98 k).T := retC Tryz.prog (C98 k) (rsOf Tryz.prog 98) [] [0, 1, 2, 3, 4, 5, 6] (gj (gI 4) []) i

noncomputable def C98l0 (i_ : Ins C98p) : BCon El (Int) := ⟨nav [1, 1, 0, 1] (bodyOf Tryz.prog 98), Unit, Int × Int, Int, Int, fun u => .inr u, fun _ _ => none, fun x_ => [], fun x_ v_ ns_ as_ => [(0, .pointer (some ⟨i_.1.1, 0, none⟩)), (1, .int .i64 i_.2.1), (5, .int .i64 v_.1), (6, .int .i64 v_.2)], fun x_ v_ ns_ as_ => zipL [0, 1, 2, 3, 4, 5, 6] (thicketref22_Dispatcher.D.flat i_.1.1 i_.1.2.1 i_.1.2.2), 0, 0, fun x_ u_ ns_ as_ => [(5, .int .i64 u_)], fun x_ u_ ns_ as_ => zipL [0, 1, 2, 3, 4, 5, 6] (thicketref22_Dispatcher.D.flat i_.1.1 i_.1.2.1 i_.1.2.2)⟩

noncomputable def C98l0g (k : Nat) (i_ : Ins C98p) : Nat → (C98l0 i_).X → (C98l0 i_).V → Option (C98l0 i_).W := fun m_ (x_ : Unit) (v_ : Int × Int) => thicketref22_Dispatcher_first_l0 i_.2.1 i_.1.2.2 m_ v_.1 v_.2

theorem C98l0s (k : Nat) (i : Ins C98p) (m : Nat) : ((C98l0 i).at (C98l0g k i) m).Sound Tryz.prog 98 51 (C98r k i) :=
  loop_sound mixed (C98l0 i) (id := 0) (body := nav [1, 1, 0, 1, 0, 0] (bodyOf Tryz.prog 98)) (C98l0g k i) (fun _ => none) (fun u => u) (gj (g2 (gI 5) (gI 6)) []) (gj (gI 5) []) (fun m => (.s (.seg 7 [.C 0 4]) (.cond (.join (Int) 0 0 (gj (gI 5) []) (fun st_ s_ ns_ as_ => ([(5, .int .i64 s_)] ++ kp [0, 1, 6] st_, ka [0, 1, 2, 3, 4, 5, 6] st_)) (.blk (.join (Bool) 0 0 (gj (gB 48) []) (fun st_ s_ ns_ as_ => ([(48, .bool s_)] ++ kp [0, 1, 5, 6] st_, ka [0, 1, 2, 3, 4, 5, 6] st_)) (.drw (.q [0, 1, 2, 3, 4] [.C 0 4] (.s (.idx false 6 (.tmp 20) 45) (.q [5, 6, 7, 8, 9, 10] [.A 45, .X 45 6 0] (.split 26 (.q [11, 12, 13] [] (.split 29 (.q [14, 15, 16, 17, 18, 19, 20, 21, 22, 23, 24, 25, 26, 27, 28, 29, 30, 31, 32] [] .leaf) (.q [14, 15, 16, 17, 18] [.C 0 4] (.s (.idx false 6 (.tmp 34) 46) (.q [19, 20, 21, 22, 23, 24, 25, 26] [.A 46, .X 46 6 2, .X 46 6 3, .C 0 4] (.s (.idx false 6 (.tmp 42) 47) (.q [27, 28, 29] [.A 47, .X 47 6 2, .X 47 6 3] (.a 30 (.call K140 [] []) [] (.q [31, 32] [] .leaf))))))))) (.q [11, 12, 13, 14, 15, 16, 17, 18, 19, 20, 21, 22, 23, 24, 25, 26, 27, 28, 29, 30, 31, 32] [] .leaf)))))) (.cond (.s (.seg 2 []) .leaf) .leaf))) (.s (.seg 3 []) .back)) .leaf))) (by kernel_rfl) (fun _ _ => rfl) (fun r y h => by cases h) (fun u => rfl) (fun m x v n1 n2 => by kernel_rfl) (fun m x v n1 n2 s => by kernel_rfl) m

theorem S98 (k : Nat) : (C98 k).Sound Tryz.prog :=
  fn_sound mixed (C98 k) (n := 51) (rs := rsOf Tryz.prog 98) [] [0, 1, 2, 3, 4, 5, 6] (gj (gI 4) []) (fun i => (.s (.seg 1 []) (.s (.seg 1 []) (.s (.seg 1 []) (.loop ⟨(C98l0 i).at (C98l0g k i) k, C98l0s k i k⟩ (gl gU (g2 (gI 5) (gI 6)) []) (.s (.seg 2 []) .ret)))))) Tryz.func98 rfl rfl (by kernel_rfl) (fun _ => rfl) (fun i => by kernel_rfl) (fun i s => by kernel_rfl)

noncomputable def K98 (k : Nat) : SCon El Tryz.prog := ⟨C98 k, S98 k, Tryz.call98⟩

noncomputable abbrev C61p : List (PK El) := [pO thicketref2_Pool.D, pV api_Ref.dv api_Ref.val]
noncomputable def C61 : Con El := mkCon 61 C61p (fun i_ => thicketref2_Pool_Look i_.1.2.2 i_.2.1) 0 0 (fun i_ t ns_ as_ => .int .i64 t) (fun i_ t ns_ as_ => thicketref2_Pool.D.flat i_.1.1 i_.1.2.1 i_.1.2.2)

theorem S61 : (C61).Sound Tryz.prog :=
  fn_sound mixed (C61) (n := 58) (rs := rsOf Tryz.prog 61) [] [0, 1, 2, 3, 4] (gj (gI 4) []) (fun i => (.s (.new 5 []) (.s (.seg 1 []) (.join (Bool) 0 0 (gj (gB 35) []) (fun st_ s_ ns_ as_ => ([(35, .bool s_)] ++ kp [0, 3] st_, ka [5, 0, 1, 2, 3, 4] st_)) (.drw (.q [0, 1, 2, 3] [.C 5 0] (.split 8 (.q [4, 5, 6, 7, 8, 9, 10, 11, 12, 13, 14, 15, 16, 17, 18, 19, 20, 21, 22, 23, 24, 25, 26, 27, 28, 29, 30] [] .leaf) (.q [4, 5, 6, 7, 8, 9, 10, 11, 12, 13] [.C 5 0, .C 0 1] (.split 18 (.q [14, 15, 16, 17, 18, 19, 20, 21, 22, 23, 24, 25, 26, 27, 28, 29, 30] [] .leaf) (.q [14, 15, 16, 17, 18] [.C 5 1] (.split 23 (.q [19, 20, 21, 22, 23, 24, 25, 26, 27, 28, 29, 30] [] .leaf) (.q [19, 20, 21, 22, 23, 24, 25, 26] [.C 5 1, .C 0 1, .C 5 0] (.s (.idx false 1 (.tmp 31) 2) (.q [27, 28, 29, 30] [.A 2, .X 2 1 0] .leaf)))))))))) (.cond (.s (.seg 1 []) .ret) (.join (Bool) 0 0 (gj (gB 57) []) (fun st_ s_ ns_ as_ => ([(57, .bool s_)] ++ kp [] st_, ka [0, 1, 2, 3, 4] st_)) (.drw (.q [0, 1, 2, 3, 4, 5, 6, 7] [.C 5 1, .C 0 1, .C 5 0] (.s (.idx false 1 (.tmp 43) 7) (.q [8, 9, 10, 11] [.A 7, .X 7 1 0] (.split 47 (.q [12, 13, 14, 15, 16, 17, 18, 19, 20, 21] [] .leaf) (.q [12, 13, 14, 15, 16, 17] [.C 0 2, .C 5 0] (.s (.idx false 2 (.tmp 53) 8) (.q [18, 19, 20, 21] [.A 8, .X 8 2 0] .leaf)))))))) (.cond (.s (.seg 1 []) .ret) (.s (.seg 1 []) .ret)))))))) Tryz.func61 rfl rfl (by kernel_rfl) (fun _ => rfl) (fun i => by kernel_rfl) (fun i s => by kernel_rfl)

noncomputable def K61 : SCon El Tryz.prog := ⟨C61, S61, Tryz.call61⟩

noncomputable abbrev C100p : List (PK El) := [pO thicketref2_Pool.D, pV api_Ref.dv api_Ref.val]
noncomputable def C100 : Con El := mkCon 100 C100p (fun i_ => thicketref2_Pool_Give i_.1.2.2 i_.2.1) 1 1 (fun i_ t ns_ as_ => .tuple #[.int .i64 t.1, .int .i64 t.2.1]) (fun i_ t ns_ as_ => thicketref2_Pool.D.flat i_.1.1 (thicketref2_Pool.A.mk i_.1.2.1.Gens_b i_.1.2.1.Gens_c i_.1.2.1.In_b i_.1.2.1.In_c i_.1.2.1.V_b i_.1.2.1.V_c (na as_ 0) (nn ns_ 0)) t.2.2)

theorem S100 : (C100).Sound Tryz.prog :=
  fn_sound mixed (C100) (n := 41) (rs := rsOf Tryz.prog 100) [] [0, 1, 2, 3, 4] (gj (g2 (gI 4) (g2 (gI 5) (gO thicketref2_Pool.D [0, 1, 2, 3, 4]))) [nA thicketref2_Pool.D [0, 1, 2, 3, 4] (fun al => ([al.Back_c], [al.Back_b]))]) (fun i => (.s (.new 5 []) (.s (.seg 2 []) (.s (.seg 2 [.C 5 0, .C 5 1]) (.s (.call K61 [.K 0, .K 1, .K 2, .K 3, .K 4] [0, 1, 2, 3, 4]) (.s (.seg 1 []) (.s (.seg 2 []) (.cond (.s (.seg 3 []) .ret) (.drw (.q [0, 1, 2, 3, 4, 5] [.C 0 2, .C 5 0] (.s (.idx false 2 (.tmp 18) 1) (.q [6] [.A 1] (.a 7 (.sset 2 1 0) [] (.s (.rlc 1 0 2) (.jg (thicketref2_Pool) 1 1 (gj (gO thicketref2_Pool.D [0, 1, 2, 3, 4]) [nA thicketref2_Pool.D [0, 1, 2, 3, 4] (fun al => ([al.Back_c], [al.Back_b]))]) (fun st_ s_ ns_ as_ => match (g2 (gP 0) (gA thicketref2_Pool.D [0, 1, 2, 3, 4])) st_ with | some x_ => ([] ++ kp [0, 3] st_, ka [5] st_ ++ zipL [0, 1, 2, 3, 4] (thicketref2_Pool.D.flat (x_.1) (thicketref2_Pool.A.mk (x_.2.Gens_b) (x_.2.Gens_c) (x_.2.In_b) (x_.2.In_c) (x_.2.V_b) (x_.2.V_c) (na as_ 0) (nn ns_ 0)) s_)) | none => ([], [])) (.drw (.q [0, 2, 3, 4, 5, 7, 8] [.C 0 4, .C 5 0] (.alt2 1 (.bld 8 0 3) [.C 5 0, .C 0 4] (.alt2 6 (.app 8 (.O 4)) [.C 5 0] (.a 9 (.bld 9 0 3) [] (.a 10 (.app 8 (.O 9)) [] (.q [11, 12] [] (.a 13 (.sto 0) [] (.rk [(8, 4), (4, 90004)] .leaf))))) 9 (.bld 10 0 3) [.C 0 4] (.a 6 (.app 8 (.O 4)) [] (.a 10 (.app 8 (.O 10)) [] (.q [11, 12] [] (.a 13 (.sto 0) [] (.rk [(8, 4), (4, 90004)] .leaf)))))) 9 (.bld 11 0 3) [.C 0 4] (.a 1 (.bld 12 0 3) [.C 0 4] (.a 6 (.app 12 (.O 4)) [] (.a 10 (.app 12 (.O 11)) [] (.q [11, 12] [] (.a 13 (.sto 0) [] (.rk [(12, 4), (4, 90004)] .leaf))))))))) (.drw (.q [0, 1, 2, 3, 4, 5] [.C 0 3, .C 5 0] (.s (.idx false 3 (.tmp 38) 3) (.q [6, 7, 8, 9] [.A 3, .X 3 3 0] .ret))))))))))))))))))) Tryz.func100 rfl rfl (by kernel_rfl) (fun _ => rfl) (fun i => by kernel_rfl) (fun i s => by kernel_rfl)

noncomputable def K100 : SCon El Tryz.prog := ⟨C100, S100, Tryz.call100⟩

noncomputable abbrev C63p : List (PK El) := [pO thicketref22_Dispatcher.D, pI .i64]
noncomputable def C63 : Con El := mkCon 63 C63p (fun i_ => thicketref22_Dispatcher_out i_.1.2.2 i_.2.1) 5 5 (fun i_ t ns_ as_ => .agg #[.int .i64 t.1.Queue, .int .i64 t.1.Data, .int .i64 t.1.E.Key, .int .i64 t.1.E.Serial, .int .i64 t.1.R.At, .int .i64 t.1.R.Gen]) (fun i_ t ns_ as_ => thicketref22_Dispatcher.D.flat i_.1.1 (thicketref22_Dispatcher.A.mk i_.1.2.1.Pool_p (thicketref2_Pool.A.mk (na as_ 0) (nn ns_ 0) (na as_ 1) (nn ns_ 1) (na as_ 2) (nn ns_ 2) (na as_ 3) (nn ns_ 3)) (na as_ 4) (nn ns_ 4)) t.2)

theorem S63 : (C63).Sound Tryz.prog :=
  fn_sound mixed (C63) (n := 40) (rs := rsOf Tryz.prog 63) [.C 2000 0, .C 2000 1, .C 2000 2, .C 2000 3, .C 2000 4, .C 2000 5] [0, 1, 2, 3, 4, 5, 6] (gj (g2 (gC 2000 0 6 thicketref22_Job.dec) (gO thicketref22_Dispatcher.D [0, 1, 2, 3, 4, 5, 6])) [nA thicketref22_Dispatcher.D [0, 1, 2, 3, 4, 5, 6] (fun al => ([al.Pool_a.Gens_c, al.Pool_a.In_c, al.Pool_a.V_c, al.Pool_a.Back_c, al.L_c], [al.Pool_a.Gens_b, al.Pool_a.In_b, al.Pool_a.V_b, al.Pool_a.Back_b, al.L_b]))]) (fun i => (.s (.new 7 []) (.s (.seg 5 [.C 0 4]) (.s (.idx false 6 (.tmp 10) 0) (.s (.seg 2 [.A 0, .X 0 6 0, .X 0 6 1, .X 0 6 2, .X 0 6 3, .X 0 6 4, .X 0 6 5]) (.s (.new 8 []) (.s (.sto 8) (.drw (.q [0, 2, 3, 4, 5, 6] [.C 0 4] (.s (.cut false 6 none (some (.tmp 19)) 1003) (.q [7, 9, 10, 11, 12, 13, 14] [.W 1003, .C 0 4] (.s (.cut false 6 (some (.tmp 27)) none 1004) (.q [15] [.W 1004] (.a 1 (.bld 10 9 112) [.W 1004, .C 0 4, .W 1003, .C 0 4] (.a 8 (.app 10 (.W 1003 6)) [.W 1004, .C 0 4] (.a 16 (.app 10 (.W 1004 6)) [] (.q [17, 18] [] (.a 19 (.sto 0) [] (.drw (.q [0, 1, 2, 3, 4, 5] [.C 0 3, .C 8 4, .C 8 5] (.a 6 (.call K100 [.K 1, .K 2, .K 3, .K 4, .K 5] [1, 2, 3, 4, 5]) [] (.s (.seg 1 [.C 8 0, .C 8 1, .C 8 2, .C 8 3, .C 8 4, .C 8 5]) (.s (.sto 7) (.rk [(7, 2000), (10, 6), (2000, 92000), (6, 90006)] .ret)))))))))))))))))))))))) Tryz.func63 rfl rfl (by kernel_rfl) (fun _ => rfl) (fun i => by kernel_rfl) (fun i s => by kernel_rfl)

noncomputable def K63 : SCon El Tryz.prog := ⟨C63, S63, Tryz.call63⟩

noncomputable abbrev C99p : List (PK El) := [pO thicketref22_Dispatcher.D, pI .i64]
noncomputable def C99 (k : Nat) : Con El := mkCon 99 C99p (fun i_ => thicketref22_Dispatcher_Count k i_.1.2.2 i_.2.1) 0 0 (fun i_ t ns_ as_ => .int .i64 t) (fun i_ t ns_ as_ => thicketref22_Dispatcher.D.flat i_.1.1 i_.1.2.1 i_.1.2.2)

noncomputable abbrev C99r (k : Nat) (i : Ins C99p) : Kn El → VC (C99 k).T := retC Tryz.prog (C99 k) (rsOf Tryz.prog 99) [] [0, 1, 2, 3, 4, 5, 6] (gj (gI 4) []) i

noncomputable def C99l0 (i_ : Ins C99p) : BCon El (Int) := ⟨nav [1, 1, 0, 1] (bodyOf Tryz.prog 99), Unit, Int × Int, Int, Int, fun u => .inr u, fun _ _ => none, fun x_ => [], fun x_ v_ ns_ as_ => [(0, .pointer (some ⟨i_.1.1, 0, none⟩)), (1, .int .i64 i_.2.1), (5, .int .i64 v_.1), (6, .int .i64 v_.2)], fun x_ v_ ns_ as_ => zipL [0, 1, 2, 3, 4, 5, 6] (thicketref22_Dispatcher.D.flat i_.1.1 i_.1.2.1 i_.1.2.2), 0, 0, fun x_ u_ ns_ as_ => [(5, .int .i64 u_)], fun x_ u_ ns_ as_ => zipL [0, 1, 2, 3, 4, 5, 6] (thicketref22_Dispatcher.D.flat i_.1.1 i_.1.2.1 i_.1.2.2)⟩

noncomputable def C99l0g (k : Nat) (i_ : Ins C99p) : Nat → (C99l0 i_).X → (C99l0 i_).V → Option (C99l0 i_).W := fun m_ (x_ : Unit) (v_ : Int × Int) => thicketref22_Dispatcher_Count_l0 i_.2.1 i_.1.2.2 m_ v_.1 v_.2

theorem C99l0s (k : Nat) (i : Ins C99p) (m : Nat) : ((C99l0 i).at (C99l0g k i) m).Sound Tryz.prog 99 29 (C99r k i) :=
  loop_sound mixed (C99l0 i) (id := 0) (body := nav [1, 1, 0, 1, 0, 0] (bodyOf Tryz.prog 99)) (C99l0g k i) (fun _ => none) (fun u => u) (gj (g2 (gI 5) (gI 6)) []) (gj (gI 5) []) (fun m => (.s (.seg 7 [.C 0 4]) (.cond (.join (Int) 0 0 (gj (gI 5) []) (fun st_ s_ ns_ as_ => ([(5, .int .i64 s_)] ++ kp [0, 1, 6] st_, ka [0, 1, 2, 3, 4, 5, 6] st_)) (.blk (.s (.seg 5 [.C 0 4]) (.s (.idx false 6 (.tmp 20) 5) (.s (.seg 5 [.A 5, .X 5 6 0]) (.cond (.s (.seg 3 []) .leaf) .leaf))))) (.s (.seg 3 []) .back)) .leaf))) (by kernel_rfl) (fun _ _ => rfl) (fun r y h => by cases h) (fun u => rfl) (fun m x v n1 n2 => by kernel_rfl) (fun m x v n1 n2 s => by kernel_rfl) m

theorem S99 (k : Nat) : (C99 k).Sound Tryz.prog :=
  fn_sound mixed (C99 k) (n := 29) (rs := rsOf Tryz.prog 99) [] [0, 1, 2, 3, 4, 5, 6] (gj (gI 4) []) (fun i => (.s (.seg 1 []) (.s (.seg 1 []) (.s (.seg 1 []) (.loop ⟨(C99l0 i).at (C99l0g k i) k, C99l0s k i k⟩ (gl gU (g2 (gI 5) (gI 6)) []) (.s (.seg 2 []) .ret)))))) Tryz.func99 rfl rfl (by kernel_rfl) (fun _ => rfl) (fun i => by kernel_rfl) (fun i s => by kernel_rfl)

noncomputable def K99 (k : Nat) : SCon El Tryz.prog := ⟨C99 k, S99 k, Tryz.call99⟩

noncomputable abbrev C60p : List (PK El) := [pO thicketref22_Dispatcher.D, pV api_Command.dv api_Command.val]
noncomputable def C60 (k : Nat) : Con El := mkCon 60 C60p (fun i_ => thicketref22_Dispatcher_queue k i_.1.2.2 i_.2.1) 5 5 (fun i_ t ns_ as_ => .agg #[.int .i64 t.1.Why, .int .i64 t.1.Job.At, .int .i64 t.1.Job.Gen, .int .i64 t.1.Time, .int .i64 t.1.Data, .int .i64 t.1.N]) (fun i_ t ns_ as_ => thicketref22_Dispatcher.D.flat i_.1.1 (thicketref22_Dispatcher.A.mk i_.1.2.1.Pool_p (thicketref2_Pool.A.mk (na as_ 0) (nn ns_ 0) (na as_ 1) (nn ns_ 1) (na as_ 2) (nn ns_ 2) (na as_ 3) (nn ns_ 3)) (na as_ 4) (nn ns_ 4)) t.2)

noncomputable abbrev C60r (k : Nat) (i : Ins C60p) : Kn El → VC (C60 k).T := retC Tryz.prog (C60 k) (rsOf Tryz.prog 60) [.C 2000 0, .C 2000 1, .C 2000 2, .C 2000 3, .C 2000 4, .C 2000 5] [0, 1, 2, 3, 4, 5, 6] (gj (g2 (gC 2000 0 6 api_Reply.dec) (gO thicketref22_Dispatcher.D [0, 1, 2, 3, 4, 5, 6])) [nA thicketref22_Dispatcher.D [0, 1, 2, 3, 4, 5, 6] (fun al => ([al.Pool_a.Gens_c, al.Pool_a.In_c, al.Pool_a.V_c, al.Pool_a.Back_c, al.L_c], [al.Pool_a.Gens_b, al.Pool_a.In_b, al.Pool_a.V_b, al.Pool_a.Back_b, al.L_b]))]) i

noncomputable def C60l0 (i_ : Ins C60p) : BCon El (api_Reply × thicketref22_Dispatcher) := ⟨nav [1, 0, 1, 0, 1, 1, 1, 1, 1, 0, 1, 1, 0, 1] (bodyOf Tryz.prog 60), Nat, Int × Int × thicketref22_Dispatcher, Int × thicketref22_Dispatcher, Int × thicketref22_Dispatcher, fun u => .inr u, fun _ _ => none, fun x_ => [], fun x_ v_ ns_ as_ => [(0, .pointer (some ⟨i_.1.1, 0, none⟩)), (4, .pointer (some ⟨x_, 0, none⟩)), (9, .int .i64 v_.1), (10, .int .i64 v_.2.1)], fun x_ v_ ns_ as_ => zipL [8] [.blk (x_) 30 [.int .i64 0, .int .i64 0, .int .i64 0, .int .i64 0, .int .i64 0, .int .i64 0]] ++ zipL [0, 1, 2, 3, 4, 5, 6] (thicketref22_Dispatcher.D.flat i_.1.1 i_.1.2.1 v_.2.2), 0, 0, fun x_ u_ ns_ as_ => [(4, .pointer (some ⟨x_, 0, none⟩)), (9, .int .i64 u_.1)], fun x_ u_ ns_ as_ => zipL [8] [.blk (x_) 30 [.int .i64 0, .int .i64 0, .int .i64 0, .int .i64 0, .int .i64 0, .int .i64 0]] ++ zipL [0, 1, 2, 3, 4, 5, 6] (thicketref22_Dispatcher.D.flat i_.1.1 i_.1.2.1 u_.2)⟩

noncomputable def C60l0g (k : Nat) (i_ : Ins C60p) : Nat → (C60l0 i_).X → (C60l0 i_).V → Option (C60l0 i_).W := fun m_ (x_ : Nat) (v_ : Int × Int × thicketref22_Dispatcher) => thicketref22_Dispatcher_queue_l0 m_ v_.1 v_.2.1 v_.2.2

theorem C60l0s (k : Nat) (i : Ins C60p) (m : Nat) : ((C60l0 i).at (C60l0g k i) m).Sound Tryz.prog 60 139 (C60r k i) :=
  loop_sound mixed (C60l0 i) (id := 1) (body := nav [1, 0, 1, 0, 1, 1, 1, 1, 1, 0, 1, 1, 0, 1, 0, 0] (bodyOf Tryz.prog 60)) (C60l0g k i) (fun _ => none) (fun u => u) (gj (g2 (gI 9) (g2 (gI 10) (gO thicketref22_Dispatcher.D [0, 1, 2, 3, 4, 5, 6]))) []) (gj (g2 (gI 9) (gO thicketref22_Dispatcher.D [0, 1, 2, 3, 4, 5, 6])) []) (fun m => (.s (.seg 7 [.C 0 4]) (.cond (.join (Int × thicketref22_Dispatcher) 0 0 (gj (g2 (gI 9) (gO thicketref22_Dispatcher.D [0, 1, 2, 3, 4, 5, 6])) []) (fun st_ s_ ns_ as_ => match (g2 (gP 0) (gA thicketref22_Dispatcher.D [0, 1, 2, 3, 4, 5, 6])) st_ with | some x_ => ([(9, .int .i64 s_.1)] ++ kp [0, 4, 10] st_, ka [8] st_ ++ zipL [0, 1, 2, 3, 4, 5, 6] (thicketref22_Dispatcher.D.flat (x_.1) (x_.2) s_.2)) | none => ([], [])) (.blk (.s (.seg 5 [.C 0 4]) (.s (.idx false 6 (.tmp 118) 13) (.s (.seg 4 [.A 13, .X 13 6 0]) (.cond (.s (.seg 5 [.C 0 4]) (.s (.idx false 6 (.tmp 127) 14) (.s (.seg 2 [.A 14]) (.s (.sset 6 14 0) (.s (.rlc 14 0 4) (.s (.seg 3 []) .leaf)))))) .leaf))))) (.s (.seg 3 []) .back)) .leaf))) (by kernel_rfl) (fun _ _ => rfl) (fun r y h => by cases h) (fun u => rfl) (fun m x v n1 n2 => by kernel_rfl) (fun m x v n1 n2 s => by kernel_rfl) m

theorem S60 (k : Nat) : (C60 k).Sound Tryz.prog :=
  fn_sound mixed (C60 k) (n := 139) (rs := rsOf Tryz.prog 60) [.C 2000 0, .C 2000 1, .C 2000 2, .C 2000 3, .C 2000 4, .C 2000 5] [0, 1, 2, 3, 4, 5, 6] (gj (g2 (gC 2000 0 6 api_Reply.dec) (gO thicketref22_Dispatcher.D [0, 1, 2, 3, 4, 5, 6])) [nA thicketref22_Dispatcher.D [0, 1, 2, 3, 4, 5, 6] (fun al => ([al.Pool_a.Gens_c, al.Pool_a.In_c, al.Pool_a.V_c, al.Pool_a.Back_c, al.L_c], [al.Pool_a.Gens_b, al.Pool_a.In_b, al.Pool_a.V_b, al.Pool_a.Back_b, al.L_b]))]) (fun i => (.s (.new 7 []) (.s (.new 8 []) (.s (.seg 2 [.C 7 0]) (.blk (.s (.seg 2 []) (.cond (.s (.seg 4 [.C 0 3]) (.s (.call K97 [.K 1, .K 2, .K 3, .K 4, .K 5] [1, 2, 3, 4, 5]) (.s (.seg 3 []) (.s (.new 9 []) (.s (.sto 9) (.s (.seg 1 []) (.s (.seg 2 []) (.cond (.s (.seg 1 []) (.s (.sto 8) (.rk [(8, 2000), (2000, 92000)] .ret))) (.jg (thicketref22_Dispatcher) 1 1 (gj (gO thicketref22_Dispatcher.D [0, 1, 2, 3, 4, 5, 6]) [nA thicketref22_Dispatcher.D [0, 1, 2, 3, 4, 5, 6] (fun al => ([al.L_c], [al.L_b]))]) (fun st_ s_ ns_ as_ => match (g2 (gP 0) (gA thicketref22_Dispatcher.D [0, 1, 2, 3, 4, 5, 6])) st_ with | some x_ => ([] ++ kp [0, 3, 4, 5] st_, ka [9, 8, 7] st_ ++ zipL [0, 1, 2, 3, 4, 5, 6] (thicketref22_Dispatcher.D.flat (x_.1) (thicketref22_Dispatcher.A.mk (x_.2.Pool_p) (x_.2.Pool_a) (na as_ 0) (nn ns_ 0)) s_)) | none => ([], [])) (.drw (.q [0, 2, 3, 4, 5, 7, 8, 9, 10, 11, 12, 13, 14, 15, 16, 17, 18, 19] [.C 0 4, .C 7 1, .C 7 5, .C 7 4, .C 0 2, .C 9 0, .C 9 1] (.alt2 1 (.bld 12 9 112) [.C 9 0, .C 9 1, .C 0 2, .C 7 4, .C 7 5, .C 7 1, .C 0 4] (.alt2 6 (.app 12 (.O 6)) [.C 9 0, .C 9 1, .C 0 2, .C 7 4, .C 7 5, .C 7 1] (.a 20 (.bld 13 9 112) [] (.a 21 (.app 12 (.O 13)) [] (.q [22, 23] [] (.a 24 (.sto 0) [] (.rk [(12, 6), (6, 90006)] .leaf))))) 20 (.bld 14 9 112) [.C 0 4] (.a 6 (.app 12 (.O 6)) [] (.a 21 (.app 12 (.O 14)) [] (.q [22, 23] [] (.a 24 (.sto 0) [] (.rk [(12, 6), (6, 90006)] .leaf)))))) 20 (.bld 15 9 112) [.C 0 4] (.a 1 (.bld 16 9 112) [.C 0 4] (.a 6 (.app 16 (.O 6)) [] (.a 21 (.app 16 (.O 15)) [] (.q [22, 23] [] (.a 24 (.sto 0) [] (.rk [(16, 6), (6, 90006)] .leaf))))))))) (.s (.seg 7 [.C 0 2]) (.s (.sto 0) (.s (.seg 6 [.C 9 0, .C 9 1, .C 7 4, .C 7 5]) (.s (.sto 8) (.rk [(8, 2000), (2000, 92000)] .ret)))))))))))))) (.s (.seg 2 []) (.cond (.s (.seg 3 [.C 7 1]) (.s (.call (K98 k) [.K 0, .K 1, .K 2, .K 3, .K 4, .K 5, .K 6] [0, 1, 2, 3, 4, 5, 6]) (.s (.seg 1 []) (.join (Bool) 0 0 (gj (gB 86) []) (fun st_ s_ ns_ as_ => ([(86, .bool s_)] ++ kp [0, 4, 7] st_, ka [0, 1, 2, 3, 4, 5, 6, 8] st_)) (.drw (.q [0, 1, 2] [] (.split 71 (.q [3, 4, 5, 6, 7, 8, 9, 10, 11, 12, 13, 14, 15, 16, 17] [] .leaf) (.q [3, 4, 5, 6, 7] [.C 0 4] (.s (.idx false 6 (.tmp 76) 2) (.q [8, 9, 10, 11, 12, 13, 14, 15, 16, 17] [.A 2, .X 2 6 2, .C 0 1] .leaf)))))) (.cond (.s (.seg 1 []) (.s (.sto 8) (.rk [(8, 2000), (2000, 92000)] .ret))) (.s (.seg 2 []) (.s (.call K63 [.K 0, .K 1, .K 2, .K 3, .K 4, .K 5, .K 6] [0, 1, 2, 3, 4, 5, 6]) (.s (.new 17 []) (.s (.sto 17) (.s (.seg 8 [.C 17 4, .C 17 5, .C 17 2, .C 17 1]) (.s (.sto 8) (.rk [(8, 2000), (2000, 92000)] .ret)))))))))))) (.s (.seg 2 []) (.cond (.s (.seg 3 [.C 7 1]) (.cond (.s (.seg 1 []) (.s (.sto 8) (.rk [(8, 2000), (2000, 92000)] .ret))) (.s (.seg 1 []) (.s (.seg 1 []) (.loop ⟨(C60l0 i).at (C60l0g k i) k, C60l0s k i k⟩ (gl (gP 8) (g2 (gI 9) (g2 (gI 10) (gO thicketref22_Dispatcher.D [0, 1, 2, 3, 4, 5, 6]))) []) (.s (.seg 2 []) (.s (.sto 8) (.rk [(8, 2000), (2000, 92000)] .ret)))))))) (.s (.seg 3 [.C 7 1]) (.s (.call (K99 k) [.K 0, .K 1, .K 2, .K 3, .K 4, .K 5, .K 6] [0, 1, 2, 3, 4, 5, 6]) (.s (.seg 1 []) (.s (.sto 8) (.rk [(8, 2000), (2000, 92000)] .ret)))))))))))))))) Tryz.func60 rfl rfl (by kernel_rfl) (fun _ => rfl) (fun i => by kernel_rfl) (fun i s => by kernel_rfl)

noncomputable def K60 (k : Nat) : SCon El Tryz.prog := ⟨C60 k, S60 k, Tryz.call60⟩

noncomputable abbrev C62p : List (PK El) := [pO thicketref22_Dispatcher.D, pV api_Ref.dv api_Ref.val]
noncomputable def C62 (k : Nat) : Con El := mkCon 62 C62p (fun i_ => thicketref22_Dispatcher_at k i_.1.2.2 i_.2.1) 0 0 (fun i_ t ns_ as_ => .int .i64 t.1) (fun i_ t ns_ as_ => thicketref22_Dispatcher.D.flat i_.1.1 i_.1.2.1 t.2)

noncomputable abbrev C62r (k : Nat) (i : Ins C62p) : Kn El → VC (C62 k).T := retC Tryz.prog (C62 k) (rsOf Tryz.prog 62) [] [0, 1, 2, 3, 4, 5, 6] (gj (g2 (gI 4) (gO thicketref22_Dispatcher.D [0, 1, 2, 3, 4, 5, 6])) []) i

noncomputable def C62l0 (i_ : Ins C62p) : BCon El (Int × thicketref22_Dispatcher) := ⟨nav [1, 0, 1] (bodyOf Tryz.prog 62), Nat, Int, Unit, (Int × thicketref22_Dispatcher) ⊕ (Unit), fun r => r, fun _ _ => none, fun x_ => [], fun x_ v_ ns_ as_ => [(0, .pointer (some ⟨i_.1.1, 0, none⟩)), (3, .pointer (some ⟨x_, 0, none⟩)), (5, .int .i64 v_)], fun x_ v_ ns_ as_ => zipL [7] [.blk (x_) 28 [.int .i64 i_.2.1.At, .int .i64 i_.2.1.Gen]] ++ zipL [0, 1, 2, 3, 4, 5, 6] (thicketref22_Dispatcher.D.flat i_.1.1 i_.1.2.1 i_.1.2.2), 0, 0, fun x_ u_ ns_ as_ => [], fun x_ u_ ns_ as_ => zipL [0, 1, 2, 3, 4, 5, 6] (thicketref22_Dispatcher.D.flat i_.1.1 i_.1.2.1 i_.1.2.2)⟩

noncomputable def C62l0g (k : Nat) (i_ : Ins C62p) : Nat → (C62l0 i_).X → (C62l0 i_).V → Option (C62l0 i_).W := fun m_ (x_ : Nat) (v_ : Int) => thicketref22_Dispatcher_at_l0 i_.2.1.At i_.2.1.Gen i_.1.2.2 m_ v_

theorem C62l0s (k : Nat) (i : Ins C62p) (m : Nat) : ((C62l0 i).at (C62l0g k i) m).Sound Tryz.prog 62 26 (C62r k i) :=
  loop_sound mixed (C62l0 i) (id := 0) (body := nav [1, 0, 1, 0, 0] (bodyOf Tryz.prog 62)) (C62l0g k i) (fun r => some (.inl r)) (fun u => .inr u) (gj (gI 5) []) (gj gU []) (fun m => (.s (.seg 7 [.C 0 4]) (.cond (.blk (.drw (.q [0, 1, 2, 3, 4] [.C 0 4] (.s (.idx false 6 (.tmp 19) 5) (.q [5, 6, 7, 8] [.A 5, .X 5 6 4, .X 5 6 5, .C 7 0, .C 7 1] (.a 9 (.eqs api_Ref.eqD) [] (.cond (.s (.seg 2 []) .ret) (.s (.seg 3 []) .back)))))))) .leaf))) (by kernel_rfl) (fun _ _ => rfl) (fun r y h => by cases h; rfl) (fun u => rfl) (fun m x v n1 n2 => by kernel_rfl) (fun m x v n1 n2 s => by kernel_rfl) m

theorem S62 (k : Nat) : (C62 k).Sound Tryz.prog :=
  fn_sound mixed (C62 k) (n := 26) (rs := rsOf Tryz.prog 62) [] [0, 1, 2, 3, 4, 5, 6] (gj (g2 (gI 4) (gO thicketref22_Dispatcher.D [0, 1, 2, 3, 4, 5, 6])) []) (fun i => (.s (.new 7 []) (.s (.seg 1 []) (.s (.seg 1 []) (.loop ⟨(C62l0 i).at (C62l0g k i) k, C62l0s k i k⟩ (gl (gP 7) (gI 5) []) (.s (.seg 1 []) .ret)))))) Tryz.func62 rfl rfl (by kernel_rfl) (fun _ => rfl) (fun i => by kernel_rfl) (fun i s => by kernel_rfl)

noncomputable def K62 (k : Nat) : SCon El Tryz.prog := ⟨C62 k, S62 k, Tryz.call62⟩

noncomputable abbrev C36p : List (PK El) := [pO thicketref22_Dispatcher.D, pV api_Command.dv api_Command.val]
noncomputable def C36 (k : Nat) : Con El := mkCon 36 C36p (fun i_ => thicketref22_Dispatcher_Do k i_.1.2.2 i_.2.1) 5 5 (fun i_ t ns_ as_ => .agg #[.int .i64 t.1.Why, .int .i64 t.1.Job.At, .int .i64 t.1.Job.Gen, .int .i64 t.1.Time, .int .i64 t.1.Data, .int .i64 t.1.N]) (fun i_ t ns_ as_ => thicketref22_Dispatcher.D.flat i_.1.1 (thicketref22_Dispatcher.A.mk i_.1.2.1.Pool_p (thicketref2_Pool.A.mk (na as_ 0) (nn ns_ 0) (na as_ 1) (nn ns_ 1) (na as_ 2) (nn ns_ 2) (na as_ 3) (nn ns_ 3)) (na as_ 4) (nn ns_ 4)) t.2)

theorem S36 (k : Nat) : (C36 k).Sound Tryz.prog :=
  fn_sound mixed (C36 k) (n := 113) (rs := rsOf Tryz.prog 36) [.C 2000 0, .C 2000 1, .C 2000 2, .C 2000 3, .C 2000 4, .C 2000 5] [0, 1, 2, 3, 4, 5, 6] (gj (g2 (gC 2000 0 6 api_Reply.dec) (gO thicketref22_Dispatcher.D [0, 1, 2, 3, 4, 5, 6])) [nA thicketref22_Dispatcher.D [0, 1, 2, 3, 4, 5, 6] (fun al => ([al.Pool_a.Gens_c, al.Pool_a.In_c, al.Pool_a.V_c, al.Pool_a.Back_c, al.L_c], [al.Pool_a.Gens_b, al.Pool_a.In_b, al.Pool_a.V_b, al.Pool_a.Back_b, al.L_b]))]) (fun i => (.s (.new 7 []) (.s (.new 8 []) (.s (.seg 2 [.C 7 0]) (.joinR (Unit) 0 0 (gj gU []) (fun st_ s_ ns_ as_ => ([] ++ kp [4] st_, ka [8, 0, 1, 2, 3, 4, 5, 6] st_)) (.blk (.s (.seg 2 []) (.join (Bool) 0 0 (gj (gB 10) []) (fun st_ s_ ns_ as_ => ([(10, .bool s_)] ++ kp [0, 3, 4, 9] st_, ka [8, 7, 0, 1, 2, 3, 4, 5, 6] st_)) (.cond .leaf (.s (.seg 2 []) (.cond .leaf (.s (.seg 2 []) (.cond .leaf (.s (.seg 2 []) .leaf)))))) (.cond (.s (.seg 4 [.C 7 1]) (.pj 18 (Bool) mB (gB 22) (fun st s_ => ([(22, .bool s_)] ++ kp [0, 3, 4] st, ka [8, 7, 0, 1, 2, 3, 4, 5, 6] st)) (.s (.seg 4 [.C 7 1]) .leaf) (.s (.seg 4 []) .leaf) (.cond (.s (.seg 1 []) (.s (.sto 8) (.rk [(8, 2000), (2000, 92000)] .ret))) (.s (.seg 2 [.C 7 0, .C 7 1, .C 7 2, .C 7 3, .C 7 4, .C 7 5]) (.s (.call (K60 k) [.K 0, .K 1, .K 2, .K 3, .K 4, .K 5, .K 6] [0, 1, 2, 3, 4, 5, 6]) (.s (.sto 8) (.rk [(8, 2000), (2000, 92000)] .ret))))))) (.s (.seg 2 []) (.join (Bool) 0 0 (gj (gB 27) []) (fun st_ s_ ns_ as_ => ([(27, .bool s_)] ++ kp [0, 3, 4, 9] st_, ka [8, 7, 0, 1, 2, 3, 4, 5, 6] st_)) (.cond .leaf (.s (.seg 2 []) .leaf)) (.cond (.drw (.q [0, 1, 2, 3, 4, 5] [.C 0 3, .C 7 2, .C 7 3] (.a 6 (.call K61 [.K 1, .K 2, .K 3, .K 4, .K 5] [1, 2, 3, 4, 5]) [] (.q [7] [] (.s (.seg 2 []) (.cond (.s (.seg 2 []) (.s (.sto 8) (.rk [(8, 2000), (2000, 92000)] .ret))) (.s (.seg 3 [.C 7 2, .C 7 3]) (.s (.call (K62 k) [.K 0, .K 1, .K 2, .K 3, .K 4, .K 5, .K 6] [0, 1, 2, 3, 4, 5, 6]) (.s (.seg 1 []) (.s (.seg 3 [.C 7 0]) (.cond (.s (.seg 2 []) (.s (.call K63 [.K 0, .K 1, .K 2, .K 3, .K 4, .K 5, .K 6] [0, 1, 2, 3, 4, 5, 6]) (.s (.new 10 []) (.s (.sto 10) (.s (.seg 6 [.C 10 2, .C 10 1]) (.s (.sto 8) (.rk [(8, 2000), (2000, 92000)] .ret))))))) (.drw (.q [0, 1, 2, 3, 4, 5, 6] [.C 7 4, .C 0 4] (.s (.idx false 6 (.tmp 63) 7) (.q [7, 8, 9, 10, 11] [.A 7, .X 7 6 2] (.cond (.s (.seg 1 []) (.s (.sto 8) (.rk [(8, 2000), (2000, 92000)] .ret))) (.drw (.q [0, 1, 2, 3, 4, 5, 6] [.C 0 4, .C 7 4] (.s (.idx false 6 (.tmp 74) 9) (.q [7, 8, 9] [.A 9] (.a 10 (.sset 6 9 2) [] (.s (.rlc 9 0 4) (.drw (.q [0, 1, 2, 3, 4, 5, 6] [.C 7 4, .C 0 4] (.s (.idx false 6 (.tmp 86) 11) (.q [7, 8, 9, 10] [.A 11, .X 11 6 1] (.a 11 (.sto 8) [] (.rk [(8, 2000), (2000, 92000)] .ret)))))))))))))))))))))))))))) (.s (.seg 2 []) (.cond (.s (.seg 3 [.C 7 4]) (.cond (.s (.seg 1 []) (.s (.sto 8) (.rk [(8, 2000), (2000, 92000)] .ret))) (.drw (.q [0, 1, 2, 3, 4, 5, 6] [.C 0 1, .C 7 4] (.a 7 (.call K64 [] []) [] (.q [8, 9] [] (.a 10 (.sto 0) [] (.s (.seg 5 [.C 0 1]) (.s (.sto 8) (.rk [(8, 2000), (2000, 92000)] .ret)))))))))) .leaf))))))))) (.s (.seg 1 []) (.s (.sto 8) (.rk [(8, 2000), (2000, 92000)] .ret)))))))) Tryz.func36 rfl rfl (by kernel_rfl) (fun _ => rfl) (fun i => by kernel_rfl) (fun i s => by kernel_rfl)

noncomputable def K36 (k : Nat) : SCon El Tryz.prog := ⟨C36 k, S36 k, Tryz.call36⟩

theorem thicketref22_Dispatcher_Do_ok {w0 w : World} {As : List HP} {k : Nat} {p_d : Nat} {al_d : thicketref22_Dispatcher.A} {d : thicketref22_Dispatcher} {c_ : api_Command} {t : api_Reply × thicketref22_Dispatcher}  (hm : thicketref22_Dispatcher_Do k d c_ = some t) (H : St w0 (thicketref22_Dispatcher.R p_d al_d d :: As) w) :
    CallsR Tryz.prog 36 #[.pointer (some ⟨p_d, 0, none⟩), .agg #[.int .i64 c_.Kind, .int .i64 c_.Queue, .int .i64 c_.Job.At, .int .i64 c_.Job.Gen, .int .i64 c_.Time, .int .i64 c_.Data]] w fun v w' => ∃ (z_d_Pool_a : thicketref2_Pool.A), ∃ (z_d_L_b : Option Addr), ∃ (z_d_L_c : Nat), v = .agg #[.int .i64 t.1.Why, .int .i64 t.1.Job.At, .int .i64 t.1.Job.Gen, .int .i64 t.1.Time, .int .i64 t.1.Data, .int .i64 t.1.N] ∧ St w0 (thicketref22_Dispatcher.R p_d (thicketref22_Dispatcher.A.mk al_d.Pool_p z_d_Pool_a z_d_L_b z_d_L_c) t.2 :: As) w' := by
  replace H := (fs0 fun As => thicketref22_Dispatcher.D_st).1 H
  refine (S36 k ((p_d, al_d, d), c_, ()) t hm w0 w (As) rd0 H).mono ?_
  rintro v w' ⟨ns, as_, hn, ha, hv, H, hfx⟩
  obtain ⟨n0, ns0, rfl, hn0⟩ := lsS hn
  obtain ⟨n1, ns1, rfl, hn1⟩ := lsS hn0
  obtain ⟨n2, ns2, rfl, hn2⟩ := lsS hn1
  obtain ⟨n3, ns3, rfl, hn3⟩ := lsS hn2
  obtain ⟨n4, ns4, rfl, hn4⟩ := lsS hn3
  obtain rfl := ls0 hn4
  obtain ⟨a0, as0, rfl, ha0⟩ := lsS ha
  obtain ⟨a1, as1, rfl, ha1⟩ := lsS ha0
  obtain ⟨a2, as2, rfl, ha2⟩ := lsS ha1
  obtain ⟨a3, as3, rfl, ha3⟩ := lsS ha2
  obtain ⟨a4, as4, rfl, ha4⟩ := lsS ha3
  obtain rfl := ls0 ha4
  refine ⟨(thicketref2_Pool.A.mk a0 n0 a1 n1 a2 n2 a3 n3), a4, n4, hv, ?_⟩
  refine (fs0 fun As => thicketref22_Dispatcher.D_st).2 ?_
  exact H

noncomputable abbrev C23p : List (PK El) := [pO dispatch_Dispatcher.D]
noncomputable def C23 : Con El := mkCon 23 C23p (fun i_ => dispatch_Dispatcher_Last i_.1.2.2) 0 0 (fun i_ t ns_ as_ => .int .i64 t) (fun i_ t ns_ as_ => dispatch_Dispatcher.D.flat i_.1.1 i_.1.2.1 i_.1.2.2)

theorem S23 : (C23).Sound Tryz.prog :=
  fn_sound mixed (C23) (n := 7) (rs := rsOf Tryz.prog 23) [] [0, 1, 2, 3, 4, 5, 6, 7, 8, 9, 10, 11, 12, 13, 14, 15, 16, 17, 18, 19, 20, 21] (gj (gI 2) []) (fun i => (.s (.seg 1 []) (.s (.seg 5 [.C 0 11]) .ret))) Tryz.func23 rfl rfl (by kernel_rfl) (fun _ => rfl) (fun i => by kernel_rfl) (fun i s => by kernel_rfl)

noncomputable def K23 : SCon El Tryz.prog := ⟨C23, S23, Tryz.call23⟩

theorem dispatch_Dispatcher_Last_ok {w0 w : World} {As : List HP} {p_d : Nat} {al_d : dispatch_Dispatcher.A} {d : dispatch_Dispatcher} {t : Int}  (hm : dispatch_Dispatcher_Last d = some t) (H : St w0 (dispatch_Dispatcher.R p_d al_d d :: As) w) :
    CallsR Tryz.prog 23 #[.pointer (some ⟨p_d, 0, none⟩)] w fun v w' => v = .int .i64 t ∧ St w0 (dispatch_Dispatcher.R p_d al_d d :: As) w' := by
  replace H := (fs0 fun As => dispatch_Dispatcher.D_st).1 H
  refine (S23 ((p_d, al_d, d), ()) t hm w0 w (As) rd0 H).mono ?_
  rintro v w' ⟨ns, as_, hn, ha, hv, H, hfx⟩
  obtain rfl := ls0 hn
  obtain rfl := ls0 ha
  refine ⟨hv, ?_⟩
  refine (fs0 fun As => dispatch_Dispatcher.D_st).2 ?_
  exact H

noncomputable abbrev C16p : List (PK El) := [pO dispatch_Dispatcher.D]
noncomputable def C16 : Con El := mkCon 16 C16p (fun i_ => dispatch_Dispatcher_Most i_.1.2.2) 0 0 (fun i_ t ns_ as_ => .int .i64 t) (fun i_ t ns_ as_ => dispatch_Dispatcher.D.flat i_.1.1 i_.1.2.1 i_.1.2.2)

theorem S16 : (C16).Sound Tryz.prog :=
  fn_sound mixed (C16) (n := 7) (rs := rsOf Tryz.prog 16) [] [0, 1, 2, 3, 4, 5, 6, 7, 8, 9, 10, 11, 12, 13, 14, 15, 16, 17, 18, 19, 20, 21] (gj (gI 2) []) (fun i => (.s (.seg 1 []) (.s (.seg 5 [.C 0 12]) .ret))) Tryz.func16 rfl rfl (by kernel_rfl) (fun _ => rfl) (fun i => by kernel_rfl) (fun i s => by kernel_rfl)

noncomputable def K16 : SCon El Tryz.prog := ⟨C16, S16, Tryz.call16⟩

theorem dispatch_Dispatcher_Most_ok {w0 w : World} {As : List HP} {p_d : Nat} {al_d : dispatch_Dispatcher.A} {d : dispatch_Dispatcher} {t : Int}  (hm : dispatch_Dispatcher_Most d = some t) (H : St w0 (dispatch_Dispatcher.R p_d al_d d :: As) w) :
    CallsR Tryz.prog 16 #[.pointer (some ⟨p_d, 0, none⟩)] w fun v w' => v = .int .i64 t ∧ St w0 (dispatch_Dispatcher.R p_d al_d d :: As) w' := by
  replace H := (fs0 fun As => dispatch_Dispatcher.D_st).1 H
  refine (S16 ((p_d, al_d, d), ()) t hm w0 w (As) rd0 H).mono ?_
  rintro v w' ⟨ns, as_, hn, ha, hv, H, hfx⟩
  obtain rfl := ls0 hn
  obtain rfl := ls0 ha
  refine ⟨hv, ?_⟩
  refine (fs0 fun As => dispatch_Dispatcher.D_st).2 ?_
  exact H

noncomputable abbrev C22p : List (PK El) := [pO dispatch_Dispatcher.D]
noncomputable def C22 : Con El := mkCon 22 C22p (fun i_ => dispatch_Dispatcher_Now i_.1.2.2) 0 0 (fun i_ t ns_ as_ => .int .i64 t) (fun i_ t ns_ as_ => dispatch_Dispatcher.D.flat i_.1.1 i_.1.2.1 i_.1.2.2)

theorem S22 : (C22).Sound Tryz.prog :=
  fn_sound mixed (C22) (n := 8) (rs := rsOf Tryz.prog 22) [] [0, 1, 2, 3, 4, 5, 6, 7, 8, 9, 10, 11, 12, 13, 14, 15, 16, 17, 18, 19, 20, 21] (gj (gI 2) []) (fun i => (.s (.seg 1 []) (.s (.seg 4 [.C 0 9]) (.s (.call K49 [.K 21] [21]) (.s (.seg 1 []) .ret))))) Tryz.func22 rfl rfl (by kernel_rfl) (fun _ => rfl) (fun i => by kernel_rfl) (fun i s => by kernel_rfl)

noncomputable def K22 : SCon El Tryz.prog := ⟨C22, S22, Tryz.call22⟩

theorem dispatch_Dispatcher_Now_ok {w0 w : World} {As : List HP} {p_d : Nat} {al_d : dispatch_Dispatcher.A} {d : dispatch_Dispatcher} {t : Int}  (hm : dispatch_Dispatcher_Now d = some t) (H : St w0 (dispatch_Dispatcher.R p_d al_d d :: As) w) :
    CallsR Tryz.prog 22 #[.pointer (some ⟨p_d, 0, none⟩)] w fun v w' => v = .int .i64 t ∧ St w0 (dispatch_Dispatcher.R p_d al_d d :: As) w' := by
  replace H := (fs0 fun As => dispatch_Dispatcher.D_st).1 H
  refine (S22 ((p_d, al_d, d), ()) t hm w0 w (As) rd0 H).mono ?_
  rintro v w' ⟨ns, as_, hn, ha, hv, H, hfx⟩
  obtain rfl := ls0 hn
  obtain rfl := ls0 ha
  refine ⟨hv, ?_⟩
  refine (fs0 fun As => dispatch_Dispatcher.D_st).2 ?_
  exact H

noncomputable abbrev C17p : List (PK El) := [pO dispatch_Dispatcher.D]
noncomputable def C17 : Con El := mkCon 17 C17p (fun i_ => dispatch_Dispatcher_Len i_.1.2.2) 0 0 (fun i_ t ns_ as_ => .int .i64 t) (fun i_ t ns_ as_ => dispatch_Dispatcher.D.flat i_.1.1 i_.1.2.1 i_.1.2.2)

theorem S17 : (C17).Sound Tryz.prog :=
  fn_sound mixed (C17) (n := 8) (rs := rsOf Tryz.prog 17) [] [0, 1, 2, 3, 4, 5, 6, 7, 8, 9, 10, 11, 12, 13, 14, 15, 16, 17, 18, 19, 20, 21] (gj (gI 2) []) (fun i => (.s (.seg 1 []) (.s (.seg 4 [.C 0 7]) (.s (.call K45 [.K 15, .K 16, .K 17, .K 18, .K 19] [15, 16, 17, 18, 19]) (.s (.seg 1 []) .ret))))) Tryz.func17 rfl rfl (by kernel_rfl) (fun _ => rfl) (fun i => by kernel_rfl) (fun i s => by kernel_rfl)

noncomputable def K17 : SCon El Tryz.prog := ⟨C17, S17, Tryz.call17⟩

theorem dispatch_Dispatcher_Len_ok {w0 w : World} {As : List HP} {p_d : Nat} {al_d : dispatch_Dispatcher.A} {d : dispatch_Dispatcher} {t : Int}  (hm : dispatch_Dispatcher_Len d = some t) (H : St w0 (dispatch_Dispatcher.R p_d al_d d :: As) w) :
    CallsR Tryz.prog 17 #[.pointer (some ⟨p_d, 0, none⟩)] w fun v w' => v = .int .i64 t ∧ St w0 (dispatch_Dispatcher.R p_d al_d d :: As) w' := by
  replace H := (fs0 fun As => dispatch_Dispatcher.D_st).1 H
  refine (S17 ((p_d, al_d, d), ()) t hm w0 w (As) rd0 H).mono ?_
  rintro v w' ⟨ns, as_, hn, ha, hv, H, hfx⟩
  obtain rfl := ls0 hn
  obtain rfl := ls0 ha
  refine ⟨hv, ?_⟩
  refine (fs0 fun As => dispatch_Dispatcher.D_st).2 ?_
  exact H

end Go.Proofs.YteflmnbkdhneiaaGreat
