import Derived.Test.YtlfiboncgkijkaaGreatSp1
set_option linter.unusedVariables false
set_option linter.unusedSimpArgs false
set_option maxRecDepth 10000
set_option maxHeartbeats 4000000
namespace Go.Proofs.YtlfiboncgkijkaaGreat
open Go.Th

theorem node_Below_g72_ok {w0 w : World} {As : List HP} {k : Nat} {p_a_ : Nat} {al_a_ : arena_Arena.A} {a_ : arena_Arena} {sb_first : Option Addr} {sc_first : Nat} {first : List Int} {X_first : HP} {r : Nat} {t : (List Int) × arena_Arena} (hX_first : SlRd X_first ecI 1 sb_first first) (hC_first : first.length ≤ sc_first) (hm : node_Below_g72 k a_ first = some t) (H : St w0 (arena_Arena.R p_a_ al_a_ a_ :: X_first :: Blk r 30 [.pointer (some ⟨p_a_, 0, none⟩)] :: As) w) :
    CallsR Tryz.prog 71 #[.pointer (some ⟨p_a_, 0, none⟩), .slice sb_first first.length sc_first, .func (.func 72) #[] #[.pointer (some ⟨r, 0, none⟩)]] w fun v w' => ∃ (sb0 : Option Addr), ∃ (sc0 : Nat), v = .slice sb0 t.1.length sc0 ∧ St w0 (Sl 3 ecI 1 sb0 sc0 t.1 :: arena_Arena.R p_a_ al_a_ t.2 :: X_first :: Blk r 30 [.pointer (some ⟨p_a_, 0, none⟩)] :: As) w' := by
  rw [node_Below_g72] at hm
  refine enter (args := [.pointer (some ⟨p_a_, 0, none⟩), .slice sb_first first.length sc_first, .func (.func 72) #[] #[.pointer (some ⟨r, 0, none⟩)]]) Tryz.func71 rfl rfl rfl fun a hE => ?_
  refine Runs.seq ?_
  refine Runs.region ?_
  refine WR.seg hE 1 [] [0, 1, 2] (Lo := [(0, .pointer (some ⟨p_a_, 0, none⟩)), (1, .slice sb_first first.length sc_first), (2, .func (.func 72) #[] #[.pointer (some ⟨r, 0, none⟩)])]) (obs := []) rfl (by kernel_rfl) trivial fun a hE => ?_
  refine WR.done rfl ?_
  refine Runs.seq ?_
  refine Runs.region ?_
  refine WR.seg hE 1 [] [0, 1, 2, 11] (Lo := [(0, .pointer (some ⟨p_a_, 0, none⟩)), (1, .slice sb_first first.length sc_first), (2, .func (.func 72) #[] #[.pointer (some ⟨r, 0, none⟩)]), (11, .pointer (some ⟨p_a_, 0, none⟩))]) (obs := []) rfl (by kernel_rfl) trivial fun a hE => ?_
  obtain ⟨t_, et_, hm⟩ := bind_some hm
  refine WR.eff hE rfl rfl rfl rfl (OpTo.fn hE rfl rfl Tryz.call17 (arena_Arena_Cells_ok et_ H)) ?_
  rintro _ w ⟨rfl, H⟩ a hE
  obtain ⟨l, el, hm⟩ := bind_some hm
  refine WR.eff hE rfl rfl rfl rfl (OpTo.make el hE H ecB_ok rfl rfl rfl rfl rfl rfl rfl rfl) ?_
  rintro _ w ⟨r1, rfl, H⟩ a hE
  refine WR.seg hE 4 [] [0, 1, 2, 7] (Lo := [(0, .pointer (some ⟨p_a_, 0, none⟩)), (1, .slice sb_first first.length sc_first), (2, .func (.func 72) #[] #[.pointer (some ⟨r, 0, none⟩)]), (7, .slice (some ⟨r1, 0, none⟩) l.length l.length)]) (obs := []) rfl (by kernel_rfl) trivial fun a hE => ?_
  refine WR.done rfl ?_
  refine Runs.seq ?_
  refine Runs.region ?_
  refine WR.seg hE 1 [] [0, 1, 2, 7, 8] (Lo := [(0, .pointer (some ⟨p_a_, 0, none⟩)), (1, .slice sb_first first.length sc_first), (2, .func (.func 72) #[] #[.pointer (some ⟨r, 0, none⟩)]), (7, .slice (some ⟨r1, 0, none⟩) l.length l.length), (8, .slice none 0 0)]) (obs := []) rfl (by kernel_rfl) trivial fun a hE => ?_
  refine WR.done rfl ?_
  refine Runs.seq ?_
  refine Runs.region ?_
  refine WR.seg hE 1 [] [0, 2, 7, 8, 14] (Lo := [(0, .pointer (some ⟨p_a_, 0, none⟩)), (2, .func (.func 72) #[] #[.pointer (some ⟨r, 0, none⟩)]), (7, .slice (some ⟨r1, 0, none⟩) l.length l.length), (8, .slice none 0 0), (14, .slice sb_first first.length sc_first)]) (obs := []) rfl (by kernel_rfl) trivial fun a hE => ?_
  obtain ⟨t_1, et_1, hm⟩ := bind_some hm
  replace H := H.t2
  refine WR.eff hE rfl rfl rfl rfl (OpTo.fn hE rfl rfl Tryz.call86 (slices_Clone_int_ok (hX_s := hX_first) (hC_s := hC_first) et_1 H)) ?_
  rintro _ w ⟨sb, sc, rfl, H⟩ a hE
  refine WR.seg hE 3 [] [0, 2, 7, 8, 9] (Lo := [(0, .pointer (some ⟨p_a_, 0, none⟩)), (2, .func (.func 72) #[] #[.pointer (some ⟨r, 0, none⟩)]), (7, .slice (some ⟨r1, 0, none⟩) l.length l.length), (8, .slice none 0 0), (9, .slice sb t_1.length sc)]) (obs := []) rfl (by kernel_rfl) trivial fun a hE => ?_
  refine WR.done rfl ?_
  refine Runs.seq ?_
  obtain ⟨s, es, hm⟩ := bind_some hm
  refine Runs.join (fun a w => ∃ (sb3 : Option Addr), ∃ (sc3 : Nat), EnvOk 53 a [(8, .slice sb3 s.1.length sc3)] ∧ St w0 (Sl 3 ecI 1 sb3 sc3 s.1 :: X_first :: arena_Arena.R p_a_ al_a_ s.2 :: Blk r 30 [.pointer (some ⟨p_a_, 0, none⟩)] :: As) w) (fun hk => ?_) ?_
  · replace hm := es; clear es
    replace H := H.slNil 3 ecI 1
    refine Runs.block ?_
    refine Runs.loop (fun m a w => ∃ (out : List Int), ∃ (wait : List Int), ∃ (m_ : List Bool), ∃ (m_1 : arena_Arena), ∃ (sb4 : Option Addr), ∃ (sc4 : Nat), ∃ (sb5 : Option Addr), ∃ (sc5 : Nat), EnvOk 53 a [(0, .pointer (some ⟨p_a_, 0, none⟩)), (2, .func (.func 72) #[] #[.pointer (some ⟨r, 0, none⟩)]), (7, .slice (some ⟨r1, 0, none⟩) m_.length l.length), (8, .slice sb4 out.length sc4), (9, .slice sb5 wait.length sc5)] ∧ St w0 (Sl 3 ecI 1 sb4 sc4 out :: Sl 3 ecI 1 sb5 sc5 wait :: X_first :: Sl 4 ecB 1 (some ⟨r1, 0, none⟩) l.length m_ :: arena_Arena.R p_a_ al_a_ m_1 :: Blk r 30 [.pointer (some ⟨p_a_, 0, none⟩)] :: As) w ∧ node_Below_g72_l0 first m out wait m_ m_1 = some s) k ⟨([] : List Int), t_1, l, a_, none, 0, sb, sc, hE.sel [0, 2, 7, 8, 9] (by kernel_rfl), H.t5.t5.t5.t5.t5.t5, hm⟩ ?_
    rintro m ih a w ⟨out, wait, m_, m_1, sb4, sc4, sb5, sc5, hE, H, hm⟩
    cases m with
    | zero => simp [node_Below_g72_l0] at hm
    | succ m =>
      rw [node_Below_g72_l0] at hm
      refine Runs.seq ?_
      refine Runs.seq ?_
      refine Runs.region ?_
      refine WR.seg hE 3 [] [0, 2, 7, 8, 9, 18] (Lo := [(0, .pointer (some ⟨p_a_, 0, none⟩)), (2, .func (.func 72) #[] #[.pointer (some ⟨r, 0, none⟩)]), (7, .slice (some ⟨r1, 0, none⟩) m_.length l.length), (8, .slice sb4 out.length sc4), (9, .slice sb5 wait.length sc5), (18, .bool (decide ((wait.length : Int) > 0)))]) (obs := []) rfl (by kernel_rfl) trivial fun a hE => ?_
      refine WR.done rfl ?_
      refine Runs.cond hE rfl (fun c => ?_) (fun c => ?_)
      · replace hm := cond_t c hm
        refine Runs.skip ?_
        refine Runs.block ?_
        refine Runs.seq ?_
        refine Runs.region ?_
        obtain ⟨x, ex, hm⟩ := bind_some hm
        obtain ⟨b, o, hs, hb⟩ := SlRd.base (sl_rd 3 ecI 1 _ _ _) ecI_ok H 1 rfl ex
        refine WR.seg hE 7 [.pointer (some ⟨b, o, none⟩), .int .i64 x] [0, 2, 7, 8, 9, 10] (Lo := [(0, .pointer (some ⟨p_a_, 0, none⟩)), (2, .func (.func 72) #[] #[.pointer (some ⟨r, 0, none⟩)]), (7, .slice (some ⟨r1, 0, none⟩) m_.length l.length), (8, .slice sb4 out.length sc4), (9, .slice sb5 wait.length sc5), (10, .int .i64 x)]) (obs := [.p ((sb5 : Option Addr) = some ⟨b, o, none⟩), .p (0 ≤ ((w64 ((wait.length : Int) - 1)) : Int) ∧ ((w64 ((wait.length : Int) - 1)) : Int) < ((wait.length : Nat) : Int)), .cell ⟨b, o + (Int.toNat (w64 ((wait.length : Int) - 1))) * 1, none⟩ (.int .i64 x)]) rfl (by kernel_rfl) ⟨hs, hb, SlRd.cells (sl_rd 3 ecI 1 _ _ _) ecI_ok H 1 rfl hs ex 0 _ rfl, trivial⟩ fun a hE => ?_
        refine WR.done rfl ?_
        refine Runs.seq ?_
        refine Runs.region ?_
        obtain ⟨l2, el2, hm⟩ := bind_some hm
        obtain ⟨sb6, q⟩ : ∃ z, rebase sb5 sc5 (Int.toNat 0) 1 = z := ⟨_, rfl⟩
        obtain ⟨sc6, q1⟩ : ∃ z, sc5 - (Int.toNat 0) = z := ⟨_, rfl⟩
        refine WR.seg hE 6 [.slice sb6 l2.length sc6] [0, 2, 7, 8, 9, 10] (Lo := [(0, .pointer (some ⟨p_a_, 0, none⟩)), (2, .func (.func 72) #[] #[.pointer (some ⟨r, 0, none⟩)]), (7, .slice (some ⟨r1, 0, none⟩) m_.length l.length), (8, .slice sb4 out.length sc4), (9, .slice sb6 l2.length sc6), (10, .int .i64 x)]) (obs := [.p (rebase sb5 sc5 0 1 = sb6), .p ((Int.toNat (w64 ((wait.length : Int) - 1))) - 0 = l2.length), .p (sc5 - 0 = sc6), .p (0 ≤ ((w64 ((wait.length : Int) - 1)) : Int) ∧ ((w64 ((wait.length : Int) - 1)) : Int) ≤ ((sc5 : Nat) : Int))]) rfl (by kernel_rfl) ⟨q, cut_len el2, q1, cut_cap el2 (H.slCap 1 rfl).1, trivial⟩ fun a hE => ?_
        refine WR.done rfl ?_
        refine Runs.seq ?_
        refine Runs.seq ?_
        obtain ⟨s1, es1, hm⟩ := bind_some hm
        refine Runs.join (fun a w => EnvOk 53 a [(0, .pointer (some ⟨p_a_, 0, none⟩)), (2, .func (.func 72) #[] #[.pointer (some ⟨r, 0, none⟩)]), (7, .slice (some ⟨r1, 0, none⟩) m_.length l.length), (8, .slice sb4 out.length sc4), (9, .slice sb6 l2.length sc6), (10, .int .i64 x), (39, .bool s1)] ∧ St w0 (Sl 3 ecI 1 sb4 sc4 out :: Sl 3 ecI 1 sb5 sc5 wait :: X_first :: Sl 4 ecB 1 (some ⟨r1, 0, none⟩) l.length m_ :: arena_Arena.R p_a_ al_a_ m_1 :: Blk r 30 [.pointer (some ⟨p_a_, 0, none⟩)] :: As) w) (fun hk => ?_) ?_
        · replace hm := es1; clear es1
          refine Runs.region ?_
          refine WR.seg hE 2 [] [0, 2, 7, 8, 9, 10, 30, 31] (Lo := [(0, .pointer (some ⟨p_a_, 0, none⟩)), (2, .func (.func 72) #[] #[.pointer (some ⟨r, 0, none⟩)]), (7, .slice (some ⟨r1, 0, none⟩) m_.length l.length), (8, .slice sb4 out.length sc4), (9, .slice sb6 l2.length sc6), (10, .int .i64 x), (30, .pointer (some ⟨p_a_, 0, none⟩)), (31, .int .i64 x)]) (obs := []) rfl (by kernel_rfl) trivial fun a hE => ?_
          obtain ⟨t_2, et_2, hm⟩ := bind_some hm
          refine WR.eff hE rfl rfl rfl rfl (OpTo.fn hE rfl rfl Tryz.call44 (arena_Arena_Live_ok et_2 H.t4)) ?_
          rintro _ w ⟨rfl, H⟩ a hE
          refine WR.seg hE 5 [] [0, 2, 7, 8, 9, 10, 34] (Lo := [(0, .pointer (some ⟨p_a_, 0, none⟩)), (2, .func (.func 72) #[] #[.pointer (some ⟨r, 0, none⟩)]), (7, .slice (some ⟨r1, 0, none⟩) m_.length l.length), (8, .slice sb4 out.length sc4), (9, .slice sb6 l2.length sc6), (10, .int .i64 x), (34, .bool (!t_2))]) (obs := []) rfl (by kernel_rfl) trivial fun a hE => ?_
          rcases Bool.eq_false_or_eq_true (!t_2) with c | c
          · replace hE := hE.dec 34 c (by kernel_rfl)
            replace hm := cond_t c hm
            have c_ := c
            refine WR.seg hE 10 [] [0, 2, 7, 8, 9, 10, 39] (Lo := [(0, .pointer (some ⟨p_a_, 0, none⟩)), (2, .func (.func 72) #[] #[.pointer (some ⟨r, 0, none⟩)]), (7, .slice (some ⟨r1, 0, none⟩) m_.length l.length), (8, .slice sb4 out.length sc4), (9, .slice sb6 l2.length sc6), (10, .int .i64 x), (39, .bool true)]) (obs := []) rfl (by kernel_rfl) trivial fun a hE => ?_
            refine WR.done rfl ?_
            cases hm
            exact hk _ _ ⟨hE.sel [0, 2, 7, 8, 9, 10, 39] (by kernel_rfl), H.t5.t1.t5.t5.t5.t5⟩
          · replace hE := hE.dec 34 c (by kernel_rfl)
            replace hm := cond_f c hm
            have c_1 := c
            obtain ⟨x1, ex1, hm⟩ := bind_some hm
            obtain ⟨b1, o1, hs1, hb1⟩ := SlRd.base (sl_rd 4 ecB 1 _ _ _) ecB_ok H 4 rfl ex1
            refine WR.seg hE 10 [.pointer (some ⟨b1, o1, none⟩), .bool x1] [0, 2, 7, 8, 9, 10, 39] (Lo := [(0, .pointer (some ⟨p_a_, 0, none⟩)), (2, .func (.func 72) #[] #[.pointer (some ⟨r, 0, none⟩)]), (7, .slice (some ⟨r1, 0, none⟩) m_.length l.length), (8, .slice sb4 out.length sc4), (9, .slice sb6 l2.length sc6), (10, .int .i64 x), (39, .bool x1)]) (obs := [.p (((some ⟨r1, 0, none⟩) : Option Addr) = some ⟨b1, o1, none⟩), .p (0 ≤ (x : Int) ∧ (x : Int) < ((m_.length : Nat) : Int)), .cell ⟨b1, o1 + (Int.toNat x) * 1, none⟩ (.bool x1)]) rfl (by kernel_rfl) ⟨hs1, hb1, SlRd.cells (sl_rd 4 ecB 1 _ _ _) ecB_ok H 4 rfl hs1 ex1 0 _ rfl, trivial⟩ fun a hE => ?_
            refine WR.done rfl ?_
            cases hm
            exact hk _ _ ⟨hE.sel [0, 2, 7, 8, 9, 10, 39] (by kernel_rfl), H.t5.t1.t5.t5.t5.t5⟩
        rintro a w ⟨hE, H⟩
        refine Runs.cond hE rfl (fun c => ?_) (fun c => ?_)
        · replace hm := cond_t c hm
          refine Runs.exit rfl ?_
          replace H := H.t1.slCut' ecI_ok el2 q q1
          exact ih m (Nat.lt_succ_self m) _ _ ⟨out, l2, m_, m_1, sb4, sc4, sb6, sc6, hE.sel [0, 2, 7, 8, 9] (by kernel_rfl), H.t5.t5.t5.t5.t4.t5, hm⟩
        · replace hm := cond_f c hm
          refine Runs.skip ?_
          refine Runs.seq ?_
          refine Runs.region ?_
          obtain ⟨x2, ex2, hm⟩ := bind_some hm
          obtain ⟨b2, o2, hs2, hb2⟩ := SlRd.base (sl_rd 4 ecB 1 _ _ _) ecB_ok H 3 rfl ex2
          refine WR.seg hE 3 [.pointer (some ⟨b2, o2, none⟩)] [0, 2, 7, 8, 9, 10, 42] (Lo := [(0, .pointer (some ⟨p_a_, 0, none⟩)), (2, .func (.func 72) #[] #[.pointer (some ⟨r, 0, none⟩)]), (7, .slice (some ⟨r1, 0, none⟩) m_.length l.length), (8, .slice sb4 out.length sc4), (9, .slice sb6 l2.length sc6), (10, .int .i64 x), (42, .pointer (some ⟨b2, o2 + (Int.toNat x) * 1, none⟩))]) (obs := [.p (((some ⟨r1, 0, none⟩) : Option Addr) = some ⟨b2, o2, none⟩), .p (0 ≤ (x : Int) ∧ (x : Int) < ((m_.length : Nat) : Int))]) rfl (by kernel_rfl) ⟨hs2, hb2, trivial⟩ fun a hE => ?_
          refine WR.eff0 hE rfl rfl rfl (OpTo.storeSl (q := 0) (x' := true) hE H.t3 ecB_ok rfl hs2 ex2 rfl rfl rfl rfl rfl (Nat.le_of_ble_eq_true rfl) rfl) ?_
          rintro _ w H a hE
          try rw [← mSet_len m_ x true] at hE
          refine WR.done rfl ?_
          refine Runs.seq ?_
          refine Runs.region ?_
          refine WR.seg hE 2 [] [0, 2, 7, 8, 9, 10, 43, 44] (Lo := [(0, .pointer (some ⟨p_a_, 0, none⟩)), (2, .func (.func 72) #[] #[.pointer (some ⟨r, 0, none⟩)]), (7, .slice (some ⟨r1, 0, none⟩) ((mSet m_ x true).length) l.length), (8, .slice sb4 out.length sc4), (9, .slice sb6 l2.length sc6), (10, .int .i64 x), (43, .slice sb4 out.length sc4), (44, .int .i64 x)]) (obs := []) rfl (by kernel_rfl) trivial fun a hE => ?_
          refine WR.eff hE rfl rfl rfl rfl (OpTo.buildSl (T := 3) hE H ecI_ok ([x] : List Int) rfl (fun _ => by kernel_rfl) rfl rfl rfl) ?_
          rintro _ w ⟨r2, rfl, H⟩ a hE
          obtain ⟨l3, el3, hm⟩ := bind_some hm
          replace H := H.t2
          refine WR.eff hE rfl rfl rfl rfl (OpTo.appendM el3 hE H ecI_ok rfl rfl rfl rfl rfl rfl rfl rfl rfl rfl (SlRd.all (sl_rd 3 ecI 1 _ _ _) ecI_ok H 1 rfl) rfl) ?_
          rintro _ w ⟨sb7, sc7, rfl, H⟩ a hE
          refine WR.seg hE 5 [] [0, 2, 7, 8, 9, 10] (Lo := [(0, .pointer (some ⟨p_a_, 0, none⟩)), (2, .func (.func 72) #[] #[.pointer (some ⟨r, 0, none⟩)]), (7, .slice (some ⟨r1, 0, none⟩) ((mSet m_ x true).length) l.length), (8, .slice sb7 l3.length sc7), (9, .slice sb6 l2.length sc6), (10, .int .i64 x)]) (obs := []) rfl (by kernel_rfl) trivial fun a hE => ?_
          refine WR.done rfl ?_
          refine Runs.region ?_
          refine WR.seg hE 3 [] [0, 2, 7, 8, 9, 47, 48, 49] (Lo := [(0, .pointer (some ⟨p_a_, 0, none⟩)), (2, .func (.func 72) #[] #[.pointer (some ⟨r, 0, none⟩)]), (7, .slice (some ⟨r1, 0, none⟩) ((mSet m_ x true).length) l.length), (8, .slice sb7 l3.length sc7), (9, .slice sb6 l2.length sc6), (47, .slice sb6 l2.length sc6), (48, .func (.func 72) #[] #[.pointer (some ⟨r, 0, none⟩)]), (49, .int .i64 x)]) (obs := []) rfl (by kernel_rfl) trivial fun a hE => ?_
          obtain ⟨t_3, et_3, hm⟩ := bind_some hm
          refine WR.eff hE rfl rfl rfl rfl (OpTo.fv hE rfl rfl rfl Tryz.call72 (trees_Nodes_f1_ok et_3 H.t5.t6)) ?_
          rintro _ w ⟨sb8, sc8, rfl, H⟩ a hE
          replace H := H.t6.slCut' ecI_ok el2 q q1
          obtain ⟨l4, el4, hm⟩ := bind_some hm
          refine WR.eff hE rfl rfl rfl rfl (OpTo.appendM el4 hE H ecI_ok rfl rfl rfl rfl rfl rfl rfl rfl rfl rfl (SlRd.all (sl_rd 3 ecI 1 _ _ _) ecI_ok H 1 rfl) rfl) ?_
          rintro _ w ⟨sb9, sc9, rfl, H⟩ a hE
          refine WR.seg hE 6 [] [0, 2, 7, 8, 9] (Lo := [(0, .pointer (some ⟨p_a_, 0, none⟩)), (2, .func (.func 72) #[] #[.pointer (some ⟨r, 0, none⟩)]), (7, .slice (some ⟨r1, 0, none⟩) ((mSet m_ x true).length) l.length), (8, .slice sb7 l3.length sc7), (9, .slice sb9 l4.length sc9)]) (obs := []) rfl (by kernel_rfl) trivial fun a hE => ?_
          refine WR.done rfl ?_
          refine Runs.inBlock ?_
          exact ih m (Nat.lt_succ_self m) _ _ ⟨l3, l4, mSet m_ x true, t_3.2, sb7, sc7, sb9, sc9, hE.sel [0, 2, 7, 8, 9] (by kernel_rfl), H.x5.x1.t1.t2.t4.t5.t4.t5, hm⟩
      · replace hm := cond_f c hm
        refine Runs.exit rfl ?_
        cases hm
        exact hk _ _ ⟨sb4, sc4, hE.sel [8] (by kernel_rfl), H.x3.x1.t3.t3.t3.t3⟩
  rintro a w ⟨sb3, sc3, hE, H⟩
  refine Runs.seq ?_
  refine Runs.region ?_
  refine WR.seg hE 2 [] [6] (Lo := [(6, .slice sb3 s.1.length sc3)]) (obs := []) rfl (by kernel_rfl) trivial fun a hE => ?_
  refine WR.done rfl ?_
  refine Runs.ret hE Tryz.func71 rfl rfl ?_
  cases hm
  exact ⟨sb3, sc3, rfl, H.t3.t2.t3.t3⟩

theorem trees_Nodes_ok {w0 w : World} {As : List HP} {k : Nat} {p_a_ : Nat} {al_a_ : arena_Arena.A} {a_ : arena_Arena} {r : Int} {t : (List Int) × arena_Arena}  (hm : trees_Nodes k a_ r = some t) (H : St w0 (arena_Arena.R p_a_ al_a_ a_ :: As) w) :
    CallsR Tryz.prog 50 #[.pointer (some ⟨p_a_, 0, none⟩), .int .i64 r] w fun v w' => ∃ (sb0 : Option Addr), ∃ (sc0 : Nat), v = .slice sb0 t.1.length sc0 ∧ St w0 (Sl 3 ecI 1 sb0 sc0 t.1 :: arena_Arena.R p_a_ al_a_ t.2 :: As) w' := by
  rw [trees_Nodes] at hm
  refine enter (args := [.pointer (some ⟨p_a_, 0, none⟩), .int .i64 r]) Tryz.func50 rfl rfl rfl fun a hE => ?_
  refine Runs.seq ?_
  refine Runs.region ?_
  refine WR.eff hE rfl rfl rfl rfl (OpTo.new hE H [] (.cells #[.pointer (some ⟨p_a_, 0, none⟩)] 30 (0, 0)) (fun r => .pointer (some ⟨r, 0, none⟩)) (obs := []) rfl (fun _ => by kernel_rfl) trivial) ?_
  rintro _ w ⟨r1, rfl, H⟩ a hE
  refine WR.seg hE 2 [] [1, 2] (Lo := [(1, .int .i64 r), (2, .pointer (some ⟨r1, 0, none⟩))]) (obs := []) rfl (by kernel_rfl) trivial fun a hE => ?_
  refine WR.done rfl ?_
  refine Runs.seq ?_
  refine Runs.drawn mixed (by kernel_rfl) ?_
  replace H := H.drew
  refine WQ.seg hE [0, 1, 2, 4] [.pointer (some ⟨p_a_, 0, none⟩), .pointer (some ⟨p_a_, 0, none⟩)] [5, 6, 7, 9] (Lo := [(5, .pointer (some ⟨p_a_, 0, none⟩)), (6, .pointer (some ⟨p_a_, 0, none⟩)), (7, .int .i64 r), (9, .func (.func 72) #[] #[.pointer (some ⟨r1, 0, none⟩)])]) (obs := [.cell ⟨r1, 0, none⟩ (.pointer (some ⟨p_a_, 0, none⟩)), .cell ⟨r1, 0, none⟩ (.pointer (some ⟨p_a_, 0, none⟩))]) (by kernel_rfl) (by kernel_rfl) ⟨H.cell 0 rfl rfl, H.cell 0 rfl rfl, trivial⟩ fun a hE => ?_
  obtain ⟨t_, et_, hm⟩ := bind_some hm
  refine WQ.eff (j := 3) (obs := [.cell ⟨r1, 0, none⟩ (.pointer (some ⟨p_a_, 0, none⟩))]) hE (by kernel_rfl) rfl rfl rfl rfl (by kernel_rfl) (OpTo.fn hE rfl rfl Tryz.call47 (trees_List_ok et_ H.t1)) ?_
  rintro _ w ⟨sb, sc, rfl, H⟩
  refine ⟨⟨H.cell 2 rfl rfl, trivial⟩, fun a hE => ?_⟩
  obtain ⟨t_1, et_1, hm⟩ := bind_some hm
  replace H := H.t2.t1.t2
  refine WQ.eff (j := 5) (obs := []) hE (by kernel_rfl) rfl rfl rfl rfl (by kernel_rfl) (OpTo.fn hE rfl rfl Tryz.call71 (node_Below_g72_ok (hX_first := (sl_rd 3 ecI 1 _ _ _)) (hC_first := (H.slCap 1 rfl).1) et_1 H)) ?_
  rintro _ w ⟨sb1, sc1, rfl, H⟩
  refine ⟨trivial, fun a hE => ?_⟩
  refine WQ.seg hE [6] [] [4] (Lo := [(4, .slice sb1 t_1.1.length sc1)]) (obs := []) (by kernel_rfl) (by kernel_rfl) trivial fun a hE => ?_
  refine WQ.done (by kernel_rfl) ?_
  refine Runs.ret hE Tryz.func50 rfl rfl ?_
  cases hm
  exact ⟨sb1, sc1, rfl, H.x3.x2.t1.t1⟩

theorem slices_Sort_int_ok {w0 w : World} {As : List HP} {sb_s : Option Addr} {sc_s : Nat} {s t : List Int}  (hm : lSort s = some t) (H : St w0 (Sl 3 ecI 1 sb_s sc_s s :: As) w) :
    CallsR Tryz.prog 70 #[.slice sb_s s.length sc_s] w fun v w' => v = .tuple #[] ∧ t.length = s.length ∧ St w0 (Sl 3 ecI 1 sb_s sc_s t :: As) w' := by
  unfold lSort at hm
  split at hm
  case isFalse => cases hm
  rename_i hmx
  cases hm
  have hl : (iSort s).length = s.length := (iSort_perm s).length_eq
  by_cases hs : s.length = 0
  · have e : s = [] := List.eq_nil_of_length_eq_zero hs
    subst e
    refine Calls.mono (Tryz.slices_Sort_int_none sb_s sc_s w) ?_
    rintro e w' ⟨rfl, rfl⟩
    exact ⟨_, rfl, rfl, hl, H⟩
  · obtain ⟨b, off, rfl, hH, hb, hk⟩ := H.sorted hl (by omega)
    have hc := Tryz.slices_Sort_int b off sc_s s w hH hb (by omega)
    refine Calls.mono hc ?_
    rintro e w' ⟨rfl, n, os, rfl⟩
    refine ⟨_, rfl, rfl, hl, ?_⟩
    rw [iSort_merge]
    exact hk n os

theorem node_Items_ok {w0 w : World} {As : List HP} {k : Nat} {p_a_ : Nat} {al_a_ : arena_Arena.A} {a_ : arena_Arena} {sb_l : Option Addr} {sc_l : Nat} {l : List Int} {X_l : HP} {t : (List Int) × arena_Arena} (hX_l : SlRd X_l ecI 1 sb_l l) (hC_l : l.length ≤ sc_l) (hm : node_Items k a_ l = some t) (H : St w0 (arena_Arena.R p_a_ al_a_ a_ :: X_l :: As) w) :
    CallsR Tryz.prog 49 #[.pointer (some ⟨p_a_, 0, none⟩), .slice sb_l l.length sc_l] w fun v w' => ∃ (sb0 : Option Addr), ∃ (sc0 : Nat), v = .slice sb0 t.1.length sc0 ∧ St w0 (Sl 3 ecI 1 sb0 sc0 t.1 :: arena_Arena.R p_a_ al_a_ t.2 :: X_l :: As) w' := by
  rw [node_Items] at hm
  refine enter (args := [.pointer (some ⟨p_a_, 0, none⟩), .slice sb_l l.length sc_l]) Tryz.func49 rfl rfl rfl fun a hE => ?_
  refine Runs.seq ?_
  refine Runs.region ?_
  refine WR.seg hE 1 [] [0, 1] (Lo := [(0, .pointer (some ⟨p_a_, 0, none⟩)), (1, .slice sb_l l.length sc_l)]) (obs := []) rfl (by kernel_rfl) trivial fun a hE => ?_
  refine WR.done rfl ?_
  refine Runs.seq ?_
  refine Runs.region ?_
  refine WR.seg hE 1 [] [0, 1, 5] (Lo := [(0, .pointer (some ⟨p_a_, 0, none⟩)), (1, .slice sb_l l.length sc_l), (5, .slice none 0 0)]) (obs := []) rfl (by kernel_rfl) trivial fun a hE => ?_
  refine WR.done rfl ?_
  refine Runs.seq ?_
  refine Runs.seq ?_
  refine Runs.region ?_
  refine WR.seg hE 3 [] [0, 5, 9, 10, 11] (Lo := [(0, .pointer (some ⟨p_a_, 0, none⟩)), (5, .slice none 0 0), (9, .slice sb_l l.length sc_l), (10, .int .i64 (l.length : Int)), (11, .int .i64 0)]) (obs := []) rfl (by kernel_rfl) trivial fun a hE => ?_
  refine WR.done rfl ?_
  obtain ⟨s, es, hm⟩ := bind_some hm
  refine Runs.join (fun a w => ∃ (sb1 : Option Addr), ∃ (sc1 : Nat), EnvOk 28 a [(5, .slice sb1 s.1.length sc1)] ∧ St w0 (Sl 3 ecI 1 sb1 sc1 s.1 :: arena_Arena.R p_a_ al_a_ s.2 :: X_l :: As) w) (fun hk => ?_) ?_
  · replace hm := es; clear es
    replace H := H.slNil 3 ecI 1
    refine Runs.block ?_
    refine Runs.loop (fun m a w => ∃ (out : List Int), ∃ (x : Int), ∃ (m_ : arena_Arena), ∃ (sb2 : Option Addr), ∃ (sc2 : Nat), EnvOk 28 a [(0, .pointer (some ⟨p_a_, 0, none⟩)), (5, .slice sb2 out.length sc2), (9, .slice sb_l l.length sc_l), (10, .int .i64 (l.length : Int)), (11, .int .i64 x)] ∧ St w0 (Sl 3 ecI 1 sb2 sc2 out :: arena_Arena.R p_a_ al_a_ m_ :: X_l :: As) w ∧ node_Items_l0 (l.length : Int) l m out x m_ = some s) k ⟨([] : List Int), 0, a_, none, 0, hE.sel [0, 5, 9, 10, 11] (by kernel_rfl), H.t2.t2.t2, hm⟩ ?_
    rintro m ih a w ⟨out, x, m_, sb2, sc2, hE, H, hm⟩
    cases m with
    | zero => simp [node_Items_l0] at hm
    | succ m =>
      rw [node_Items_l0] at hm
      refine Runs.seq ?_
      refine Runs.region ?_
      refine WR.seg hE 1 [] [0, 5, 9, 10, 11, 12] (Lo := [(0, .pointer (some ⟨p_a_, 0, none⟩)), (5, .slice sb2 out.length sc2), (9, .slice sb_l l.length sc_l), (10, .int .i64 (l.length : Int)), (11, .int .i64 x), (12, .bool (decide (x < (l.length : Int))))]) (obs := []) rfl (by kernel_rfl) trivial fun a hE => ?_
      refine WR.done rfl ?_
      refine Runs.seq ?_
      refine Runs.cond hE rfl (fun c => ?_) (fun c => ?_)
      · replace hm := cond_t c hm
        refine Runs.skip ?_
        refine Runs.seq ?_
        obtain ⟨s1, es1, hm⟩ := bind_some hm
        refine Runs.join (fun a w => ∃ (sb3 : Option Addr), ∃ (sc3 : Nat), EnvOk 28 a [(0, .pointer (some ⟨p_a_, 0, none⟩)), (5, .slice sb3 s1.1.length sc3), (9, .slice sb_l l.length sc_l), (10, .int .i64 (l.length : Int)), (11, .int .i64 x)] ∧ St w0 (Sl 3 ecI 1 sb3 sc3 s1.1 :: arena_Arena.R p_a_ al_a_ s1.2 :: X_l :: As) w) (fun hk => ?_) ?_
        · replace hm := es1; clear es1
          refine Runs.block ?_
          refine Runs.seq ?_
          refine Runs.region ?_
          obtain ⟨x2, ex2, hm⟩ := bind_some hm
          obtain ⟨b, o, hs, hb⟩ := SlRd.base hX_l ecI_ok H 2 rfl ex2
          refine WR.seg hE 3 [.pointer (some ⟨b, o, none⟩), .int .i64 x2] [0, 5, 7, 9, 10, 11] (Lo := [(0, .pointer (some ⟨p_a_, 0, none⟩)), (5, .slice sb2 out.length sc2), (7, .int .i64 x2), (9, .slice sb_l l.length sc_l), (10, .int .i64 (l.length : Int)), (11, .int .i64 x)]) (obs := [.p ((sb_l : Option Addr) = some ⟨b, o, none⟩), .p (0 ≤ (x : Int) ∧ (x : Int) < ((l.length : Nat) : Int)), .cell ⟨b, o + (Int.toNat x) * 1, none⟩ (.int .i64 x2)]) rfl (by kernel_rfl) ⟨hs, hb, SlRd.cells hX_l ecI_ok H 2 rfl hs ex2 0 _ rfl, trivial⟩ fun a hE => ?_
          refine WR.done rfl ?_
          refine Runs.seq ?_
          refine Runs.region ?_
          refine WR.seg hE 2 [] [0, 5, 9, 10, 11, 15, 16] (Lo := [(0, .pointer (some ⟨p_a_, 0, none⟩)), (5, .slice sb2 out.length sc2), (9, .slice sb_l l.length sc_l), (10, .int .i64 (l.length : Int)), (11, .int .i64 x), (15, .pointer (some ⟨p_a_, 0, none⟩)), (16, .int .i64 x2)]) (obs := []) rfl (by kernel_rfl) trivial fun a hE => ?_
          obtain ⟨t_, et_, hm⟩ := bind_some hm
          refine WR.eff hE rfl rfl rfl rfl (OpTo.fn hE rfl rfl Tryz.call45 (arena_Arena_Cell_ok et_ H.t1)) ?_
          rintro _ w ⟨rfl, H⟩ a hE
          refine WR.seg hE 4 [] [0, 5, 8, 9, 10, 11] (Lo := [(0, .pointer (some ⟨p_a_, 0, none⟩)), (5, .slice sb2 out.length sc2), (8, .int .i64 t_.1), (9, .slice sb_l l.length sc_l), (10, .int .i64 (l.length : Int)), (11, .int .i64 x)]) (obs := []) rfl (by kernel_rfl) trivial fun a hE => ?_
          refine WR.done rfl ?_
          refine Runs.seq ?_
          refine Runs.region ?_
          refine WR.seg hE 2 [] [0, 5, 8, 9, 10, 11, 19] (Lo := [(0, .pointer (some ⟨p_a_, 0, none⟩)), (5, .slice sb2 out.length sc2), (8, .int .i64 t_.1), (9, .slice sb_l l.length sc_l), (10, .int .i64 (l.length : Int)), (11, .int .i64 x), (19, .bool (t_.1 != (-1)))]) (obs := []) rfl (by kernel_rfl) trivial fun a hE => ?_
          refine WR.done rfl ?_
          refine Runs.cond hE rfl (fun c => ?_) (fun c => ?_)
          · replace hm := cond_t c hm
            refine Runs.region ?_
            refine WR.seg hE 2 [] [0, 5, 9, 10, 11, 20, 21] (Lo := [(0, .pointer (some ⟨p_a_, 0, none⟩)), (5, .slice sb2 out.length sc2), (9, .slice sb_l l.length sc_l), (10, .int .i64 (l.length : Int)), (11, .int .i64 x), (20, .slice sb2 out.length sc2), (21, .int .i64 t_.1)]) (obs := []) rfl (by kernel_rfl) trivial fun a hE => ?_
            refine WR.eff hE rfl rfl rfl rfl (OpTo.buildSl (T := 3) hE H ecI_ok ([t_.1] : List Int) rfl (fun _ => by kernel_rfl) rfl rfl rfl) ?_
            rintro _ w ⟨r, rfl, H⟩ a hE
            obtain ⟨l2, el2, hm⟩ := bind_some hm
            replace H := H.t2
            refine WR.eff hE rfl rfl rfl rfl (OpTo.appendM el2 hE H ecI_ok rfl rfl rfl rfl rfl rfl rfl rfl rfl rfl (SlRd.all (sl_rd 3 ecI 1 _ _ _) ecI_ok H 1 rfl) rfl) ?_
            rintro _ w ⟨sb4, sc4, rfl, H⟩ a hE
            refine WR.seg hE 5 [] [0, 5, 9, 10, 11] (Lo := [(0, .pointer (some ⟨p_a_, 0, none⟩)), (5, .slice sb4 l2.length sc4), (9, .slice sb_l l.length sc_l), (10, .int .i64 (l.length : Int)), (11, .int .i64 x)]) (obs := []) rfl (by kernel_rfl) trivial fun a hE => ?_
            refine WR.done rfl ?_
            refine Runs.inBlock ?_
            cases hm
            exact hk _ _ ⟨sb4, sc4, hE.sel [0, 5, 9, 10, 11] (by kernel_rfl), H.x1.t2.t2.t2⟩
          · replace hm := cond_f c hm
            refine Runs.skip ?_
            refine Runs.inBlock ?_
            cases hm
            exact hk _ _ ⟨sb2, sc2, hE.sel [0, 5, 9, 10, 11] (by kernel_rfl), H.t2.t1.t2⟩
        rintro a w ⟨sb3, sc3, hE, H⟩
        refine Runs.region ?_
        refine WR.seg hE 2 [] [0, 5, 9, 10, 11] (Lo := [(0, .pointer (some ⟨p_a_, 0, none⟩)), (5, .slice sb3 s1.1.length sc3), (9, .slice sb_l l.length sc_l), (10, .int .i64 (l.length : Int)), (11, .int .i64 (w64 (x + 1)))]) (obs := []) rfl (by kernel_rfl) trivial fun a hE => ?_
        refine WR.done rfl ?_
        exact ih m (Nat.lt_succ_self m) _ _ ⟨s1.1, w64 (x + 1), s1.2, sb3, sc3, hE.sel [0, 5, 9, 10, 11] (by kernel_rfl), H.t2.t2.t2, hm⟩
      · replace hm := cond_f c hm
        refine Runs.exit rfl ?_
        cases hm
        exact hk _ _ ⟨sb2, sc2, hE.sel [5] (by kernel_rfl), H.t2.t2.t2⟩
  rintro a w ⟨sb1, sc1, hE, H⟩
  refine Runs.seq ?_
  refine Runs.region ?_
  refine WR.seg hE 1 [] [5, 25] (Lo := [(5, .slice sb1 s.1.length sc1), (25, .slice sb1 s.1.length sc1)]) (obs := []) rfl (by kernel_rfl) trivial fun a hE => ?_
  obtain ⟨t_1, et_1, hm⟩ := bind_some hm
  refine WR.eff hE rfl rfl rfl rfl (OpTo.fn hE rfl rfl Tryz.call70 (slices_Sort_int_ok et_1 H)) ?_
  rintro _ w ⟨rfl, hl0, H⟩ a hE
  try rw [← hl0] at hE
  refine WR.done rfl ?_
  refine Runs.seq ?_
  refine Runs.region ?_
  refine WR.seg hE 2 [] [4] (Lo := [(4, .slice sb1 t_1.length sc1)]) (obs := []) rfl (by kernel_rfl) trivial fun a hE => ?_
  refine WR.done rfl ?_
  refine Runs.ret hE Tryz.func49 rfl rfl ?_
  cases hm
  exact ⟨sb1, sc1, rfl, H.t2.t2.t2⟩

theorem skew_All_ok {w0 w : World} {As : List HP} {k : Nat} {p_a_ : Nat} {al_a_ : arena_Arena.A} {a_ : arena_Arena} {r : Int} {t : (List Int) × arena_Arena}  (hm : skew_All k a_ r = some t) (H : St w0 (arena_Arena.R p_a_ al_a_ a_ :: As) w) :
    CallsR Tryz.prog 25 #[.pointer (some ⟨p_a_, 0, none⟩), .int .i64 r] w fun v w' => ∃ (sb0 : Option Addr), ∃ (sc0 : Nat), v = .slice sb0 t.1.length sc0 ∧ St w0 (Sl 3 ecI 1 sb0 sc0 t.1 :: arena_Arena.R p_a_ al_a_ t.2 :: As) w' := by
  rw [skew_All] at hm
  refine enter (args := [.pointer (some ⟨p_a_, 0, none⟩), .int .i64 r]) Tryz.func25 rfl rfl rfl fun a hE => ?_
  refine Runs.seq ?_
  refine Runs.region ?_
  refine WR.seg hE 1 [] [0, 1] (Lo := [(0, .pointer (some ⟨p_a_, 0, none⟩)), (1, .int .i64 r)]) (obs := []) rfl (by kernel_rfl) trivial fun a hE => ?_
  refine WR.done rfl ?_
  refine Runs.seq ?_
  refine Runs.seq ?_
  refine Runs.region ?_
  refine WR.seg hE 2 [] [0, 1, 6] (Lo := [(0, .pointer (some ⟨p_a_, 0, none⟩)), (1, .int .i64 r), (6, .bool false)]) (obs := []) rfl (by kernel_rfl) trivial fun a hE => ?_
  refine WR.done rfl ?_
  refine Runs.condF hE rfl ?_
  refine Runs.skip ?_
  refine Runs.seq ?_
  refine Runs.region ?_
  refine WR.seg hE 3 [] [7, 8, 9] (Lo := [(7, .pointer (some ⟨p_a_, 0, none⟩)), (8, .pointer (some ⟨p_a_, 0, none⟩)), (9, .int .i64 r)]) (obs := []) rfl (by kernel_rfl) trivial fun a hE => ?_
  obtain ⟨t_, et_, hm⟩ := bind_some hm
  refine WR.eff hE rfl rfl rfl rfl (OpTo.fn hE rfl rfl Tryz.call50 (trees_Nodes_ok et_ H)) ?_
  rintro _ w ⟨sb, sc, rfl, H⟩ a hE
  obtain ⟨t_1, et_1, hm⟩ := bind_some hm
  replace H := H.t1
  refine WR.eff hE rfl rfl rfl rfl (OpTo.fn hE rfl rfl Tryz.call49 (node_Items_ok (hX_l := (sl_rd 3 ecI 1 _ _ _)) (hC_l := (H.slCap 1 rfl).1) et_1 H)) ?_
  rintro _ w ⟨sb1, sc1, rfl, H⟩ a hE
  refine WR.seg hE 6 [] [4] (Lo := [(4, .slice sb1 t_1.1.length sc1)]) (obs := []) rfl (by kernel_rfl) trivial fun a hE => ?_
  refine WR.done rfl ?_
  refine Runs.ret hE Tryz.func25 rfl rfl ?_
  cases hm
  exact ⟨sb1, sc1, rfl, H.x2.t1.t1⟩

theorem thicketlaw11_cells_ok {w0 w : World} {As : List HP} {k : Nat} {sb_l : Option Addr} {sc_l : Nat} {l : List thicketlaw11_held} {X_l : HP} {t : (List Int)} (hX_l : SlRd X_l thicketlaw11_held.enc 3 sb_l l) (hC_l : l.length ≤ sc_l) (hm : thicketlaw11_cells k l = some t) (H : St w0 (X_l :: As) w) :
    CallsR Tryz.prog 26 #[.slice sb_l l.length sc_l] w fun v w' => ∃ (sb0 : Option Addr), ∃ (sc0 : Nat), v = .slice sb0 t.length sc0 ∧ St w0 (Sl 3 ecI 1 sb0 sc0 t :: X_l :: As) w' := by
  rw [thicketlaw11_cells] at hm
  refine enter (args := [.slice sb_l l.length sc_l]) Tryz.func26 rfl rfl rfl fun a hE => ?_
  refine Runs.seq ?_
  refine Runs.region ?_
  refine WR.seg hE 1 [] [0] (Lo := [(0, .slice sb_l l.length sc_l)]) (obs := []) rfl (by kernel_rfl) trivial fun a hE => ?_
  refine WR.done rfl ?_
  refine Runs.seq ?_
  refine Runs.region ?_
  refine WR.seg hE 1 [] [0, 3] (Lo := [(0, .slice sb_l l.length sc_l), (3, .slice none 0 0)]) (obs := []) rfl (by kernel_rfl) trivial fun a hE => ?_
  refine WR.done rfl ?_
  refine Runs.seq ?_
  refine Runs.seq ?_
  refine Runs.region ?_
  refine WR.seg hE 1 [] [0, 3, 4] (Lo := [(0, .slice sb_l l.length sc_l), (3, .slice none 0 0), (4, .int .i64 0)]) (obs := []) rfl (by kernel_rfl) trivial fun a hE => ?_
  refine WR.done rfl ?_
  obtain ⟨s, es, hm⟩ := bind_some hm
  refine Runs.join (fun a w => ∃ (sb1 : Option Addr), ∃ (sc1 : Nat), EnvOk 48 a [(3, .slice sb1 s.length sc1)] ∧ St w0 (Sl 3 ecI 1 sb1 sc1 s :: X_l :: As) w) (fun hk => ?_) ?_
  · replace hm := es; clear es
    replace H := H.slNil 3 ecI 1
    refine Runs.block ?_
    refine Runs.loop (fun m a w => ∃ (out : List Int), ∃ (i : Int), ∃ (sb2 : Option Addr), ∃ (sc2 : Nat), EnvOk 48 a [(0, .slice sb_l l.length sc_l), (3, .slice sb2 out.length sc2), (4, .int .i64 i)] ∧ St w0 (Sl 3 ecI 1 sb2 sc2 out :: X_l :: As) w ∧ thicketlaw11_cells_l0 l m out i = some s) k ⟨([] : List Int), 0, none, 0, hE.sel [0, 3, 4] (by kernel_rfl), H.t1.t1, hm⟩ ?_
    rintro m ih a w ⟨out, i, sb2, sc2, hE, H, hm⟩
    cases m with
    | zero => simp [thicketlaw11_cells_l0] at hm
    | succ m =>
      rw [thicketlaw11_cells_l0] at hm
      refine Runs.seq ?_
      refine Runs.seq ?_
      refine Runs.region ?_
      refine WR.seg hE 4 [] [0, 3, 4, 9] (Lo := [(0, .slice sb_l l.length sc_l), (3, .slice sb2 out.length sc2), (4, .int .i64 i), (9, .bool (decide (i < (l.length : Int))))]) (obs := []) rfl (by kernel_rfl) trivial fun a hE => ?_
      refine WR.done rfl ?_
      refine Runs.cond hE rfl (fun c => ?_) (fun c => ?_)
      · replace hm := cond_t c hm
        refine Runs.skip ?_
        refine Runs.seq ?_
        refine Runs.block ?_
        refine Runs.seq ?_
        refine Runs.region ?_
        refine WR.seg hE 3 [] [0, 3, 4, 5] (Lo := [(0, .slice sb_l l.length sc_l), (3, .slice sb2 out.length sc2), (4, .int .i64 i), (5, .int .i64 (out.length : Int))]) (obs := []) rfl (by kernel_rfl) trivial fun a hE => ?_
        refine WR.done rfl ?_
        refine Runs.seq ?_
        obtain ⟨s1, es1, hm⟩ := bind_some hm
        refine Runs.join (fun a w => EnvOk 48 a [(0, .slice sb_l l.length sc_l), (3, .slice sb2 out.length sc2), (4, .int .i64 i), (5, .int .i64 s1)] ∧ St w0 (Sl 3 ecI 1 sb2 sc2 out :: X_l :: As) w) (fun hk => ?_) ?_
        · replace hm := es1; clear es1
          refine Runs.block ?_
          refine Runs.loop (fun m a w => ∃ (k_ : Int), EnvOk 48 a [(0, .slice sb_l l.length sc_l), (3, .slice sb2 out.length sc2), (4, .int .i64 i), (5, .int .i64 k_)] ∧ St w0 (Sl 3 ecI 1 sb2 sc2 out :: X_l :: As) w ∧ thicketlaw11_cells_l1 i out l m k_ = some s1) m ⟨(out.length : Int), hE.sel [0, 3, 4, 5] (by kernel_rfl), H.t1.t1, hm⟩ ?_
          rintro m ih a w ⟨k_, hE, H, hm⟩
          cases m with
          | zero => simp [thicketlaw11_cells_l1] at hm
          | succ m =>
            rw [thicketlaw11_cells_l1] at hm
            refine Runs.seq ?_
            refine Runs.seq ?_
            obtain ⟨s2, es2, hm⟩ := bind_some hm
            refine Runs.join (fun a w => EnvOk 48 a [(0, .slice sb_l l.length sc_l), (3, .slice sb2 out.length sc2), (4, .int .i64 i), (5, .int .i64 k_), (28, .bool s2)] ∧ St w0 (Sl 3 ecI 1 sb2 sc2 out :: X_l :: As) w) (fun hk => ?_) ?_
            · replace hm := es2; clear es2
              refine Runs.drawn mixed (by kernel_rfl) ?_
              replace H := H.drew
              refine WQ.seg hE [0, 1, 2] [] [0, 3, 4, 5, 16] (Lo := [(0, .slice sb_l l.length sc_l), (3, .slice sb2 out.length sc2), (4, .int .i64 i), (5, .int .i64 k_), (16, .bool (decide (k_ > 0)))]) (obs := []) (by kernel_rfl) (by kernel_rfl) trivial fun a hE => ?_
              rcases Bool.eq_false_or_eq_true (decide (k_ > 0)) with c | c
              · replace hE := hE.dec 16 c (by kernel_rfl)
                replace hm := cond_t c hm
                have c_ := c
                obtain ⟨x1, ex1, hm⟩ := bind_some hm
                obtain ⟨b1, o1, hs1, hb1⟩ := SlRd.base (sl_rd 3 ecI 1 _ _ _) ecI_ok H 0 rfl ex1
                obtain ⟨x2, ex2, hm⟩ := bind_some hm
                obtain ⟨b2, o2, hs2, hb2⟩ := SlRd.base hX_l thicketlaw11_held.enc_ok H 1 rfl ex2
                refine WQ.seg hE [3, 4, 5, 6, 7, 8, 9, 10, 11, 12, 13, 14] [.pointer (some ⟨b1, o1, none⟩), .int .i64 x1, .pointer (some ⟨b2, o2, none⟩), .int .i64 x2.cell] [0, 3, 4, 5, 28] (Lo := [(0, .slice sb_l l.length sc_l), (3, .slice sb2 out.length sc2), (4, .int .i64 i), (5, .int .i64 k_), (28, .bool (decide (x1 > x2.cell)))]) (obs := [.p ((sb2 : Option Addr) = some ⟨b1, o1, none⟩), .p (0 ≤ ((w64 (k_ - 1)) : Int) ∧ ((w64 (k_ - 1)) : Int) < ((out.length : Nat) : Int)), .cell ⟨b1, o1 + (Int.toNat (w64 (k_ - 1))) * 1, none⟩ (.int .i64 x1), .p ((sb_l : Option Addr) = some ⟨b2, o2, none⟩), .p (0 ≤ (i : Int) ∧ (i : Int) < ((l.length : Nat) : Int)), .cell ⟨b2, o2 + (Int.toNat i) * 3, none⟩ (.int .i64 x2.cell)]) (by kernel_rfl) (by kernel_rfl) ⟨hs1, hb1, SlRd.cells (sl_rd 3 ecI 1 _ _ _) ecI_ok H 0 rfl hs1 ex1 0 _ rfl, hs2, hb2, SlRd.cells hX_l thicketlaw11_held.enc_ok H 1 rfl hs2 ex2 0 _ rfl, trivial⟩ fun a hE => ?_
                refine WQ.done (by kernel_rfl) ?_
                cases hm
                exact hk _ _ ⟨hE.sel [0, 3, 4, 5, 28] (by kernel_rfl), H.t1.t1⟩
              · replace hE := hE.dec 16 c (by kernel_rfl)
                replace hm := cond_f c hm
                have c_1 := c
                refine WQ.seg hE [3, 4, 5, 6, 7, 8, 9, 10, 11, 12, 13, 14] [] [0, 3, 4, 5, 28] (Lo := [(0, .slice sb_l l.length sc_l), (3, .slice sb2 out.length sc2), (4, .int .i64 i), (5, .int .i64 k_), (28, .bool false)]) (obs := []) (by kernel_rfl) (by kernel_rfl) trivial fun a hE => ?_
                refine WQ.done (by kernel_rfl) ?_
                cases hm
                exact hk _ _ ⟨hE.sel [0, 3, 4, 5, 28] (by kernel_rfl), H.t1.t1⟩
            rintro a w ⟨hE, H⟩
            refine Runs.cond hE rfl (fun c => ?_) (fun c => ?_)
            · replace hm := cond_t c hm
              refine Runs.skip ?_
              refine Runs.block ?_
              refine Runs.region ?_
              refine WR.seg hE 3 [] [0, 3, 4, 5] (Lo := [(0, .slice sb_l l.length sc_l), (3, .slice sb2 out.length sc2), (4, .int .i64 i), (5, .int .i64 (w64 (k_ - 1)))]) (obs := []) rfl (by kernel_rfl) trivial fun a hE => ?_
              refine WR.done rfl ?_
              refine Runs.inBlock ?_
              exact ih m (Nat.lt_succ_self m) _ _ ⟨w64 (k_ - 1), hE.sel [0, 3, 4, 5] (by kernel_rfl), H.t1.t1, hm⟩
            · replace hm := cond_f c hm
              refine Runs.exit rfl ?_
              cases hm
              exact hk _ _ ⟨hE.sel [0, 3, 4, 5] (by kernel_rfl), H.t1.t1⟩
        rintro a w ⟨hE, H⟩
        obtain ⟨l4, el4, hm⟩ := bind_some hm
        obtain ⟨x3, ex3, hm⟩ := bind_some hm
        obtain ⟨l5, el5, hm⟩ := bind_some hm
        obtain ⟨l6, el6, hm⟩ := bind_some hm
        obtain ⟨l7, el7, hm⟩ := bind_some hm
        obtain ⟨l8, el8, hm⟩ := bind_some hm
        refine Runs.join (fun a w => ∃ (sb8 : Option Addr), ∃ (sc8 : Nat), EnvOk 48 a [(0, .slice sb_l l.length sc_l), (3, .slice sb8 l8.length sc8), (4, .int .i64 i)] ∧ St w0 (Sl 3 ecI 1 sb8 sc8 l8 :: X_l :: As) w) (fun hk => ?_) ?_
        ·
          refine Runs.drawn mixed (by kernel_rfl) ?_
          replace H := H.drew
          obtain ⟨sb9, q7⟩ : ∃ z, rebase sb2 sc2 (Int.toNat 0) 1 = z := ⟨_, rfl⟩
          obtain ⟨sc9, q8⟩ : ∃ z, sc2 - (Int.toNat 0) = z := ⟨_, rfl⟩
          obtain ⟨b4, o4, hs4, hb4⟩ := SlRd.base hX_l thicketlaw11_held.enc_ok H 1 rfl ex3
          obtain ⟨sb10, q9⟩ : ∃ z, rebase sb2 sc2 (Int.toNat s1) 1 = z := ⟨_, rfl⟩
          obtain ⟨sc10, q10⟩ : ∃ z, sc2 - (Int.toNat s1) = z := ⟨_, rfl⟩
          refine WQ.seg hE [1, 2, 3, 5, 6, 7, 8, 9, 12, 13, 14] [.slice sb9 l4.length sc9, .pointer (some ⟨b4, o4, none⟩), .int .i64 x3.cell, .slice sb10 l5.length sc10] [0, 3, 4, 34, 40, 45] (Lo := [(0, .slice sb_l l.length sc_l), (3, .slice sb2 out.length sc2), (4, .int .i64 i), (34, .slice sb9 l4.length sc9), (40, .int .i64 x3.cell), (45, .slice sb10 l5.length sc10)]) (obs := [.p (rebase sb2 sc2 0 1 = sb9), .p ((Int.toNat s1) - 0 = l4.length), .p (sc2 - 0 = sc9), .p (0 ≤ (s1 : Int) ∧ (s1 : Int) ≤ ((sc2 : Nat) : Int)), .p ((sb_l : Option Addr) = some ⟨b4, o4, none⟩), .p (0 ≤ (i : Int) ∧ (i : Int) < ((l.length : Nat) : Int)), .cell ⟨b4, o4 + (Int.toNat i) * 3, none⟩ (.int .i64 x3.cell), .p (rebase sb2 sc2 (Int.toNat s1) 1 = sb10), .p (out.length - (Int.toNat s1) = l5.length), .p (sc2 - (Int.toNat s1) = sc10), .p (0 ≤ (s1 : Int) ∧ (s1 : Int) ≤ ((out.length : Nat) : Int))]) (by kernel_rfl) (by kernel_rfl) ⟨q7, cut_len el4, q8, cut_cap el4 (H.slCap 0 rfl).1, hs4, hb4, SlRd.cells hX_l thicketlaw11_held.enc_ok H 1 rfl hs4 ex3 0 _ rfl, q9, cut_len el5, q10, cut_bd0 el5, trivial⟩ fun a hE => ?_
          refine WQ.act2 0 10 (by kernel_rfl) ?_ ?_
          ·
            refine AQ.eff (j := 0) (obs := [.p (rebase sb2 sc2 (Int.toNat s1) 1 = sb10), .p (out.length - (Int.toNat s1) = l5.length), .p (sc2 - (Int.toNat s1) = sc10), .p (0 ≤ (s1 : Int) ∧ (s1 : Int) ≤ ((out.length : Nat) : Int)), .cell ⟨b4, o4 + (Int.toNat i) * 3, none⟩ (.int .i64 x3.cell), .p ((sb_l : Option Addr) = some ⟨b4, o4, none⟩), .p (0 ≤ (i : Int) ∧ (i : Int) < ((l.length : Nat) : Int)), .p (rebase sb2 sc2 0 1 = sb9), .p ((Int.toNat s1) - 0 = l4.length), .p (sc2 - 0 = sc9), .p (0 ≤ (s1 : Int) ∧ (s1 : Int) ≤ ((sc2 : Nat) : Int))]) hE rfl rfl rfl rfl (by kernel_rfl) (OpTo.buildSl (T := 3) hE H ecI_ok ([] : List Int) rfl (fun _ => by kernel_rfl) rfl rfl rfl) ?_
            rintro _ w ⟨r2, rfl, H⟩
            refine ⟨⟨q9, cut_len el5, q10, cut_bd0 el5, SlRd.cells hX_l thicketlaw11_held.enc_ok H 2 rfl hs4 ex3 0 _ rfl, hs4, hb4, q7, cut_len el4, q8, cut_cap el4 (H.slCap 1 rfl).1, trivial⟩, fun a hE => ?_⟩
            refine WQ.act2 4 10 (by kernel_rfl) ?_ ?_
            ·
              refine AQ.eff (j := 4) (obs := [.p (rebase sb2 sc2 (Int.toNat s1) 1 = sb10), .p (out.length - (Int.toNat s1) = l5.length), .p (sc2 - (Int.toNat s1) = sc10), .p (0 ≤ (s1 : Int) ∧ (s1 : Int) ≤ ((out.length : Nat) : Int)), .cell ⟨b4, o4 + (Int.toNat i) * 3, none⟩ (.int .i64 x3.cell), .p ((sb_l : Option Addr) = some ⟨b4, o4, none⟩), .p (0 ≤ (i : Int) ∧ (i : Int) < ((l.length : Nat) : Int))]) hE rfl rfl rfl rfl (by kernel_rfl) (OpTo.appendM el6 hE H ecI_ok rfl rfl rfl rfl rfl rfl rfl rfl rfl rfl (SlRd.all ((sl_rd 3 ecI 1 _ _ _).cut' ecI_ok el4 ((H.slCap 1 rfl).1) q7) ecI_ok H 1 rfl) rfl) ?_
              rintro _ w ⟨sb11, sc11, rfl, H⟩
              refine ⟨⟨q9, cut_len el5, q10, cut_bd0 el5, SlRd.cells hX_l thicketlaw11_held.enc_ok H 2 rfl hs4 ex3 0 _ rfl, hs4, hb4, trivial⟩, fun a hE => ?_⟩
              refine WQ.eff (j := 10) (obs := [.p (rebase sb2 sc2 (Int.toNat s1) 1 = sb10), .p (out.length - (Int.toNat s1) = l5.length), .p (sc2 - (Int.toNat s1) = sc10), .p (0 ≤ (s1 : Int) ∧ (s1 : Int) ≤ ((out.length : Nat) : Int))]) hE (by kernel_rfl) rfl rfl rfl rfl (by kernel_rfl) (OpTo.buildSl (T := 3) hE H ecI_ok ([x3.cell] : List Int) rfl (fun _ => by kernel_rfl) rfl rfl rfl) ?_
              rintro _ w ⟨r3, rfl, H⟩
              refine ⟨⟨q9, cut_len el5, q10, cut_bd0 el5, trivial⟩, fun a hE => ?_⟩
              replace H := H.t1
              refine WQ.eff (j := 11) (obs := [.p (rebase sb2 sc2 (Int.toNat s1) 1 = sb10), .p (out.length - (Int.toNat s1) = l5.length), .p (sc2 - (Int.toNat s1) = sc10), .p (0 ≤ (s1 : Int) ∧ (s1 : Int) ≤ ((out.length : Nat) : Int))]) hE (by kernel_rfl) rfl rfl rfl rfl (by kernel_rfl) (OpTo.appendM el7 hE H ecI_ok rfl rfl rfl rfl rfl rfl rfl rfl rfl rfl (SlRd.all (sl_rd 3 ecI 1 _ _ _) ecI_ok H 1 rfl) rfl) ?_
              rintro _ w ⟨sb12, sc12, rfl, H⟩
              refine ⟨⟨q9, cut_len el5, q10, cut_bd0 el5, trivial⟩, fun a hE => ?_⟩
              refine WQ.eff (j := 15) (obs := []) hE (by kernel_rfl) rfl rfl rfl rfl (by kernel_rfl) (OpTo.appendM el8 hE H ecI_ok rfl rfl rfl rfl rfl rfl rfl rfl rfl rfl (SlRd.all ((sl_rd 3 ecI 1 _ _ _).cut' ecI_ok el5 ((H.slCap 2 rfl).1) q9) ecI_ok H 2 rfl) rfl) ?_
              rintro _ w ⟨sb13, sc13, rfl, H⟩
              refine ⟨trivial, fun a hE => ?_⟩
              refine WQ.seg hE [16] [] [0, 3, 4] (Lo := [(0, .slice sb_l l.length sc_l), (3, .slice sb13 l8.length sc13), (4, .int .i64 i)]) (obs := []) (by kernel_rfl) (by kernel_rfl) trivial fun a hE => ?_
              refine WQ.done (by kernel_rfl) ?_
              exact hk _ _ ⟨sb13, sc13, hE.sel [0, 3, 4] (by kernel_rfl), H.x2.x1.t1.t1⟩
            ·
              refine AQ.eff (j := 10) (obs := [.p (rebase sb2 sc2 (Int.toNat s1) 1 = sb10), .p (out.length - (Int.toNat s1) = l5.length), .p (sc2 - (Int.toNat s1) = sc10), .p (0 ≤ (s1 : Int) ∧ (s1 : Int) ≤ ((out.length : Nat) : Int)), .p (rebase sb2 sc2 0 1 = sb9), .p ((Int.toNat s1) - 0 = l4.length), .p (sc2 - 0 = sc9), .p (0 ≤ (s1 : Int) ∧ (s1 : Int) ≤ ((sc2 : Nat) : Int))]) hE rfl rfl rfl rfl (by kernel_rfl) (OpTo.buildSl (T := 3) hE H ecI_ok ([x3.cell] : List Int) rfl (fun _ => by kernel_rfl) rfl rfl rfl) ?_
              rintro _ w ⟨r4, rfl, H⟩
              refine ⟨⟨q9, cut_len el5, q10, cut_bd0 el5, q7, cut_len el4, q8, cut_cap el4 (H.slCap 2 rfl).1, trivial⟩, fun a hE => ?_⟩
              replace H := H.t1
              refine WQ.eff (j := 4) (obs := [.p (rebase sb2 sc2 (Int.toNat s1) 1 = sb10), .p (out.length - (Int.toNat s1) = l5.length), .p (sc2 - (Int.toNat s1) = sc10), .p (0 ≤ (s1 : Int) ∧ (s1 : Int) ≤ ((out.length : Nat) : Int))]) hE (by kernel_rfl) rfl rfl rfl rfl (by kernel_rfl) (OpTo.appendM el6 hE H ecI_ok rfl rfl rfl rfl rfl rfl rfl rfl rfl rfl (SlRd.all ((sl_rd 3 ecI 1 _ _ _).cut' ecI_ok el4 ((H.slCap 2 rfl).1) q7) ecI_ok H 2 rfl) rfl) ?_
              rintro _ w ⟨sb14, sc14, rfl, H⟩
              refine ⟨⟨q9, cut_len el5, q10, cut_bd0 el5, trivial⟩, fun a hE => ?_⟩
              refine WQ.eff (j := 11) (obs := [.p (rebase sb2 sc2 (Int.toNat s1) 1 = sb10), .p (out.length - (Int.toNat s1) = l5.length), .p (sc2 - (Int.toNat s1) = sc10), .p (0 ≤ (s1 : Int) ∧ (s1 : Int) ≤ ((out.length : Nat) : Int))]) hE (by kernel_rfl) rfl rfl rfl rfl (by kernel_rfl) (OpTo.appendM el7 hE H ecI_ok rfl rfl rfl rfl rfl rfl rfl rfl rfl rfl (SlRd.all (sl_rd 3 ecI 1 _ _ _) ecI_ok H 1 rfl) rfl) ?_
              rintro _ w ⟨sb15, sc15, rfl, H⟩
              refine ⟨⟨q9, cut_len el5, q10, cut_bd0 el5, trivial⟩, fun a hE => ?_⟩
              refine WQ.eff (j := 15) (obs := []) hE (by kernel_rfl) rfl rfl rfl rfl (by kernel_rfl) (OpTo.appendM el8 hE H ecI_ok rfl rfl rfl rfl rfl rfl rfl rfl rfl rfl (SlRd.all ((sl_rd 3 ecI 1 _ _ _).cut' ecI_ok el5 ((H.slCap 2 rfl).1) q9) ecI_ok H 2 rfl) rfl) ?_
              rintro _ w ⟨sb16, sc16, rfl, H⟩
              refine ⟨trivial, fun a hE => ?_⟩
              refine WQ.seg hE [16] [] [0, 3, 4] (Lo := [(0, .slice sb_l l.length sc_l), (3, .slice sb16 l8.length sc16), (4, .int .i64 i)]) (obs := []) (by kernel_rfl) (by kernel_rfl) trivial fun a hE => ?_
              refine WQ.done (by kernel_rfl) ?_
              exact hk _ _ ⟨sb16, sc16, hE.sel [0, 3, 4] (by kernel_rfl), H.x2.x1.t1.t1⟩
          ·
            refine AQ.eff (j := 10) (obs := [.p (rebase sb2 sc2 (Int.toNat s1) 1 = sb10), .p (out.length - (Int.toNat s1) = l5.length), .p (sc2 - (Int.toNat s1) = sc10), .p (0 ≤ (s1 : Int) ∧ (s1 : Int) ≤ ((out.length : Nat) : Int)), .p (rebase sb2 sc2 0 1 = sb9), .p ((Int.toNat s1) - 0 = l4.length), .p (sc2 - 0 = sc9), .p (0 ≤ (s1 : Int) ∧ (s1 : Int) ≤ ((sc2 : Nat) : Int))]) hE rfl rfl rfl rfl (by kernel_rfl) (OpTo.buildSl (T := 3) hE H ecI_ok ([x3.cell] : List Int) rfl (fun _ => by kernel_rfl) rfl rfl rfl) ?_
            rintro _ w ⟨r5, rfl, H⟩
            refine ⟨⟨q9, cut_len el5, q10, cut_bd0 el5, q7, cut_len el4, q8, cut_cap el4 (H.slCap 1 rfl).1, trivial⟩, fun a hE => ?_⟩
            refine WQ.eff (j := 0) (obs := [.p (rebase sb2 sc2 (Int.toNat s1) 1 = sb10), .p (out.length - (Int.toNat s1) = l5.length), .p (sc2 - (Int.toNat s1) = sc10), .p (0 ≤ (s1 : Int) ∧ (s1 : Int) ≤ ((out.length : Nat) : Int)), .p (rebase sb2 sc2 0 1 = sb9), .p ((Int.toNat s1) - 0 = l4.length), .p (sc2 - 0 = sc9), .p (0 ≤ (s1 : Int) ∧ (s1 : Int) ≤ ((sc2 : Nat) : Int))]) hE (by kernel_rfl) rfl rfl rfl rfl (by kernel_rfl) (OpTo.buildSl (T := 3) hE H ecI_ok ([] : List Int) rfl (fun _ => by kernel_rfl) rfl rfl rfl) ?_
            rintro _ w ⟨r6, rfl, H⟩
            refine ⟨⟨q9, cut_len el5, q10, cut_bd0 el5, q7, cut_len el4, q8, cut_cap el4 (H.slCap 2 rfl).1, trivial⟩, fun a hE => ?_⟩
            refine WQ.eff (j := 4) (obs := [.p (rebase sb2 sc2 (Int.toNat s1) 1 = sb10), .p (out.length - (Int.toNat s1) = l5.length), .p (sc2 - (Int.toNat s1) = sc10), .p (0 ≤ (s1 : Int) ∧ (s1 : Int) ≤ ((out.length : Nat) : Int))]) hE (by kernel_rfl) rfl rfl rfl rfl (by kernel_rfl) (OpTo.appendM el6 hE H ecI_ok rfl rfl rfl rfl rfl rfl rfl rfl rfl rfl (SlRd.all ((sl_rd 3 ecI 1 _ _ _).cut' ecI_ok el4 ((H.slCap 2 rfl).1) q7) ecI_ok H 2 rfl) rfl) ?_
            rintro _ w ⟨sb17, sc17, rfl, H⟩
            refine ⟨⟨q9, cut_len el5, q10, cut_bd0 el5, trivial⟩, fun a hE => ?_⟩
            refine WQ.eff (j := 11) (obs := [.p (rebase sb2 sc2 (Int.toNat s1) 1 = sb10), .p (out.length - (Int.toNat s1) = l5.length), .p (sc2 - (Int.toNat s1) = sc10), .p (0 ≤ (s1 : Int) ∧ (s1 : Int) ≤ ((out.length : Nat) : Int))]) hE (by kernel_rfl) rfl rfl rfl rfl (by kernel_rfl) (OpTo.appendM el7 hE H ecI_ok rfl rfl rfl rfl rfl rfl rfl rfl rfl rfl (SlRd.all (sl_rd 3 ecI 1 _ _ _) ecI_ok H 1 rfl) rfl) ?_
            rintro _ w ⟨sb18, sc18, rfl, H⟩
            refine ⟨⟨q9, cut_len el5, q10, cut_bd0 el5, trivial⟩, fun a hE => ?_⟩
            refine WQ.eff (j := 15) (obs := []) hE (by kernel_rfl) rfl rfl rfl rfl (by kernel_rfl) (OpTo.appendM el8 hE H ecI_ok rfl rfl rfl rfl rfl rfl rfl rfl rfl rfl (SlRd.all ((sl_rd 3 ecI 1 _ _ _).cut' ecI_ok el5 ((H.slCap 2 rfl).1) q9) ecI_ok H 2 rfl) rfl) ?_
            rintro _ w ⟨sb19, sc19, rfl, H⟩
            refine ⟨trivial, fun a hE => ?_⟩
            refine WQ.seg hE [16] [] [0, 3, 4] (Lo := [(0, .slice sb_l l.length sc_l), (3, .slice sb19 l8.length sc19), (4, .int .i64 i)]) (obs := []) (by kernel_rfl) (by kernel_rfl) trivial fun a hE => ?_
            refine WQ.done (by kernel_rfl) ?_
            exact hk _ _ ⟨sb19, sc19, hE.sel [0, 3, 4] (by kernel_rfl), H.x2.x1.t1.t1⟩
        rintro a w ⟨sb8, sc8, hE, H⟩
        refine Runs.inBlock ?_
        refine Runs.region ?_
        refine WR.seg hE 3 [] [0, 3, 4] (Lo := [(0, .slice sb_l l.length sc_l), (3, .slice sb8 l8.length sc8), (4, .int .i64 (w64 (i + 1)))]) (obs := []) rfl (by kernel_rfl) trivial fun a hE => ?_
        refine WR.done rfl ?_
        exact ih m (Nat.lt_succ_self m) _ _ ⟨l8, w64 (i + 1), sb8, sc8, hE.sel [0, 3, 4] (by kernel_rfl), H.t1.t1, hm⟩
      · replace hm := cond_f c hm
        refine Runs.exit rfl ?_
        cases hm
        exact hk _ _ ⟨sb2, sc2, hE.sel [3] (by kernel_rfl), H.t1.t1⟩
  rintro a w ⟨sb1, sc1, hE, H⟩
  refine Runs.seq ?_
  refine Runs.region ?_
  refine WR.seg hE 2 [] [2] (Lo := [(2, .slice sb1 s.length sc1)]) (obs := []) rfl (by kernel_rfl) trivial fun a hE => ?_
  refine WR.done rfl ?_
  refine Runs.ret hE Tryz.func26 rfl rfl ?_
  cases hm
  exact ⟨sb1, sc1, rfl, H.t1.t1⟩

theorem thicketbook_Same_int_ok {w0 w : World} {As : List HP} {k : Nat} {sb_a_ : Option Addr} {sc_a_ : Nat} {a_ : List Int} {X_a_ : HP} {sb_b : Option Addr} {sc_b : Nat} {b : List Int} {X_b : HP} {t : Bool} (hX_a_ : SlRd X_a_ ecI 1 sb_a_ a_) (hC_a_ : a_.length ≤ sc_a_) (hX_b : SlRd X_b ecI 1 sb_b b) (hC_b : b.length ≤ sc_b) (hm : thicketbook_Same_int k a_ b = some t) (H : St w0 (X_a_ :: X_b :: As) w) :
    CallsR Tryz.prog 24 #[.slice sb_a_ a_.length sc_a_, .slice sb_b b.length sc_b] w fun v w' => v = .bool t ∧ St w0 (X_a_ :: X_b :: As) w' := by
  rw [thicketbook_Same_int] at hm
  refine enter (args := [.slice sb_a_ a_.length sc_a_, .slice sb_b b.length sc_b]) Tryz.func24 rfl rfl rfl fun a hE => ?_
  refine Runs.seq ?_
  refine Runs.region ?_
  refine WR.seg hE 1 [] [0, 1] (Lo := [(0, .slice sb_a_ a_.length sc_a_), (1, .slice sb_b b.length sc_b)]) (obs := []) rfl (by kernel_rfl) trivial fun a hE => ?_
  refine WR.done rfl ?_
  refine Runs.seq ?_
  refine Runs.seq ?_
  refine Runs.region ?_
  refine WR.seg hE 5 [] [0, 1, 10] (Lo := [(0, .slice sb_a_ a_.length sc_a_), (1, .slice sb_b b.length sc_b), (10, .bool ((a_.length : Int) != (b.length : Int)))]) (obs := []) rfl (by kernel_rfl) trivial fun a hE => ?_
  refine WR.done rfl ?_
  refine Runs.cond hE rfl (fun c => ?_) (fun c => ?_)
  · replace hm := cond_t c hm
    refine Runs.seq ?_
    refine Runs.region ?_
    refine WR.seg hE 1 [] [4] (Lo := [(4, .bool false)]) (obs := []) rfl (by kernel_rfl) trivial fun a hE => ?_
    refine WR.done rfl ?_
    refine Runs.ret hE Tryz.func24 rfl rfl ?_
    cases hm
    exact ⟨rfl, H.t1.t1⟩
  · replace hm := cond_f c hm
    refine Runs.skip ?_
    refine Runs.seq ?_
    refine Runs.seq ?_
    refine Runs.region ?_
    refine WR.seg hE 1 [] [0, 1, 5] (Lo := [(0, .slice sb_a_ a_.length sc_a_), (1, .slice sb_b b.length sc_b), (5, .int .i64 0)]) (obs := []) rfl (by kernel_rfl) trivial fun a hE => ?_
    refine WR.done rfl ?_
    obtain ⟨s, es, hR⟩ := bind_some hm
    refine Runs.join (fun a w => ∃ s1, s = Sum.inr s1 ∧ EnvOk 26 a [] ∧ St w0 (X_a_ :: X_b :: As) w) (fun hk => ?_) ?_
    · replace hm := es; clear es
      refine Runs.block ?_
      refine Runs.loop (fun m a w => ∃ (i : Int), EnvOk 26 a [(0, .slice sb_a_ a_.length sc_a_), (1, .slice sb_b b.length sc_b), (5, .int .i64 i)] ∧ St w0 (X_a_ :: X_b :: As) w ∧ thicketbook_Same_int_l0 a_ b m i = some s) k ⟨0, hE.sel [0, 1, 5] (by kernel_rfl), H.t1.t1, hm⟩ ?_
      rintro m ih a w ⟨i, hE, H, hm⟩
      cases m with
      | zero => simp [thicketbook_Same_int_l0] at hm
      | succ m =>
        rw [thicketbook_Same_int_l0] at hm
        refine Runs.seq ?_
        refine Runs.seq ?_
        refine Runs.region ?_
        refine WR.seg hE 4 [] [0, 1, 5, 14] (Lo := [(0, .slice sb_a_ a_.length sc_a_), (1, .slice sb_b b.length sc_b), (5, .int .i64 i), (14, .bool (decide (i < (a_.length : Int))))]) (obs := []) rfl (by kernel_rfl) trivial fun a hE => ?_
        refine WR.done rfl ?_
        refine Runs.cond hE rfl (fun c => ?_) (fun c => ?_)
        · replace hm := cond_t c hm
          refine Runs.skip ?_
          refine Runs.seq ?_
          refine Runs.block ?_
          refine Runs.seq ?_
          refine Runs.drawn mixed (by kernel_rfl) ?_
          replace H := H.drew
          obtain ⟨x, ex, hm⟩ := bind_some hm
          obtain ⟨b1, o, hs, hb⟩ := SlRd.base hX_a_ ecI_ok H 0 rfl ex
          obtain ⟨x1, ex1, hm⟩ := bind_some hm
          obtain ⟨b2, o1, hs1, hb1⟩ := SlRd.base hX_b ecI_ok H 1 rfl ex1
          refine WQ.seg hE [0, 1, 2, 3, 4, 5, 6, 7, 8] [.pointer (some ⟨b1, o, none⟩), .int .i64 x, .pointer (some ⟨b2, o1, none⟩), .int .i64 x1] [0, 1, 5, 25] (Lo := [(0, .slice sb_a_ a_.length sc_a_), (1, .slice sb_b b.length sc_b), (5, .int .i64 i), (25, .bool (x != x1))]) (obs := [.p ((sb_a_ : Option Addr) = some ⟨b1, o, none⟩), .p (0 ≤ (i : Int) ∧ (i : Int) < ((a_.length : Nat) : Int)), .cell ⟨b1, o + (Int.toNat i) * 1, none⟩ (.int .i64 x), .p ((sb_b : Option Addr) = some ⟨b2, o1, none⟩), .p (0 ≤ (i : Int) ∧ (i : Int) < ((b.length : Nat) : Int)), .cell ⟨b2, o1 + (Int.toNat i) * 1, none⟩ (.int .i64 x1)]) (by kernel_rfl) (by kernel_rfl) ⟨hs, hb, SlRd.cells hX_a_ ecI_ok H 0 rfl hs ex 0 _ rfl, hs1, hb1, SlRd.cells hX_b ecI_ok H 1 rfl hs1 ex1 0 _ rfl, trivial⟩ fun a hE => ?_
          refine WQ.done (by kernel_rfl) ?_
          refine Runs.cond hE rfl (fun c => ?_) (fun c => ?_)
          · replace hm := cond_t c hm
            refine Runs.seq ?_
            refine Runs.region ?_
            refine WR.seg hE 1 [] [4] (Lo := [(4, .bool false)]) (obs := []) rfl (by kernel_rfl) trivial fun a hE => ?_
            refine WR.done rfl ?_
            refine Runs.ret hE Tryz.func24 rfl rfl ?_
            cases hm
            dsimp only at hR; cases hR
            exact ⟨rfl, H.t1.t1⟩
          · replace hm := cond_f c hm
            refine Runs.skip ?_
            refine Runs.inBlock ?_
            refine Runs.region ?_
            refine WR.seg hE 3 [] [0, 1, 5] (Lo := [(0, .slice sb_a_ a_.length sc_a_), (1, .slice sb_b b.length sc_b), (5, .int .i64 (w64 (i + 1)))]) (obs := []) rfl (by kernel_rfl) trivial fun a hE => ?_
            refine WR.done rfl ?_
            exact ih m (Nat.lt_succ_self m) _ _ ⟨w64 (i + 1), hE.sel [0, 1, 5] (by kernel_rfl), H.t1.t1, hm⟩
        · replace hm := cond_f c hm
          refine Runs.exit rfl ?_
          cases hm
          exact hk _ _ ⟨_, rfl, hE.sel [] (by kernel_rfl), H.t1.t1⟩
    rintro a w ⟨s1, rfl, hE, H⟩
    replace hm := hR; dsimp only at hm
    refine Runs.seq ?_
    refine Runs.region ?_
    refine WR.seg hE 1 [] [4] (Lo := [(4, .bool true)]) (obs := []) rfl (by kernel_rfl) trivial fun a hE => ?_
    refine WR.done rfl ?_
    refine Runs.ret hE Tryz.func24 rfl rfl ?_
    cases hm
    exact ⟨rfl, H.t1.t1⟩

theorem thicketlaw11_world_node_at0_ok {w0 w : World} {As : List HP} {k : Nat} {p_w_ : Nat} {al_w_ : thicketlaw11_world.A} {w_ : thicketlaw11_world} {n : Int} {t : thicketlaw11_held × Bool × thicketlaw11_world}  (hm : thicketlaw11_world_node_at0 k w_ n = some t) (H : St w0 (thicketlaw11_world.R p_w_ al_w_ w_ :: As) w) :
    CallsR Tryz.prog 74 #[.pointer (some ⟨p_w_, 0, none⟩), .int .i64 0, .int .i64 n] w fun v w' => v = .tuple #[.agg #[.int .i64 t.1.cell, .int .i64 t.1.e.Key, .int .i64 t.1.e.Serial], .bool t.2.1] ∧ St w0 (thicketlaw11_world.R p_w_ al_w_ t.2.2 :: As) w' := by
  rw [thicketlaw11_world_node_at0] at hm
  refine enter (args := [.pointer (some ⟨p_w_, 0, none⟩), .int .i64 0, .int .i64 n]) Tryz.func74 rfl rfl rfl fun a hE => ?_
  refine Runs.seq ?_
  refine Runs.region ?_
  refine WR.eff hE rfl rfl rfl rfl (OpTo.new hE H [] (.cells #[.int .i64 0, .int .i64 0, .int .i64 0] 48 (0, 0)) (fun r => .pointer (some ⟨r, 0, none⟩)) (obs := []) rfl (fun _ => by kernel_rfl) trivial) ?_
  rintro _ w ⟨r, rfl, H⟩ a hE
  refine WR.seg hE 2 [] [0, 1, 2, 6] (Lo := [(0, .pointer (some ⟨p_w_, 0, none⟩)), (1, .int .i64 0), (2, .int .i64 n), (6, .pointer (some ⟨r, 0, none⟩))]) (obs := []) rfl (by kernel_rfl) trivial fun a hE => ?_
  refine WR.done rfl ?_
  refine Runs.seq ?_
  refine Runs.region ?_
  replace H := thicketlaw11_world.open H.t1
  refine WR.seg hE 5 [.pointer (some ⟨al_w_.a__p, 0, none⟩)] [0, 1, 2, 6, 14, 15] (Lo := [(0, .pointer (some ⟨p_w_, 0, none⟩)), (1, .int .i64 0), (2, .int .i64 n), (6, .pointer (some ⟨r, 0, none⟩)), (14, .pointer (some ⟨al_w_.a__p, 0, none⟩)), (15, .int .i64 n)]) (obs := [.cell ⟨p_w_, 0, none⟩ (.pointer (some ⟨al_w_.a__p, 0, none⟩))]) rfl (by kernel_rfl) ⟨H.cell 0 rfl rfl, trivial⟩ fun a hE => ?_
  obtain ⟨t_, et_, hm⟩ := bind_some hm
  refine WR.eff hE rfl rfl rfl rfl (OpTo.fn hE rfl rfl Tryz.call45 (arena_Arena_Cell_ok et_ H.t1)) ?_
  rintro _ w ⟨rfl, H⟩ a hE
  refine WR.seg hE 7 [] [0, 1, 2, 6, 8] (Lo := [(0, .pointer (some ⟨p_w_, 0, none⟩)), (1, .int .i64 0), (2, .int .i64 n), (6, .pointer (some ⟨r, 0, none⟩)), (8, .int .i64 t_.1)]) (obs := []) rfl (by kernel_rfl) trivial fun a hE => ?_
  refine WR.done rfl ?_
  refine Runs.seq ?_
  refine Runs.seq ?_
  refine Runs.region ?_
  refine WR.seg hE 1 [] [0, 1, 2, 6, 8, 9] (Lo := [(0, .pointer (some ⟨p_w_, 0, none⟩)), (1, .int .i64 0), (2, .int .i64 n), (6, .pointer (some ⟨r, 0, none⟩)), (8, .int .i64 t_.1), (9, .int .i64 0)]) (obs := []) rfl (by kernel_rfl) trivial fun a hE => ?_
  refine WR.done rfl ?_
  replace H := thicketlaw11_world.shut al_w_ (thicketlaw11_world.mk t_.2 w_.root0 w_.root1 w_.has0 w_.has1 w_.next w_.spent w_.most) H.t3.t3.t2.t3
  obtain ⟨s, es, hR⟩ := bind_some hm
  refine Runs.join (fun a w => ∃ s1, s = Sum.inr s1 ∧ EnvOk 62 a [(6, .pointer (some ⟨r, 0, none⟩))] ∧ St w0 (thicketlaw11_world.R p_w_ al_w_ (thicketlaw11_world.mk t_.2 w_.root0 w_.root1 w_.has0 w_.has1 w_.next w_.spent w_.most) :: Blk r 48 [.int .i64 0, .int .i64 0, .int .i64 0] :: As) w) (fun hk => ?_) ?_
  · replace hm := es; clear es
    refine Runs.block ?_
    refine Runs.loop (fun m a w => ∃ (k_ : Int), EnvOk 62 a [(0, .pointer (some ⟨p_w_, 0, none⟩)), (1, .int .i64 0), (2, .int .i64 n), (6, .pointer (some ⟨r, 0, none⟩)), (8, .int .i64 t_.1), (9, .int .i64 k_)] ∧ St w0 (thicketlaw11_world.R p_w_ al_w_ (thicketlaw11_world.mk t_.2 w_.root0 w_.root1 w_.has0 w_.has1 w_.next w_.spent w_.most) :: Blk r 48 [.int .i64 0, .int .i64 0, .int .i64 0] :: As) w ∧ thicketlaw11_world_node_at0_l0 n t_.1 (thicketlaw11_world.mk t_.2 w_.root0 w_.root1 w_.has0 w_.has1 w_.next w_.spent w_.most) m k_ = some s) k ⟨0, hE.sel [0, 1, 2, 6, 8, 9] (by kernel_rfl), H.t1.t1, hm⟩ ?_
    rintro m ih a w ⟨k_, hE, H, hm⟩
    cases m with
    | zero => simp [thicketlaw11_world_node_at0_l0] at hm
    | succ m =>
      rw [thicketlaw11_world_node_at0_l0] at hm
      refine Runs.seq ?_
      refine Runs.seq ?_
      refine Runs.region ?_
      replace H := thicketlaw11_world.open H
      try dsimp only at H
      refine WR.seg hE 9 [.slice al_w_.has0_b w_.has0.length al_w_.has0_c] [0, 1, 2, 6, 8, 9, 25] (Lo := [(0, .pointer (some ⟨p_w_, 0, none⟩)), (1, .int .i64 0), (2, .int .i64 n), (6, .pointer (some ⟨r, 0, none⟩)), (8, .int .i64 t_.1), (9, .int .i64 k_), (25, .bool (decide (k_ < (w_.has0.length : Int))))]) (obs := [.p (0 ≤ (0 : Int) ∧ (0 : Int) < ((2 : Nat) : Int)), .cell ⟨p_w_, 3, none⟩ (.slice al_w_.has0_b w_.has0.length al_w_.has0_c)]) rfl (by kernel_rfl) ⟨⟨by decide, by decide⟩, H.cell 0 rfl rfl, trivial⟩ fun a hE => ?_
      refine WR.done rfl ?_
      refine Runs.cond hE rfl (fun c => ?_) (fun c => ?_)
      · replace hm := cond_t c hm
        refine Runs.skip ?_
        refine Runs.seq ?_
        refine Runs.block ?_
        refine Runs.seq ?_
        refine Runs.region ?_
        obtain ⟨x, ex, hm⟩ := bind_some hm
        obtain ⟨b, o, hs, hb⟩ := SlRd.base (sl_rd 48 thicketlaw11_held.enc 3 _ _ _) thicketlaw11_held.enc_ok H 2 rfl ex
        refine WR.seg hE 9 [.slice al_w_.has0_b w_.has0.length al_w_.has0_c, .pointer (some ⟨b, o, none⟩), .int .i64 x.cell, .int .i64 x.e.Key, .int .i64 x.e.Serial] [0, 1, 2, 6, 8, 9, 36] (Lo := [(0, .pointer (some ⟨p_w_, 0, none⟩)), (1, .int .i64 0), (2, .int .i64 n), (6, .pointer (some ⟨r, 0, none⟩)), (8, .int .i64 t_.1), (9, .int .i64 k_), (36, .agg #[.int .i64 x.cell, .int .i64 x.e.Key, .int .i64 x.e.Serial])]) (obs := [.p (0 ≤ (0 : Int) ∧ (0 : Int) < ((2 : Nat) : Int)), .cell ⟨p_w_, 3, none⟩ (.slice al_w_.has0_b w_.has0.length al_w_.has0_c), .p ((al_w_.has0_b : Option Addr) = some ⟨b, o, none⟩), .p (0 ≤ (k_ : Int) ∧ (k_ : Int) < ((w_.has0.length : Nat) : Int)), .cell ⟨b, o + (Int.toNat k_) * 3, none⟩ (.int .i64 x.cell), .cell ⟨b, o + (Int.toNat k_) * 3 + 1, none⟩ (.int .i64 x.e.Key), .cell ⟨b, o + (Int.toNat k_) * 3 + 2, none⟩ (.int .i64 x.e.Serial)]) rfl (by kernel_rfl) ⟨⟨by decide, by decide⟩, H.cell 0 rfl rfl, hs, hb, SlRd.cells (sl_rd 48 thicketlaw11_held.enc 3 _ _ _) thicketlaw11_held.enc_ok H 2 rfl hs ex 0 _ rfl, SlRd.cells (sl_rd 48 thicketlaw11_held.enc 3 _ _ _) thicketlaw11_held.enc_ok H 2 rfl hs ex 1 _ rfl, SlRd.cells (sl_rd 48 thicketlaw11_held.enc 3 _ _ _) thicketlaw11_held.enc_ok H 2 rfl hs ex 2 _ rfl, trivial⟩ fun a hE => ?_
        refine WR.eff hE rfl rfl rfl rfl (OpTo.new hE H [] (.cells #[.int .i64 0, .int .i64 0, .int .i64 0] 48 (0, 0)) (fun r => .pointer (some ⟨r, 0, none⟩)) (obs := []) rfl (fun _ => by kernel_rfl) trivial) ?_
        rintro _ w ⟨r1, rfl, H⟩ a hE
        refine WR.eff0 hE rfl rfl rfl (OpTo.store hE H rfl rfl rfl rfl rfl rfl (Nat.le_of_ble_eq_true rfl)) ?_
        rintro _ w H a hE
        refine WR.done rfl ?_
        refine Runs.seq ?_
        refine Runs.region ?_
        refine WR.seg hE 4 [.int .i64 x.cell] [0, 1, 2, 6, 8, 9, 10, 40] (Lo := [(0, .pointer (some ⟨p_w_, 0, none⟩)), (1, .int .i64 0), (2, .int .i64 n), (6, .pointer (some ⟨r, 0, none⟩)), (8, .int .i64 t_.1), (9, .int .i64 k_), (10, .pointer (some ⟨r1, 0, none⟩)), (40, .bool (x.cell == t_.1))]) (obs := [.cell ⟨r1, 0, none⟩ (.int .i64 x.cell)]) rfl (by kernel_rfl) ⟨H.cell 0 rfl rfl, trivial⟩ fun a hE => ?_
        refine WR.done rfl ?_
        refine Runs.cond hE rfl (fun c => ?_) (fun c => ?_)
        · replace hm := cond_t c hm
          refine Runs.seq ?_
          replace H := thicketlaw11_world.shut al_w_ (thicketlaw11_world.mk t_.2 w_.root0 w_.root1 w_.has0 w_.has1 w_.next w_.spent w_.most) H.t4.t4.t4.t4
          obtain ⟨s2, es2, hm⟩ := bind_some hm
          refine Runs.join (fun a w => EnvOk 62 a [(6, .pointer (some ⟨r, 0, none⟩)), (7, .bool s2.1)] ∧ St w0 (thicketlaw11_world.R p_w_ al_w_ s2.2.1 :: Blk r 48 [.int .i64 s2.2.2.1, .int .i64 s2.2.2.2.1, .int .i64 s2.2.2.2.2] :: As) w) (fun hk => ?_) ?_
          · replace hm := es2; clear es2
            refine Runs.drawn mixed (by kernel_rfl) ?_
            replace H := H.drew
            replace H := thicketlaw11_world.open H
            try dsimp only at H
            refine WQ.seg hE [0, 1, 2, 3, 4, 5, 7] [.int .i64 x.cell, .int .i64 x.e.Key, .int .i64 x.e.Serial, .pointer (some ⟨al_w_.a__p, 0, none⟩)] [0, 6, 8, 10, 41, 45, 46, 48] (Lo := [(0, .pointer (some ⟨p_w_, 0, none⟩)), (6, .pointer (some ⟨r, 0, none⟩)), (8, .int .i64 t_.1), (10, .pointer (some ⟨r1, 0, none⟩)), (41, .agg #[.int .i64 x.cell, .int .i64 x.e.Key, .int .i64 x.e.Serial]), (45, .pointer (some ⟨al_w_.a__p, 0, none⟩)), (46, .int .i64 t_.1), (48, .int .i64 n)]) (obs := [.cell ⟨r1, 0, none⟩ (.int .i64 x.cell), .cell ⟨r1, 1, none⟩ (.int .i64 x.e.Key), .cell ⟨r1, 2, none⟩ (.int .i64 x.e.Serial), .cell ⟨p_w_, 0, none⟩ (.pointer (some ⟨al_w_.a__p, 0, none⟩))]) (by kernel_rfl) (by kernel_rfl) ⟨H.cell 4 rfl rfl, H.cell 4 rfl rfl, H.cell 4 rfl rfl, H.cell 0 rfl rfl, trivial⟩ fun a hE => ?_
            obtain ⟨t_1, et_1, hm⟩ := bind_some hm
            refine WQ.eff (j := 6) (obs := [.cell ⟨r1, 0, none⟩ (.int .i64 x.cell), .cell ⟨r1, 1, none⟩ (.int .i64 x.e.Key), .cell ⟨r1, 2, none⟩ (.int .i64 x.e.Serial)]) hE (by kernel_rfl) rfl rfl rfl rfl (by kernel_rfl) (OpTo.fn hE rfl rfl Tryz.call45 (arena_Arena_Cell_ok et_1 H.t1)) ?_
            rintro _ w ⟨rfl, H⟩
            refine ⟨⟨H.cell 4 rfl rfl, H.cell 4 rfl rfl, H.cell 4 rfl rfl, trivial⟩, fun a hE => ?_⟩
            refine WQ.seg hE [8, 9] [] [0, 6, 8, 10, 41, 50] (Lo := [(0, .pointer (some ⟨p_w_, 0, none⟩)), (6, .pointer (some ⟨r, 0, none⟩)), (8, .int .i64 t_.1), (10, .pointer (some ⟨r1, 0, none⟩)), (41, .agg #[.int .i64 x.cell, .int .i64 x.e.Key, .int .i64 x.e.Serial]), (50, .bool (t_1.1 == n))]) (obs := []) (by kernel_rfl) (by kernel_rfl) trivial fun a hE => ?_
            rcases Bool.eq_false_or_eq_true (t_1.1 == n) with c | c
            · replace hE := hE.dec 50 c (by kernel_rfl)
              replace hm := cond_t c hm
              have c_ := c
              refine WQ.seg hE [10, 11, 12, 13, 14, 16, 17] [.pointer (some ⟨al_w_.a__p, 0, none⟩), .int .i64 x.e.Key, .int .i64 x.e.Serial] [6, 41, 50, 54, 55, 58] (Lo := [(6, .pointer (some ⟨r, 0, none⟩)), (41, .agg #[.int .i64 x.cell, .int .i64 x.e.Key, .int .i64 x.e.Serial]), (50, .bool true), (54, .pointer (some ⟨al_w_.a__p, 0, none⟩)), (55, .int .i64 t_.1), (58, .agg #[.int .i64 x.e.Key, .int .i64 x.e.Serial])]) (obs := [.cell ⟨p_w_, 0, none⟩ (.pointer (some ⟨al_w_.a__p, 0, none⟩)), .cell ⟨r1, 1, none⟩ (.int .i64 x.e.Key), .cell ⟨r1, 2, none⟩ (.int .i64 x.e.Serial)]) (by kernel_rfl) (by kernel_rfl) ⟨H.cell 1 rfl rfl, H.cell 4 rfl rfl, H.cell 4 rfl rfl, trivial⟩ fun a hE => ?_
              obtain ⟨t_2, et_2, hm⟩ := bind_some hm
              refine WQ.eff (j := 15) (obs := [.cell ⟨r1, 1, none⟩ (.int .i64 x.e.Key), .cell ⟨r1, 2, none⟩ (.int .i64 x.e.Serial), .cell ⟨r1, 0, none⟩ (.int .i64 x.cell), .cell ⟨r1, 1, none⟩ (.int .i64 x.e.Key), .cell ⟨r1, 2, none⟩ (.int .i64 x.e.Serial)]) hE (by kernel_rfl) rfl rfl rfl rfl (by kernel_rfl) (OpTo.fn hE rfl rfl Tryz.call87 (item_Entry_ok et_2 H)) ?_
              rintro _ w ⟨rfl, hf1, hf, H⟩
              refine ⟨⟨H.cell 4 rfl rfl, H.cell 4 rfl rfl, H.cell 4 rfl rfl, H.cell 4 rfl rfl, H.cell 4 rfl rfl, trivial⟩, fun a hE => ?_⟩
              refine WQ.act2 18 20 (by kernel_rfl) ?_ ?_
              ·
                refine AQ.eff (j := 18) (obs := [.cell ⟨r1, 0, none⟩ (.int .i64 x.cell), .cell ⟨r1, 1, none⟩ (.int .i64 x.e.Key), .cell ⟨r1, 2, none⟩ (.int .i64 x.e.Serial)]) hE rfl rfl rfl rfl (by kernel_rfl) (OpTo.eqS hE rfl rfl rfl (by kernel_rfl) (api_Entry.eq_run t_2.1 x.e)) ?_
                rintro _ _ ⟨rfl, rfl⟩
                refine ⟨⟨H.cell 4 rfl rfl, H.cell 4 rfl rfl, H.cell 4 rfl rfl, trivial⟩, fun a hE => ?_⟩
                refine WQ.seg hE [19] [] [6, 41, 60] (Lo := [(6, .pointer (some ⟨r, 0, none⟩)), (41, .agg #[.int .i64 x.cell, .int .i64 x.e.Key, .int .i64 x.e.Serial]), (60, .bool (api_Entry.eq t_2.1 x.e))]) (obs := []) (by kernel_rfl) (by kernel_rfl) trivial fun a hE => ?_
                refine WQ.eff0 (j := 20) (obs := []) hE (by kernel_rfl) rfl rfl rfl (by kernel_rfl) (OpTo.store hE H.t5 rfl rfl rfl rfl rfl rfl (Nat.le_of_ble_eq_true rfl)) ?_
                rintro _ w H
                refine ⟨trivial, fun a hE => ?_⟩
                refine WQ.seg hE [21] [] [6, 7] (Lo := [(6, .pointer (some ⟨r, 0, none⟩)), (7, .bool (api_Entry.eq t_2.1 x.e))]) (obs := []) (by kernel_rfl) (by kernel_rfl) trivial fun a hE => ?_
                refine WQ.done (by kernel_rfl) ?_
                replace H := thicketlaw11_world.shut al_w_ (thicketlaw11_world.mk t_2.2 w_.root0 w_.root1 w_.has0 w_.has1 w_.next w_.spent w_.most) H.t4.t4.t3.t4
                cases hm
                exact hk _ _ ⟨hE.sel [6, 7] (by kernel_rfl), H.x2.t1.t1⟩
              ·
                refine AQ.eff0 (j := 20) (obs := [.cell ⟨r1, 1, none⟩ (.int .i64 x.e.Key), .cell ⟨r1, 2, none⟩ (.int .i64 x.e.Serial)]) hE rfl rfl rfl (by kernel_rfl) (OpTo.store hE H.t5 rfl rfl rfl rfl rfl rfl (Nat.le_of_ble_eq_true rfl)) ?_
                rintro _ w H
                refine ⟨⟨H.cell 5 rfl rfl, H.cell 5 rfl rfl, trivial⟩, fun a hE => ?_⟩
                refine WQ.eff (j := 18) (obs := []) hE (by kernel_rfl) rfl rfl rfl rfl (by kernel_rfl) (OpTo.eqS hE rfl rfl rfl (by kernel_rfl) (api_Entry.eq_run t_2.1 x.e)) ?_
                rintro _ _ ⟨rfl, rfl⟩
                refine ⟨trivial, fun a hE => ?_⟩
                refine WQ.seg hE [19, 21] [] [6, 7] (Lo := [(6, .pointer (some ⟨r, 0, none⟩)), (7, .bool (api_Entry.eq t_2.1 x.e))]) (obs := []) (by kernel_rfl) (by kernel_rfl) trivial fun a hE => ?_
                refine WQ.done (by kernel_rfl) ?_
                replace H := thicketlaw11_world.shut al_w_ (thicketlaw11_world.mk t_2.2 w_.root0 w_.root1 w_.has0 w_.has1 w_.next w_.spent w_.most) H.t4.t4.t3.t4
                cases hm
                exact hk _ _ ⟨hE.sel [6, 7] (by kernel_rfl), H.x2.t1.t1⟩
            · replace hE := hE.dec 50 c (by kernel_rfl)
              replace hm := cond_f c hm
              have c_1 := c
              refine WQ.seg hE [10, 11, 12, 13, 14, 15, 16, 17, 18, 19] [] [6, 41, 60] (Lo := [(6, .pointer (some ⟨r, 0, none⟩)), (41, .agg #[.int .i64 x.cell, .int .i64 x.e.Key, .int .i64 x.e.Serial]), (60, .bool false)]) (obs := []) (by kernel_rfl) (by kernel_rfl) trivial fun a hE => ?_
              refine WQ.eff0 (j := 20) (obs := []) hE (by kernel_rfl) rfl rfl rfl (by kernel_rfl) (OpTo.store hE H.t5 rfl rfl rfl rfl rfl rfl (Nat.le_of_ble_eq_true rfl)) ?_
              rintro _ w H
              refine ⟨trivial, fun a hE => ?_⟩
              refine WQ.seg hE [21] [] [6, 7] (Lo := [(6, .pointer (some ⟨r, 0, none⟩)), (7, .bool false)]) (obs := []) (by kernel_rfl) (by kernel_rfl) trivial fun a hE => ?_
              refine WQ.done (by kernel_rfl) ?_
              replace H := thicketlaw11_world.shut al_w_ (thicketlaw11_world.mk t_1.2 w_.root0 w_.root1 w_.has0 w_.has1 w_.next w_.spent w_.most) H.t4.t4.t3.t4
              cases hm
              exact hk _ _ ⟨hE.sel [6, 7] (by kernel_rfl), H.x2.t1.t1⟩
          rintro a w ⟨hE, H⟩
          refine Runs.retO (vs := [.agg #[.int .i64 s2.2.2.1, .int .i64 s2.2.2.2.1, .int .i64 s2.2.2.2.2], .bool s2.1]) (obs := [.cell ⟨r, 0, none⟩ (.int .i64 s2.2.2.1), .cell ⟨r, 1, none⟩ (.int .i64 s2.2.2.2.1), .cell ⟨r, 2, none⟩ (.int .i64 s2.2.2.2.2)]) hE Tryz.func74 rfl [.int .i64 s2.2.2.1, .int .i64 s2.2.2.2.1, .int .i64 s2.2.2.2.2] (by kernel_rfl) ⟨H.cell 1 rfl rfl, H.cell 1 rfl rfl, H.cell 1 rfl rfl, trivial⟩ ?_
          cases hm
          dsimp only at hR; cases hR
          exact ⟨rfl, H.x1⟩
        · replace hm := cond_f c hm
          refine Runs.skip ?_
          refine Runs.inBlock ?_
          refine Runs.region ?_
          refine WR.seg hE 3 [] [0, 1, 2, 6, 8, 9] (Lo := [(0, .pointer (some ⟨p_w_, 0, none⟩)), (1, .int .i64 0), (2, .int .i64 n), (6, .pointer (some ⟨r, 0, none⟩)), (8, .int .i64 t_.1), (9, .int .i64 (w64 (k_ + 1)))]) (obs := []) rfl (by kernel_rfl) trivial fun a hE => ?_
          refine WR.done rfl ?_
          replace H := thicketlaw11_world.shut al_w_ (thicketlaw11_world.mk t_.2 w_.root0 w_.root1 w_.has0 w_.has1 w_.next w_.spent w_.most) H.t4.t4.t4.t4
          exact ih m (Nat.lt_succ_self m) _ _ ⟨w64 (k_ + 1), hE.sel [0, 1, 2, 6, 8, 9] (by kernel_rfl), H.x1.t1.t1, hm⟩
      · replace hm := cond_f c hm
        refine Runs.exit rfl ?_
        replace H := thicketlaw11_world.shut al_w_ (thicketlaw11_world.mk t_.2 w_.root0 w_.root1 w_.has0 w_.has1 w_.next w_.spent w_.most) H.t3.t3.t3.t3
        cases hm
        exact hk _ _ ⟨_, rfl, hE.sel [6] (by kernel_rfl), H.t1.t1⟩
  rintro a w ⟨s1, rfl, hE, H⟩
  replace hm := hR; dsimp only at hm
  refine Runs.seq ?_
  refine Runs.region ?_
  refine WR.seg hE 1 [] [6, 61] (Lo := [(6, .pointer (some ⟨r, 0, none⟩)), (61, .agg #[.int .i64 0, .int .i64 0, .int .i64 0])]) (obs := []) rfl (by kernel_rfl) trivial fun a hE => ?_
  refine WR.eff0 hE rfl rfl rfl (OpTo.store hE H.t1 rfl rfl rfl rfl rfl rfl (Nat.le_of_ble_eq_true rfl)) ?_
  rintro _ w H a hE
  refine WR.seg hE 3 [] [6, 7] (Lo := [(6, .pointer (some ⟨r, 0, none⟩)), (7, .bool false)]) (obs := []) rfl (by kernel_rfl) trivial fun a hE => ?_
  refine WR.done rfl ?_
  refine Runs.retO (vs := [.agg #[.int .i64 0, .int .i64 0, .int .i64 0], .bool false]) (obs := [.cell ⟨r, 0, none⟩ (.int .i64 0), .cell ⟨r, 1, none⟩ (.int .i64 0), .cell ⟨r, 2, none⟩ (.int .i64 0)]) hE Tryz.func74 rfl [.int .i64 0, .int .i64 0, .int .i64 0] (by kernel_rfl) ⟨H.cell 0 rfl rfl, H.cell 0 rfl rfl, H.cell 0 rfl rfl, trivial⟩ ?_
  cases hm
  exact ⟨rfl, H.x0⟩

theorem thicketlaw11_world_node_at1_ok {w0 w : World} {As : List HP} {k : Nat} {p_w_ : Nat} {al_w_ : thicketlaw11_world.A} {w_ : thicketlaw11_world} {n : Int} {t : thicketlaw11_held × Bool × thicketlaw11_world}  (hm : thicketlaw11_world_node_at1 k w_ n = some t) (H : St w0 (thicketlaw11_world.R p_w_ al_w_ w_ :: As) w) :
    CallsR Tryz.prog 74 #[.pointer (some ⟨p_w_, 0, none⟩), .int .i64 1, .int .i64 n] w fun v w' => v = .tuple #[.agg #[.int .i64 t.1.cell, .int .i64 t.1.e.Key, .int .i64 t.1.e.Serial], .bool t.2.1] ∧ St w0 (thicketlaw11_world.R p_w_ al_w_ t.2.2 :: As) w' := by
  rw [thicketlaw11_world_node_at1] at hm
  refine enter (args := [.pointer (some ⟨p_w_, 0, none⟩), .int .i64 1, .int .i64 n]) Tryz.func74 rfl rfl rfl fun a hE => ?_
  refine Runs.seq ?_
  refine Runs.region ?_
  refine WR.eff hE rfl rfl rfl rfl (OpTo.new hE H [] (.cells #[.int .i64 0, .int .i64 0, .int .i64 0] 48 (0, 0)) (fun r => .pointer (some ⟨r, 0, none⟩)) (obs := []) rfl (fun _ => by kernel_rfl) trivial) ?_
  rintro _ w ⟨r, rfl, H⟩ a hE
  refine WR.seg hE 2 [] [0, 1, 2, 6] (Lo := [(0, .pointer (some ⟨p_w_, 0, none⟩)), (1, .int .i64 1), (2, .int .i64 n), (6, .pointer (some ⟨r, 0, none⟩))]) (obs := []) rfl (by kernel_rfl) trivial fun a hE => ?_
  refine WR.done rfl ?_
  refine Runs.seq ?_
  refine Runs.region ?_
  replace H := thicketlaw11_world.open H.t1
  refine WR.seg hE 5 [.pointer (some ⟨al_w_.a__p, 0, none⟩)] [0, 1, 2, 6, 14, 15] (Lo := [(0, .pointer (some ⟨p_w_, 0, none⟩)), (1, .int .i64 1), (2, .int .i64 n), (6, .pointer (some ⟨r, 0, none⟩)), (14, .pointer (some ⟨al_w_.a__p, 0, none⟩)), (15, .int .i64 n)]) (obs := [.cell ⟨p_w_, 0, none⟩ (.pointer (some ⟨al_w_.a__p, 0, none⟩))]) rfl (by kernel_rfl) ⟨H.cell 0 rfl rfl, trivial⟩ fun a hE => ?_
  obtain ⟨t_, et_, hm⟩ := bind_some hm
  refine WR.eff hE rfl rfl rfl rfl (OpTo.fn hE rfl rfl Tryz.call45 (arena_Arena_Cell_ok et_ H.t1)) ?_
  rintro _ w ⟨rfl, H⟩ a hE
  refine WR.seg hE 7 [] [0, 1, 2, 6, 8] (Lo := [(0, .pointer (some ⟨p_w_, 0, none⟩)), (1, .int .i64 1), (2, .int .i64 n), (6, .pointer (some ⟨r, 0, none⟩)), (8, .int .i64 t_.1)]) (obs := []) rfl (by kernel_rfl) trivial fun a hE => ?_
  refine WR.done rfl ?_
  refine Runs.seq ?_
  refine Runs.seq ?_
  refine Runs.region ?_
  refine WR.seg hE 1 [] [0, 1, 2, 6, 8, 9] (Lo := [(0, .pointer (some ⟨p_w_, 0, none⟩)), (1, .int .i64 1), (2, .int .i64 n), (6, .pointer (some ⟨r, 0, none⟩)), (8, .int .i64 t_.1), (9, .int .i64 0)]) (obs := []) rfl (by kernel_rfl) trivial fun a hE => ?_
  refine WR.done rfl ?_
  replace H := thicketlaw11_world.shut al_w_ (thicketlaw11_world.mk t_.2 w_.root0 w_.root1 w_.has0 w_.has1 w_.next w_.spent w_.most) H.t3.t3.t2.t3
  obtain ⟨s, es, hR⟩ := bind_some hm
  refine Runs.join (fun a w => ∃ s1, s = Sum.inr s1 ∧ EnvOk 62 a [(6, .pointer (some ⟨r, 0, none⟩))] ∧ St w0 (thicketlaw11_world.R p_w_ al_w_ (thicketlaw11_world.mk t_.2 w_.root0 w_.root1 w_.has0 w_.has1 w_.next w_.spent w_.most) :: Blk r 48 [.int .i64 0, .int .i64 0, .int .i64 0] :: As) w) (fun hk => ?_) ?_
  · replace hm := es; clear es
    refine Runs.block ?_
    refine Runs.loop (fun m a w => ∃ (k_ : Int), EnvOk 62 a [(0, .pointer (some ⟨p_w_, 0, none⟩)), (1, .int .i64 1), (2, .int .i64 n), (6, .pointer (some ⟨r, 0, none⟩)), (8, .int .i64 t_.1), (9, .int .i64 k_)] ∧ St w0 (thicketlaw11_world.R p_w_ al_w_ (thicketlaw11_world.mk t_.2 w_.root0 w_.root1 w_.has0 w_.has1 w_.next w_.spent w_.most) :: Blk r 48 [.int .i64 0, .int .i64 0, .int .i64 0] :: As) w ∧ thicketlaw11_world_node_at1_l0 n t_.1 (thicketlaw11_world.mk t_.2 w_.root0 w_.root1 w_.has0 w_.has1 w_.next w_.spent w_.most) m k_ = some s) k ⟨0, hE.sel [0, 1, 2, 6, 8, 9] (by kernel_rfl), H.t1.t1, hm⟩ ?_
    rintro m ih a w ⟨k_, hE, H, hm⟩
    cases m with
    | zero => simp [thicketlaw11_world_node_at1_l0] at hm
    | succ m =>
      rw [thicketlaw11_world_node_at1_l0] at hm
      refine Runs.seq ?_
      refine Runs.seq ?_
      refine Runs.region ?_
      replace H := thicketlaw11_world.open H
      try dsimp only at H
      refine WR.seg hE 9 [.slice al_w_.has1_b w_.has1.length al_w_.has1_c] [0, 1, 2, 6, 8, 9, 25] (Lo := [(0, .pointer (some ⟨p_w_, 0, none⟩)), (1, .int .i64 1), (2, .int .i64 n), (6, .pointer (some ⟨r, 0, none⟩)), (8, .int .i64 t_.1), (9, .int .i64 k_), (25, .bool (decide (k_ < (w_.has1.length : Int))))]) (obs := [.p (0 ≤ (1 : Int) ∧ (1 : Int) < ((2 : Nat) : Int)), .cell ⟨p_w_, 4, none⟩ (.slice al_w_.has1_b w_.has1.length al_w_.has1_c)]) rfl (by kernel_rfl) ⟨⟨by decide, by decide⟩, H.cell 0 rfl rfl, trivial⟩ fun a hE => ?_
      refine WR.done rfl ?_
      refine Runs.cond hE rfl (fun c => ?_) (fun c => ?_)
      · replace hm := cond_t c hm
        refine Runs.skip ?_
        refine Runs.seq ?_
        refine Runs.block ?_
        refine Runs.seq ?_
        refine Runs.region ?_
        obtain ⟨x, ex, hm⟩ := bind_some hm
        obtain ⟨b, o, hs, hb⟩ := SlRd.base (sl_rd 48 thicketlaw11_held.enc 3 _ _ _) thicketlaw11_held.enc_ok H 3 rfl ex
        refine WR.seg hE 9 [.slice al_w_.has1_b w_.has1.length al_w_.has1_c, .pointer (some ⟨b, o, none⟩), .int .i64 x.cell, .int .i64 x.e.Key, .int .i64 x.e.Serial] [0, 1, 2, 6, 8, 9, 36] (Lo := [(0, .pointer (some ⟨p_w_, 0, none⟩)), (1, .int .i64 1), (2, .int .i64 n), (6, .pointer (some ⟨r, 0, none⟩)), (8, .int .i64 t_.1), (9, .int .i64 k_), (36, .agg #[.int .i64 x.cell, .int .i64 x.e.Key, .int .i64 x.e.Serial])]) (obs := [.p (0 ≤ (1 : Int) ∧ (1 : Int) < ((2 : Nat) : Int)), .cell ⟨p_w_, 4, none⟩ (.slice al_w_.has1_b w_.has1.length al_w_.has1_c), .p ((al_w_.has1_b : Option Addr) = some ⟨b, o, none⟩), .p (0 ≤ (k_ : Int) ∧ (k_ : Int) < ((w_.has1.length : Nat) : Int)), .cell ⟨b, o + (Int.toNat k_) * 3, none⟩ (.int .i64 x.cell), .cell ⟨b, o + (Int.toNat k_) * 3 + 1, none⟩ (.int .i64 x.e.Key), .cell ⟨b, o + (Int.toNat k_) * 3 + 2, none⟩ (.int .i64 x.e.Serial)]) rfl (by kernel_rfl) ⟨⟨by decide, by decide⟩, H.cell 0 rfl rfl, hs, hb, SlRd.cells (sl_rd 48 thicketlaw11_held.enc 3 _ _ _) thicketlaw11_held.enc_ok H 3 rfl hs ex 0 _ rfl, SlRd.cells (sl_rd 48 thicketlaw11_held.enc 3 _ _ _) thicketlaw11_held.enc_ok H 3 rfl hs ex 1 _ rfl, SlRd.cells (sl_rd 48 thicketlaw11_held.enc 3 _ _ _) thicketlaw11_held.enc_ok H 3 rfl hs ex 2 _ rfl, trivial⟩ fun a hE => ?_
        refine WR.eff hE rfl rfl rfl rfl (OpTo.new hE H [] (.cells #[.int .i64 0, .int .i64 0, .int .i64 0] 48 (0, 0)) (fun r => .pointer (some ⟨r, 0, none⟩)) (obs := []) rfl (fun _ => by kernel_rfl) trivial) ?_
        rintro _ w ⟨r1, rfl, H⟩ a hE
        refine WR.eff0 hE rfl rfl rfl (OpTo.store hE H rfl rfl rfl rfl rfl rfl (Nat.le_of_ble_eq_true rfl)) ?_
        rintro _ w H a hE
        refine WR.done rfl ?_
        refine Runs.seq ?_
        refine Runs.region ?_
        refine WR.seg hE 4 [.int .i64 x.cell] [0, 1, 2, 6, 8, 9, 10, 40] (Lo := [(0, .pointer (some ⟨p_w_, 0, none⟩)), (1, .int .i64 1), (2, .int .i64 n), (6, .pointer (some ⟨r, 0, none⟩)), (8, .int .i64 t_.1), (9, .int .i64 k_), (10, .pointer (some ⟨r1, 0, none⟩)), (40, .bool (x.cell == t_.1))]) (obs := [.cell ⟨r1, 0, none⟩ (.int .i64 x.cell)]) rfl (by kernel_rfl) ⟨H.cell 0 rfl rfl, trivial⟩ fun a hE => ?_
        refine WR.done rfl ?_
        refine Runs.cond hE rfl (fun c => ?_) (fun c => ?_)
        · replace hm := cond_t c hm
          refine Runs.seq ?_
          replace H := thicketlaw11_world.shut al_w_ (thicketlaw11_world.mk t_.2 w_.root0 w_.root1 w_.has0 w_.has1 w_.next w_.spent w_.most) H.t4.t4.t4.t4
          obtain ⟨s2, es2, hm⟩ := bind_some hm
          refine Runs.join (fun a w => EnvOk 62 a [(6, .pointer (some ⟨r, 0, none⟩)), (7, .bool s2.1)] ∧ St w0 (thicketlaw11_world.R p_w_ al_w_ s2.2.1 :: Blk r 48 [.int .i64 s2.2.2.1, .int .i64 s2.2.2.2.1, .int .i64 s2.2.2.2.2] :: As) w) (fun hk => ?_) ?_
          · replace hm := es2; clear es2
            refine Runs.drawn mixed (by kernel_rfl) ?_
            replace H := H.drew
            replace H := thicketlaw11_world.open H
            try dsimp only at H
            refine WQ.seg hE [0, 1, 2, 3, 4, 5, 7] [.int .i64 x.cell, .int .i64 x.e.Key, .int .i64 x.e.Serial, .pointer (some ⟨al_w_.a__p, 0, none⟩)] [0, 6, 8, 10, 41, 45, 46, 48] (Lo := [(0, .pointer (some ⟨p_w_, 0, none⟩)), (6, .pointer (some ⟨r, 0, none⟩)), (8, .int .i64 t_.1), (10, .pointer (some ⟨r1, 0, none⟩)), (41, .agg #[.int .i64 x.cell, .int .i64 x.e.Key, .int .i64 x.e.Serial]), (45, .pointer (some ⟨al_w_.a__p, 0, none⟩)), (46, .int .i64 t_.1), (48, .int .i64 n)]) (obs := [.cell ⟨r1, 0, none⟩ (.int .i64 x.cell), .cell ⟨r1, 1, none⟩ (.int .i64 x.e.Key), .cell ⟨r1, 2, none⟩ (.int .i64 x.e.Serial), .cell ⟨p_w_, 0, none⟩ (.pointer (some ⟨al_w_.a__p, 0, none⟩))]) (by kernel_rfl) (by kernel_rfl) ⟨H.cell 4 rfl rfl, H.cell 4 rfl rfl, H.cell 4 rfl rfl, H.cell 0 rfl rfl, trivial⟩ fun a hE => ?_
            obtain ⟨t_1, et_1, hm⟩ := bind_some hm
            refine WQ.eff (j := 6) (obs := [.cell ⟨r1, 0, none⟩ (.int .i64 x.cell), .cell ⟨r1, 1, none⟩ (.int .i64 x.e.Key), .cell ⟨r1, 2, none⟩ (.int .i64 x.e.Serial)]) hE (by kernel_rfl) rfl rfl rfl rfl (by kernel_rfl) (OpTo.fn hE rfl rfl Tryz.call45 (arena_Arena_Cell_ok et_1 H.t1)) ?_
            rintro _ w ⟨rfl, H⟩
            refine ⟨⟨H.cell 4 rfl rfl, H.cell 4 rfl rfl, H.cell 4 rfl rfl, trivial⟩, fun a hE => ?_⟩
            refine WQ.seg hE [8, 9] [] [0, 6, 8, 10, 41, 50] (Lo := [(0, .pointer (some ⟨p_w_, 0, none⟩)), (6, .pointer (some ⟨r, 0, none⟩)), (8, .int .i64 t_.1), (10, .pointer (some ⟨r1, 0, none⟩)), (41, .agg #[.int .i64 x.cell, .int .i64 x.e.Key, .int .i64 x.e.Serial]), (50, .bool (t_1.1 == n))]) (obs := []) (by kernel_rfl) (by kernel_rfl) trivial fun a hE => ?_
            rcases Bool.eq_false_or_eq_true (t_1.1 == n) with c | c
            · replace hE := hE.dec 50 c (by kernel_rfl)
              replace hm := cond_t c hm
              have c_ := c
              refine WQ.seg hE [10, 11, 12, 13, 14, 16, 17] [.pointer (some ⟨al_w_.a__p, 0, none⟩), .int .i64 x.e.Key, .int .i64 x.e.Serial] [6, 41, 50, 54, 55, 58] (Lo := [(6, .pointer (some ⟨r, 0, none⟩)), (41, .agg #[.int .i64 x.cell, .int .i64 x.e.Key, .int .i64 x.e.Serial]), (50, .bool true), (54, .pointer (some ⟨al_w_.a__p, 0, none⟩)), (55, .int .i64 t_.1), (58, .agg #[.int .i64 x.e.Key, .int .i64 x.e.Serial])]) (obs := [.cell ⟨p_w_, 0, none⟩ (.pointer (some ⟨al_w_.a__p, 0, none⟩)), .cell ⟨r1, 1, none⟩ (.int .i64 x.e.Key), .cell ⟨r1, 2, none⟩ (.int .i64 x.e.Serial)]) (by kernel_rfl) (by kernel_rfl) ⟨H.cell 1 rfl rfl, H.cell 4 rfl rfl, H.cell 4 rfl rfl, trivial⟩ fun a hE => ?_
              obtain ⟨t_2, et_2, hm⟩ := bind_some hm
              refine WQ.eff (j := 15) (obs := [.cell ⟨r1, 1, none⟩ (.int .i64 x.e.Key), .cell ⟨r1, 2, none⟩ (.int .i64 x.e.Serial), .cell ⟨r1, 0, none⟩ (.int .i64 x.cell), .cell ⟨r1, 1, none⟩ (.int .i64 x.e.Key), .cell ⟨r1, 2, none⟩ (.int .i64 x.e.Serial)]) hE (by kernel_rfl) rfl rfl rfl rfl (by kernel_rfl) (OpTo.fn hE rfl rfl Tryz.call87 (item_Entry_ok et_2 H)) ?_
              rintro _ w ⟨rfl, hf1, hf, H⟩
              refine ⟨⟨H.cell 4 rfl rfl, H.cell 4 rfl rfl, H.cell 4 rfl rfl, H.cell 4 rfl rfl, H.cell 4 rfl rfl, trivial⟩, fun a hE => ?_⟩
              refine WQ.act2 18 20 (by kernel_rfl) ?_ ?_
              ·
                refine AQ.eff (j := 18) (obs := [.cell ⟨r1, 0, none⟩ (.int .i64 x.cell), .cell ⟨r1, 1, none⟩ (.int .i64 x.e.Key), .cell ⟨r1, 2, none⟩ (.int .i64 x.e.Serial)]) hE rfl rfl rfl rfl (by kernel_rfl) (OpTo.eqS hE rfl rfl rfl (by kernel_rfl) (api_Entry.eq_run t_2.1 x.e)) ?_
                rintro _ _ ⟨rfl, rfl⟩
                refine ⟨⟨H.cell 4 rfl rfl, H.cell 4 rfl rfl, H.cell 4 rfl rfl, trivial⟩, fun a hE => ?_⟩
                refine WQ.seg hE [19] [] [6, 41, 60] (Lo := [(6, .pointer (some ⟨r, 0, none⟩)), (41, .agg #[.int .i64 x.cell, .int .i64 x.e.Key, .int .i64 x.e.Serial]), (60, .bool (api_Entry.eq t_2.1 x.e))]) (obs := []) (by kernel_rfl) (by kernel_rfl) trivial fun a hE => ?_
                refine WQ.eff0 (j := 20) (obs := []) hE (by kernel_rfl) rfl rfl rfl (by kernel_rfl) (OpTo.store hE H.t5 rfl rfl rfl rfl rfl rfl (Nat.le_of_ble_eq_true rfl)) ?_
                rintro _ w H
                refine ⟨trivial, fun a hE => ?_⟩
                refine WQ.seg hE [21] [] [6, 7] (Lo := [(6, .pointer (some ⟨r, 0, none⟩)), (7, .bool (api_Entry.eq t_2.1 x.e))]) (obs := []) (by kernel_rfl) (by kernel_rfl) trivial fun a hE => ?_
                refine WQ.done (by kernel_rfl) ?_
                replace H := thicketlaw11_world.shut al_w_ (thicketlaw11_world.mk t_2.2 w_.root0 w_.root1 w_.has0 w_.has1 w_.next w_.spent w_.most) H.t4.t4.t3.t4
                cases hm
                exact hk _ _ ⟨hE.sel [6, 7] (by kernel_rfl), H.x2.t1.t1⟩
              ·
                refine AQ.eff0 (j := 20) (obs := [.cell ⟨r1, 1, none⟩ (.int .i64 x.e.Key), .cell ⟨r1, 2, none⟩ (.int .i64 x.e.Serial)]) hE rfl rfl rfl (by kernel_rfl) (OpTo.store hE H.t5 rfl rfl rfl rfl rfl rfl (Nat.le_of_ble_eq_true rfl)) ?_
                rintro _ w H
                refine ⟨⟨H.cell 5 rfl rfl, H.cell 5 rfl rfl, trivial⟩, fun a hE => ?_⟩
                refine WQ.eff (j := 18) (obs := []) hE (by kernel_rfl) rfl rfl rfl rfl (by kernel_rfl) (OpTo.eqS hE rfl rfl rfl (by kernel_rfl) (api_Entry.eq_run t_2.1 x.e)) ?_
                rintro _ _ ⟨rfl, rfl⟩
                refine ⟨trivial, fun a hE => ?_⟩
                refine WQ.seg hE [19, 21] [] [6, 7] (Lo := [(6, .pointer (some ⟨r, 0, none⟩)), (7, .bool (api_Entry.eq t_2.1 x.e))]) (obs := []) (by kernel_rfl) (by kernel_rfl) trivial fun a hE => ?_
                refine WQ.done (by kernel_rfl) ?_
                replace H := thicketlaw11_world.shut al_w_ (thicketlaw11_world.mk t_2.2 w_.root0 w_.root1 w_.has0 w_.has1 w_.next w_.spent w_.most) H.t4.t4.t3.t4
                cases hm
                exact hk _ _ ⟨hE.sel [6, 7] (by kernel_rfl), H.x2.t1.t1⟩
            · replace hE := hE.dec 50 c (by kernel_rfl)
              replace hm := cond_f c hm
              have c_1 := c
              refine WQ.seg hE [10, 11, 12, 13, 14, 15, 16, 17, 18, 19] [] [6, 41, 60] (Lo := [(6, .pointer (some ⟨r, 0, none⟩)), (41, .agg #[.int .i64 x.cell, .int .i64 x.e.Key, .int .i64 x.e.Serial]), (60, .bool false)]) (obs := []) (by kernel_rfl) (by kernel_rfl) trivial fun a hE => ?_
              refine WQ.eff0 (j := 20) (obs := []) hE (by kernel_rfl) rfl rfl rfl (by kernel_rfl) (OpTo.store hE H.t5 rfl rfl rfl rfl rfl rfl (Nat.le_of_ble_eq_true rfl)) ?_
              rintro _ w H
              refine ⟨trivial, fun a hE => ?_⟩
              refine WQ.seg hE [21] [] [6, 7] (Lo := [(6, .pointer (some ⟨r, 0, none⟩)), (7, .bool false)]) (obs := []) (by kernel_rfl) (by kernel_rfl) trivial fun a hE => ?_
              refine WQ.done (by kernel_rfl) ?_
              replace H := thicketlaw11_world.shut al_w_ (thicketlaw11_world.mk t_1.2 w_.root0 w_.root1 w_.has0 w_.has1 w_.next w_.spent w_.most) H.t4.t4.t3.t4
              cases hm
              exact hk _ _ ⟨hE.sel [6, 7] (by kernel_rfl), H.x2.t1.t1⟩
          rintro a w ⟨hE, H⟩
          refine Runs.retO (vs := [.agg #[.int .i64 s2.2.2.1, .int .i64 s2.2.2.2.1, .int .i64 s2.2.2.2.2], .bool s2.1]) (obs := [.cell ⟨r, 0, none⟩ (.int .i64 s2.2.2.1), .cell ⟨r, 1, none⟩ (.int .i64 s2.2.2.2.1), .cell ⟨r, 2, none⟩ (.int .i64 s2.2.2.2.2)]) hE Tryz.func74 rfl [.int .i64 s2.2.2.1, .int .i64 s2.2.2.2.1, .int .i64 s2.2.2.2.2] (by kernel_rfl) ⟨H.cell 1 rfl rfl, H.cell 1 rfl rfl, H.cell 1 rfl rfl, trivial⟩ ?_
          cases hm
          dsimp only at hR; cases hR
          exact ⟨rfl, H.x1⟩
        · replace hm := cond_f c hm
          refine Runs.skip ?_
          refine Runs.inBlock ?_
          refine Runs.region ?_
          refine WR.seg hE 3 [] [0, 1, 2, 6, 8, 9] (Lo := [(0, .pointer (some ⟨p_w_, 0, none⟩)), (1, .int .i64 1), (2, .int .i64 n), (6, .pointer (some ⟨r, 0, none⟩)), (8, .int .i64 t_.1), (9, .int .i64 (w64 (k_ + 1)))]) (obs := []) rfl (by kernel_rfl) trivial fun a hE => ?_
          refine WR.done rfl ?_
          replace H := thicketlaw11_world.shut al_w_ (thicketlaw11_world.mk t_.2 w_.root0 w_.root1 w_.has0 w_.has1 w_.next w_.spent w_.most) H.t4.t4.t4.t4
          exact ih m (Nat.lt_succ_self m) _ _ ⟨w64 (k_ + 1), hE.sel [0, 1, 2, 6, 8, 9] (by kernel_rfl), H.x1.t1.t1, hm⟩
      · replace hm := cond_f c hm
        refine Runs.exit rfl ?_
        replace H := thicketlaw11_world.shut al_w_ (thicketlaw11_world.mk t_.2 w_.root0 w_.root1 w_.has0 w_.has1 w_.next w_.spent w_.most) H.t3.t3.t3.t3
        cases hm
        exact hk _ _ ⟨_, rfl, hE.sel [6] (by kernel_rfl), H.t1.t1⟩
  rintro a w ⟨s1, rfl, hE, H⟩
  replace hm := hR; dsimp only at hm
  refine Runs.seq ?_
  refine Runs.region ?_
  refine WR.seg hE 1 [] [6, 61] (Lo := [(6, .pointer (some ⟨r, 0, none⟩)), (61, .agg #[.int .i64 0, .int .i64 0, .int .i64 0])]) (obs := []) rfl (by kernel_rfl) trivial fun a hE => ?_
  refine WR.eff0 hE rfl rfl rfl (OpTo.store hE H.t1 rfl rfl rfl rfl rfl rfl (Nat.le_of_ble_eq_true rfl)) ?_
  rintro _ w H a hE
  refine WR.seg hE 3 [] [6, 7] (Lo := [(6, .pointer (some ⟨r, 0, none⟩)), (7, .bool false)]) (obs := []) rfl (by kernel_rfl) trivial fun a hE => ?_
  refine WR.done rfl ?_
  refine Runs.retO (vs := [.agg #[.int .i64 0, .int .i64 0, .int .i64 0], .bool false]) (obs := [.cell ⟨r, 0, none⟩ (.int .i64 0), .cell ⟨r, 1, none⟩ (.int .i64 0), .cell ⟨r, 2, none⟩ (.int .i64 0)]) hE Tryz.func74 rfl [.int .i64 0, .int .i64 0, .int .i64 0] (by kernel_rfl) ⟨H.cell 0 rfl rfl, H.cell 0 rfl rfl, H.cell 0 rfl rfl, trivial⟩ ?_
  cases hm
  exact ⟨rfl, H.x0⟩

theorem thicketlaw11_world_node_ok {w0 w : World} {As : List HP} {k : Nat} {p_w_ : Nat} {al_w_ : thicketlaw11_world.A} {w_ : thicketlaw11_world} {n : Int} {h_ : Int} {t : thicketlaw11_held × Bool × thicketlaw11_world}  (hm : thicketlaw11_world_node k w_ h_ n = some t) (H : St w0 (thicketlaw11_world.R p_w_ al_w_ w_ :: As) w) :
    CallsR Tryz.prog 74 #[.pointer (some ⟨p_w_, 0, none⟩), .int .i64 h_, .int .i64 n] w fun v w' => v = .tuple #[.agg #[.int .i64 t.1.cell, .int .i64 t.1.e.Key, .int .i64 t.1.e.Serial], .bool t.2.1] ∧ St w0 (thicketlaw11_world.R p_w_ al_w_ t.2.2 :: As) w' := by
  rw [thicketlaw11_world_node] at hm
  by_cases h0 : h_ = 0
  · subst h0; simp only [if_pos] at hm
    refine (thicketlaw11_world_node_at0_ok hm H).mono ?_
    rintro v w' ⟨hv, H⟩; exact ⟨hv, H⟩
  rw [if_neg h0] at hm
  by_cases h1 : h_ = 1
  · subst h1; simp only [if_pos] at hm
    refine (thicketlaw11_world_node_at1_ok hm H).mono ?_
    rintro v w' ⟨hv, H⟩; exact ⟨hv, H⟩
  rw [if_neg h1] at hm
  cases hm

theorem thicketlaw11_world_tree_at0_ok {w0 : World} {k : Nat} : ∀ {w : World} {As : List HP} {p_w_ : Nat} {al_w_ : thicketlaw11_world.A} {w_ : thicketlaw11_world} {n : Int} {up : Int} {above : thicketlaw11_held} {top : Bool} {t : Int × thicketlaw11_world}  (hm : thicketlaw11_world_tree_at0 k w_ n up above top = some t) (H : St w0 (thicketlaw11_world.R p_w_ al_w_ w_ :: As) w),
    CallsR Tryz.prog 52 #[.pointer (some ⟨p_w_, 0, none⟩), .int .i64 0, .int .i64 n, .int .i64 up, .agg #[.int .i64 above.cell, .int .i64 above.e.Key, .int .i64 above.e.Serial], .bool top] w fun v w' => v = .int .i64 t.1 ∧ St w0 (thicketlaw11_world.R p_w_ al_w_ t.2 :: As) w' := by
  induction k with
  | zero => intro w As p_w_ al_w_ w_ n up above top t hm H; simp [thicketlaw11_world_tree_at0] at hm
  | succ k ihf =>
    intro w As p_w_ al_w_ w_ n up above top t hm H
    rw [thicketlaw11_world_tree_at0] at hm
    refine enter (args := [.pointer (some ⟨p_w_, 0, none⟩), .int .i64 0, .int .i64 n, .int .i64 up, .agg #[.int .i64 above.cell, .int .i64 above.e.Key, .int .i64 above.e.Serial], .bool top]) Tryz.func52 rfl rfl rfl fun a hE => ?_
    refine Runs.seq ?_
    refine Runs.region ?_
    refine WR.eff hE rfl rfl rfl rfl (OpTo.new hE H [] (.cells #[.int .i64 above.cell, .int .i64 above.e.Key, .int .i64 above.e.Serial] 48 (0, 0)) (fun r => .pointer (some ⟨r, 0, none⟩)) (obs := []) rfl (fun _ => by kernel_rfl) trivial) ?_
    rintro _ w ⟨r, rfl, H⟩ a hE
    refine WR.seg hE 2 [] [0, 1, 2, 3, 5, 10] (Lo := [(0, .pointer (some ⟨p_w_, 0, none⟩)), (1, .int .i64 0), (2, .int .i64 n), (3, .int .i64 up), (5, .bool top), (10, .pointer (some ⟨r, 0, none⟩))]) (obs := []) rfl (by kernel_rfl) trivial fun a hE => ?_
    refine WR.done rfl ?_
    refine Runs.seq ?_
    refine Runs.region ?_
    refine WR.seg hE 3 [] [0, 1, 2, 3, 5, 10, 22, 23, 24] (Lo := [(0, .pointer (some ⟨p_w_, 0, none⟩)), (1, .int .i64 0), (2, .int .i64 n), (3, .int .i64 up), (5, .bool top), (10, .pointer (some ⟨r, 0, none⟩)), (22, .pointer (some ⟨p_w_, 0, none⟩)), (23, .int .i64 0), (24, .int .i64 n)]) (obs := []) rfl (by kernel_rfl) trivial fun a hE => ?_
    obtain ⟨t_, et_, hm⟩ := bind_some hm
    refine WR.eff hE rfl rfl rfl rfl (OpTo.fn hE rfl rfl Tryz.call74 (thicketlaw11_world_node_ok et_ H.t1)) ?_
    rintro _ w ⟨rfl, H⟩ a hE
    refine WR.seg hE 7 [] [0, 1, 2, 3, 5, 10, 26, 27] (Lo := [(0, .pointer (some ⟨p_w_, 0, none⟩)), (1, .int .i64 0), (2, .int .i64 n), (3, .int .i64 up), (5, .bool top), (10, .pointer (some ⟨r, 0, none⟩)), (26, .agg #[.int .i64 t_.1.cell, .int .i64 t_.1.e.Key, .int .i64 t_.1.e.Serial]), (27, .bool t_.2.1)]) (obs := []) rfl (by kernel_rfl) trivial fun a hE => ?_
    refine WR.eff hE rfl rfl rfl rfl (OpTo.new hE H [] (.cells #[.int .i64 0, .int .i64 0, .int .i64 0] 48 (0, 0)) (fun r => .pointer (some ⟨r, 0, none⟩)) (obs := []) rfl (fun _ => by kernel_rfl) trivial) ?_
    rintro _ w ⟨r1, rfl, H⟩ a hE
    refine WR.eff0 hE rfl rfl rfl (OpTo.store hE H rfl rfl rfl rfl rfl rfl (Nat.le_of_ble_eq_true rfl)) ?_
    rintro _ w H a hE
    refine WR.seg hE 10 [] [0, 1, 2, 3, 5, 10, 13, 14] (Lo := [(0, .pointer (some ⟨p_w_, 0, none⟩)), (1, .int .i64 0), (2, .int .i64 n), (3, .int .i64 up), (5, .bool top), (10, .pointer (some ⟨r, 0, none⟩)), (13, .pointer (some ⟨r1, 0, none⟩)), (14, .bool t_.2.1)]) (obs := []) rfl (by kernel_rfl) trivial fun a hE => ?_
    refine WR.done rfl ?_
    refine Runs.seq ?_
    refine Runs.region ?_
    replace H := thicketlaw11_world.open H.t1
    refine WR.seg hE 5 [.pointer (some ⟨al_w_.a__p, 0, none⟩)] [0, 1, 2, 3, 5, 10, 13, 14, 31, 32] (Lo := [(0, .pointer (some ⟨p_w_, 0, none⟩)), (1, .int .i64 0), (2, .int .i64 n), (3, .int .i64 up), (5, .bool top), (10, .pointer (some ⟨r, 0, none⟩)), (13, .pointer (some ⟨r1, 0, none⟩)), (14, .bool t_.2.1), (31, .pointer (some ⟨al_w_.a__p, 0, none⟩)), (32, .int .i64 n)]) (obs := [.cell ⟨p_w_, 0, none⟩ (.pointer (some ⟨al_w_.a__p, 0, none⟩))]) rfl (by kernel_rfl) ⟨H.cell 0 rfl rfl, trivial⟩ fun a hE => ?_
    obtain ⟨t_1, et_1, hm⟩ := bind_some hm
    refine WR.eff hE rfl rfl rfl rfl (OpTo.fn hE rfl rfl Tryz.call51 (arena_Arena_Get_ok et_1 H.t1)) ?_
    rintro _ w ⟨rfl, hf1, hf, H⟩ a hE
    refine WR.seg hE 7 [] [0, 1, 2, 3, 5, 10, 13, 14, 15] (Lo := [(0, .pointer (some ⟨p_w_, 0, none⟩)), (1, .int .i64 0), (2, .int .i64 n), (3, .int .i64 up), (5, .bool top), (10, .pointer (some ⟨r, 0, none⟩)), (13, .pointer (some ⟨r1, 0, none⟩)), (14, .bool t_.2.1), (15, .int .i64 t_1.1)]) (obs := []) rfl (by kernel_rfl) trivial fun a hE => ?_
    refine WR.done rfl ?_
    refine Runs.seq ?_
    refine Runs.seq ?_
    replace H := thicketlaw11_world.shut al_w_ (thicketlaw11_world.mk t_1.2 t_.2.2.root0 t_.2.2.root1 t_.2.2.has0 t_.2.2.has1 t_.2.2.next t_.2.2.spent t_.2.2.most) H.t3.t3.t2.t3
    obtain ⟨s, es, hm⟩ := bind_some hm
    refine Runs.join (fun a w => EnvOk 143 a [(0, .pointer (some ⟨p_w_, 0, none⟩)), (1, .int .i64 0), (2, .int .i64 n), (13, .pointer (some ⟨r1, 0, none⟩)), (15, .int .i64 t_1.1), (71, .bool s.1)] ∧ St w0 (thicketlaw11_world.R p_w_ al_w_ s.2 :: Blk r1 48 [.int .i64 t_.1.cell, .int .i64 t_.1.e.Key, .int .i64 t_.1.e.Serial] :: As) w) (fun hk => ?_) ?_
    · replace hm := es; clear es
      refine Runs.region ?_
      refine WR.seg hE 3 [] [0, 1, 2, 3, 5, 10, 13, 15, 36] (Lo := [(0, .pointer (some ⟨p_w_, 0, none⟩)), (1, .int .i64 0), (2, .int .i64 n), (3, .int .i64 up), (5, .bool top), (10, .pointer (some ⟨r, 0, none⟩)), (13, .pointer (some ⟨r1, 0, none⟩)), (15, .int .i64 t_1.1), (36, .bool (!t_.2.1))]) (obs := []) rfl (by kernel_rfl) trivial fun a hE => ?_
      rcases Bool.eq_false_or_eq_true (!t_.2.1) with c | c
      · replace hE := hE.dec 36 c (by kernel_rfl)
        replace hm := cond_t c hm
        have c_ := c
        refine WR.seg hE 38 [] [0, 1, 2, 13, 15, 71] (Lo := [(0, .pointer (some ⟨p_w_, 0, none⟩)), (1, .int .i64 0), (2, .int .i64 n), (13, .pointer (some ⟨r1, 0, none⟩)), (15, .int .i64 t_1.1), (71, .bool true)]) (obs := []) rfl (by kernel_rfl) trivial fun a hE => ?_
        refine WR.done rfl ?_
        cases hm
        exact hk _ _ ⟨hE.sel [0, 1, 2, 13, 15, 71] (by kernel_rfl), H.x2.t1.t1⟩
      · replace hE := hE.dec 36 c (by kernel_rfl)
        replace hm := cond_f c hm
        have c_1 := c
        refine WR.seg hE 7 [] [0, 1, 2, 3, 5, 10, 13, 15, 40] (Lo := [(0, .pointer (some ⟨p_w_, 0, none⟩)), (1, .int .i64 0), (2, .int .i64 n), (3, .int .i64 up), (5, .bool top), (10, .pointer (some ⟨r, 0, none⟩)), (13, .pointer (some ⟨r1, 0, none⟩)), (15, .int .i64 t_1.1), (40, .bool (decide (t_1.1 < 0)))]) (obs := []) rfl (by kernel_rfl) trivial fun a hE => ?_
        rcases Bool.eq_false_or_eq_true (decide (t_1.1 < 0)) with c | c
        · replace hE := hE.dec 40 c (by kernel_rfl)
          replace hm := cond_t c hm
          have c_2 := c
          refine WR.seg hE 38 [] [0, 1, 2, 13, 15, 71] (Lo := [(0, .pointer (some ⟨p_w_, 0, none⟩)), (1, .int .i64 0), (2, .int .i64 n), (13, .pointer (some ⟨r1, 0, none⟩)), (15, .int .i64 t_1.1), (71, .bool true)]) (obs := []) rfl (by kernel_rfl) trivial fun a hE => ?_
          refine WR.done rfl ?_
          cases hm
          exact hk _ _ ⟨hE.sel [0, 1, 2, 13, 15, 71] (by kernel_rfl), H.x2.t1.t1⟩
        · replace hE := hE.dec 40 c (by kernel_rfl)
          replace hm := cond_f c hm
          have c_3 := c
          refine WR.seg hE 11 [] [0, 1, 2, 3, 5, 10, 13, 15, 44] (Lo := [(0, .pointer (some ⟨p_w_, 0, none⟩)), (1, .int .i64 0), (2, .int .i64 n), (3, .int .i64 up), (5, .bool top), (10, .pointer (some ⟨r, 0, none⟩)), (13, .pointer (some ⟨r1, 0, none⟩)), (15, .int .i64 t_1.1), (44, .bool (decide (t_1.1 > 20)))]) (obs := []) rfl (by kernel_rfl) trivial fun a hE => ?_
          rcases Bool.eq_false_or_eq_true (decide (t_1.1 > 20)) with c | c
          · replace hE := hE.dec 44 c (by kernel_rfl)
            replace hm := cond_t c hm
            have c_4 := c
            refine WR.seg hE 38 [] [0, 1, 2, 13, 15, 71] (Lo := [(0, .pointer (some ⟨p_w_, 0, none⟩)), (1, .int .i64 0), (2, .int .i64 n), (13, .pointer (some ⟨r1, 0, none⟩)), (15, .int .i64 t_1.1), (71, .bool true)]) (obs := []) rfl (by kernel_rfl) trivial fun a hE => ?_
            refine WR.done rfl ?_
            cases hm
            exact hk _ _ ⟨hE.sel [0, 1, 2, 13, 15, 71] (by kernel_rfl), H.x2.t1.t1⟩
          · replace hE := hE.dec 44 c (by kernel_rfl)
            replace hm := cond_f c hm
            have c_5 := c
            replace H := thicketlaw11_world.open H
            try dsimp only at H
            refine WR.seg hE 16 [.pointer (some ⟨al_w_.a__p, 0, none⟩)] [0, 1, 2, 3, 5, 10, 13, 15, 44, 48, 49] (Lo := [(0, .pointer (some ⟨p_w_, 0, none⟩)), (1, .int .i64 0), (2, .int .i64 n), (3, .int .i64 up), (5, .bool top), (10, .pointer (some ⟨r, 0, none⟩)), (13, .pointer (some ⟨r1, 0, none⟩)), (15, .int .i64 t_1.1), (44, .bool false), (48, .pointer (some ⟨al_w_.a__p, 0, none⟩)), (49, .int .i64 n)]) (obs := [.cell ⟨p_w_, 0, none⟩ (.pointer (some ⟨al_w_.a__p, 0, none⟩))]) rfl (by kernel_rfl) ⟨H.cell 0 rfl rfl, trivial⟩ fun a hE => ?_
            obtain ⟨t_2, et_2, hm⟩ := bind_some hm
            refine WR.eff hE rfl rfl rfl rfl (OpTo.fn hE rfl rfl Tryz.call45 (arena_Arena_Cell_ok et_2 H.t1)) ?_
            rintro _ w ⟨rfl, H⟩ a hE
            refine WR.seg hE 21 [] [0, 1, 2, 5, 10, 13, 15, 54] (Lo := [(0, .pointer (some ⟨p_w_, 0, none⟩)), (1, .int .i64 0), (2, .int .i64 n), (5, .bool top), (10, .pointer (some ⟨r, 0, none⟩)), (13, .pointer (some ⟨r1, 0, none⟩)), (15, .int .i64 t_1.1), (54, .bool (t_2.1 != up))]) (obs := []) rfl (by kernel_rfl) trivial fun a hE => ?_
            rcases Bool.eq_false_or_eq_true (t_2.1 != up) with c | c
            · replace hE := hE.dec 54 c (by kernel_rfl)
              replace hm := cond_t c hm
              have c_6 := c
              refine WR.seg hE 38 [] [0, 1, 2, 13, 15, 71] (Lo := [(0, .pointer (some ⟨p_w_, 0, none⟩)), (1, .int .i64 0), (2, .int .i64 n), (13, .pointer (some ⟨r1, 0, none⟩)), (15, .int .i64 t_1.1), (71, .bool true)]) (obs := []) rfl (by kernel_rfl) trivial fun a hE => ?_
              refine WR.done rfl ?_
              replace H := thicketlaw11_world.shut al_w_ (thicketlaw11_world.mk t_2.2 t_.2.2.root0 t_.2.2.root1 t_.2.2.has0 t_.2.2.has1 t_.2.2.next t_.2.2.spent t_.2.2.most) H.t3.t3.t2.t3
              cases hm
              exact hk _ _ ⟨hE.sel [0, 1, 2, 13, 15, 71] (by kernel_rfl), H.x2.t1.t1⟩
            · replace hE := hE.dec 54 c (by kernel_rfl)
              replace hm := cond_f c hm
              have c_7 := c
              refine WR.seg hE 26 [.pointer (some ⟨al_w_.a__p, 0, none⟩)] [0, 1, 2, 5, 10, 13, 15, 54, 58, 59] (Lo := [(0, .pointer (some ⟨p_w_, 0, none⟩)), (1, .int .i64 0), (2, .int .i64 n), (5, .bool top), (10, .pointer (some ⟨r, 0, none⟩)), (13, .pointer (some ⟨r1, 0, none⟩)), (15, .int .i64 t_1.1), (54, .bool false), (58, .pointer (some ⟨al_w_.a__p, 0, none⟩)), (59, .int .i64 n)]) (obs := [.cell ⟨p_w_, 0, none⟩ (.pointer (some ⟨al_w_.a__p, 0, none⟩))]) rfl (by kernel_rfl) ⟨H.cell 1 rfl rfl, trivial⟩ fun a hE => ?_
              obtain ⟨t_3, et_3, hm⟩ := bind_some hm
              refine WR.eff hE rfl rfl rfl rfl (OpTo.fn hE rfl rfl Tryz.call45 (arena_Arena_Cell_ok et_3 H)) ?_
              rintro _ w ⟨rfl, H⟩ a hE
              refine WR.seg hE 30 [] [0, 1, 2, 5, 10, 13, 15, 63] (Lo := [(0, .pointer (some ⟨p_w_, 0, none⟩)), (1, .int .i64 0), (2, .int .i64 n), (5, .bool top), (10, .pointer (some ⟨r, 0, none⟩)), (13, .pointer (some ⟨r1, 0, none⟩)), (15, .int .i64 t_1.1), (63, .bool (t_3.1 != (-1)))]) (obs := []) rfl (by kernel_rfl) trivial fun a hE => ?_
              rcases Bool.eq_false_or_eq_true (t_3.1 != (-1)) with c | c
              · replace hE := hE.dec 63 c (by kernel_rfl)
                replace hm := cond_t c hm
                have c_8 := c
                refine WR.seg hE 38 [] [0, 1, 2, 13, 15, 71] (Lo := [(0, .pointer (some ⟨p_w_, 0, none⟩)), (1, .int .i64 0), (2, .int .i64 n), (13, .pointer (some ⟨r1, 0, none⟩)), (15, .int .i64 t_1.1), (71, .bool true)]) (obs := []) rfl (by kernel_rfl) trivial fun a hE => ?_
                refine WR.done rfl ?_
                replace H := thicketlaw11_world.shut al_w_ (thicketlaw11_world.mk t_3.2 t_.2.2.root0 t_.2.2.root1 t_.2.2.has0 t_.2.2.has1 t_.2.2.next t_.2.2.spent t_.2.2.most) H.t3.t3.t2.t3
                cases hm
                exact hk _ _ ⟨hE.sel [0, 1, 2, 13, 15, 71] (by kernel_rfl), H.x2.t1.t1⟩
              · replace hE := hE.dec 63 c (by kernel_rfl)
                replace hm := cond_f c hm
                have c_9 := c
                refine WR.seg hE 33 [] [0, 1, 2, 10, 13, 15, 63, 66] (Lo := [(0, .pointer (some ⟨p_w_, 0, none⟩)), (1, .int .i64 0), (2, .int .i64 n), (10, .pointer (some ⟨r, 0, none⟩)), (13, .pointer (some ⟨r1, 0, none⟩)), (15, .int .i64 t_1.1), (63, .bool false), (66, .bool (!top))]) (obs := []) rfl (by kernel_rfl) trivial fun a hE => ?_
                rcases Bool.eq_false_or_eq_true (!top) with c | c
                · replace hE := hE.dec 66 c (by kernel_rfl)
                  replace hm := cond_t c hm
                  have c_10 := c
                  refine WR.seg hE 35 [.int .i64 t_.1.cell, .int .i64 t_.1.e.Key, .int .i64 t_.1.e.Serial, .int .i64 above.cell, .int .i64 above.e.Key, .int .i64 above.e.Serial] [0, 1, 2, 13, 15, 63, 66, 67, 68] (Lo := [(0, .pointer (some ⟨p_w_, 0, none⟩)), (1, .int .i64 0), (2, .int .i64 n), (13, .pointer (some ⟨r1, 0, none⟩)), (15, .int .i64 t_1.1), (63, .bool false), (66, .bool true), (67, .agg #[.int .i64 t_.1.cell, .int .i64 t_.1.e.Key, .int .i64 t_.1.e.Serial]), (68, .agg #[.int .i64 above.cell, .int .i64 above.e.Key, .int .i64 above.e.Serial])]) (obs := [.cell ⟨r1, 0, none⟩ (.int .i64 t_.1.cell), .cell ⟨r1, 1, none⟩ (.int .i64 t_.1.e.Key), .cell ⟨r1, 2, none⟩ (.int .i64 t_.1.e.Serial), .cell ⟨r, 0, none⟩ (.int .i64 above.cell), .cell ⟨r, 1, none⟩ (.int .i64 above.e.Key), .cell ⟨r, 2, none⟩ (.int .i64 above.e.Serial)]) rfl (by kernel_rfl) ⟨H.cell 4 rfl rfl, H.cell 4 rfl rfl, H.cell 4 rfl rfl, H.cell 5 rfl rfl, H.cell 5 rfl rfl, H.cell 5 rfl rfl, trivial⟩ fun a hE => ?_
                  obtain ⟨t_4, et_4, hm⟩ := bind_some hm
                  refine WR.eff hE rfl rfl rfl rfl (OpTo.fn hE rfl rfl Tryz.call48 (thicketlaw11_before_ok et_4 H)) ?_
                  rintro _ w ⟨rfl, H⟩ a hE
                  refine WR.seg hE 38 [] [0, 1, 2, 13, 15, 71] (Lo := [(0, .pointer (some ⟨p_w_, 0, none⟩)), (1, .int .i64 0), (2, .int .i64 n), (13, .pointer (some ⟨r1, 0, none⟩)), (15, .int .i64 t_1.1), (71, .bool t_4)]) (obs := []) rfl (by kernel_rfl) trivial fun a hE => ?_
                  refine WR.done rfl ?_
                  replace H := thicketlaw11_world.shut al_w_ (thicketlaw11_world.mk t_3.2 t_.2.2.root0 t_.2.2.root1 t_.2.2.has0 t_.2.2.has1 t_.2.2.next t_.2.2.spent t_.2.2.most) H.t3.t3.t2.t3
                  cases hm
                  exact hk _ _ ⟨hE.sel [0, 1, 2, 13, 15, 71] (by kernel_rfl), H.x2.t1.t1⟩
                · replace hE := hE.dec 66 c (by kernel_rfl)
                  replace hm := cond_f c hm
                  have c_11 := c
                  refine WR.seg hE 38 [] [0, 1, 2, 13, 15, 71] (Lo := [(0, .pointer (some ⟨p_w_, 0, none⟩)), (1, .int .i64 0), (2, .int .i64 n), (13, .pointer (some ⟨r1, 0, none⟩)), (15, .int .i64 t_1.1), (71, .bool false)]) (obs := []) rfl (by kernel_rfl) trivial fun a hE => ?_
                  refine WR.done rfl ?_
                  replace H := thicketlaw11_world.shut al_w_ (thicketlaw11_world.mk t_3.2 t_.2.2.root0 t_.2.2.root1 t_.2.2.has0 t_.2.2.has1 t_.2.2.next t_.2.2.spent t_.2.2.most) H.t3.t3.t2.t3
                  cases hm
                  exact hk _ _ ⟨hE.sel [0, 1, 2, 13, 15, 71] (by kernel_rfl), H.x2.t1.t1⟩
    rintro a w ⟨hE, H⟩
    refine Runs.cond hE rfl (fun c => ?_) (fun c => ?_)
    · replace hm := cond_t c hm
      refine Runs.seq ?_
      refine Runs.region ?_
      refine WR.seg hE 1 [] [12] (Lo := [(12, .int .i64 0)]) (obs := []) rfl (by kernel_rfl) trivial fun a hE => ?_
      refine WR.done rfl ?_
      refine Runs.ret hE Tryz.func52 rfl rfl ?_
      cases hm
      exact ⟨rfl, H.x1⟩
    · replace hm := cond_f c hm
      refine Runs.skip ?_
      refine Runs.seq ?_
      refine Runs.region ?_
      refine WR.seg hE 1 [] [0, 1, 2, 13, 15, 16] (Lo := [(0, .pointer (some ⟨p_w_, 0, none⟩)), (1, .int .i64 0), (2, .int .i64 n), (13, .pointer (some ⟨r1, 0, none⟩)), (15, .int .i64 t_1.1), (16, .int .i64 1)]) (obs := []) rfl (by kernel_rfl) trivial fun a hE => ?_
      refine WR.done rfl ?_
      refine Runs.seq ?_
      refine Runs.region ?_
      replace H := thicketlaw11_world.open H
      refine WR.seg hE 5 [.pointer (some ⟨al_w_.a__p, 0, none⟩)] [0, 1, 2, 13, 15, 16, 75, 76] (Lo := [(0, .pointer (some ⟨p_w_, 0, none⟩)), (1, .int .i64 0), (2, .int .i64 n), (13, .pointer (some ⟨r1, 0, none⟩)), (15, .int .i64 t_1.1), (16, .int .i64 1), (75, .pointer (some ⟨al_w_.a__p, 0, none⟩)), (76, .int .i64 n)]) (obs := [.cell ⟨p_w_, 0, none⟩ (.pointer (some ⟨al_w_.a__p, 0, none⟩))]) rfl (by kernel_rfl) ⟨H.cell 0 rfl rfl, trivial⟩ fun a hE => ?_
      obtain ⟨t_5, et_5, hm⟩ := bind_some hm
      refine WR.eff hE rfl rfl rfl rfl (OpTo.fn hE rfl rfl Tryz.call45 (arena_Arena_Cell_ok et_5 H.t1)) ?_
      rintro _ w ⟨rfl, H⟩ a hE
      refine WR.seg hE 7 [] [0, 1, 2, 13, 15, 16, 17] (Lo := [(0, .pointer (some ⟨p_w_, 0, none⟩)), (1, .int .i64 0), (2, .int .i64 n), (13, .pointer (some ⟨r1, 0, none⟩)), (15, .int .i64 t_1.1), (16, .int .i64 1), (17, .int .i64 t_5.1)]) (obs := []) rfl (by kernel_rfl) trivial fun a hE => ?_
      refine WR.done rfl ?_
      refine Runs.seq ?_
      refine Runs.seq ?_
      refine Runs.region ?_
      refine WR.seg hE 1 [] [0, 1, 2, 13, 15, 16, 17, 18] (Lo := [(0, .pointer (some ⟨p_w_, 0, none⟩)), (1, .int .i64 0), (2, .int .i64 n), (13, .pointer (some ⟨r1, 0, none⟩)), (15, .int .i64 t_1.1), (16, .int .i64 1), (17, .int .i64 t_5.1), (18, .int .i64 0)]) (obs := []) rfl (by kernel_rfl) trivial fun a hE => ?_
      refine WR.done rfl ?_
      replace H := thicketlaw11_world.shut al_w_ (thicketlaw11_world.mk t_5.2 s.2.root0 s.2.root1 s.2.has0 s.2.has1 s.2.next s.2.spent s.2.most) H.t3.t3.t2.t3
      obtain ⟨s1, es1, hR⟩ := bind_some hm
      refine Runs.join (fun a w => ∃ s2, s1 = Sum.inr s2 ∧ EnvOk 143 a [(0, .pointer (some ⟨p_w_, 0, none⟩)), (1, .int .i64 0), (15, .int .i64 t_1.1), (16, .int .i64 s2.1), (17, .int .i64 s2.2.1)] ∧ St w0 (thicketlaw11_world.R p_w_ al_w_ s2.2.2 :: As) w) (fun hk => ?_) ?_
      · replace hm := es1; clear es1
        refine Runs.block ?_
        refine Runs.loop (fun m a w => ∃ (size : Int), ∃ (c_12 : Int), ∃ (i : Int), ∃ (m_ : thicketlaw11_world), EnvOk 143 a [(0, .pointer (some ⟨p_w_, 0, none⟩)), (1, .int .i64 0), (2, .int .i64 n), (13, .pointer (some ⟨r1, 0, none⟩)), (15, .int .i64 t_1.1), (16, .int .i64 size), (17, .int .i64 c_12), (18, .int .i64 i)] ∧ St w0 (thicketlaw11_world.R p_w_ al_w_ m_ :: Blk r1 48 [.int .i64 t_.1.cell, .int .i64 t_.1.e.Key, .int .i64 t_.1.e.Serial] :: As) w ∧ thicketlaw11_world_tree_at0_l0 (thicketlaw11_world_tree_at0 k) n t_1.1 t_.1.cell t_.1.e.Key t_.1.e.Serial m size c_12 i m_ = some s1) k ⟨1, t_5.1, 0, thicketlaw11_world.mk t_5.2 s.2.root0 s.2.root1 s.2.has0 s.2.has1 s.2.next s.2.spent s.2.most, hE.sel [0, 1, 2, 13, 15, 16, 17, 18] (by kernel_rfl), H.t1.t1, hm⟩ ?_
        rintro m ih a w ⟨size, c_12, i, m_, hE, H, hm⟩
        cases m with
        | zero => simp [thicketlaw11_world_tree_at0_l0] at hm
        | succ m =>
          rw [thicketlaw11_world_tree_at0_l0] at hm
          refine Runs.seq ?_
          refine Runs.seq ?_
          refine Runs.join (fun a w => EnvOk 143 a [(0, .pointer (some ⟨p_w_, 0, none⟩)), (1, .int .i64 0), (2, .int .i64 n), (13, .pointer (some ⟨r1, 0, none⟩)), (15, .int .i64 t_1.1), (16, .int .i64 size), (17, .int .i64 c_12), (18, .int .i64 i), (83, .bool ((decide (i < 60)) && (c_12 != (-1))))] ∧ St w0 (thicketlaw11_world.R p_w_ al_w_ m_ :: Blk r1 48 [.int .i64 t_.1.cell, .int .i64 t_.1.e.Key, .int .i64 t_.1.e.Serial] :: As) w) (fun hk => ?_) ?_
          · clear hm
            refine Runs.region ?_
            refine WR.seg hE 3 [] [0, 1, 2, 13, 15, 16, 17, 18, 80] (Lo := [(0, .pointer (some ⟨p_w_, 0, none⟩)), (1, .int .i64 0), (2, .int .i64 n), (13, .pointer (some ⟨r1, 0, none⟩)), (15, .int .i64 t_1.1), (16, .int .i64 size), (17, .int .i64 c_12), (18, .int .i64 i), (80, .bool (decide (i < 60)))]) (obs := []) rfl (by kernel_rfl) trivial fun a hE => ?_
            rcases Bool.eq_false_or_eq_true (decide (i < 60)) with c | c
            · replace hE := hE.dec 80 c (by kernel_rfl)
              have c_13 := c
              refine WR.seg hE 6 [] [0, 1, 2, 13, 15, 16, 17, 18, 83] (Lo := [(0, .pointer (some ⟨p_w_, 0, none⟩)), (1, .int .i64 0), (2, .int .i64 n), (13, .pointer (some ⟨r1, 0, none⟩)), (15, .int .i64 t_1.1), (16, .int .i64 size), (17, .int .i64 c_12), (18, .int .i64 i), (83, .bool (c_12 != (-1)))]) (obs := []) rfl (by kernel_rfl) trivial fun a hE => ?_
              refine WR.done rfl ?_
              refine hk _ _ ⟨?_, H.t1.t1⟩
              try rw [c_13] at hE
              try rw [c_13]
              exact hE.sel [0, 1, 2, 13, 15, 16, 17, 18, 83] (by kernel_rfl)
            · replace hE := hE.dec 80 c (by kernel_rfl)
              have c_14 := c
              refine WR.seg hE 6 [] [0, 1, 2, 13, 15, 16, 17, 18, 83] (Lo := [(0, .pointer (some ⟨p_w_, 0, none⟩)), (1, .int .i64 0), (2, .int .i64 n), (13, .pointer (some ⟨r1, 0, none⟩)), (15, .int .i64 t_1.1), (16, .int .i64 size), (17, .int .i64 c_12), (18, .int .i64 i), (83, .bool false)]) (obs := []) rfl (by kernel_rfl) trivial fun a hE => ?_
              refine WR.done rfl ?_
              refine hk _ _ ⟨?_, H.t1.t1⟩
              try rw [c_14] at hE
              try rw [c_14]
              exact hE.sel [0, 1, 2, 13, 15, 16, 17, 18, 83] (by kernel_rfl)
          rintro a w ⟨hE, H⟩
          refine Runs.cond hE rfl (fun c => ?_) (fun c => ?_)
          · replace hm := cond_t c hm
            refine Runs.skip ?_
            refine Runs.seq ?_
            refine Runs.block ?_
            refine Runs.seq ?_
            refine Runs.region ?_
            replace H := thicketlaw11_world.open H
            refine WR.seg hE 5 [.pointer (some ⟨al_w_.a__p, 0, none⟩)] [0, 1, 2, 13, 15, 16, 17, 18, 89, 90] (Lo := [(0, .pointer (some ⟨p_w_, 0, none⟩)), (1, .int .i64 0), (2, .int .i64 n), (13, .pointer (some ⟨r1, 0, none⟩)), (15, .int .i64 t_1.1), (16, .int .i64 size), (17, .int .i64 c_12), (18, .int .i64 i), (89, .pointer (some ⟨al_w_.a__p, 0, none⟩)), (90, .int .i64 c_12)]) (obs := [.cell ⟨p_w_, 0, none⟩ (.pointer (some ⟨al_w_.a__p, 0, none⟩))]) rfl (by kernel_rfl) ⟨H.cell 0 rfl rfl, trivial⟩ fun a hE => ?_
            obtain ⟨t_6, et_6, hm⟩ := bind_some hm
            refine WR.eff hE rfl rfl rfl rfl (OpTo.fn hE rfl rfl Tryz.call51 (arena_Arena_Get_ok et_6 H.t1)) ?_
            rintro _ w ⟨rfl, hf3, hf2, H⟩ a hE
            refine WR.seg hE 7 [] [0, 1, 2, 13, 15, 16, 17, 18, 19] (Lo := [(0, .pointer (some ⟨p_w_, 0, none⟩)), (1, .int .i64 0), (2, .int .i64 n), (13, .pointer (some ⟨r1, 0, none⟩)), (15, .int .i64 t_1.1), (16, .int .i64 size), (17, .int .i64 c_12), (18, .int .i64 i), (19, .int .i64 t_6.1)]) (obs := []) rfl (by kernel_rfl) trivial fun a hE => ?_
            refine WR.done rfl ?_
            refine Runs.seq ?_
            refine Runs.region ?_
            refine WR.seg hE 5 [.int .i64 t_.1.cell, .int .i64 t_.1.e.Key, .int .i64 t_.1.e.Serial] [0, 1, 2, 13, 15, 16, 17, 18, 19, 92, 93, 94, 95, 96] (Lo := [(0, .pointer (some ⟨p_w_, 0, none⟩)), (1, .int .i64 0), (2, .int .i64 n), (13, .pointer (some ⟨r1, 0, none⟩)), (15, .int .i64 t_1.1), (16, .int .i64 size), (17, .int .i64 c_12), (18, .int .i64 i), (19, .int .i64 t_6.1), (92, .pointer (some ⟨p_w_, 0, none⟩)), (93, .int .i64 0), (94, .int .i64 c_12), (95, .int .i64 n), (96, .agg #[.int .i64 t_.1.cell, .int .i64 t_.1.e.Key, .int .i64 t_.1.e.Serial])]) (obs := [.cell ⟨r1, 0, none⟩ (.int .i64 t_.1.cell), .cell ⟨r1, 1, none⟩ (.int .i64 t_.1.e.Key), .cell ⟨r1, 2, none⟩ (.int .i64 t_.1.e.Serial)]) rfl (by kernel_rfl) ⟨H.cell 4 rfl rfl, H.cell 4 rfl rfl, H.cell 4 rfl rfl, trivial⟩ fun a hE => ?_
            replace H := thicketlaw11_world.shut al_w_ (thicketlaw11_world.mk t_6.2 m_.root0 m_.root1 m_.has0 m_.has1 m_.next m_.spent m_.most) H.t3.t3.t2.t3
            obtain ⟨t_7, et_7, hm⟩ := bind_some hm
            refine WR.eff hE rfl rfl rfl rfl (OpTo.fn hE rfl rfl Tryz.call52 (ihf et_7 H)) ?_
            rintro _ w ⟨rfl, H⟩ a hE
            refine WR.seg hE 7 [] [0, 1, 2, 13, 15, 16, 17, 18, 19, 20] (Lo := [(0, .pointer (some ⟨p_w_, 0, none⟩)), (1, .int .i64 0), (2, .int .i64 n), (13, .pointer (some ⟨r1, 0, none⟩)), (15, .int .i64 t_1.1), (16, .int .i64 size), (17, .int .i64 c_12), (18, .int .i64 i), (19, .int .i64 t_6.1), (20, .int .i64 t_7.1)]) (obs := []) rfl (by kernel_rfl) trivial fun a hE => ?_
            refine WR.done rfl ?_
            refine Runs.seq ?_
            refine Runs.seq ?_
            refine Runs.join (fun a w => EnvOk 143 a [(0, .pointer (some ⟨p_w_, 0, none⟩)), (1, .int .i64 0), (2, .int .i64 n), (13, .pointer (some ⟨r1, 0, none⟩)), (15, .int .i64 t_1.1), (16, .int .i64 size), (17, .int .i64 c_12), (18, .int .i64 i), (20, .int .i64 t_7.1), (104, .bool ((t_7.1 == 0) || (decide (t_6.1 ≥ t_1.1))))] ∧ St w0 (thicketlaw11_world.R p_w_ al_w_ t_7.2 :: Blk r1 48 [.int .i64 t_.1.cell, .int .i64 t_.1.e.Key, .int .i64 t_.1.e.Serial] :: As) w) (fun hk => ?_) ?_
            · clear hm
              refine Runs.region ?_
              refine WR.seg hE 3 [] [0, 1, 2, 13, 15, 16, 17, 18, 19, 20, 100] (Lo := [(0, .pointer (some ⟨p_w_, 0, none⟩)), (1, .int .i64 0), (2, .int .i64 n), (13, .pointer (some ⟨r1, 0, none⟩)), (15, .int .i64 t_1.1), (16, .int .i64 size), (17, .int .i64 c_12), (18, .int .i64 i), (19, .int .i64 t_6.1), (20, .int .i64 t_7.1), (100, .bool (t_7.1 == 0))]) (obs := []) rfl (by kernel_rfl) trivial fun a hE => ?_
              rcases Bool.eq_false_or_eq_true (t_7.1 == 0) with c | c
              · replace hE := hE.dec 100 c (by kernel_rfl)
                have c_15 := c
                refine WR.seg hE 7 [] [0, 1, 2, 13, 15, 16, 17, 18, 20, 104] (Lo := [(0, .pointer (some ⟨p_w_, 0, none⟩)), (1, .int .i64 0), (2, .int .i64 n), (13, .pointer (some ⟨r1, 0, none⟩)), (15, .int .i64 t_1.1), (16, .int .i64 size), (17, .int .i64 c_12), (18, .int .i64 i), (20, .int .i64 t_7.1), (104, .bool true)]) (obs := []) rfl (by kernel_rfl) trivial fun a hE => ?_
                refine WR.done rfl ?_
                refine hk _ _ ⟨?_, H.t1.t1⟩
                try rw [c_15] at hE
                try rw [c_15]
                exact hE.sel [0, 1, 2, 13, 15, 16, 17, 18, 20, 104] (by kernel_rfl)
              · replace hE := hE.dec 100 c (by kernel_rfl)
                have c_16 := c
                refine WR.seg hE 7 [] [0, 1, 2, 13, 15, 16, 17, 18, 20, 104] (Lo := [(0, .pointer (some ⟨p_w_, 0, none⟩)), (1, .int .i64 0), (2, .int .i64 n), (13, .pointer (some ⟨r1, 0, none⟩)), (15, .int .i64 t_1.1), (16, .int .i64 size), (17, .int .i64 c_12), (18, .int .i64 i), (20, .int .i64 t_7.1), (104, .bool (decide (t_6.1 ≥ t_1.1)))]) (obs := []) rfl (by kernel_rfl) trivial fun a hE => ?_
                refine WR.done rfl ?_
                refine hk _ _ ⟨?_, H.t1.t1⟩
                try rw [c_16] at hE
                try rw [c_16]
                exact hE.sel [0, 1, 2, 13, 15, 16, 17, 18, 20, 104] (by kernel_rfl)
            rintro a w ⟨hE, H⟩
            refine Runs.cond hE rfl (fun c => ?_) (fun c => ?_)
            · replace hm := cond_t c hm
              refine Runs.seq ?_
              refine Runs.region ?_
              refine WR.seg hE 1 [] [12] (Lo := [(12, .int .i64 0)]) (obs := []) rfl (by kernel_rfl) trivial fun a hE => ?_
              refine WR.done rfl ?_
              refine Runs.ret hE Tryz.func52 rfl rfl ?_
              cases hm
              dsimp only at hR; cases hR
              exact ⟨rfl, H.x1⟩
            · replace hm := cond_f c hm
              refine Runs.skip ?_
              refine Runs.seq ?_
              refine Runs.region ?_
              refine WR.seg hE 4 [] [0, 1, 2, 13, 15, 16, 17, 18] (Lo := [(0, .pointer (some ⟨p_w_, 0, none⟩)), (1, .int .i64 0), (2, .int .i64 n), (13, .pointer (some ⟨r1, 0, none⟩)), (15, .int .i64 t_1.1), (16, .int .i64 (w64 (size + t_7.1))), (17, .int .i64 c_12), (18, .int .i64 i)]) (obs := []) rfl (by kernel_rfl) trivial fun a hE => ?_
              refine WR.done rfl ?_
              refine Runs.region ?_
              replace H := thicketlaw11_world.open H
              refine WR.seg hE 5 [.pointer (some ⟨al_w_.a__p, 0, none⟩)] [0, 1, 2, 13, 15, 16, 17, 18, 111, 112] (Lo := [(0, .pointer (some ⟨p_w_, 0, none⟩)), (1, .int .i64 0), (2, .int .i64 n), (13, .pointer (some ⟨r1, 0, none⟩)), (15, .int .i64 t_1.1), (16, .int .i64 (w64 (size + t_7.1))), (17, .int .i64 c_12), (18, .int .i64 i), (111, .pointer (some ⟨al_w_.a__p, 0, none⟩)), (112, .int .i64 c_12)]) (obs := [.cell ⟨p_w_, 0, none⟩ (.pointer (some ⟨al_w_.a__p, 0, none⟩))]) rfl (by kernel_rfl) ⟨H.cell 0 rfl rfl, trivial⟩ fun a hE => ?_
              obtain ⟨t_8, et_8, hm⟩ := bind_some hm
              refine WR.eff hE rfl rfl rfl rfl (OpTo.fn hE rfl rfl Tryz.call45 (arena_Arena_Cell_ok et_8 H.t1)) ?_
              rintro _ w ⟨rfl, H⟩ a hE
              refine WR.seg hE 7 [] [0, 1, 2, 13, 15, 16, 17, 18] (Lo := [(0, .pointer (some ⟨p_w_, 0, none⟩)), (1, .int .i64 0), (2, .int .i64 n), (13, .pointer (some ⟨r1, 0, none⟩)), (15, .int .i64 t_1.1), (16, .int .i64 (w64 (size + t_7.1))), (17, .int .i64 t_8.1), (18, .int .i64 i)]) (obs := []) rfl (by kernel_rfl) trivial fun a hE => ?_
              refine WR.done rfl ?_
              refine Runs.inBlock ?_
              refine Runs.region ?_
              refine WR.seg hE 3 [] [0, 1, 2, 13, 15, 16, 17, 18] (Lo := [(0, .pointer (some ⟨p_w_, 0, none⟩)), (1, .int .i64 0), (2, .int .i64 n), (13, .pointer (some ⟨r1, 0, none⟩)), (15, .int .i64 t_1.1), (16, .int .i64 (w64 (size + t_7.1))), (17, .int .i64 t_8.1), (18, .int .i64 (w64 (i + 1)))]) (obs := []) rfl (by kernel_rfl) trivial fun a hE => ?_
              refine WR.done rfl ?_
              replace H := thicketlaw11_world.shut al_w_ (thicketlaw11_world.mk t_8.2 t_7.2.root0 t_7.2.root1 t_7.2.has0 t_7.2.has1 t_7.2.next t_7.2.spent t_7.2.most) H.t3.t3.t2.t3
              exact ih m (Nat.lt_succ_self m) _ _ ⟨w64 (size + t_7.1), t_8.1, w64 (i + 1), thicketlaw11_world.mk t_8.2 t_7.2.root0 t_7.2.root1 t_7.2.has0 t_7.2.has1 t_7.2.next t_7.2.spent t_7.2.most, hE.sel [0, 1, 2, 13, 15, 16, 17, 18] (by kernel_rfl), H.t1.t1, hm⟩
          · replace hm := cond_f c hm
            refine Runs.exit rfl ?_
            cases hm
            exact hk _ _ ⟨_, rfl, hE.sel [0, 1, 15, 16, 17] (by kernel_rfl), H.x1⟩
      rintro a w ⟨s2, rfl, hE, H⟩
      replace hm := hR; dsimp only at hm
      refine Runs.seq ?_
      refine Runs.seq ?_
      obtain ⟨s3, es3, hm⟩ := bind_some hm
      refine Runs.join (fun a w => EnvOk 143 a [(16, .int .i64 s2.1), (141, .bool s3)] ∧ St w0 (thicketlaw11_world.R p_w_ al_w_ s2.2.2 :: As) w) (fun hk => ?_) ?_
      · replace hm := es3; clear es3
        refine Runs.region ?_
        refine WR.seg hE 3 [] [0, 1, 15, 16, 116] (Lo := [(0, .pointer (some ⟨p_w_, 0, none⟩)), (1, .int .i64 0), (15, .int .i64 t_1.1), (16, .int .i64 s2.1), (116, .bool (s2.2.1 != (-1)))]) (obs := []) rfl (by kernel_rfl) trivial fun a hE => ?_
        rcases Bool.eq_false_or_eq_true (s2.2.1 != (-1)) with c | c
        · replace hE := hE.dec 116 c (by kernel_rfl)
          replace hm := cond_t c hm
          have c_17 := c
          refine WR.seg hE 28 [] [16, 141] (Lo := [(16, .int .i64 s2.1), (141, .bool true)]) (obs := []) rfl (by kernel_rfl) trivial fun a hE => ?_
          refine WR.done rfl ?_
          cases hm
          exact hk _ _ ⟨hE.sel [16, 141] (by kernel_rfl), H⟩
        · replace hE := hE.dec 116 c (by kernel_rfl)
          replace hm := cond_f c hm
          have c_18 := c
          replace H := thicketlaw11_world.open H
          refine WR.seg hE 14 [.slice al_w_.has0_b s2.2.2.has0.length al_w_.has0_c] [15, 16, 127] (Lo := [(15, .int .i64 t_1.1), (16, .int .i64 s2.1), (127, .bool (decide (s2.1 > (s2.2.2.has0.length : Int))))]) (obs := [.p (0 ≤ (0 : Int) ∧ (0 : Int) < ((2 : Nat) : Int)), .cell ⟨p_w_, 3, none⟩ (.slice al_w_.has0_b s2.2.2.has0.length al_w_.has0_c)]) rfl (by kernel_rfl) ⟨⟨by decide, by decide⟩, H.cell 0 rfl rfl, trivial⟩ fun a hE => ?_
          rcases Bool.eq_false_or_eq_true (decide (s2.1 > (s2.2.2.has0.length : Int))) with c | c
          · replace hE := hE.dec 127 c (by kernel_rfl)
            replace hm := cond_t c hm
            have c_19 := c
            refine WR.seg hE 28 [] [16, 141] (Lo := [(16, .int .i64 s2.1), (141, .bool true)]) (obs := []) rfl (by kernel_rfl) trivial fun a hE => ?_
            refine WR.done rfl ?_
            replace H := thicketlaw11_world.shut al_w_ (s2.2.2) H.t3.t3.t3.t3
            cases hm
            exact hk _ _ ⟨hE.sel [16, 141] (by kernel_rfl), H⟩
          · replace hE := hE.dec 127 c (by kernel_rfl)
            replace hm := cond_f c hm
            have c_20 := c
            obtain ⟨u1, eu1, hm⟩ := bind_some hm
            refine WR.seg hE 21 [] [15, 16, 134] (Lo := [(15, .int .i64 t_1.1), (16, .int .i64 s2.1), (134, .bool (decide (s2.1 < w64 (1 * 2 ^ (min (Int.toNat (IntKind.wrap .u64 (t_1.1))) 64)))))]) (obs := [.p (0 ≤ IntKind.wrap .u64 (t_1.1))]) rfl (by kernel_rfl) ⟨(nn_spec eu1), trivial⟩ fun a hE => ?_
            rcases Bool.eq_false_or_eq_true (decide (s2.1 < w64 (1 * 2 ^ (min (Int.toNat (IntKind.wrap .u64 (t_1.1))) 64)))) with c | c
            · replace hE := hE.dec 134 c (by kernel_rfl)
              replace hm := cond_t c hm
              have c_21 := c
              refine WR.seg hE 28 [] [16, 141] (Lo := [(16, .int .i64 s2.1), (141, .bool true)]) (obs := []) rfl (by kernel_rfl) trivial fun a hE => ?_
              refine WR.done rfl ?_
              replace H := thicketlaw11_world.shut al_w_ (s2.2.2) H.t3.t3.t3.t3
              cases hm
              exact hk _ _ ⟨hE.sel [16, 141] (by kernel_rfl), H⟩
            · replace hE := hE.dec 134 c (by kernel_rfl)
              replace hm := cond_f c hm
              have c_22 := c
              obtain ⟨u2, eu2, hm⟩ := bind_some hm
              refine WR.seg hE 28 [] [16, 141] (Lo := [(16, .int .i64 s2.1), (141, .bool (decide (s2.1 > w64 ((w64 (2 * 2 ^ (min (Int.toNat (IntKind.wrap .u64 (t_1.1))) 64))) - 1))))]) (obs := [.p (0 ≤ IntKind.wrap .u64 (t_1.1))]) rfl (by kernel_rfl) ⟨(nn_spec eu2), trivial⟩ fun a hE => ?_
              refine WR.done rfl ?_
              replace H := thicketlaw11_world.shut al_w_ (s2.2.2) H.t3.t3.t3.t3
              cases hm
              exact hk _ _ ⟨hE.sel [16, 141] (by kernel_rfl), H⟩
      rintro a w ⟨hE, H⟩
      refine Runs.cond hE rfl (fun c => ?_) (fun c => ?_)
      · replace hm := cond_t c hm
        refine Runs.seq ?_
        refine Runs.region ?_
        refine WR.seg hE 1 [] [12] (Lo := [(12, .int .i64 0)]) (obs := []) rfl (by kernel_rfl) trivial fun a hE => ?_
        refine WR.done rfl ?_
        refine Runs.ret hE Tryz.func52 rfl rfl ?_
        cases hm
        exact ⟨rfl, H⟩
      · replace hm := cond_f c hm
        refine Runs.skip ?_
        refine Runs.seq ?_
        refine Runs.region ?_
        refine WR.seg hE 2 [] [12] (Lo := [(12, .int .i64 s2.1)]) (obs := []) rfl (by kernel_rfl) trivial fun a hE => ?_
        refine WR.done rfl ?_
        refine Runs.ret hE Tryz.func52 rfl rfl ?_
        cases hm
        exact ⟨rfl, H⟩

theorem thicketlaw11_world_tree_at1_ok {w0 : World} {k : Nat} : ∀ {w : World} {As : List HP} {p_w_ : Nat} {al_w_ : thicketlaw11_world.A} {w_ : thicketlaw11_world} {n : Int} {up : Int} {above : thicketlaw11_held} {top : Bool} {t : Int × thicketlaw11_world}  (hm : thicketlaw11_world_tree_at1 k w_ n up above top = some t) (H : St w0 (thicketlaw11_world.R p_w_ al_w_ w_ :: As) w),
    CallsR Tryz.prog 52 #[.pointer (some ⟨p_w_, 0, none⟩), .int .i64 1, .int .i64 n, .int .i64 up, .agg #[.int .i64 above.cell, .int .i64 above.e.Key, .int .i64 above.e.Serial], .bool top] w fun v w' => v = .int .i64 t.1 ∧ St w0 (thicketlaw11_world.R p_w_ al_w_ t.2 :: As) w' := by
  induction k with
  | zero => intro w As p_w_ al_w_ w_ n up above top t hm H; simp [thicketlaw11_world_tree_at1] at hm
  | succ k ihf =>
    intro w As p_w_ al_w_ w_ n up above top t hm H
    rw [thicketlaw11_world_tree_at1] at hm
    refine enter (args := [.pointer (some ⟨p_w_, 0, none⟩), .int .i64 1, .int .i64 n, .int .i64 up, .agg #[.int .i64 above.cell, .int .i64 above.e.Key, .int .i64 above.e.Serial], .bool top]) Tryz.func52 rfl rfl rfl fun a hE => ?_
    refine Runs.seq ?_
    refine Runs.region ?_
    refine WR.eff hE rfl rfl rfl rfl (OpTo.new hE H [] (.cells #[.int .i64 above.cell, .int .i64 above.e.Key, .int .i64 above.e.Serial] 48 (0, 0)) (fun r => .pointer (some ⟨r, 0, none⟩)) (obs := []) rfl (fun _ => by kernel_rfl) trivial) ?_
    rintro _ w ⟨r, rfl, H⟩ a hE
    refine WR.seg hE 2 [] [0, 1, 2, 3, 5, 10] (Lo := [(0, .pointer (some ⟨p_w_, 0, none⟩)), (1, .int .i64 1), (2, .int .i64 n), (3, .int .i64 up), (5, .bool top), (10, .pointer (some ⟨r, 0, none⟩))]) (obs := []) rfl (by kernel_rfl) trivial fun a hE => ?_
    refine WR.done rfl ?_
    refine Runs.seq ?_
    refine Runs.region ?_
    refine WR.seg hE 3 [] [0, 1, 2, 3, 5, 10, 22, 23, 24] (Lo := [(0, .pointer (some ⟨p_w_, 0, none⟩)), (1, .int .i64 1), (2, .int .i64 n), (3, .int .i64 up), (5, .bool top), (10, .pointer (some ⟨r, 0, none⟩)), (22, .pointer (some ⟨p_w_, 0, none⟩)), (23, .int .i64 1), (24, .int .i64 n)]) (obs := []) rfl (by kernel_rfl) trivial fun a hE => ?_
    obtain ⟨t_, et_, hm⟩ := bind_some hm
    refine WR.eff hE rfl rfl rfl rfl (OpTo.fn hE rfl rfl Tryz.call74 (thicketlaw11_world_node_ok et_ H.t1)) ?_
    rintro _ w ⟨rfl, H⟩ a hE
    refine WR.seg hE 7 [] [0, 1, 2, 3, 5, 10, 26, 27] (Lo := [(0, .pointer (some ⟨p_w_, 0, none⟩)), (1, .int .i64 1), (2, .int .i64 n), (3, .int .i64 up), (5, .bool top), (10, .pointer (some ⟨r, 0, none⟩)), (26, .agg #[.int .i64 t_.1.cell, .int .i64 t_.1.e.Key, .int .i64 t_.1.e.Serial]), (27, .bool t_.2.1)]) (obs := []) rfl (by kernel_rfl) trivial fun a hE => ?_
    refine WR.eff hE rfl rfl rfl rfl (OpTo.new hE H [] (.cells #[.int .i64 0, .int .i64 0, .int .i64 0] 48 (0, 0)) (fun r => .pointer (some ⟨r, 0, none⟩)) (obs := []) rfl (fun _ => by kernel_rfl) trivial) ?_
    rintro _ w ⟨r1, rfl, H⟩ a hE
    refine WR.eff0 hE rfl rfl rfl (OpTo.store hE H rfl rfl rfl rfl rfl rfl (Nat.le_of_ble_eq_true rfl)) ?_
    rintro _ w H a hE
    refine WR.seg hE 10 [] [0, 1, 2, 3, 5, 10, 13, 14] (Lo := [(0, .pointer (some ⟨p_w_, 0, none⟩)), (1, .int .i64 1), (2, .int .i64 n), (3, .int .i64 up), (5, .bool top), (10, .pointer (some ⟨r, 0, none⟩)), (13, .pointer (some ⟨r1, 0, none⟩)), (14, .bool t_.2.1)]) (obs := []) rfl (by kernel_rfl) trivial fun a hE => ?_
    refine WR.done rfl ?_
    refine Runs.seq ?_
    refine Runs.region ?_
    replace H := thicketlaw11_world.open H.t1
    refine WR.seg hE 5 [.pointer (some ⟨al_w_.a__p, 0, none⟩)] [0, 1, 2, 3, 5, 10, 13, 14, 31, 32] (Lo := [(0, .pointer (some ⟨p_w_, 0, none⟩)), (1, .int .i64 1), (2, .int .i64 n), (3, .int .i64 up), (5, .bool top), (10, .pointer (some ⟨r, 0, none⟩)), (13, .pointer (some ⟨r1, 0, none⟩)), (14, .bool t_.2.1), (31, .pointer (some ⟨al_w_.a__p, 0, none⟩)), (32, .int .i64 n)]) (obs := [.cell ⟨p_w_, 0, none⟩ (.pointer (some ⟨al_w_.a__p, 0, none⟩))]) rfl (by kernel_rfl) ⟨H.cell 0 rfl rfl, trivial⟩ fun a hE => ?_
    obtain ⟨t_1, et_1, hm⟩ := bind_some hm
    refine WR.eff hE rfl rfl rfl rfl (OpTo.fn hE rfl rfl Tryz.call51 (arena_Arena_Get_ok et_1 H.t1)) ?_
    rintro _ w ⟨rfl, hf1, hf, H⟩ a hE
    refine WR.seg hE 7 [] [0, 1, 2, 3, 5, 10, 13, 14, 15] (Lo := [(0, .pointer (some ⟨p_w_, 0, none⟩)), (1, .int .i64 1), (2, .int .i64 n), (3, .int .i64 up), (5, .bool top), (10, .pointer (some ⟨r, 0, none⟩)), (13, .pointer (some ⟨r1, 0, none⟩)), (14, .bool t_.2.1), (15, .int .i64 t_1.1)]) (obs := []) rfl (by kernel_rfl) trivial fun a hE => ?_
    refine WR.done rfl ?_
    refine Runs.seq ?_
    refine Runs.seq ?_
    replace H := thicketlaw11_world.shut al_w_ (thicketlaw11_world.mk t_1.2 t_.2.2.root0 t_.2.2.root1 t_.2.2.has0 t_.2.2.has1 t_.2.2.next t_.2.2.spent t_.2.2.most) H.t3.t3.t2.t3
    obtain ⟨s, es, hm⟩ := bind_some hm
    refine Runs.join (fun a w => EnvOk 143 a [(0, .pointer (some ⟨p_w_, 0, none⟩)), (1, .int .i64 1), (2, .int .i64 n), (13, .pointer (some ⟨r1, 0, none⟩)), (15, .int .i64 t_1.1), (71, .bool s.1)] ∧ St w0 (thicketlaw11_world.R p_w_ al_w_ s.2 :: Blk r1 48 [.int .i64 t_.1.cell, .int .i64 t_.1.e.Key, .int .i64 t_.1.e.Serial] :: As) w) (fun hk => ?_) ?_
    · replace hm := es; clear es
      refine Runs.region ?_
      refine WR.seg hE 3 [] [0, 1, 2, 3, 5, 10, 13, 15, 36] (Lo := [(0, .pointer (some ⟨p_w_, 0, none⟩)), (1, .int .i64 1), (2, .int .i64 n), (3, .int .i64 up), (5, .bool top), (10, .pointer (some ⟨r, 0, none⟩)), (13, .pointer (some ⟨r1, 0, none⟩)), (15, .int .i64 t_1.1), (36, .bool (!t_.2.1))]) (obs := []) rfl (by kernel_rfl) trivial fun a hE => ?_
      rcases Bool.eq_false_or_eq_true (!t_.2.1) with c | c
      · replace hE := hE.dec 36 c (by kernel_rfl)
        replace hm := cond_t c hm
        have c_ := c
        refine WR.seg hE 38 [] [0, 1, 2, 13, 15, 71] (Lo := [(0, .pointer (some ⟨p_w_, 0, none⟩)), (1, .int .i64 1), (2, .int .i64 n), (13, .pointer (some ⟨r1, 0, none⟩)), (15, .int .i64 t_1.1), (71, .bool true)]) (obs := []) rfl (by kernel_rfl) trivial fun a hE => ?_
        refine WR.done rfl ?_
        cases hm
        exact hk _ _ ⟨hE.sel [0, 1, 2, 13, 15, 71] (by kernel_rfl), H.x2.t1.t1⟩
      · replace hE := hE.dec 36 c (by kernel_rfl)
        replace hm := cond_f c hm
        have c_1 := c
        refine WR.seg hE 7 [] [0, 1, 2, 3, 5, 10, 13, 15, 40] (Lo := [(0, .pointer (some ⟨p_w_, 0, none⟩)), (1, .int .i64 1), (2, .int .i64 n), (3, .int .i64 up), (5, .bool top), (10, .pointer (some ⟨r, 0, none⟩)), (13, .pointer (some ⟨r1, 0, none⟩)), (15, .int .i64 t_1.1), (40, .bool (decide (t_1.1 < 0)))]) (obs := []) rfl (by kernel_rfl) trivial fun a hE => ?_
        rcases Bool.eq_false_or_eq_true (decide (t_1.1 < 0)) with c | c
        · replace hE := hE.dec 40 c (by kernel_rfl)
          replace hm := cond_t c hm
          have c_2 := c
          refine WR.seg hE 38 [] [0, 1, 2, 13, 15, 71] (Lo := [(0, .pointer (some ⟨p_w_, 0, none⟩)), (1, .int .i64 1), (2, .int .i64 n), (13, .pointer (some ⟨r1, 0, none⟩)), (15, .int .i64 t_1.1), (71, .bool true)]) (obs := []) rfl (by kernel_rfl) trivial fun a hE => ?_
          refine WR.done rfl ?_
          cases hm
          exact hk _ _ ⟨hE.sel [0, 1, 2, 13, 15, 71] (by kernel_rfl), H.x2.t1.t1⟩
        · replace hE := hE.dec 40 c (by kernel_rfl)
          replace hm := cond_f c hm
          have c_3 := c
          refine WR.seg hE 11 [] [0, 1, 2, 3, 5, 10, 13, 15, 44] (Lo := [(0, .pointer (some ⟨p_w_, 0, none⟩)), (1, .int .i64 1), (2, .int .i64 n), (3, .int .i64 up), (5, .bool top), (10, .pointer (some ⟨r, 0, none⟩)), (13, .pointer (some ⟨r1, 0, none⟩)), (15, .int .i64 t_1.1), (44, .bool (decide (t_1.1 > 20)))]) (obs := []) rfl (by kernel_rfl) trivial fun a hE => ?_
          rcases Bool.eq_false_or_eq_true (decide (t_1.1 > 20)) with c | c
          · replace hE := hE.dec 44 c (by kernel_rfl)
            replace hm := cond_t c hm
            have c_4 := c
            refine WR.seg hE 38 [] [0, 1, 2, 13, 15, 71] (Lo := [(0, .pointer (some ⟨p_w_, 0, none⟩)), (1, .int .i64 1), (2, .int .i64 n), (13, .pointer (some ⟨r1, 0, none⟩)), (15, .int .i64 t_1.1), (71, .bool true)]) (obs := []) rfl (by kernel_rfl) trivial fun a hE => ?_
            refine WR.done rfl ?_
            cases hm
            exact hk _ _ ⟨hE.sel [0, 1, 2, 13, 15, 71] (by kernel_rfl), H.x2.t1.t1⟩
          · replace hE := hE.dec 44 c (by kernel_rfl)
            replace hm := cond_f c hm
            have c_5 := c
            replace H := thicketlaw11_world.open H
            try dsimp only at H
            refine WR.seg hE 16 [.pointer (some ⟨al_w_.a__p, 0, none⟩)] [0, 1, 2, 3, 5, 10, 13, 15, 44, 48, 49] (Lo := [(0, .pointer (some ⟨p_w_, 0, none⟩)), (1, .int .i64 1), (2, .int .i64 n), (3, .int .i64 up), (5, .bool top), (10, .pointer (some ⟨r, 0, none⟩)), (13, .pointer (some ⟨r1, 0, none⟩)), (15, .int .i64 t_1.1), (44, .bool false), (48, .pointer (some ⟨al_w_.a__p, 0, none⟩)), (49, .int .i64 n)]) (obs := [.cell ⟨p_w_, 0, none⟩ (.pointer (some ⟨al_w_.a__p, 0, none⟩))]) rfl (by kernel_rfl) ⟨H.cell 0 rfl rfl, trivial⟩ fun a hE => ?_
            obtain ⟨t_2, et_2, hm⟩ := bind_some hm
            refine WR.eff hE rfl rfl rfl rfl (OpTo.fn hE rfl rfl Tryz.call45 (arena_Arena_Cell_ok et_2 H.t1)) ?_
            rintro _ w ⟨rfl, H⟩ a hE
            refine WR.seg hE 21 [] [0, 1, 2, 5, 10, 13, 15, 54] (Lo := [(0, .pointer (some ⟨p_w_, 0, none⟩)), (1, .int .i64 1), (2, .int .i64 n), (5, .bool top), (10, .pointer (some ⟨r, 0, none⟩)), (13, .pointer (some ⟨r1, 0, none⟩)), (15, .int .i64 t_1.1), (54, .bool (t_2.1 != up))]) (obs := []) rfl (by kernel_rfl) trivial fun a hE => ?_
            rcases Bool.eq_false_or_eq_true (t_2.1 != up) with c | c
            · replace hE := hE.dec 54 c (by kernel_rfl)
              replace hm := cond_t c hm
              have c_6 := c
              refine WR.seg hE 38 [] [0, 1, 2, 13, 15, 71] (Lo := [(0, .pointer (some ⟨p_w_, 0, none⟩)), (1, .int .i64 1), (2, .int .i64 n), (13, .pointer (some ⟨r1, 0, none⟩)), (15, .int .i64 t_1.1), (71, .bool true)]) (obs := []) rfl (by kernel_rfl) trivial fun a hE => ?_
              refine WR.done rfl ?_
              replace H := thicketlaw11_world.shut al_w_ (thicketlaw11_world.mk t_2.2 t_.2.2.root0 t_.2.2.root1 t_.2.2.has0 t_.2.2.has1 t_.2.2.next t_.2.2.spent t_.2.2.most) H.t3.t3.t2.t3
              cases hm
              exact hk _ _ ⟨hE.sel [0, 1, 2, 13, 15, 71] (by kernel_rfl), H.x2.t1.t1⟩
            · replace hE := hE.dec 54 c (by kernel_rfl)
              replace hm := cond_f c hm
              have c_7 := c
              refine WR.seg hE 26 [.pointer (some ⟨al_w_.a__p, 0, none⟩)] [0, 1, 2, 5, 10, 13, 15, 54, 58, 59] (Lo := [(0, .pointer (some ⟨p_w_, 0, none⟩)), (1, .int .i64 1), (2, .int .i64 n), (5, .bool top), (10, .pointer (some ⟨r, 0, none⟩)), (13, .pointer (some ⟨r1, 0, none⟩)), (15, .int .i64 t_1.1), (54, .bool false), (58, .pointer (some ⟨al_w_.a__p, 0, none⟩)), (59, .int .i64 n)]) (obs := [.cell ⟨p_w_, 0, none⟩ (.pointer (some ⟨al_w_.a__p, 0, none⟩))]) rfl (by kernel_rfl) ⟨H.cell 1 rfl rfl, trivial⟩ fun a hE => ?_
              obtain ⟨t_3, et_3, hm⟩ := bind_some hm
              refine WR.eff hE rfl rfl rfl rfl (OpTo.fn hE rfl rfl Tryz.call45 (arena_Arena_Cell_ok et_3 H)) ?_
              rintro _ w ⟨rfl, H⟩ a hE
              refine WR.seg hE 30 [] [0, 1, 2, 5, 10, 13, 15, 63] (Lo := [(0, .pointer (some ⟨p_w_, 0, none⟩)), (1, .int .i64 1), (2, .int .i64 n), (5, .bool top), (10, .pointer (some ⟨r, 0, none⟩)), (13, .pointer (some ⟨r1, 0, none⟩)), (15, .int .i64 t_1.1), (63, .bool (t_3.1 != (-1)))]) (obs := []) rfl (by kernel_rfl) trivial fun a hE => ?_
              rcases Bool.eq_false_or_eq_true (t_3.1 != (-1)) with c | c
              · replace hE := hE.dec 63 c (by kernel_rfl)
                replace hm := cond_t c hm
                have c_8 := c
                refine WR.seg hE 38 [] [0, 1, 2, 13, 15, 71] (Lo := [(0, .pointer (some ⟨p_w_, 0, none⟩)), (1, .int .i64 1), (2, .int .i64 n), (13, .pointer (some ⟨r1, 0, none⟩)), (15, .int .i64 t_1.1), (71, .bool true)]) (obs := []) rfl (by kernel_rfl) trivial fun a hE => ?_
                refine WR.done rfl ?_
                replace H := thicketlaw11_world.shut al_w_ (thicketlaw11_world.mk t_3.2 t_.2.2.root0 t_.2.2.root1 t_.2.2.has0 t_.2.2.has1 t_.2.2.next t_.2.2.spent t_.2.2.most) H.t3.t3.t2.t3
                cases hm
                exact hk _ _ ⟨hE.sel [0, 1, 2, 13, 15, 71] (by kernel_rfl), H.x2.t1.t1⟩
              · replace hE := hE.dec 63 c (by kernel_rfl)
                replace hm := cond_f c hm
                have c_9 := c
                refine WR.seg hE 33 [] [0, 1, 2, 10, 13, 15, 63, 66] (Lo := [(0, .pointer (some ⟨p_w_, 0, none⟩)), (1, .int .i64 1), (2, .int .i64 n), (10, .pointer (some ⟨r, 0, none⟩)), (13, .pointer (some ⟨r1, 0, none⟩)), (15, .int .i64 t_1.1), (63, .bool false), (66, .bool (!top))]) (obs := []) rfl (by kernel_rfl) trivial fun a hE => ?_
                rcases Bool.eq_false_or_eq_true (!top) with c | c
                · replace hE := hE.dec 66 c (by kernel_rfl)
                  replace hm := cond_t c hm
                  have c_10 := c
                  refine WR.seg hE 35 [.int .i64 t_.1.cell, .int .i64 t_.1.e.Key, .int .i64 t_.1.e.Serial, .int .i64 above.cell, .int .i64 above.e.Key, .int .i64 above.e.Serial] [0, 1, 2, 13, 15, 63, 66, 67, 68] (Lo := [(0, .pointer (some ⟨p_w_, 0, none⟩)), (1, .int .i64 1), (2, .int .i64 n), (13, .pointer (some ⟨r1, 0, none⟩)), (15, .int .i64 t_1.1), (63, .bool false), (66, .bool true), (67, .agg #[.int .i64 t_.1.cell, .int .i64 t_.1.e.Key, .int .i64 t_.1.e.Serial]), (68, .agg #[.int .i64 above.cell, .int .i64 above.e.Key, .int .i64 above.e.Serial])]) (obs := [.cell ⟨r1, 0, none⟩ (.int .i64 t_.1.cell), .cell ⟨r1, 1, none⟩ (.int .i64 t_.1.e.Key), .cell ⟨r1, 2, none⟩ (.int .i64 t_.1.e.Serial), .cell ⟨r, 0, none⟩ (.int .i64 above.cell), .cell ⟨r, 1, none⟩ (.int .i64 above.e.Key), .cell ⟨r, 2, none⟩ (.int .i64 above.e.Serial)]) rfl (by kernel_rfl) ⟨H.cell 4 rfl rfl, H.cell 4 rfl rfl, H.cell 4 rfl rfl, H.cell 5 rfl rfl, H.cell 5 rfl rfl, H.cell 5 rfl rfl, trivial⟩ fun a hE => ?_
                  obtain ⟨t_4, et_4, hm⟩ := bind_some hm
                  refine WR.eff hE rfl rfl rfl rfl (OpTo.fn hE rfl rfl Tryz.call48 (thicketlaw11_before_ok et_4 H)) ?_
                  rintro _ w ⟨rfl, H⟩ a hE
                  refine WR.seg hE 38 [] [0, 1, 2, 13, 15, 71] (Lo := [(0, .pointer (some ⟨p_w_, 0, none⟩)), (1, .int .i64 1), (2, .int .i64 n), (13, .pointer (some ⟨r1, 0, none⟩)), (15, .int .i64 t_1.1), (71, .bool t_4)]) (obs := []) rfl (by kernel_rfl) trivial fun a hE => ?_
                  refine WR.done rfl ?_
                  replace H := thicketlaw11_world.shut al_w_ (thicketlaw11_world.mk t_3.2 t_.2.2.root0 t_.2.2.root1 t_.2.2.has0 t_.2.2.has1 t_.2.2.next t_.2.2.spent t_.2.2.most) H.t3.t3.t2.t3
                  cases hm
                  exact hk _ _ ⟨hE.sel [0, 1, 2, 13, 15, 71] (by kernel_rfl), H.x2.t1.t1⟩
                · replace hE := hE.dec 66 c (by kernel_rfl)
                  replace hm := cond_f c hm
                  have c_11 := c
                  refine WR.seg hE 38 [] [0, 1, 2, 13, 15, 71] (Lo := [(0, .pointer (some ⟨p_w_, 0, none⟩)), (1, .int .i64 1), (2, .int .i64 n), (13, .pointer (some ⟨r1, 0, none⟩)), (15, .int .i64 t_1.1), (71, .bool false)]) (obs := []) rfl (by kernel_rfl) trivial fun a hE => ?_
                  refine WR.done rfl ?_
                  replace H := thicketlaw11_world.shut al_w_ (thicketlaw11_world.mk t_3.2 t_.2.2.root0 t_.2.2.root1 t_.2.2.has0 t_.2.2.has1 t_.2.2.next t_.2.2.spent t_.2.2.most) H.t3.t3.t2.t3
                  cases hm
                  exact hk _ _ ⟨hE.sel [0, 1, 2, 13, 15, 71] (by kernel_rfl), H.x2.t1.t1⟩
    rintro a w ⟨hE, H⟩
    refine Runs.cond hE rfl (fun c => ?_) (fun c => ?_)
    · replace hm := cond_t c hm
      refine Runs.seq ?_
      refine Runs.region ?_
      refine WR.seg hE 1 [] [12] (Lo := [(12, .int .i64 0)]) (obs := []) rfl (by kernel_rfl) trivial fun a hE => ?_
      refine WR.done rfl ?_
      refine Runs.ret hE Tryz.func52 rfl rfl ?_
      cases hm
      exact ⟨rfl, H.x1⟩
    · replace hm := cond_f c hm
      refine Runs.skip ?_
      refine Runs.seq ?_
      refine Runs.region ?_
      refine WR.seg hE 1 [] [0, 1, 2, 13, 15, 16] (Lo := [(0, .pointer (some ⟨p_w_, 0, none⟩)), (1, .int .i64 1), (2, .int .i64 n), (13, .pointer (some ⟨r1, 0, none⟩)), (15, .int .i64 t_1.1), (16, .int .i64 1)]) (obs := []) rfl (by kernel_rfl) trivial fun a hE => ?_
      refine WR.done rfl ?_
      refine Runs.seq ?_
      refine Runs.region ?_
      replace H := thicketlaw11_world.open H
      refine WR.seg hE 5 [.pointer (some ⟨al_w_.a__p, 0, none⟩)] [0, 1, 2, 13, 15, 16, 75, 76] (Lo := [(0, .pointer (some ⟨p_w_, 0, none⟩)), (1, .int .i64 1), (2, .int .i64 n), (13, .pointer (some ⟨r1, 0, none⟩)), (15, .int .i64 t_1.1), (16, .int .i64 1), (75, .pointer (some ⟨al_w_.a__p, 0, none⟩)), (76, .int .i64 n)]) (obs := [.cell ⟨p_w_, 0, none⟩ (.pointer (some ⟨al_w_.a__p, 0, none⟩))]) rfl (by kernel_rfl) ⟨H.cell 0 rfl rfl, trivial⟩ fun a hE => ?_
      obtain ⟨t_5, et_5, hm⟩ := bind_some hm
      refine WR.eff hE rfl rfl rfl rfl (OpTo.fn hE rfl rfl Tryz.call45 (arena_Arena_Cell_ok et_5 H.t1)) ?_
      rintro _ w ⟨rfl, H⟩ a hE
      refine WR.seg hE 7 [] [0, 1, 2, 13, 15, 16, 17] (Lo := [(0, .pointer (some ⟨p_w_, 0, none⟩)), (1, .int .i64 1), (2, .int .i64 n), (13, .pointer (some ⟨r1, 0, none⟩)), (15, .int .i64 t_1.1), (16, .int .i64 1), (17, .int .i64 t_5.1)]) (obs := []) rfl (by kernel_rfl) trivial fun a hE => ?_
      refine WR.done rfl ?_
      refine Runs.seq ?_
      refine Runs.seq ?_
      refine Runs.region ?_
      refine WR.seg hE 1 [] [0, 1, 2, 13, 15, 16, 17, 18] (Lo := [(0, .pointer (some ⟨p_w_, 0, none⟩)), (1, .int .i64 1), (2, .int .i64 n), (13, .pointer (some ⟨r1, 0, none⟩)), (15, .int .i64 t_1.1), (16, .int .i64 1), (17, .int .i64 t_5.1), (18, .int .i64 0)]) (obs := []) rfl (by kernel_rfl) trivial fun a hE => ?_
      refine WR.done rfl ?_
      replace H := thicketlaw11_world.shut al_w_ (thicketlaw11_world.mk t_5.2 s.2.root0 s.2.root1 s.2.has0 s.2.has1 s.2.next s.2.spent s.2.most) H.t3.t3.t2.t3
      obtain ⟨s1, es1, hR⟩ := bind_some hm
      refine Runs.join (fun a w => ∃ s2, s1 = Sum.inr s2 ∧ EnvOk 143 a [(0, .pointer (some ⟨p_w_, 0, none⟩)), (1, .int .i64 1), (15, .int .i64 t_1.1), (16, .int .i64 s2.1), (17, .int .i64 s2.2.1)] ∧ St w0 (thicketlaw11_world.R p_w_ al_w_ s2.2.2 :: As) w) (fun hk => ?_) ?_
      · replace hm := es1; clear es1
        refine Runs.block ?_
        refine Runs.loop (fun m a w => ∃ (size : Int), ∃ (c_12 : Int), ∃ (i : Int), ∃ (m_ : thicketlaw11_world), EnvOk 143 a [(0, .pointer (some ⟨p_w_, 0, none⟩)), (1, .int .i64 1), (2, .int .i64 n), (13, .pointer (some ⟨r1, 0, none⟩)), (15, .int .i64 t_1.1), (16, .int .i64 size), (17, .int .i64 c_12), (18, .int .i64 i)] ∧ St w0 (thicketlaw11_world.R p_w_ al_w_ m_ :: Blk r1 48 [.int .i64 t_.1.cell, .int .i64 t_.1.e.Key, .int .i64 t_.1.e.Serial] :: As) w ∧ thicketlaw11_world_tree_at1_l0 (thicketlaw11_world_tree_at1 k) n t_1.1 t_.1.cell t_.1.e.Key t_.1.e.Serial m size c_12 i m_ = some s1) k ⟨1, t_5.1, 0, thicketlaw11_world.mk t_5.2 s.2.root0 s.2.root1 s.2.has0 s.2.has1 s.2.next s.2.spent s.2.most, hE.sel [0, 1, 2, 13, 15, 16, 17, 18] (by kernel_rfl), H.t1.t1, hm⟩ ?_
        rintro m ih a w ⟨size, c_12, i, m_, hE, H, hm⟩
        cases m with
        | zero => simp [thicketlaw11_world_tree_at1_l0] at hm
        | succ m =>
          rw [thicketlaw11_world_tree_at1_l0] at hm
          refine Runs.seq ?_
          refine Runs.seq ?_
          refine Runs.join (fun a w => EnvOk 143 a [(0, .pointer (some ⟨p_w_, 0, none⟩)), (1, .int .i64 1), (2, .int .i64 n), (13, .pointer (some ⟨r1, 0, none⟩)), (15, .int .i64 t_1.1), (16, .int .i64 size), (17, .int .i64 c_12), (18, .int .i64 i), (83, .bool ((decide (i < 60)) && (c_12 != (-1))))] ∧ St w0 (thicketlaw11_world.R p_w_ al_w_ m_ :: Blk r1 48 [.int .i64 t_.1.cell, .int .i64 t_.1.e.Key, .int .i64 t_.1.e.Serial] :: As) w) (fun hk => ?_) ?_
          · clear hm
            refine Runs.region ?_
            refine WR.seg hE 3 [] [0, 1, 2, 13, 15, 16, 17, 18, 80] (Lo := [(0, .pointer (some ⟨p_w_, 0, none⟩)), (1, .int .i64 1), (2, .int .i64 n), (13, .pointer (some ⟨r1, 0, none⟩)), (15, .int .i64 t_1.1), (16, .int .i64 size), (17, .int .i64 c_12), (18, .int .i64 i), (80, .bool (decide (i < 60)))]) (obs := []) rfl (by kernel_rfl) trivial fun a hE => ?_
            rcases Bool.eq_false_or_eq_true (decide (i < 60)) with c | c
            · replace hE := hE.dec 80 c (by kernel_rfl)
              have c_13 := c
              refine WR.seg hE 6 [] [0, 1, 2, 13, 15, 16, 17, 18, 83] (Lo := [(0, .pointer (some ⟨p_w_, 0, none⟩)), (1, .int .i64 1), (2, .int .i64 n), (13, .pointer (some ⟨r1, 0, none⟩)), (15, .int .i64 t_1.1), (16, .int .i64 size), (17, .int .i64 c_12), (18, .int .i64 i), (83, .bool (c_12 != (-1)))]) (obs := []) rfl (by kernel_rfl) trivial fun a hE => ?_
              refine WR.done rfl ?_
              refine hk _ _ ⟨?_, H.t1.t1⟩
              try rw [c_13] at hE
              try rw [c_13]
              exact hE.sel [0, 1, 2, 13, 15, 16, 17, 18, 83] (by kernel_rfl)
            · replace hE := hE.dec 80 c (by kernel_rfl)
              have c_14 := c
              refine WR.seg hE 6 [] [0, 1, 2, 13, 15, 16, 17, 18, 83] (Lo := [(0, .pointer (some ⟨p_w_, 0, none⟩)), (1, .int .i64 1), (2, .int .i64 n), (13, .pointer (some ⟨r1, 0, none⟩)), (15, .int .i64 t_1.1), (16, .int .i64 size), (17, .int .i64 c_12), (18, .int .i64 i), (83, .bool false)]) (obs := []) rfl (by kernel_rfl) trivial fun a hE => ?_
              refine WR.done rfl ?_
              refine hk _ _ ⟨?_, H.t1.t1⟩
              try rw [c_14] at hE
              try rw [c_14]
              exact hE.sel [0, 1, 2, 13, 15, 16, 17, 18, 83] (by kernel_rfl)
          rintro a w ⟨hE, H⟩
          refine Runs.cond hE rfl (fun c => ?_) (fun c => ?_)
          · replace hm := cond_t c hm
            refine Runs.skip ?_
            refine Runs.seq ?_
            refine Runs.block ?_
            refine Runs.seq ?_
            refine Runs.region ?_
            replace H := thicketlaw11_world.open H
            refine WR.seg hE 5 [.pointer (some ⟨al_w_.a__p, 0, none⟩)] [0, 1, 2, 13, 15, 16, 17, 18, 89, 90] (Lo := [(0, .pointer (some ⟨p_w_, 0, none⟩)), (1, .int .i64 1), (2, .int .i64 n), (13, .pointer (some ⟨r1, 0, none⟩)), (15, .int .i64 t_1.1), (16, .int .i64 size), (17, .int .i64 c_12), (18, .int .i64 i), (89, .pointer (some ⟨al_w_.a__p, 0, none⟩)), (90, .int .i64 c_12)]) (obs := [.cell ⟨p_w_, 0, none⟩ (.pointer (some ⟨al_w_.a__p, 0, none⟩))]) rfl (by kernel_rfl) ⟨H.cell 0 rfl rfl, trivial⟩ fun a hE => ?_
            obtain ⟨t_6, et_6, hm⟩ := bind_some hm
            refine WR.eff hE rfl rfl rfl rfl (OpTo.fn hE rfl rfl Tryz.call51 (arena_Arena_Get_ok et_6 H.t1)) ?_
            rintro _ w ⟨rfl, hf3, hf2, H⟩ a hE
            refine WR.seg hE 7 [] [0, 1, 2, 13, 15, 16, 17, 18, 19] (Lo := [(0, .pointer (some ⟨p_w_, 0, none⟩)), (1, .int .i64 1), (2, .int .i64 n), (13, .pointer (some ⟨r1, 0, none⟩)), (15, .int .i64 t_1.1), (16, .int .i64 size), (17, .int .i64 c_12), (18, .int .i64 i), (19, .int .i64 t_6.1)]) (obs := []) rfl (by kernel_rfl) trivial fun a hE => ?_
            refine WR.done rfl ?_
            refine Runs.seq ?_
            refine Runs.region ?_
            refine WR.seg hE 5 [.int .i64 t_.1.cell, .int .i64 t_.1.e.Key, .int .i64 t_.1.e.Serial] [0, 1, 2, 13, 15, 16, 17, 18, 19, 92, 93, 94, 95, 96] (Lo := [(0, .pointer (some ⟨p_w_, 0, none⟩)), (1, .int .i64 1), (2, .int .i64 n), (13, .pointer (some ⟨r1, 0, none⟩)), (15, .int .i64 t_1.1), (16, .int .i64 size), (17, .int .i64 c_12), (18, .int .i64 i), (19, .int .i64 t_6.1), (92, .pointer (some ⟨p_w_, 0, none⟩)), (93, .int .i64 1), (94, .int .i64 c_12), (95, .int .i64 n), (96, .agg #[.int .i64 t_.1.cell, .int .i64 t_.1.e.Key, .int .i64 t_.1.e.Serial])]) (obs := [.cell ⟨r1, 0, none⟩ (.int .i64 t_.1.cell), .cell ⟨r1, 1, none⟩ (.int .i64 t_.1.e.Key), .cell ⟨r1, 2, none⟩ (.int .i64 t_.1.e.Serial)]) rfl (by kernel_rfl) ⟨H.cell 4 rfl rfl, H.cell 4 rfl rfl, H.cell 4 rfl rfl, trivial⟩ fun a hE => ?_
            replace H := thicketlaw11_world.shut al_w_ (thicketlaw11_world.mk t_6.2 m_.root0 m_.root1 m_.has0 m_.has1 m_.next m_.spent m_.most) H.t3.t3.t2.t3
            obtain ⟨t_7, et_7, hm⟩ := bind_some hm
            refine WR.eff hE rfl rfl rfl rfl (OpTo.fn hE rfl rfl Tryz.call52 (ihf et_7 H)) ?_
            rintro _ w ⟨rfl, H⟩ a hE
            refine WR.seg hE 7 [] [0, 1, 2, 13, 15, 16, 17, 18, 19, 20] (Lo := [(0, .pointer (some ⟨p_w_, 0, none⟩)), (1, .int .i64 1), (2, .int .i64 n), (13, .pointer (some ⟨r1, 0, none⟩)), (15, .int .i64 t_1.1), (16, .int .i64 size), (17, .int .i64 c_12), (18, .int .i64 i), (19, .int .i64 t_6.1), (20, .int .i64 t_7.1)]) (obs := []) rfl (by kernel_rfl) trivial fun a hE => ?_
            refine WR.done rfl ?_
            refine Runs.seq ?_
            refine Runs.seq ?_
            refine Runs.join (fun a w => EnvOk 143 a [(0, .pointer (some ⟨p_w_, 0, none⟩)), (1, .int .i64 1), (2, .int .i64 n), (13, .pointer (some ⟨r1, 0, none⟩)), (15, .int .i64 t_1.1), (16, .int .i64 size), (17, .int .i64 c_12), (18, .int .i64 i), (20, .int .i64 t_7.1), (104, .bool ((t_7.1 == 0) || (decide (t_6.1 ≥ t_1.1))))] ∧ St w0 (thicketlaw11_world.R p_w_ al_w_ t_7.2 :: Blk r1 48 [.int .i64 t_.1.cell, .int .i64 t_.1.e.Key, .int .i64 t_.1.e.Serial] :: As) w) (fun hk => ?_) ?_
            · clear hm
              refine Runs.region ?_
              refine WR.seg hE 3 [] [0, 1, 2, 13, 15, 16, 17, 18, 19, 20, 100] (Lo := [(0, .pointer (some ⟨p_w_, 0, none⟩)), (1, .int .i64 1), (2, .int .i64 n), (13, .pointer (some ⟨r1, 0, none⟩)), (15, .int .i64 t_1.1), (16, .int .i64 size), (17, .int .i64 c_12), (18, .int .i64 i), (19, .int .i64 t_6.1), (20, .int .i64 t_7.1), (100, .bool (t_7.1 == 0))]) (obs := []) rfl (by kernel_rfl) trivial fun a hE => ?_
              rcases Bool.eq_false_or_eq_true (t_7.1 == 0) with c | c
              · replace hE := hE.dec 100 c (by kernel_rfl)
                have c_15 := c
                refine WR.seg hE 7 [] [0, 1, 2, 13, 15, 16, 17, 18, 20, 104] (Lo := [(0, .pointer (some ⟨p_w_, 0, none⟩)), (1, .int .i64 1), (2, .int .i64 n), (13, .pointer (some ⟨r1, 0, none⟩)), (15, .int .i64 t_1.1), (16, .int .i64 size), (17, .int .i64 c_12), (18, .int .i64 i), (20, .int .i64 t_7.1), (104, .bool true)]) (obs := []) rfl (by kernel_rfl) trivial fun a hE => ?_
                refine WR.done rfl ?_
                refine hk _ _ ⟨?_, H.t1.t1⟩
                try rw [c_15] at hE
                try rw [c_15]
                exact hE.sel [0, 1, 2, 13, 15, 16, 17, 18, 20, 104] (by kernel_rfl)
              · replace hE := hE.dec 100 c (by kernel_rfl)
                have c_16 := c
                refine WR.seg hE 7 [] [0, 1, 2, 13, 15, 16, 17, 18, 20, 104] (Lo := [(0, .pointer (some ⟨p_w_, 0, none⟩)), (1, .int .i64 1), (2, .int .i64 n), (13, .pointer (some ⟨r1, 0, none⟩)), (15, .int .i64 t_1.1), (16, .int .i64 size), (17, .int .i64 c_12), (18, .int .i64 i), (20, .int .i64 t_7.1), (104, .bool (decide (t_6.1 ≥ t_1.1)))]) (obs := []) rfl (by kernel_rfl) trivial fun a hE => ?_
                refine WR.done rfl ?_
                refine hk _ _ ⟨?_, H.t1.t1⟩
                try rw [c_16] at hE
                try rw [c_16]
                exact hE.sel [0, 1, 2, 13, 15, 16, 17, 18, 20, 104] (by kernel_rfl)
            rintro a w ⟨hE, H⟩
            refine Runs.cond hE rfl (fun c => ?_) (fun c => ?_)
            · replace hm := cond_t c hm
              refine Runs.seq ?_
              refine Runs.region ?_
              refine WR.seg hE 1 [] [12] (Lo := [(12, .int .i64 0)]) (obs := []) rfl (by kernel_rfl) trivial fun a hE => ?_
              refine WR.done rfl ?_
              refine Runs.ret hE Tryz.func52 rfl rfl ?_
              cases hm
              dsimp only at hR; cases hR
              exact ⟨rfl, H.x1⟩
            · replace hm := cond_f c hm
              refine Runs.skip ?_
              refine Runs.seq ?_
              refine Runs.region ?_
              refine WR.seg hE 4 [] [0, 1, 2, 13, 15, 16, 17, 18] (Lo := [(0, .pointer (some ⟨p_w_, 0, none⟩)), (1, .int .i64 1), (2, .int .i64 n), (13, .pointer (some ⟨r1, 0, none⟩)), (15, .int .i64 t_1.1), (16, .int .i64 (w64 (size + t_7.1))), (17, .int .i64 c_12), (18, .int .i64 i)]) (obs := []) rfl (by kernel_rfl) trivial fun a hE => ?_
              refine WR.done rfl ?_
              refine Runs.region ?_
              replace H := thicketlaw11_world.open H
              refine WR.seg hE 5 [.pointer (some ⟨al_w_.a__p, 0, none⟩)] [0, 1, 2, 13, 15, 16, 17, 18, 111, 112] (Lo := [(0, .pointer (some ⟨p_w_, 0, none⟩)), (1, .int .i64 1), (2, .int .i64 n), (13, .pointer (some ⟨r1, 0, none⟩)), (15, .int .i64 t_1.1), (16, .int .i64 (w64 (size + t_7.1))), (17, .int .i64 c_12), (18, .int .i64 i), (111, .pointer (some ⟨al_w_.a__p, 0, none⟩)), (112, .int .i64 c_12)]) (obs := [.cell ⟨p_w_, 0, none⟩ (.pointer (some ⟨al_w_.a__p, 0, none⟩))]) rfl (by kernel_rfl) ⟨H.cell 0 rfl rfl, trivial⟩ fun a hE => ?_
              obtain ⟨t_8, et_8, hm⟩ := bind_some hm
              refine WR.eff hE rfl rfl rfl rfl (OpTo.fn hE rfl rfl Tryz.call45 (arena_Arena_Cell_ok et_8 H.t1)) ?_
              rintro _ w ⟨rfl, H⟩ a hE
              refine WR.seg hE 7 [] [0, 1, 2, 13, 15, 16, 17, 18] (Lo := [(0, .pointer (some ⟨p_w_, 0, none⟩)), (1, .int .i64 1), (2, .int .i64 n), (13, .pointer (some ⟨r1, 0, none⟩)), (15, .int .i64 t_1.1), (16, .int .i64 (w64 (size + t_7.1))), (17, .int .i64 t_8.1), (18, .int .i64 i)]) (obs := []) rfl (by kernel_rfl) trivial fun a hE => ?_
              refine WR.done rfl ?_
              refine Runs.inBlock ?_
              refine Runs.region ?_
              refine WR.seg hE 3 [] [0, 1, 2, 13, 15, 16, 17, 18] (Lo := [(0, .pointer (some ⟨p_w_, 0, none⟩)), (1, .int .i64 1), (2, .int .i64 n), (13, .pointer (some ⟨r1, 0, none⟩)), (15, .int .i64 t_1.1), (16, .int .i64 (w64 (size + t_7.1))), (17, .int .i64 t_8.1), (18, .int .i64 (w64 (i + 1)))]) (obs := []) rfl (by kernel_rfl) trivial fun a hE => ?_
              refine WR.done rfl ?_
              replace H := thicketlaw11_world.shut al_w_ (thicketlaw11_world.mk t_8.2 t_7.2.root0 t_7.2.root1 t_7.2.has0 t_7.2.has1 t_7.2.next t_7.2.spent t_7.2.most) H.t3.t3.t2.t3
              exact ih m (Nat.lt_succ_self m) _ _ ⟨w64 (size + t_7.1), t_8.1, w64 (i + 1), thicketlaw11_world.mk t_8.2 t_7.2.root0 t_7.2.root1 t_7.2.has0 t_7.2.has1 t_7.2.next t_7.2.spent t_7.2.most, hE.sel [0, 1, 2, 13, 15, 16, 17, 18] (by kernel_rfl), H.t1.t1, hm⟩
          · replace hm := cond_f c hm
            refine Runs.exit rfl ?_
            cases hm
            exact hk _ _ ⟨_, rfl, hE.sel [0, 1, 15, 16, 17] (by kernel_rfl), H.x1⟩
      rintro a w ⟨s2, rfl, hE, H⟩
      replace hm := hR; dsimp only at hm
      refine Runs.seq ?_
      refine Runs.seq ?_
      obtain ⟨s3, es3, hm⟩ := bind_some hm
      refine Runs.join (fun a w => EnvOk 143 a [(16, .int .i64 s2.1), (141, .bool s3)] ∧ St w0 (thicketlaw11_world.R p_w_ al_w_ s2.2.2 :: As) w) (fun hk => ?_) ?_
      · replace hm := es3; clear es3
        refine Runs.region ?_
        refine WR.seg hE 3 [] [0, 1, 15, 16, 116] (Lo := [(0, .pointer (some ⟨p_w_, 0, none⟩)), (1, .int .i64 1), (15, .int .i64 t_1.1), (16, .int .i64 s2.1), (116, .bool (s2.2.1 != (-1)))]) (obs := []) rfl (by kernel_rfl) trivial fun a hE => ?_
        rcases Bool.eq_false_or_eq_true (s2.2.1 != (-1)) with c | c
        · replace hE := hE.dec 116 c (by kernel_rfl)
          replace hm := cond_t c hm
          have c_17 := c
          refine WR.seg hE 28 [] [16, 141] (Lo := [(16, .int .i64 s2.1), (141, .bool true)]) (obs := []) rfl (by kernel_rfl) trivial fun a hE => ?_
          refine WR.done rfl ?_
          cases hm
          exact hk _ _ ⟨hE.sel [16, 141] (by kernel_rfl), H⟩
        · replace hE := hE.dec 116 c (by kernel_rfl)
          replace hm := cond_f c hm
          have c_18 := c
          replace H := thicketlaw11_world.open H
          refine WR.seg hE 14 [.slice al_w_.has1_b s2.2.2.has1.length al_w_.has1_c] [15, 16, 127] (Lo := [(15, .int .i64 t_1.1), (16, .int .i64 s2.1), (127, .bool (decide (s2.1 > (s2.2.2.has1.length : Int))))]) (obs := [.p (0 ≤ (1 : Int) ∧ (1 : Int) < ((2 : Nat) : Int)), .cell ⟨p_w_, 4, none⟩ (.slice al_w_.has1_b s2.2.2.has1.length al_w_.has1_c)]) rfl (by kernel_rfl) ⟨⟨by decide, by decide⟩, H.cell 0 rfl rfl, trivial⟩ fun a hE => ?_
          rcases Bool.eq_false_or_eq_true (decide (s2.1 > (s2.2.2.has1.length : Int))) with c | c
          · replace hE := hE.dec 127 c (by kernel_rfl)
            replace hm := cond_t c hm
            have c_19 := c
            refine WR.seg hE 28 [] [16, 141] (Lo := [(16, .int .i64 s2.1), (141, .bool true)]) (obs := []) rfl (by kernel_rfl) trivial fun a hE => ?_
            refine WR.done rfl ?_
            replace H := thicketlaw11_world.shut al_w_ (s2.2.2) H.t3.t3.t3.t3
            cases hm
            exact hk _ _ ⟨hE.sel [16, 141] (by kernel_rfl), H⟩
          · replace hE := hE.dec 127 c (by kernel_rfl)
            replace hm := cond_f c hm
            have c_20 := c
            obtain ⟨u1, eu1, hm⟩ := bind_some hm
            refine WR.seg hE 21 [] [15, 16, 134] (Lo := [(15, .int .i64 t_1.1), (16, .int .i64 s2.1), (134, .bool (decide (s2.1 < w64 (1 * 2 ^ (min (Int.toNat (IntKind.wrap .u64 (t_1.1))) 64)))))]) (obs := [.p (0 ≤ IntKind.wrap .u64 (t_1.1))]) rfl (by kernel_rfl) ⟨(nn_spec eu1), trivial⟩ fun a hE => ?_
            rcases Bool.eq_false_or_eq_true (decide (s2.1 < w64 (1 * 2 ^ (min (Int.toNat (IntKind.wrap .u64 (t_1.1))) 64)))) with c | c
            · replace hE := hE.dec 134 c (by kernel_rfl)
              replace hm := cond_t c hm
              have c_21 := c
              refine WR.seg hE 28 [] [16, 141] (Lo := [(16, .int .i64 s2.1), (141, .bool true)]) (obs := []) rfl (by kernel_rfl) trivial fun a hE => ?_
              refine WR.done rfl ?_
              replace H := thicketlaw11_world.shut al_w_ (s2.2.2) H.t3.t3.t3.t3
              cases hm
              exact hk _ _ ⟨hE.sel [16, 141] (by kernel_rfl), H⟩
            · replace hE := hE.dec 134 c (by kernel_rfl)
              replace hm := cond_f c hm
              have c_22 := c
              obtain ⟨u2, eu2, hm⟩ := bind_some hm
              refine WR.seg hE 28 [] [16, 141] (Lo := [(16, .int .i64 s2.1), (141, .bool (decide (s2.1 > w64 ((w64 (2 * 2 ^ (min (Int.toNat (IntKind.wrap .u64 (t_1.1))) 64))) - 1))))]) (obs := [.p (0 ≤ IntKind.wrap .u64 (t_1.1))]) rfl (by kernel_rfl) ⟨(nn_spec eu2), trivial⟩ fun a hE => ?_
              refine WR.done rfl ?_
              replace H := thicketlaw11_world.shut al_w_ (s2.2.2) H.t3.t3.t3.t3
              cases hm
              exact hk _ _ ⟨hE.sel [16, 141] (by kernel_rfl), H⟩
      rintro a w ⟨hE, H⟩
      refine Runs.cond hE rfl (fun c => ?_) (fun c => ?_)
      · replace hm := cond_t c hm
        refine Runs.seq ?_
        refine Runs.region ?_
        refine WR.seg hE 1 [] [12] (Lo := [(12, .int .i64 0)]) (obs := []) rfl (by kernel_rfl) trivial fun a hE => ?_
        refine WR.done rfl ?_
        refine Runs.ret hE Tryz.func52 rfl rfl ?_
        cases hm
        exact ⟨rfl, H⟩
      · replace hm := cond_f c hm
        refine Runs.skip ?_
        refine Runs.seq ?_
        refine Runs.region ?_
        refine WR.seg hE 2 [] [12] (Lo := [(12, .int .i64 s2.1)]) (obs := []) rfl (by kernel_rfl) trivial fun a hE => ?_
        refine WR.done rfl ?_
        refine Runs.ret hE Tryz.func52 rfl rfl ?_
        cases hm
        exact ⟨rfl, H⟩

theorem thicketlaw11_world_tree_ok {w0 w : World} {As : List HP} {k : Nat} {p_w_ : Nat} {al_w_ : thicketlaw11_world.A} {w_ : thicketlaw11_world} {n : Int} {up : Int} {above : thicketlaw11_held} {top : Bool} {h_ : Int} {t : Int × thicketlaw11_world}  (hm : thicketlaw11_world_tree k w_ h_ n up above top = some t) (H : St w0 (thicketlaw11_world.R p_w_ al_w_ w_ :: As) w) :
    CallsR Tryz.prog 52 #[.pointer (some ⟨p_w_, 0, none⟩), .int .i64 h_, .int .i64 n, .int .i64 up, .agg #[.int .i64 above.cell, .int .i64 above.e.Key, .int .i64 above.e.Serial], .bool top] w fun v w' => v = .int .i64 t.1 ∧ St w0 (thicketlaw11_world.R p_w_ al_w_ t.2 :: As) w' := by
  rw [thicketlaw11_world_tree] at hm
  by_cases h0 : h_ = 0
  · subst h0; simp only [if_pos] at hm
    refine (thicketlaw11_world_tree_at0_ok hm H).mono ?_
    rintro v w' ⟨hv, H⟩; exact ⟨hv, H⟩
  rw [if_neg h0] at hm
  by_cases h1 : h_ = 1
  · subst h1; simp only [if_pos] at hm
    refine (thicketlaw11_world_tree_at1_ok hm H).mono ?_
    rintro v w' ⟨hv, H⟩; exact ⟨hv, H⟩
  rw [if_neg h1] at hm
  cases hm

theorem thicketlaw11_world_shape_at0_ok {w0 w : World} {As : List HP} {k : Nat} {p_w_ : Nat} {al_w_ : thicketlaw11_world.A} {w_ : thicketlaw11_world} {t : Bool × thicketlaw11_world}  (hm : thicketlaw11_world_shape_at0 k w_ = some t) (H : St w0 (thicketlaw11_world.R p_w_ al_w_ w_ :: As) w) :
    CallsR Tryz.prog 27 #[.pointer (some ⟨p_w_, 0, none⟩), .int .i64 0] w fun v w' => v = .bool t.1 ∧ St w0 (thicketlaw11_world.R p_w_ al_w_ t.2 :: As) w' := by
  rw [thicketlaw11_world_shape_at0] at hm
  refine enter (args := [.pointer (some ⟨p_w_, 0, none⟩), .int .i64 0]) Tryz.func27 rfl rfl rfl fun a hE => ?_
  refine Runs.seq ?_
  refine Runs.region ?_
  refine WR.seg hE 1 [] [0, 1] (Lo := [(0, .pointer (some ⟨p_w_, 0, none⟩)), (1, .int .i64 0)]) (obs := []) rfl (by kernel_rfl) trivial fun a hE => ?_
  refine WR.done rfl ?_
  refine Runs.seq ?_
  refine Runs.region ?_
  replace H := thicketlaw11_world.open H
  refine WR.seg hE 7 [.int .i64 w_.root0] [0, 1, 5] (Lo := [(0, .pointer (some ⟨p_w_, 0, none⟩)), (1, .int .i64 0), (5, .int .i64 w_.root0)]) (obs := [.p (0 ≤ (0 : Int) ∧ (0 : Int) < ((2 : Nat) : Int)), .cell ⟨p_w_, 1, none⟩ (.int .i64 w_.root0)]) rfl (by kernel_rfl) ⟨⟨by decide, by decide⟩, H.cell 0 rfl rfl, trivial⟩ fun a hE => ?_
  refine WR.done rfl ?_
  refine Runs.seq ?_
  refine Runs.region ?_
  refine WR.seg hE 1 [] [0, 1, 5, 6] (Lo := [(0, .pointer (some ⟨p_w_, 0, none⟩)), (1, .int .i64 0), (5, .int .i64 w_.root0), (6, .int .i64 0)]) (obs := []) rfl (by kernel_rfl) trivial fun a hE => ?_
  refine WR.done rfl ?_
  refine Runs.seq ?_
  refine Runs.region ?_
  refine WR.seg hE 1 [] [0, 1, 5, 6, 7] (Lo := [(0, .pointer (some ⟨p_w_, 0, none⟩)), (1, .int .i64 0), (5, .int .i64 w_.root0), (6, .int .i64 0), (7, .int .i64 (-1))]) (obs := []) rfl (by kernel_rfl) trivial fun a hE => ?_
  refine WR.done rfl ?_
  refine Runs.seq ?_
  refine Runs.seq ?_
  refine Runs.region ?_
  refine WR.seg hE 1 [] [0, 1, 5, 6, 7, 8] (Lo := [(0, .pointer (some ⟨p_w_, 0, none⟩)), (1, .int .i64 0), (5, .int .i64 w_.root0), (6, .int .i64 0), (7, .int .i64 (-1)), (8, .int .i64 0)]) (obs := []) rfl (by kernel_rfl) trivial fun a hE => ?_
  refine WR.done rfl ?_
  replace H := thicketlaw11_world.shut al_w_ (w_) H.t3.t3.t3.t3
  obtain ⟨s, es, hR⟩ := bind_some hm
  refine Runs.join (fun a w => ∃ s1, s = Sum.inr s1 ∧ EnvOk 75 a [(0, .pointer (some ⟨p_w_, 0, none⟩)), (1, .int .i64 0), (5, .int .i64 s1.1), (6, .int .i64 s1.2.1)] ∧ St w0 (thicketlaw11_world.R p_w_ al_w_ s1.2.2 :: As) w) (fun hk => ?_) ?_
  · replace hm := es; clear es
    refine Runs.block ?_
    refine Runs.loop (fun m a w => ∃ (n : Int), ∃ (all : Int), ∃ (last : Int), ∃ (i : Int), ∃ (m_ : thicketlaw11_world), EnvOk 75 a [(0, .pointer (some ⟨p_w_, 0, none⟩)), (1, .int .i64 0), (5, .int .i64 n), (6, .int .i64 all), (7, .int .i64 last), (8, .int .i64 i)] ∧ St w0 (thicketlaw11_world.R p_w_ al_w_ m_ :: As) w ∧ thicketlaw11_world_shape_at0_l0 m n all last i m_ = some s) k ⟨w_.root0, 0, (-1), 0, w_, hE.sel [0, 1, 5, 6, 7, 8] (by kernel_rfl), H, hm⟩ ?_
    rintro m ih a w ⟨n, all, last, i, m_, hE, H, hm⟩
    cases m with
    | zero => simp [thicketlaw11_world_shape_at0_l0] at hm
    | succ m =>
      rw [thicketlaw11_world_shape_at0_l0] at hm
      refine Runs.seq ?_
      refine Runs.seq ?_
      refine Runs.join (fun a w => EnvOk 75 a [(0, .pointer (some ⟨p_w_, 0, none⟩)), (1, .int .i64 0), (5, .int .i64 n), (6, .int .i64 all), (7, .int .i64 last), (8, .int .i64 i), (22, .bool ((decide (i < 40)) && (n != (-1))))] ∧ St w0 (thicketlaw11_world.R p_w_ al_w_ m_ :: As) w) (fun hk => ?_) ?_
      · clear hm
        refine Runs.region ?_
        refine WR.seg hE 3 [] [0, 1, 5, 6, 7, 8, 19] (Lo := [(0, .pointer (some ⟨p_w_, 0, none⟩)), (1, .int .i64 0), (5, .int .i64 n), (6, .int .i64 all), (7, .int .i64 last), (8, .int .i64 i), (19, .bool (decide (i < 40)))]) (obs := []) rfl (by kernel_rfl) trivial fun a hE => ?_
        rcases Bool.eq_false_or_eq_true (decide (i < 40)) with c | c
        · replace hE := hE.dec 19 c (by kernel_rfl)
          have c_ := c
          refine WR.seg hE 6 [] [0, 1, 5, 6, 7, 8, 22] (Lo := [(0, .pointer (some ⟨p_w_, 0, none⟩)), (1, .int .i64 0), (5, .int .i64 n), (6, .int .i64 all), (7, .int .i64 last), (8, .int .i64 i), (22, .bool (n != (-1)))]) (obs := []) rfl (by kernel_rfl) trivial fun a hE => ?_
          refine WR.done rfl ?_
          refine hk _ _ ⟨?_, H⟩
          try rw [c_] at hE
          try rw [c_]
          exact hE.sel [0, 1, 5, 6, 7, 8, 22] (by kernel_rfl)
        · replace hE := hE.dec 19 c (by kernel_rfl)
          have c_1 := c
          refine WR.seg hE 6 [] [0, 1, 5, 6, 7, 8, 22] (Lo := [(0, .pointer (some ⟨p_w_, 0, none⟩)), (1, .int .i64 0), (5, .int .i64 n), (6, .int .i64 all), (7, .int .i64 last), (8, .int .i64 i), (22, .bool false)]) (obs := []) rfl (by kernel_rfl) trivial fun a hE => ?_
          refine WR.done rfl ?_
          refine hk _ _ ⟨?_, H⟩
          try rw [c_1] at hE
          try rw [c_1]
          exact hE.sel [0, 1, 5, 6, 7, 8, 22] (by kernel_rfl)
      rintro a w ⟨hE, H⟩
      refine Runs.cond hE rfl (fun c => ?_) (fun c => ?_)
      · replace hm := cond_t c hm
        refine Runs.skip ?_
        refine Runs.seq ?_
        refine Runs.block ?_
        refine Runs.seq ?_
        refine Runs.region ?_
        replace H := thicketlaw11_world.open H
        refine WR.seg hE 5 [.pointer (some ⟨al_w_.a__p, 0, none⟩)] [0, 1, 5, 6, 7, 8, 28, 29] (Lo := [(0, .pointer (some ⟨p_w_, 0, none⟩)), (1, .int .i64 0), (5, .int .i64 n), (6, .int .i64 all), (7, .int .i64 last), (8, .int .i64 i), (28, .pointer (some ⟨al_w_.a__p, 0, none⟩)), (29, .int .i64 n)]) (obs := [.cell ⟨p_w_, 0, none⟩ (.pointer (some ⟨al_w_.a__p, 0, none⟩))]) rfl (by kernel_rfl) ⟨H.cell 0 rfl rfl, trivial⟩ fun a hE => ?_
        obtain ⟨t_, et_, hm⟩ := bind_some hm
        refine WR.eff hE rfl rfl rfl rfl (OpTo.fn hE rfl rfl Tryz.call51 (arena_Arena_Get_ok et_ H.t1)) ?_
        rintro _ w ⟨rfl, hf1, hf, H⟩ a hE
        refine WR.seg hE 7 [] [0, 1, 5, 6, 7, 8, 9] (Lo := [(0, .pointer (some ⟨p_w_, 0, none⟩)), (1, .int .i64 0), (5, .int .i64 n), (6, .int .i64 all), (7, .int .i64 last), (8, .int .i64 i), (9, .int .i64 t_.1)]) (obs := []) rfl (by kernel_rfl) trivial fun a hE => ?_
        refine WR.done rfl ?_
        refine Runs.seq ?_
        refine Runs.region ?_
        refine WR.seg hE 4 [] [0, 1, 5, 6, 7, 8, 9, 31, 32, 33, 34] (Lo := [(0, .pointer (some ⟨p_w_, 0, none⟩)), (1, .int .i64 0), (5, .int .i64 n), (6, .int .i64 all), (7, .int .i64 last), (8, .int .i64 i), (9, .int .i64 t_.1), (31, .pointer (some ⟨p_w_, 0, none⟩)), (32, .int .i64 0), (33, .int .i64 n), (34, .agg #[.int .i64 0, .int .i64 0, .int .i64 0])]) (obs := []) rfl (by kernel_rfl) trivial fun a hE => ?_
        replace H := thicketlaw11_world.shut al_w_ (thicketlaw11_world.mk t_.2 m_.root0 m_.root1 m_.has0 m_.has1 m_.next m_.spent m_.most) H.t3.t3.t2.t3
        obtain ⟨t_1, et_1, hm⟩ := bind_some hm
        have hC_ := thicketlaw11_world_tree_ok et_1 H
        try dsimp only at hC_
        refine WR.eff hE rfl rfl rfl rfl (OpTo.fn hE rfl rfl Tryz.call52 hC_) ?_
        rintro _ w ⟨rfl, H⟩ a hE
        refine WR.seg hE 6 [] [0, 1, 5, 6, 7, 8, 9, 10] (Lo := [(0, .pointer (some ⟨p_w_, 0, none⟩)), (1, .int .i64 0), (5, .int .i64 n), (6, .int .i64 all), (7, .int .i64 last), (8, .int .i64 i), (9, .int .i64 t_.1), (10, .int .i64 t_1.1)]) (obs := []) rfl (by kernel_rfl) trivial fun a hE => ?_
        refine WR.done rfl ?_
        refine Runs.seq ?_
        refine Runs.seq ?_
        refine Runs.join (fun a w => EnvOk 75 a [(0, .pointer (some ⟨p_w_, 0, none⟩)), (1, .int .i64 0), (5, .int .i64 n), (6, .int .i64 all), (8, .int .i64 i), (9, .int .i64 t_.1), (10, .int .i64 t_1.1), (51, .bool (((t_1.1 == 0) || (decide (t_.1 < last))) || ((t_.1 == last) && (decide (i > 1)))))] ∧ St w0 (thicketlaw11_world.R p_w_ al_w_ t_1.2 :: As) w) (fun hk => ?_) ?_
        · clear hm
          refine Runs.region ?_
          refine WR.seg hE 3 [] [0, 1, 5, 6, 7, 8, 9, 10, 38] (Lo := [(0, .pointer (some ⟨p_w_, 0, none⟩)), (1, .int .i64 0), (5, .int .i64 n), (6, .int .i64 all), (7, .int .i64 last), (8, .int .i64 i), (9, .int .i64 t_.1), (10, .int .i64 t_1.1), (38, .bool (t_1.1 == 0))]) (obs := []) rfl (by kernel_rfl) trivial fun a hE => ?_
          rcases Bool.eq_false_or_eq_true (t_1.1 == 0) with c | c
          · replace hE := hE.dec 38 c (by kernel_rfl)
            have c_2 := c
            refine WR.seg hE 16 [] [0, 1, 5, 6, 8, 9, 10, 51] (Lo := [(0, .pointer (some ⟨p_w_, 0, none⟩)), (1, .int .i64 0), (5, .int .i64 n), (6, .int .i64 all), (8, .int .i64 i), (9, .int .i64 t_.1), (10, .int .i64 t_1.1), (51, .bool true)]) (obs := []) rfl (by kernel_rfl) trivial fun a hE => ?_
            refine WR.done rfl ?_
            refine hk _ _ ⟨?_, H⟩
            try rw [c_2] at hE
            try rw [c_2]
            exact hE.sel [0, 1, 5, 6, 8, 9, 10, 51] (by kernel_rfl)
          · replace hE := hE.dec 38 c (by kernel_rfl)
            have c_3 := c
            refine WR.seg hE 8 [] [0, 1, 5, 6, 7, 8, 9, 10, 43] (Lo := [(0, .pointer (some ⟨p_w_, 0, none⟩)), (1, .int .i64 0), (5, .int .i64 n), (6, .int .i64 all), (7, .int .i64 last), (8, .int .i64 i), (9, .int .i64 t_.1), (10, .int .i64 t_1.1), (43, .bool (decide (t_.1 < last)))]) (obs := []) rfl (by kernel_rfl) trivial fun a hE => ?_
            rcases Bool.eq_false_or_eq_true (decide (t_.1 < last)) with c | c
            · replace hE := hE.dec 43 c (by kernel_rfl)
              have c_4 := c
              refine WR.seg hE 16 [] [0, 1, 5, 6, 8, 9, 10, 51] (Lo := [(0, .pointer (some ⟨p_w_, 0, none⟩)), (1, .int .i64 0), (5, .int .i64 n), (6, .int .i64 all), (8, .int .i64 i), (9, .int .i64 t_.1), (10, .int .i64 t_1.1), (51, .bool true)]) (obs := []) rfl (by kernel_rfl) trivial fun a hE => ?_
              refine WR.done rfl ?_
              refine hk _ _ ⟨?_, H⟩
              try rw [c_3] at hE
              try rw [c_3]
              try rw [c_4] at hE
              try rw [c_4]
              exact hE.sel [0, 1, 5, 6, 8, 9, 10, 51] (by kernel_rfl)
            · replace hE := hE.dec 43 c (by kernel_rfl)
              have c_5 := c
              refine WR.seg hE 12 [] [0, 1, 5, 6, 8, 9, 10, 43, 47] (Lo := [(0, .pointer (some ⟨p_w_, 0, none⟩)), (1, .int .i64 0), (5, .int .i64 n), (6, .int .i64 all), (8, .int .i64 i), (9, .int .i64 t_.1), (10, .int .i64 t_1.1), (43, .bool false), (47, .bool (t_.1 == last))]) (obs := []) rfl (by kernel_rfl) trivial fun a hE => ?_
              rcases Bool.eq_false_or_eq_true (t_.1 == last) with c | c
              · replace hE := hE.dec 47 c (by kernel_rfl)
                have c_6 := c
                refine WR.seg hE 16 [] [0, 1, 5, 6, 8, 9, 10, 51] (Lo := [(0, .pointer (some ⟨p_w_, 0, none⟩)), (1, .int .i64 0), (5, .int .i64 n), (6, .int .i64 all), (8, .int .i64 i), (9, .int .i64 t_.1), (10, .int .i64 t_1.1), (51, .bool (decide (i > 1)))]) (obs := []) rfl (by kernel_rfl) trivial fun a hE => ?_
                refine WR.done rfl ?_
                refine hk _ _ ⟨?_, H⟩
                try rw [c_3] at hE
                try rw [c_3]
                try rw [c_5] at hE
                try rw [c_5]
                try rw [c_6] at hE
                try rw [c_6]
                exact hE.sel [0, 1, 5, 6, 8, 9, 10, 51] (by kernel_rfl)
              · replace hE := hE.dec 47 c (by kernel_rfl)
                have c_7 := c
                refine WR.seg hE 16 [] [0, 1, 5, 6, 8, 9, 10, 51] (Lo := [(0, .pointer (some ⟨p_w_, 0, none⟩)), (1, .int .i64 0), (5, .int .i64 n), (6, .int .i64 all), (8, .int .i64 i), (9, .int .i64 t_.1), (10, .int .i64 t_1.1), (51, .bool false)]) (obs := []) rfl (by kernel_rfl) trivial fun a hE => ?_
                refine WR.done rfl ?_
                refine hk _ _ ⟨?_, H⟩
                try rw [c_3] at hE
                try rw [c_3]
                try rw [c_5] at hE
                try rw [c_5]
                try rw [c_7] at hE
                try rw [c_7]
                exact hE.sel [0, 1, 5, 6, 8, 9, 10, 51] (by kernel_rfl)
        rintro a w ⟨hE, H⟩
        refine Runs.cond hE rfl (fun c => ?_) (fun c => ?_)
        · replace hm := cond_t c hm
          refine Runs.seq ?_
          refine Runs.region ?_
          refine WR.seg hE 1 [] [4] (Lo := [(4, .bool false)]) (obs := []) rfl (by kernel_rfl) trivial fun a hE => ?_
          refine WR.done rfl ?_
          refine Runs.ret hE Tryz.func27 rfl rfl ?_
          cases hm
          dsimp only at hR; cases hR
          exact ⟨rfl, H⟩
        · replace hm := cond_f c hm
          refine Runs.skip ?_
          refine Runs.seq ?_
          refine Runs.region ?_
          refine WR.seg hE 6 [] [0, 1, 5, 6, 7, 8] (Lo := [(0, .pointer (some ⟨p_w_, 0, none⟩)), (1, .int .i64 0), (5, .int .i64 n), (6, .int .i64 (w64 (all + t_1.1))), (7, .int .i64 t_.1), (8, .int .i64 i)]) (obs := []) rfl (by kernel_rfl) trivial fun a hE => ?_
          refine WR.done rfl ?_
          refine Runs.region ?_
          replace H := thicketlaw11_world.open H
          refine WR.seg hE 5 [.pointer (some ⟨al_w_.a__p, 0, none⟩)] [0, 1, 5, 6, 7, 8, 59, 60] (Lo := [(0, .pointer (some ⟨p_w_, 0, none⟩)), (1, .int .i64 0), (5, .int .i64 n), (6, .int .i64 (w64 (all + t_1.1))), (7, .int .i64 t_.1), (8, .int .i64 i), (59, .pointer (some ⟨al_w_.a__p, 0, none⟩)), (60, .int .i64 n)]) (obs := [.cell ⟨p_w_, 0, none⟩ (.pointer (some ⟨al_w_.a__p, 0, none⟩))]) rfl (by kernel_rfl) ⟨H.cell 0 rfl rfl, trivial⟩ fun a hE => ?_
          obtain ⟨t_2, et_2, hm⟩ := bind_some hm
          refine WR.eff hE rfl rfl rfl rfl (OpTo.fn hE rfl rfl Tryz.call45 (arena_Arena_Cell_ok et_2 H.t1)) ?_
          rintro _ w ⟨rfl, H⟩ a hE
          refine WR.seg hE 7 [] [0, 1, 5, 6, 7, 8] (Lo := [(0, .pointer (some ⟨p_w_, 0, none⟩)), (1, .int .i64 0), (5, .int .i64 t_2.1), (6, .int .i64 (w64 (all + t_1.1))), (7, .int .i64 t_.1), (8, .int .i64 i)]) (obs := []) rfl (by kernel_rfl) trivial fun a hE => ?_
          refine WR.done rfl ?_
          refine Runs.inBlock ?_
          refine Runs.region ?_
          refine WR.seg hE 3 [] [0, 1, 5, 6, 7, 8] (Lo := [(0, .pointer (some ⟨p_w_, 0, none⟩)), (1, .int .i64 0), (5, .int .i64 t_2.1), (6, .int .i64 (w64 (all + t_1.1))), (7, .int .i64 t_.1), (8, .int .i64 (w64 (i + 1)))]) (obs := []) rfl (by kernel_rfl) trivial fun a hE => ?_
          refine WR.done rfl ?_
          replace H := thicketlaw11_world.shut al_w_ (thicketlaw11_world.mk t_2.2 t_1.2.root0 t_1.2.root1 t_1.2.has0 t_1.2.has1 t_1.2.next t_1.2.spent t_1.2.most) H.t3.t3.t2.t3
          exact ih m (Nat.lt_succ_self m) _ _ ⟨t_2.1, w64 (all + t_1.1), t_.1, w64 (i + 1), thicketlaw11_world.mk t_2.2 t_1.2.root0 t_1.2.root1 t_1.2.has0 t_1.2.has1 t_1.2.next t_1.2.spent t_1.2.most, hE.sel [0, 1, 5, 6, 7, 8] (by kernel_rfl), H, hm⟩
      · replace hm := cond_f c hm
        refine Runs.exit rfl ?_
        cases hm
        exact hk _ _ ⟨_, rfl, hE.sel [0, 1, 5, 6] (by kernel_rfl), H⟩
  rintro a w ⟨s1, rfl, hE, H⟩
  replace hm := hR; dsimp only at hm
  refine Runs.seq ?_
  obtain ⟨s2, es2, hm⟩ := bind_some hm
  refine Runs.join (fun a w => EnvOk 75 a [(4, .bool s2)] ∧ St w0 (thicketlaw11_world.R p_w_ al_w_ s1.2.2 :: As) w) (fun hk => ?_) ?_
  · replace hm := es2; clear es2
    refine Runs.region ?_
    refine WR.seg hE 3 [] [0, 1, 6, 64] (Lo := [(0, .pointer (some ⟨p_w_, 0, none⟩)), (1, .int .i64 0), (6, .int .i64 s1.2.1), (64, .bool (s1.1 == (-1)))]) (obs := []) rfl (by kernel_rfl) trivial fun a hE => ?_
    rcases Bool.eq_false_or_eq_true (s1.1 == (-1)) with c | c
    · replace hE := hE.dec 64 c (by kernel_rfl)
      replace hm := cond_t c hm
      have c_8 := c
      replace H := thicketlaw11_world.open H
      refine WR.seg hE 14 [.slice al_w_.has0_b s1.2.2.has0.length al_w_.has0_c] [4] (Lo := [(4, .bool (s1.2.1 == (s1.2.2.has0.length : Int)))]) (obs := [.p (0 ≤ (0 : Int) ∧ (0 : Int) < ((2 : Nat) : Int)), .cell ⟨p_w_, 3, none⟩ (.slice al_w_.has0_b s1.2.2.has0.length al_w_.has0_c)]) rfl (by kernel_rfl) ⟨⟨by decide, by decide⟩, H.cell 0 rfl rfl, trivial⟩ fun a hE => ?_
      refine WR.done rfl ?_
      replace H := thicketlaw11_world.shut al_w_ (s1.2.2) H.t3.t3.t3.t3
      cases hm
      exact hk _ _ ⟨hE.sel [4] (by kernel_rfl), H⟩
    · replace hE := hE.dec 64 c (by kernel_rfl)
      replace hm := cond_f c hm
      have c_9 := c
      refine WR.seg hE 14 [] [4] (Lo := [(4, .bool false)]) (obs := []) rfl (by kernel_rfl) trivial fun a hE => ?_
      refine WR.done rfl ?_
      cases hm
      exact hk _ _ ⟨hE.sel [4] (by kernel_rfl), H⟩
  rintro a w ⟨hE, H⟩
  refine Runs.ret hE Tryz.func27 rfl rfl ?_
  cases hm
  exact ⟨rfl, H⟩

theorem thicketlaw11_world_shape_at1_ok {w0 w : World} {As : List HP} {k : Nat} {p_w_ : Nat} {al_w_ : thicketlaw11_world.A} {w_ : thicketlaw11_world} {t : Bool × thicketlaw11_world}  (hm : thicketlaw11_world_shape_at1 k w_ = some t) (H : St w0 (thicketlaw11_world.R p_w_ al_w_ w_ :: As) w) :
    CallsR Tryz.prog 27 #[.pointer (some ⟨p_w_, 0, none⟩), .int .i64 1] w fun v w' => v = .bool t.1 ∧ St w0 (thicketlaw11_world.R p_w_ al_w_ t.2 :: As) w' := by
  rw [thicketlaw11_world_shape_at1] at hm
  refine enter (args := [.pointer (some ⟨p_w_, 0, none⟩), .int .i64 1]) Tryz.func27 rfl rfl rfl fun a hE => ?_
  refine Runs.seq ?_
  refine Runs.region ?_
  refine WR.seg hE 1 [] [0, 1] (Lo := [(0, .pointer (some ⟨p_w_, 0, none⟩)), (1, .int .i64 1)]) (obs := []) rfl (by kernel_rfl) trivial fun a hE => ?_
  refine WR.done rfl ?_
  refine Runs.seq ?_
  refine Runs.region ?_
  replace H := thicketlaw11_world.open H
  refine WR.seg hE 7 [.int .i64 w_.root1] [0, 1, 5] (Lo := [(0, .pointer (some ⟨p_w_, 0, none⟩)), (1, .int .i64 1), (5, .int .i64 w_.root1)]) (obs := [.p (0 ≤ (1 : Int) ∧ (1 : Int) < ((2 : Nat) : Int)), .cell ⟨p_w_, 2, none⟩ (.int .i64 w_.root1)]) rfl (by kernel_rfl) ⟨⟨by decide, by decide⟩, H.cell 0 rfl rfl, trivial⟩ fun a hE => ?_
  refine WR.done rfl ?_
  refine Runs.seq ?_
  refine Runs.region ?_
  refine WR.seg hE 1 [] [0, 1, 5, 6] (Lo := [(0, .pointer (some ⟨p_w_, 0, none⟩)), (1, .int .i64 1), (5, .int .i64 w_.root1), (6, .int .i64 0)]) (obs := []) rfl (by kernel_rfl) trivial fun a hE => ?_
  refine WR.done rfl ?_
  refine Runs.seq ?_
  refine Runs.region ?_
  refine WR.seg hE 1 [] [0, 1, 5, 6, 7] (Lo := [(0, .pointer (some ⟨p_w_, 0, none⟩)), (1, .int .i64 1), (5, .int .i64 w_.root1), (6, .int .i64 0), (7, .int .i64 (-1))]) (obs := []) rfl (by kernel_rfl) trivial fun a hE => ?_
  refine WR.done rfl ?_
  refine Runs.seq ?_
  refine Runs.seq ?_
  refine Runs.region ?_
  refine WR.seg hE 1 [] [0, 1, 5, 6, 7, 8] (Lo := [(0, .pointer (some ⟨p_w_, 0, none⟩)), (1, .int .i64 1), (5, .int .i64 w_.root1), (6, .int .i64 0), (7, .int .i64 (-1)), (8, .int .i64 0)]) (obs := []) rfl (by kernel_rfl) trivial fun a hE => ?_
  refine WR.done rfl ?_
  replace H := thicketlaw11_world.shut al_w_ (w_) H.t3.t3.t3.t3
  obtain ⟨s, es, hR⟩ := bind_some hm
  refine Runs.join (fun a w => ∃ s1, s = Sum.inr s1 ∧ EnvOk 75 a [(0, .pointer (some ⟨p_w_, 0, none⟩)), (1, .int .i64 1), (5, .int .i64 s1.1), (6, .int .i64 s1.2.1)] ∧ St w0 (thicketlaw11_world.R p_w_ al_w_ s1.2.2 :: As) w) (fun hk => ?_) ?_
  · replace hm := es; clear es
    refine Runs.block ?_
    refine Runs.loop (fun m a w => ∃ (n : Int), ∃ (all : Int), ∃ (last : Int), ∃ (i : Int), ∃ (m_ : thicketlaw11_world), EnvOk 75 a [(0, .pointer (some ⟨p_w_, 0, none⟩)), (1, .int .i64 1), (5, .int .i64 n), (6, .int .i64 all), (7, .int .i64 last), (8, .int .i64 i)] ∧ St w0 (thicketlaw11_world.R p_w_ al_w_ m_ :: As) w ∧ thicketlaw11_world_shape_at1_l0 m n all last i m_ = some s) k ⟨w_.root1, 0, (-1), 0, w_, hE.sel [0, 1, 5, 6, 7, 8] (by kernel_rfl), H, hm⟩ ?_
    rintro m ih a w ⟨n, all, last, i, m_, hE, H, hm⟩
    cases m with
    | zero => simp [thicketlaw11_world_shape_at1_l0] at hm
    | succ m =>
      rw [thicketlaw11_world_shape_at1_l0] at hm
      refine Runs.seq ?_
      refine Runs.seq ?_
      refine Runs.join (fun a w => EnvOk 75 a [(0, .pointer (some ⟨p_w_, 0, none⟩)), (1, .int .i64 1), (5, .int .i64 n), (6, .int .i64 all), (7, .int .i64 last), (8, .int .i64 i), (22, .bool ((decide (i < 40)) && (n != (-1))))] ∧ St w0 (thicketlaw11_world.R p_w_ al_w_ m_ :: As) w) (fun hk => ?_) ?_
      · clear hm
        refine Runs.region ?_
        refine WR.seg hE 3 [] [0, 1, 5, 6, 7, 8, 19] (Lo := [(0, .pointer (some ⟨p_w_, 0, none⟩)), (1, .int .i64 1), (5, .int .i64 n), (6, .int .i64 all), (7, .int .i64 last), (8, .int .i64 i), (19, .bool (decide (i < 40)))]) (obs := []) rfl (by kernel_rfl) trivial fun a hE => ?_
        rcases Bool.eq_false_or_eq_true (decide (i < 40)) with c | c
        · replace hE := hE.dec 19 c (by kernel_rfl)
          have c_ := c
          refine WR.seg hE 6 [] [0, 1, 5, 6, 7, 8, 22] (Lo := [(0, .pointer (some ⟨p_w_, 0, none⟩)), (1, .int .i64 1), (5, .int .i64 n), (6, .int .i64 all), (7, .int .i64 last), (8, .int .i64 i), (22, .bool (n != (-1)))]) (obs := []) rfl (by kernel_rfl) trivial fun a hE => ?_
          refine WR.done rfl ?_
          refine hk _ _ ⟨?_, H⟩
          try rw [c_] at hE
          try rw [c_]
          exact hE.sel [0, 1, 5, 6, 7, 8, 22] (by kernel_rfl)
        · replace hE := hE.dec 19 c (by kernel_rfl)
          have c_1 := c
          refine WR.seg hE 6 [] [0, 1, 5, 6, 7, 8, 22] (Lo := [(0, .pointer (some ⟨p_w_, 0, none⟩)), (1, .int .i64 1), (5, .int .i64 n), (6, .int .i64 all), (7, .int .i64 last), (8, .int .i64 i), (22, .bool false)]) (obs := []) rfl (by kernel_rfl) trivial fun a hE => ?_
          refine WR.done rfl ?_
          refine hk _ _ ⟨?_, H⟩
          try rw [c_1] at hE
          try rw [c_1]
          exact hE.sel [0, 1, 5, 6, 7, 8, 22] (by kernel_rfl)
      rintro a w ⟨hE, H⟩
      refine Runs.cond hE rfl (fun c => ?_) (fun c => ?_)
      · replace hm := cond_t c hm
        refine Runs.skip ?_
        refine Runs.seq ?_
        refine Runs.block ?_
        refine Runs.seq ?_
        refine Runs.region ?_
        replace H := thicketlaw11_world.open H
        refine WR.seg hE 5 [.pointer (some ⟨al_w_.a__p, 0, none⟩)] [0, 1, 5, 6, 7, 8, 28, 29] (Lo := [(0, .pointer (some ⟨p_w_, 0, none⟩)), (1, .int .i64 1), (5, .int .i64 n), (6, .int .i64 all), (7, .int .i64 last), (8, .int .i64 i), (28, .pointer (some ⟨al_w_.a__p, 0, none⟩)), (29, .int .i64 n)]) (obs := [.cell ⟨p_w_, 0, none⟩ (.pointer (some ⟨al_w_.a__p, 0, none⟩))]) rfl (by kernel_rfl) ⟨H.cell 0 rfl rfl, trivial⟩ fun a hE => ?_
        obtain ⟨t_, et_, hm⟩ := bind_some hm
        refine WR.eff hE rfl rfl rfl rfl (OpTo.fn hE rfl rfl Tryz.call51 (arena_Arena_Get_ok et_ H.t1)) ?_
        rintro _ w ⟨rfl, hf1, hf, H⟩ a hE
        refine WR.seg hE 7 [] [0, 1, 5, 6, 7, 8, 9] (Lo := [(0, .pointer (some ⟨p_w_, 0, none⟩)), (1, .int .i64 1), (5, .int .i64 n), (6, .int .i64 all), (7, .int .i64 last), (8, .int .i64 i), (9, .int .i64 t_.1)]) (obs := []) rfl (by kernel_rfl) trivial fun a hE => ?_
        refine WR.done rfl ?_
        refine Runs.seq ?_
        refine Runs.region ?_
        refine WR.seg hE 4 [] [0, 1, 5, 6, 7, 8, 9, 31, 32, 33, 34] (Lo := [(0, .pointer (some ⟨p_w_, 0, none⟩)), (1, .int .i64 1), (5, .int .i64 n), (6, .int .i64 all), (7, .int .i64 last), (8, .int .i64 i), (9, .int .i64 t_.1), (31, .pointer (some ⟨p_w_, 0, none⟩)), (32, .int .i64 1), (33, .int .i64 n), (34, .agg #[.int .i64 0, .int .i64 0, .int .i64 0])]) (obs := []) rfl (by kernel_rfl) trivial fun a hE => ?_
        replace H := thicketlaw11_world.shut al_w_ (thicketlaw11_world.mk t_.2 m_.root0 m_.root1 m_.has0 m_.has1 m_.next m_.spent m_.most) H.t3.t3.t2.t3
        obtain ⟨t_1, et_1, hm⟩ := bind_some hm
        have hC_ := thicketlaw11_world_tree_ok et_1 H
        try dsimp only at hC_
        refine WR.eff hE rfl rfl rfl rfl (OpTo.fn hE rfl rfl Tryz.call52 hC_) ?_
        rintro _ w ⟨rfl, H⟩ a hE
        refine WR.seg hE 6 [] [0, 1, 5, 6, 7, 8, 9, 10] (Lo := [(0, .pointer (some ⟨p_w_, 0, none⟩)), (1, .int .i64 1), (5, .int .i64 n), (6, .int .i64 all), (7, .int .i64 last), (8, .int .i64 i), (9, .int .i64 t_.1), (10, .int .i64 t_1.1)]) (obs := []) rfl (by kernel_rfl) trivial fun a hE => ?_
        refine WR.done rfl ?_
        refine Runs.seq ?_
        refine Runs.seq ?_
        refine Runs.join (fun a w => EnvOk 75 a [(0, .pointer (some ⟨p_w_, 0, none⟩)), (1, .int .i64 1), (5, .int .i64 n), (6, .int .i64 all), (8, .int .i64 i), (9, .int .i64 t_.1), (10, .int .i64 t_1.1), (51, .bool (((t_1.1 == 0) || (decide (t_.1 < last))) || ((t_.1 == last) && (decide (i > 1)))))] ∧ St w0 (thicketlaw11_world.R p_w_ al_w_ t_1.2 :: As) w) (fun hk => ?_) ?_
        · clear hm
          refine Runs.region ?_
          refine WR.seg hE 3 [] [0, 1, 5, 6, 7, 8, 9, 10, 38] (Lo := [(0, .pointer (some ⟨p_w_, 0, none⟩)), (1, .int .i64 1), (5, .int .i64 n), (6, .int .i64 all), (7, .int .i64 last), (8, .int .i64 i), (9, .int .i64 t_.1), (10, .int .i64 t_1.1), (38, .bool (t_1.1 == 0))]) (obs := []) rfl (by kernel_rfl) trivial fun a hE => ?_
          rcases Bool.eq_false_or_eq_true (t_1.1 == 0) with c | c
          · replace hE := hE.dec 38 c (by kernel_rfl)
            have c_2 := c
            refine WR.seg hE 16 [] [0, 1, 5, 6, 8, 9, 10, 51] (Lo := [(0, .pointer (some ⟨p_w_, 0, none⟩)), (1, .int .i64 1), (5, .int .i64 n), (6, .int .i64 all), (8, .int .i64 i), (9, .int .i64 t_.1), (10, .int .i64 t_1.1), (51, .bool true)]) (obs := []) rfl (by kernel_rfl) trivial fun a hE => ?_
            refine WR.done rfl ?_
            refine hk _ _ ⟨?_, H⟩
            try rw [c_2] at hE
            try rw [c_2]
            exact hE.sel [0, 1, 5, 6, 8, 9, 10, 51] (by kernel_rfl)
          · replace hE := hE.dec 38 c (by kernel_rfl)
            have c_3 := c
            refine WR.seg hE 8 [] [0, 1, 5, 6, 7, 8, 9, 10, 43] (Lo := [(0, .pointer (some ⟨p_w_, 0, none⟩)), (1, .int .i64 1), (5, .int .i64 n), (6, .int .i64 all), (7, .int .i64 last), (8, .int .i64 i), (9, .int .i64 t_.1), (10, .int .i64 t_1.1), (43, .bool (decide (t_.1 < last)))]) (obs := []) rfl (by kernel_rfl) trivial fun a hE => ?_
            rcases Bool.eq_false_or_eq_true (decide (t_.1 < last)) with c | c
            · replace hE := hE.dec 43 c (by kernel_rfl)
              have c_4 := c
              refine WR.seg hE 16 [] [0, 1, 5, 6, 8, 9, 10, 51] (Lo := [(0, .pointer (some ⟨p_w_, 0, none⟩)), (1, .int .i64 1), (5, .int .i64 n), (6, .int .i64 all), (8, .int .i64 i), (9, .int .i64 t_.1), (10, .int .i64 t_1.1), (51, .bool true)]) (obs := []) rfl (by kernel_rfl) trivial fun a hE => ?_
              refine WR.done rfl ?_
              refine hk _ _ ⟨?_, H⟩
              try rw [c_3] at hE
              try rw [c_3]
              try rw [c_4] at hE
              try rw [c_4]
              exact hE.sel [0, 1, 5, 6, 8, 9, 10, 51] (by kernel_rfl)
            · replace hE := hE.dec 43 c (by kernel_rfl)
              have c_5 := c
              refine WR.seg hE 12 [] [0, 1, 5, 6, 8, 9, 10, 43, 47] (Lo := [(0, .pointer (some ⟨p_w_, 0, none⟩)), (1, .int .i64 1), (5, .int .i64 n), (6, .int .i64 all), (8, .int .i64 i), (9, .int .i64 t_.1), (10, .int .i64 t_1.1), (43, .bool false), (47, .bool (t_.1 == last))]) (obs := []) rfl (by kernel_rfl) trivial fun a hE => ?_
              rcases Bool.eq_false_or_eq_true (t_.1 == last) with c | c
              · replace hE := hE.dec 47 c (by kernel_rfl)
                have c_6 := c
                refine WR.seg hE 16 [] [0, 1, 5, 6, 8, 9, 10, 51] (Lo := [(0, .pointer (some ⟨p_w_, 0, none⟩)), (1, .int .i64 1), (5, .int .i64 n), (6, .int .i64 all), (8, .int .i64 i), (9, .int .i64 t_.1), (10, .int .i64 t_1.1), (51, .bool (decide (i > 1)))]) (obs := []) rfl (by kernel_rfl) trivial fun a hE => ?_
                refine WR.done rfl ?_
                refine hk _ _ ⟨?_, H⟩
                try rw [c_3] at hE
                try rw [c_3]
                try rw [c_5] at hE
                try rw [c_5]
                try rw [c_6] at hE
                try rw [c_6]
                exact hE.sel [0, 1, 5, 6, 8, 9, 10, 51] (by kernel_rfl)
              · replace hE := hE.dec 47 c (by kernel_rfl)
                have c_7 := c
                refine WR.seg hE 16 [] [0, 1, 5, 6, 8, 9, 10, 51] (Lo := [(0, .pointer (some ⟨p_w_, 0, none⟩)), (1, .int .i64 1), (5, .int .i64 n), (6, .int .i64 all), (8, .int .i64 i), (9, .int .i64 t_.1), (10, .int .i64 t_1.1), (51, .bool false)]) (obs := []) rfl (by kernel_rfl) trivial fun a hE => ?_
                refine WR.done rfl ?_
                refine hk _ _ ⟨?_, H⟩
                try rw [c_3] at hE
                try rw [c_3]
                try rw [c_5] at hE
                try rw [c_5]
                try rw [c_7] at hE
                try rw [c_7]
                exact hE.sel [0, 1, 5, 6, 8, 9, 10, 51] (by kernel_rfl)
        rintro a w ⟨hE, H⟩
        refine Runs.cond hE rfl (fun c => ?_) (fun c => ?_)
        · replace hm := cond_t c hm
          refine Runs.seq ?_
          refine Runs.region ?_
          refine WR.seg hE 1 [] [4] (Lo := [(4, .bool false)]) (obs := []) rfl (by kernel_rfl) trivial fun a hE => ?_
          refine WR.done rfl ?_
          refine Runs.ret hE Tryz.func27 rfl rfl ?_
          cases hm
          dsimp only at hR; cases hR
          exact ⟨rfl, H⟩
        · replace hm := cond_f c hm
          refine Runs.skip ?_
          refine Runs.seq ?_
          refine Runs.region ?_
          refine WR.seg hE 6 [] [0, 1, 5, 6, 7, 8] (Lo := [(0, .pointer (some ⟨p_w_, 0, none⟩)), (1, .int .i64 1), (5, .int .i64 n), (6, .int .i64 (w64 (all + t_1.1))), (7, .int .i64 t_.1), (8, .int .i64 i)]) (obs := []) rfl (by kernel_rfl) trivial fun a hE => ?_
          refine WR.done rfl ?_
          refine Runs.region ?_
          replace H := thicketlaw11_world.open H
          refine WR.seg hE 5 [.pointer (some ⟨al_w_.a__p, 0, none⟩)] [0, 1, 5, 6, 7, 8, 59, 60] (Lo := [(0, .pointer (some ⟨p_w_, 0, none⟩)), (1, .int .i64 1), (5, .int .i64 n), (6, .int .i64 (w64 (all + t_1.1))), (7, .int .i64 t_.1), (8, .int .i64 i), (59, .pointer (some ⟨al_w_.a__p, 0, none⟩)), (60, .int .i64 n)]) (obs := [.cell ⟨p_w_, 0, none⟩ (.pointer (some ⟨al_w_.a__p, 0, none⟩))]) rfl (by kernel_rfl) ⟨H.cell 0 rfl rfl, trivial⟩ fun a hE => ?_
          obtain ⟨t_2, et_2, hm⟩ := bind_some hm
          refine WR.eff hE rfl rfl rfl rfl (OpTo.fn hE rfl rfl Tryz.call45 (arena_Arena_Cell_ok et_2 H.t1)) ?_
          rintro _ w ⟨rfl, H⟩ a hE
          refine WR.seg hE 7 [] [0, 1, 5, 6, 7, 8] (Lo := [(0, .pointer (some ⟨p_w_, 0, none⟩)), (1, .int .i64 1), (5, .int .i64 t_2.1), (6, .int .i64 (w64 (all + t_1.1))), (7, .int .i64 t_.1), (8, .int .i64 i)]) (obs := []) rfl (by kernel_rfl) trivial fun a hE => ?_
          refine WR.done rfl ?_
          refine Runs.inBlock ?_
          refine Runs.region ?_
          refine WR.seg hE 3 [] [0, 1, 5, 6, 7, 8] (Lo := [(0, .pointer (some ⟨p_w_, 0, none⟩)), (1, .int .i64 1), (5, .int .i64 t_2.1), (6, .int .i64 (w64 (all + t_1.1))), (7, .int .i64 t_.1), (8, .int .i64 (w64 (i + 1)))]) (obs := []) rfl (by kernel_rfl) trivial fun a hE => ?_
          refine WR.done rfl ?_
          replace H := thicketlaw11_world.shut al_w_ (thicketlaw11_world.mk t_2.2 t_1.2.root0 t_1.2.root1 t_1.2.has0 t_1.2.has1 t_1.2.next t_1.2.spent t_1.2.most) H.t3.t3.t2.t3
          exact ih m (Nat.lt_succ_self m) _ _ ⟨t_2.1, w64 (all + t_1.1), t_.1, w64 (i + 1), thicketlaw11_world.mk t_2.2 t_1.2.root0 t_1.2.root1 t_1.2.has0 t_1.2.has1 t_1.2.next t_1.2.spent t_1.2.most, hE.sel [0, 1, 5, 6, 7, 8] (by kernel_rfl), H, hm⟩
      · replace hm := cond_f c hm
        refine Runs.exit rfl ?_
        cases hm
        exact hk _ _ ⟨_, rfl, hE.sel [0, 1, 5, 6] (by kernel_rfl), H⟩
  rintro a w ⟨s1, rfl, hE, H⟩
  replace hm := hR; dsimp only at hm
  refine Runs.seq ?_
  obtain ⟨s2, es2, hm⟩ := bind_some hm
  refine Runs.join (fun a w => EnvOk 75 a [(4, .bool s2)] ∧ St w0 (thicketlaw11_world.R p_w_ al_w_ s1.2.2 :: As) w) (fun hk => ?_) ?_
  · replace hm := es2; clear es2
    refine Runs.region ?_
    refine WR.seg hE 3 [] [0, 1, 6, 64] (Lo := [(0, .pointer (some ⟨p_w_, 0, none⟩)), (1, .int .i64 1), (6, .int .i64 s1.2.1), (64, .bool (s1.1 == (-1)))]) (obs := []) rfl (by kernel_rfl) trivial fun a hE => ?_
    rcases Bool.eq_false_or_eq_true (s1.1 == (-1)) with c | c
    · replace hE := hE.dec 64 c (by kernel_rfl)
      replace hm := cond_t c hm
      have c_8 := c
      replace H := thicketlaw11_world.open H
      refine WR.seg hE 14 [.slice al_w_.has1_b s1.2.2.has1.length al_w_.has1_c] [4] (Lo := [(4, .bool (s1.2.1 == (s1.2.2.has1.length : Int)))]) (obs := [.p (0 ≤ (1 : Int) ∧ (1 : Int) < ((2 : Nat) : Int)), .cell ⟨p_w_, 4, none⟩ (.slice al_w_.has1_b s1.2.2.has1.length al_w_.has1_c)]) rfl (by kernel_rfl) ⟨⟨by decide, by decide⟩, H.cell 0 rfl rfl, trivial⟩ fun a hE => ?_
      refine WR.done rfl ?_
      replace H := thicketlaw11_world.shut al_w_ (s1.2.2) H.t3.t3.t3.t3
      cases hm
      exact hk _ _ ⟨hE.sel [4] (by kernel_rfl), H⟩
    · replace hE := hE.dec 64 c (by kernel_rfl)
      replace hm := cond_f c hm
      have c_9 := c
      refine WR.seg hE 14 [] [4] (Lo := [(4, .bool false)]) (obs := []) rfl (by kernel_rfl) trivial fun a hE => ?_
      refine WR.done rfl ?_
      cases hm
      exact hk _ _ ⟨hE.sel [4] (by kernel_rfl), H⟩
  rintro a w ⟨hE, H⟩
  refine Runs.ret hE Tryz.func27 rfl rfl ?_
  cases hm
  exact ⟨rfl, H⟩

theorem thicketlaw11_world_shape_ok {w0 w : World} {As : List HP} {k : Nat} {p_w_ : Nat} {al_w_ : thicketlaw11_world.A} {w_ : thicketlaw11_world} {h_ : Int} {t : Bool × thicketlaw11_world}  (hm : thicketlaw11_world_shape k w_ h_ = some t) (H : St w0 (thicketlaw11_world.R p_w_ al_w_ w_ :: As) w) :
    CallsR Tryz.prog 27 #[.pointer (some ⟨p_w_, 0, none⟩), .int .i64 h_] w fun v w' => v = .bool t.1 ∧ St w0 (thicketlaw11_world.R p_w_ al_w_ t.2 :: As) w' := by
  rw [thicketlaw11_world_shape] at hm
  by_cases h0 : h_ = 0
  · subst h0; simp only [if_pos] at hm
    refine (thicketlaw11_world_shape_at0_ok hm H).mono ?_
    rintro v w' ⟨hv, H⟩; exact ⟨hv, H⟩
  rw [if_neg h0] at hm
  by_cases h1 : h_ = 1
  · subst h1; simp only [if_pos] at hm
    refine (thicketlaw11_world_shape_at1_ok hm H).mono ?_
    rintro v w' ⟨hv, H⟩; exact ⟨hv, H⟩
  rw [if_neg h1] at hm
  cases hm

end Go.Proofs.YtlfiboncgkijkaaGreat
