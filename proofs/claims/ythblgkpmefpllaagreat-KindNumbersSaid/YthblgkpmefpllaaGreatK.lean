import Derived.Test.YthblgkpmefpllaaGreatKp3
set_option linter.unusedVariables false
set_option linter.unusedSimpArgs false
set_option maxRecDepth 10000
set_option maxHeartbeats 4000000
namespace Go.Proofs.YthblgkpmefpllaaGreat
open Go.Th

theorem kind_Right_ok {w0 w : World} {As : List HP} {k_ : Int} {t : Bool}  (hm : kind_Right k_ = some t) (H : St w0 (As) w) :
    CallsR Tryz.prog 49 #[.int .i64 k_] w fun v w' => v = .bool t ∧ St w0 (As) w' := by
  rw [kind_Right] at hm
  refine enter (args := [.int .i64 k_]) Tryz.func49 rfl rfl rfl fun a hE => ?_
  refine Runs.seq ?_
  refine Runs.region ?_
  refine WR.seg hE 1 [] [0] (Lo := [(0, .int .i64 k_)]) (obs := []) rfl (by kernel_rfl) trivial fun a hE => ?_
  refine WR.done rfl ?_
  refine Runs.seq ?_
  refine Runs.join (fun a w => EnvOk 9 a [(2, .bool ((decide (k_ ≥ 1)) && (decide (k_ ≤ 5))))] ∧ St w0 (As) w) (fun hk => ?_) ?_
  · clear hm
    refine Runs.region ?_
    refine WR.seg hE 3 [] [0, 5] (Lo := [(0, .int .i64 k_), (5, .bool (decide (k_ ≥ 1)))]) (obs := []) rfl (by kernel_rfl) trivial fun a hE => ?_
    rcases Bool.eq_false_or_eq_true (decide (k_ ≥ 1)) with c | c
    · replace hE := hE.dec 5 c (by kernel_rfl)
      have c_ := c
      refine WR.seg hE 7 [] [2] (Lo := [(2, .bool (decide (k_ ≤ 5)))]) (obs := []) rfl (by kernel_rfl) trivial fun a hE => ?_
      refine WR.done rfl ?_
      refine hk _ _ ⟨?_, H⟩
      try rw [c_] at hE
      try rw [c_]
      exact hE.sel [2] (by kernel_rfl)
    · replace hE := hE.dec 5 c (by kernel_rfl)
      have c_1 := c
      refine WR.seg hE 7 [] [2] (Lo := [(2, .bool false)]) (obs := []) rfl (by kernel_rfl) trivial fun a hE => ?_
      refine WR.done rfl ?_
      refine hk _ _ ⟨?_, H⟩
      try rw [c_1] at hE
      try rw [c_1]
      exact hE.sel [2] (by kernel_rfl)
  rintro a w ⟨hE, H⟩
  refine Runs.ret hE Tryz.func49 rfl rfl ?_
  cases hm
  exact ⟨rfl, H⟩

theorem kind_Worst_ok {w0 w : World} {As : List HP} {k_ : Int} {t : Bool}  (hm : kind_Worst k_ = some t) (H : St w0 (As) w) :
    CallsR Tryz.prog 50 #[.int .i64 k_] w fun v w' => v = .bool t ∧ St w0 (As) w' := by
  rw [kind_Worst] at hm
  refine enter (args := [.int .i64 k_]) Tryz.func50 rfl rfl rfl fun a hE => ?_
  refine Runs.seq ?_
  refine Runs.region ?_
  refine WR.seg hE 1 [] [0] (Lo := [(0, .int .i64 k_)]) (obs := []) rfl (by kernel_rfl) trivial fun a hE => ?_
  refine WR.done rfl ?_
  refine Runs.seq ?_
  refine Runs.join (fun a w => EnvOk 9 a [(2, .bool ((decide (k_ ≥ 1)) && (decide (k_ ≤ 3))))] ∧ St w0 (As) w) (fun hk => ?_) ?_
  · clear hm
    refine Runs.region ?_
    refine WR.seg hE 3 [] [0, 5] (Lo := [(0, .int .i64 k_), (5, .bool (decide (k_ ≥ 1)))]) (obs := []) rfl (by kernel_rfl) trivial fun a hE => ?_
    rcases Bool.eq_false_or_eq_true (decide (k_ ≥ 1)) with c | c
    · replace hE := hE.dec 5 c (by kernel_rfl)
      have c_ := c
      refine WR.seg hE 7 [] [2] (Lo := [(2, .bool (decide (k_ ≤ 3)))]) (obs := []) rfl (by kernel_rfl) trivial fun a hE => ?_
      refine WR.done rfl ?_
      refine hk _ _ ⟨?_, H⟩
      try rw [c_] at hE
      try rw [c_]
      exact hE.sel [2] (by kernel_rfl)
    · replace hE := hE.dec 5 c (by kernel_rfl)
      have c_1 := c
      refine WR.seg hE 7 [] [2] (Lo := [(2, .bool false)]) (obs := []) rfl (by kernel_rfl) trivial fun a hE => ?_
      refine WR.done rfl ?_
      refine hk _ _ ⟨?_, H⟩
      try rw [c_1] at hE
      try rw [c_1]
      exact hE.sel [2] (by kernel_rfl)
  rintro a w ⟨hE, H⟩
  refine Runs.ret hE Tryz.func50 rfl rfl ?_
  cases hm
  exact ⟨rfl, H⟩

theorem thicketlaw15_known_ok {w0 w : World} {As : List HP} {k : Nat}  {t : Bool}  (hm : thicketlaw15_known k = some t) (H : St w0 (As) w) :
    CallsR Tryz.prog 40 #[] w fun v w' => v = .bool t ∧ St w0 (As) w' := by
  rw [thicketlaw15_known] at hm
  refine enter (args := []) Tryz.func40 rfl rfl rfl fun a hE => ?_
  refine Runs.seq ?_
  refine Runs.region ?_
  refine WR.seg hE 1 [] [] (Lo := []) (obs := []) rfl (by kernel_rfl) trivial fun a hE => ?_
  refine WR.done rfl ?_
  refine Runs.seq ?_
  refine Runs.region ?_
  obtain ⟨t_, et_, hm⟩ := bind_some hm
  refine WR.eff hE rfl rfl rfl rfl (OpTo.fn hE rfl rfl Tryz.call38 (arena_New_ok et_ H)) ?_
  rintro _ w ⟨p, al, rfl, H⟩ a hE
  refine WR.seg hE 2 [] [1] (Lo := [(1, .pointer (some ⟨p, 0, none⟩))]) (obs := []) rfl (by kernel_rfl) trivial fun a hE => ?_
  refine WR.done rfl ?_
  refine Runs.seq ?_
  refine Runs.seq ?_
  refine Runs.region ?_
  refine WR.seg hE 2 [] [1, 10] (Lo := [(1, .pointer (some ⟨p, 0, none⟩)), (10, .bool false)]) (obs := []) rfl (by kernel_rfl) trivial fun a hE => ?_
  refine WR.done rfl ?_
  refine Runs.condF hE rfl ?_
  refine Runs.skip ?_
  refine Runs.seq ?_
  refine Runs.region ?_
  refine WR.seg hE 1 [] [1, 12] (Lo := [(1, .pointer (some ⟨p, 0, none⟩)), (12, .pointer (some ⟨p, 0, none⟩))]) (obs := []) rfl (by kernel_rfl) trivial fun a hE => ?_
  obtain ⟨t_1, et_1, hm⟩ := bind_some hm
  refine WR.eff hE rfl rfl rfl rfl (OpTo.fn hE rfl rfl Tryz.call17 (item_New_ok et_1 H)) ?_
  rintro _ w ⟨z, z1, rfl, H⟩ a hE
  refine WR.seg hE 7 [] [1, 2] (Lo := [(1, .pointer (some ⟨p, 0, none⟩)), (2, .int .i64 t_1.1)]) (obs := []) rfl (by kernel_rfl) trivial fun a hE => ?_
  refine WR.done rfl ?_
  refine Runs.seq ?_
  refine Runs.region ?_
  refine WR.seg hE 2 [] [1, 2, 17, 18] (Lo := [(1, .pointer (some ⟨p, 0, none⟩)), (2, .int .i64 t_1.1), (17, .pointer (some ⟨p, 0, none⟩)), (18, .int .i64 t_1.1)]) (obs := []) rfl (by kernel_rfl) trivial fun a hE => ?_
  obtain ⟨t_2, et_2, hm⟩ := bind_some hm
  refine WR.eff hE rfl rfl rfl rfl (OpTo.fn hE rfl rfl Tryz.call41 (kind_Push_ok et_2 H)) ?_
  rintro _ w ⟨z2, z3, rfl, H⟩ a hE
  refine WR.seg hE 8 [] [1, 2, 4, 5] (Lo := [(1, .pointer (some ⟨p, 0, none⟩)), (2, .int .i64 t_1.1), (4, .int .i64 t_2.1), (5, .bool t_2.2.1)]) (obs := []) rfl (by kernel_rfl) trivial fun a hE => ?_
  refine WR.done rfl ?_
  refine Runs.seq ?_
  refine Runs.region ?_
  refine WR.seg hE 2 [] [1, 2, 4, 5, 23, 24] (Lo := [(1, .pointer (some ⟨p, 0, none⟩)), (2, .int .i64 t_1.1), (4, .int .i64 t_2.1), (5, .bool t_2.2.1), (23, .pointer (some ⟨p, 0, none⟩)), (24, .int .i64 t_1.1)]) (obs := []) rfl (by kernel_rfl) trivial fun a hE => ?_
  obtain ⟨t_3, et_3, hm⟩ := bind_some hm
  refine WR.eff hE rfl rfl rfl rfl (OpTo.fn hE rfl rfl Tryz.call41 (kind_Push_ok et_3 H)) ?_
  rintro _ w ⟨z4, z5, rfl, H⟩ a hE
  refine WR.seg hE 8 [] [1, 2, 4, 5, 7] (Lo := [(1, .pointer (some ⟨p, 0, none⟩)), (2, .int .i64 t_1.1), (4, .int .i64 t_2.1), (5, .bool t_2.2.1), (7, .bool t_3.2.1)]) (obs := []) rfl (by kernel_rfl) trivial fun a hE => ?_
  refine WR.done rfl ?_
  refine Runs.seq ?_
  obtain ⟨s, es, hm⟩ := bind_some hm
  refine Runs.join (fun a w => EnvOk 60 a [(0, .bool s.1)] ∧ St w0 (arena_Arena.R p (arena_Arena.A.mk al.l_b al.l_c z4 z5 al.m__p) s.2 :: As) w) (fun hk => ?_) ?_
  · replace hm := es; clear es
    refine Runs.region ?_
    refine WR.seg hE 2 [] [1, 2, 4, 7, 29] (Lo := [(1, .pointer (some ⟨p, 0, none⟩)), (2, .int .i64 t_1.1), (4, .int .i64 t_2.1), (7, .bool t_3.2.1), (29, .bool t_2.2.1)]) (obs := []) rfl (by kernel_rfl) trivial fun a hE => ?_
    rcases Bool.eq_false_or_eq_true t_2.2.1 with c | c
    · replace hE := hE.dec 29 c (by kernel_rfl)
      replace hm := cond_t c hm
      have c_ := c
      refine WR.seg hE 6 [] [1, 2, 4, 33] (Lo := [(1, .pointer (some ⟨p, 0, none⟩)), (2, .int .i64 t_1.1), (4, .int .i64 t_2.1), (33, .bool (!t_3.2.1))]) (obs := []) rfl (by kernel_rfl) trivial fun a hE => ?_
      rcases Bool.eq_false_or_eq_true (!t_3.2.1) with c | c
      · replace hE := hE.dec 33 c (by kernel_rfl)
        replace hm := cond_t c hm
        have c_1 := c
        refine WR.seg hE 8 [] [1, 2, 4, 33, 34, 35] (Lo := [(1, .pointer (some ⟨p, 0, none⟩)), (2, .int .i64 t_1.1), (4, .int .i64 t_2.1), (33, .bool true), (34, .pointer (some ⟨p, 0, none⟩)), (35, .int .i64 t_2.1)]) (obs := []) rfl (by kernel_rfl) trivial fun a hE => ?_
        obtain ⟨t_4, et_4, hm⟩ := bind_some hm
        refine WR.eff hE rfl rfl rfl rfl (OpTo.fn hE rfl rfl Tryz.call43 (kind_Min_ok et_4 H)) ?_
        rintro _ w ⟨rfl, H⟩ a hE
        refine WR.seg hE 13 [] [1, 4, 40] (Lo := [(1, .pointer (some ⟨p, 0, none⟩)), (4, .int .i64 t_2.1), (40, .bool (t_4.1 == t_1.1))]) (obs := []) rfl (by kernel_rfl) trivial fun a hE => ?_
        rcases Bool.eq_false_or_eq_true (t_4.1 == t_1.1) with c | c
        · replace hE := hE.dec 40 c (by kernel_rfl)
          replace hm := cond_t c hm
          have c_2 := c
          refine WR.seg hE 15 [] [40, 41, 42] (Lo := [(40, .bool true), (41, .pointer (some ⟨p, 0, none⟩)), (42, .int .i64 t_2.1)]) (obs := []) rfl (by kernel_rfl) trivial fun a hE => ?_
          obtain ⟨t_5, et_5, hm⟩ := bind_some hm
          refine WR.eff hE rfl rfl rfl rfl (OpTo.fn hE rfl rfl Tryz.call43 (kind_Min_ok et_5 H)) ?_
          rintro _ w ⟨rfl, H⟩ a hE
          refine WR.seg hE 19 [] [46] (Lo := [(46, .bool (t_5.1 == (-1)))]) (obs := []) rfl (by kernel_rfl) trivial fun a hE => ?_
          rcases Bool.eq_false_or_eq_true (t_5.1 == (-1)) with c | c
          · replace hE := hE.dec 46 c (by kernel_rfl)
            replace hm := cond_t c hm
            have c_3 := c
            obtain ⟨t_6, et_6, hm⟩ := bind_some hm
            refine WR.eff hE rfl rfl rfl rfl (OpTo.fn hE rfl rfl Tryz.call49 (kind_Right_ok et_6 H)) ?_
            rintro _ w ⟨rfl, H⟩ a hE
            refine WR.seg hE 23 [] [50] (Lo := [(50, .bool (!t_6))]) (obs := []) rfl (by kernel_rfl) trivial fun a hE => ?_
            rcases Bool.eq_false_or_eq_true (!t_6) with c | c
            · replace hE := hE.dec 50 c (by kernel_rfl)
              replace hm := cond_t c hm
              have c_4 := c
              obtain ⟨t_7, et_7, hm⟩ := bind_some hm
              refine WR.eff hE rfl rfl rfl rfl (OpTo.fn hE rfl rfl Tryz.call49 (kind_Right_ok et_7 H)) ?_
              rintro _ w ⟨rfl, H⟩ a hE
              refine WR.seg hE 26 [] [53] (Lo := [(53, .bool t_7)]) (obs := []) rfl (by kernel_rfl) trivial fun a hE => ?_
              rcases Bool.eq_false_or_eq_true t_7 with c | c
              · replace hE := hE.dec 53 c (by kernel_rfl)
                replace hm := cond_t c hm
                have c_5 := c
                obtain ⟨t_8, et_8, hm⟩ := bind_some hm
                refine WR.eff hE rfl rfl rfl rfl (OpTo.fn hE rfl rfl Tryz.call50 (kind_Worst_ok et_8 H)) ?_
                rintro _ w ⟨rfl, H⟩ a hE
                refine WR.seg hE 30 [] [57] (Lo := [(57, .bool (!t_8))]) (obs := []) rfl (by kernel_rfl) trivial fun a hE => ?_
                rcases Bool.eq_false_or_eq_true (!t_8) with c | c
                · replace hE := hE.dec 57 c (by kernel_rfl)
                  replace hm := cond_t c hm
                  have c_6 := c
                  obtain ⟨t_9, et_9, hm⟩ := bind_some hm
                  refine WR.eff hE rfl rfl rfl rfl (OpTo.fn hE rfl rfl Tryz.call50 (kind_Worst_ok et_9 H)) ?_
                  rintro _ w ⟨rfl, H⟩ a hE
                  refine WR.seg hE 33 [] [0] (Lo := [(0, .bool t_9)]) (obs := []) rfl (by kernel_rfl) trivial fun a hE => ?_
                  refine WR.done rfl ?_
                  cases hm
                  exact hk _ _ ⟨hE.sel [0] (by kernel_rfl), H⟩
                · replace hE := hE.dec 57 c (by kernel_rfl)
                  replace hm := cond_f c hm
                  have c_7 := c
                  refine WR.seg hE 33 [] [0] (Lo := [(0, .bool false)]) (obs := []) rfl (by kernel_rfl) trivial fun a hE => ?_
                  refine WR.done rfl ?_
                  cases hm
                  exact hk _ _ ⟨hE.sel [0] (by kernel_rfl), H⟩
              · replace hE := hE.dec 53 c (by kernel_rfl)
                replace hm := cond_f c hm
                have c_8 := c
                refine WR.seg hE 33 [] [0] (Lo := [(0, .bool false)]) (obs := []) rfl (by kernel_rfl) trivial fun a hE => ?_
                refine WR.done rfl ?_
                cases hm
                exact hk _ _ ⟨hE.sel [0] (by kernel_rfl), H⟩
            · replace hE := hE.dec 50 c (by kernel_rfl)
              replace hm := cond_f c hm
              have c_9 := c
              refine WR.seg hE 33 [] [0] (Lo := [(0, .bool false)]) (obs := []) rfl (by kernel_rfl) trivial fun a hE => ?_
              refine WR.done rfl ?_
              cases hm
              exact hk _ _ ⟨hE.sel [0] (by kernel_rfl), H⟩
          · replace hE := hE.dec 46 c (by kernel_rfl)
            replace hm := cond_f c hm
            have c_10 := c
            refine WR.seg hE 33 [] [0] (Lo := [(0, .bool false)]) (obs := []) rfl (by kernel_rfl) trivial fun a hE => ?_
            refine WR.done rfl ?_
            cases hm
            exact hk _ _ ⟨hE.sel [0] (by kernel_rfl), H⟩
        · replace hE := hE.dec 40 c (by kernel_rfl)
          replace hm := cond_f c hm
          have c_11 := c
          refine WR.seg hE 33 [] [0] (Lo := [(0, .bool false)]) (obs := []) rfl (by kernel_rfl) trivial fun a hE => ?_
          refine WR.done rfl ?_
          cases hm
          exact hk _ _ ⟨hE.sel [0] (by kernel_rfl), H⟩
      · replace hE := hE.dec 33 c (by kernel_rfl)
        replace hm := cond_f c hm
        have c_12 := c
        refine WR.seg hE 33 [] [0] (Lo := [(0, .bool false)]) (obs := []) rfl (by kernel_rfl) trivial fun a hE => ?_
        refine WR.done rfl ?_
        cases hm
        exact hk _ _ ⟨hE.sel [0] (by kernel_rfl), H⟩
    · replace hE := hE.dec 29 c (by kernel_rfl)
      replace hm := cond_f c hm
      have c_13 := c
      refine WR.seg hE 33 [] [0] (Lo := [(0, .bool false)]) (obs := []) rfl (by kernel_rfl) trivial fun a hE => ?_
      refine WR.done rfl ?_
      cases hm
      exact hk _ _ ⟨hE.sel [0] (by kernel_rfl), H⟩
  rintro a w ⟨hE, H⟩
  refine Runs.ret hE Tryz.func40 rfl rfl ?_
  cases hm
  exact ⟨rfl, H.x0⟩

theorem thicketlaw15_KindNumbers_ok {w0 w : World} {As : List HP} {k : Nat}  {t : Bool}  (hm : thicketlaw15_KindNumbers k = some t) (H : St w0 (As) w) :
    CallsR Tryz.prog 13 #[] w fun v w' => v = .bool t ∧ St w0 (As) w' := by
  rw [thicketlaw15_KindNumbers] at hm
  refine enter (args := []) Tryz.func13 rfl rfl rfl fun a hE => ?_
  refine Runs.seq ?_
  refine Runs.region ?_
  refine WR.seg hE 1 [] [] (Lo := []) (obs := []) rfl (by kernel_rfl) trivial fun a hE => ?_
  refine WR.done rfl ?_
  refine Runs.seq ?_
  refine Runs.region ?_
  obtain ⟨t_, et_, hm⟩ := bind_some hm
  refine WR.eff hE rfl rfl rfl rfl (OpTo.fn hE rfl rfl Tryz.call38 (arena_New_ok et_ H)) ?_
  rintro _ w ⟨p, al, rfl, H⟩ a hE
  refine WR.seg hE 2 [] [1] (Lo := [(1, .pointer (some ⟨p, 0, none⟩))]) (obs := []) rfl (by kernel_rfl) trivial fun a hE => ?_
  refine WR.done rfl ?_
  refine Runs.seq ?_
  refine Runs.seq ?_
  refine Runs.region ?_
  refine WR.seg hE 2 [] [1, 12] (Lo := [(1, .pointer (some ⟨p, 0, none⟩)), (12, .bool false)]) (obs := []) rfl (by kernel_rfl) trivial fun a hE => ?_
  refine WR.done rfl ?_
  refine Runs.condF hE rfl ?_
  refine Runs.skip ?_
  refine Runs.seq ?_
  refine Runs.region ?_
  refine WR.seg hE 1 [] [1, 14] (Lo := [(1, .pointer (some ⟨p, 0, none⟩)), (14, .pointer (some ⟨p, 0, none⟩))]) (obs := []) rfl (by kernel_rfl) trivial fun a hE => ?_
  obtain ⟨t_1, et_1, hm⟩ := bind_some hm
  refine WR.eff hE rfl rfl rfl rfl (OpTo.fn hE rfl rfl Tryz.call17 (item_New_ok et_1 H)) ?_
  rintro _ w ⟨z, z1, rfl, H⟩ a hE
  refine WR.seg hE 7 [] [1, 2, 3] (Lo := [(1, .pointer (some ⟨p, 0, none⟩)), (2, .int .i64 t_1.1), (3, .bool t_1.2.1)]) (obs := []) rfl (by kernel_rfl) trivial fun a hE => ?_
  refine WR.done rfl ?_
  refine Runs.seq ?_
  refine Runs.seq ?_
  refine Runs.region ?_
  refine WR.eff hE rfl rfl rfl rfl (OpTo.buildSl (T := 3) hE H ecI_ok ([(-1), 0, 6, 99] : List Int) rfl (fun _ => by kernel_rfl) rfl rfl rfl) ?_
  rintro _ w ⟨r, rfl, H⟩ a hE
  refine WR.seg hE 3 [] [1, 2, 3, 18, 19, 20] (Lo := [(1, .pointer (some ⟨p, 0, none⟩)), (2, .int .i64 t_1.1), (3, .bool t_1.2.1), (18, .slice (some ⟨r, 0, none⟩) (([(-1), 0, 6, 99] : List Int).length) 4), (19, .int .i64 4), (20, .int .i64 0)]) (obs := []) rfl (by kernel_rfl) trivial fun a hE => ?_
  refine WR.done rfl ?_
  obtain ⟨s, es, hR⟩ := bind_some hm
  refine Runs.join (fun a w => ∃ s1, s = Sum.inr s1 ∧ ∃ (z4 : Option Addr), ∃ (z5 : Nat), EnvOk 112 a [] ∧ St w0 (arena_Arena.R p (arena_Arena.A.mk al.l_b al.l_c z4 z5 al.m__p) s1 :: As) w) (fun hk => ?_) ?_
  · replace hm := es; clear es
    refine Runs.block ?_
    refine Runs.loop (fun m a w => ∃ (x : Int), ∃ (m_ : arena_Arena), ∃ (z6 : Option Addr), ∃ (z7 : Nat), EnvOk 112 a [(1, .pointer (some ⟨p, 0, none⟩)), (2, .int .i64 t_1.1), (3, .bool t_1.2.1), (18, .slice (some ⟨r, 0, none⟩) (([(-1), 0, 6, 99] : List Int).length) 4), (19, .int .i64 4), (20, .int .i64 x)] ∧ St w0 (Sl 3 ecI 1 (some ⟨r, 0, none⟩) 4 ([(-1), 0, 6, 99] : List Int) :: arena_Arena.R p (arena_Arena.A.mk al.l_b al.l_c z6 z7 al.m__p) m_ :: As) w ∧ thicketlaw15_KindNumbers_l0 t_1.1 t_1.2.1 ([(-1), 0, 6, 99] : List Int) m x m_ = some s) k ⟨0, t_1.2.2, z, z1, hE.sel [1, 2, 3, 18, 19, 20] (by kernel_rfl), H.t1.t1, hm⟩ ?_
    rintro m ih a w ⟨x, m_, z6, z7, hE, H, hm⟩
    cases m with
    | zero => simp [thicketlaw15_KindNumbers_l0] at hm
    | succ m =>
      rw [thicketlaw15_KindNumbers_l0] at hm
      refine Runs.seq ?_
      refine Runs.region ?_
      refine WR.seg hE 1 [] [1, 2, 3, 18, 19, 20, 21] (Lo := [(1, .pointer (some ⟨p, 0, none⟩)), (2, .int .i64 t_1.1), (3, .bool t_1.2.1), (18, .slice (some ⟨r, 0, none⟩) (([(-1), 0, 6, 99] : List Int).length) 4), (19, .int .i64 4), (20, .int .i64 x), (21, .bool (decide (x < 4)))]) (obs := []) rfl (by kernel_rfl) trivial fun a hE => ?_
      refine WR.done rfl ?_
      refine Runs.seq ?_
      refine Runs.cond hE rfl (fun c => ?_) (fun c => ?_)
      · replace hm := cond_t c hm
        refine Runs.skip ?_
        refine Runs.seq ?_
        refine Runs.block ?_
        refine Runs.seq ?_
        refine Runs.region ?_
        obtain ⟨x1, ex1, hm⟩ := bind_some hm
        obtain ⟨b, o, hs, hb⟩ := SlRd.base (sl_rd 3 ecI 1 _ _ _) ecI_ok H 0 rfl ex1
        refine WR.seg hE 3 [.pointer (some ⟨b, o, none⟩), .int .i64 x1] [1, 2, 3, 5, 18, 19, 20] (Lo := [(1, .pointer (some ⟨p, 0, none⟩)), (2, .int .i64 t_1.1), (3, .bool t_1.2.1), (5, .int .i64 x1), (18, .slice (some ⟨r, 0, none⟩) (([(-1), 0, 6, 99] : List Int).length) 4), (19, .int .i64 4), (20, .int .i64 x)]) (obs := [.p (((some ⟨r, 0, none⟩) : Option Addr) = some ⟨b, o, none⟩), .p (0 ≤ (x : Int) ∧ (x : Int) < ((([(-1), 0, 6, 99] : List Int).length : Nat) : Int)), .cell ⟨b, o + (Int.toNat x) * 1, none⟩ (.int .i64 x1)]) rfl (by kernel_rfl) ⟨hs, hb, SlRd.cells (sl_rd 3 ecI 1 _ _ _) ecI_ok H 0 rfl hs ex1 0 _ rfl, trivial⟩ fun a hE => ?_
        refine WR.done rfl ?_
        refine Runs.seq ?_
        refine Runs.region ?_
        refine WR.seg hE 3 [] [1, 2, 3, 5, 18, 19, 20, 25, 26, 27] (Lo := [(1, .pointer (some ⟨p, 0, none⟩)), (2, .int .i64 t_1.1), (3, .bool t_1.2.1), (5, .int .i64 x1), (18, .slice (some ⟨r, 0, none⟩) (([(-1), 0, 6, 99] : List Int).length) 4), (19, .int .i64 4), (20, .int .i64 x), (25, .int .i64 x1), (26, .pointer (some ⟨p, 0, none⟩)), (27, .int .i64 t_1.1)]) (obs := []) rfl (by kernel_rfl) trivial fun a hE => ?_
        obtain ⟨t_2, et_2, hm⟩ := bind_some hm
        refine WR.eff hE rfl rfl rfl rfl (OpTo.fn hE rfl rfl Tryz.call41 (kind_Push_ok et_2 H.t1)) ?_
        rintro _ w ⟨z8, z9, rfl, H⟩ a hE
        refine WR.seg hE 9 [] [1, 2, 3, 5, 6, 7, 18, 19, 20] (Lo := [(1, .pointer (some ⟨p, 0, none⟩)), (2, .int .i64 t_1.1), (3, .bool t_1.2.1), (5, .int .i64 x1), (6, .int .i64 t_2.1), (7, .bool t_2.2.1), (18, .slice (some ⟨r, 0, none⟩) (([(-1), 0, 6, 99] : List Int).length) 4), (19, .int .i64 4), (20, .int .i64 x)]) (obs := []) rfl (by kernel_rfl) trivial fun a hE => ?_
        refine WR.done rfl ?_
        refine Runs.seq ?_
        refine Runs.region ?_
        refine WR.seg hE 2 [] [1, 2, 3, 5, 6, 7, 18, 19, 20, 32, 33] (Lo := [(1, .pointer (some ⟨p, 0, none⟩)), (2, .int .i64 t_1.1), (3, .bool t_1.2.1), (5, .int .i64 x1), (6, .int .i64 t_2.1), (7, .bool t_2.2.1), (18, .slice (some ⟨r, 0, none⟩) (([(-1), 0, 6, 99] : List Int).length) 4), (19, .int .i64 4), (20, .int .i64 x), (32, .int .i64 x1), (33, .pointer (some ⟨p, 0, none⟩))]) (obs := []) rfl (by kernel_rfl) trivial fun a hE => ?_
        obtain ⟨t_3, et_3, hm⟩ := bind_some hm
        refine WR.eff hE rfl rfl rfl rfl (OpTo.fn hE rfl rfl Tryz.call42 (kind_Pop_ok et_3 H)) ?_
        rintro _ w ⟨z10, z11, rfl, H⟩ a hE
        refine WR.seg hE 8 [] [1, 2, 3, 5, 6, 7, 8, 9, 18, 19, 20] (Lo := [(1, .pointer (some ⟨p, 0, none⟩)), (2, .int .i64 t_1.1), (3, .bool t_1.2.1), (5, .int .i64 x1), (6, .int .i64 t_2.1), (7, .bool t_2.2.1), (8, .int .i64 t_3.1), (9, .int .i64 t_3.2.1), (18, .slice (some ⟨r, 0, none⟩) (([(-1), 0, 6, 99] : List Int).length) 4), (19, .int .i64 4), (20, .int .i64 x)]) (obs := []) rfl (by kernel_rfl) trivial fun a hE => ?_
        refine WR.done rfl ?_
        refine Runs.seq ?_
        obtain ⟨s2, es2, hm⟩ := bind_some hm
        refine Runs.join (fun a w => ∃ (z12 : Option Addr), ∃ (z13 : Nat), EnvOk 112 a [(1, .pointer (some ⟨p, 0, none⟩)), (2, .int .i64 t_1.1), (3, .bool t_1.2.1), (18, .slice (some ⟨r, 0, none⟩) (([(-1), 0, 6, 99] : List Int).length) 4), (19, .int .i64 4), (20, .int .i64 x), (99, .bool s2.1)] ∧ St w0 (arena_Arena.R p (arena_Arena.A.mk al.l_b al.l_c z12 z13 al.m__p) s2.2 :: Sl 3 ecI 1 (some ⟨r, 0, none⟩) 4 ([(-1), 0, 6, 99] : List Int) :: As) w) (fun hk => ?_) ?_
        · replace hm := es2; clear es2
          refine Runs.region ?_
          refine WR.seg hE 3 [] [1, 2, 3, 5, 6, 7, 8, 9, 18, 19, 20, 39] (Lo := [(1, .pointer (some ⟨p, 0, none⟩)), (2, .int .i64 t_1.1), (3, .bool t_1.2.1), (5, .int .i64 x1), (6, .int .i64 t_2.1), (7, .bool t_2.2.1), (8, .int .i64 t_3.1), (9, .int .i64 t_3.2.1), (18, .slice (some ⟨r, 0, none⟩) (([(-1), 0, 6, 99] : List Int).length) 4), (19, .int .i64 4), (20, .int .i64 x), (39, .bool (!t_1.2.1))]) (obs := []) rfl (by kernel_rfl) trivial fun a hE => ?_
          rcases Bool.eq_false_or_eq_true (!t_1.2.1) with c | c
          · replace hE := hE.dec 39 c (by kernel_rfl)
            replace hm := cond_t c hm
            have c_ := c
            refine WR.seg hE 63 [] [1, 2, 3, 18, 19, 20, 99] (Lo := [(1, .pointer (some ⟨p, 0, none⟩)), (2, .int .i64 t_1.1), (3, .bool t_1.2.1), (18, .slice (some ⟨r, 0, none⟩) (([(-1), 0, 6, 99] : List Int).length) 4), (19, .int .i64 4), (20, .int .i64 x), (99, .bool true)]) (obs := []) rfl (by kernel_rfl) trivial fun a hE => ?_
            refine WR.done rfl ?_
            cases hm
            exact hk _ _ ⟨z10, z11, hE.sel [1, 2, 3, 18, 19, 20, 99] (by kernel_rfl), H.t1.t1⟩
          · replace hE := hE.dec 39 c (by kernel_rfl)
            replace hm := cond_f c hm
            have c_1 := c
            refine WR.seg hE 7 [] [1, 2, 3, 5, 7, 8, 9, 18, 19, 20, 43] (Lo := [(1, .pointer (some ⟨p, 0, none⟩)), (2, .int .i64 t_1.1), (3, .bool t_1.2.1), (5, .int .i64 x1), (7, .bool t_2.2.1), (8, .int .i64 t_3.1), (9, .int .i64 t_3.2.1), (18, .slice (some ⟨r, 0, none⟩) (([(-1), 0, 6, 99] : List Int).length) 4), (19, .int .i64 4), (20, .int .i64 x), (43, .bool (t_2.1 != 3))]) (obs := []) rfl (by kernel_rfl) trivial fun a hE => ?_
            rcases Bool.eq_false_or_eq_true (t_2.1 != 3) with c | c
            · replace hE := hE.dec 43 c (by kernel_rfl)
              replace hm := cond_t c hm
              have c_2 := c
              refine WR.seg hE 63 [] [1, 2, 3, 18, 19, 20, 99] (Lo := [(1, .pointer (some ⟨p, 0, none⟩)), (2, .int .i64 t_1.1), (3, .bool t_1.2.1), (18, .slice (some ⟨r, 0, none⟩) (([(-1), 0, 6, 99] : List Int).length) 4), (19, .int .i64 4), (20, .int .i64 x), (99, .bool true)]) (obs := []) rfl (by kernel_rfl) trivial fun a hE => ?_
              refine WR.done rfl ?_
              cases hm
              exact hk _ _ ⟨z10, z11, hE.sel [1, 2, 3, 18, 19, 20, 99] (by kernel_rfl), H.t1.t1⟩
            · replace hE := hE.dec 43 c (by kernel_rfl)
              replace hm := cond_f c hm
              have c_3 := c
              refine WR.seg hE 10 [] [1, 2, 3, 5, 8, 9, 18, 19, 20, 46] (Lo := [(1, .pointer (some ⟨p, 0, none⟩)), (2, .int .i64 t_1.1), (3, .bool t_1.2.1), (5, .int .i64 x1), (8, .int .i64 t_3.1), (9, .int .i64 t_3.2.1), (18, .slice (some ⟨r, 0, none⟩) (([(-1), 0, 6, 99] : List Int).length) 4), (19, .int .i64 4), (20, .int .i64 x), (46, .bool t_2.2.1)]) (obs := []) rfl (by kernel_rfl) trivial fun a hE => ?_
              rcases Bool.eq_false_or_eq_true t_2.2.1 with c | c
              · replace hE := hE.dec 46 c (by kernel_rfl)
                replace hm := cond_t c hm
                have c_4 := c
                refine WR.seg hE 63 [] [1, 2, 3, 18, 19, 20, 99] (Lo := [(1, .pointer (some ⟨p, 0, none⟩)), (2, .int .i64 t_1.1), (3, .bool t_1.2.1), (18, .slice (some ⟨r, 0, none⟩) (([(-1), 0, 6, 99] : List Int).length) 4), (19, .int .i64 4), (20, .int .i64 x), (99, .bool true)]) (obs := []) rfl (by kernel_rfl) trivial fun a hE => ?_
                refine WR.done rfl ?_
                cases hm
                exact hk _ _ ⟨z10, z11, hE.sel [1, 2, 3, 18, 19, 20, 99] (by kernel_rfl), H.t1.t1⟩
              · replace hE := hE.dec 46 c (by kernel_rfl)
                replace hm := cond_f c hm
                have c_5 := c
                refine WR.seg hE 14 [] [1, 2, 3, 5, 9, 18, 19, 20, 50] (Lo := [(1, .pointer (some ⟨p, 0, none⟩)), (2, .int .i64 t_1.1), (3, .bool t_1.2.1), (5, .int .i64 x1), (9, .int .i64 t_3.2.1), (18, .slice (some ⟨r, 0, none⟩) (([(-1), 0, 6, 99] : List Int).length) 4), (19, .int .i64 4), (20, .int .i64 x), (50, .bool (t_3.1 != (-1)))]) (obs := []) rfl (by kernel_rfl) trivial fun a hE => ?_
                rcases Bool.eq_false_or_eq_true (t_3.1 != (-1)) with c | c
                · replace hE := hE.dec 50 c (by kernel_rfl)
                  replace hm := cond_t c hm
                  have c_6 := c
                  refine WR.seg hE 63 [] [1, 2, 3, 18, 19, 20, 99] (Lo := [(1, .pointer (some ⟨p, 0, none⟩)), (2, .int .i64 t_1.1), (3, .bool t_1.2.1), (18, .slice (some ⟨r, 0, none⟩) (([(-1), 0, 6, 99] : List Int).length) 4), (19, .int .i64 4), (20, .int .i64 x), (99, .bool true)]) (obs := []) rfl (by kernel_rfl) trivial fun a hE => ?_
                  refine WR.done rfl ?_
                  cases hm
                  exact hk _ _ ⟨z10, z11, hE.sel [1, 2, 3, 18, 19, 20, 99] (by kernel_rfl), H.t1.t1⟩
                · replace hE := hE.dec 50 c (by kernel_rfl)
                  replace hm := cond_f c hm
                  have c_7 := c
                  refine WR.seg hE 18 [] [1, 2, 3, 5, 18, 19, 20, 54] (Lo := [(1, .pointer (some ⟨p, 0, none⟩)), (2, .int .i64 t_1.1), (3, .bool t_1.2.1), (5, .int .i64 x1), (18, .slice (some ⟨r, 0, none⟩) (([(-1), 0, 6, 99] : List Int).length) 4), (19, .int .i64 4), (20, .int .i64 x), (54, .bool (t_3.2.1 != (-1)))]) (obs := []) rfl (by kernel_rfl) trivial fun a hE => ?_
                  rcases Bool.eq_false_or_eq_true (t_3.2.1 != (-1)) with c | c
                  · replace hE := hE.dec 54 c (by kernel_rfl)
                    replace hm := cond_t c hm
                    have c_8 := c
                    refine WR.seg hE 63 [] [1, 2, 3, 18, 19, 20, 99] (Lo := [(1, .pointer (some ⟨p, 0, none⟩)), (2, .int .i64 t_1.1), (3, .bool t_1.2.1), (18, .slice (some ⟨r, 0, none⟩) (([(-1), 0, 6, 99] : List Int).length) 4), (19, .int .i64 4), (20, .int .i64 x), (99, .bool true)]) (obs := []) rfl (by kernel_rfl) trivial fun a hE => ?_
                    refine WR.done rfl ?_
                    cases hm
                    exact hk _ _ ⟨z10, z11, hE.sel [1, 2, 3, 18, 19, 20, 99] (by kernel_rfl), H.t1.t1⟩
                  · replace hE := hE.dec 54 c (by kernel_rfl)
                    replace hm := cond_f c hm
                    have c_9 := c
                    refine WR.seg hE 20 [] [1, 2, 3, 5, 18, 19, 20, 54, 55, 56] (Lo := [(1, .pointer (some ⟨p, 0, none⟩)), (2, .int .i64 t_1.1), (3, .bool t_1.2.1), (5, .int .i64 x1), (18, .slice (some ⟨r, 0, none⟩) (([(-1), 0, 6, 99] : List Int).length) 4), (19, .int .i64 4), (20, .int .i64 x), (54, .bool false), (55, .int .i64 x1), (56, .pointer (some ⟨p, 0, none⟩))]) (obs := []) rfl (by kernel_rfl) trivial fun a hE => ?_
                    obtain ⟨t_4, et_4, hm⟩ := bind_some hm
                    refine WR.eff hE rfl rfl rfl rfl (OpTo.fn hE rfl rfl Tryz.call43 (kind_Min_ok et_4 H)) ?_
                    rintro _ w ⟨rfl, H⟩ a hE
                    refine WR.seg hE 24 [] [1, 2, 3, 5, 18, 19, 20, 60] (Lo := [(1, .pointer (some ⟨p, 0, none⟩)), (2, .int .i64 t_1.1), (3, .bool t_1.2.1), (5, .int .i64 x1), (18, .slice (some ⟨r, 0, none⟩) (([(-1), 0, 6, 99] : List Int).length) 4), (19, .int .i64 4), (20, .int .i64 x), (60, .bool (t_4.1 != (-1)))]) (obs := []) rfl (by kernel_rfl) trivial fun a hE => ?_
                    rcases Bool.eq_false_or_eq_true (t_4.1 != (-1)) with c | c
                    · replace hE := hE.dec 60 c (by kernel_rfl)
                      replace hm := cond_t c hm
                      have c_10 := c
                      refine WR.seg hE 63 [] [1, 2, 3, 18, 19, 20, 99] (Lo := [(1, .pointer (some ⟨p, 0, none⟩)), (2, .int .i64 t_1.1), (3, .bool t_1.2.1), (18, .slice (some ⟨r, 0, none⟩) (([(-1), 0, 6, 99] : List Int).length) 4), (19, .int .i64 4), (20, .int .i64 x), (99, .bool true)]) (obs := []) rfl (by kernel_rfl) trivial fun a hE => ?_
                      refine WR.done rfl ?_
                      cases hm
                      exact hk _ _ ⟨z10, z11, hE.sel [1, 2, 3, 18, 19, 20, 99] (by kernel_rfl), H.t1.t1⟩
                    · replace hE := hE.dec 60 c (by kernel_rfl)
                      replace hm := cond_f c hm
                      have c_11 := c
                      refine WR.seg hE 27 [] [1, 2, 3, 5, 18, 19, 20, 60, 61, 62, 63] (Lo := [(1, .pointer (some ⟨p, 0, none⟩)), (2, .int .i64 t_1.1), (3, .bool t_1.2.1), (5, .int .i64 x1), (18, .slice (some ⟨r, 0, none⟩) (([(-1), 0, 6, 99] : List Int).length) 4), (19, .int .i64 4), (20, .int .i64 x), (60, .bool false), (61, .int .i64 x1), (62, .pointer (some ⟨p, 0, none⟩)), (63, .int .i64 t_1.1)]) (obs := []) rfl (by kernel_rfl) trivial fun a hE => ?_
                      obtain ⟨t_5, et_5, hm⟩ := bind_some hm
                      refine WR.eff hE rfl rfl rfl rfl (OpTo.fn hE rfl rfl Tryz.call44 (kind_Fall_ok et_5 H)) ?_
                      rintro _ w ⟨rfl, H⟩ a hE
                      refine WR.seg hE 31 [] [1, 2, 3, 5, 18, 19, 20, 67] (Lo := [(1, .pointer (some ⟨p, 0, none⟩)), (2, .int .i64 t_1.1), (3, .bool t_1.2.1), (5, .int .i64 x1), (18, .slice (some ⟨r, 0, none⟩) (([(-1), 0, 6, 99] : List Int).length) 4), (19, .int .i64 4), (20, .int .i64 x), (67, .bool (t_5.1 != 3))]) (obs := []) rfl (by kernel_rfl) trivial fun a hE => ?_
                      rcases Bool.eq_false_or_eq_true (t_5.1 != 3) with c | c
                      · replace hE := hE.dec 67 c (by kernel_rfl)
                        replace hm := cond_t c hm
                        have c_12 := c
                        refine WR.seg hE 63 [] [1, 2, 3, 18, 19, 20, 99] (Lo := [(1, .pointer (some ⟨p, 0, none⟩)), (2, .int .i64 t_1.1), (3, .bool t_1.2.1), (18, .slice (some ⟨r, 0, none⟩) (([(-1), 0, 6, 99] : List Int).length) 4), (19, .int .i64 4), (20, .int .i64 x), (99, .bool true)]) (obs := []) rfl (by kernel_rfl) trivial fun a hE => ?_
                        refine WR.done rfl ?_
                        cases hm
                        exact hk _ _ ⟨z10, z11, hE.sel [1, 2, 3, 18, 19, 20, 99] (by kernel_rfl), H.t1.t1⟩
                      · replace hE := hE.dec 67 c (by kernel_rfl)
                        replace hm := cond_f c hm
                        have c_13 := c
                        refine WR.seg hE 34 [] [1, 2, 3, 5, 18, 19, 20, 67, 68, 69, 70] (Lo := [(1, .pointer (some ⟨p, 0, none⟩)), (2, .int .i64 t_1.1), (3, .bool t_1.2.1), (5, .int .i64 x1), (18, .slice (some ⟨r, 0, none⟩) (([(-1), 0, 6, 99] : List Int).length) 4), (19, .int .i64 4), (20, .int .i64 x), (67, .bool false), (68, .int .i64 x1), (69, .pointer (some ⟨p, 0, none⟩)), (70, .int .i64 t_1.1)]) (obs := []) rfl (by kernel_rfl) trivial fun a hE => ?_
                        obtain ⟨t_6, et_6, hm⟩ := bind_some hm
                        refine WR.eff hE rfl rfl rfl rfl (OpTo.fn hE rfl rfl Tryz.call45 (kind_Cut_ok et_6 H)) ?_
                        rintro _ w ⟨z14, z15, rfl, H⟩ a hE
                        refine WR.seg hE 38 [] [1, 2, 3, 5, 18, 19, 20, 74] (Lo := [(1, .pointer (some ⟨p, 0, none⟩)), (2, .int .i64 t_1.1), (3, .bool t_1.2.1), (5, .int .i64 x1), (18, .slice (some ⟨r, 0, none⟩) (([(-1), 0, 6, 99] : List Int).length) 4), (19, .int .i64 4), (20, .int .i64 x), (74, .bool (t_6.1 != 3))]) (obs := []) rfl (by kernel_rfl) trivial fun a hE => ?_
                        rcases Bool.eq_false_or_eq_true (t_6.1 != 3) with c | c
                        · replace hE := hE.dec 74 c (by kernel_rfl)
                          replace hm := cond_t c hm
                          have c_14 := c
                          refine WR.seg hE 63 [] [1, 2, 3, 18, 19, 20, 99] (Lo := [(1, .pointer (some ⟨p, 0, none⟩)), (2, .int .i64 t_1.1), (3, .bool t_1.2.1), (18, .slice (some ⟨r, 0, none⟩) (([(-1), 0, 6, 99] : List Int).length) 4), (19, .int .i64 4), (20, .int .i64 x), (99, .bool true)]) (obs := []) rfl (by kernel_rfl) trivial fun a hE => ?_
                          refine WR.done rfl ?_
                          cases hm
                          exact hk _ _ ⟨z14, z15, hE.sel [1, 2, 3, 18, 19, 20, 99] (by kernel_rfl), H.t1.t1⟩
                        · replace hE := hE.dec 74 c (by kernel_rfl)
                          replace hm := cond_f c hm
                          have c_15 := c
                          refine WR.seg hE 40 [] [1, 2, 3, 5, 18, 19, 20, 74, 75, 76] (Lo := [(1, .pointer (some ⟨p, 0, none⟩)), (2, .int .i64 t_1.1), (3, .bool t_1.2.1), (5, .int .i64 x1), (18, .slice (some ⟨r, 0, none⟩) (([(-1), 0, 6, 99] : List Int).length) 4), (19, .int .i64 4), (20, .int .i64 x), (74, .bool false), (75, .int .i64 x1), (76, .pointer (some ⟨p, 0, none⟩))]) (obs := []) rfl (by kernel_rfl) trivial fun a hE => ?_
                          obtain ⟨t_7, et_7, hm⟩ := bind_some hm
                          refine WR.eff hE rfl rfl rfl rfl (OpTo.fn hE rfl rfl Tryz.call46 (kind_Meld_ok et_7 H)) ?_
                          rintro _ w ⟨rfl, H⟩ a hE
                          refine WR.seg hE 44 [] [1, 2, 3, 5, 18, 19, 20, 80] (Lo := [(1, .pointer (some ⟨p, 0, none⟩)), (2, .int .i64 t_1.1), (3, .bool t_1.2.1), (5, .int .i64 x1), (18, .slice (some ⟨r, 0, none⟩) (([(-1), 0, 6, 99] : List Int).length) 4), (19, .int .i64 4), (20, .int .i64 x), (80, .bool (t_7.1 != 3))]) (obs := []) rfl (by kernel_rfl) trivial fun a hE => ?_
                          rcases Bool.eq_false_or_eq_true (t_7.1 != 3) with c | c
                          · replace hE := hE.dec 80 c (by kernel_rfl)
                            replace hm := cond_t c hm
                            have c_16 := c
                            refine WR.seg hE 63 [] [1, 2, 3, 18, 19, 20, 99] (Lo := [(1, .pointer (some ⟨p, 0, none⟩)), (2, .int .i64 t_1.1), (3, .bool t_1.2.1), (18, .slice (some ⟨r, 0, none⟩) (([(-1), 0, 6, 99] : List Int).length) 4), (19, .int .i64 4), (20, .int .i64 x), (99, .bool true)]) (obs := []) rfl (by kernel_rfl) trivial fun a hE => ?_
                            refine WR.done rfl ?_
                            cases hm
                            exact hk _ _ ⟨z14, z15, hE.sel [1, 2, 3, 18, 19, 20, 99] (by kernel_rfl), H.t1.t1⟩
                          · replace hE := hE.dec 80 c (by kernel_rfl)
                            replace hm := cond_f c hm
                            have c_17 := c
                            refine WR.seg hE 46 [] [1, 2, 3, 5, 18, 19, 20, 80, 81, 82] (Lo := [(1, .pointer (some ⟨p, 0, none⟩)), (2, .int .i64 t_1.1), (3, .bool t_1.2.1), (5, .int .i64 x1), (18, .slice (some ⟨r, 0, none⟩) (([(-1), 0, 6, 99] : List Int).length) 4), (19, .int .i64 4), (20, .int .i64 x), (80, .bool false), (81, .int .i64 x1), (82, .pointer (some ⟨p, 0, none⟩))]) (obs := []) rfl (by kernel_rfl) trivial fun a hE => ?_
                            obtain ⟨t_8, et_8, hm⟩ := bind_some hm
                            refine WR.eff hE rfl rfl rfl rfl (OpTo.fn hE rfl rfl Tryz.call47 (kind_All_ok et_8 H)) ?_
                            rintro _ w ⟨sb, sc, rfl, H⟩ a hE
                            refine WR.seg hE 50 [] [1, 2, 3, 5, 18, 19, 20, 80, 84, 85, 86] (Lo := [(1, .pointer (some ⟨p, 0, none⟩)), (2, .int .i64 t_1.1), (3, .bool t_1.2.1), (5, .int .i64 x1), (18, .slice (some ⟨r, 0, none⟩) (([(-1), 0, 6, 99] : List Int).length) 4), (19, .int .i64 4), (20, .int .i64 x), (80, .bool false), (84, .int .i64 (t_8.1.length : Int)), (85, .int .i64 x1), (86, .pointer (some ⟨p, 0, none⟩))]) (obs := []) rfl (by kernel_rfl) trivial fun a hE => ?_
                            obtain ⟨t_9, et_9, hm⟩ := bind_some hm
                            refine WR.eff hE rfl rfl rfl rfl (OpTo.fn hE rfl rfl Tryz.call48 (kind_Drop_ok et_9 H.t1)) ?_
                            rintro _ w ⟨sb1, sc1, z16, z17, rfl, H⟩ a hE
                            refine WR.seg hE 56 [] [1, 2, 3, 5, 18, 19, 20, 92] (Lo := [(1, .pointer (some ⟨p, 0, none⟩)), (2, .int .i64 t_1.1), (3, .bool t_1.2.1), (5, .int .i64 x1), (18, .slice (some ⟨r, 0, none⟩) (([(-1), 0, 6, 99] : List Int).length) 4), (19, .int .i64 4), (20, .int .i64 x), (92, .bool ((w64 ((t_8.1.length : Int) + (t_9.1.length : Int))) != 0))]) (obs := []) rfl (by kernel_rfl) trivial fun a hE => ?_
                            rcases Bool.eq_false_or_eq_true ((w64 ((t_8.1.length : Int) + (t_9.1.length : Int))) != 0) with c | c
                            · replace hE := hE.dec 92 c (by kernel_rfl)
                              replace hm := cond_t c hm
                              have c_18 := c
                              refine WR.seg hE 63 [] [1, 2, 3, 18, 19, 20, 99] (Lo := [(1, .pointer (some ⟨p, 0, none⟩)), (2, .int .i64 t_1.1), (3, .bool t_1.2.1), (18, .slice (some ⟨r, 0, none⟩) (([(-1), 0, 6, 99] : List Int).length) 4), (19, .int .i64 4), (20, .int .i64 x), (99, .bool true)]) (obs := []) rfl (by kernel_rfl) trivial fun a hE => ?_
                              refine WR.done rfl ?_
                              cases hm
                              exact hk _ _ ⟨z16, z17, hE.sel [1, 2, 3, 18, 19, 20, 99] (by kernel_rfl), H.x2.x0.t1.t1⟩
                            · replace hE := hE.dec 92 c (by kernel_rfl)
                              replace hm := cond_f c hm
                              have c_19 := c
                              refine WR.seg hE 57 [] [1, 2, 3, 5, 18, 19, 20, 92, 93] (Lo := [(1, .pointer (some ⟨p, 0, none⟩)), (2, .int .i64 t_1.1), (3, .bool t_1.2.1), (5, .int .i64 x1), (18, .slice (some ⟨r, 0, none⟩) (([(-1), 0, 6, 99] : List Int).length) 4), (19, .int .i64 4), (20, .int .i64 x), (92, .bool false), (93, .int .i64 x1)]) (obs := []) rfl (by kernel_rfl) trivial fun a hE => ?_
                              obtain ⟨t_10, et_10, hm⟩ := bind_some hm
                              refine WR.eff hE rfl rfl rfl rfl (OpTo.fn hE rfl rfl Tryz.call49 (kind_Right_ok et_10 H)) ?_
                              rintro _ w ⟨rfl, H⟩ a hE
                              refine WR.seg hE 60 [] [1, 2, 3, 5, 18, 19, 20, 96] (Lo := [(1, .pointer (some ⟨p, 0, none⟩)), (2, .int .i64 t_1.1), (3, .bool t_1.2.1), (5, .int .i64 x1), (18, .slice (some ⟨r, 0, none⟩) (([(-1), 0, 6, 99] : List Int).length) 4), (19, .int .i64 4), (20, .int .i64 x), (96, .bool t_10)]) (obs := []) rfl (by kernel_rfl) trivial fun a hE => ?_
                              rcases Bool.eq_false_or_eq_true t_10 with c | c
                              · replace hE := hE.dec 96 c (by kernel_rfl)
                                replace hm := cond_t c hm
                                have c_20 := c
                                refine WR.seg hE 63 [] [1, 2, 3, 18, 19, 20, 99] (Lo := [(1, .pointer (some ⟨p, 0, none⟩)), (2, .int .i64 t_1.1), (3, .bool t_1.2.1), (18, .slice (some ⟨r, 0, none⟩) (([(-1), 0, 6, 99] : List Int).length) 4), (19, .int .i64 4), (20, .int .i64 x), (99, .bool true)]) (obs := []) rfl (by kernel_rfl) trivial fun a hE => ?_
                                refine WR.done rfl ?_
                                cases hm
                                exact hk _ _ ⟨z16, z17, hE.sel [1, 2, 3, 18, 19, 20, 99] (by kernel_rfl), H.x2.x0.t1.t1⟩
                              · replace hE := hE.dec 96 c (by kernel_rfl)
                                replace hm := cond_f c hm
                                have c_21 := c
                                refine WR.seg hE 61 [] [1, 2, 3, 18, 19, 20, 96, 97] (Lo := [(1, .pointer (some ⟨p, 0, none⟩)), (2, .int .i64 t_1.1), (3, .bool t_1.2.1), (18, .slice (some ⟨r, 0, none⟩) (([(-1), 0, 6, 99] : List Int).length) 4), (19, .int .i64 4), (20, .int .i64 x), (96, .bool false), (97, .int .i64 x1)]) (obs := []) rfl (by kernel_rfl) trivial fun a hE => ?_
                                obtain ⟨t_11, et_11, hm⟩ := bind_some hm
                                refine WR.eff hE rfl rfl rfl rfl (OpTo.fn hE rfl rfl Tryz.call50 (kind_Worst_ok et_11 H)) ?_
                                rintro _ w ⟨rfl, H⟩ a hE
                                refine WR.seg hE 63 [] [1, 2, 3, 18, 19, 20, 99] (Lo := [(1, .pointer (some ⟨p, 0, none⟩)), (2, .int .i64 t_1.1), (3, .bool t_1.2.1), (18, .slice (some ⟨r, 0, none⟩) (([(-1), 0, 6, 99] : List Int).length) 4), (19, .int .i64 4), (20, .int .i64 x), (99, .bool t_11)]) (obs := []) rfl (by kernel_rfl) trivial fun a hE => ?_
                                refine WR.done rfl ?_
                                cases hm
                                exact hk _ _ ⟨z16, z17, hE.sel [1, 2, 3, 18, 19, 20, 99] (by kernel_rfl), H.x2.x0.t1.t1⟩
        rintro a w ⟨z12, z13, hE, H⟩
        refine Runs.cond hE rfl (fun c => ?_) (fun c => ?_)
        · replace hm := cond_t c hm
          refine Runs.seq ?_
          refine Runs.region ?_
          refine WR.seg hE 1 [] [0] (Lo := [(0, .bool false)]) (obs := []) rfl (by kernel_rfl) trivial fun a hE => ?_
          refine WR.done rfl ?_
          refine Runs.ret hE Tryz.func13 rfl rfl ?_
          cases hm
          dsimp only at hR; cases hR
          exact ⟨rfl, H.x1.x0⟩
        · replace hm := cond_f c hm
          refine Runs.skip ?_
          refine Runs.inBlock ?_
          refine Runs.region ?_
          refine WR.seg hE 2 [] [1, 2, 3, 18, 19, 20] (Lo := [(1, .pointer (some ⟨p, 0, none⟩)), (2, .int .i64 t_1.1), (3, .bool t_1.2.1), (18, .slice (some ⟨r, 0, none⟩) (([(-1), 0, 6, 99] : List Int).length) 4), (19, .int .i64 4), (20, .int .i64 (w64 (x + 1)))]) (obs := []) rfl (by kernel_rfl) trivial fun a hE => ?_
          refine WR.done rfl ?_
          exact ih m (Nat.lt_succ_self m) _ _ ⟨w64 (x + 1), s2.2, z12, z13, hE.sel [1, 2, 3, 18, 19, 20] (by kernel_rfl), H.t1, hm⟩
      · replace hm := cond_f c hm
        refine Runs.exit rfl ?_
        cases hm
        exact hk _ _ ⟨_, rfl, z6, z7, hE.sel [] (by kernel_rfl), H.x0⟩
  rintro a w ⟨s1, rfl, z4, z5, hE, H⟩
  replace hm := hR; dsimp only at hm
  refine Runs.seq ?_
  obtain ⟨s3, es3, hm⟩ := bind_some hm
  refine Runs.join (fun a w => EnvOk 112 a [(0, .bool s3)] ∧ St w0 (arena_Arena.R p (arena_Arena.A.mk al.l_b al.l_c z4 z5 al.m__p) s1 :: As) w) (fun hk => ?_) ?_
  · replace hm := es3; clear es3
    refine Runs.region ?_
    obtain ⟨t_12, et_12, hm⟩ := bind_some hm
    refine WR.eff hE rfl rfl rfl rfl (OpTo.fn hE rfl rfl Tryz.call50 (kind_Worst_ok et_12 H)) ?_
    rintro _ w ⟨rfl, H⟩ a hE
    refine WR.seg hE 2 [] [102] (Lo := [(102, .bool t_12)]) (obs := []) rfl (by kernel_rfl) trivial fun a hE => ?_
    rcases Bool.eq_false_or_eq_true t_12 with c | c
    · replace hE := hE.dec 102 c (by kernel_rfl)
      replace hm := cond_t c hm
      have c_22 := c
      obtain ⟨t_13, et_13, hm⟩ := bind_some hm
      refine WR.eff hE rfl rfl rfl rfl (OpTo.fn hE rfl rfl Tryz.call50 (kind_Worst_ok et_13 H)) ?_
      rintro _ w ⟨rfl, H⟩ a hE
      refine WR.seg hE 5 [] [105] (Lo := [(105, .bool t_13)]) (obs := []) rfl (by kernel_rfl) trivial fun a hE => ?_
      rcases Bool.eq_false_or_eq_true t_13 with c | c
      · replace hE := hE.dec 105 c (by kernel_rfl)
        replace hm := cond_t c hm
        have c_23 := c
        obtain ⟨t_14, et_14, hm⟩ := bind_some hm
        refine WR.eff hE rfl rfl rfl rfl (OpTo.fn hE rfl rfl Tryz.call50 (kind_Worst_ok et_14 H)) ?_
        rintro _ w ⟨rfl, H⟩ a hE
        refine WR.seg hE 9 [] [109] (Lo := [(109, .bool (!t_14))]) (obs := []) rfl (by kernel_rfl) trivial fun a hE => ?_
        rcases Bool.eq_false_or_eq_true (!t_14) with c | c
        · replace hE := hE.dec 109 c (by kernel_rfl)
          replace hm := cond_t c hm
          have c_24 := c
          obtain ⟨t_15, et_15, hm⟩ := bind_some hm
          refine WR.eff hE rfl rfl rfl rfl (OpTo.fn hE rfl rfl Tryz.call40 (thicketlaw15_known_ok et_15 H)) ?_
          rintro _ w ⟨rfl, H⟩ a hE
          refine WR.seg hE 12 [] [0] (Lo := [(0, .bool t_15)]) (obs := []) rfl (by kernel_rfl) trivial fun a hE => ?_
          refine WR.done rfl ?_
          cases hm
          exact hk _ _ ⟨hE.sel [0] (by kernel_rfl), H⟩
        · replace hE := hE.dec 109 c (by kernel_rfl)
          replace hm := cond_f c hm
          have c_25 := c
          refine WR.seg hE 12 [] [0] (Lo := [(0, .bool false)]) (obs := []) rfl (by kernel_rfl) trivial fun a hE => ?_
          refine WR.done rfl ?_
          cases hm
          exact hk _ _ ⟨hE.sel [0] (by kernel_rfl), H⟩
      · replace hE := hE.dec 105 c (by kernel_rfl)
        replace hm := cond_f c hm
        have c_26 := c
        refine WR.seg hE 12 [] [0] (Lo := [(0, .bool false)]) (obs := []) rfl (by kernel_rfl) trivial fun a hE => ?_
        refine WR.done rfl ?_
        cases hm
        exact hk _ _ ⟨hE.sel [0] (by kernel_rfl), H⟩
    · replace hE := hE.dec 102 c (by kernel_rfl)
      replace hm := cond_f c hm
      have c_27 := c
      refine WR.seg hE 12 [] [0] (Lo := [(0, .bool false)]) (obs := []) rfl (by kernel_rfl) trivial fun a hE => ?_
      refine WR.done rfl ?_
      cases hm
      exact hk _ _ ⟨hE.sel [0] (by kernel_rfl), H⟩
  rintro a w ⟨hE, H⟩
  refine Runs.ret hE Tryz.func13 rfl rfl ?_
  cases hm
  exact ⟨rfl, H.x0⟩

end Go.Proofs.YthblgkpmefpllaaGreat
