import Derived.Test.YthblgkpmefpllaaGreatKp2
set_option linter.unusedVariables false
set_option linter.unusedSimpArgs false
set_option maxRecDepth 10000
set_option maxHeartbeats 4000000
namespace Go.Proofs.YthblgkpmefpllaaGreat
open Go.Th

theorem trees_Rise_ok {w0 w : World} {As : List HP} {k : Nat} {p_a_ : Nat} {al_a_ : arena_Arena.A} {a_ : arena_Arena} {i : Int} {any : Bool} {t : Int × arena_Arena}  (hm : trees_Rise k a_ i any = some t) (H : St w0 (arena_Arena.R p_a_ al_a_ a_ :: As) w) :
    CallsR Tryz.prog 130 #[.pointer (some ⟨p_a_, 0, none⟩), .int .i64 i, .bool any] w fun v w' => v = .int .i64 t.1 ∧ St w0 (arena_Arena.R p_a_ al_a_ t.2 :: As) w' := by
  rw [trees_Rise] at hm
  refine enter (args := [.pointer (some ⟨p_a_, 0, none⟩), .int .i64 i, .bool any]) Tryz.func130 rfl rfl rfl fun a hE => ?_
  refine Runs.seq ?_
  refine Runs.region ?_
  refine WR.seg hE 1 [] [0, 1, 2] (Lo := [(0, .pointer (some ⟨p_a_, 0, none⟩)), (1, .int .i64 i), (2, .bool any)]) (obs := []) rfl (by kernel_rfl) trivial fun a hE => ?_
  refine WR.done rfl ?_
  refine Runs.seq ?_
  refine Runs.region ?_
  refine WR.seg hE 2 [] [0, 2, 10, 11] (Lo := [(0, .pointer (some ⟨p_a_, 0, none⟩)), (2, .bool any), (10, .pointer (some ⟨p_a_, 0, none⟩)), (11, .int .i64 i)]) (obs := []) rfl (by kernel_rfl) trivial fun a hE => ?_
  obtain ⟨t_, et_, hm⟩ := bind_some hm
  refine WR.eff hE rfl rfl rfl rfl (OpTo.fn hE rfl rfl Tryz.call65 (item_Node_ok et_ H)) ?_
  rintro _ w ⟨rfl, H⟩ a hE
  refine WR.seg hE 4 [] [0, 2, 7] (Lo := [(0, .pointer (some ⟨p_a_, 0, none⟩)), (2, .bool any), (7, .int .i64 t_.1)]) (obs := []) rfl (by kernel_rfl) trivial fun a hE => ?_
  refine WR.done rfl ?_
  refine Runs.seq ?_
  refine Runs.seq ?_
  refine Runs.region ?_
  refine WR.seg hE 1 [] [0, 2, 7, 8] (Lo := [(0, .pointer (some ⟨p_a_, 0, none⟩)), (2, .bool any), (7, .int .i64 t_.1), (8, .int .i64 0)]) (obs := []) rfl (by kernel_rfl) trivial fun a hE => ?_
  refine WR.done rfl ?_
  obtain ⟨s, es, hm⟩ := bind_some hm
  refine Runs.join (fun a w => EnvOk 45 a [(7, .int .i64 s.1)] ∧ St w0 (arena_Arena.R p_a_ al_a_ s.2 :: As) w) (fun hk => ?_) ?_
  · replace hm := es; clear es
    refine Runs.block ?_
    refine Runs.loop (fun m a w => ∃ (n : Int), ∃ (k_ : Int), ∃ (m_ : arena_Arena), EnvOk 45 a [(0, .pointer (some ⟨p_a_, 0, none⟩)), (2, .bool any), (7, .int .i64 n), (8, .int .i64 k_)] ∧ St w0 (arena_Arena.R p_a_ al_a_ m_ :: As) w ∧ trees_Rise_l0 any m n k_ m_ = some s) k ⟨t_.1, 0, t_.2, hE.sel [0, 2, 7, 8] (by kernel_rfl), H, hm⟩ ?_
    rintro m ih a w ⟨n, k_, m_, hE, H, hm⟩
    cases m with
    | zero => simp [trees_Rise_l0] at hm
    | succ m =>
      rw [trees_Rise_l0] at hm
      refine Runs.seq ?_
      refine Runs.seq ?_
      obtain ⟨s1, es1, hm⟩ := bind_some hm
      refine Runs.join (fun a w => EnvOk 45 a [(0, .pointer (some ⟨p_a_, 0, none⟩)), (2, .bool any), (7, .int .i64 n), (8, .int .i64 k_), (20, .bool s1)] ∧ St w0 (arena_Arena.R p_a_ al_a_ m_ :: As) w) (fun hk => ?_) ?_
      · replace hm := es1; clear es1
        refine Runs.region ?_
        refine WR.seg hE 3 [] [0, 2, 7, 8, 15] (Lo := [(0, .pointer (some ⟨p_a_, 0, none⟩)), (2, .bool any), (7, .int .i64 n), (8, .int .i64 k_), (15, .bool (n != (-1)))]) (obs := []) rfl (by kernel_rfl) trivial fun a hE => ?_
        rcases Bool.eq_false_or_eq_true (n != (-1)) with c | c
        · replace hE := hE.dec 15 c (by kernel_rfl)
          replace hm := cond_t c hm
          have c_ := c
          refine WR.seg hE 5 [] [0, 2, 7, 8, 15, 16, 17] (Lo := [(0, .pointer (some ⟨p_a_, 0, none⟩)), (2, .bool any), (7, .int .i64 n), (8, .int .i64 k_), (15, .bool true), (16, .int .i64 k_), (17, .pointer (some ⟨p_a_, 0, none⟩))]) (obs := []) rfl (by kernel_rfl) trivial fun a hE => ?_
          obtain ⟨t_1, et_1, hm⟩ := bind_some hm
          refine WR.eff hE rfl rfl rfl rfl (OpTo.fn hE rfl rfl Tryz.call63 (arena_Arena_Cells_ok et_1 H)) ?_
          rintro _ w ⟨rfl, H⟩ a hE
          refine WR.seg hE 8 [] [0, 2, 7, 8, 20] (Lo := [(0, .pointer (some ⟨p_a_, 0, none⟩)), (2, .bool any), (7, .int .i64 n), (8, .int .i64 k_), (20, .bool (decide (k_ ≤ t_1)))]) (obs := []) rfl (by kernel_rfl) trivial fun a hE => ?_
          refine WR.done rfl ?_
          cases hm
          exact hk _ _ ⟨hE.sel [0, 2, 7, 8, 20] (by kernel_rfl), H⟩
        · replace hE := hE.dec 15 c (by kernel_rfl)
          replace hm := cond_f c hm
          have c_1 := c
          refine WR.seg hE 8 [] [0, 2, 7, 8, 20] (Lo := [(0, .pointer (some ⟨p_a_, 0, none⟩)), (2, .bool any), (7, .int .i64 n), (8, .int .i64 k_), (20, .bool false)]) (obs := []) rfl (by kernel_rfl) trivial fun a hE => ?_
          refine WR.done rfl ?_
          cases hm
          exact hk _ _ ⟨hE.sel [0, 2, 7, 8, 20] (by kernel_rfl), H⟩
      rintro a w ⟨hE, H⟩
      refine Runs.cond hE rfl (fun c => ?_) (fun c => ?_)
      · replace hm := cond_t c hm
        refine Runs.skip ?_
        refine Runs.seq ?_
        refine Runs.block ?_
        refine Runs.seq ?_
        refine Runs.region ?_
        refine WR.seg hE 2 [] [0, 2, 7, 8, 23, 24] (Lo := [(0, .pointer (some ⟨p_a_, 0, none⟩)), (2, .bool any), (7, .int .i64 n), (8, .int .i64 k_), (23, .pointer (some ⟨p_a_, 0, none⟩)), (24, .int .i64 n)]) (obs := []) rfl (by kernel_rfl) trivial fun a hE => ?_
        obtain ⟨t_2, et_2, hm⟩ := bind_some hm
        refine WR.eff hE rfl rfl rfl rfl (OpTo.fn hE rfl rfl Tryz.call73 (arena_Arena_Cell_ok et_2 H)) ?_
        rintro _ w ⟨rfl, H⟩ a hE
        refine WR.seg hE 4 [] [0, 2, 7, 8, 9] (Lo := [(0, .pointer (some ⟨p_a_, 0, none⟩)), (2, .bool any), (7, .int .i64 n), (8, .int .i64 k_), (9, .int .i64 t_2.1)]) (obs := []) rfl (by kernel_rfl) trivial fun a hE => ?_
        refine WR.done rfl ?_
        refine Runs.seq ?_
        refine Runs.seq ?_
        obtain ⟨s2, es2, hm⟩ := bind_some hm
        refine Runs.join (fun a w => EnvOk 45 a [(0, .pointer (some ⟨p_a_, 0, none⟩)), (2, .bool any), (7, .int .i64 n), (8, .int .i64 k_), (9, .int .i64 t_2.1), (38, .bool s2.1)] ∧ St w0 (arena_Arena.R p_a_ al_a_ s2.2 :: As) w) (fun hk => ?_) ?_
        · replace hm := es2; clear es2
          refine Runs.region ?_
          refine WR.seg hE 3 [] [0, 2, 7, 8, 9, 28] (Lo := [(0, .pointer (some ⟨p_a_, 0, none⟩)), (2, .bool any), (7, .int .i64 n), (8, .int .i64 k_), (9, .int .i64 t_2.1), (28, .bool (t_2.1 == (-1)))]) (obs := []) rfl (by kernel_rfl) trivial fun a hE => ?_
          rcases Bool.eq_false_or_eq_true (t_2.1 == (-1)) with c | c
          · replace hE := hE.dec 28 c (by kernel_rfl)
            replace hm := cond_t c hm
            have c_2 := c
            refine WR.seg hE 13 [] [0, 2, 7, 8, 9, 38] (Lo := [(0, .pointer (some ⟨p_a_, 0, none⟩)), (2, .bool any), (7, .int .i64 n), (8, .int .i64 k_), (9, .int .i64 t_2.1), (38, .bool true)]) (obs := []) rfl (by kernel_rfl) trivial fun a hE => ?_
            refine WR.done rfl ?_
            cases hm
            exact hk _ _ ⟨hE.sel [0, 2, 7, 8, 9, 38] (by kernel_rfl), H⟩
          · replace hE := hE.dec 28 c (by kernel_rfl)
            replace hm := cond_f c hm
            have c_3 := c
            refine WR.seg hE 6 [] [0, 2, 7, 8, 9, 28, 31] (Lo := [(0, .pointer (some ⟨p_a_, 0, none⟩)), (2, .bool any), (7, .int .i64 n), (8, .int .i64 k_), (9, .int .i64 t_2.1), (28, .bool false), (31, .bool (!any))]) (obs := []) rfl (by kernel_rfl) trivial fun a hE => ?_
            rcases Bool.eq_false_or_eq_true (!any) with c | c
            · replace hE := hE.dec 31 c (by kernel_rfl)
              replace hm := cond_t c hm
              have c_4 := c
              refine WR.seg hE 9 [] [0, 2, 7, 8, 9, 28, 31, 32, 33, 34] (Lo := [(0, .pointer (some ⟨p_a_, 0, none⟩)), (2, .bool any), (7, .int .i64 n), (8, .int .i64 k_), (9, .int .i64 t_2.1), (28, .bool false), (31, .bool true), (32, .pointer (some ⟨p_a_, 0, none⟩)), (33, .int .i64 n), (34, .int .i64 t_2.1)]) (obs := []) rfl (by kernel_rfl) trivial fun a hE => ?_
              obtain ⟨t_3, et_3, hm⟩ := bind_some hm
              refine WR.eff hE rfl rfl rfl rfl (OpTo.fn hE rfl rfl Tryz.call124 (node_Before_ok et_3 H)) ?_
              rintro _ w ⟨rfl, H⟩ a hE
              refine WR.seg hE 13 [] [0, 2, 7, 8, 9, 38] (Lo := [(0, .pointer (some ⟨p_a_, 0, none⟩)), (2, .bool any), (7, .int .i64 n), (8, .int .i64 k_), (9, .int .i64 t_2.1), (38, .bool (!t_3.1))]) (obs := []) rfl (by kernel_rfl) trivial fun a hE => ?_
              refine WR.done rfl ?_
              cases hm
              exact hk _ _ ⟨hE.sel [0, 2, 7, 8, 9, 38] (by kernel_rfl), H⟩
            · replace hE := hE.dec 31 c (by kernel_rfl)
              replace hm := cond_f c hm
              have c_5 := c
              refine WR.seg hE 13 [] [0, 2, 7, 8, 9, 38] (Lo := [(0, .pointer (some ⟨p_a_, 0, none⟩)), (2, .bool any), (7, .int .i64 n), (8, .int .i64 k_), (9, .int .i64 t_2.1), (38, .bool false)]) (obs := []) rfl (by kernel_rfl) trivial fun a hE => ?_
              refine WR.done rfl ?_
              cases hm
              exact hk _ _ ⟨hE.sel [0, 2, 7, 8, 9, 38] (by kernel_rfl), H⟩
        rintro a w ⟨hE, H⟩
        refine Runs.cond hE rfl (fun c => ?_) (fun c => ?_)
        · replace hm := cond_t c hm
          refine Runs.exit rfl ?_
          cases hm
          exact hk _ _ ⟨hE.sel [7] (by kernel_rfl), H⟩
        · replace hm := cond_f c hm
          refine Runs.skip ?_
          refine Runs.seq ?_
          refine Runs.region ?_
          refine WR.seg hE 3 [] [0, 2, 8, 9, 39, 40, 41] (Lo := [(0, .pointer (some ⟨p_a_, 0, none⟩)), (2, .bool any), (8, .int .i64 k_), (9, .int .i64 t_2.1), (39, .pointer (some ⟨p_a_, 0, none⟩)), (40, .int .i64 n), (41, .int .i64 t_2.1)]) (obs := []) rfl (by kernel_rfl) trivial fun a hE => ?_
          obtain ⟨t_4, et_4, hm⟩ := bind_some hm
          refine WR.eff hE rfl rfl rfl rfl (OpTo.fn hE rfl rfl Tryz.call160 (item_Swap_ok et_4 H)) ?_
          rintro _ w ⟨rfl, H⟩ a hE
          refine WR.done rfl ?_
          refine Runs.region ?_
          refine WR.seg hE 2 [] [0, 2, 7, 8] (Lo := [(0, .pointer (some ⟨p_a_, 0, none⟩)), (2, .bool any), (7, .int .i64 t_2.1), (8, .int .i64 k_)]) (obs := []) rfl (by kernel_rfl) trivial fun a hE => ?_
          refine WR.done rfl ?_
          refine Runs.inBlock ?_
          refine Runs.region ?_
          refine WR.seg hE 3 [] [0, 2, 7, 8] (Lo := [(0, .pointer (some ⟨p_a_, 0, none⟩)), (2, .bool any), (7, .int .i64 t_2.1), (8, .int .i64 (w64 (k_ + 1)))]) (obs := []) rfl (by kernel_rfl) trivial fun a hE => ?_
          refine WR.done rfl ?_
          exact ih m (Nat.lt_succ_self m) _ _ ⟨t_2.1, w64 (k_ + 1), t_4, hE.sel [0, 2, 7, 8] (by kernel_rfl), H, hm⟩
      · replace hm := cond_f c hm
        refine Runs.exit rfl ?_
        cases hm
        exact hk _ _ ⟨hE.sel [7] (by kernel_rfl), H⟩
  rintro a w ⟨hE, H⟩
  refine Runs.seq ?_
  refine Runs.region ?_
  refine WR.seg hE 2 [] [6] (Lo := [(6, .int .i64 s.1)]) (obs := []) rfl (by kernel_rfl) trivial fun a hE => ?_
  refine WR.done rfl ?_
  refine Runs.ret hE Tryz.func130 rfl rfl ?_
  cases hm
  exact ⟨rfl, H⟩

theorem binomial_Fall_ok {w0 w : World} {As : List HP} {k : Nat} {p_a_ : Nat} {al_a_ : arena_Arena.A} {a_ : arena_Arena} {r : Int} {i : Int} {t : Int × arena_Arena}  (hm : binomial_Fall k a_ r i = some t) (H : St w0 (arena_Arena.R p_a_ al_a_ a_ :: As) w) :
    CallsR Tryz.prog 72 #[.pointer (some ⟨p_a_, 0, none⟩), .int .i64 r, .int .i64 i] w fun v w' => v = .int .i64 t.1 ∧ St w0 (arena_Arena.R p_a_ al_a_ t.2 :: As) w' := by
  rw [binomial_Fall] at hm
  refine enter (args := [.pointer (some ⟨p_a_, 0, none⟩), .int .i64 r, .int .i64 i]) Tryz.func72 rfl rfl rfl fun a hE => ?_
  refine Runs.seq ?_
  refine Runs.region ?_
  refine WR.seg hE 1 [] [0, 1, 2] (Lo := [(0, .pointer (some ⟨p_a_, 0, none⟩)), (1, .int .i64 r), (2, .int .i64 i)]) (obs := []) rfl (by kernel_rfl) trivial fun a hE => ?_
  refine WR.done rfl ?_
  refine Runs.seq ?_
  refine Runs.seq ?_
  refine Runs.region ?_
  refine WR.seg hE 2 [] [0, 1, 2, 8] (Lo := [(0, .pointer (some ⟨p_a_, 0, none⟩)), (1, .int .i64 r), (2, .int .i64 i), (8, .bool false)]) (obs := []) rfl (by kernel_rfl) trivial fun a hE => ?_
  refine WR.done rfl ?_
  refine Runs.condF hE rfl ?_
  refine Runs.skip ?_
  refine Runs.seq ?_
  refine Runs.region ?_
  refine WR.seg hE 2 [] [1, 9, 10] (Lo := [(1, .int .i64 r), (9, .pointer (some ⟨p_a_, 0, none⟩)), (10, .int .i64 i)]) (obs := []) rfl (by kernel_rfl) trivial fun a hE => ?_
  obtain ⟨t_, et_, hm⟩ := bind_some hm
  refine WR.eff hE rfl rfl rfl rfl (OpTo.fn hE rfl rfl Tryz.call130 (trees_Rise_ok et_ H)) ?_
  rintro _ w ⟨rfl, H⟩ a hE
  refine WR.done rfl ?_
  refine Runs.seq ?_
  refine Runs.region ?_
  refine WR.seg hE 2 [] [6] (Lo := [(6, .int .i64 r)]) (obs := []) rfl (by kernel_rfl) trivial fun a hE => ?_
  refine WR.done rfl ?_
  refine Runs.ret hE Tryz.func72 rfl rfl ?_
  cases hm
  exact ⟨rfl, H⟩

theorem skew_Fall_ok {w0 w : World} {As : List HP} {k : Nat} {p_a_ : Nat} {al_a_ : arena_Arena.A} {a_ : arena_Arena} {r : Int} {i : Int} {t : Int × arena_Arena}  (hm : skew_Fall k a_ r i = some t) (H : St w0 (arena_Arena.R p_a_ al_a_ a_ :: As) w) :
    CallsR Tryz.prog 90 #[.pointer (some ⟨p_a_, 0, none⟩), .int .i64 r, .int .i64 i] w fun v w' => v = .int .i64 t.1 ∧ St w0 (arena_Arena.R p_a_ al_a_ t.2 :: As) w' := by
  rw [skew_Fall] at hm
  refine enter (args := [.pointer (some ⟨p_a_, 0, none⟩), .int .i64 r, .int .i64 i]) Tryz.func90 rfl rfl rfl fun a hE => ?_
  refine Runs.seq ?_
  refine Runs.region ?_
  refine WR.seg hE 1 [] [0, 1, 2] (Lo := [(0, .pointer (some ⟨p_a_, 0, none⟩)), (1, .int .i64 r), (2, .int .i64 i)]) (obs := []) rfl (by kernel_rfl) trivial fun a hE => ?_
  refine WR.done rfl ?_
  refine Runs.seq ?_
  refine Runs.seq ?_
  refine Runs.region ?_
  refine WR.seg hE 2 [] [0, 1, 2, 8] (Lo := [(0, .pointer (some ⟨p_a_, 0, none⟩)), (1, .int .i64 r), (2, .int .i64 i), (8, .bool false)]) (obs := []) rfl (by kernel_rfl) trivial fun a hE => ?_
  refine WR.done rfl ?_
  refine Runs.condF hE rfl ?_
  refine Runs.skip ?_
  refine Runs.seq ?_
  refine Runs.region ?_
  refine WR.seg hE 2 [] [1, 9, 10] (Lo := [(1, .int .i64 r), (9, .pointer (some ⟨p_a_, 0, none⟩)), (10, .int .i64 i)]) (obs := []) rfl (by kernel_rfl) trivial fun a hE => ?_
  obtain ⟨t_, et_, hm⟩ := bind_some hm
  refine WR.eff hE rfl rfl rfl rfl (OpTo.fn hE rfl rfl Tryz.call130 (trees_Rise_ok et_ H)) ?_
  rintro _ w ⟨rfl, H⟩ a hE
  refine WR.done rfl ?_
  refine Runs.seq ?_
  refine Runs.region ?_
  refine WR.seg hE 2 [] [6] (Lo := [(6, .int .i64 r)]) (obs := []) rfl (by kernel_rfl) trivial fun a hE => ?_
  refine WR.done rfl ?_
  refine Runs.ret hE Tryz.func90 rfl rfl ?_
  cases hm
  exact ⟨rfl, H⟩

theorem fib_leave_ok {w0 w : World} {As : List HP} {p_a_ : Nat} {al_a_ : arena_Arena.A} {a_ : arena_Arena} {r : Int} {n : Int} {up : Int} {t : arena_Arena}  (hm : fib_leave a_ r n up = some t) (H : St w0 (arena_Arena.R p_a_ al_a_ a_ :: As) w) :
    CallsR Tryz.prog 170 #[.pointer (some ⟨p_a_, 0, none⟩), .int .i64 r, .int .i64 n, .int .i64 up] w fun v w' => v = .tuple #[] ∧ St w0 (arena_Arena.R p_a_ al_a_ t :: As) w' := by
  rw [fib_leave] at hm
  refine enter (args := [.pointer (some ⟨p_a_, 0, none⟩), .int .i64 r, .int .i64 n, .int .i64 up]) Tryz.func170 rfl rfl rfl fun a hE => ?_
  refine Runs.seq ?_
  refine Runs.region ?_
  refine WR.seg hE 2 [] [0, 1, 2, 3, 9, 10] (Lo := [(0, .pointer (some ⟨p_a_, 0, none⟩)), (1, .int .i64 r), (2, .int .i64 n), (3, .int .i64 up), (9, .pointer (some ⟨p_a_, 0, none⟩)), (10, .int .i64 n)]) (obs := []) rfl (by kernel_rfl) trivial fun a hE => ?_
  obtain ⟨t_, et_, hm⟩ := bind_some hm
  refine WR.eff hE rfl rfl rfl rfl (OpTo.fn hE rfl rfl Tryz.call166 (chain_Out_ok et_ H)) ?_
  rintro _ w ⟨rfl, H⟩ a hE
  refine WR.seg hE 4 [] [0, 1, 2, 3, 8] (Lo := [(0, .pointer (some ⟨p_a_, 0, none⟩)), (1, .int .i64 r), (2, .int .i64 n), (3, .int .i64 up), (8, .int .i64 t_.1)]) (obs := []) rfl (by kernel_rfl) trivial fun a hE => ?_
  refine WR.done rfl ?_
  refine Runs.seq ?_
  refine Runs.seq ?_
  refine Runs.region ?_
  refine WR.seg hE 2 [] [0, 1, 2, 3, 8, 12, 13] (Lo := [(0, .pointer (some ⟨p_a_, 0, none⟩)), (1, .int .i64 r), (2, .int .i64 n), (3, .int .i64 up), (8, .int .i64 t_.1), (12, .pointer (some ⟨p_a_, 0, none⟩)), (13, .int .i64 up)]) (obs := []) rfl (by kernel_rfl) trivial fun a hE => ?_
  obtain ⟨t_1, et_1, hm⟩ := bind_some hm
  refine WR.eff hE rfl rfl rfl rfl (OpTo.fn hE rfl rfl Tryz.call73 (arena_Arena_Cell_ok et_1 H)) ?_
  rintro _ w ⟨rfl, H⟩ a hE
  refine WR.seg hE 5 [] [0, 1, 2, 3, 8, 16] (Lo := [(0, .pointer (some ⟨p_a_, 0, none⟩)), (1, .int .i64 r), (2, .int .i64 n), (3, .int .i64 up), (8, .int .i64 t_.1), (16, .bool (t_1.1 == n))]) (obs := []) rfl (by kernel_rfl) trivial fun a hE => ?_
  refine WR.done rfl ?_
  obtain ⟨s, es, hm⟩ := bind_some hm
  refine Runs.join (fun a w => EnvOk 35 a [(0, .pointer (some ⟨p_a_, 0, none⟩)), (1, .int .i64 r), (2, .int .i64 n), (3, .int .i64 up)] ∧ St w0 (arena_Arena.R p_a_ al_a_ s :: As) w) (fun hk => ?_) ?_
  · replace hm := es; clear es
    refine Runs.cond hE rfl (fun c => ?_) (fun c => ?_)
    · replace hm := cond_t c hm
      refine Runs.region ?_
      refine WR.seg hE 3 [] [0, 1, 2, 3, 17, 18, 19] (Lo := [(0, .pointer (some ⟨p_a_, 0, none⟩)), (1, .int .i64 r), (2, .int .i64 n), (3, .int .i64 up), (17, .pointer (some ⟨p_a_, 0, none⟩)), (18, .int .i64 up), (19, .int .i64 t_.1)]) (obs := []) rfl (by kernel_rfl) trivial fun a hE => ?_
      obtain ⟨t_2, et_2, hm⟩ := bind_some hm
      refine WR.eff hE rfl rfl rfl rfl (OpTo.fn hE rfl rfl Tryz.call53 (arena_Arena_Set_ok et_2 H)) ?_
      rintro _ w ⟨rfl, hf, H⟩ a hE
      refine WR.done rfl ?_
      cases hm
      exact hk _ _ ⟨hE.sel [0, 1, 2, 3] (by kernel_rfl), H⟩
    · replace hm := cond_f c hm
      refine Runs.skip ?_
      cases hm
      exact hk _ _ ⟨hE.sel [0, 1, 2, 3] (by kernel_rfl), H⟩
  rintro a w ⟨hE, H⟩
  refine Runs.seq ?_
  refine Runs.region ?_
  refine WR.seg hE 4 [] [0, 1, 2, 21, 22, 23, 24] (Lo := [(0, .pointer (some ⟨p_a_, 0, none⟩)), (1, .int .i64 r), (2, .int .i64 n), (21, .pointer (some ⟨p_a_, 0, none⟩)), (22, .int .i64 up), (23, .pointer (some ⟨p_a_, 0, none⟩)), (24, .int .i64 up)]) (obs := []) rfl (by kernel_rfl) trivial fun a hE => ?_
  obtain ⟨t_3, et_3, hm⟩ := bind_some hm
  refine WR.eff hE rfl rfl rfl rfl (OpTo.fn hE rfl rfl Tryz.call61 (arena_Arena_Get_ok et_3 H)) ?_
  rintro _ w ⟨rfl, hf2, hf1, H⟩ a hE
  refine WR.seg hE 6 [] [0, 1, 2, 21, 22, 26] (Lo := [(0, .pointer (some ⟨p_a_, 0, none⟩)), (1, .int .i64 r), (2, .int .i64 n), (21, .pointer (some ⟨p_a_, 0, none⟩)), (22, .int .i64 up), (26, .int .i64 (w64 (t_3.1 - 1)))]) (obs := []) rfl (by kernel_rfl) trivial fun a hE => ?_
  obtain ⟨t_4, et_4, hm⟩ := bind_some hm
  refine WR.eff hE rfl rfl rfl rfl (OpTo.fn hE rfl rfl Tryz.call53 (arena_Arena_Set_ok et_4 H)) ?_
  rintro _ w ⟨rfl, hf3, H⟩ a hE
  refine WR.done rfl ?_
  refine Runs.seq ?_
  refine Runs.region ?_
  refine WR.seg hE 2 [] [0, 1, 2, 28, 29] (Lo := [(0, .pointer (some ⟨p_a_, 0, none⟩)), (1, .int .i64 r), (2, .int .i64 n), (28, .pointer (some ⟨p_a_, 0, none⟩)), (29, .int .i64 n)]) (obs := []) rfl (by kernel_rfl) trivial fun a hE => ?_
  obtain ⟨t_5, et_5, hm⟩ := bind_some hm
  refine WR.eff hE rfl rfl rfl rfl (OpTo.fn hE rfl rfl Tryz.call53 (arena_Arena_Set_ok et_5 H)) ?_
  rintro _ w ⟨rfl, hf4, H⟩ a hE
  refine WR.done rfl ?_
  refine Runs.region ?_
  refine WR.seg hE 3 [] [31, 32, 33] (Lo := [(31, .pointer (some ⟨p_a_, 0, none⟩)), (32, .int .i64 r), (33, .int .i64 n)]) (obs := []) rfl (by kernel_rfl) trivial fun a hE => ?_
  obtain ⟨t_6, et_6, hm⟩ := bind_some hm
  refine WR.eff hE rfl rfl rfl rfl (OpTo.fn hE rfl rfl Tryz.call136 (chain_Put_ok et_6 H)) ?_
  rintro _ w ⟨rfl, H⟩ a hE
  refine WR.done rfl ?_
  refine Runs.fin hE Tryz.func170 rfl rfl ?_
  cases hm
  exact ⟨rfl, H⟩

theorem fib_cut_ok {w0 w : World} {As : List HP} {k : Nat} {p_a_ : Nat} {al_a_ : arena_Arena.A} {a_ : arena_Arena} {r : Int} {n : Int} {t : arena_Arena}  (hm : fib_cut k a_ r n = some t) (H : St w0 (arena_Arena.R p_a_ al_a_ a_ :: As) w) :
    CallsR Tryz.prog 144 #[.pointer (some ⟨p_a_, 0, none⟩), .int .i64 r, .int .i64 n] w fun v w' => v = .tuple #[] ∧ St w0 (arena_Arena.R p_a_ al_a_ t :: As) w' := by
  rw [fib_cut] at hm
  refine enter (args := [.pointer (some ⟨p_a_, 0, none⟩), .int .i64 r, .int .i64 n]) Tryz.func144 rfl rfl rfl fun a hE => ?_
  refine Runs.seq ?_
  refine Runs.region ?_
  refine WR.seg hE 2 [] [0, 1, 2, 8, 9] (Lo := [(0, .pointer (some ⟨p_a_, 0, none⟩)), (1, .int .i64 r), (2, .int .i64 n), (8, .pointer (some ⟨p_a_, 0, none⟩)), (9, .int .i64 n)]) (obs := []) rfl (by kernel_rfl) trivial fun a hE => ?_
  obtain ⟨t_, et_, hm⟩ := bind_some hm
  refine WR.eff hE rfl rfl rfl rfl (OpTo.fn hE rfl rfl Tryz.call73 (arena_Arena_Cell_ok et_ H)) ?_
  rintro _ w ⟨rfl, H⟩ a hE
  refine WR.seg hE 4 [] [0, 1, 2, 6] (Lo := [(0, .pointer (some ⟨p_a_, 0, none⟩)), (1, .int .i64 r), (2, .int .i64 n), (6, .int .i64 t_.1)]) (obs := []) rfl (by kernel_rfl) trivial fun a hE => ?_
  refine WR.done rfl ?_
  refine Runs.seq ?_
  refine Runs.region ?_
  refine WR.seg hE 1 [] [0, 1, 2, 6, 7] (Lo := [(0, .pointer (some ⟨p_a_, 0, none⟩)), (1, .int .i64 r), (2, .int .i64 n), (6, .int .i64 t_.1), (7, .int .i64 0)]) (obs := []) rfl (by kernel_rfl) trivial fun a hE => ?_
  refine WR.done rfl ?_
  obtain ⟨s, es, hR⟩ := bind_some hm
  refine Runs.join (fun a w => ∃ s1, s = Sum.inr s1 ∧ EnvOk 41 a [] ∧ St w0 (arena_Arena.R p_a_ al_a_ s1 :: As) w) (fun hk => ?_) ?_
  · replace hm := es; clear es
    refine Runs.block ?_
    refine Runs.loop (fun m a w => ∃ (n1 : Int), ∃ (up : Int), ∃ (k_ : Int), ∃ (m_ : arena_Arena), EnvOk 41 a [(0, .pointer (some ⟨p_a_, 0, none⟩)), (1, .int .i64 r), (2, .int .i64 n1), (6, .int .i64 up), (7, .int .i64 k_)] ∧ St w0 (arena_Arena.R p_a_ al_a_ m_ :: As) w ∧ fib_cut_l0 r m n1 up k_ m_ = some s) k ⟨n, t_.1, 0, t_.2, hE.sel [0, 1, 2, 6, 7] (by kernel_rfl), H, hm⟩ ?_
    rintro m ih a w ⟨n1, up, k_, m_, hE, H, hm⟩
    cases m with
    | zero => simp [fib_cut_l0] at hm
    | succ m =>
      rw [fib_cut_l0] at hm
      refine Runs.seq ?_
      refine Runs.seq ?_
      obtain ⟨s2, es2, hm⟩ := bind_some hm
      refine Runs.join (fun a w => EnvOk 41 a [(0, .pointer (some ⟨p_a_, 0, none⟩)), (1, .int .i64 r), (2, .int .i64 n1), (6, .int .i64 up), (7, .int .i64 k_), (18, .bool s2)] ∧ St w0 (arena_Arena.R p_a_ al_a_ m_ :: As) w) (fun hk => ?_) ?_
      · replace hm := es2; clear es2
        refine Runs.region ?_
        refine WR.seg hE 3 [] [0, 1, 2, 6, 7, 13] (Lo := [(0, .pointer (some ⟨p_a_, 0, none⟩)), (1, .int .i64 r), (2, .int .i64 n1), (6, .int .i64 up), (7, .int .i64 k_), (13, .bool (up != (-1)))]) (obs := []) rfl (by kernel_rfl) trivial fun a hE => ?_
        rcases Bool.eq_false_or_eq_true (up != (-1)) with c | c
        · replace hE := hE.dec 13 c (by kernel_rfl)
          replace hm := cond_t c hm
          have c_ := c
          refine WR.seg hE 5 [] [0, 1, 2, 6, 7, 13, 14, 15] (Lo := [(0, .pointer (some ⟨p_a_, 0, none⟩)), (1, .int .i64 r), (2, .int .i64 n1), (6, .int .i64 up), (7, .int .i64 k_), (13, .bool true), (14, .int .i64 k_), (15, .pointer (some ⟨p_a_, 0, none⟩))]) (obs := []) rfl (by kernel_rfl) trivial fun a hE => ?_
          obtain ⟨t_1, et_1, hm⟩ := bind_some hm
          refine WR.eff hE rfl rfl rfl rfl (OpTo.fn hE rfl rfl Tryz.call63 (arena_Arena_Cells_ok et_1 H)) ?_
          rintro _ w ⟨rfl, H⟩ a hE
          refine WR.seg hE 8 [] [0, 1, 2, 6, 7, 18] (Lo := [(0, .pointer (some ⟨p_a_, 0, none⟩)), (1, .int .i64 r), (2, .int .i64 n1), (6, .int .i64 up), (7, .int .i64 k_), (18, .bool (decide (k_ ≤ t_1)))]) (obs := []) rfl (by kernel_rfl) trivial fun a hE => ?_
          refine WR.done rfl ?_
          cases hm
          exact hk _ _ ⟨hE.sel [0, 1, 2, 6, 7, 18] (by kernel_rfl), H⟩
        · replace hE := hE.dec 13 c (by kernel_rfl)
          replace hm := cond_f c hm
          have c_1 := c
          refine WR.seg hE 8 [] [0, 1, 2, 6, 7, 18] (Lo := [(0, .pointer (some ⟨p_a_, 0, none⟩)), (1, .int .i64 r), (2, .int .i64 n1), (6, .int .i64 up), (7, .int .i64 k_), (18, .bool false)]) (obs := []) rfl (by kernel_rfl) trivial fun a hE => ?_
          refine WR.done rfl ?_
          cases hm
          exact hk _ _ ⟨hE.sel [0, 1, 2, 6, 7, 18] (by kernel_rfl), H⟩
      rintro a w ⟨hE, H⟩
      refine Runs.cond hE rfl (fun c => ?_) (fun c => ?_)
      · replace hm := cond_t c hm
        refine Runs.skip ?_
        refine Runs.seq ?_
        refine Runs.block ?_
        refine Runs.seq ?_
        refine Runs.region ?_
        refine WR.seg hE 4 [] [0, 1, 6, 7, 21, 22, 23, 24] (Lo := [(0, .pointer (some ⟨p_a_, 0, none⟩)), (1, .int .i64 r), (6, .int .i64 up), (7, .int .i64 k_), (21, .pointer (some ⟨p_a_, 0, none⟩)), (22, .int .i64 r), (23, .int .i64 n1), (24, .int .i64 up)]) (obs := []) rfl (by kernel_rfl) trivial fun a hE => ?_
        obtain ⟨t_2, et_2, hm⟩ := bind_some hm
        refine WR.eff hE rfl rfl rfl rfl (OpTo.fn hE rfl rfl Tryz.call170 (fib_leave_ok et_2 H)) ?_
        rintro _ w ⟨rfl, H⟩ a hE
        refine WR.done rfl ?_
        refine Runs.seq ?_
        refine Runs.region ?_
        refine WR.seg hE 2 [] [0, 1, 2, 7] (Lo := [(0, .pointer (some ⟨p_a_, 0, none⟩)), (1, .int .i64 r), (2, .int .i64 up), (7, .int .i64 k_)]) (obs := []) rfl (by kernel_rfl) trivial fun a hE => ?_
        refine WR.done rfl ?_
        refine Runs.seq ?_
        refine Runs.region ?_
        refine WR.seg hE 2 [] [0, 1, 2, 7, 27, 28] (Lo := [(0, .pointer (some ⟨p_a_, 0, none⟩)), (1, .int .i64 r), (2, .int .i64 up), (7, .int .i64 k_), (27, .pointer (some ⟨p_a_, 0, none⟩)), (28, .int .i64 up)]) (obs := []) rfl (by kernel_rfl) trivial fun a hE => ?_
        obtain ⟨t_3, et_3, hm⟩ := bind_some hm
        refine WR.eff hE rfl rfl rfl rfl (OpTo.fn hE rfl rfl Tryz.call73 (arena_Arena_Cell_ok et_3 H)) ?_
        rintro _ w ⟨rfl, H⟩ a hE
        refine WR.seg hE 4 [] [0, 1, 2, 6, 7] (Lo := [(0, .pointer (some ⟨p_a_, 0, none⟩)), (1, .int .i64 r), (2, .int .i64 up), (6, .int .i64 t_3.1), (7, .int .i64 k_)]) (obs := []) rfl (by kernel_rfl) trivial fun a hE => ?_
        refine WR.done rfl ?_
        refine Runs.seq ?_
        obtain ⟨s3, es3, hm⟩ := bind_some hm
        refine Runs.join (fun a w => EnvOk 41 a [(0, .pointer (some ⟨p_a_, 0, none⟩)), (1, .int .i64 r), (2, .int .i64 up), (6, .int .i64 t_3.1), (7, .int .i64 k_), (37, .bool s3.1)] ∧ St w0 (arena_Arena.R p_a_ al_a_ s3.2 :: As) w) (fun hk => ?_) ?_
        · replace hm := es3; clear es3
          refine Runs.region ?_
          refine WR.seg hE 3 [] [0, 1, 2, 6, 7, 32] (Lo := [(0, .pointer (some ⟨p_a_, 0, none⟩)), (1, .int .i64 r), (2, .int .i64 up), (6, .int .i64 t_3.1), (7, .int .i64 k_), (32, .bool (t_3.1 != (-1)))]) (obs := []) rfl (by kernel_rfl) trivial fun a hE => ?_
          rcases Bool.eq_false_or_eq_true (t_3.1 != (-1)) with c | c
          · replace hE := hE.dec 32 c (by kernel_rfl)
            replace hm := cond_t c hm
            have c_2 := c
            refine WR.seg hE 5 [] [0, 1, 2, 6, 7, 32, 33, 34] (Lo := [(0, .pointer (some ⟨p_a_, 0, none⟩)), (1, .int .i64 r), (2, .int .i64 up), (6, .int .i64 t_3.1), (7, .int .i64 k_), (32, .bool true), (33, .pointer (some ⟨p_a_, 0, none⟩)), (34, .int .i64 up)]) (obs := []) rfl (by kernel_rfl) trivial fun a hE => ?_
            obtain ⟨t_4, et_4, hm⟩ := bind_some hm
            refine WR.eff hE rfl rfl rfl rfl (OpTo.fn hE rfl rfl Tryz.call61 (arena_Arena_Get_ok et_4 H)) ?_
            rintro _ w ⟨rfl, hf1, hf, H⟩ a hE
            refine WR.seg hE 8 [] [0, 1, 2, 6, 7, 37] (Lo := [(0, .pointer (some ⟨p_a_, 0, none⟩)), (1, .int .i64 r), (2, .int .i64 up), (6, .int .i64 t_3.1), (7, .int .i64 k_), (37, .bool (t_4.1 == 0))]) (obs := []) rfl (by kernel_rfl) trivial fun a hE => ?_
            refine WR.done rfl ?_
            cases hm
            exact hk _ _ ⟨hE.sel [0, 1, 2, 6, 7, 37] (by kernel_rfl), H⟩
          · replace hE := hE.dec 32 c (by kernel_rfl)
            replace hm := cond_f c hm
            have c_3 := c
            refine WR.seg hE 8 [] [0, 1, 2, 6, 7, 37] (Lo := [(0, .pointer (some ⟨p_a_, 0, none⟩)), (1, .int .i64 r), (2, .int .i64 up), (6, .int .i64 t_3.1), (7, .int .i64 k_), (37, .bool false)]) (obs := []) rfl (by kernel_rfl) trivial fun a hE => ?_
            refine WR.done rfl ?_
            cases hm
            exact hk _ _ ⟨hE.sel [0, 1, 2, 6, 7, 37] (by kernel_rfl), H⟩
        rintro a w ⟨hE, H⟩
        refine Runs.cond hE rfl (fun c => ?_) (fun c => ?_)
        · replace hm := cond_t c hm
          refine Runs.seq ?_
          refine Runs.region ?_
          refine WR.seg hE 2 [] [38, 39] (Lo := [(38, .pointer (some ⟨p_a_, 0, none⟩)), (39, .int .i64 up)]) (obs := []) rfl (by kernel_rfl) trivial fun a hE => ?_
          obtain ⟨t_5, et_5, hm⟩ := bind_some hm
          refine WR.eff hE rfl rfl rfl rfl (OpTo.fn hE rfl rfl Tryz.call53 (arena_Arena_Set_ok et_5 H)) ?_
          rintro _ w ⟨rfl, hf2, H⟩ a hE
          refine WR.done rfl ?_
          refine Runs.ret hE Tryz.func144 rfl rfl ?_
          cases hm
          dsimp only at hR; cases hR
          exact ⟨rfl, H⟩
        · replace hm := cond_f c hm
          refine Runs.skip ?_
          refine Runs.inBlock ?_
          refine Runs.region ?_
          refine WR.seg hE 3 [] [0, 1, 2, 6, 7] (Lo := [(0, .pointer (some ⟨p_a_, 0, none⟩)), (1, .int .i64 r), (2, .int .i64 up), (6, .int .i64 t_3.1), (7, .int .i64 (w64 (k_ + 1)))]) (obs := []) rfl (by kernel_rfl) trivial fun a hE => ?_
          refine WR.done rfl ?_
          exact ih m (Nat.lt_succ_self m) _ _ ⟨up, t_3.1, w64 (k_ + 1), s3.2, hE.sel [0, 1, 2, 6, 7] (by kernel_rfl), H, hm⟩
      · replace hm := cond_f c hm
        refine Runs.exit rfl ?_
        cases hm
        exact hk _ _ ⟨_, rfl, hE.sel [] (by kernel_rfl), H⟩
  rintro a w ⟨s1, rfl, hE, H⟩
  replace hm := hR; dsimp only at hm
  refine Runs.fin hE Tryz.func144 rfl rfl ?_
  cases hm
  exact ⟨rfl, H⟩

theorem fib_Fall_ok {w0 w : World} {As : List HP} {k : Nat} {p_a_ : Nat} {al_a_ : arena_Arena.A} {a_ : arena_Arena} {r : Int} {i : Int} {t : Int × arena_Arena}  (hm : fib_Fall k a_ r i = some t) (H : St w0 (arena_Arena.R p_a_ al_a_ a_ :: As) w) :
    CallsR Tryz.prog 91 #[.pointer (some ⟨p_a_, 0, none⟩), .int .i64 r, .int .i64 i] w fun v w' => v = .int .i64 t.1 ∧ St w0 (arena_Arena.R p_a_ al_a_ t.2 :: As) w' := by
  rw [fib_Fall] at hm
  refine enter (args := [.pointer (some ⟨p_a_, 0, none⟩), .int .i64 r, .int .i64 i]) Tryz.func91 rfl rfl rfl fun a hE => ?_
  refine Runs.seq ?_
  refine Runs.region ?_
  refine WR.seg hE 1 [] [0, 1, 2] (Lo := [(0, .pointer (some ⟨p_a_, 0, none⟩)), (1, .int .i64 r), (2, .int .i64 i)]) (obs := []) rfl (by kernel_rfl) trivial fun a hE => ?_
  refine WR.done rfl ?_
  refine Runs.seq ?_
  refine Runs.seq ?_
  refine Runs.region ?_
  refine WR.seg hE 2 [] [0, 1, 2, 10] (Lo := [(0, .pointer (some ⟨p_a_, 0, none⟩)), (1, .int .i64 r), (2, .int .i64 i), (10, .bool false)]) (obs := []) rfl (by kernel_rfl) trivial fun a hE => ?_
  refine WR.done rfl ?_
  refine Runs.condF hE rfl ?_
  refine Runs.skip ?_
  refine Runs.seq ?_
  refine Runs.region ?_
  refine WR.seg hE 2 [] [0, 1, 11, 12] (Lo := [(0, .pointer (some ⟨p_a_, 0, none⟩)), (1, .int .i64 r), (11, .pointer (some ⟨p_a_, 0, none⟩)), (12, .int .i64 i)]) (obs := []) rfl (by kernel_rfl) trivial fun a hE => ?_
  obtain ⟨t_, et_, hm⟩ := bind_some hm
  refine WR.eff hE rfl rfl rfl rfl (OpTo.fn hE rfl rfl Tryz.call65 (item_Node_ok et_ H)) ?_
  rintro _ w ⟨rfl, H⟩ a hE
  refine WR.seg hE 4 [] [0, 1, 7] (Lo := [(0, .pointer (some ⟨p_a_, 0, none⟩)), (1, .int .i64 r), (7, .int .i64 t_.1)]) (obs := []) rfl (by kernel_rfl) trivial fun a hE => ?_
  refine WR.done rfl ?_
  refine Runs.seq ?_
  refine Runs.seq ?_
  refine Runs.join (fun a w => EnvOk 41 a [(0, .pointer (some ⟨p_a_, 0, none⟩)), (1, .int .i64 r), (7, .int .i64 t_.1), (20, .bool ((t_.1 == (-1)) || (t_.1 == r)))] ∧ St w0 (arena_Arena.R p_a_ al_a_ t_.2 :: As) w) (fun hk => ?_) ?_
  · clear hm
    refine Runs.region ?_
    refine WR.seg hE 3 [] [0, 1, 7, 16] (Lo := [(0, .pointer (some ⟨p_a_, 0, none⟩)), (1, .int .i64 r), (7, .int .i64 t_.1), (16, .bool (t_.1 == (-1)))]) (obs := []) rfl (by kernel_rfl) trivial fun a hE => ?_
    rcases Bool.eq_false_or_eq_true (t_.1 == (-1)) with c | c
    · replace hE := hE.dec 16 c (by kernel_rfl)
      have c_ := c
      refine WR.seg hE 7 [] [0, 1, 7, 20] (Lo := [(0, .pointer (some ⟨p_a_, 0, none⟩)), (1, .int .i64 r), (7, .int .i64 t_.1), (20, .bool true)]) (obs := []) rfl (by kernel_rfl) trivial fun a hE => ?_
      refine WR.done rfl ?_
      refine hk _ _ ⟨?_, H⟩
      try rw [c_] at hE
      try rw [c_]
      exact hE.sel [0, 1, 7, 20] (by kernel_rfl)
    · replace hE := hE.dec 16 c (by kernel_rfl)
      have c_1 := c
      refine WR.seg hE 7 [] [0, 1, 7, 20] (Lo := [(0, .pointer (some ⟨p_a_, 0, none⟩)), (1, .int .i64 r), (7, .int .i64 t_.1), (20, .bool (t_.1 == r))]) (obs := []) rfl (by kernel_rfl) trivial fun a hE => ?_
      refine WR.done rfl ?_
      refine hk _ _ ⟨?_, H⟩
      try rw [c_1] at hE
      try rw [c_1]
      exact hE.sel [0, 1, 7, 20] (by kernel_rfl)
  rintro a w ⟨hE, H⟩
  refine Runs.cond hE rfl (fun c => ?_) (fun c => ?_)
  · replace hm := cond_t c hm
    refine Runs.seq ?_
    refine Runs.region ?_
    refine WR.seg hE 2 [] [6] (Lo := [(6, .int .i64 r)]) (obs := []) rfl (by kernel_rfl) trivial fun a hE => ?_
    refine WR.done rfl ?_
    refine Runs.ret hE Tryz.func91 rfl rfl ?_
    cases hm
    exact ⟨rfl, H⟩
  · replace hm := cond_f c hm
    refine Runs.skip ?_
    refine Runs.seq ?_
    refine Runs.seq ?_
    refine Runs.region ?_
    refine WR.seg hE 2 [] [0, 1, 7, 22, 23] (Lo := [(0, .pointer (some ⟨p_a_, 0, none⟩)), (1, .int .i64 r), (7, .int .i64 t_.1), (22, .pointer (some ⟨p_a_, 0, none⟩)), (23, .int .i64 t_.1)]) (obs := []) rfl (by kernel_rfl) trivial fun a hE => ?_
    obtain ⟨t_1, et_1, hm⟩ := bind_some hm
    refine WR.eff hE rfl rfl rfl rfl (OpTo.fn hE rfl rfl Tryz.call73 (arena_Arena_Cell_ok et_1 H)) ?_
    rintro _ w ⟨rfl, H⟩ a hE
    refine WR.seg hE 4 [] [0, 1, 7, 8] (Lo := [(0, .pointer (some ⟨p_a_, 0, none⟩)), (1, .int .i64 r), (7, .int .i64 t_.1), (8, .int .i64 t_1.1)]) (obs := []) rfl (by kernel_rfl) trivial fun a hE => ?_
    refine WR.done rfl ?_
    refine Runs.seq ?_
    refine Runs.region ?_
    refine WR.seg hE 2 [] [0, 1, 7, 8, 26] (Lo := [(0, .pointer (some ⟨p_a_, 0, none⟩)), (1, .int .i64 r), (7, .int .i64 t_.1), (8, .int .i64 t_1.1), (26, .bool (t_1.1 != (-1)))]) (obs := []) rfl (by kernel_rfl) trivial fun a hE => ?_
    refine WR.done rfl ?_
    obtain ⟨s, es, hR⟩ := bind_some hm
    refine Runs.join (fun a w => ∃ s1, s = Sum.inr s1 ∧ EnvOk 41 a [(0, .pointer (some ⟨p_a_, 0, none⟩)), (1, .int .i64 r), (7, .int .i64 t_.1)] ∧ St w0 (arena_Arena.R p_a_ al_a_ s1 :: As) w) (fun hk => ?_) ?_
    · replace hm := es; clear es
      refine Runs.cond hE rfl (fun c => ?_) (fun c => ?_)
      · replace hm := cond_t c hm
        refine Runs.seq ?_
        refine Runs.seq ?_
        refine Runs.region ?_
        refine WR.seg hE 3 [] [0, 1, 7, 27, 28, 29] (Lo := [(0, .pointer (some ⟨p_a_, 0, none⟩)), (1, .int .i64 r), (7, .int .i64 t_.1), (27, .pointer (some ⟨p_a_, 0, none⟩)), (28, .int .i64 t_.1), (29, .int .i64 t_1.1)]) (obs := []) rfl (by kernel_rfl) trivial fun a hE => ?_
        obtain ⟨t_2, et_2, hm⟩ := bind_some hm
        refine WR.eff hE rfl rfl rfl rfl (OpTo.fn hE rfl rfl Tryz.call124 (node_Before_ok et_2 H)) ?_
        rintro _ w ⟨rfl, H⟩ a hE
        refine WR.seg hE 5 [] [0, 1, 7, 31] (Lo := [(0, .pointer (some ⟨p_a_, 0, none⟩)), (1, .int .i64 r), (7, .int .i64 t_.1), (31, .bool (!t_2.1))]) (obs := []) rfl (by kernel_rfl) trivial fun a hE => ?_
        refine WR.done rfl ?_
        refine Runs.cond hE rfl (fun c => ?_) (fun c => ?_)
        · replace hm := cond_t c hm
          refine Runs.seq ?_
          refine Runs.region ?_
          refine WR.seg hE 2 [] [6] (Lo := [(6, .int .i64 r)]) (obs := []) rfl (by kernel_rfl) trivial fun a hE => ?_
          refine WR.done rfl ?_
          refine Runs.ret hE Tryz.func91 rfl rfl ?_
          cases hm
          dsimp only at hR; cases hR
          exact ⟨rfl, H⟩
        · replace hm := cond_f c hm
          refine Runs.skip ?_
          refine Runs.region ?_
          refine WR.seg hE 3 [] [0, 1, 7, 33, 34, 35] (Lo := [(0, .pointer (some ⟨p_a_, 0, none⟩)), (1, .int .i64 r), (7, .int .i64 t_.1), (33, .pointer (some ⟨p_a_, 0, none⟩)), (34, .int .i64 r), (35, .int .i64 t_.1)]) (obs := []) rfl (by kernel_rfl) trivial fun a hE => ?_
          obtain ⟨t_3, et_3, hm⟩ := bind_some hm
          refine WR.eff hE rfl rfl rfl rfl (OpTo.fn hE rfl rfl Tryz.call144 (fib_cut_ok et_3 H)) ?_
          rintro _ w ⟨rfl, H⟩ a hE
          refine WR.done rfl ?_
          cases hm
          exact hk _ _ ⟨_, rfl, hE.sel [0, 1, 7] (by kernel_rfl), H⟩
      · replace hm := cond_f c hm
        refine Runs.skip ?_
        cases hm
        exact hk _ _ ⟨_, rfl, hE.sel [0, 1, 7] (by kernel_rfl), H⟩
    rintro a w ⟨s1, rfl, hE, H⟩
    replace hm := hR; dsimp only at hm
    refine Runs.seq ?_
    refine Runs.region ?_
    refine WR.seg hE 3 [] [37, 38, 39] (Lo := [(37, .pointer (some ⟨p_a_, 0, none⟩)), (38, .int .i64 r), (39, .int .i64 t_.1)]) (obs := []) rfl (by kernel_rfl) trivial fun a hE => ?_
    obtain ⟨t_4, et_4, hm⟩ := bind_some hm
    refine WR.eff hE rfl rfl rfl rfl (OpTo.fn hE rfl rfl Tryz.call137 (fib_lesser_ok et_4 H)) ?_
    rintro _ w ⟨rfl, H⟩ a hE
    refine WR.seg hE 5 [] [6] (Lo := [(6, .int .i64 t_4.1)]) (obs := []) rfl (by kernel_rfl) trivial fun a hE => ?_
    refine WR.done rfl ?_
    refine Runs.ret hE Tryz.func91 rfl rfl ?_
    cases hm
    exact ⟨rfl, H⟩

theorem pairing_leave_ok {w0 w : World} {As : List HP} {p_a_ : Nat} {al_a_ : arena_Arena.A} {a_ : arena_Arena} {n : Int} {t : arena_Arena}  (hm : pairing_leave a_ n = some t) (H : St w0 (arena_Arena.R p_a_ al_a_ a_ :: As) w) :
    CallsR Tryz.prog 145 #[.pointer (some ⟨p_a_, 0, none⟩), .int .i64 n] w fun v w' => v = .tuple #[] ∧ St w0 (arena_Arena.R p_a_ al_a_ t :: As) w' := by
  rw [pairing_leave] at hm
  refine enter (args := [.pointer (some ⟨p_a_, 0, none⟩), .int .i64 n]) Tryz.func145 rfl rfl rfl fun a hE => ?_
  refine Runs.seq ?_
  refine Runs.region ?_
  refine WR.seg hE 2 [] [0, 1, 6, 7] (Lo := [(0, .pointer (some ⟨p_a_, 0, none⟩)), (1, .int .i64 n), (6, .pointer (some ⟨p_a_, 0, none⟩)), (7, .int .i64 n)]) (obs := []) rfl (by kernel_rfl) trivial fun a hE => ?_
  obtain ⟨t_, et_, hm⟩ := bind_some hm
  refine WR.eff hE rfl rfl rfl rfl (OpTo.fn hE rfl rfl Tryz.call73 (arena_Arena_Cell_ok et_ H)) ?_
  rintro _ w ⟨rfl, H⟩ a hE
  refine WR.seg hE 5 [] [0, 1, 8, 9, 10] (Lo := [(0, .pointer (some ⟨p_a_, 0, none⟩)), (1, .int .i64 n), (8, .int .i64 t_.1), (9, .pointer (some ⟨p_a_, 0, none⟩)), (10, .int .i64 n)]) (obs := []) rfl (by kernel_rfl) trivial fun a hE => ?_
  obtain ⟨t_1, et_1, hm⟩ := bind_some hm
  refine WR.eff hE rfl rfl rfl rfl (OpTo.fn hE rfl rfl Tryz.call73 (arena_Arena_Cell_ok et_1 H)) ?_
  rintro _ w ⟨rfl, H⟩ a hE
  refine WR.seg hE 8 [] [0, 1, 4, 5] (Lo := [(0, .pointer (some ⟨p_a_, 0, none⟩)), (1, .int .i64 n), (4, .int .i64 t_.1), (5, .int .i64 t_1.1)]) (obs := []) rfl (by kernel_rfl) trivial fun a hE => ?_
  refine WR.done rfl ?_
  refine Runs.seq ?_
  refine Runs.seq ?_
  refine Runs.region ?_
  refine WR.seg hE 2 [] [0, 1, 4, 5, 13] (Lo := [(0, .pointer (some ⟨p_a_, 0, none⟩)), (1, .int .i64 n), (4, .int .i64 t_.1), (5, .int .i64 t_1.1), (13, .bool (t_.1 != (-1)))]) (obs := []) rfl (by kernel_rfl) trivial fun a hE => ?_
  refine WR.done rfl ?_
  obtain ⟨s, es, hm⟩ := bind_some hm
  refine Runs.join (fun a w => EnvOk 33 a [(0, .pointer (some ⟨p_a_, 0, none⟩)), (1, .int .i64 n), (4, .int .i64 t_.1), (5, .int .i64 t_1.1)] ∧ St w0 (arena_Arena.R p_a_ al_a_ s :: As) w) (fun hk => ?_) ?_
  · replace hm := es; clear es
    refine Runs.cond hE rfl (fun c => ?_) (fun c => ?_)
    · replace hm := cond_t c hm
      refine Runs.region ?_
      refine WR.seg hE 3 [] [0, 1, 4, 5, 14, 15, 16] (Lo := [(0, .pointer (some ⟨p_a_, 0, none⟩)), (1, .int .i64 n), (4, .int .i64 t_.1), (5, .int .i64 t_1.1), (14, .pointer (some ⟨p_a_, 0, none⟩)), (15, .int .i64 t_.1), (16, .int .i64 t_1.1)]) (obs := []) rfl (by kernel_rfl) trivial fun a hE => ?_
      obtain ⟨t_2, et_2, hm⟩ := bind_some hm
      refine WR.eff hE rfl rfl rfl rfl (OpTo.fn hE rfl rfl Tryz.call53 (arena_Arena_Set_ok et_2 H)) ?_
      rintro _ w ⟨rfl, hf, H⟩ a hE
      refine WR.done rfl ?_
      cases hm
      exact hk _ _ ⟨hE.sel [0, 1, 4, 5] (by kernel_rfl), H⟩
    · replace hm := cond_f c hm
      refine Runs.region ?_
      refine WR.seg hE 3 [] [0, 1, 4, 5, 18, 19, 20] (Lo := [(0, .pointer (some ⟨p_a_, 0, none⟩)), (1, .int .i64 n), (4, .int .i64 t_.1), (5, .int .i64 t_1.1), (18, .pointer (some ⟨p_a_, 0, none⟩)), (19, .pointer (some ⟨p_a_, 0, none⟩)), (20, .int .i64 n)]) (obs := []) rfl (by kernel_rfl) trivial fun a hE => ?_
      obtain ⟨t_3, et_3, hm⟩ := bind_some hm
      refine WR.eff hE rfl rfl rfl rfl (OpTo.fn hE rfl rfl Tryz.call73 (arena_Arena_Cell_ok et_3 H)) ?_
      rintro _ w ⟨rfl, H⟩ a hE
      refine WR.seg hE 5 [] [0, 1, 4, 5, 18, 21, 22] (Lo := [(0, .pointer (some ⟨p_a_, 0, none⟩)), (1, .int .i64 n), (4, .int .i64 t_.1), (5, .int .i64 t_1.1), (18, .pointer (some ⟨p_a_, 0, none⟩)), (21, .int .i64 t_3.1), (22, .int .i64 t_1.1)]) (obs := []) rfl (by kernel_rfl) trivial fun a hE => ?_
      obtain ⟨t_4, et_4, hm⟩ := bind_some hm
      refine WR.eff hE rfl rfl rfl rfl (OpTo.fn hE rfl rfl Tryz.call53 (arena_Arena_Set_ok et_4 H)) ?_
      rintro _ w ⟨rfl, hf1, H⟩ a hE
      refine WR.done rfl ?_
      cases hm
      exact hk _ _ ⟨hE.sel [0, 1, 4, 5] (by kernel_rfl), H⟩
  rintro a w ⟨hE, H⟩
  refine Runs.seq ?_
  refine Runs.seq ?_
  refine Runs.region ?_
  refine WR.seg hE 2 [] [0, 1, 4, 5, 25] (Lo := [(0, .pointer (some ⟨p_a_, 0, none⟩)), (1, .int .i64 n), (4, .int .i64 t_.1), (5, .int .i64 t_1.1), (25, .bool (t_1.1 != (-1)))]) (obs := []) rfl (by kernel_rfl) trivial fun a hE => ?_
  refine WR.done rfl ?_
  obtain ⟨s1, es1, hm⟩ := bind_some hm
  refine Runs.join (fun a w => EnvOk 33 a [(0, .pointer (some ⟨p_a_, 0, none⟩)), (1, .int .i64 n)] ∧ St w0 (arena_Arena.R p_a_ al_a_ s1 :: As) w) (fun hk => ?_) ?_
  · replace hm := es1; clear es1
    refine Runs.cond hE rfl (fun c => ?_) (fun c => ?_)
    · replace hm := cond_t c hm
      refine Runs.region ?_
      refine WR.seg hE 3 [] [0, 1, 26, 27, 28] (Lo := [(0, .pointer (some ⟨p_a_, 0, none⟩)), (1, .int .i64 n), (26, .pointer (some ⟨p_a_, 0, none⟩)), (27, .int .i64 t_1.1), (28, .int .i64 t_.1)]) (obs := []) rfl (by kernel_rfl) trivial fun a hE => ?_
      obtain ⟨t_5, et_5, hm⟩ := bind_some hm
      refine WR.eff hE rfl rfl rfl rfl (OpTo.fn hE rfl rfl Tryz.call53 (arena_Arena_Set_ok et_5 H)) ?_
      rintro _ w ⟨rfl, hf2, H⟩ a hE
      refine WR.done rfl ?_
      cases hm
      exact hk _ _ ⟨hE.sel [0, 1] (by kernel_rfl), H⟩
    · replace hm := cond_f c hm
      refine Runs.skip ?_
      cases hm
      exact hk _ _ ⟨hE.sel [0, 1] (by kernel_rfl), H⟩
  rintro a w ⟨hE, H⟩
  refine Runs.region ?_
  refine WR.seg hE 2 [] [30, 31] (Lo := [(30, .pointer (some ⟨p_a_, 0, none⟩)), (31, .int .i64 n)]) (obs := []) rfl (by kernel_rfl) trivial fun a hE => ?_
  obtain ⟨t_6, et_6, hm⟩ := bind_some hm
  refine WR.eff hE rfl rfl rfl rfl (OpTo.fn hE rfl rfl Tryz.call171 (pairing_root_ok et_6 H)) ?_
  rintro _ w ⟨rfl, hf3, H⟩ a hE
  refine WR.done rfl ?_
  refine Runs.fin hE Tryz.func145 rfl rfl ?_
  cases hm
  exact ⟨rfl, H⟩

theorem pairing_Fall_ok {w0 w : World} {As : List HP} {k : Nat} {p_a_ : Nat} {al_a_ : arena_Arena.A} {a_ : arena_Arena} {r : Int} {i : Int} {t : Int × arena_Arena}  (hm : pairing_Fall k a_ r i = some t) (H : St w0 (arena_Arena.R p_a_ al_a_ a_ :: As) w) :
    CallsR Tryz.prog 92 #[.pointer (some ⟨p_a_, 0, none⟩), .int .i64 r, .int .i64 i] w fun v w' => v = .int .i64 t.1 ∧ St w0 (arena_Arena.R p_a_ al_a_ t.2 :: As) w' := by
  rw [pairing_Fall] at hm
  refine enter (args := [.pointer (some ⟨p_a_, 0, none⟩), .int .i64 r, .int .i64 i]) Tryz.func92 rfl rfl rfl fun a hE => ?_
  refine Runs.seq ?_
  refine Runs.region ?_
  refine WR.seg hE 1 [] [0, 1, 2] (Lo := [(0, .pointer (some ⟨p_a_, 0, none⟩)), (1, .int .i64 r), (2, .int .i64 i)]) (obs := []) rfl (by kernel_rfl) trivial fun a hE => ?_
  refine WR.done rfl ?_
  refine Runs.seq ?_
  refine Runs.seq ?_
  refine Runs.region ?_
  refine WR.seg hE 2 [] [0, 1, 2, 9] (Lo := [(0, .pointer (some ⟨p_a_, 0, none⟩)), (1, .int .i64 r), (2, .int .i64 i), (9, .bool false)]) (obs := []) rfl (by kernel_rfl) trivial fun a hE => ?_
  refine WR.done rfl ?_
  refine Runs.condF hE rfl ?_
  refine Runs.skip ?_
  refine Runs.seq ?_
  refine Runs.region ?_
  refine WR.seg hE 2 [] [0, 1, 10, 11] (Lo := [(0, .pointer (some ⟨p_a_, 0, none⟩)), (1, .int .i64 r), (10, .pointer (some ⟨p_a_, 0, none⟩)), (11, .int .i64 i)]) (obs := []) rfl (by kernel_rfl) trivial fun a hE => ?_
  obtain ⟨t_, et_, hm⟩ := bind_some hm
  refine WR.eff hE rfl rfl rfl rfl (OpTo.fn hE rfl rfl Tryz.call65 (item_Node_ok et_ H)) ?_
  rintro _ w ⟨rfl, H⟩ a hE
  refine WR.seg hE 4 [] [0, 1, 7] (Lo := [(0, .pointer (some ⟨p_a_, 0, none⟩)), (1, .int .i64 r), (7, .int .i64 t_.1)]) (obs := []) rfl (by kernel_rfl) trivial fun a hE => ?_
  refine WR.done rfl ?_
  refine Runs.seq ?_
  refine Runs.seq ?_
  obtain ⟨s, es, hm⟩ := bind_some hm
  refine Runs.join (fun a w => EnvOk 34 a [(0, .pointer (some ⟨p_a_, 0, none⟩)), (1, .int .i64 r), (7, .int .i64 t_.1), (25, .bool s.1)] ∧ St w0 (arena_Arena.R p_a_ al_a_ s.2 :: As) w) (fun hk => ?_) ?_
  · replace hm := es; clear es
    refine Runs.region ?_
    refine WR.seg hE 3 [] [0, 1, 7, 15] (Lo := [(0, .pointer (some ⟨p_a_, 0, none⟩)), (1, .int .i64 r), (7, .int .i64 t_.1), (15, .bool (t_.1 == (-1)))]) (obs := []) rfl (by kernel_rfl) trivial fun a hE => ?_
    rcases Bool.eq_false_or_eq_true (t_.1 == (-1)) with c | c
    · replace hE := hE.dec 15 c (by kernel_rfl)
      replace hm := cond_t c hm
      have c_ := c
      refine WR.seg hE 13 [] [0, 1, 7, 25] (Lo := [(0, .pointer (some ⟨p_a_, 0, none⟩)), (1, .int .i64 r), (7, .int .i64 t_.1), (25, .bool true)]) (obs := []) rfl (by kernel_rfl) trivial fun a hE => ?_
      refine WR.done rfl ?_
      cases hm
      exact hk _ _ ⟨hE.sel [0, 1, 7, 25] (by kernel_rfl), H⟩
    · replace hE := hE.dec 15 c (by kernel_rfl)
      replace hm := cond_f c hm
      have c_1 := c
      refine WR.seg hE 8 [] [0, 1, 7, 20] (Lo := [(0, .pointer (some ⟨p_a_, 0, none⟩)), (1, .int .i64 r), (7, .int .i64 t_.1), (20, .bool (t_.1 == r))]) (obs := []) rfl (by kernel_rfl) trivial fun a hE => ?_
      rcases Bool.eq_false_or_eq_true (t_.1 == r) with c | c
      · replace hE := hE.dec 20 c (by kernel_rfl)
        replace hm := cond_t c hm
        have c_2 := c
        refine WR.seg hE 13 [] [0, 1, 7, 25] (Lo := [(0, .pointer (some ⟨p_a_, 0, none⟩)), (1, .int .i64 r), (7, .int .i64 t_.1), (25, .bool true)]) (obs := []) rfl (by kernel_rfl) trivial fun a hE => ?_
        refine WR.done rfl ?_
        cases hm
        exact hk _ _ ⟨hE.sel [0, 1, 7, 25] (by kernel_rfl), H⟩
      · replace hE := hE.dec 20 c (by kernel_rfl)
        replace hm := cond_f c hm
        have c_3 := c
        refine WR.seg hE 10 [] [0, 1, 7, 20, 21, 22] (Lo := [(0, .pointer (some ⟨p_a_, 0, none⟩)), (1, .int .i64 r), (7, .int .i64 t_.1), (20, .bool false), (21, .pointer (some ⟨p_a_, 0, none⟩)), (22, .int .i64 t_.1)]) (obs := []) rfl (by kernel_rfl) trivial fun a hE => ?_
        obtain ⟨t_1, et_1, hm⟩ := bind_some hm
        refine WR.eff hE rfl rfl rfl rfl (OpTo.fn hE rfl rfl Tryz.call73 (arena_Arena_Cell_ok et_1 H)) ?_
        rintro _ w ⟨rfl, H⟩ a hE
        refine WR.seg hE 13 [] [0, 1, 7, 25] (Lo := [(0, .pointer (some ⟨p_a_, 0, none⟩)), (1, .int .i64 r), (7, .int .i64 t_.1), (25, .bool (t_1.1 == (-1)))]) (obs := []) rfl (by kernel_rfl) trivial fun a hE => ?_
        refine WR.done rfl ?_
        cases hm
        exact hk _ _ ⟨hE.sel [0, 1, 7, 25] (by kernel_rfl), H⟩
  rintro a w ⟨hE, H⟩
  refine Runs.cond hE rfl (fun c => ?_) (fun c => ?_)
  · replace hm := cond_t c hm
    refine Runs.seq ?_
    refine Runs.region ?_
    refine WR.seg hE 2 [] [6] (Lo := [(6, .int .i64 r)]) (obs := []) rfl (by kernel_rfl) trivial fun a hE => ?_
    refine WR.done rfl ?_
    refine Runs.ret hE Tryz.func92 rfl rfl ?_
    cases hm
    exact ⟨rfl, H⟩
  · replace hm := cond_f c hm
    refine Runs.skip ?_
    refine Runs.seq ?_
    refine Runs.region ?_
    refine WR.seg hE 2 [] [0, 1, 7, 27, 28] (Lo := [(0, .pointer (some ⟨p_a_, 0, none⟩)), (1, .int .i64 r), (7, .int .i64 t_.1), (27, .pointer (some ⟨p_a_, 0, none⟩)), (28, .int .i64 t_.1)]) (obs := []) rfl (by kernel_rfl) trivial fun a hE => ?_
    obtain ⟨t_2, et_2, hm⟩ := bind_some hm
    refine WR.eff hE rfl rfl rfl rfl (OpTo.fn hE rfl rfl Tryz.call145 (pairing_leave_ok et_2 H)) ?_
    rintro _ w ⟨rfl, H⟩ a hE
    refine WR.done rfl ?_
    refine Runs.seq ?_
    refine Runs.region ?_
    refine WR.seg hE 3 [] [30, 31, 32] (Lo := [(30, .pointer (some ⟨p_a_, 0, none⟩)), (31, .int .i64 r), (32, .int .i64 t_.1)]) (obs := []) rfl (by kernel_rfl) trivial fun a hE => ?_
    obtain ⟨t_3, et_3, hm⟩ := bind_some hm
    refine WR.eff hE rfl rfl rfl rfl (OpTo.fn hE rfl rfl Tryz.call138 (pairing_link_ok et_3 H)) ?_
    rintro _ w ⟨rfl, H⟩ a hE
    refine WR.seg hE 5 [] [6] (Lo := [(6, .int .i64 t_3.1)]) (obs := []) rfl (by kernel_rfl) trivial fun a hE => ?_
    refine WR.done rfl ?_
    refine Runs.ret hE Tryz.func92 rfl rfl ?_
    cases hm
    exact ⟨rfl, H⟩

theorem kind_Fall_ok {w0 w : World} {As : List HP} {k : Nat} {k_ : Int} {p_a_ : Nat} {al_a_ : arena_Arena.A} {a_ : arena_Arena} {r : Int} {i : Int} {t : Int × arena_Arena}  (hm : kind_Fall k k_ a_ r i = some t) (H : St w0 (arena_Arena.R p_a_ al_a_ a_ :: As) w) :
    CallsR Tryz.prog 44 #[.int .i64 k_, .pointer (some ⟨p_a_, 0, none⟩), .int .i64 r, .int .i64 i] w fun v w' => v = .int .i64 t.1 ∧ St w0 (arena_Arena.R p_a_ al_a_ t.2 :: As) w' := by
  rw [kind_Fall] at hm
  refine enter (args := [.int .i64 k_, .pointer (some ⟨p_a_, 0, none⟩), .int .i64 r, .int .i64 i]) Tryz.func44 rfl rfl rfl fun a hE => ?_
  refine Runs.seq ?_
  refine Runs.region ?_
  refine WR.seg hE 1 [] [0, 1, 2, 3] (Lo := [(0, .int .i64 k_), (1, .pointer (some ⟨p_a_, 0, none⟩)), (2, .int .i64 r), (3, .int .i64 i)]) (obs := []) rfl (by kernel_rfl) trivial fun a hE => ?_
  refine WR.done rfl ?_
  refine Runs.seq ?_
  refine Runs.seq ?_
  refine Runs.region ?_
  refine WR.seg hE 1 [] [1, 2, 3, 9] (Lo := [(1, .pointer (some ⟨p_a_, 0, none⟩)), (2, .int .i64 r), (3, .int .i64 i), (9, .int .i64 k_)]) (obs := []) rfl (by kernel_rfl) trivial fun a hE => ?_
  refine WR.done rfl ?_
  refine Runs.block ?_
  refine Runs.seq ?_
  refine Runs.region ?_
  refine WR.seg hE 2 [] [1, 2, 3, 9, 10] (Lo := [(1, .pointer (some ⟨p_a_, 0, none⟩)), (2, .int .i64 r), (3, .int .i64 i), (9, .int .i64 k_), (10, .bool (k_ == 1))]) (obs := []) rfl (by kernel_rfl) trivial fun a hE => ?_
  refine WR.done rfl ?_
  refine Runs.cond hE rfl (fun c => ?_) (fun c => ?_)
  · replace hm := cond_t c hm
    refine Runs.seq ?_
    refine Runs.region ?_
    refine WR.seg hE 3 [] [12, 13, 14] (Lo := [(12, .pointer (some ⟨p_a_, 0, none⟩)), (13, .int .i64 r), (14, .int .i64 i)]) (obs := []) rfl (by kernel_rfl) trivial fun a hE => ?_
    obtain ⟨t_, et_, hm⟩ := bind_some hm
    refine WR.eff hE rfl rfl rfl rfl (OpTo.fn hE rfl rfl Tryz.call89 (leftist_Fall_ok et_ H)) ?_
    rintro _ w ⟨rfl, H⟩ a hE
    refine WR.seg hE 5 [] [8] (Lo := [(8, .int .i64 t_.1)]) (obs := []) rfl (by kernel_rfl) trivial fun a hE => ?_
    refine WR.done rfl ?_
    refine Runs.ret hE Tryz.func44 rfl rfl ?_
    cases hm
    exact ⟨rfl, H⟩
  · replace hm := cond_f c hm
    refine Runs.seq ?_
    refine Runs.region ?_
    refine WR.seg hE 2 [] [1, 2, 3, 9, 16] (Lo := [(1, .pointer (some ⟨p_a_, 0, none⟩)), (2, .int .i64 r), (3, .int .i64 i), (9, .int .i64 k_), (16, .bool (k_ == 2))]) (obs := []) rfl (by kernel_rfl) trivial fun a hE => ?_
    refine WR.done rfl ?_
    refine Runs.cond hE rfl (fun c => ?_) (fun c => ?_)
    · replace hm := cond_t c hm
      refine Runs.seq ?_
      refine Runs.region ?_
      refine WR.seg hE 3 [] [18, 19, 20] (Lo := [(18, .pointer (some ⟨p_a_, 0, none⟩)), (19, .int .i64 r), (20, .int .i64 i)]) (obs := []) rfl (by kernel_rfl) trivial fun a hE => ?_
      obtain ⟨t_1, et_1, hm⟩ := bind_some hm
      refine WR.eff hE rfl rfl rfl rfl (OpTo.fn hE rfl rfl Tryz.call72 (binomial_Fall_ok et_1 H)) ?_
      rintro _ w ⟨rfl, H⟩ a hE
      refine WR.seg hE 5 [] [8] (Lo := [(8, .int .i64 t_1.1)]) (obs := []) rfl (by kernel_rfl) trivial fun a hE => ?_
      refine WR.done rfl ?_
      refine Runs.ret hE Tryz.func44 rfl rfl ?_
      cases hm
      exact ⟨rfl, H⟩
    · replace hm := cond_f c hm
      refine Runs.seq ?_
      refine Runs.region ?_
      refine WR.seg hE 2 [] [1, 2, 3, 9, 22] (Lo := [(1, .pointer (some ⟨p_a_, 0, none⟩)), (2, .int .i64 r), (3, .int .i64 i), (9, .int .i64 k_), (22, .bool (k_ == 3))]) (obs := []) rfl (by kernel_rfl) trivial fun a hE => ?_
      refine WR.done rfl ?_
      refine Runs.cond hE rfl (fun c => ?_) (fun c => ?_)
      · replace hm := cond_t c hm
        refine Runs.seq ?_
        refine Runs.region ?_
        refine WR.seg hE 3 [] [24, 25, 26] (Lo := [(24, .pointer (some ⟨p_a_, 0, none⟩)), (25, .int .i64 r), (26, .int .i64 i)]) (obs := []) rfl (by kernel_rfl) trivial fun a hE => ?_
        obtain ⟨t_2, et_2, hm⟩ := bind_some hm
        refine WR.eff hE rfl rfl rfl rfl (OpTo.fn hE rfl rfl Tryz.call90 (skew_Fall_ok et_2 H)) ?_
        rintro _ w ⟨rfl, H⟩ a hE
        refine WR.seg hE 5 [] [8] (Lo := [(8, .int .i64 t_2.1)]) (obs := []) rfl (by kernel_rfl) trivial fun a hE => ?_
        refine WR.done rfl ?_
        refine Runs.ret hE Tryz.func44 rfl rfl ?_
        cases hm
        exact ⟨rfl, H⟩
      · replace hm := cond_f c hm
        refine Runs.seq ?_
        refine Runs.region ?_
        refine WR.seg hE 2 [] [1, 2, 3, 9, 28] (Lo := [(1, .pointer (some ⟨p_a_, 0, none⟩)), (2, .int .i64 r), (3, .int .i64 i), (9, .int .i64 k_), (28, .bool (k_ == 4))]) (obs := []) rfl (by kernel_rfl) trivial fun a hE => ?_
        refine WR.done rfl ?_
        refine Runs.cond hE rfl (fun c => ?_) (fun c => ?_)
        · replace hm := cond_t c hm
          refine Runs.seq ?_
          refine Runs.region ?_
          refine WR.seg hE 3 [] [30, 31, 32] (Lo := [(30, .pointer (some ⟨p_a_, 0, none⟩)), (31, .int .i64 r), (32, .int .i64 i)]) (obs := []) rfl (by kernel_rfl) trivial fun a hE => ?_
          obtain ⟨t_3, et_3, hm⟩ := bind_some hm
          refine WR.eff hE rfl rfl rfl rfl (OpTo.fn hE rfl rfl Tryz.call91 (fib_Fall_ok et_3 H)) ?_
          rintro _ w ⟨rfl, H⟩ a hE
          refine WR.seg hE 5 [] [8] (Lo := [(8, .int .i64 t_3.1)]) (obs := []) rfl (by kernel_rfl) trivial fun a hE => ?_
          refine WR.done rfl ?_
          refine Runs.ret hE Tryz.func44 rfl rfl ?_
          cases hm
          exact ⟨rfl, H⟩
        · replace hm := cond_f c hm
          refine Runs.seq ?_
          refine Runs.region ?_
          refine WR.seg hE 2 [] [1, 2, 3, 34] (Lo := [(1, .pointer (some ⟨p_a_, 0, none⟩)), (2, .int .i64 r), (3, .int .i64 i), (34, .bool (k_ == 5))]) (obs := []) rfl (by kernel_rfl) trivial fun a hE => ?_
          refine WR.done rfl ?_
          refine Runs.cond hE rfl (fun c => ?_) (fun c => ?_)
          · replace hm := cond_t c hm
            refine Runs.seq ?_
            refine Runs.region ?_
            refine WR.seg hE 3 [] [36, 37, 38] (Lo := [(36, .pointer (some ⟨p_a_, 0, none⟩)), (37, .int .i64 r), (38, .int .i64 i)]) (obs := []) rfl (by kernel_rfl) trivial fun a hE => ?_
            obtain ⟨t_4, et_4, hm⟩ := bind_some hm
            refine WR.eff hE rfl rfl rfl rfl (OpTo.fn hE rfl rfl Tryz.call92 (pairing_Fall_ok et_4 H)) ?_
            rintro _ w ⟨rfl, H⟩ a hE
            refine WR.seg hE 5 [] [8] (Lo := [(8, .int .i64 t_4.1)]) (obs := []) rfl (by kernel_rfl) trivial fun a hE => ?_
            refine WR.done rfl ?_
            refine Runs.ret hE Tryz.func44 rfl rfl ?_
            cases hm
            exact ⟨rfl, H⟩
          · replace hm := cond_f c hm
            refine Runs.skip ?_
            refine Runs.inBlock ?_
            refine Runs.seq ?_
            refine Runs.region ?_
            refine WR.seg hE 2 [] [8] (Lo := [(8, .int .i64 r)]) (obs := []) rfl (by kernel_rfl) trivial fun a hE => ?_
            refine WR.done rfl ?_
            refine Runs.ret hE Tryz.func44 rfl rfl ?_
            cases hm
            exact ⟨rfl, H⟩

theorem leftist_Cut_ok {w0 w : World} {As : List HP} {k : Nat} {p_a_ : Nat} {al_a_ : arena_Arena.A} {a_ : arena_Arena} {r : Int} {i : Int} {t : Int × arena_Arena}  (hm : leftist_Cut k a_ r i = some t) (H : St w0 (arena_Arena.R p_a_ al_a_ a_ :: As) w) :
    CallsR Tryz.prog 93 #[.pointer (some ⟨p_a_, 0, none⟩), .int .i64 r, .int .i64 i] w fun v w' => ∃ (z_a__free_b : Option Addr), ∃ (z_a__free_c : Nat), v = .int .i64 t.1 ∧ St w0 (arena_Arena.R p_a_ (arena_Arena.A.mk al_a_.l_b al_a_.l_c z_a__free_b z_a__free_c al_a_.m__p) t.2 :: As) w' := by
  rw [leftist_Cut] at hm
  refine enter (args := [.pointer (some ⟨p_a_, 0, none⟩), .int .i64 r, .int .i64 i]) Tryz.func93 rfl rfl rfl fun a hE => ?_
  refine Runs.seq ?_
  refine Runs.region ?_
  refine WR.seg hE 1 [] [0, 1, 2] (Lo := [(0, .pointer (some ⟨p_a_, 0, none⟩)), (1, .int .i64 r), (2, .int .i64 i)]) (obs := []) rfl (by kernel_rfl) trivial fun a hE => ?_
  refine WR.done rfl ?_
  refine Runs.seq ?_
  refine Runs.seq ?_
  refine Runs.region ?_
  refine WR.seg hE 2 [] [0, 1, 2, 13] (Lo := [(0, .pointer (some ⟨p_a_, 0, none⟩)), (1, .int .i64 r), (2, .int .i64 i), (13, .bool false)]) (obs := []) rfl (by kernel_rfl) trivial fun a hE => ?_
  refine WR.done rfl ?_
  refine Runs.condF hE rfl ?_
  refine Runs.skip ?_
  refine Runs.seq ?_
  refine Runs.region ?_
  refine WR.seg hE 2 [] [0, 1, 14, 15] (Lo := [(0, .pointer (some ⟨p_a_, 0, none⟩)), (1, .int .i64 r), (14, .pointer (some ⟨p_a_, 0, none⟩)), (15, .int .i64 i)]) (obs := []) rfl (by kernel_rfl) trivial fun a hE => ?_
  obtain ⟨t_, et_, hm⟩ := bind_some hm
  refine WR.eff hE rfl rfl rfl rfl (OpTo.fn hE rfl rfl Tryz.call65 (item_Node_ok et_ H)) ?_
  rintro _ w ⟨rfl, H⟩ a hE
  refine WR.seg hE 4 [] [0, 1, 7] (Lo := [(0, .pointer (some ⟨p_a_, 0, none⟩)), (1, .int .i64 r), (7, .int .i64 t_.1)]) (obs := []) rfl (by kernel_rfl) trivial fun a hE => ?_
  refine WR.done rfl ?_
  refine Runs.seq ?_
  refine Runs.seq ?_
  refine Runs.region ?_
  refine WR.seg hE 2 [] [0, 1, 7, 18] (Lo := [(0, .pointer (some ⟨p_a_, 0, none⟩)), (1, .int .i64 r), (7, .int .i64 t_.1), (18, .bool (t_.1 == (-1)))]) (obs := []) rfl (by kernel_rfl) trivial fun a hE => ?_
  refine WR.done rfl ?_
  refine Runs.cond hE rfl (fun c => ?_) (fun c => ?_)
  · replace hm := cond_t c hm
    refine Runs.seq ?_
    refine Runs.region ?_
    refine WR.seg hE 2 [] [6] (Lo := [(6, .int .i64 r)]) (obs := []) rfl (by kernel_rfl) trivial fun a hE => ?_
    refine WR.done rfl ?_
    refine Runs.ret hE Tryz.func93 rfl rfl ?_
    cases hm
    exact ⟨al_a_.free_b, al_a_.free_c, rfl, H⟩
  · replace hm := cond_f c hm
    refine Runs.skip ?_
    refine Runs.seq ?_
    refine Runs.seq ?_
    obtain ⟨s, es, hm⟩ := bind_some hm
    refine Runs.join (fun a w => EnvOk 49 a [(0, .pointer (some ⟨p_a_, 0, none⟩)), (1, .int .i64 r), (7, .int .i64 t_.1), (28, .bool s.1)] ∧ St w0 (arena_Arena.R p_a_ al_a_ s.2 :: As) w) (fun hk => ?_) ?_
    · replace hm := es; clear es
      refine Runs.region ?_
      refine WR.seg hE 4 [] [0, 1, 7, 23] (Lo := [(0, .pointer (some ⟨p_a_, 0, none⟩)), (1, .int .i64 r), (7, .int .i64 t_.1), (23, .bool (t_.1 == r))]) (obs := []) rfl (by kernel_rfl) trivial fun a hE => ?_
      rcases Bool.eq_false_or_eq_true (t_.1 == r) with c | c
      · replace hE := hE.dec 23 c (by kernel_rfl)
        replace hm := cond_t c hm
        have c_ := c
        refine WR.seg hE 9 [] [0, 1, 7, 28] (Lo := [(0, .pointer (some ⟨p_a_, 0, none⟩)), (1, .int .i64 r), (7, .int .i64 t_.1), (28, .bool true)]) (obs := []) rfl (by kernel_rfl) trivial fun a hE => ?_
        refine WR.done rfl ?_
        cases hm
        exact hk _ _ ⟨hE.sel [0, 1, 7, 28] (by kernel_rfl), H⟩
      · replace hE := hE.dec 23 c (by kernel_rfl)
        replace hm := cond_f c hm
        have c_1 := c
        refine WR.seg hE 6 [] [0, 1, 7, 23, 24, 25] (Lo := [(0, .pointer (some ⟨p_a_, 0, none⟩)), (1, .int .i64 r), (7, .int .i64 t_.1), (23, .bool false), (24, .pointer (some ⟨p_a_, 0, none⟩)), (25, .int .i64 t_.1)]) (obs := []) rfl (by kernel_rfl) trivial fun a hE => ?_
        obtain ⟨t_1, et_1, hm⟩ := bind_some hm
        refine WR.eff hE rfl rfl rfl rfl (OpTo.fn hE rfl rfl Tryz.call73 (arena_Arena_Cell_ok et_1 H)) ?_
        rintro _ w ⟨rfl, H⟩ a hE
        refine WR.seg hE 9 [] [0, 1, 7, 28] (Lo := [(0, .pointer (some ⟨p_a_, 0, none⟩)), (1, .int .i64 r), (7, .int .i64 t_.1), (28, .bool (t_1.1 == (-1)))]) (obs := []) rfl (by kernel_rfl) trivial fun a hE => ?_
        refine WR.done rfl ?_
        cases hm
        exact hk _ _ ⟨hE.sel [0, 1, 7, 28] (by kernel_rfl), H⟩
    rintro a w ⟨hE, H⟩
    refine Runs.cond hE rfl (fun c => ?_) (fun c => ?_)
    · replace hm := cond_t c hm
      refine Runs.seq ?_
      refine Runs.region ?_
      refine WR.seg hE 2 [] [30, 31] (Lo := [(30, .pointer (some ⟨p_a_, 0, none⟩)), (31, .int .i64 t_.1)]) (obs := []) rfl (by kernel_rfl) trivial fun a hE => ?_
      obtain ⟨t_2, et_2, hm⟩ := bind_some hm
      refine WR.eff hE rfl rfl rfl rfl (OpTo.fn hE rfl rfl Tryz.call81 (leftist_Pop_ok et_2 H)) ?_
      rintro _ w ⟨z, z1, rfl, H⟩ a hE
      refine WR.seg hE 8 [] [8] (Lo := [(8, .int .i64 t_2.1)]) (obs := []) rfl (by kernel_rfl) trivial fun a hE => ?_
      refine WR.done rfl ?_
      refine Runs.seq ?_
      refine Runs.region ?_
      refine WR.seg hE 2 [] [6] (Lo := [(6, .int .i64 t_2.1)]) (obs := []) rfl (by kernel_rfl) trivial fun a hE => ?_
      refine WR.done rfl ?_
      refine Runs.ret hE Tryz.func93 rfl rfl ?_
      cases hm
      exact ⟨z, z1, rfl, H⟩
    · replace hm := cond_f c hm
      refine Runs.skip ?_
      refine Runs.seq ?_
      refine Runs.region ?_
      refine WR.seg hE 2 [] [0, 1, 7, 36, 37] (Lo := [(0, .pointer (some ⟨p_a_, 0, none⟩)), (1, .int .i64 r), (7, .int .i64 t_.1), (36, .pointer (some ⟨p_a_, 0, none⟩)), (37, .int .i64 t_.1)]) (obs := []) rfl (by kernel_rfl) trivial fun a hE => ?_
      obtain ⟨t_3, et_3, hm⟩ := bind_some hm
      refine WR.eff hE rfl rfl rfl rfl (OpTo.fn hE rfl rfl Tryz.call143 (leftist_leave_ok et_3 H)) ?_
      rintro _ w ⟨rfl, H⟩ a hE
      refine WR.done rfl ?_
      refine Runs.seq ?_
      refine Runs.region ?_
      refine WR.seg hE 2 [] [0, 1, 40, 41] (Lo := [(0, .pointer (some ⟨p_a_, 0, none⟩)), (1, .int .i64 r), (40, .pointer (some ⟨p_a_, 0, none⟩)), (41, .int .i64 t_.1)]) (obs := []) rfl (by kernel_rfl) trivial fun a hE => ?_
      obtain ⟨t_4, et_4, hm⟩ := bind_some hm
      refine WR.eff hE rfl rfl rfl rfl (OpTo.fn hE rfl rfl Tryz.call81 (leftist_Pop_ok et_4 H)) ?_
      rintro _ w ⟨z2, z3, rfl, H⟩ a hE
      refine WR.seg hE 8 [] [0, 1, 10] (Lo := [(0, .pointer (some ⟨p_a_, 0, none⟩)), (1, .int .i64 r), (10, .int .i64 t_4.1)]) (obs := []) rfl (by kernel_rfl) trivial fun a hE => ?_
      refine WR.done rfl ?_
      refine Runs.seq ?_
      refine Runs.region ?_
      refine WR.seg hE 3 [] [45, 46, 47] (Lo := [(45, .pointer (some ⟨p_a_, 0, none⟩)), (46, .int .i64 r), (47, .int .i64 t_4.1)]) (obs := []) rfl (by kernel_rfl) trivial fun a hE => ?_
      obtain ⟨t_5, et_5, hm⟩ := bind_some hm
      refine WR.eff hE rfl rfl rfl rfl (OpTo.fn hE rfl rfl Tryz.call133 (leftist_meld_ok et_5 H)) ?_
      rintro _ w ⟨rfl, H⟩ a hE
      refine WR.seg hE 5 [] [6] (Lo := [(6, .int .i64 t_5.1)]) (obs := []) rfl (by kernel_rfl) trivial fun a hE => ?_
      refine WR.done rfl ?_
      refine Runs.ret hE Tryz.func93 rfl rfl ?_
      cases hm
      exact ⟨z2, z3, rfl, H⟩

theorem slices_Index_int_ok {w0 w : World} {As : List HP} {k : Nat} {sb_s : Option Addr} {sc_s : Nat} {s : List Int} {X_s : HP} {v_ : Int} {t : Int} (hX_s : SlRd X_s ecI 1 sb_s s) (hC_s : s.length ≤ sc_s) (hm : slices_Index_int k s v_ = some t) (H : St w0 (X_s :: As) w) :
    CallsR Tryz.prog 161 #[.slice sb_s s.length sc_s, .int .i64 v_] w fun v w' => v = .int .i64 t ∧ St w0 (X_s :: As) w' := by
  rw [slices_Index_int] at hm
  refine enter (args := [.slice sb_s s.length sc_s, .int .i64 v_]) Tryz.func161 rfl rfl rfl fun a hE => ?_
  refine Runs.seq ?_
  refine Runs.region ?_
  refine WR.seg hE 1 [] [0, 1] (Lo := [(0, .slice sb_s s.length sc_s), (1, .int .i64 v_)]) (obs := []) rfl (by kernel_rfl) trivial fun a hE => ?_
  refine WR.done rfl ?_
  refine Runs.seq ?_
  refine Runs.seq ?_
  refine Runs.region ?_
  refine WR.seg hE 3 [] [0, 1, 7, 8] (Lo := [(0, .slice sb_s s.length sc_s), (1, .int .i64 v_), (7, .int .i64 (s.length : Int)), (8, .int .i64 0)]) (obs := []) rfl (by kernel_rfl) trivial fun a hE => ?_
  refine WR.done rfl ?_
  obtain ⟨s1, es1, hR⟩ := bind_some hm
  refine Runs.join (fun a w => ∃ s2, s1 = Sum.inr s2 ∧ EnvOk 19 a [] ∧ St w0 (X_s :: As) w) (fun hk => ?_) ?_
  · replace hm := es1; clear es1
    refine Runs.block ?_
    refine Runs.loop (fun m a w => ∃ (x : Int), EnvOk 19 a [(0, .slice sb_s s.length sc_s), (1, .int .i64 v_), (7, .int .i64 (s.length : Int)), (8, .int .i64 x)] ∧ St w0 (X_s :: As) w ∧ slices_Index_int_l0 v_ (s.length : Int) s m x = some s1) k ⟨0, hE.sel [0, 1, 7, 8] (by kernel_rfl), H, hm⟩ ?_
    rintro m ih a w ⟨x, hE, H, hm⟩
    cases m with
    | zero => simp [slices_Index_int_l0] at hm
    | succ m =>
      rw [slices_Index_int_l0] at hm
      refine Runs.seq ?_
      refine Runs.region ?_
      refine WR.seg hE 1 [] [0, 1, 7, 8, 9] (Lo := [(0, .slice sb_s s.length sc_s), (1, .int .i64 v_), (7, .int .i64 (s.length : Int)), (8, .int .i64 x), (9, .bool (decide (x < (s.length : Int))))]) (obs := []) rfl (by kernel_rfl) trivial fun a hE => ?_
      refine WR.done rfl ?_
      refine Runs.seq ?_
      refine Runs.cond hE rfl (fun c => ?_) (fun c => ?_)
      · replace hm := cond_t c hm
        refine Runs.skip ?_
        refine Runs.seq ?_
        refine Runs.block ?_
        refine Runs.seq ?_
        refine Runs.region ?_
        refine WR.seg hE 2 [] [0, 1, 5, 7, 8] (Lo := [(0, .slice sb_s s.length sc_s), (1, .int .i64 v_), (5, .int .i64 x), (7, .int .i64 (s.length : Int)), (8, .int .i64 x)]) (obs := []) rfl (by kernel_rfl) trivial fun a hE => ?_
        refine WR.done rfl ?_
        refine Runs.seq ?_
        refine Runs.region ?_
        obtain ⟨x2, ex2, hm⟩ := bind_some hm
        obtain ⟨b, o, hs, hb⟩ := SlRd.base hX_s ecI_ok H 0 rfl ex2
        refine WR.seg hE 6 [.pointer (some ⟨b, o, none⟩), .int .i64 x2] [0, 1, 5, 7, 8, 16] (Lo := [(0, .slice sb_s s.length sc_s), (1, .int .i64 v_), (5, .int .i64 x), (7, .int .i64 (s.length : Int)), (8, .int .i64 x), (16, .bool (v_ == x2))]) (obs := [.p ((sb_s : Option Addr) = some ⟨b, o, none⟩), .p (0 ≤ (x : Int) ∧ (x : Int) < ((s.length : Nat) : Int)), .cell ⟨b, o + (Int.toNat x) * 1, none⟩ (.int .i64 x2)]) rfl (by kernel_rfl) ⟨hs, hb, SlRd.cells hX_s ecI_ok H 0 rfl hs ex2 0 _ rfl, trivial⟩ fun a hE => ?_
        refine WR.done rfl ?_
        refine Runs.cond hE rfl (fun c => ?_) (fun c => ?_)
        · replace hm := cond_t c hm
          refine Runs.seq ?_
          refine Runs.region ?_
          refine WR.seg hE 2 [] [4] (Lo := [(4, .int .i64 x)]) (obs := []) rfl (by kernel_rfl) trivial fun a hE => ?_
          refine WR.done rfl ?_
          refine Runs.ret hE Tryz.func161 rfl rfl ?_
          cases hm
          dsimp only at hR; cases hR
          exact ⟨rfl, H⟩
        · replace hm := cond_f c hm
          refine Runs.skip ?_
          refine Runs.inBlock ?_
          refine Runs.region ?_
          refine WR.seg hE 2 [] [0, 1, 7, 8] (Lo := [(0, .slice sb_s s.length sc_s), (1, .int .i64 v_), (7, .int .i64 (s.length : Int)), (8, .int .i64 (w64 (x + 1)))]) (obs := []) rfl (by kernel_rfl) trivial fun a hE => ?_
          refine WR.done rfl ?_
          exact ih m (Nat.lt_succ_self m) _ _ ⟨w64 (x + 1), hE.sel [0, 1, 7, 8] (by kernel_rfl), H, hm⟩
      · replace hm := cond_f c hm
        refine Runs.exit rfl ?_
        cases hm
        exact hk _ _ ⟨_, rfl, hE.sel [] (by kernel_rfl), H⟩
  rintro a w ⟨s2, rfl, hE, H⟩
  replace hm := hR; dsimp only at hm
  refine Runs.seq ?_
  refine Runs.region ?_
  refine WR.seg hE 1 [] [4] (Lo := [(4, .int .i64 (-1))]) (obs := []) rfl (by kernel_rfl) trivial fun a hE => ?_
  refine WR.done rfl ?_
  refine Runs.ret hE Tryz.func161 rfl rfl ?_
  cases hm
  exact ⟨rfl, H⟩

theorem slices_Contains_int_ok {w0 w : World} {As : List HP} {k : Nat} {sb_s : Option Addr} {sc_s : Nat} {s : List Int} {X_s : HP} {v_ : Int} {t : Bool} (hX_s : SlRd X_s ecI 1 sb_s s) (hC_s : s.length ≤ sc_s) (hm : slices_Contains_int k s v_ = some t) (H : St w0 (X_s :: As) w) :
    CallsR Tryz.prog 131 #[.slice sb_s s.length sc_s, .int .i64 v_] w fun v w' => v = .bool t ∧ St w0 (X_s :: As) w' := by
  rw [slices_Contains_int] at hm
  refine enter (args := [.slice sb_s s.length sc_s, .int .i64 v_]) Tryz.func131 rfl rfl rfl fun a hE => ?_
  refine Runs.seq ?_
  refine Runs.region ?_
  refine WR.seg hE 1 [] [0, 1] (Lo := [(0, .slice sb_s s.length sc_s), (1, .int .i64 v_)]) (obs := []) rfl (by kernel_rfl) trivial fun a hE => ?_
  refine WR.done rfl ?_
  refine Runs.seq ?_
  refine Runs.region ?_
  refine WR.seg hE 2 [] [5, 6] (Lo := [(5, .slice sb_s s.length sc_s), (6, .int .i64 v_)]) (obs := []) rfl (by kernel_rfl) trivial fun a hE => ?_
  obtain ⟨t_, et_, hm⟩ := bind_some hm
  refine WR.eff hE rfl rfl rfl rfl (OpTo.fn hE rfl rfl Tryz.call161 (slices_Index_int_ok (hX_s := hX_s) (hC_s := hC_s) et_ H)) ?_
  rintro _ w ⟨rfl, H⟩ a hE
  refine WR.seg hE 5 [] [4] (Lo := [(4, .bool (decide (t_ ≥ 0)))]) (obs := []) rfl (by kernel_rfl) trivial fun a hE => ?_
  refine WR.done rfl ?_
  refine Runs.ret hE Tryz.func131 rfl rfl ?_
  cases hm
  exact ⟨rfl, H⟩

theorem binomial_Cut_ok {w0 w : World} {As : List HP} {k : Nat} {p_a_ : Nat} {al_a_ : arena_Arena.A} {a_ : arena_Arena} {r : Int} {i : Int} {t : Int × arena_Arena}  (hm : binomial_Cut k a_ r i = some t) (H : St w0 (arena_Arena.R p_a_ al_a_ a_ :: As) w) :
    CallsR Tryz.prog 74 #[.pointer (some ⟨p_a_, 0, none⟩), .int .i64 r, .int .i64 i] w fun v w' => ∃ (z_a__free_b : Option Addr), ∃ (z_a__free_c : Nat), v = .int .i64 t.1 ∧ St w0 (arena_Arena.R p_a_ (arena_Arena.A.mk al_a_.l_b al_a_.l_c z_a__free_b z_a__free_c al_a_.m__p) t.2 :: As) w' := by
  rw [binomial_Cut] at hm
  refine enter (args := [.pointer (some ⟨p_a_, 0, none⟩), .int .i64 r, .int .i64 i]) Tryz.func74 rfl rfl rfl fun a hE => ?_
  refine Runs.seq ?_
  refine Runs.region ?_
  refine WR.seg hE 1 [] [0, 1, 2] (Lo := [(0, .pointer (some ⟨p_a_, 0, none⟩)), (1, .int .i64 r), (2, .int .i64 i)]) (obs := []) rfl (by kernel_rfl) trivial fun a hE => ?_
  refine WR.done rfl ?_
  refine Runs.seq ?_
  refine Runs.seq ?_
  refine Runs.region ?_
  refine WR.seg hE 2 [] [0, 1, 2, 12] (Lo := [(0, .pointer (some ⟨p_a_, 0, none⟩)), (1, .int .i64 r), (2, .int .i64 i), (12, .bool false)]) (obs := []) rfl (by kernel_rfl) trivial fun a hE => ?_
  refine WR.done rfl ?_
  refine Runs.condF hE rfl ?_
  refine Runs.skip ?_
  refine Runs.seq ?_
  refine Runs.seq ?_
  refine Runs.region ?_
  refine WR.seg hE 2 [] [0, 1, 2, 13, 14] (Lo := [(0, .pointer (some ⟨p_a_, 0, none⟩)), (1, .int .i64 r), (2, .int .i64 i), (13, .pointer (some ⟨p_a_, 0, none⟩)), (14, .int .i64 i)]) (obs := []) rfl (by kernel_rfl) trivial fun a hE => ?_
  obtain ⟨t_, et_, hm⟩ := bind_some hm
  refine WR.eff hE rfl rfl rfl rfl (OpTo.fn hE rfl rfl Tryz.call65 (item_Node_ok et_ H)) ?_
  rintro _ w ⟨rfl, H⟩ a hE
  refine WR.seg hE 4 [] [0, 1, 2, 16] (Lo := [(0, .pointer (some ⟨p_a_, 0, none⟩)), (1, .int .i64 r), (2, .int .i64 i), (16, .bool (t_.1 == (-1)))]) (obs := []) rfl (by kernel_rfl) trivial fun a hE => ?_
  refine WR.done rfl ?_
  refine Runs.cond hE rfl (fun c => ?_) (fun c => ?_)
  · replace hm := cond_t c hm
    refine Runs.seq ?_
    refine Runs.region ?_
    refine WR.seg hE 2 [] [6] (Lo := [(6, .int .i64 r)]) (obs := []) rfl (by kernel_rfl) trivial fun a hE => ?_
    refine WR.done rfl ?_
    refine Runs.ret hE Tryz.func74 rfl rfl ?_
    cases hm
    exact ⟨al_a_.free_b, al_a_.free_c, rfl, H⟩
  · replace hm := cond_f c hm
    refine Runs.skip ?_
    refine Runs.seq ?_
    refine Runs.region ?_
    refine WR.seg hE 2 [] [0, 1, 18, 19] (Lo := [(0, .pointer (some ⟨p_a_, 0, none⟩)), (1, .int .i64 r), (18, .pointer (some ⟨p_a_, 0, none⟩)), (19, .int .i64 i)]) (obs := []) rfl (by kernel_rfl) trivial fun a hE => ?_
    obtain ⟨t_1, et_1, hm⟩ := bind_some hm
    refine WR.eff hE rfl rfl rfl rfl (OpTo.fn hE rfl rfl Tryz.call130 (trees_Rise_ok et_1 H)) ?_
    rintro _ w ⟨rfl, H⟩ a hE
    refine WR.seg hE 4 [] [0, 1, 7] (Lo := [(0, .pointer (some ⟨p_a_, 0, none⟩)), (1, .int .i64 r), (7, .int .i64 t_1.1)]) (obs := []) rfl (by kernel_rfl) trivial fun a hE => ?_
    refine WR.done rfl ?_
    refine Runs.seq ?_
    refine Runs.region ?_
    refine WR.seg hE 2 [] [0, 1, 7, 21, 22] (Lo := [(0, .pointer (some ⟨p_a_, 0, none⟩)), (1, .int .i64 r), (7, .int .i64 t_1.1), (21, .pointer (some ⟨p_a_, 0, none⟩)), (22, .int .i64 r)]) (obs := []) rfl (by kernel_rfl) trivial fun a hE => ?_
    obtain ⟨t_2, et_2, hm⟩ := bind_some hm
    refine WR.eff hE rfl rfl rfl rfl (OpTo.fn hE rfl rfl Tryz.call56 (trees_List_ok et_2 H)) ?_
    rintro _ w ⟨sb, sc, rfl, H⟩ a hE
    refine WR.seg hE 4 [] [0, 1, 7, 8] (Lo := [(0, .pointer (some ⟨p_a_, 0, none⟩)), (1, .int .i64 r), (7, .int .i64 t_1.1), (8, .slice sb t_2.1.length sc)]) (obs := []) rfl (by kernel_rfl) trivial fun a hE => ?_
    refine WR.done rfl ?_
    refine Runs.seq ?_
    refine Runs.seq ?_
    refine Runs.region ?_
    refine WR.seg hE 2 [] [0, 1, 7, 8, 24, 25] (Lo := [(0, .pointer (some ⟨p_a_, 0, none⟩)), (1, .int .i64 r), (7, .int .i64 t_1.1), (8, .slice sb t_2.1.length sc), (24, .slice sb t_2.1.length sc), (25, .int .i64 t_1.1)]) (obs := []) rfl (by kernel_rfl) trivial fun a hE => ?_
    obtain ⟨t_3, et_3, hm⟩ := bind_some hm
    refine WR.eff hE rfl rfl rfl rfl (OpTo.fn hE rfl rfl Tryz.call131 (slices_Contains_int_ok (hX_s := (sl_rd 3 ecI 1 _ _ _)) (hC_s := (H.slCap 0 rfl).1) et_3 H)) ?_
    rintro _ w ⟨rfl, H⟩ a hE
    refine WR.seg hE 4 [] [0, 1, 7, 8, 27] (Lo := [(0, .pointer (some ⟨p_a_, 0, none⟩)), (1, .int .i64 r), (7, .int .i64 t_1.1), (8, .slice sb t_2.1.length sc), (27, .bool (!t_3))]) (obs := []) rfl (by kernel_rfl) trivial fun a hE => ?_
    refine WR.done rfl ?_
    refine Runs.cond hE rfl (fun c => ?_) (fun c => ?_)
    · replace hm := cond_t c hm
      refine Runs.seq ?_
      refine Runs.region ?_
      refine WR.seg hE 2 [] [6] (Lo := [(6, .int .i64 r)]) (obs := []) rfl (by kernel_rfl) trivial fun a hE => ?_
      refine WR.done rfl ?_
      refine Runs.ret hE Tryz.func74 rfl rfl ?_
      cases hm
      exact ⟨al_a_.free_b, al_a_.free_c, rfl, H.x0⟩
    · replace hm := cond_f c hm
      refine Runs.skip ?_
      refine Runs.seq ?_
      refine Runs.region ?_
      refine WR.seg hE 3 [] [30, 31, 32] (Lo := [(30, .pointer (some ⟨p_a_, 0, none⟩)), (31, .slice sb t_2.1.length sc), (32, .int .i64 t_1.1)]) (obs := []) rfl (by kernel_rfl) trivial fun a hE => ?_
      obtain ⟨t_4, et_4, hm⟩ := bind_some hm
      refine WR.eff hE rfl rfl rfl rfl (OpTo.fn hE rfl rfl Tryz.call59 (binomial_without_ok et_4 H.t1)) ?_
      rintro _ w ⟨z, z1, rfl, H⟩ a hE
      refine WR.seg hE 9 [] [9] (Lo := [(9, .int .i64 t_4.1)]) (obs := []) rfl (by kernel_rfl) trivial fun a hE => ?_
      refine WR.done rfl ?_
      refine Runs.seq ?_
      refine Runs.region ?_
      refine WR.seg hE 2 [] [6] (Lo := [(6, .int .i64 t_4.1)]) (obs := []) rfl (by kernel_rfl) trivial fun a hE => ?_
      refine WR.done rfl ?_
      refine Runs.ret hE Tryz.func74 rfl rfl ?_
      cases hm
      exact ⟨z, z1, rfl, H⟩

theorem skew_Cut_ok {w0 w : World} {As : List HP} {k : Nat} {p_a_ : Nat} {al_a_ : arena_Arena.A} {a_ : arena_Arena} {r : Int} {i : Int} {t : Int × arena_Arena}  (hm : skew_Cut k a_ r i = some t) (H : St w0 (arena_Arena.R p_a_ al_a_ a_ :: As) w) :
    CallsR Tryz.prog 94 #[.pointer (some ⟨p_a_, 0, none⟩), .int .i64 r, .int .i64 i] w fun v w' => ∃ (z_a__free_b : Option Addr), ∃ (z_a__free_c : Nat), v = .int .i64 t.1 ∧ St w0 (arena_Arena.R p_a_ (arena_Arena.A.mk al_a_.l_b al_a_.l_c z_a__free_b z_a__free_c al_a_.m__p) t.2 :: As) w' := by
  rw [skew_Cut] at hm
  refine enter (args := [.pointer (some ⟨p_a_, 0, none⟩), .int .i64 r, .int .i64 i]) Tryz.func94 rfl rfl rfl fun a hE => ?_
  refine Runs.seq ?_
  refine Runs.region ?_
  refine WR.seg hE 1 [] [0, 1, 2] (Lo := [(0, .pointer (some ⟨p_a_, 0, none⟩)), (1, .int .i64 r), (2, .int .i64 i)]) (obs := []) rfl (by kernel_rfl) trivial fun a hE => ?_
  refine WR.done rfl ?_
  refine Runs.seq ?_
  refine Runs.seq ?_
  refine Runs.region ?_
  refine WR.seg hE 2 [] [0, 1, 2, 12] (Lo := [(0, .pointer (some ⟨p_a_, 0, none⟩)), (1, .int .i64 r), (2, .int .i64 i), (12, .bool false)]) (obs := []) rfl (by kernel_rfl) trivial fun a hE => ?_
  refine WR.done rfl ?_
  refine Runs.condF hE rfl ?_
  refine Runs.skip ?_
  refine Runs.seq ?_
  refine Runs.seq ?_
  refine Runs.region ?_
  refine WR.seg hE 2 [] [0, 1, 2, 13, 14] (Lo := [(0, .pointer (some ⟨p_a_, 0, none⟩)), (1, .int .i64 r), (2, .int .i64 i), (13, .pointer (some ⟨p_a_, 0, none⟩)), (14, .int .i64 i)]) (obs := []) rfl (by kernel_rfl) trivial fun a hE => ?_
  obtain ⟨t_, et_, hm⟩ := bind_some hm
  refine WR.eff hE rfl rfl rfl rfl (OpTo.fn hE rfl rfl Tryz.call65 (item_Node_ok et_ H)) ?_
  rintro _ w ⟨rfl, H⟩ a hE
  refine WR.seg hE 4 [] [0, 1, 2, 16] (Lo := [(0, .pointer (some ⟨p_a_, 0, none⟩)), (1, .int .i64 r), (2, .int .i64 i), (16, .bool (t_.1 == (-1)))]) (obs := []) rfl (by kernel_rfl) trivial fun a hE => ?_
  refine WR.done rfl ?_
  refine Runs.cond hE rfl (fun c => ?_) (fun c => ?_)
  · replace hm := cond_t c hm
    refine Runs.seq ?_
    refine Runs.region ?_
    refine WR.seg hE 2 [] [6] (Lo := [(6, .int .i64 r)]) (obs := []) rfl (by kernel_rfl) trivial fun a hE => ?_
    refine WR.done rfl ?_
    refine Runs.ret hE Tryz.func94 rfl rfl ?_
    cases hm
    exact ⟨al_a_.free_b, al_a_.free_c, rfl, H⟩
  · replace hm := cond_f c hm
    refine Runs.skip ?_
    refine Runs.seq ?_
    refine Runs.region ?_
    refine WR.seg hE 2 [] [0, 1, 18, 19] (Lo := [(0, .pointer (some ⟨p_a_, 0, none⟩)), (1, .int .i64 r), (18, .pointer (some ⟨p_a_, 0, none⟩)), (19, .int .i64 i)]) (obs := []) rfl (by kernel_rfl) trivial fun a hE => ?_
    obtain ⟨t_1, et_1, hm⟩ := bind_some hm
    refine WR.eff hE rfl rfl rfl rfl (OpTo.fn hE rfl rfl Tryz.call130 (trees_Rise_ok et_1 H)) ?_
    rintro _ w ⟨rfl, H⟩ a hE
    refine WR.seg hE 4 [] [0, 1, 7] (Lo := [(0, .pointer (some ⟨p_a_, 0, none⟩)), (1, .int .i64 r), (7, .int .i64 t_1.1)]) (obs := []) rfl (by kernel_rfl) trivial fun a hE => ?_
    refine WR.done rfl ?_
    refine Runs.seq ?_
    refine Runs.region ?_
    refine WR.seg hE 2 [] [0, 1, 7, 21, 22] (Lo := [(0, .pointer (some ⟨p_a_, 0, none⟩)), (1, .int .i64 r), (7, .int .i64 t_1.1), (21, .pointer (some ⟨p_a_, 0, none⟩)), (22, .int .i64 r)]) (obs := []) rfl (by kernel_rfl) trivial fun a hE => ?_
    obtain ⟨t_2, et_2, hm⟩ := bind_some hm
    refine WR.eff hE rfl rfl rfl rfl (OpTo.fn hE rfl rfl Tryz.call56 (trees_List_ok et_2 H)) ?_
    rintro _ w ⟨sb, sc, rfl, H⟩ a hE
    refine WR.seg hE 4 [] [0, 1, 7, 8] (Lo := [(0, .pointer (some ⟨p_a_, 0, none⟩)), (1, .int .i64 r), (7, .int .i64 t_1.1), (8, .slice sb t_2.1.length sc)]) (obs := []) rfl (by kernel_rfl) trivial fun a hE => ?_
    refine WR.done rfl ?_
    refine Runs.seq ?_
    refine Runs.seq ?_
    refine Runs.region ?_
    refine WR.seg hE 2 [] [0, 1, 7, 8, 24, 25] (Lo := [(0, .pointer (some ⟨p_a_, 0, none⟩)), (1, .int .i64 r), (7, .int .i64 t_1.1), (8, .slice sb t_2.1.length sc), (24, .slice sb t_2.1.length sc), (25, .int .i64 t_1.1)]) (obs := []) rfl (by kernel_rfl) trivial fun a hE => ?_
    obtain ⟨t_3, et_3, hm⟩ := bind_some hm
    refine WR.eff hE rfl rfl rfl rfl (OpTo.fn hE rfl rfl Tryz.call131 (slices_Contains_int_ok (hX_s := (sl_rd 3 ecI 1 _ _ _)) (hC_s := (H.slCap 0 rfl).1) et_3 H)) ?_
    rintro _ w ⟨rfl, H⟩ a hE
    refine WR.seg hE 4 [] [0, 1, 7, 8, 27] (Lo := [(0, .pointer (some ⟨p_a_, 0, none⟩)), (1, .int .i64 r), (7, .int .i64 t_1.1), (8, .slice sb t_2.1.length sc), (27, .bool (!t_3))]) (obs := []) rfl (by kernel_rfl) trivial fun a hE => ?_
    refine WR.done rfl ?_
    refine Runs.cond hE rfl (fun c => ?_) (fun c => ?_)
    · replace hm := cond_t c hm
      refine Runs.seq ?_
      refine Runs.region ?_
      refine WR.seg hE 2 [] [6] (Lo := [(6, .int .i64 r)]) (obs := []) rfl (by kernel_rfl) trivial fun a hE => ?_
      refine WR.done rfl ?_
      refine Runs.ret hE Tryz.func94 rfl rfl ?_
      cases hm
      exact ⟨al_a_.free_b, al_a_.free_c, rfl, H.x0⟩
    · replace hm := cond_f c hm
      refine Runs.skip ?_
      refine Runs.seq ?_
      refine Runs.region ?_
      refine WR.seg hE 3 [] [30, 31, 32] (Lo := [(30, .pointer (some ⟨p_a_, 0, none⟩)), (31, .slice sb t_2.1.length sc), (32, .int .i64 t_1.1)]) (obs := []) rfl (by kernel_rfl) trivial fun a hE => ?_
      obtain ⟨t_4, et_4, hm⟩ := bind_some hm
      refine WR.eff hE rfl rfl rfl rfl (OpTo.fn hE rfl rfl Tryz.call140 (skew_without_ok et_4 H.t1)) ?_
      rintro _ w ⟨z, z1, rfl, H⟩ a hE
      refine WR.seg hE 9 [] [9] (Lo := [(9, .int .i64 t_4.1)]) (obs := []) rfl (by kernel_rfl) trivial fun a hE => ?_
      refine WR.done rfl ?_
      refine Runs.seq ?_
      refine Runs.region ?_
      refine WR.seg hE 2 [] [6] (Lo := [(6, .int .i64 t_4.1)]) (obs := []) rfl (by kernel_rfl) trivial fun a hE => ?_
      refine WR.done rfl ?_
      refine Runs.ret hE Tryz.func94 rfl rfl ?_
      cases hm
      exact ⟨z, z1, rfl, H⟩

theorem fib_Cut_ok {w0 w : World} {As : List HP} {k : Nat} {p_a_ : Nat} {al_a_ : arena_Arena.A} {a_ : arena_Arena} {r : Int} {i : Int} {t : Int × arena_Arena}  (hm : fib_Cut k a_ r i = some t) (H : St w0 (arena_Arena.R p_a_ al_a_ a_ :: As) w) :
    CallsR Tryz.prog 95 #[.pointer (some ⟨p_a_, 0, none⟩), .int .i64 r, .int .i64 i] w fun v w' => ∃ (z_a__free_b : Option Addr), ∃ (z_a__free_c : Nat), v = .int .i64 t.1 ∧ St w0 (arena_Arena.R p_a_ (arena_Arena.A.mk al_a_.l_b al_a_.l_c z_a__free_b z_a__free_c al_a_.m__p) t.2 :: As) w' := by
  rw [fib_Cut] at hm
  refine enter (args := [.pointer (some ⟨p_a_, 0, none⟩), .int .i64 r, .int .i64 i]) Tryz.func95 rfl rfl rfl fun a hE => ?_
  refine Runs.seq ?_
  refine Runs.region ?_
  refine WR.seg hE 1 [] [0, 1, 2] (Lo := [(0, .pointer (some ⟨p_a_, 0, none⟩)), (1, .int .i64 r), (2, .int .i64 i)]) (obs := []) rfl (by kernel_rfl) trivial fun a hE => ?_
  refine WR.done rfl ?_
  refine Runs.seq ?_
  refine Runs.seq ?_
  refine Runs.region ?_
  refine WR.seg hE 2 [] [0, 1, 2, 11] (Lo := [(0, .pointer (some ⟨p_a_, 0, none⟩)), (1, .int .i64 r), (2, .int .i64 i), (11, .bool false)]) (obs := []) rfl (by kernel_rfl) trivial fun a hE => ?_
  refine WR.done rfl ?_
  refine Runs.condF hE rfl ?_
  refine Runs.skip ?_
  refine Runs.seq ?_
  refine Runs.region ?_
  refine WR.seg hE 2 [] [0, 1, 12, 13] (Lo := [(0, .pointer (some ⟨p_a_, 0, none⟩)), (1, .int .i64 r), (12, .pointer (some ⟨p_a_, 0, none⟩)), (13, .int .i64 i)]) (obs := []) rfl (by kernel_rfl) trivial fun a hE => ?_
  obtain ⟨t_, et_, hm⟩ := bind_some hm
  refine WR.eff hE rfl rfl rfl rfl (OpTo.fn hE rfl rfl Tryz.call65 (item_Node_ok et_ H)) ?_
  rintro _ w ⟨rfl, H⟩ a hE
  refine WR.seg hE 4 [] [0, 1, 7] (Lo := [(0, .pointer (some ⟨p_a_, 0, none⟩)), (1, .int .i64 r), (7, .int .i64 t_.1)]) (obs := []) rfl (by kernel_rfl) trivial fun a hE => ?_
  refine WR.done rfl ?_
  refine Runs.seq ?_
  refine Runs.seq ?_
  refine Runs.region ?_
  refine WR.seg hE 2 [] [0, 1, 7, 16] (Lo := [(0, .pointer (some ⟨p_a_, 0, none⟩)), (1, .int .i64 r), (7, .int .i64 t_.1), (16, .bool (t_.1 == (-1)))]) (obs := []) rfl (by kernel_rfl) trivial fun a hE => ?_
  refine WR.done rfl ?_
  refine Runs.cond hE rfl (fun c => ?_) (fun c => ?_)
  · replace hm := cond_t c hm
    refine Runs.seq ?_
    refine Runs.region ?_
    refine WR.seg hE 2 [] [6] (Lo := [(6, .int .i64 r)]) (obs := []) rfl (by kernel_rfl) trivial fun a hE => ?_
    refine WR.done rfl ?_
    refine Runs.ret hE Tryz.func95 rfl rfl ?_
    cases hm
    exact ⟨al_a_.free_b, al_a_.free_c, rfl, H⟩
  · replace hm := cond_f c hm
    refine Runs.skip ?_
    refine Runs.seq ?_
    refine Runs.seq ?_
    refine Runs.region ?_
    refine WR.seg hE 2 [] [0, 1, 7, 18, 19] (Lo := [(0, .pointer (some ⟨p_a_, 0, none⟩)), (1, .int .i64 r), (7, .int .i64 t_.1), (18, .pointer (some ⟨p_a_, 0, none⟩)), (19, .int .i64 t_.1)]) (obs := []) rfl (by kernel_rfl) trivial fun a hE => ?_
    obtain ⟨t_1, et_1, hm⟩ := bind_some hm
    refine WR.eff hE rfl rfl rfl rfl (OpTo.fn hE rfl rfl Tryz.call73 (arena_Arena_Cell_ok et_1 H)) ?_
    rintro _ w ⟨rfl, H⟩ a hE
    refine WR.seg hE 4 [] [0, 1, 7, 21] (Lo := [(0, .pointer (some ⟨p_a_, 0, none⟩)), (1, .int .i64 r), (7, .int .i64 t_.1), (21, .bool (t_1.1 != (-1)))]) (obs := []) rfl (by kernel_rfl) trivial fun a hE => ?_
    refine WR.done rfl ?_
    obtain ⟨s, es, hm⟩ := bind_some hm
    refine Runs.join (fun a w => EnvOk 33 a [(0, .pointer (some ⟨p_a_, 0, none⟩)), (7, .int .i64 t_.1)] ∧ St w0 (arena_Arena.R p_a_ al_a_ s :: As) w) (fun hk => ?_) ?_
    · replace hm := es; clear es
      refine Runs.cond hE rfl (fun c => ?_) (fun c => ?_)
      · replace hm := cond_t c hm
        refine Runs.region ?_
        refine WR.seg hE 3 [] [0, 7, 22, 23, 24] (Lo := [(0, .pointer (some ⟨p_a_, 0, none⟩)), (7, .int .i64 t_.1), (22, .pointer (some ⟨p_a_, 0, none⟩)), (23, .int .i64 r), (24, .int .i64 t_.1)]) (obs := []) rfl (by kernel_rfl) trivial fun a hE => ?_
        obtain ⟨t_2, et_2, hm⟩ := bind_some hm
        refine WR.eff hE rfl rfl rfl rfl (OpTo.fn hE rfl rfl Tryz.call144 (fib_cut_ok et_2 H)) ?_
        rintro _ w ⟨rfl, H⟩ a hE
        refine WR.done rfl ?_
        cases hm
        exact hk _ _ ⟨hE.sel [0, 7] (by kernel_rfl), H⟩
      · replace hm := cond_f c hm
        refine Runs.skip ?_
        cases hm
        exact hk _ _ ⟨hE.sel [0, 7] (by kernel_rfl), H⟩
    rintro a w ⟨hE, H⟩
    refine Runs.seq ?_
    refine Runs.region ?_
    refine WR.seg hE 2 [] [27, 28] (Lo := [(27, .pointer (some ⟨p_a_, 0, none⟩)), (28, .int .i64 t_.1)]) (obs := []) rfl (by kernel_rfl) trivial fun a hE => ?_
    obtain ⟨t_3, et_3, hm⟩ := bind_some hm
    refine WR.eff hE rfl rfl rfl rfl (OpTo.fn hE rfl rfl Tryz.call141 (fib_pop_ok et_3 H)) ?_
    rintro _ w ⟨z, z1, rfl, H⟩ a hE
    refine WR.seg hE 8 [] [8] (Lo := [(8, .int .i64 t_3.1)]) (obs := []) rfl (by kernel_rfl) trivial fun a hE => ?_
    refine WR.done rfl ?_
    refine Runs.seq ?_
    refine Runs.region ?_
    refine WR.seg hE 2 [] [6] (Lo := [(6, .int .i64 t_3.1)]) (obs := []) rfl (by kernel_rfl) trivial fun a hE => ?_
    refine WR.done rfl ?_
    refine Runs.ret hE Tryz.func95 rfl rfl ?_
    cases hm
    exact ⟨z, z1, rfl, H⟩

theorem pairing_Cut_ok {w0 w : World} {As : List HP} {k : Nat} {p_a_ : Nat} {al_a_ : arena_Arena.A} {a_ : arena_Arena} {r : Int} {i : Int} {t : Int × arena_Arena}  (hm : pairing_Cut k a_ r i = some t) (H : St w0 (arena_Arena.R p_a_ al_a_ a_ :: As) w) :
    CallsR Tryz.prog 96 #[.pointer (some ⟨p_a_, 0, none⟩), .int .i64 r, .int .i64 i] w fun v w' => ∃ (z_a__free_b : Option Addr), ∃ (z_a__free_c : Nat), v = .int .i64 t.1 ∧ St w0 (arena_Arena.R p_a_ (arena_Arena.A.mk al_a_.l_b al_a_.l_c z_a__free_b z_a__free_c al_a_.m__p) t.2 :: As) w' := by
  rw [pairing_Cut] at hm
  refine enter (args := [.pointer (some ⟨p_a_, 0, none⟩), .int .i64 r, .int .i64 i]) Tryz.func96 rfl rfl rfl fun a hE => ?_
  refine Runs.seq ?_
  refine Runs.region ?_
  refine WR.seg hE 1 [] [0, 1, 2] (Lo := [(0, .pointer (some ⟨p_a_, 0, none⟩)), (1, .int .i64 r), (2, .int .i64 i)]) (obs := []) rfl (by kernel_rfl) trivial fun a hE => ?_
  refine WR.done rfl ?_
  refine Runs.seq ?_
  refine Runs.seq ?_
  refine Runs.region ?_
  refine WR.seg hE 2 [] [0, 1, 2, 13] (Lo := [(0, .pointer (some ⟨p_a_, 0, none⟩)), (1, .int .i64 r), (2, .int .i64 i), (13, .bool false)]) (obs := []) rfl (by kernel_rfl) trivial fun a hE => ?_
  refine WR.done rfl ?_
  refine Runs.condF hE rfl ?_
  refine Runs.skip ?_
  refine Runs.seq ?_
  refine Runs.region ?_
  refine WR.seg hE 2 [] [0, 1, 14, 15] (Lo := [(0, .pointer (some ⟨p_a_, 0, none⟩)), (1, .int .i64 r), (14, .pointer (some ⟨p_a_, 0, none⟩)), (15, .int .i64 i)]) (obs := []) rfl (by kernel_rfl) trivial fun a hE => ?_
  obtain ⟨t_, et_, hm⟩ := bind_some hm
  refine WR.eff hE rfl rfl rfl rfl (OpTo.fn hE rfl rfl Tryz.call65 (item_Node_ok et_ H)) ?_
  rintro _ w ⟨rfl, H⟩ a hE
  refine WR.seg hE 4 [] [0, 1, 7] (Lo := [(0, .pointer (some ⟨p_a_, 0, none⟩)), (1, .int .i64 r), (7, .int .i64 t_.1)]) (obs := []) rfl (by kernel_rfl) trivial fun a hE => ?_
  refine WR.done rfl ?_
  refine Runs.seq ?_
  refine Runs.seq ?_
  refine Runs.region ?_
  refine WR.seg hE 2 [] [0, 1, 7, 18] (Lo := [(0, .pointer (some ⟨p_a_, 0, none⟩)), (1, .int .i64 r), (7, .int .i64 t_.1), (18, .bool (t_.1 == (-1)))]) (obs := []) rfl (by kernel_rfl) trivial fun a hE => ?_
  refine WR.done rfl ?_
  refine Runs.cond hE rfl (fun c => ?_) (fun c => ?_)
  · replace hm := cond_t c hm
    refine Runs.seq ?_
    refine Runs.region ?_
    refine WR.seg hE 2 [] [6] (Lo := [(6, .int .i64 r)]) (obs := []) rfl (by kernel_rfl) trivial fun a hE => ?_
    refine WR.done rfl ?_
    refine Runs.ret hE Tryz.func96 rfl rfl ?_
    cases hm
    exact ⟨al_a_.free_b, al_a_.free_c, rfl, H⟩
  · replace hm := cond_f c hm
    refine Runs.skip ?_
    refine Runs.seq ?_
    refine Runs.seq ?_
    obtain ⟨s, es, hm⟩ := bind_some hm
    refine Runs.join (fun a w => EnvOk 49 a [(0, .pointer (some ⟨p_a_, 0, none⟩)), (1, .int .i64 r), (7, .int .i64 t_.1), (28, .bool s.1)] ∧ St w0 (arena_Arena.R p_a_ al_a_ s.2 :: As) w) (fun hk => ?_) ?_
    · replace hm := es; clear es
      refine Runs.region ?_
      refine WR.seg hE 4 [] [0, 1, 7, 23] (Lo := [(0, .pointer (some ⟨p_a_, 0, none⟩)), (1, .int .i64 r), (7, .int .i64 t_.1), (23, .bool (t_.1 == r))]) (obs := []) rfl (by kernel_rfl) trivial fun a hE => ?_
      rcases Bool.eq_false_or_eq_true (t_.1 == r) with c | c
      · replace hE := hE.dec 23 c (by kernel_rfl)
        replace hm := cond_t c hm
        have c_ := c
        refine WR.seg hE 9 [] [0, 1, 7, 28] (Lo := [(0, .pointer (some ⟨p_a_, 0, none⟩)), (1, .int .i64 r), (7, .int .i64 t_.1), (28, .bool true)]) (obs := []) rfl (by kernel_rfl) trivial fun a hE => ?_
        refine WR.done rfl ?_
        cases hm
        exact hk _ _ ⟨hE.sel [0, 1, 7, 28] (by kernel_rfl), H⟩
      · replace hE := hE.dec 23 c (by kernel_rfl)
        replace hm := cond_f c hm
        have c_1 := c
        refine WR.seg hE 6 [] [0, 1, 7, 23, 24, 25] (Lo := [(0, .pointer (some ⟨p_a_, 0, none⟩)), (1, .int .i64 r), (7, .int .i64 t_.1), (23, .bool false), (24, .pointer (some ⟨p_a_, 0, none⟩)), (25, .int .i64 t_.1)]) (obs := []) rfl (by kernel_rfl) trivial fun a hE => ?_
        obtain ⟨t_1, et_1, hm⟩ := bind_some hm
        refine WR.eff hE rfl rfl rfl rfl (OpTo.fn hE rfl rfl Tryz.call73 (arena_Arena_Cell_ok et_1 H)) ?_
        rintro _ w ⟨rfl, H⟩ a hE
        refine WR.seg hE 9 [] [0, 1, 7, 28] (Lo := [(0, .pointer (some ⟨p_a_, 0, none⟩)), (1, .int .i64 r), (7, .int .i64 t_.1), (28, .bool (t_1.1 == (-1)))]) (obs := []) rfl (by kernel_rfl) trivial fun a hE => ?_
        refine WR.done rfl ?_
        cases hm
        exact hk _ _ ⟨hE.sel [0, 1, 7, 28] (by kernel_rfl), H⟩
    rintro a w ⟨hE, H⟩
    refine Runs.cond hE rfl (fun c => ?_) (fun c => ?_)
    · replace hm := cond_t c hm
      refine Runs.seq ?_
      refine Runs.region ?_
      refine WR.seg hE 2 [] [30, 31] (Lo := [(30, .pointer (some ⟨p_a_, 0, none⟩)), (31, .int .i64 t_.1)]) (obs := []) rfl (by kernel_rfl) trivial fun a hE => ?_
      obtain ⟨t_2, et_2, hm⟩ := bind_some hm
      refine WR.eff hE rfl rfl rfl rfl (OpTo.fn hE rfl rfl Tryz.call142 (pairing_pop_ok et_2 H)) ?_
      rintro _ w ⟨z, z1, rfl, H⟩ a hE
      refine WR.seg hE 8 [] [8] (Lo := [(8, .int .i64 t_2.1)]) (obs := []) rfl (by kernel_rfl) trivial fun a hE => ?_
      refine WR.done rfl ?_
      refine Runs.seq ?_
      refine Runs.region ?_
      refine WR.seg hE 2 [] [6] (Lo := [(6, .int .i64 t_2.1)]) (obs := []) rfl (by kernel_rfl) trivial fun a hE => ?_
      refine WR.done rfl ?_
      refine Runs.ret hE Tryz.func96 rfl rfl ?_
      cases hm
      exact ⟨z, z1, rfl, H⟩
    · replace hm := cond_f c hm
      refine Runs.skip ?_
      refine Runs.seq ?_
      refine Runs.region ?_
      refine WR.seg hE 2 [] [0, 1, 7, 36, 37] (Lo := [(0, .pointer (some ⟨p_a_, 0, none⟩)), (1, .int .i64 r), (7, .int .i64 t_.1), (36, .pointer (some ⟨p_a_, 0, none⟩)), (37, .int .i64 t_.1)]) (obs := []) rfl (by kernel_rfl) trivial fun a hE => ?_
      obtain ⟨t_3, et_3, hm⟩ := bind_some hm
      refine WR.eff hE rfl rfl rfl rfl (OpTo.fn hE rfl rfl Tryz.call145 (pairing_leave_ok et_3 H)) ?_
      rintro _ w ⟨rfl, H⟩ a hE
      refine WR.done rfl ?_
      refine Runs.seq ?_
      refine Runs.region ?_
      refine WR.seg hE 2 [] [0, 1, 40, 41] (Lo := [(0, .pointer (some ⟨p_a_, 0, none⟩)), (1, .int .i64 r), (40, .pointer (some ⟨p_a_, 0, none⟩)), (41, .int .i64 t_.1)]) (obs := []) rfl (by kernel_rfl) trivial fun a hE => ?_
      obtain ⟨t_4, et_4, hm⟩ := bind_some hm
      refine WR.eff hE rfl rfl rfl rfl (OpTo.fn hE rfl rfl Tryz.call142 (pairing_pop_ok et_4 H)) ?_
      rintro _ w ⟨z2, z3, rfl, H⟩ a hE
      refine WR.seg hE 8 [] [0, 1, 10] (Lo := [(0, .pointer (some ⟨p_a_, 0, none⟩)), (1, .int .i64 r), (10, .int .i64 t_4.1)]) (obs := []) rfl (by kernel_rfl) trivial fun a hE => ?_
      refine WR.done rfl ?_
      refine Runs.seq ?_
      refine Runs.region ?_
      refine WR.seg hE 3 [] [45, 46, 47] (Lo := [(45, .pointer (some ⟨p_a_, 0, none⟩)), (46, .int .i64 r), (47, .int .i64 t_4.1)]) (obs := []) rfl (by kernel_rfl) trivial fun a hE => ?_
      obtain ⟨t_5, et_5, hm⟩ := bind_some hm
      refine WR.eff hE rfl rfl rfl rfl (OpTo.fn hE rfl rfl Tryz.call138 (pairing_link_ok et_5 H)) ?_
      rintro _ w ⟨rfl, H⟩ a hE
      refine WR.seg hE 5 [] [6] (Lo := [(6, .int .i64 t_5.1)]) (obs := []) rfl (by kernel_rfl) trivial fun a hE => ?_
      refine WR.done rfl ?_
      refine Runs.ret hE Tryz.func96 rfl rfl ?_
      cases hm
      exact ⟨z2, z3, rfl, H⟩

theorem kind_Cut_ok {w0 w : World} {As : List HP} {k : Nat} {k_ : Int} {p_a_ : Nat} {al_a_ : arena_Arena.A} {a_ : arena_Arena} {r : Int} {i : Int} {t : Int × arena_Arena}  (hm : kind_Cut k k_ a_ r i = some t) (H : St w0 (arena_Arena.R p_a_ al_a_ a_ :: As) w) :
    CallsR Tryz.prog 45 #[.int .i64 k_, .pointer (some ⟨p_a_, 0, none⟩), .int .i64 r, .int .i64 i] w fun v w' => ∃ (z_a__free_b : Option Addr), ∃ (z_a__free_c : Nat), v = .int .i64 t.1 ∧ St w0 (arena_Arena.R p_a_ (arena_Arena.A.mk al_a_.l_b al_a_.l_c z_a__free_b z_a__free_c al_a_.m__p) t.2 :: As) w' := by
  rw [kind_Cut] at hm
  refine enter (args := [.int .i64 k_, .pointer (some ⟨p_a_, 0, none⟩), .int .i64 r, .int .i64 i]) Tryz.func45 rfl rfl rfl fun a hE => ?_
  refine Runs.seq ?_
  refine Runs.region ?_
  refine WR.seg hE 1 [] [0, 1, 2, 3] (Lo := [(0, .int .i64 k_), (1, .pointer (some ⟨p_a_, 0, none⟩)), (2, .int .i64 r), (3, .int .i64 i)]) (obs := []) rfl (by kernel_rfl) trivial fun a hE => ?_
  refine WR.done rfl ?_
  refine Runs.seq ?_
  refine Runs.seq ?_
  refine Runs.region ?_
  refine WR.seg hE 1 [] [1, 2, 3, 9] (Lo := [(1, .pointer (some ⟨p_a_, 0, none⟩)), (2, .int .i64 r), (3, .int .i64 i), (9, .int .i64 k_)]) (obs := []) rfl (by kernel_rfl) trivial fun a hE => ?_
  refine WR.done rfl ?_
  refine Runs.block ?_
  refine Runs.seq ?_
  refine Runs.region ?_
  refine WR.seg hE 2 [] [1, 2, 3, 9, 10] (Lo := [(1, .pointer (some ⟨p_a_, 0, none⟩)), (2, .int .i64 r), (3, .int .i64 i), (9, .int .i64 k_), (10, .bool (k_ == 1))]) (obs := []) rfl (by kernel_rfl) trivial fun a hE => ?_
  refine WR.done rfl ?_
  refine Runs.cond hE rfl (fun c => ?_) (fun c => ?_)
  · replace hm := cond_t c hm
    refine Runs.seq ?_
    refine Runs.region ?_
    refine WR.seg hE 3 [] [12, 13, 14] (Lo := [(12, .pointer (some ⟨p_a_, 0, none⟩)), (13, .int .i64 r), (14, .int .i64 i)]) (obs := []) rfl (by kernel_rfl) trivial fun a hE => ?_
    obtain ⟨t_, et_, hm⟩ := bind_some hm
    refine WR.eff hE rfl rfl rfl rfl (OpTo.fn hE rfl rfl Tryz.call93 (leftist_Cut_ok et_ H)) ?_
    rintro _ w ⟨z, z1, rfl, H⟩ a hE
    refine WR.seg hE 5 [] [8] (Lo := [(8, .int .i64 t_.1)]) (obs := []) rfl (by kernel_rfl) trivial fun a hE => ?_
    refine WR.done rfl ?_
    refine Runs.ret hE Tryz.func45 rfl rfl ?_
    cases hm
    exact ⟨z, z1, rfl, H⟩
  · replace hm := cond_f c hm
    refine Runs.seq ?_
    refine Runs.region ?_
    refine WR.seg hE 2 [] [1, 2, 3, 9, 16] (Lo := [(1, .pointer (some ⟨p_a_, 0, none⟩)), (2, .int .i64 r), (3, .int .i64 i), (9, .int .i64 k_), (16, .bool (k_ == 2))]) (obs := []) rfl (by kernel_rfl) trivial fun a hE => ?_
    refine WR.done rfl ?_
    refine Runs.cond hE rfl (fun c => ?_) (fun c => ?_)
    · replace hm := cond_t c hm
      refine Runs.seq ?_
      refine Runs.region ?_
      refine WR.seg hE 3 [] [18, 19, 20] (Lo := [(18, .pointer (some ⟨p_a_, 0, none⟩)), (19, .int .i64 r), (20, .int .i64 i)]) (obs := []) rfl (by kernel_rfl) trivial fun a hE => ?_
      obtain ⟨t_1, et_1, hm⟩ := bind_some hm
      refine WR.eff hE rfl rfl rfl rfl (OpTo.fn hE rfl rfl Tryz.call74 (binomial_Cut_ok et_1 H)) ?_
      rintro _ w ⟨z2, z3, rfl, H⟩ a hE
      refine WR.seg hE 5 [] [8] (Lo := [(8, .int .i64 t_1.1)]) (obs := []) rfl (by kernel_rfl) trivial fun a hE => ?_
      refine WR.done rfl ?_
      refine Runs.ret hE Tryz.func45 rfl rfl ?_
      cases hm
      exact ⟨z2, z3, rfl, H⟩
    · replace hm := cond_f c hm
      refine Runs.seq ?_
      refine Runs.region ?_
      refine WR.seg hE 2 [] [1, 2, 3, 9, 22] (Lo := [(1, .pointer (some ⟨p_a_, 0, none⟩)), (2, .int .i64 r), (3, .int .i64 i), (9, .int .i64 k_), (22, .bool (k_ == 3))]) (obs := []) rfl (by kernel_rfl) trivial fun a hE => ?_
      refine WR.done rfl ?_
      refine Runs.cond hE rfl (fun c => ?_) (fun c => ?_)
      · replace hm := cond_t c hm
        refine Runs.seq ?_
        refine Runs.region ?_
        refine WR.seg hE 3 [] [24, 25, 26] (Lo := [(24, .pointer (some ⟨p_a_, 0, none⟩)), (25, .int .i64 r), (26, .int .i64 i)]) (obs := []) rfl (by kernel_rfl) trivial fun a hE => ?_
        obtain ⟨t_2, et_2, hm⟩ := bind_some hm
        refine WR.eff hE rfl rfl rfl rfl (OpTo.fn hE rfl rfl Tryz.call94 (skew_Cut_ok et_2 H)) ?_
        rintro _ w ⟨z4, z5, rfl, H⟩ a hE
        refine WR.seg hE 5 [] [8] (Lo := [(8, .int .i64 t_2.1)]) (obs := []) rfl (by kernel_rfl) trivial fun a hE => ?_
        refine WR.done rfl ?_
        refine Runs.ret hE Tryz.func45 rfl rfl ?_
        cases hm
        exact ⟨z4, z5, rfl, H⟩
      · replace hm := cond_f c hm
        refine Runs.seq ?_
        refine Runs.region ?_
        refine WR.seg hE 2 [] [1, 2, 3, 9, 28] (Lo := [(1, .pointer (some ⟨p_a_, 0, none⟩)), (2, .int .i64 r), (3, .int .i64 i), (9, .int .i64 k_), (28, .bool (k_ == 4))]) (obs := []) rfl (by kernel_rfl) trivial fun a hE => ?_
        refine WR.done rfl ?_
        refine Runs.cond hE rfl (fun c => ?_) (fun c => ?_)
        · replace hm := cond_t c hm
          refine Runs.seq ?_
          refine Runs.region ?_
          refine WR.seg hE 3 [] [30, 31, 32] (Lo := [(30, .pointer (some ⟨p_a_, 0, none⟩)), (31, .int .i64 r), (32, .int .i64 i)]) (obs := []) rfl (by kernel_rfl) trivial fun a hE => ?_
          obtain ⟨t_3, et_3, hm⟩ := bind_some hm
          refine WR.eff hE rfl rfl rfl rfl (OpTo.fn hE rfl rfl Tryz.call95 (fib_Cut_ok et_3 H)) ?_
          rintro _ w ⟨z6, z7, rfl, H⟩ a hE
          refine WR.seg hE 5 [] [8] (Lo := [(8, .int .i64 t_3.1)]) (obs := []) rfl (by kernel_rfl) trivial fun a hE => ?_
          refine WR.done rfl ?_
          refine Runs.ret hE Tryz.func45 rfl rfl ?_
          cases hm
          exact ⟨z6, z7, rfl, H⟩
        · replace hm := cond_f c hm
          refine Runs.seq ?_
          refine Runs.region ?_
          refine WR.seg hE 2 [] [1, 2, 3, 34] (Lo := [(1, .pointer (some ⟨p_a_, 0, none⟩)), (2, .int .i64 r), (3, .int .i64 i), (34, .bool (k_ == 5))]) (obs := []) rfl (by kernel_rfl) trivial fun a hE => ?_
          refine WR.done rfl ?_
          refine Runs.cond hE rfl (fun c => ?_) (fun c => ?_)
          · replace hm := cond_t c hm
            refine Runs.seq ?_
            refine Runs.region ?_
            refine WR.seg hE 3 [] [36, 37, 38] (Lo := [(36, .pointer (some ⟨p_a_, 0, none⟩)), (37, .int .i64 r), (38, .int .i64 i)]) (obs := []) rfl (by kernel_rfl) trivial fun a hE => ?_
            obtain ⟨t_4, et_4, hm⟩ := bind_some hm
            refine WR.eff hE rfl rfl rfl rfl (OpTo.fn hE rfl rfl Tryz.call96 (pairing_Cut_ok et_4 H)) ?_
            rintro _ w ⟨z8, z9, rfl, H⟩ a hE
            refine WR.seg hE 5 [] [8] (Lo := [(8, .int .i64 t_4.1)]) (obs := []) rfl (by kernel_rfl) trivial fun a hE => ?_
            refine WR.done rfl ?_
            refine Runs.ret hE Tryz.func45 rfl rfl ?_
            cases hm
            exact ⟨z8, z9, rfl, H⟩
          · replace hm := cond_f c hm
            refine Runs.skip ?_
            refine Runs.inBlock ?_
            refine Runs.seq ?_
            refine Runs.region ?_
            refine WR.seg hE 2 [] [8] (Lo := [(8, .int .i64 r)]) (obs := []) rfl (by kernel_rfl) trivial fun a hE => ?_
            refine WR.done rfl ?_
            refine Runs.ret hE Tryz.func45 rfl rfl ?_
            cases hm
            exact ⟨al_a_.free_b, al_a_.free_c, rfl, H⟩

theorem leftist_Meld_ok {w0 w : World} {As : List HP} {k : Nat} {p_a_ : Nat} {al_a_ : arena_Arena.A} {a_ : arena_Arena} {r : Int} {s : Int} {t : Int × arena_Arena}  (hm : leftist_Meld k a_ r s = some t) (H : St w0 (arena_Arena.R p_a_ al_a_ a_ :: As) w) :
    CallsR Tryz.prog 97 #[.pointer (some ⟨p_a_, 0, none⟩), .int .i64 r, .int .i64 s] w fun v w' => v = .int .i64 t.1 ∧ St w0 (arena_Arena.R p_a_ al_a_ t.2 :: As) w' := by
  rw [leftist_Meld] at hm
  refine enter (args := [.pointer (some ⟨p_a_, 0, none⟩), .int .i64 r, .int .i64 s]) Tryz.func97 rfl rfl rfl fun a hE => ?_
  refine Runs.seq ?_
  refine Runs.region ?_
  refine WR.seg hE 1 [] [0, 1, 2] (Lo := [(0, .pointer (some ⟨p_a_, 0, none⟩)), (1, .int .i64 r), (2, .int .i64 s)]) (obs := []) rfl (by kernel_rfl) trivial fun a hE => ?_
  refine WR.done rfl ?_
  refine Runs.seq ?_
  refine Runs.seq ?_
  refine Runs.region ?_
  refine WR.seg hE 2 [] [0, 1, 2, 8] (Lo := [(0, .pointer (some ⟨p_a_, 0, none⟩)), (1, .int .i64 r), (2, .int .i64 s), (8, .bool false)]) (obs := []) rfl (by kernel_rfl) trivial fun a hE => ?_
  refine WR.done rfl ?_
  refine Runs.condF hE rfl ?_
  refine Runs.skip ?_
  refine Runs.seq ?_
  refine Runs.region ?_
  refine WR.seg hE 3 [] [9, 10, 11] (Lo := [(9, .pointer (some ⟨p_a_, 0, none⟩)), (10, .int .i64 r), (11, .int .i64 s)]) (obs := []) rfl (by kernel_rfl) trivial fun a hE => ?_
  obtain ⟨t_, et_, hm⟩ := bind_some hm
  refine WR.eff hE rfl rfl rfl rfl (OpTo.fn hE rfl rfl Tryz.call133 (leftist_meld_ok et_ H)) ?_
  rintro _ w ⟨rfl, H⟩ a hE
  refine WR.seg hE 5 [] [6] (Lo := [(6, .int .i64 t_.1)]) (obs := []) rfl (by kernel_rfl) trivial fun a hE => ?_
  refine WR.done rfl ?_
  refine Runs.ret hE Tryz.func97 rfl rfl ?_
  cases hm
  exact ⟨rfl, H⟩

theorem binomial_Meld_ok {w0 w : World} {As : List HP} {k : Nat} {p_a_ : Nat} {al_a_ : arena_Arena.A} {a_ : arena_Arena} {r : Int} {s : Int} {t : Int × arena_Arena}  (hm : binomial_Meld k a_ r s = some t) (H : St w0 (arena_Arena.R p_a_ al_a_ a_ :: As) w) :
    CallsR Tryz.prog 70 #[.pointer (some ⟨p_a_, 0, none⟩), .int .i64 r, .int .i64 s] w fun v w' => v = .int .i64 t.1 ∧ St w0 (arena_Arena.R p_a_ al_a_ t.2 :: As) w' := by
  rw [binomial_Meld] at hm
  refine enter (args := [.pointer (some ⟨p_a_, 0, none⟩), .int .i64 r, .int .i64 s]) Tryz.func70 rfl rfl rfl fun a hE => ?_
  refine Runs.seq ?_
  refine Runs.region ?_
  refine WR.seg hE 1 [] [0, 1, 2] (Lo := [(0, .pointer (some ⟨p_a_, 0, none⟩)), (1, .int .i64 r), (2, .int .i64 s)]) (obs := []) rfl (by kernel_rfl) trivial fun a hE => ?_
  refine WR.done rfl ?_
  refine Runs.seq ?_
  refine Runs.seq ?_
  refine Runs.region ?_
  refine WR.seg hE 2 [] [0, 1, 2, 8] (Lo := [(0, .pointer (some ⟨p_a_, 0, none⟩)), (1, .int .i64 r), (2, .int .i64 s), (8, .bool false)]) (obs := []) rfl (by kernel_rfl) trivial fun a hE => ?_
  refine WR.done rfl ?_
  refine Runs.condF hE rfl ?_
  refine Runs.skip ?_
  refine Runs.seq ?_
  refine Runs.seq ?_
  refine Runs.region ?_
  refine WR.seg hE 3 [] [0, 1, 2, 11] (Lo := [(0, .pointer (some ⟨p_a_, 0, none⟩)), (1, .int .i64 r), (2, .int .i64 s), (11, .bool (r == s))]) (obs := []) rfl (by kernel_rfl) trivial fun a hE => ?_
  refine WR.done rfl ?_
  refine Runs.cond hE rfl (fun c => ?_) (fun c => ?_)
  · replace hm := cond_t c hm
    refine Runs.seq ?_
    refine Runs.region ?_
    refine WR.seg hE 2 [] [6] (Lo := [(6, .int .i64 r)]) (obs := []) rfl (by kernel_rfl) trivial fun a hE => ?_
    refine WR.done rfl ?_
    refine Runs.ret hE Tryz.func70 rfl rfl ?_
    cases hm
    exact ⟨rfl, H⟩
  · replace hm := cond_f c hm
    refine Runs.skip ?_
    refine Runs.seq ?_
    refine Runs.region ?_
    refine WR.seg hE 3 [] [0, 2, 13, 14, 15] (Lo := [(0, .pointer (some ⟨p_a_, 0, none⟩)), (2, .int .i64 s), (13, .pointer (some ⟨p_a_, 0, none⟩)), (14, .pointer (some ⟨p_a_, 0, none⟩)), (15, .int .i64 r)]) (obs := []) rfl (by kernel_rfl) trivial fun a hE => ?_
    obtain ⟨t_, et_, hm⟩ := bind_some hm
    refine WR.eff hE rfl rfl rfl rfl (OpTo.fn hE rfl rfl Tryz.call56 (trees_List_ok et_ H)) ?_
    rintro _ w ⟨sb, sc, rfl, H⟩ a hE
    refine WR.seg hE 6 [] [13, 16, 17, 18] (Lo := [(13, .pointer (some ⟨p_a_, 0, none⟩)), (16, .slice sb t_.1.length sc), (17, .pointer (some ⟨p_a_, 0, none⟩)), (18, .int .i64 s)]) (obs := []) rfl (by kernel_rfl) trivial fun a hE => ?_
    obtain ⟨t_1, et_1, hm⟩ := bind_some hm
    refine WR.eff hE rfl rfl rfl rfl (OpTo.fn hE rfl rfl Tryz.call56 (trees_List_ok et_1 H.t1)) ?_
    rintro _ w ⟨sb1, sc1, rfl, H⟩ a hE
    obtain ⟨l, el, hm⟩ := bind_some hm
    replace H := H.t2
    refine WR.eff hE rfl rfl rfl rfl (OpTo.appendM el hE H ecI_ok rfl rfl rfl rfl rfl rfl rfl rfl rfl rfl (SlRd.all (sl_rd 3 ecI 1 _ _ _) ecI_ok H 1 rfl) rfl) ?_
    rintro _ w ⟨sb2, sc2, rfl, H⟩ a hE
    obtain ⟨t_2, et_2, hm⟩ := bind_some hm
    replace H := H.t2
    refine WR.eff hE rfl rfl rfl rfl (OpTo.fn hE rfl rfl Tryz.call55 (trees_Carry_ok (hX_l := (sl_rd 3 ecI 1 _ _ _)) (hC_l := (H.slCap 1 rfl).1) et_2 H)) ?_
    rintro _ w ⟨rfl, H⟩ a hE
    refine WR.seg hE 10 [] [6] (Lo := [(6, .int .i64 t_2.1)]) (obs := []) rfl (by kernel_rfl) trivial fun a hE => ?_
    refine WR.done rfl ?_
    refine Runs.ret hE Tryz.func70 rfl rfl ?_
    cases hm
    exact ⟨rfl, H.x2.x1⟩

theorem skew_Meld_ok {w0 w : World} {As : List HP} {k : Nat} {p_a_ : Nat} {al_a_ : arena_Arena.A} {a_ : arena_Arena} {r : Int} {s : Int} {t : Int × arena_Arena}  (hm : skew_Meld k a_ r s = some t) (H : St w0 (arena_Arena.R p_a_ al_a_ a_ :: As) w) :
    CallsR Tryz.prog 98 #[.pointer (some ⟨p_a_, 0, none⟩), .int .i64 r, .int .i64 s] w fun v w' => v = .int .i64 t.1 ∧ St w0 (arena_Arena.R p_a_ al_a_ t.2 :: As) w' := by
  rw [skew_Meld] at hm
  refine enter (args := [.pointer (some ⟨p_a_, 0, none⟩), .int .i64 r, .int .i64 s]) Tryz.func98 rfl rfl rfl fun a hE => ?_
  refine Runs.seq ?_
  refine Runs.region ?_
  refine WR.seg hE 1 [] [0, 1, 2] (Lo := [(0, .pointer (some ⟨p_a_, 0, none⟩)), (1, .int .i64 r), (2, .int .i64 s)]) (obs := []) rfl (by kernel_rfl) trivial fun a hE => ?_
  refine WR.done rfl ?_
  refine Runs.seq ?_
  refine Runs.seq ?_
  refine Runs.region ?_
  refine WR.seg hE 2 [] [0, 1, 2, 8] (Lo := [(0, .pointer (some ⟨p_a_, 0, none⟩)), (1, .int .i64 r), (2, .int .i64 s), (8, .bool false)]) (obs := []) rfl (by kernel_rfl) trivial fun a hE => ?_
  refine WR.done rfl ?_
  refine Runs.condF hE rfl ?_
  refine Runs.skip ?_
  refine Runs.seq ?_
  refine Runs.seq ?_
  refine Runs.region ?_
  refine WR.seg hE 3 [] [0, 1, 2, 11] (Lo := [(0, .pointer (some ⟨p_a_, 0, none⟩)), (1, .int .i64 r), (2, .int .i64 s), (11, .bool (r == s))]) (obs := []) rfl (by kernel_rfl) trivial fun a hE => ?_
  refine WR.done rfl ?_
  refine Runs.cond hE rfl (fun c => ?_) (fun c => ?_)
  · replace hm := cond_t c hm
    refine Runs.seq ?_
    refine Runs.region ?_
    refine WR.seg hE 2 [] [6] (Lo := [(6, .int .i64 r)]) (obs := []) rfl (by kernel_rfl) trivial fun a hE => ?_
    refine WR.done rfl ?_
    refine Runs.ret hE Tryz.func98 rfl rfl ?_
    cases hm
    exact ⟨rfl, H⟩
  · replace hm := cond_f c hm
    refine Runs.skip ?_
    refine Runs.seq ?_
    refine Runs.region ?_
    refine WR.seg hE 3 [] [0, 2, 13, 14, 15] (Lo := [(0, .pointer (some ⟨p_a_, 0, none⟩)), (2, .int .i64 s), (13, .pointer (some ⟨p_a_, 0, none⟩)), (14, .pointer (some ⟨p_a_, 0, none⟩)), (15, .int .i64 r)]) (obs := []) rfl (by kernel_rfl) trivial fun a hE => ?_
    obtain ⟨t_, et_, hm⟩ := bind_some hm
    refine WR.eff hE rfl rfl rfl rfl (OpTo.fn hE rfl rfl Tryz.call56 (trees_List_ok et_ H)) ?_
    rintro _ w ⟨sb, sc, rfl, H⟩ a hE
    refine WR.seg hE 6 [] [13, 16, 17, 18] (Lo := [(13, .pointer (some ⟨p_a_, 0, none⟩)), (16, .slice sb t_.1.length sc), (17, .pointer (some ⟨p_a_, 0, none⟩)), (18, .int .i64 s)]) (obs := []) rfl (by kernel_rfl) trivial fun a hE => ?_
    obtain ⟨t_1, et_1, hm⟩ := bind_some hm
    refine WR.eff hE rfl rfl rfl rfl (OpTo.fn hE rfl rfl Tryz.call56 (trees_List_ok et_1 H.t1)) ?_
    rintro _ w ⟨sb1, sc1, rfl, H⟩ a hE
    obtain ⟨l, el, hm⟩ := bind_some hm
    replace H := H.t2
    refine WR.eff hE rfl rfl rfl rfl (OpTo.appendM el hE H ecI_ok rfl rfl rfl rfl rfl rfl rfl rfl rfl rfl (SlRd.all (sl_rd 3 ecI 1 _ _ _) ecI_ok H 1 rfl) rfl) ?_
    rintro _ w ⟨sb2, sc2, rfl, H⟩ a hE
    obtain ⟨t_2, et_2, hm⟩ := bind_some hm
    replace H := H.t2
    refine WR.eff hE rfl rfl rfl rfl (OpTo.fn hE rfl rfl Tryz.call55 (trees_Carry_ok (hX_l := (sl_rd 3 ecI 1 _ _ _)) (hC_l := (H.slCap 1 rfl).1) et_2 H)) ?_
    rintro _ w ⟨rfl, H⟩ a hE
    refine WR.seg hE 10 [] [6] (Lo := [(6, .int .i64 t_2.1)]) (obs := []) rfl (by kernel_rfl) trivial fun a hE => ?_
    refine WR.done rfl ?_
    refine Runs.ret hE Tryz.func98 rfl rfl ?_
    cases hm
    exact ⟨rfl, H.x2.x1⟩

theorem chain_Join_ok {w0 w : World} {As : List HP} {p_a_ : Nat} {al_a_ : arena_Arena.A} {a_ : arena_Arena} {c_ : Int} {d : Int} {t : arena_Arena}  (hm : chain_Join a_ c_ d = some t) (H : St w0 (arena_Arena.R p_a_ al_a_ a_ :: As) w) :
    CallsR Tryz.prog 146 #[.pointer (some ⟨p_a_, 0, none⟩), .int .i64 c_, .int .i64 d] w fun v w' => v = .tuple #[] ∧ St w0 (arena_Arena.R p_a_ al_a_ t :: As) w' := by
  rw [chain_Join] at hm
  refine enter (args := [.pointer (some ⟨p_a_, 0, none⟩), .int .i64 c_, .int .i64 d]) Tryz.func146 rfl rfl rfl fun a hE => ?_
  refine Runs.seq ?_
  refine Runs.seq ?_
  refine Runs.region ?_
  refine WR.seg hE 2 [] [0, 1, 2, 9] (Lo := [(0, .pointer (some ⟨p_a_, 0, none⟩)), (1, .int .i64 c_), (2, .int .i64 d), (9, .bool false)]) (obs := []) rfl (by kernel_rfl) trivial fun a hE => ?_
  refine WR.done rfl ?_
  refine Runs.condF hE rfl ?_
  refine Runs.skip ?_
  refine Runs.seq ?_
  refine Runs.region ?_
  refine WR.seg hE 2 [] [0, 1, 2, 10, 11] (Lo := [(0, .pointer (some ⟨p_a_, 0, none⟩)), (1, .int .i64 c_), (2, .int .i64 d), (10, .pointer (some ⟨p_a_, 0, none⟩)), (11, .int .i64 c_)]) (obs := []) rfl (by kernel_rfl) trivial fun a hE => ?_
  obtain ⟨t_, et_, hm⟩ := bind_some hm
  refine WR.eff hE rfl rfl rfl rfl (OpTo.fn hE rfl rfl Tryz.call73 (arena_Arena_Cell_ok et_ H)) ?_
  rintro _ w ⟨rfl, H⟩ a hE
  refine WR.seg hE 5 [] [0, 1, 2, 12, 13, 14] (Lo := [(0, .pointer (some ⟨p_a_, 0, none⟩)), (1, .int .i64 c_), (2, .int .i64 d), (12, .int .i64 t_.1), (13, .pointer (some ⟨p_a_, 0, none⟩)), (14, .int .i64 d)]) (obs := []) rfl (by kernel_rfl) trivial fun a hE => ?_
  obtain ⟨t_1, et_1, hm⟩ := bind_some hm
  refine WR.eff hE rfl rfl rfl rfl (OpTo.fn hE rfl rfl Tryz.call73 (arena_Arena_Cell_ok et_1 H)) ?_
  rintro _ w ⟨rfl, H⟩ a hE
  refine WR.seg hE 8 [] [0, 1, 2, 6, 7] (Lo := [(0, .pointer (some ⟨p_a_, 0, none⟩)), (1, .int .i64 c_), (2, .int .i64 d), (6, .int .i64 t_.1), (7, .int .i64 t_1.1)]) (obs := []) rfl (by kernel_rfl) trivial fun a hE => ?_
  refine WR.done rfl ?_
  refine Runs.seq ?_
  refine Runs.region ?_
  refine WR.seg hE 3 [] [0, 6, 7, 16, 17, 18] (Lo := [(0, .pointer (some ⟨p_a_, 0, none⟩)), (6, .int .i64 t_.1), (7, .int .i64 t_1.1), (16, .pointer (some ⟨p_a_, 0, none⟩)), (17, .int .i64 c_), (18, .int .i64 d)]) (obs := []) rfl (by kernel_rfl) trivial fun a hE => ?_
  obtain ⟨t_2, et_2, hm⟩ := bind_some hm
  refine WR.eff hE rfl rfl rfl rfl (OpTo.fn hE rfl rfl Tryz.call163 (chain_link_ok et_2 H)) ?_
  rintro _ w ⟨rfl, hf, H⟩ a hE
  refine WR.done rfl ?_
  refine Runs.region ?_
  refine WR.seg hE 3 [] [20, 21, 22] (Lo := [(20, .pointer (some ⟨p_a_, 0, none⟩)), (21, .int .i64 t_1.1), (22, .int .i64 t_.1)]) (obs := []) rfl (by kernel_rfl) trivial fun a hE => ?_
  obtain ⟨t_3, et_3, hm⟩ := bind_some hm
  refine WR.eff hE rfl rfl rfl rfl (OpTo.fn hE rfl rfl Tryz.call163 (chain_link_ok et_3 H)) ?_
  rintro _ w ⟨rfl, hf1, H⟩ a hE
  refine WR.done rfl ?_
  refine Runs.fin hE Tryz.func146 rfl rfl ?_
  cases hm
  exact ⟨rfl, H⟩

theorem fib_Meld_ok {w0 w : World} {As : List HP} {k : Nat} {p_a_ : Nat} {al_a_ : arena_Arena.A} {a_ : arena_Arena} {r : Int} {s : Int} {t : Int × arena_Arena}  (hm : fib_Meld k a_ r s = some t) (H : St w0 (arena_Arena.R p_a_ al_a_ a_ :: As) w) :
    CallsR Tryz.prog 99 #[.pointer (some ⟨p_a_, 0, none⟩), .int .i64 r, .int .i64 s] w fun v w' => v = .int .i64 t.1 ∧ St w0 (arena_Arena.R p_a_ al_a_ t.2 :: As) w' := by
  rw [fib_Meld] at hm
  refine enter (args := [.pointer (some ⟨p_a_, 0, none⟩), .int .i64 r, .int .i64 s]) Tryz.func99 rfl rfl rfl fun a hE => ?_
  refine Runs.seq ?_
  refine Runs.region ?_
  refine WR.seg hE 1 [] [0, 1, 2] (Lo := [(0, .pointer (some ⟨p_a_, 0, none⟩)), (1, .int .i64 r), (2, .int .i64 s)]) (obs := []) rfl (by kernel_rfl) trivial fun a hE => ?_
  refine WR.done rfl ?_
  refine Runs.seq ?_
  refine Runs.block ?_
  refine Runs.seq ?_
  refine Runs.region ?_
  refine WR.seg hE 3 [] [0, 1, 2, 7] (Lo := [(0, .pointer (some ⟨p_a_, 0, none⟩)), (1, .int .i64 r), (2, .int .i64 s), (7, .bool false)]) (obs := []) rfl (by kernel_rfl) trivial fun a hE => ?_
  refine WR.done rfl ?_
  refine Runs.condF hE rfl ?_
  refine Runs.seq ?_
  refine Runs.region ?_
  refine WR.seg hE 3 [] [0, 1, 2, 10] (Lo := [(0, .pointer (some ⟨p_a_, 0, none⟩)), (1, .int .i64 r), (2, .int .i64 s), (10, .bool (r == (-1)))]) (obs := []) rfl (by kernel_rfl) trivial fun a hE => ?_
  refine WR.done rfl ?_
  refine Runs.cond hE rfl (fun c => ?_) (fun c => ?_)
  · replace hm := cond_t c hm
    refine Runs.seq ?_
    refine Runs.region ?_
    refine WR.seg hE 2 [] [6] (Lo := [(6, .int .i64 s)]) (obs := []) rfl (by kernel_rfl) trivial fun a hE => ?_
    refine WR.done rfl ?_
    refine Runs.ret hE Tryz.func99 rfl rfl ?_
    cases hm
    exact ⟨rfl, H⟩
  · replace hm := cond_f c hm
    refine Runs.seq ?_
    refine Runs.join (fun a w => EnvOk 31 a [(0, .pointer (some ⟨p_a_, 0, none⟩)), (1, .int .i64 r), (2, .int .i64 s), (14, .bool ((s == (-1)) || (r == s)))] ∧ St w0 (arena_Arena.R p_a_ al_a_ a_ :: As) w) (fun hk => ?_) ?_
    · clear hm
      refine Runs.region ?_
      refine WR.seg hE 3 [] [0, 1, 2, 17] (Lo := [(0, .pointer (some ⟨p_a_, 0, none⟩)), (1, .int .i64 r), (2, .int .i64 s), (17, .bool (s == (-1)))]) (obs := []) rfl (by kernel_rfl) trivial fun a hE => ?_
      rcases Bool.eq_false_or_eq_true (s == (-1)) with c | c
      · replace hE := hE.dec 17 c (by kernel_rfl)
        have c_ := c
        refine WR.seg hE 8 [] [0, 1, 2, 14] (Lo := [(0, .pointer (some ⟨p_a_, 0, none⟩)), (1, .int .i64 r), (2, .int .i64 s), (14, .bool true)]) (obs := []) rfl (by kernel_rfl) trivial fun a hE => ?_
        refine WR.done rfl ?_
        refine hk _ _ ⟨?_, H⟩
        try rw [c_] at hE
        try rw [c_]
        exact hE.sel [0, 1, 2, 14] (by kernel_rfl)
      · replace hE := hE.dec 17 c (by kernel_rfl)
        have c_1 := c
        refine WR.seg hE 8 [] [0, 1, 2, 14] (Lo := [(0, .pointer (some ⟨p_a_, 0, none⟩)), (1, .int .i64 r), (2, .int .i64 s), (14, .bool (r == s))]) (obs := []) rfl (by kernel_rfl) trivial fun a hE => ?_
        refine WR.done rfl ?_
        refine hk _ _ ⟨?_, H⟩
        try rw [c_1] at hE
        try rw [c_1]
        exact hE.sel [0, 1, 2, 14] (by kernel_rfl)
    rintro a w ⟨hE, H⟩
    refine Runs.cond hE rfl (fun c => ?_) (fun c => ?_)
    · replace hm := cond_t c hm
      refine Runs.seq ?_
      refine Runs.region ?_
      refine WR.seg hE 2 [] [6] (Lo := [(6, .int .i64 r)]) (obs := []) rfl (by kernel_rfl) trivial fun a hE => ?_
      refine WR.done rfl ?_
      refine Runs.ret hE Tryz.func99 rfl rfl ?_
      cases hm
      exact ⟨rfl, H⟩
    · replace hm := cond_f c hm
      refine Runs.skip ?_
      refine Runs.inBlock ?_
      refine Runs.seq ?_
      refine Runs.region ?_
      refine WR.seg hE 3 [] [0, 1, 2, 23, 24, 25] (Lo := [(0, .pointer (some ⟨p_a_, 0, none⟩)), (1, .int .i64 r), (2, .int .i64 s), (23, .pointer (some ⟨p_a_, 0, none⟩)), (24, .int .i64 r), (25, .int .i64 s)]) (obs := []) rfl (by kernel_rfl) trivial fun a hE => ?_
      obtain ⟨t_, et_, hm⟩ := bind_some hm
      refine WR.eff hE rfl rfl rfl rfl (OpTo.fn hE rfl rfl Tryz.call146 (chain_Join_ok et_ H)) ?_
      rintro _ w ⟨rfl, H⟩ a hE
      refine WR.done rfl ?_
      refine Runs.seq ?_
      refine Runs.region ?_
      refine WR.seg hE 3 [] [27, 28, 29] (Lo := [(27, .pointer (some ⟨p_a_, 0, none⟩)), (28, .int .i64 r), (29, .int .i64 s)]) (obs := []) rfl (by kernel_rfl) trivial fun a hE => ?_
      obtain ⟨t_1, et_1, hm⟩ := bind_some hm
      refine WR.eff hE rfl rfl rfl rfl (OpTo.fn hE rfl rfl Tryz.call137 (fib_lesser_ok et_1 H)) ?_
      rintro _ w ⟨rfl, H⟩ a hE
      refine WR.seg hE 5 [] [6] (Lo := [(6, .int .i64 t_1.1)]) (obs := []) rfl (by kernel_rfl) trivial fun a hE => ?_
      refine WR.done rfl ?_
      refine Runs.ret hE Tryz.func99 rfl rfl ?_
      cases hm
      exact ⟨rfl, H⟩

theorem pairing_Meld_ok {w0 w : World} {As : List HP} {k : Nat} {p_a_ : Nat} {al_a_ : arena_Arena.A} {a_ : arena_Arena} {r : Int} {s : Int} {t : Int × arena_Arena}  (hm : pairing_Meld k a_ r s = some t) (H : St w0 (arena_Arena.R p_a_ al_a_ a_ :: As) w) :
    CallsR Tryz.prog 100 #[.pointer (some ⟨p_a_, 0, none⟩), .int .i64 r, .int .i64 s] w fun v w' => v = .int .i64 t.1 ∧ St w0 (arena_Arena.R p_a_ al_a_ t.2 :: As) w' := by
  rw [pairing_Meld] at hm
  refine enter (args := [.pointer (some ⟨p_a_, 0, none⟩), .int .i64 r, .int .i64 s]) Tryz.func100 rfl rfl rfl fun a hE => ?_
  refine Runs.seq ?_
  refine Runs.region ?_
  refine WR.seg hE 1 [] [0, 1, 2] (Lo := [(0, .pointer (some ⟨p_a_, 0, none⟩)), (1, .int .i64 r), (2, .int .i64 s)]) (obs := []) rfl (by kernel_rfl) trivial fun a hE => ?_
  refine WR.done rfl ?_
  refine Runs.seq ?_
  refine Runs.seq ?_
  refine Runs.region ?_
  refine WR.seg hE 2 [] [0, 1, 2, 8] (Lo := [(0, .pointer (some ⟨p_a_, 0, none⟩)), (1, .int .i64 r), (2, .int .i64 s), (8, .bool false)]) (obs := []) rfl (by kernel_rfl) trivial fun a hE => ?_
  refine WR.done rfl ?_
  refine Runs.condF hE rfl ?_
  refine Runs.skip ?_
  refine Runs.seq ?_
  refine Runs.region ?_
  refine WR.seg hE 3 [] [9, 10, 11] (Lo := [(9, .pointer (some ⟨p_a_, 0, none⟩)), (10, .int .i64 r), (11, .int .i64 s)]) (obs := []) rfl (by kernel_rfl) trivial fun a hE => ?_
  obtain ⟨t_, et_, hm⟩ := bind_some hm
  refine WR.eff hE rfl rfl rfl rfl (OpTo.fn hE rfl rfl Tryz.call138 (pairing_link_ok et_ H)) ?_
  rintro _ w ⟨rfl, H⟩ a hE
  refine WR.seg hE 5 [] [6] (Lo := [(6, .int .i64 t_.1)]) (obs := []) rfl (by kernel_rfl) trivial fun a hE => ?_
  refine WR.done rfl ?_
  refine Runs.ret hE Tryz.func100 rfl rfl ?_
  cases hm
  exact ⟨rfl, H⟩

theorem kind_Meld_ok {w0 w : World} {As : List HP} {k : Nat} {k_ : Int} {p_a_ : Nat} {al_a_ : arena_Arena.A} {a_ : arena_Arena} {r : Int} {s : Int} {t : Int × arena_Arena}  (hm : kind_Meld k k_ a_ r s = some t) (H : St w0 (arena_Arena.R p_a_ al_a_ a_ :: As) w) :
    CallsR Tryz.prog 46 #[.int .i64 k_, .pointer (some ⟨p_a_, 0, none⟩), .int .i64 r, .int .i64 s] w fun v w' => v = .int .i64 t.1 ∧ St w0 (arena_Arena.R p_a_ al_a_ t.2 :: As) w' := by
  rw [kind_Meld] at hm
  refine enter (args := [.int .i64 k_, .pointer (some ⟨p_a_, 0, none⟩), .int .i64 r, .int .i64 s]) Tryz.func46 rfl rfl rfl fun a hE => ?_
  refine Runs.seq ?_
  refine Runs.region ?_
  refine WR.seg hE 1 [] [0, 1, 2, 3] (Lo := [(0, .int .i64 k_), (1, .pointer (some ⟨p_a_, 0, none⟩)), (2, .int .i64 r), (3, .int .i64 s)]) (obs := []) rfl (by kernel_rfl) trivial fun a hE => ?_
  refine WR.done rfl ?_
  refine Runs.seq ?_
  refine Runs.seq ?_
  refine Runs.region ?_
  refine WR.seg hE 1 [] [1, 2, 3, 9] (Lo := [(1, .pointer (some ⟨p_a_, 0, none⟩)), (2, .int .i64 r), (3, .int .i64 s), (9, .int .i64 k_)]) (obs := []) rfl (by kernel_rfl) trivial fun a hE => ?_
  refine WR.done rfl ?_
  refine Runs.block ?_
  refine Runs.seq ?_
  refine Runs.region ?_
  refine WR.seg hE 2 [] [1, 2, 3, 9, 10] (Lo := [(1, .pointer (some ⟨p_a_, 0, none⟩)), (2, .int .i64 r), (3, .int .i64 s), (9, .int .i64 k_), (10, .bool (k_ == 1))]) (obs := []) rfl (by kernel_rfl) trivial fun a hE => ?_
  refine WR.done rfl ?_
  refine Runs.cond hE rfl (fun c => ?_) (fun c => ?_)
  · replace hm := cond_t c hm
    refine Runs.seq ?_
    refine Runs.region ?_
    refine WR.seg hE 3 [] [12, 13, 14] (Lo := [(12, .pointer (some ⟨p_a_, 0, none⟩)), (13, .int .i64 r), (14, .int .i64 s)]) (obs := []) rfl (by kernel_rfl) trivial fun a hE => ?_
    obtain ⟨t_, et_, hm⟩ := bind_some hm
    refine WR.eff hE rfl rfl rfl rfl (OpTo.fn hE rfl rfl Tryz.call97 (leftist_Meld_ok et_ H)) ?_
    rintro _ w ⟨rfl, H⟩ a hE
    refine WR.seg hE 5 [] [8] (Lo := [(8, .int .i64 t_.1)]) (obs := []) rfl (by kernel_rfl) trivial fun a hE => ?_
    refine WR.done rfl ?_
    refine Runs.ret hE Tryz.func46 rfl rfl ?_
    cases hm
    exact ⟨rfl, H⟩
  · replace hm := cond_f c hm
    refine Runs.seq ?_
    refine Runs.region ?_
    refine WR.seg hE 2 [] [1, 2, 3, 9, 16] (Lo := [(1, .pointer (some ⟨p_a_, 0, none⟩)), (2, .int .i64 r), (3, .int .i64 s), (9, .int .i64 k_), (16, .bool (k_ == 2))]) (obs := []) rfl (by kernel_rfl) trivial fun a hE => ?_
    refine WR.done rfl ?_
    refine Runs.cond hE rfl (fun c => ?_) (fun c => ?_)
    · replace hm := cond_t c hm
      refine Runs.seq ?_
      refine Runs.region ?_
      refine WR.seg hE 3 [] [18, 19, 20] (Lo := [(18, .pointer (some ⟨p_a_, 0, none⟩)), (19, .int .i64 r), (20, .int .i64 s)]) (obs := []) rfl (by kernel_rfl) trivial fun a hE => ?_
      obtain ⟨t_1, et_1, hm⟩ := bind_some hm
      refine WR.eff hE rfl rfl rfl rfl (OpTo.fn hE rfl rfl Tryz.call70 (binomial_Meld_ok et_1 H)) ?_
      rintro _ w ⟨rfl, H⟩ a hE
      refine WR.seg hE 5 [] [8] (Lo := [(8, .int .i64 t_1.1)]) (obs := []) rfl (by kernel_rfl) trivial fun a hE => ?_
      refine WR.done rfl ?_
      refine Runs.ret hE Tryz.func46 rfl rfl ?_
      cases hm
      exact ⟨rfl, H⟩
    · replace hm := cond_f c hm
      refine Runs.seq ?_
      refine Runs.region ?_
      refine WR.seg hE 2 [] [1, 2, 3, 9, 22] (Lo := [(1, .pointer (some ⟨p_a_, 0, none⟩)), (2, .int .i64 r), (3, .int .i64 s), (9, .int .i64 k_), (22, .bool (k_ == 3))]) (obs := []) rfl (by kernel_rfl) trivial fun a hE => ?_
      refine WR.done rfl ?_
      refine Runs.cond hE rfl (fun c => ?_) (fun c => ?_)
      · replace hm := cond_t c hm
        refine Runs.seq ?_
        refine Runs.region ?_
        refine WR.seg hE 3 [] [24, 25, 26] (Lo := [(24, .pointer (some ⟨p_a_, 0, none⟩)), (25, .int .i64 r), (26, .int .i64 s)]) (obs := []) rfl (by kernel_rfl) trivial fun a hE => ?_
        obtain ⟨t_2, et_2, hm⟩ := bind_some hm
        refine WR.eff hE rfl rfl rfl rfl (OpTo.fn hE rfl rfl Tryz.call98 (skew_Meld_ok et_2 H)) ?_
        rintro _ w ⟨rfl, H⟩ a hE
        refine WR.seg hE 5 [] [8] (Lo := [(8, .int .i64 t_2.1)]) (obs := []) rfl (by kernel_rfl) trivial fun a hE => ?_
        refine WR.done rfl ?_
        refine Runs.ret hE Tryz.func46 rfl rfl ?_
        cases hm
        exact ⟨rfl, H⟩
      · replace hm := cond_f c hm
        refine Runs.seq ?_
        refine Runs.region ?_
        refine WR.seg hE 2 [] [1, 2, 3, 9, 28] (Lo := [(1, .pointer (some ⟨p_a_, 0, none⟩)), (2, .int .i64 r), (3, .int .i64 s), (9, .int .i64 k_), (28, .bool (k_ == 4))]) (obs := []) rfl (by kernel_rfl) trivial fun a hE => ?_
        refine WR.done rfl ?_
        refine Runs.cond hE rfl (fun c => ?_) (fun c => ?_)
        · replace hm := cond_t c hm
          refine Runs.seq ?_
          refine Runs.region ?_
          refine WR.seg hE 3 [] [30, 31, 32] (Lo := [(30, .pointer (some ⟨p_a_, 0, none⟩)), (31, .int .i64 r), (32, .int .i64 s)]) (obs := []) rfl (by kernel_rfl) trivial fun a hE => ?_
          obtain ⟨t_3, et_3, hm⟩ := bind_some hm
          refine WR.eff hE rfl rfl rfl rfl (OpTo.fn hE rfl rfl Tryz.call99 (fib_Meld_ok et_3 H)) ?_
          rintro _ w ⟨rfl, H⟩ a hE
          refine WR.seg hE 5 [] [8] (Lo := [(8, .int .i64 t_3.1)]) (obs := []) rfl (by kernel_rfl) trivial fun a hE => ?_
          refine WR.done rfl ?_
          refine Runs.ret hE Tryz.func46 rfl rfl ?_
          cases hm
          exact ⟨rfl, H⟩
        · replace hm := cond_f c hm
          refine Runs.seq ?_
          refine Runs.region ?_
          refine WR.seg hE 2 [] [1, 2, 3, 34] (Lo := [(1, .pointer (some ⟨p_a_, 0, none⟩)), (2, .int .i64 r), (3, .int .i64 s), (34, .bool (k_ == 5))]) (obs := []) rfl (by kernel_rfl) trivial fun a hE => ?_
          refine WR.done rfl ?_
          refine Runs.cond hE rfl (fun c => ?_) (fun c => ?_)
          · replace hm := cond_t c hm
            refine Runs.seq ?_
            refine Runs.region ?_
            refine WR.seg hE 3 [] [36, 37, 38] (Lo := [(36, .pointer (some ⟨p_a_, 0, none⟩)), (37, .int .i64 r), (38, .int .i64 s)]) (obs := []) rfl (by kernel_rfl) trivial fun a hE => ?_
            obtain ⟨t_4, et_4, hm⟩ := bind_some hm
            refine WR.eff hE rfl rfl rfl rfl (OpTo.fn hE rfl rfl Tryz.call100 (pairing_Meld_ok et_4 H)) ?_
            rintro _ w ⟨rfl, H⟩ a hE
            refine WR.seg hE 5 [] [8] (Lo := [(8, .int .i64 t_4.1)]) (obs := []) rfl (by kernel_rfl) trivial fun a hE => ?_
            refine WR.done rfl ?_
            refine Runs.ret hE Tryz.func46 rfl rfl ?_
            cases hm
            exact ⟨rfl, H⟩
          · replace hm := cond_f c hm
            refine Runs.skip ?_
            refine Runs.inBlock ?_
            refine Runs.seq ?_
            refine Runs.region ?_
            refine WR.seg hE 2 [] [8] (Lo := [(8, .int .i64 r)]) (obs := []) rfl (by kernel_rfl) trivial fun a hE => ?_
            refine WR.done rfl ?_
            refine Runs.ret hE Tryz.func46 rfl rfl ?_
            cases hm
            exact ⟨rfl, H⟩

theorem slices_Clone_int_ok {w0 w : World} {As : List HP} {sb_s : Option Addr} {sc_s : Nat} {s : List Int} {X_s : HP} {t : List Int} (hX_s : SlRd X_s ecI 1 sb_s s) (hC_s : s.length ≤ sc_s) (hm : lClone s = some t) (H : St w0 (X_s :: As) w) :
    CallsR Tryz.prog 181 #[.slice sb_s s.length sc_s] w fun v w' => ∃ (sb0 : Option Addr) (sc0 : Nat), v = .slice sb0 t.length sc0 ∧ St w0 (Sl 3 ecI 1 sb0 sc0 t :: X_s :: As) w' := by
  unfold lClone at hm
  split at hm
  · rename_i hmx
    cases hm
    have he := ecI_ok
    refine enter (args := [.slice sb_s s.length sc_s]) Tryz.func181 rfl rfl rfl fun a hE => ?_
    refine Runs.seq ?_
    refine Runs.region ?_
    refine WR.seg hE 1 [] [0] (Lo := [(0, .slice sb_s s.length sc_s)]) (obs := []) rfl (by kernel_rfl) trivial fun a hE => ?_
    refine WR.done rfl ?_
    refine Runs.seq ?_
    refine Runs.seq ?_
    refine Runs.region ?_
    cases sb_s with
    | none =>
      have hs : s = [] := by
        obtain ⟨h1, _, h⟩ := H.at 0 rfl
        rcases hX_s h1 h with h | ⟨b, off, cs, T, fr, h, _⟩
        · exact h
        · cases h
      subst hs
      refine WR.seg hE 2 [] [4] (Lo := [(4, .bool true)]) (obs := []) rfl (by kernel_rfl) trivial fun a hE => ?_
      refine WR.done rfl ?_
      refine Runs.condT hE rfl ?_
      refine Runs.seq ?_
      refine Runs.region ?_
      refine WR.seg hE 1 [] [2] (Lo := [(2, .slice none 0 0)]) (obs := []) rfl (by kernel_rfl) trivial fun a hE => ?_
      refine WR.done rfl ?_
      refine Runs.ret hE Tryz.func181 rfl rfl ?_
      exact ⟨none, 0, rfl, H.slNil 3 ecI 1⟩
    | some ad =>
      refine WR.seg hE 2 [] [0, 4] (Lo := [(0, .slice (some ad) s.length sc_s), (4, .bool false)]) (obs := []) rfl (by kernel_rfl) trivial fun a hE => ?_
      refine WR.done rfl ?_
      refine Runs.condF hE rfl ?_
      refine Runs.skip ?_
      refine Runs.seq ?_
      refine Runs.region ?_
      refine WR.eff hE rfl rfl rfl rfl (OpTo.buildSl (T := 3) hE H he ([] : List Int) rfl (fun _ => by kernel_rfl) rfl rfl rfl) ?_
      rintro _ w ⟨r, rfl, H⟩ a hE
      refine WR.seg hE 2 [] [5, 6] (Lo := [(5, .slice (some ⟨r, 0, none⟩) ([] : List Int).length 0), (6, .slice (some ad) s.length sc_s)]) (obs := []) rfl (by kernel_rfl) trivial fun a hE => ?_
      have happ : mApp ([] : List Int) s = some s := by unfold mApp; rw [if_pos (by simpa using hmx)]; simp
      refine WR.eff hE rfl rfl rfl rfl (OpTo.appendM happ hE H he rfl rfl rfl rfl rfl rfl rfl rfl rfl rfl (SlRd.all hX_s he H 1 rfl) rfl) ?_
      rintro _ w ⟨sb, sc, rfl, H⟩ a hE
      refine WR.seg hE 4 [] [2] (Lo := [(2, .slice sb s.length sc)]) (obs := []) rfl (by kernel_rfl) trivial fun a hE => ?_
      refine WR.done rfl ?_
      refine Runs.ret hE Tryz.func181 rfl rfl ?_
      exact ⟨sb, sc, rfl, H⟩
  · cases hm

theorem leftist_nodes_f1_ok {w0 w : World} {As : List HP} {n : Int} {r : Nat} {p_a_ : Nat} {al_a_ : arena_Arena.A} {a_ : arena_Arena} {t : (List Int) × arena_Arena}  (hm : leftist_nodes_f1 n a_ = some t) (H : St w0 (Blk r 28 [.pointer (some ⟨p_a_, 0, none⟩)] :: arena_Arena.R p_a_ al_a_ a_ :: As) w) :
    CallsR Tryz.prog 172 #[.int .i64 n, .pointer (some ⟨r, 0, none⟩)] w fun v w' => ∃ (sb0 : Option Addr), ∃ (sc0 : Nat), v = .slice sb0 t.1.length sc0 ∧ St w0 (Sl 3 ecI 1 sb0 sc0 t.1 :: Blk r 28 [.pointer (some ⟨p_a_, 0, none⟩)] :: arena_Arena.R p_a_ al_a_ t.2 :: As) w' := by
  rw [leftist_nodes_f1] at hm
  refine enter (args := [.int .i64 n, .pointer (some ⟨r, 0, none⟩)]) Tryz.func172 rfl rfl rfl fun a hE => ?_
  refine Runs.seq ?_
  refine Runs.region ?_
  refine WR.seg hE 1 [] [0, 1] (Lo := [(0, .int .i64 n), (1, .pointer (some ⟨r, 0, none⟩))]) (obs := []) rfl (by kernel_rfl) trivial fun a hE => ?_
  refine WR.done rfl ?_
  refine Runs.seq ?_
  refine Runs.drawn mixed (by kernel_rfl) ?_
  replace H := H.drew
  refine WQ.seg hE [0, 1, 3, 4] [.pointer (some ⟨p_a_, 0, none⟩), .pointer (some ⟨p_a_, 0, none⟩)] [4, 5, 7, 8] (Lo := [(4, .pointer (some ⟨p_a_, 0, none⟩)), (5, .int .i64 n), (7, .pointer (some ⟨p_a_, 0, none⟩)), (8, .int .i64 n)]) (obs := [.cell ⟨r, 0, none⟩ (.pointer (some ⟨p_a_, 0, none⟩)), .cell ⟨r, 0, none⟩ (.pointer (some ⟨p_a_, 0, none⟩))]) (by kernel_rfl) (by kernel_rfl) ⟨H.cell 0 rfl rfl, H.cell 0 rfl rfl, trivial⟩ fun a hE => ?_
  obtain ⟨t_, et_, hm⟩ := bind_some hm
  refine WQ.eff (j := 2) (obs := [.cell ⟨r, 0, none⟩ (.pointer (some ⟨p_a_, 0, none⟩))]) hE (by kernel_rfl) rfl rfl rfl rfl (by kernel_rfl) (OpTo.fn hE rfl rfl Tryz.call73 (arena_Arena_Cell_ok et_ H.t1)) ?_
  rintro _ w ⟨rfl, H⟩
  refine ⟨⟨H.cell 1 rfl rfl, trivial⟩, fun a hE => ?_⟩
  obtain ⟨t_1, et_1, hm⟩ := bind_some hm
  refine WQ.eff (j := 5) (obs := []) hE (by kernel_rfl) rfl rfl rfl rfl (by kernel_rfl) (OpTo.fn hE rfl rfl Tryz.call73 (arena_Arena_Cell_ok et_1 H)) ?_
  rintro _ w ⟨rfl, H⟩
  refine ⟨trivial, fun a hE => ?_⟩
  refine WQ.eff (j := 6) (obs := []) hE (by kernel_rfl) rfl rfl rfl rfl (by kernel_rfl) (OpTo.buildSl (T := 3) hE H ecI_ok ([t_.1, t_1.1] : List Int) rfl (fun _ => by kernel_rfl) rfl rfl rfl) ?_
  rintro _ w ⟨r1, rfl, H⟩
  refine ⟨trivial, fun a hE => ?_⟩
  refine WQ.seg hE [7] [] [3] (Lo := [(3, .slice (some ⟨r1, 0, none⟩) (([t_.1, t_1.1] : List Int).length) 2)]) (obs := []) (by kernel_rfl) (by kernel_rfl) trivial fun a hE => ?_
  refine WQ.done (by kernel_rfl) ?_
  refine Runs.ret hE Tryz.func172 rfl rfl ?_
  cases hm
  exact ⟨(some ⟨r1, 0, none⟩), 2, rfl, H.t1.t2.t2⟩

theorem node_Below_g172_ok {w0 w : World} {As : List HP} {k : Nat} {p_a_ : Nat} {al_a_ : arena_Arena.A} {a_ : arena_Arena} {sb_first : Option Addr} {sc_first : Nat} {first : List Int} {X_first : HP} {r : Nat} {t : (List Int) × arena_Arena} (hX_first : SlRd X_first ecI 1 sb_first first) (hC_first : first.length ≤ sc_first) (hm : node_Below_g172 k a_ first = some t) (H : St w0 (arena_Arena.R p_a_ al_a_ a_ :: X_first :: Blk r 28 [.pointer (some ⟨p_a_, 0, none⟩)] :: As) w) :
    CallsR Tryz.prog 157 #[.pointer (some ⟨p_a_, 0, none⟩), .slice sb_first first.length sc_first, .func (.func 172) #[] #[.pointer (some ⟨r, 0, none⟩)]] w fun v w' => ∃ (sb0 : Option Addr), ∃ (sc0 : Nat), v = .slice sb0 t.1.length sc0 ∧ St w0 (Sl 3 ecI 1 sb0 sc0 t.1 :: arena_Arena.R p_a_ al_a_ t.2 :: X_first :: Blk r 28 [.pointer (some ⟨p_a_, 0, none⟩)] :: As) w' := by
  rw [node_Below_g172] at hm
  refine enter (args := [.pointer (some ⟨p_a_, 0, none⟩), .slice sb_first first.length sc_first, .func (.func 172) #[] #[.pointer (some ⟨r, 0, none⟩)]]) Tryz.func157 rfl rfl rfl fun a hE => ?_
  refine Runs.seq ?_
  refine Runs.region ?_
  refine WR.seg hE 1 [] [0, 1, 2] (Lo := [(0, .pointer (some ⟨p_a_, 0, none⟩)), (1, .slice sb_first first.length sc_first), (2, .func (.func 172) #[] #[.pointer (some ⟨r, 0, none⟩)])]) (obs := []) rfl (by kernel_rfl) trivial fun a hE => ?_
  refine WR.done rfl ?_
  refine Runs.seq ?_
  refine Runs.region ?_
  refine WR.seg hE 1 [] [0, 1, 2, 11] (Lo := [(0, .pointer (some ⟨p_a_, 0, none⟩)), (1, .slice sb_first first.length sc_first), (2, .func (.func 172) #[] #[.pointer (some ⟨r, 0, none⟩)]), (11, .pointer (some ⟨p_a_, 0, none⟩))]) (obs := []) rfl (by kernel_rfl) trivial fun a hE => ?_
  obtain ⟨t_, et_, hm⟩ := bind_some hm
  refine WR.eff hE rfl rfl rfl rfl (OpTo.fn hE rfl rfl Tryz.call63 (arena_Arena_Cells_ok et_ H)) ?_
  rintro _ w ⟨rfl, H⟩ a hE
  obtain ⟨l, el, hm⟩ := bind_some hm
  refine WR.eff hE rfl rfl rfl rfl (OpTo.make el hE H ecB_ok rfl rfl rfl rfl rfl rfl rfl rfl) ?_
  rintro _ w ⟨r1, rfl, H⟩ a hE
  refine WR.seg hE 4 [] [0, 1, 2, 7] (Lo := [(0, .pointer (some ⟨p_a_, 0, none⟩)), (1, .slice sb_first first.length sc_first), (2, .func (.func 172) #[] #[.pointer (some ⟨r, 0, none⟩)]), (7, .slice (some ⟨r1, 0, none⟩) l.length l.length)]) (obs := []) rfl (by kernel_rfl) trivial fun a hE => ?_
  refine WR.done rfl ?_
  refine Runs.seq ?_
  refine Runs.region ?_
  refine WR.seg hE 1 [] [0, 1, 2, 7, 8] (Lo := [(0, .pointer (some ⟨p_a_, 0, none⟩)), (1, .slice sb_first first.length sc_first), (2, .func (.func 172) #[] #[.pointer (some ⟨r, 0, none⟩)]), (7, .slice (some ⟨r1, 0, none⟩) l.length l.length), (8, .slice none 0 0)]) (obs := []) rfl (by kernel_rfl) trivial fun a hE => ?_
  refine WR.done rfl ?_
  refine Runs.seq ?_
  refine Runs.region ?_
  refine WR.seg hE 1 [] [0, 2, 7, 8, 14] (Lo := [(0, .pointer (some ⟨p_a_, 0, none⟩)), (2, .func (.func 172) #[] #[.pointer (some ⟨r, 0, none⟩)]), (7, .slice (some ⟨r1, 0, none⟩) l.length l.length), (8, .slice none 0 0), (14, .slice sb_first first.length sc_first)]) (obs := []) rfl (by kernel_rfl) trivial fun a hE => ?_
  obtain ⟨t_1, et_1, hm⟩ := bind_some hm
  replace H := H.t2
  refine WR.eff hE rfl rfl rfl rfl (OpTo.fn hE rfl rfl Tryz.call181 (slices_Clone_int_ok (hX_s := hX_first) (hC_s := hC_first) et_1 H)) ?_
  rintro _ w ⟨sb, sc, rfl, H⟩ a hE
  refine WR.seg hE 3 [] [0, 2, 7, 8, 9] (Lo := [(0, .pointer (some ⟨p_a_, 0, none⟩)), (2, .func (.func 172) #[] #[.pointer (some ⟨r, 0, none⟩)]), (7, .slice (some ⟨r1, 0, none⟩) l.length l.length), (8, .slice none 0 0), (9, .slice sb t_1.length sc)]) (obs := []) rfl (by kernel_rfl) trivial fun a hE => ?_
  refine WR.done rfl ?_
  refine Runs.seq ?_
  obtain ⟨s, es, hm⟩ := bind_some hm
  refine Runs.join (fun a w => ∃ (sb3 : Option Addr), ∃ (sc3 : Nat), EnvOk 53 a [(8, .slice sb3 s.1.length sc3)] ∧ St w0 (Sl 3 ecI 1 sb3 sc3 s.1 :: X_first :: arena_Arena.R p_a_ al_a_ s.2 :: Blk r 28 [.pointer (some ⟨p_a_, 0, none⟩)] :: As) w) (fun hk => ?_) ?_
  · replace hm := es; clear es
    replace H := H.slNil 3 ecI 1
    refine Runs.block ?_
    refine Runs.loop (fun m a w => ∃ (out : List Int), ∃ (wait : List Int), ∃ (m_ : List Bool), ∃ (m_1 : arena_Arena), ∃ (sb4 : Option Addr), ∃ (sc4 : Nat), ∃ (sb5 : Option Addr), ∃ (sc5 : Nat), EnvOk 53 a [(0, .pointer (some ⟨p_a_, 0, none⟩)), (2, .func (.func 172) #[] #[.pointer (some ⟨r, 0, none⟩)]), (7, .slice (some ⟨r1, 0, none⟩) m_.length l.length), (8, .slice sb4 out.length sc4), (9, .slice sb5 wait.length sc5)] ∧ St w0 (Sl 3 ecI 1 sb4 sc4 out :: Sl 3 ecI 1 sb5 sc5 wait :: X_first :: Sl 4 ecB 1 (some ⟨r1, 0, none⟩) l.length m_ :: arena_Arena.R p_a_ al_a_ m_1 :: Blk r 28 [.pointer (some ⟨p_a_, 0, none⟩)] :: As) w ∧ node_Below_g172_l0 first m out wait m_ m_1 = some s) k ⟨([] : List Int), t_1, l, a_, none, 0, sb, sc, hE.sel [0, 2, 7, 8, 9] (by kernel_rfl), H.t5.t5.t5.t5.t5.t5, hm⟩ ?_
    rintro m ih a w ⟨out, wait, m_, m_1, sb4, sc4, sb5, sc5, hE, H, hm⟩
    cases m with
    | zero => simp [node_Below_g172_l0] at hm
    | succ m =>
      rw [node_Below_g172_l0] at hm
      refine Runs.seq ?_
      refine Runs.seq ?_
      refine Runs.region ?_
      refine WR.seg hE 3 [] [0, 2, 7, 8, 9, 18] (Lo := [(0, .pointer (some ⟨p_a_, 0, none⟩)), (2, .func (.func 172) #[] #[.pointer (some ⟨r, 0, none⟩)]), (7, .slice (some ⟨r1, 0, none⟩) m_.length l.length), (8, .slice sb4 out.length sc4), (9, .slice sb5 wait.length sc5), (18, .bool (decide ((wait.length : Int) > 0)))]) (obs := []) rfl (by kernel_rfl) trivial fun a hE => ?_
      refine WR.done rfl ?_
      refine Runs.cond hE rfl (fun c => ?_) (fun c => ?_)
      · replace hm := cond_t c hm
        refine Runs.skip ?_
        refine Runs.block ?_
        refine Runs.seq ?_
        refine Runs.region ?_
        obtain ⟨x, ex, hm⟩ := bind_some hm
        obtain ⟨b, o, hs, hb⟩ := SlRd.base (sl_rd 3 ecI 1 _ _ _) ecI_ok H 1 rfl ex
        refine WR.seg hE 7 [.pointer (some ⟨b, o, none⟩), .int .i64 x] [0, 2, 7, 8, 9, 10] (Lo := [(0, .pointer (some ⟨p_a_, 0, none⟩)), (2, .func (.func 172) #[] #[.pointer (some ⟨r, 0, none⟩)]), (7, .slice (some ⟨r1, 0, none⟩) m_.length l.length), (8, .slice sb4 out.length sc4), (9, .slice sb5 wait.length sc5), (10, .int .i64 x)]) (obs := [.p ((sb5 : Option Addr) = some ⟨b, o, none⟩), .p (0 ≤ ((w64 ((wait.length : Int) - 1)) : Int) ∧ ((w64 ((wait.length : Int) - 1)) : Int) < ((wait.length : Nat) : Int)), .cell ⟨b, o + (Int.toNat (w64 ((wait.length : Int) - 1))) * 1, none⟩ (.int .i64 x)]) rfl (by kernel_rfl) ⟨hs, hb, SlRd.cells (sl_rd 3 ecI 1 _ _ _) ecI_ok H 1 rfl hs ex 0 _ rfl, trivial⟩ fun a hE => ?_
        refine WR.done rfl ?_
        refine Runs.seq ?_
        refine Runs.region ?_
        obtain ⟨l2, el2, hm⟩ := bind_some hm
        obtain ⟨sb6, q⟩ : ∃ z, rebase sb5 sc5 (Int.toNat 0) 1 = z := ⟨_, rfl⟩
        obtain ⟨sc6, q1⟩ : ∃ z, sc5 - (Int.toNat 0) = z := ⟨_, rfl⟩
        refine WR.seg hE 6 [.slice sb6 l2.length sc6] [0, 2, 7, 8, 9, 10] (Lo := [(0, .pointer (some ⟨p_a_, 0, none⟩)), (2, .func (.func 172) #[] #[.pointer (some ⟨r, 0, none⟩)]), (7, .slice (some ⟨r1, 0, none⟩) m_.length l.length), (8, .slice sb4 out.length sc4), (9, .slice sb6 l2.length sc6), (10, .int .i64 x)]) (obs := [.p (rebase sb5 sc5 0 1 = sb6), .p ((Int.toNat (w64 ((wait.length : Int) - 1))) - 0 = l2.length), .p (sc5 - 0 = sc6), .p (0 ≤ ((w64 ((wait.length : Int) - 1)) : Int) ∧ ((w64 ((wait.length : Int) - 1)) : Int) ≤ ((sc5 : Nat) : Int))]) rfl (by kernel_rfl) ⟨q, cut_len el2, q1, cut_cap el2 (H.slCap 1 rfl).1, trivial⟩ fun a hE => ?_
        refine WR.done rfl ?_
        refine Runs.seq ?_
        refine Runs.seq ?_
        obtain ⟨s1, es1, hm⟩ := bind_some hm
        refine Runs.join (fun a w => EnvOk 53 a [(0, .pointer (some ⟨p_a_, 0, none⟩)), (2, .func (.func 172) #[] #[.pointer (some ⟨r, 0, none⟩)]), (7, .slice (some ⟨r1, 0, none⟩) m_.length l.length), (8, .slice sb4 out.length sc4), (9, .slice sb6 l2.length sc6), (10, .int .i64 x), (39, .bool s1)] ∧ St w0 (Sl 3 ecI 1 sb4 sc4 out :: Sl 3 ecI 1 sb5 sc5 wait :: X_first :: Sl 4 ecB 1 (some ⟨r1, 0, none⟩) l.length m_ :: arena_Arena.R p_a_ al_a_ m_1 :: Blk r 28 [.pointer (some ⟨p_a_, 0, none⟩)] :: As) w) (fun hk => ?_) ?_
        · replace hm := es1; clear es1
          refine Runs.region ?_
          refine WR.seg hE 2 [] [0, 2, 7, 8, 9, 10, 30, 31] (Lo := [(0, .pointer (some ⟨p_a_, 0, none⟩)), (2, .func (.func 172) #[] #[.pointer (some ⟨r, 0, none⟩)]), (7, .slice (some ⟨r1, 0, none⟩) m_.length l.length), (8, .slice sb4 out.length sc4), (9, .slice sb6 l2.length sc6), (10, .int .i64 x), (30, .pointer (some ⟨p_a_, 0, none⟩)), (31, .int .i64 x)]) (obs := []) rfl (by kernel_rfl) trivial fun a hE => ?_
          obtain ⟨t_2, et_2, hm⟩ := bind_some hm
          refine WR.eff hE rfl rfl rfl rfl (OpTo.fn hE rfl rfl Tryz.call58 (arena_Arena_Live_ok et_2 H.t4)) ?_
          rintro _ w ⟨rfl, H⟩ a hE
          refine WR.seg hE 5 [] [0, 2, 7, 8, 9, 10, 34] (Lo := [(0, .pointer (some ⟨p_a_, 0, none⟩)), (2, .func (.func 172) #[] #[.pointer (some ⟨r, 0, none⟩)]), (7, .slice (some ⟨r1, 0, none⟩) m_.length l.length), (8, .slice sb4 out.length sc4), (9, .slice sb6 l2.length sc6), (10, .int .i64 x), (34, .bool (!t_2))]) (obs := []) rfl (by kernel_rfl) trivial fun a hE => ?_
          rcases Bool.eq_false_or_eq_true (!t_2) with c | c
          · replace hE := hE.dec 34 c (by kernel_rfl)
            replace hm := cond_t c hm
            have c_ := c
            refine WR.seg hE 10 [] [0, 2, 7, 8, 9, 10, 39] (Lo := [(0, .pointer (some ⟨p_a_, 0, none⟩)), (2, .func (.func 172) #[] #[.pointer (some ⟨r, 0, none⟩)]), (7, .slice (some ⟨r1, 0, none⟩) m_.length l.length), (8, .slice sb4 out.length sc4), (9, .slice sb6 l2.length sc6), (10, .int .i64 x), (39, .bool true)]) (obs := []) rfl (by kernel_rfl) trivial fun a hE => ?_
            refine WR.done rfl ?_
            cases hm
            exact hk _ _ ⟨hE.sel [0, 2, 7, 8, 9, 10, 39] (by kernel_rfl), H.t5.t1.t5.t5.t5.t5⟩
          · replace hE := hE.dec 34 c (by kernel_rfl)
            replace hm := cond_f c hm
            have c_1 := c
            obtain ⟨x1, ex1, hm⟩ := bind_some hm
            obtain ⟨b1, o1, hs1, hb1⟩ := SlRd.base (sl_rd 4 ecB 1 _ _ _) ecB_ok H 4 rfl ex1
            refine WR.seg hE 10 [.pointer (some ⟨b1, o1, none⟩), .bool x1] [0, 2, 7, 8, 9, 10, 39] (Lo := [(0, .pointer (some ⟨p_a_, 0, none⟩)), (2, .func (.func 172) #[] #[.pointer (some ⟨r, 0, none⟩)]), (7, .slice (some ⟨r1, 0, none⟩) m_.length l.length), (8, .slice sb4 out.length sc4), (9, .slice sb6 l2.length sc6), (10, .int .i64 x), (39, .bool x1)]) (obs := [.p (((some ⟨r1, 0, none⟩) : Option Addr) = some ⟨b1, o1, none⟩), .p (0 ≤ (x : Int) ∧ (x : Int) < ((m_.length : Nat) : Int)), .cell ⟨b1, o1 + (Int.toNat x) * 1, none⟩ (.bool x1)]) rfl (by kernel_rfl) ⟨hs1, hb1, SlRd.cells (sl_rd 4 ecB 1 _ _ _) ecB_ok H 4 rfl hs1 ex1 0 _ rfl, trivial⟩ fun a hE => ?_
            refine WR.done rfl ?_
            cases hm
            exact hk _ _ ⟨hE.sel [0, 2, 7, 8, 9, 10, 39] (by kernel_rfl), H.t5.t1.t5.t5.t5.t5⟩
        rintro a w ⟨hE, H⟩
        refine Runs.cond hE rfl (fun c => ?_) (fun c => ?_)
        · replace hm := cond_t c hm
          refine Runs.exit rfl ?_
          replace H := H.t1.slCut' ecI_ok el2 q q1
          exact ih m (Nat.lt_succ_self m) _ _ ⟨out, l2, m_, m_1, sb4, sc4, sb6, sc6, hE.sel [0, 2, 7, 8, 9] (by kernel_rfl), H.t5.t5.t5.t5.t4.t5, hm⟩
        · replace hm := cond_f c hm
          refine Runs.skip ?_
          refine Runs.seq ?_
          refine Runs.region ?_
          obtain ⟨x2, ex2, hm⟩ := bind_some hm
          obtain ⟨b2, o2, hs2, hb2⟩ := SlRd.base (sl_rd 4 ecB 1 _ _ _) ecB_ok H 3 rfl ex2
          refine WR.seg hE 3 [.pointer (some ⟨b2, o2, none⟩)] [0, 2, 7, 8, 9, 10, 42] (Lo := [(0, .pointer (some ⟨p_a_, 0, none⟩)), (2, .func (.func 172) #[] #[.pointer (some ⟨r, 0, none⟩)]), (7, .slice (some ⟨r1, 0, none⟩) m_.length l.length), (8, .slice sb4 out.length sc4), (9, .slice sb6 l2.length sc6), (10, .int .i64 x), (42, .pointer (some ⟨b2, o2 + (Int.toNat x) * 1, none⟩))]) (obs := [.p (((some ⟨r1, 0, none⟩) : Option Addr) = some ⟨b2, o2, none⟩), .p (0 ≤ (x : Int) ∧ (x : Int) < ((m_.length : Nat) : Int))]) rfl (by kernel_rfl) ⟨hs2, hb2, trivial⟩ fun a hE => ?_
          refine WR.eff0 hE rfl rfl rfl (OpTo.storeSl (q := 0) (x' := true) hE H.t3 ecB_ok rfl hs2 ex2 rfl rfl rfl rfl rfl (Nat.le_of_ble_eq_true rfl) rfl) ?_
          rintro _ w H a hE
          try rw [← mSet_len m_ x true] at hE
          refine WR.done rfl ?_
          refine Runs.seq ?_
          refine Runs.region ?_
          refine WR.seg hE 2 [] [0, 2, 7, 8, 9, 10, 43, 44] (Lo := [(0, .pointer (some ⟨p_a_, 0, none⟩)), (2, .func (.func 172) #[] #[.pointer (some ⟨r, 0, none⟩)]), (7, .slice (some ⟨r1, 0, none⟩) ((mSet m_ x true).length) l.length), (8, .slice sb4 out.length sc4), (9, .slice sb6 l2.length sc6), (10, .int .i64 x), (43, .slice sb4 out.length sc4), (44, .int .i64 x)]) (obs := []) rfl (by kernel_rfl) trivial fun a hE => ?_
          refine WR.eff hE rfl rfl rfl rfl (OpTo.buildSl (T := 3) hE H ecI_ok ([x] : List Int) rfl (fun _ => by kernel_rfl) rfl rfl rfl) ?_
          rintro _ w ⟨r2, rfl, H⟩ a hE
          obtain ⟨l3, el3, hm⟩ := bind_some hm
          replace H := H.t2
          refine WR.eff hE rfl rfl rfl rfl (OpTo.appendM el3 hE H ecI_ok rfl rfl rfl rfl rfl rfl rfl rfl rfl rfl (SlRd.all (sl_rd 3 ecI 1 _ _ _) ecI_ok H 1 rfl) rfl) ?_
          rintro _ w ⟨sb7, sc7, rfl, H⟩ a hE
          refine WR.seg hE 5 [] [0, 2, 7, 8, 9, 10] (Lo := [(0, .pointer (some ⟨p_a_, 0, none⟩)), (2, .func (.func 172) #[] #[.pointer (some ⟨r, 0, none⟩)]), (7, .slice (some ⟨r1, 0, none⟩) ((mSet m_ x true).length) l.length), (8, .slice sb7 l3.length sc7), (9, .slice sb6 l2.length sc6), (10, .int .i64 x)]) (obs := []) rfl (by kernel_rfl) trivial fun a hE => ?_
          refine WR.done rfl ?_
          refine Runs.region ?_
          refine WR.seg hE 3 [] [0, 2, 7, 8, 9, 47, 48, 49] (Lo := [(0, .pointer (some ⟨p_a_, 0, none⟩)), (2, .func (.func 172) #[] #[.pointer (some ⟨r, 0, none⟩)]), (7, .slice (some ⟨r1, 0, none⟩) ((mSet m_ x true).length) l.length), (8, .slice sb7 l3.length sc7), (9, .slice sb6 l2.length sc6), (47, .slice sb6 l2.length sc6), (48, .func (.func 172) #[] #[.pointer (some ⟨r, 0, none⟩)]), (49, .int .i64 x)]) (obs := []) rfl (by kernel_rfl) trivial fun a hE => ?_
          obtain ⟨t_3, et_3, hm⟩ := bind_some hm
          refine WR.eff hE rfl rfl rfl rfl (OpTo.fv hE rfl rfl rfl Tryz.call172 (leftist_nodes_f1_ok et_3 H.t5.t6)) ?_
          rintro _ w ⟨sb8, sc8, rfl, H⟩ a hE
          replace H := H.t6.slCut' ecI_ok el2 q q1
          obtain ⟨l4, el4, hm⟩ := bind_some hm
          refine WR.eff hE rfl rfl rfl rfl (OpTo.appendM el4 hE H ecI_ok rfl rfl rfl rfl rfl rfl rfl rfl rfl rfl (SlRd.all (sl_rd 3 ecI 1 _ _ _) ecI_ok H 1 rfl) rfl) ?_
          rintro _ w ⟨sb9, sc9, rfl, H⟩ a hE
          refine WR.seg hE 6 [] [0, 2, 7, 8, 9] (Lo := [(0, .pointer (some ⟨p_a_, 0, none⟩)), (2, .func (.func 172) #[] #[.pointer (some ⟨r, 0, none⟩)]), (7, .slice (some ⟨r1, 0, none⟩) ((mSet m_ x true).length) l.length), (8, .slice sb7 l3.length sc7), (9, .slice sb9 l4.length sc9)]) (obs := []) rfl (by kernel_rfl) trivial fun a hE => ?_
          refine WR.done rfl ?_
          refine Runs.inBlock ?_
          exact ih m (Nat.lt_succ_self m) _ _ ⟨l3, l4, mSet m_ x true, t_3.2, sb7, sc7, sb9, sc9, hE.sel [0, 2, 7, 8, 9] (by kernel_rfl), H.x5.x1.t1.t2.t4.t5.t4.t5, hm⟩
      · replace hm := cond_f c hm
        refine Runs.exit rfl ?_
        cases hm
        exact hk _ _ ⟨sb4, sc4, hE.sel [8] (by kernel_rfl), H.x3.x1.t3.t3.t3.t3⟩
  rintro a w ⟨sb3, sc3, hE, H⟩
  refine Runs.seq ?_
  refine Runs.region ?_
  refine WR.seg hE 2 [] [6] (Lo := [(6, .slice sb3 s.1.length sc3)]) (obs := []) rfl (by kernel_rfl) trivial fun a hE => ?_
  refine WR.done rfl ?_
  refine Runs.ret hE Tryz.func157 rfl rfl ?_
  cases hm
  exact ⟨sb3, sc3, rfl, H.t3.t2.t3.t3⟩

theorem leftist_nodes_ok {w0 w : World} {As : List HP} {k : Nat} {p_a_ : Nat} {al_a_ : arena_Arena.A} {a_ : arena_Arena} {r : Int} {t : (List Int) × arena_Arena}  (hm : leftist_nodes k a_ r = some t) (H : St w0 (arena_Arena.R p_a_ al_a_ a_ :: As) w) :
    CallsR Tryz.prog 147 #[.pointer (some ⟨p_a_, 0, none⟩), .int .i64 r] w fun v w' => ∃ (sb0 : Option Addr), ∃ (sc0 : Nat), v = .slice sb0 t.1.length sc0 ∧ St w0 (Sl 3 ecI 1 sb0 sc0 t.1 :: arena_Arena.R p_a_ al_a_ t.2 :: As) w' := by
  rw [leftist_nodes] at hm
  refine enter (args := [.pointer (some ⟨p_a_, 0, none⟩), .int .i64 r]) Tryz.func147 rfl rfl rfl fun a hE => ?_
  refine Runs.seq ?_
  refine Runs.region ?_
  refine WR.eff hE rfl rfl rfl rfl (OpTo.new hE H [] (.cells #[.pointer (some ⟨p_a_, 0, none⟩)] 28 (0, 0)) (fun r => .pointer (some ⟨r, 0, none⟩)) (obs := []) rfl (fun _ => by kernel_rfl) trivial) ?_
  rintro _ w ⟨r1, rfl, H⟩ a hE
  refine WR.seg hE 2 [] [1, 2] (Lo := [(1, .int .i64 r), (2, .pointer (some ⟨r1, 0, none⟩))]) (obs := []) rfl (by kernel_rfl) trivial fun a hE => ?_
  refine WR.done rfl ?_
  refine Runs.seq ?_
  refine Runs.region ?_
  refine WR.seg hE 2 [.pointer (some ⟨p_a_, 0, none⟩)] [2, 5, 6] (Lo := [(2, .pointer (some ⟨r1, 0, none⟩)), (5, .pointer (some ⟨p_a_, 0, none⟩)), (6, .int .i64 r)]) (obs := [.cell ⟨r1, 0, none⟩ (.pointer (some ⟨p_a_, 0, none⟩))]) rfl (by kernel_rfl) ⟨H.cell 0 rfl rfl, trivial⟩ fun a hE => ?_
  refine WR.eff hE rfl rfl rfl rfl (OpTo.buildSl (T := 3) hE H ecI_ok ([r] : List Int) rfl (fun _ => by kernel_rfl) rfl rfl rfl) ?_
  rintro _ w ⟨r2, rfl, H⟩ a hE
  refine WR.seg hE 4 [] [5, 7, 8] (Lo := [(5, .pointer (some ⟨p_a_, 0, none⟩)), (7, .slice (some ⟨r2, 0, none⟩) (([r] : List Int).length) 1), (8, .func (.func 172) #[] #[.pointer (some ⟨r1, 0, none⟩)])]) (obs := []) rfl (by kernel_rfl) trivial fun a hE => ?_
  obtain ⟨t_, et_, hm⟩ := bind_some hm
  replace H := H.t1.t1.t2
  refine WR.eff hE rfl rfl rfl rfl (OpTo.fn hE rfl rfl Tryz.call157 (node_Below_g172_ok (hX_first := (sl_rd 3 ecI 1 _ _ _)) (hC_first := (H.slCap 1 rfl).1) et_ H)) ?_
  rintro _ w ⟨sb, sc, rfl, H⟩ a hE
  refine WR.seg hE 6 [] [4] (Lo := [(4, .slice sb t_.1.length sc)]) (obs := []) rfl (by kernel_rfl) trivial fun a hE => ?_
  refine WR.done rfl ?_
  refine Runs.ret hE Tryz.func147 rfl rfl ?_
  cases hm
  exact ⟨sb, sc, rfl, H.x3.x2.t1.t1⟩

theorem slices_Sort_int_ok {w0 w : World} {As : List HP} {sb_s : Option Addr} {sc_s : Nat} {s t : List Int}  (hm : lSort s = some t) (H : St w0 (Sl 3 ecI 1 sb_s sc_s s :: As) w) :
    CallsR Tryz.prog 156 #[.slice sb_s s.length sc_s] w fun v w' => v = .tuple #[] ∧ t.length = s.length ∧ St w0 (Sl 3 ecI 1 sb_s sc_s t :: As) w' := by
  unfold lSort at hm
  split at hm
  case isFalse => cases hm
  rename_i hmx
  cases hm
  have hl : (iSort s).length = s.length := (iSort_perm s).length_eq
  by_cases hs : s.length = 0
  · have e : s = [] := List.eq_nil_of_length_eq_zero hs
    subst e
    refine Calls.mono (Tryz.slices_Sort_int_none sb_s sc_s w) ?_
    rintro e w' ⟨rfl, rfl⟩
    exact ⟨_, rfl, rfl, hl, H⟩
  · obtain ⟨b, off, rfl, hH, hb, hk⟩ := H.sorted hl (by omega)
    have hc := Tryz.slices_Sort_int b off sc_s s w hH hb (by omega)
    refine Calls.mono hc ?_
    rintro e w' ⟨rfl, n, os, rfl⟩
    refine ⟨_, rfl, rfl, hl, ?_⟩
    rw [iSort_merge]
    exact hk n os

theorem node_Items_ok {w0 w : World} {As : List HP} {k : Nat} {p_a_ : Nat} {al_a_ : arena_Arena.A} {a_ : arena_Arena} {sb_l : Option Addr} {sc_l : Nat} {l : List Int} {X_l : HP} {t : (List Int) × arena_Arena} (hX_l : SlRd X_l ecI 1 sb_l l) (hC_l : l.length ≤ sc_l) (hm : node_Items k a_ l = some t) (H : St w0 (arena_Arena.R p_a_ al_a_ a_ :: X_l :: As) w) :
    CallsR Tryz.prog 127 #[.pointer (some ⟨p_a_, 0, none⟩), .slice sb_l l.length sc_l] w fun v w' => ∃ (sb0 : Option Addr), ∃ (sc0 : Nat), v = .slice sb0 t.1.length sc0 ∧ St w0 (Sl 3 ecI 1 sb0 sc0 t.1 :: arena_Arena.R p_a_ al_a_ t.2 :: X_l :: As) w' := by
  rw [node_Items] at hm
  refine enter (args := [.pointer (some ⟨p_a_, 0, none⟩), .slice sb_l l.length sc_l]) Tryz.func127 rfl rfl rfl fun a hE => ?_
  refine Runs.seq ?_
  refine Runs.region ?_
  refine WR.seg hE 1 [] [0, 1] (Lo := [(0, .pointer (some ⟨p_a_, 0, none⟩)), (1, .slice sb_l l.length sc_l)]) (obs := []) rfl (by kernel_rfl) trivial fun a hE => ?_
  refine WR.done rfl ?_
  refine Runs.seq ?_
  refine Runs.region ?_
  refine WR.seg hE 1 [] [0, 1, 5] (Lo := [(0, .pointer (some ⟨p_a_, 0, none⟩)), (1, .slice sb_l l.length sc_l), (5, .slice none 0 0)]) (obs := []) rfl (by kernel_rfl) trivial fun a hE => ?_
  refine WR.done rfl ?_
  refine Runs.seq ?_
  refine Runs.seq ?_
  refine Runs.region ?_
  refine WR.seg hE 3 [] [0, 5, 9, 10, 11] (Lo := [(0, .pointer (some ⟨p_a_, 0, none⟩)), (5, .slice none 0 0), (9, .slice sb_l l.length sc_l), (10, .int .i64 (l.length : Int)), (11, .int .i64 0)]) (obs := []) rfl (by kernel_rfl) trivial fun a hE => ?_
  refine WR.done rfl ?_
  obtain ⟨s, es, hm⟩ := bind_some hm
  refine Runs.join (fun a w => ∃ (sb1 : Option Addr), ∃ (sc1 : Nat), EnvOk 28 a [(5, .slice sb1 s.1.length sc1)] ∧ St w0 (Sl 3 ecI 1 sb1 sc1 s.1 :: arena_Arena.R p_a_ al_a_ s.2 :: X_l :: As) w) (fun hk => ?_) ?_
  · replace hm := es; clear es
    replace H := H.slNil 3 ecI 1
    refine Runs.block ?_
    refine Runs.loop (fun m a w => ∃ (out : List Int), ∃ (x : Int), ∃ (m_ : arena_Arena), ∃ (sb2 : Option Addr), ∃ (sc2 : Nat), EnvOk 28 a [(0, .pointer (some ⟨p_a_, 0, none⟩)), (5, .slice sb2 out.length sc2), (9, .slice sb_l l.length sc_l), (10, .int .i64 (l.length : Int)), (11, .int .i64 x)] ∧ St w0 (Sl 3 ecI 1 sb2 sc2 out :: arena_Arena.R p_a_ al_a_ m_ :: X_l :: As) w ∧ node_Items_l0 (l.length : Int) l m out x m_ = some s) k ⟨([] : List Int), 0, a_, none, 0, hE.sel [0, 5, 9, 10, 11] (by kernel_rfl), H.t2.t2.t2, hm⟩ ?_
    rintro m ih a w ⟨out, x, m_, sb2, sc2, hE, H, hm⟩
    cases m with
    | zero => simp [node_Items_l0] at hm
    | succ m =>
      rw [node_Items_l0] at hm
      refine Runs.seq ?_
      refine Runs.region ?_
      refine WR.seg hE 1 [] [0, 5, 9, 10, 11, 12] (Lo := [(0, .pointer (some ⟨p_a_, 0, none⟩)), (5, .slice sb2 out.length sc2), (9, .slice sb_l l.length sc_l), (10, .int .i64 (l.length : Int)), (11, .int .i64 x), (12, .bool (decide (x < (l.length : Int))))]) (obs := []) rfl (by kernel_rfl) trivial fun a hE => ?_
      refine WR.done rfl ?_
      refine Runs.seq ?_
      refine Runs.cond hE rfl (fun c => ?_) (fun c => ?_)
      · replace hm := cond_t c hm
        refine Runs.skip ?_
        refine Runs.seq ?_
        obtain ⟨s1, es1, hm⟩ := bind_some hm
        refine Runs.join (fun a w => ∃ (sb3 : Option Addr), ∃ (sc3 : Nat), EnvOk 28 a [(0, .pointer (some ⟨p_a_, 0, none⟩)), (5, .slice sb3 s1.1.length sc3), (9, .slice sb_l l.length sc_l), (10, .int .i64 (l.length : Int)), (11, .int .i64 x)] ∧ St w0 (Sl 3 ecI 1 sb3 sc3 s1.1 :: arena_Arena.R p_a_ al_a_ s1.2 :: X_l :: As) w) (fun hk => ?_) ?_
        · replace hm := es1; clear es1
          refine Runs.block ?_
          refine Runs.seq ?_
          refine Runs.region ?_
          obtain ⟨x2, ex2, hm⟩ := bind_some hm
          obtain ⟨b, o, hs, hb⟩ := SlRd.base hX_l ecI_ok H 2 rfl ex2
          refine WR.seg hE 3 [.pointer (some ⟨b, o, none⟩), .int .i64 x2] [0, 5, 7, 9, 10, 11] (Lo := [(0, .pointer (some ⟨p_a_, 0, none⟩)), (5, .slice sb2 out.length sc2), (7, .int .i64 x2), (9, .slice sb_l l.length sc_l), (10, .int .i64 (l.length : Int)), (11, .int .i64 x)]) (obs := [.p ((sb_l : Option Addr) = some ⟨b, o, none⟩), .p (0 ≤ (x : Int) ∧ (x : Int) < ((l.length : Nat) : Int)), .cell ⟨b, o + (Int.toNat x) * 1, none⟩ (.int .i64 x2)]) rfl (by kernel_rfl) ⟨hs, hb, SlRd.cells hX_l ecI_ok H 2 rfl hs ex2 0 _ rfl, trivial⟩ fun a hE => ?_
          refine WR.done rfl ?_
          refine Runs.seq ?_
          refine Runs.region ?_
          refine WR.seg hE 2 [] [0, 5, 9, 10, 11, 15, 16] (Lo := [(0, .pointer (some ⟨p_a_, 0, none⟩)), (5, .slice sb2 out.length sc2), (9, .slice sb_l l.length sc_l), (10, .int .i64 (l.length : Int)), (11, .int .i64 x), (15, .pointer (some ⟨p_a_, 0, none⟩)), (16, .int .i64 x2)]) (obs := []) rfl (by kernel_rfl) trivial fun a hE => ?_
          obtain ⟨t_, et_, hm⟩ := bind_some hm
          refine WR.eff hE rfl rfl rfl rfl (OpTo.fn hE rfl rfl Tryz.call73 (arena_Arena_Cell_ok et_ H.t1)) ?_
          rintro _ w ⟨rfl, H⟩ a hE
          refine WR.seg hE 4 [] [0, 5, 8, 9, 10, 11] (Lo := [(0, .pointer (some ⟨p_a_, 0, none⟩)), (5, .slice sb2 out.length sc2), (8, .int .i64 t_.1), (9, .slice sb_l l.length sc_l), (10, .int .i64 (l.length : Int)), (11, .int .i64 x)]) (obs := []) rfl (by kernel_rfl) trivial fun a hE => ?_
          refine WR.done rfl ?_
          refine Runs.seq ?_
          refine Runs.region ?_
          refine WR.seg hE 2 [] [0, 5, 8, 9, 10, 11, 19] (Lo := [(0, .pointer (some ⟨p_a_, 0, none⟩)), (5, .slice sb2 out.length sc2), (8, .int .i64 t_.1), (9, .slice sb_l l.length sc_l), (10, .int .i64 (l.length : Int)), (11, .int .i64 x), (19, .bool (t_.1 != (-1)))]) (obs := []) rfl (by kernel_rfl) trivial fun a hE => ?_
          refine WR.done rfl ?_
          refine Runs.cond hE rfl (fun c => ?_) (fun c => ?_)
          · replace hm := cond_t c hm
            refine Runs.region ?_
            refine WR.seg hE 2 [] [0, 5, 9, 10, 11, 20, 21] (Lo := [(0, .pointer (some ⟨p_a_, 0, none⟩)), (5, .slice sb2 out.length sc2), (9, .slice sb_l l.length sc_l), (10, .int .i64 (l.length : Int)), (11, .int .i64 x), (20, .slice sb2 out.length sc2), (21, .int .i64 t_.1)]) (obs := []) rfl (by kernel_rfl) trivial fun a hE => ?_
            refine WR.eff hE rfl rfl rfl rfl (OpTo.buildSl (T := 3) hE H ecI_ok ([t_.1] : List Int) rfl (fun _ => by kernel_rfl) rfl rfl rfl) ?_
            rintro _ w ⟨r, rfl, H⟩ a hE
            obtain ⟨l2, el2, hm⟩ := bind_some hm
            replace H := H.t2
            refine WR.eff hE rfl rfl rfl rfl (OpTo.appendM el2 hE H ecI_ok rfl rfl rfl rfl rfl rfl rfl rfl rfl rfl (SlRd.all (sl_rd 3 ecI 1 _ _ _) ecI_ok H 1 rfl) rfl) ?_
            rintro _ w ⟨sb4, sc4, rfl, H⟩ a hE
            refine WR.seg hE 5 [] [0, 5, 9, 10, 11] (Lo := [(0, .pointer (some ⟨p_a_, 0, none⟩)), (5, .slice sb4 l2.length sc4), (9, .slice sb_l l.length sc_l), (10, .int .i64 (l.length : Int)), (11, .int .i64 x)]) (obs := []) rfl (by kernel_rfl) trivial fun a hE => ?_
            refine WR.done rfl ?_
            refine Runs.inBlock ?_
            cases hm
            exact hk _ _ ⟨sb4, sc4, hE.sel [0, 5, 9, 10, 11] (by kernel_rfl), H.x1.t2.t2.t2⟩
          · replace hm := cond_f c hm
            refine Runs.skip ?_
            refine Runs.inBlock ?_
            cases hm
            exact hk _ _ ⟨sb2, sc2, hE.sel [0, 5, 9, 10, 11] (by kernel_rfl), H.t2.t1.t2⟩
        rintro a w ⟨sb3, sc3, hE, H⟩
        refine Runs.region ?_
        refine WR.seg hE 2 [] [0, 5, 9, 10, 11] (Lo := [(0, .pointer (some ⟨p_a_, 0, none⟩)), (5, .slice sb3 s1.1.length sc3), (9, .slice sb_l l.length sc_l), (10, .int .i64 (l.length : Int)), (11, .int .i64 (w64 (x + 1)))]) (obs := []) rfl (by kernel_rfl) trivial fun a hE => ?_
        refine WR.done rfl ?_
        exact ih m (Nat.lt_succ_self m) _ _ ⟨s1.1, w64 (x + 1), s1.2, sb3, sc3, hE.sel [0, 5, 9, 10, 11] (by kernel_rfl), H.t2.t2.t2, hm⟩
      · replace hm := cond_f c hm
        refine Runs.exit rfl ?_
        cases hm
        exact hk _ _ ⟨sb2, sc2, hE.sel [5] (by kernel_rfl), H.t2.t2.t2⟩
  rintro a w ⟨sb1, sc1, hE, H⟩
  refine Runs.seq ?_
  refine Runs.region ?_
  refine WR.seg hE 1 [] [5, 25] (Lo := [(5, .slice sb1 s.1.length sc1), (25, .slice sb1 s.1.length sc1)]) (obs := []) rfl (by kernel_rfl) trivial fun a hE => ?_
  obtain ⟨t_1, et_1, hm⟩ := bind_some hm
  refine WR.eff hE rfl rfl rfl rfl (OpTo.fn hE rfl rfl Tryz.call156 (slices_Sort_int_ok et_1 H)) ?_
  rintro _ w ⟨rfl, hl0, H⟩ a hE
  try rw [← hl0] at hE
  refine WR.done rfl ?_
  refine Runs.seq ?_
  refine Runs.region ?_
  refine WR.seg hE 2 [] [4] (Lo := [(4, .slice sb1 t_1.length sc1)]) (obs := []) rfl (by kernel_rfl) trivial fun a hE => ?_
  refine WR.done rfl ?_
  refine Runs.ret hE Tryz.func127 rfl rfl ?_
  cases hm
  exact ⟨sb1, sc1, rfl, H.t2.t2.t2⟩

theorem leftist_All_ok {w0 w : World} {As : List HP} {k : Nat} {p_a_ : Nat} {al_a_ : arena_Arena.A} {a_ : arena_Arena} {r : Int} {t : (List Int) × arena_Arena}  (hm : leftist_All k a_ r = some t) (H : St w0 (arena_Arena.R p_a_ al_a_ a_ :: As) w) :
    CallsR Tryz.prog 101 #[.pointer (some ⟨p_a_, 0, none⟩), .int .i64 r] w fun v w' => ∃ (sb0 : Option Addr), ∃ (sc0 : Nat), v = .slice sb0 t.1.length sc0 ∧ St w0 (Sl 3 ecI 1 sb0 sc0 t.1 :: arena_Arena.R p_a_ al_a_ t.2 :: As) w' := by
  rw [leftist_All] at hm
  refine enter (args := [.pointer (some ⟨p_a_, 0, none⟩), .int .i64 r]) Tryz.func101 rfl rfl rfl fun a hE => ?_
  refine Runs.seq ?_
  refine Runs.region ?_
  refine WR.seg hE 1 [] [0, 1] (Lo := [(0, .pointer (some ⟨p_a_, 0, none⟩)), (1, .int .i64 r)]) (obs := []) rfl (by kernel_rfl) trivial fun a hE => ?_
  refine WR.done rfl ?_
  refine Runs.seq ?_
  refine Runs.seq ?_
  refine Runs.region ?_
  refine WR.seg hE 2 [] [0, 1, 6] (Lo := [(0, .pointer (some ⟨p_a_, 0, none⟩)), (1, .int .i64 r), (6, .bool false)]) (obs := []) rfl (by kernel_rfl) trivial fun a hE => ?_
  refine WR.done rfl ?_
  refine Runs.condF hE rfl ?_
  refine Runs.skip ?_
  refine Runs.seq ?_
  refine Runs.region ?_
  refine WR.seg hE 3 [] [7, 8, 9] (Lo := [(7, .pointer (some ⟨p_a_, 0, none⟩)), (8, .pointer (some ⟨p_a_, 0, none⟩)), (9, .int .i64 r)]) (obs := []) rfl (by kernel_rfl) trivial fun a hE => ?_
  obtain ⟨t_, et_, hm⟩ := bind_some hm
  refine WR.eff hE rfl rfl rfl rfl (OpTo.fn hE rfl rfl Tryz.call147 (leftist_nodes_ok et_ H)) ?_
  rintro _ w ⟨sb, sc, rfl, H⟩ a hE
  obtain ⟨t_1, et_1, hm⟩ := bind_some hm
  replace H := H.t1
  refine WR.eff hE rfl rfl rfl rfl (OpTo.fn hE rfl rfl Tryz.call127 (node_Items_ok (hX_l := (sl_rd 3 ecI 1 _ _ _)) (hC_l := (H.slCap 1 rfl).1) et_1 H)) ?_
  rintro _ w ⟨sb1, sc1, rfl, H⟩ a hE
  refine WR.seg hE 6 [] [4] (Lo := [(4, .slice sb1 t_1.1.length sc1)]) (obs := []) rfl (by kernel_rfl) trivial fun a hE => ?_
  refine WR.done rfl ?_
  refine Runs.ret hE Tryz.func101 rfl rfl ?_
  cases hm
  exact ⟨sb1, sc1, rfl, H.x2.t1.t1⟩

theorem trees_Nodes_f1_ok {w0 w : World} {As : List HP} {k : Nat} {n : Int} {r : Nat} {p_a_ : Nat} {al_a_ : arena_Arena.A} {a_ : arena_Arena} {t : (List Int) × arena_Arena}  (hm : trees_Nodes_f1 k n a_ = some t) (H : St w0 (Blk r 28 [.pointer (some ⟨p_a_, 0, none⟩)] :: arena_Arena.R p_a_ al_a_ a_ :: As) w) :
    CallsR Tryz.prog 158 #[.int .i64 n, .pointer (some ⟨r, 0, none⟩)] w fun v w' => ∃ (sb0 : Option Addr), ∃ (sc0 : Nat), v = .slice sb0 t.1.length sc0 ∧ St w0 (Sl 3 ecI 1 sb0 sc0 t.1 :: Blk r 28 [.pointer (some ⟨p_a_, 0, none⟩)] :: arena_Arena.R p_a_ al_a_ t.2 :: As) w' := by
  rw [trees_Nodes_f1] at hm
  refine enter (args := [.int .i64 n, .pointer (some ⟨r, 0, none⟩)]) Tryz.func158 rfl rfl rfl fun a hE => ?_
  refine Runs.seq ?_
  refine Runs.region ?_
  refine WR.seg hE 1 [] [0, 1] (Lo := [(0, .int .i64 n), (1, .pointer (some ⟨r, 0, none⟩))]) (obs := []) rfl (by kernel_rfl) trivial fun a hE => ?_
  refine WR.done rfl ?_
  refine Runs.seq ?_
  refine Runs.region ?_
  refine WR.seg hE 2 [.pointer (some ⟨p_a_, 0, none⟩)] [4, 5] (Lo := [(4, .pointer (some ⟨p_a_, 0, none⟩)), (5, .int .i64 n)]) (obs := [.cell ⟨r, 0, none⟩ (.pointer (some ⟨p_a_, 0, none⟩))]) rfl (by kernel_rfl) ⟨H.cell 0 rfl rfl, trivial⟩ fun a hE => ?_
  obtain ⟨t_, et_, hm⟩ := bind_some hm
  refine WR.eff hE rfl rfl rfl rfl (OpTo.fn hE rfl rfl Tryz.call122 (trees_Kids_ok et_ H.t1)) ?_
  rintro _ w ⟨sb, sc, rfl, H⟩ a hE
  refine WR.seg hE 4 [] [3] (Lo := [(3, .slice sb t_.1.length sc)]) (obs := []) rfl (by kernel_rfl) trivial fun a hE => ?_
  refine WR.done rfl ?_
  refine Runs.ret hE Tryz.func158 rfl rfl ?_
  cases hm
  exact ⟨sb, sc, rfl, H.t1.t2.t2⟩

theorem node_Below_g158_ok {w0 w : World} {As : List HP} {k : Nat} {p_a_ : Nat} {al_a_ : arena_Arena.A} {a_ : arena_Arena} {sb_first : Option Addr} {sc_first : Nat} {first : List Int} {X_first : HP} {r : Nat} {t : (List Int) × arena_Arena} (hX_first : SlRd X_first ecI 1 sb_first first) (hC_first : first.length ≤ sc_first) (hm : node_Below_g158 k a_ first = some t) (H : St w0 (arena_Arena.R p_a_ al_a_ a_ :: X_first :: Blk r 28 [.pointer (some ⟨p_a_, 0, none⟩)] :: As) w) :
    CallsR Tryz.prog 157 #[.pointer (some ⟨p_a_, 0, none⟩), .slice sb_first first.length sc_first, .func (.func 158) #[] #[.pointer (some ⟨r, 0, none⟩)]] w fun v w' => ∃ (sb0 : Option Addr), ∃ (sc0 : Nat), v = .slice sb0 t.1.length sc0 ∧ St w0 (Sl 3 ecI 1 sb0 sc0 t.1 :: arena_Arena.R p_a_ al_a_ t.2 :: X_first :: Blk r 28 [.pointer (some ⟨p_a_, 0, none⟩)] :: As) w' := by
  rw [node_Below_g158] at hm
  refine enter (args := [.pointer (some ⟨p_a_, 0, none⟩), .slice sb_first first.length sc_first, .func (.func 158) #[] #[.pointer (some ⟨r, 0, none⟩)]]) Tryz.func157 rfl rfl rfl fun a hE => ?_
  refine Runs.seq ?_
  refine Runs.region ?_
  refine WR.seg hE 1 [] [0, 1, 2] (Lo := [(0, .pointer (some ⟨p_a_, 0, none⟩)), (1, .slice sb_first first.length sc_first), (2, .func (.func 158) #[] #[.pointer (some ⟨r, 0, none⟩)])]) (obs := []) rfl (by kernel_rfl) trivial fun a hE => ?_
  refine WR.done rfl ?_
  refine Runs.seq ?_
  refine Runs.region ?_
  refine WR.seg hE 1 [] [0, 1, 2, 11] (Lo := [(0, .pointer (some ⟨p_a_, 0, none⟩)), (1, .slice sb_first first.length sc_first), (2, .func (.func 158) #[] #[.pointer (some ⟨r, 0, none⟩)]), (11, .pointer (some ⟨p_a_, 0, none⟩))]) (obs := []) rfl (by kernel_rfl) trivial fun a hE => ?_
  obtain ⟨t_, et_, hm⟩ := bind_some hm
  refine WR.eff hE rfl rfl rfl rfl (OpTo.fn hE rfl rfl Tryz.call63 (arena_Arena_Cells_ok et_ H)) ?_
  rintro _ w ⟨rfl, H⟩ a hE
  obtain ⟨l, el, hm⟩ := bind_some hm
  refine WR.eff hE rfl rfl rfl rfl (OpTo.make el hE H ecB_ok rfl rfl rfl rfl rfl rfl rfl rfl) ?_
  rintro _ w ⟨r1, rfl, H⟩ a hE
  refine WR.seg hE 4 [] [0, 1, 2, 7] (Lo := [(0, .pointer (some ⟨p_a_, 0, none⟩)), (1, .slice sb_first first.length sc_first), (2, .func (.func 158) #[] #[.pointer (some ⟨r, 0, none⟩)]), (7, .slice (some ⟨r1, 0, none⟩) l.length l.length)]) (obs := []) rfl (by kernel_rfl) trivial fun a hE => ?_
  refine WR.done rfl ?_
  refine Runs.seq ?_
  refine Runs.region ?_
  refine WR.seg hE 1 [] [0, 1, 2, 7, 8] (Lo := [(0, .pointer (some ⟨p_a_, 0, none⟩)), (1, .slice sb_first first.length sc_first), (2, .func (.func 158) #[] #[.pointer (some ⟨r, 0, none⟩)]), (7, .slice (some ⟨r1, 0, none⟩) l.length l.length), (8, .slice none 0 0)]) (obs := []) rfl (by kernel_rfl) trivial fun a hE => ?_
  refine WR.done rfl ?_
  refine Runs.seq ?_
  refine Runs.region ?_
  refine WR.seg hE 1 [] [0, 2, 7, 8, 14] (Lo := [(0, .pointer (some ⟨p_a_, 0, none⟩)), (2, .func (.func 158) #[] #[.pointer (some ⟨r, 0, none⟩)]), (7, .slice (some ⟨r1, 0, none⟩) l.length l.length), (8, .slice none 0 0), (14, .slice sb_first first.length sc_first)]) (obs := []) rfl (by kernel_rfl) trivial fun a hE => ?_
  obtain ⟨t_1, et_1, hm⟩ := bind_some hm
  replace H := H.t2
  refine WR.eff hE rfl rfl rfl rfl (OpTo.fn hE rfl rfl Tryz.call181 (slices_Clone_int_ok (hX_s := hX_first) (hC_s := hC_first) et_1 H)) ?_
  rintro _ w ⟨sb, sc, rfl, H⟩ a hE
  refine WR.seg hE 3 [] [0, 2, 7, 8, 9] (Lo := [(0, .pointer (some ⟨p_a_, 0, none⟩)), (2, .func (.func 158) #[] #[.pointer (some ⟨r, 0, none⟩)]), (7, .slice (some ⟨r1, 0, none⟩) l.length l.length), (8, .slice none 0 0), (9, .slice sb t_1.length sc)]) (obs := []) rfl (by kernel_rfl) trivial fun a hE => ?_
  refine WR.done rfl ?_
  refine Runs.seq ?_
  obtain ⟨s, es, hm⟩ := bind_some hm
  refine Runs.join (fun a w => ∃ (sb3 : Option Addr), ∃ (sc3 : Nat), EnvOk 53 a [(8, .slice sb3 s.1.length sc3)] ∧ St w0 (Sl 3 ecI 1 sb3 sc3 s.1 :: X_first :: arena_Arena.R p_a_ al_a_ s.2 :: Blk r 28 [.pointer (some ⟨p_a_, 0, none⟩)] :: As) w) (fun hk => ?_) ?_
  · replace hm := es; clear es
    replace H := H.slNil 3 ecI 1
    refine Runs.block ?_
    refine Runs.loop (fun m a w => ∃ (out : List Int), ∃ (wait : List Int), ∃ (m_ : List Bool), ∃ (m_1 : arena_Arena), ∃ (sb4 : Option Addr), ∃ (sc4 : Nat), ∃ (sb5 : Option Addr), ∃ (sc5 : Nat), EnvOk 53 a [(0, .pointer (some ⟨p_a_, 0, none⟩)), (2, .func (.func 158) #[] #[.pointer (some ⟨r, 0, none⟩)]), (7, .slice (some ⟨r1, 0, none⟩) m_.length l.length), (8, .slice sb4 out.length sc4), (9, .slice sb5 wait.length sc5)] ∧ St w0 (Sl 3 ecI 1 sb4 sc4 out :: Sl 3 ecI 1 sb5 sc5 wait :: X_first :: Sl 4 ecB 1 (some ⟨r1, 0, none⟩) l.length m_ :: arena_Arena.R p_a_ al_a_ m_1 :: Blk r 28 [.pointer (some ⟨p_a_, 0, none⟩)] :: As) w ∧ node_Below_g158_l0 first m out wait m_ m_1 = some s) k ⟨([] : List Int), t_1, l, a_, none, 0, sb, sc, hE.sel [0, 2, 7, 8, 9] (by kernel_rfl), H.t5.t5.t5.t5.t5.t5, hm⟩ ?_
    rintro m ih a w ⟨out, wait, m_, m_1, sb4, sc4, sb5, sc5, hE, H, hm⟩
    cases m with
    | zero => simp [node_Below_g158_l0] at hm
    | succ m =>
      rw [node_Below_g158_l0] at hm
      refine Runs.seq ?_
      refine Runs.seq ?_
      refine Runs.region ?_
      refine WR.seg hE 3 [] [0, 2, 7, 8, 9, 18] (Lo := [(0, .pointer (some ⟨p_a_, 0, none⟩)), (2, .func (.func 158) #[] #[.pointer (some ⟨r, 0, none⟩)]), (7, .slice (some ⟨r1, 0, none⟩) m_.length l.length), (8, .slice sb4 out.length sc4), (9, .slice sb5 wait.length sc5), (18, .bool (decide ((wait.length : Int) > 0)))]) (obs := []) rfl (by kernel_rfl) trivial fun a hE => ?_
      refine WR.done rfl ?_
      refine Runs.cond hE rfl (fun c => ?_) (fun c => ?_)
      · replace hm := cond_t c hm
        refine Runs.skip ?_
        refine Runs.block ?_
        refine Runs.seq ?_
        refine Runs.region ?_
        obtain ⟨x, ex, hm⟩ := bind_some hm
        obtain ⟨b, o, hs, hb⟩ := SlRd.base (sl_rd 3 ecI 1 _ _ _) ecI_ok H 1 rfl ex
        refine WR.seg hE 7 [.pointer (some ⟨b, o, none⟩), .int .i64 x] [0, 2, 7, 8, 9, 10] (Lo := [(0, .pointer (some ⟨p_a_, 0, none⟩)), (2, .func (.func 158) #[] #[.pointer (some ⟨r, 0, none⟩)]), (7, .slice (some ⟨r1, 0, none⟩) m_.length l.length), (8, .slice sb4 out.length sc4), (9, .slice sb5 wait.length sc5), (10, .int .i64 x)]) (obs := [.p ((sb5 : Option Addr) = some ⟨b, o, none⟩), .p (0 ≤ ((w64 ((wait.length : Int) - 1)) : Int) ∧ ((w64 ((wait.length : Int) - 1)) : Int) < ((wait.length : Nat) : Int)), .cell ⟨b, o + (Int.toNat (w64 ((wait.length : Int) - 1))) * 1, none⟩ (.int .i64 x)]) rfl (by kernel_rfl) ⟨hs, hb, SlRd.cells (sl_rd 3 ecI 1 _ _ _) ecI_ok H 1 rfl hs ex 0 _ rfl, trivial⟩ fun a hE => ?_
        refine WR.done rfl ?_
        refine Runs.seq ?_
        refine Runs.region ?_
        obtain ⟨l2, el2, hm⟩ := bind_some hm
        obtain ⟨sb6, q⟩ : ∃ z, rebase sb5 sc5 (Int.toNat 0) 1 = z := ⟨_, rfl⟩
        obtain ⟨sc6, q1⟩ : ∃ z, sc5 - (Int.toNat 0) = z := ⟨_, rfl⟩
        refine WR.seg hE 6 [.slice sb6 l2.length sc6] [0, 2, 7, 8, 9, 10] (Lo := [(0, .pointer (some ⟨p_a_, 0, none⟩)), (2, .func (.func 158) #[] #[.pointer (some ⟨r, 0, none⟩)]), (7, .slice (some ⟨r1, 0, none⟩) m_.length l.length), (8, .slice sb4 out.length sc4), (9, .slice sb6 l2.length sc6), (10, .int .i64 x)]) (obs := [.p (rebase sb5 sc5 0 1 = sb6), .p ((Int.toNat (w64 ((wait.length : Int) - 1))) - 0 = l2.length), .p (sc5 - 0 = sc6), .p (0 ≤ ((w64 ((wait.length : Int) - 1)) : Int) ∧ ((w64 ((wait.length : Int) - 1)) : Int) ≤ ((sc5 : Nat) : Int))]) rfl (by kernel_rfl) ⟨q, cut_len el2, q1, cut_cap el2 (H.slCap 1 rfl).1, trivial⟩ fun a hE => ?_
        refine WR.done rfl ?_
        refine Runs.seq ?_
        refine Runs.seq ?_
        obtain ⟨s1, es1, hm⟩ := bind_some hm
        refine Runs.join (fun a w => EnvOk 53 a [(0, .pointer (some ⟨p_a_, 0, none⟩)), (2, .func (.func 158) #[] #[.pointer (some ⟨r, 0, none⟩)]), (7, .slice (some ⟨r1, 0, none⟩) m_.length l.length), (8, .slice sb4 out.length sc4), (9, .slice sb6 l2.length sc6), (10, .int .i64 x), (39, .bool s1)] ∧ St w0 (Sl 3 ecI 1 sb4 sc4 out :: Sl 3 ecI 1 sb5 sc5 wait :: X_first :: Sl 4 ecB 1 (some ⟨r1, 0, none⟩) l.length m_ :: arena_Arena.R p_a_ al_a_ m_1 :: Blk r 28 [.pointer (some ⟨p_a_, 0, none⟩)] :: As) w) (fun hk => ?_) ?_
        · replace hm := es1; clear es1
          refine Runs.region ?_
          refine WR.seg hE 2 [] [0, 2, 7, 8, 9, 10, 30, 31] (Lo := [(0, .pointer (some ⟨p_a_, 0, none⟩)), (2, .func (.func 158) #[] #[.pointer (some ⟨r, 0, none⟩)]), (7, .slice (some ⟨r1, 0, none⟩) m_.length l.length), (8, .slice sb4 out.length sc4), (9, .slice sb6 l2.length sc6), (10, .int .i64 x), (30, .pointer (some ⟨p_a_, 0, none⟩)), (31, .int .i64 x)]) (obs := []) rfl (by kernel_rfl) trivial fun a hE => ?_
          obtain ⟨t_2, et_2, hm⟩ := bind_some hm
          refine WR.eff hE rfl rfl rfl rfl (OpTo.fn hE rfl rfl Tryz.call58 (arena_Arena_Live_ok et_2 H.t4)) ?_
          rintro _ w ⟨rfl, H⟩ a hE
          refine WR.seg hE 5 [] [0, 2, 7, 8, 9, 10, 34] (Lo := [(0, .pointer (some ⟨p_a_, 0, none⟩)), (2, .func (.func 158) #[] #[.pointer (some ⟨r, 0, none⟩)]), (7, .slice (some ⟨r1, 0, none⟩) m_.length l.length), (8, .slice sb4 out.length sc4), (9, .slice sb6 l2.length sc6), (10, .int .i64 x), (34, .bool (!t_2))]) (obs := []) rfl (by kernel_rfl) trivial fun a hE => ?_
          rcases Bool.eq_false_or_eq_true (!t_2) with c | c
          · replace hE := hE.dec 34 c (by kernel_rfl)
            replace hm := cond_t c hm
            have c_ := c
            refine WR.seg hE 10 [] [0, 2, 7, 8, 9, 10, 39] (Lo := [(0, .pointer (some ⟨p_a_, 0, none⟩)), (2, .func (.func 158) #[] #[.pointer (some ⟨r, 0, none⟩)]), (7, .slice (some ⟨r1, 0, none⟩) m_.length l.length), (8, .slice sb4 out.length sc4), (9, .slice sb6 l2.length sc6), (10, .int .i64 x), (39, .bool true)]) (obs := []) rfl (by kernel_rfl) trivial fun a hE => ?_
            refine WR.done rfl ?_
            cases hm
            exact hk _ _ ⟨hE.sel [0, 2, 7, 8, 9, 10, 39] (by kernel_rfl), H.t5.t1.t5.t5.t5.t5⟩
          · replace hE := hE.dec 34 c (by kernel_rfl)
            replace hm := cond_f c hm
            have c_1 := c
            obtain ⟨x1, ex1, hm⟩ := bind_some hm
            obtain ⟨b1, o1, hs1, hb1⟩ := SlRd.base (sl_rd 4 ecB 1 _ _ _) ecB_ok H 4 rfl ex1
            refine WR.seg hE 10 [.pointer (some ⟨b1, o1, none⟩), .bool x1] [0, 2, 7, 8, 9, 10, 39] (Lo := [(0, .pointer (some ⟨p_a_, 0, none⟩)), (2, .func (.func 158) #[] #[.pointer (some ⟨r, 0, none⟩)]), (7, .slice (some ⟨r1, 0, none⟩) m_.length l.length), (8, .slice sb4 out.length sc4), (9, .slice sb6 l2.length sc6), (10, .int .i64 x), (39, .bool x1)]) (obs := [.p (((some ⟨r1, 0, none⟩) : Option Addr) = some ⟨b1, o1, none⟩), .p (0 ≤ (x : Int) ∧ (x : Int) < ((m_.length : Nat) : Int)), .cell ⟨b1, o1 + (Int.toNat x) * 1, none⟩ (.bool x1)]) rfl (by kernel_rfl) ⟨hs1, hb1, SlRd.cells (sl_rd 4 ecB 1 _ _ _) ecB_ok H 4 rfl hs1 ex1 0 _ rfl, trivial⟩ fun a hE => ?_
            refine WR.done rfl ?_
            cases hm
            exact hk _ _ ⟨hE.sel [0, 2, 7, 8, 9, 10, 39] (by kernel_rfl), H.t5.t1.t5.t5.t5.t5⟩
        rintro a w ⟨hE, H⟩
        refine Runs.cond hE rfl (fun c => ?_) (fun c => ?_)
        · replace hm := cond_t c hm
          refine Runs.exit rfl ?_
          replace H := H.t1.slCut' ecI_ok el2 q q1
          exact ih m (Nat.lt_succ_self m) _ _ ⟨out, l2, m_, m_1, sb4, sc4, sb6, sc6, hE.sel [0, 2, 7, 8, 9] (by kernel_rfl), H.t5.t5.t5.t5.t4.t5, hm⟩
        · replace hm := cond_f c hm
          refine Runs.skip ?_
          refine Runs.seq ?_
          refine Runs.region ?_
          obtain ⟨x2, ex2, hm⟩ := bind_some hm
          obtain ⟨b2, o2, hs2, hb2⟩ := SlRd.base (sl_rd 4 ecB 1 _ _ _) ecB_ok H 3 rfl ex2
          refine WR.seg hE 3 [.pointer (some ⟨b2, o2, none⟩)] [0, 2, 7, 8, 9, 10, 42] (Lo := [(0, .pointer (some ⟨p_a_, 0, none⟩)), (2, .func (.func 158) #[] #[.pointer (some ⟨r, 0, none⟩)]), (7, .slice (some ⟨r1, 0, none⟩) m_.length l.length), (8, .slice sb4 out.length sc4), (9, .slice sb6 l2.length sc6), (10, .int .i64 x), (42, .pointer (some ⟨b2, o2 + (Int.toNat x) * 1, none⟩))]) (obs := [.p (((some ⟨r1, 0, none⟩) : Option Addr) = some ⟨b2, o2, none⟩), .p (0 ≤ (x : Int) ∧ (x : Int) < ((m_.length : Nat) : Int))]) rfl (by kernel_rfl) ⟨hs2, hb2, trivial⟩ fun a hE => ?_
          refine WR.eff0 hE rfl rfl rfl (OpTo.storeSl (q := 0) (x' := true) hE H.t3 ecB_ok rfl hs2 ex2 rfl rfl rfl rfl rfl (Nat.le_of_ble_eq_true rfl) rfl) ?_
          rintro _ w H a hE
          try rw [← mSet_len m_ x true] at hE
          refine WR.done rfl ?_
          refine Runs.seq ?_
          refine Runs.region ?_
          refine WR.seg hE 2 [] [0, 2, 7, 8, 9, 10, 43, 44] (Lo := [(0, .pointer (some ⟨p_a_, 0, none⟩)), (2, .func (.func 158) #[] #[.pointer (some ⟨r, 0, none⟩)]), (7, .slice (some ⟨r1, 0, none⟩) ((mSet m_ x true).length) l.length), (8, .slice sb4 out.length sc4), (9, .slice sb6 l2.length sc6), (10, .int .i64 x), (43, .slice sb4 out.length sc4), (44, .int .i64 x)]) (obs := []) rfl (by kernel_rfl) trivial fun a hE => ?_
          refine WR.eff hE rfl rfl rfl rfl (OpTo.buildSl (T := 3) hE H ecI_ok ([x] : List Int) rfl (fun _ => by kernel_rfl) rfl rfl rfl) ?_
          rintro _ w ⟨r2, rfl, H⟩ a hE
          obtain ⟨l3, el3, hm⟩ := bind_some hm
          replace H := H.t2
          refine WR.eff hE rfl rfl rfl rfl (OpTo.appendM el3 hE H ecI_ok rfl rfl rfl rfl rfl rfl rfl rfl rfl rfl (SlRd.all (sl_rd 3 ecI 1 _ _ _) ecI_ok H 1 rfl) rfl) ?_
          rintro _ w ⟨sb7, sc7, rfl, H⟩ a hE
          refine WR.seg hE 5 [] [0, 2, 7, 8, 9, 10] (Lo := [(0, .pointer (some ⟨p_a_, 0, none⟩)), (2, .func (.func 158) #[] #[.pointer (some ⟨r, 0, none⟩)]), (7, .slice (some ⟨r1, 0, none⟩) ((mSet m_ x true).length) l.length), (8, .slice sb7 l3.length sc7), (9, .slice sb6 l2.length sc6), (10, .int .i64 x)]) (obs := []) rfl (by kernel_rfl) trivial fun a hE => ?_
          refine WR.done rfl ?_
          refine Runs.region ?_
          refine WR.seg hE 3 [] [0, 2, 7, 8, 9, 47, 48, 49] (Lo := [(0, .pointer (some ⟨p_a_, 0, none⟩)), (2, .func (.func 158) #[] #[.pointer (some ⟨r, 0, none⟩)]), (7, .slice (some ⟨r1, 0, none⟩) ((mSet m_ x true).length) l.length), (8, .slice sb7 l3.length sc7), (9, .slice sb6 l2.length sc6), (47, .slice sb6 l2.length sc6), (48, .func (.func 158) #[] #[.pointer (some ⟨r, 0, none⟩)]), (49, .int .i64 x)]) (obs := []) rfl (by kernel_rfl) trivial fun a hE => ?_
          obtain ⟨t_3, et_3, hm⟩ := bind_some hm
          refine WR.eff hE rfl rfl rfl rfl (OpTo.fv hE rfl rfl rfl Tryz.call158 (trees_Nodes_f1_ok et_3 H.t5.t6)) ?_
          rintro _ w ⟨sb8, sc8, rfl, H⟩ a hE
          replace H := H.t6.slCut' ecI_ok el2 q q1
          obtain ⟨l4, el4, hm⟩ := bind_some hm
          refine WR.eff hE rfl rfl rfl rfl (OpTo.appendM el4 hE H ecI_ok rfl rfl rfl rfl rfl rfl rfl rfl rfl rfl (SlRd.all (sl_rd 3 ecI 1 _ _ _) ecI_ok H 1 rfl) rfl) ?_
          rintro _ w ⟨sb9, sc9, rfl, H⟩ a hE
          refine WR.seg hE 6 [] [0, 2, 7, 8, 9] (Lo := [(0, .pointer (some ⟨p_a_, 0, none⟩)), (2, .func (.func 158) #[] #[.pointer (some ⟨r, 0, none⟩)]), (7, .slice (some ⟨r1, 0, none⟩) ((mSet m_ x true).length) l.length), (8, .slice sb7 l3.length sc7), (9, .slice sb9 l4.length sc9)]) (obs := []) rfl (by kernel_rfl) trivial fun a hE => ?_
          refine WR.done rfl ?_
          refine Runs.inBlock ?_
          exact ih m (Nat.lt_succ_self m) _ _ ⟨l3, l4, mSet m_ x true, t_3.2, sb7, sc7, sb9, sc9, hE.sel [0, 2, 7, 8, 9] (by kernel_rfl), H.x5.x1.t1.t2.t4.t5.t4.t5, hm⟩
      · replace hm := cond_f c hm
        refine Runs.exit rfl ?_
        cases hm
        exact hk _ _ ⟨sb4, sc4, hE.sel [8] (by kernel_rfl), H.x3.x1.t3.t3.t3.t3⟩
  rintro a w ⟨sb3, sc3, hE, H⟩
  refine Runs.seq ?_
  refine Runs.region ?_
  refine WR.seg hE 2 [] [6] (Lo := [(6, .slice sb3 s.1.length sc3)]) (obs := []) rfl (by kernel_rfl) trivial fun a hE => ?_
  refine WR.done rfl ?_
  refine Runs.ret hE Tryz.func157 rfl rfl ?_
  cases hm
  exact ⟨sb3, sc3, rfl, H.t3.t2.t3.t3⟩

theorem trees_Nodes_ok {w0 w : World} {As : List HP} {k : Nat} {p_a_ : Nat} {al_a_ : arena_Arena.A} {a_ : arena_Arena} {r : Int} {t : (List Int) × arena_Arena}  (hm : trees_Nodes k a_ r = some t) (H : St w0 (arena_Arena.R p_a_ al_a_ a_ :: As) w) :
    CallsR Tryz.prog 128 #[.pointer (some ⟨p_a_, 0, none⟩), .int .i64 r] w fun v w' => ∃ (sb0 : Option Addr), ∃ (sc0 : Nat), v = .slice sb0 t.1.length sc0 ∧ St w0 (Sl 3 ecI 1 sb0 sc0 t.1 :: arena_Arena.R p_a_ al_a_ t.2 :: As) w' := by
  rw [trees_Nodes] at hm
  refine enter (args := [.pointer (some ⟨p_a_, 0, none⟩), .int .i64 r]) Tryz.func128 rfl rfl rfl fun a hE => ?_
  refine Runs.seq ?_
  refine Runs.region ?_
  refine WR.eff hE rfl rfl rfl rfl (OpTo.new hE H [] (.cells #[.pointer (some ⟨p_a_, 0, none⟩)] 28 (0, 0)) (fun r => .pointer (some ⟨r, 0, none⟩)) (obs := []) rfl (fun _ => by kernel_rfl) trivial) ?_
  rintro _ w ⟨r1, rfl, H⟩ a hE
  refine WR.seg hE 2 [] [1, 2] (Lo := [(1, .int .i64 r), (2, .pointer (some ⟨r1, 0, none⟩))]) (obs := []) rfl (by kernel_rfl) trivial fun a hE => ?_
  refine WR.done rfl ?_
  refine Runs.seq ?_
  refine Runs.drawn mixed (by kernel_rfl) ?_
  replace H := H.drew
  refine WQ.seg hE [0, 1, 2, 4] [.pointer (some ⟨p_a_, 0, none⟩), .pointer (some ⟨p_a_, 0, none⟩)] [5, 6, 7, 9] (Lo := [(5, .pointer (some ⟨p_a_, 0, none⟩)), (6, .pointer (some ⟨p_a_, 0, none⟩)), (7, .int .i64 r), (9, .func (.func 158) #[] #[.pointer (some ⟨r1, 0, none⟩)])]) (obs := [.cell ⟨r1, 0, none⟩ (.pointer (some ⟨p_a_, 0, none⟩)), .cell ⟨r1, 0, none⟩ (.pointer (some ⟨p_a_, 0, none⟩))]) (by kernel_rfl) (by kernel_rfl) ⟨H.cell 0 rfl rfl, H.cell 0 rfl rfl, trivial⟩ fun a hE => ?_
  obtain ⟨t_, et_, hm⟩ := bind_some hm
  refine WQ.eff (j := 3) (obs := [.cell ⟨r1, 0, none⟩ (.pointer (some ⟨p_a_, 0, none⟩))]) hE (by kernel_rfl) rfl rfl rfl rfl (by kernel_rfl) (OpTo.fn hE rfl rfl Tryz.call56 (trees_List_ok et_ H.t1)) ?_
  rintro _ w ⟨sb, sc, rfl, H⟩
  refine ⟨⟨H.cell 2 rfl rfl, trivial⟩, fun a hE => ?_⟩
  obtain ⟨t_1, et_1, hm⟩ := bind_some hm
  replace H := H.t2.t1.t2
  refine WQ.eff (j := 5) (obs := []) hE (by kernel_rfl) rfl rfl rfl rfl (by kernel_rfl) (OpTo.fn hE rfl rfl Tryz.call157 (node_Below_g158_ok (hX_first := (sl_rd 3 ecI 1 _ _ _)) (hC_first := (H.slCap 1 rfl).1) et_1 H)) ?_
  rintro _ w ⟨sb1, sc1, rfl, H⟩
  refine ⟨trivial, fun a hE => ?_⟩
  refine WQ.seg hE [6] [] [4] (Lo := [(4, .slice sb1 t_1.1.length sc1)]) (obs := []) (by kernel_rfl) (by kernel_rfl) trivial fun a hE => ?_
  refine WQ.done (by kernel_rfl) ?_
  refine Runs.ret hE Tryz.func128 rfl rfl ?_
  cases hm
  exact ⟨sb1, sc1, rfl, H.x3.x2.t1.t1⟩

theorem binomial_All_ok {w0 w : World} {As : List HP} {k : Nat} {p_a_ : Nat} {al_a_ : arena_Arena.A} {a_ : arena_Arena} {r : Int} {t : (List Int) × arena_Arena}  (hm : binomial_All k a_ r = some t) (H : St w0 (arena_Arena.R p_a_ al_a_ a_ :: As) w) :
    CallsR Tryz.prog 67 #[.pointer (some ⟨p_a_, 0, none⟩), .int .i64 r] w fun v w' => ∃ (sb0 : Option Addr), ∃ (sc0 : Nat), v = .slice sb0 t.1.length sc0 ∧ St w0 (Sl 3 ecI 1 sb0 sc0 t.1 :: arena_Arena.R p_a_ al_a_ t.2 :: As) w' := by
  rw [binomial_All] at hm
  refine enter (args := [.pointer (some ⟨p_a_, 0, none⟩), .int .i64 r]) Tryz.func67 rfl rfl rfl fun a hE => ?_
  refine Runs.seq ?_
  refine Runs.region ?_
  refine WR.seg hE 1 [] [0, 1] (Lo := [(0, .pointer (some ⟨p_a_, 0, none⟩)), (1, .int .i64 r)]) (obs := []) rfl (by kernel_rfl) trivial fun a hE => ?_
  refine WR.done rfl ?_
  refine Runs.seq ?_
  refine Runs.seq ?_
  refine Runs.region ?_
  refine WR.seg hE 2 [] [0, 1, 6] (Lo := [(0, .pointer (some ⟨p_a_, 0, none⟩)), (1, .int .i64 r), (6, .bool false)]) (obs := []) rfl (by kernel_rfl) trivial fun a hE => ?_
  refine WR.done rfl ?_
  refine Runs.condF hE rfl ?_
  refine Runs.skip ?_
  refine Runs.seq ?_
  refine Runs.region ?_
  refine WR.seg hE 3 [] [7, 8, 9] (Lo := [(7, .pointer (some ⟨p_a_, 0, none⟩)), (8, .pointer (some ⟨p_a_, 0, none⟩)), (9, .int .i64 r)]) (obs := []) rfl (by kernel_rfl) trivial fun a hE => ?_
  obtain ⟨t_, et_, hm⟩ := bind_some hm
  refine WR.eff hE rfl rfl rfl rfl (OpTo.fn hE rfl rfl Tryz.call128 (trees_Nodes_ok et_ H)) ?_
  rintro _ w ⟨sb, sc, rfl, H⟩ a hE
  obtain ⟨t_1, et_1, hm⟩ := bind_some hm
  replace H := H.t1
  refine WR.eff hE rfl rfl rfl rfl (OpTo.fn hE rfl rfl Tryz.call127 (node_Items_ok (hX_l := (sl_rd 3 ecI 1 _ _ _)) (hC_l := (H.slCap 1 rfl).1) et_1 H)) ?_
  rintro _ w ⟨sb1, sc1, rfl, H⟩ a hE
  refine WR.seg hE 6 [] [4] (Lo := [(4, .slice sb1 t_1.1.length sc1)]) (obs := []) rfl (by kernel_rfl) trivial fun a hE => ?_
  refine WR.done rfl ?_
  refine Runs.ret hE Tryz.func67 rfl rfl ?_
  cases hm
  exact ⟨sb1, sc1, rfl, H.x2.t1.t1⟩

theorem skew_All_ok {w0 w : World} {As : List HP} {k : Nat} {p_a_ : Nat} {al_a_ : arena_Arena.A} {a_ : arena_Arena} {r : Int} {t : (List Int) × arena_Arena}  (hm : skew_All k a_ r = some t) (H : St w0 (arena_Arena.R p_a_ al_a_ a_ :: As) w) :
    CallsR Tryz.prog 102 #[.pointer (some ⟨p_a_, 0, none⟩), .int .i64 r] w fun v w' => ∃ (sb0 : Option Addr), ∃ (sc0 : Nat), v = .slice sb0 t.1.length sc0 ∧ St w0 (Sl 3 ecI 1 sb0 sc0 t.1 :: arena_Arena.R p_a_ al_a_ t.2 :: As) w' := by
  rw [skew_All] at hm
  refine enter (args := [.pointer (some ⟨p_a_, 0, none⟩), .int .i64 r]) Tryz.func102 rfl rfl rfl fun a hE => ?_
  refine Runs.seq ?_
  refine Runs.region ?_
  refine WR.seg hE 1 [] [0, 1] (Lo := [(0, .pointer (some ⟨p_a_, 0, none⟩)), (1, .int .i64 r)]) (obs := []) rfl (by kernel_rfl) trivial fun a hE => ?_
  refine WR.done rfl ?_
  refine Runs.seq ?_
  refine Runs.seq ?_
  refine Runs.region ?_
  refine WR.seg hE 2 [] [0, 1, 6] (Lo := [(0, .pointer (some ⟨p_a_, 0, none⟩)), (1, .int .i64 r), (6, .bool false)]) (obs := []) rfl (by kernel_rfl) trivial fun a hE => ?_
  refine WR.done rfl ?_
  refine Runs.condF hE rfl ?_
  refine Runs.skip ?_
  refine Runs.seq ?_
  refine Runs.region ?_
  refine WR.seg hE 3 [] [7, 8, 9] (Lo := [(7, .pointer (some ⟨p_a_, 0, none⟩)), (8, .pointer (some ⟨p_a_, 0, none⟩)), (9, .int .i64 r)]) (obs := []) rfl (by kernel_rfl) trivial fun a hE => ?_
  obtain ⟨t_, et_, hm⟩ := bind_some hm
  refine WR.eff hE rfl rfl rfl rfl (OpTo.fn hE rfl rfl Tryz.call128 (trees_Nodes_ok et_ H)) ?_
  rintro _ w ⟨sb, sc, rfl, H⟩ a hE
  obtain ⟨t_1, et_1, hm⟩ := bind_some hm
  replace H := H.t1
  refine WR.eff hE rfl rfl rfl rfl (OpTo.fn hE rfl rfl Tryz.call127 (node_Items_ok (hX_l := (sl_rd 3 ecI 1 _ _ _)) (hC_l := (H.slCap 1 rfl).1) et_1 H)) ?_
  rintro _ w ⟨sb1, sc1, rfl, H⟩ a hE
  refine WR.seg hE 6 [] [4] (Lo := [(4, .slice sb1 t_1.1.length sc1)]) (obs := []) rfl (by kernel_rfl) trivial fun a hE => ?_
  refine WR.done rfl ?_
  refine Runs.ret hE Tryz.func102 rfl rfl ?_
  cases hm
  exact ⟨sb1, sc1, rfl, H.x2.t1.t1⟩

theorem fib_nodes_f1_ok {w0 w : World} {As : List HP} {k : Nat} {n : Int} {r : Nat} {p_a_ : Nat} {al_a_ : arena_Arena.A} {a_ : arena_Arena} {t : (List Int) × arena_Arena}  (hm : fib_nodes_f1 k n a_ = some t) (H : St w0 (Blk r 28 [.pointer (some ⟨p_a_, 0, none⟩)] :: arena_Arena.R p_a_ al_a_ a_ :: As) w) :
    CallsR Tryz.prog 173 #[.int .i64 n, .pointer (some ⟨r, 0, none⟩)] w fun v w' => ∃ (sb0 : Option Addr), ∃ (sc0 : Nat), v = .slice sb0 t.1.length sc0 ∧ St w0 (Sl 3 ecI 1 sb0 sc0 t.1 :: Blk r 28 [.pointer (some ⟨p_a_, 0, none⟩)] :: arena_Arena.R p_a_ al_a_ t.2 :: As) w' := by
  rw [fib_nodes_f1] at hm
  refine enter (args := [.int .i64 n, .pointer (some ⟨r, 0, none⟩)]) Tryz.func173 rfl rfl rfl fun a hE => ?_
  refine Runs.seq ?_
  refine Runs.region ?_
  refine WR.seg hE 1 [] [0, 1] (Lo := [(0, .int .i64 n), (1, .pointer (some ⟨r, 0, none⟩))]) (obs := []) rfl (by kernel_rfl) trivial fun a hE => ?_
  refine WR.done rfl ?_
  refine Runs.seq ?_
  refine Runs.drawn mixed (by kernel_rfl) ?_
  replace H := H.drew
  refine WQ.seg hE [0, 1, 2] [.pointer (some ⟨p_a_, 0, none⟩), .pointer (some ⟨p_a_, 0, none⟩)] [4, 5, 6] (Lo := [(4, .pointer (some ⟨p_a_, 0, none⟩)), (5, .pointer (some ⟨p_a_, 0, none⟩)), (6, .int .i64 n)]) (obs := [.cell ⟨r, 0, none⟩ (.pointer (some ⟨p_a_, 0, none⟩)), .cell ⟨r, 0, none⟩ (.pointer (some ⟨p_a_, 0, none⟩))]) (by kernel_rfl) (by kernel_rfl) ⟨H.cell 0 rfl rfl, H.cell 0 rfl rfl, trivial⟩ fun a hE => ?_
  obtain ⟨t_, et_, hm⟩ := bind_some hm
  refine WQ.eff (j := 3) (obs := [.cell ⟨r, 0, none⟩ (.pointer (some ⟨p_a_, 0, none⟩))]) hE (by kernel_rfl) rfl rfl rfl rfl (by kernel_rfl) (OpTo.fn hE rfl rfl Tryz.call73 (arena_Arena_Cell_ok et_ H.t1)) ?_
  rintro _ w ⟨rfl, H⟩
  refine ⟨⟨H.cell 1 rfl rfl, trivial⟩, fun a hE => ?_⟩
  obtain ⟨t_1, et_1, hm⟩ := bind_some hm
  refine WQ.eff (j := 4) (obs := []) hE (by kernel_rfl) rfl rfl rfl rfl (by kernel_rfl) (OpTo.fn hE rfl rfl Tryz.call165 (chain_All_ok et_1 H)) ?_
  rintro _ w ⟨sb, sc, rfl, H⟩
  refine ⟨trivial, fun a hE => ?_⟩
  refine WQ.seg hE [5] [] [3] (Lo := [(3, .slice sb t_1.1.length sc)]) (obs := []) (by kernel_rfl) (by kernel_rfl) trivial fun a hE => ?_
  refine WQ.done (by kernel_rfl) ?_
  refine Runs.ret hE Tryz.func173 rfl rfl ?_
  cases hm
  exact ⟨sb, sc, rfl, H.t1.t2.t2⟩

theorem node_Below_g173_ok {w0 w : World} {As : List HP} {k : Nat} {p_a_ : Nat} {al_a_ : arena_Arena.A} {a_ : arena_Arena} {sb_first : Option Addr} {sc_first : Nat} {first : List Int} {X_first : HP} {r : Nat} {t : (List Int) × arena_Arena} (hX_first : SlRd X_first ecI 1 sb_first first) (hC_first : first.length ≤ sc_first) (hm : node_Below_g173 k a_ first = some t) (H : St w0 (arena_Arena.R p_a_ al_a_ a_ :: X_first :: Blk r 28 [.pointer (some ⟨p_a_, 0, none⟩)] :: As) w) :
    CallsR Tryz.prog 157 #[.pointer (some ⟨p_a_, 0, none⟩), .slice sb_first first.length sc_first, .func (.func 173) #[] #[.pointer (some ⟨r, 0, none⟩)]] w fun v w' => ∃ (sb0 : Option Addr), ∃ (sc0 : Nat), v = .slice sb0 t.1.length sc0 ∧ St w0 (Sl 3 ecI 1 sb0 sc0 t.1 :: arena_Arena.R p_a_ al_a_ t.2 :: X_first :: Blk r 28 [.pointer (some ⟨p_a_, 0, none⟩)] :: As) w' := by
  rw [node_Below_g173] at hm
  refine enter (args := [.pointer (some ⟨p_a_, 0, none⟩), .slice sb_first first.length sc_first, .func (.func 173) #[] #[.pointer (some ⟨r, 0, none⟩)]]) Tryz.func157 rfl rfl rfl fun a hE => ?_
  refine Runs.seq ?_
  refine Runs.region ?_
  refine WR.seg hE 1 [] [0, 1, 2] (Lo := [(0, .pointer (some ⟨p_a_, 0, none⟩)), (1, .slice sb_first first.length sc_first), (2, .func (.func 173) #[] #[.pointer (some ⟨r, 0, none⟩)])]) (obs := []) rfl (by kernel_rfl) trivial fun a hE => ?_
  refine WR.done rfl ?_
  refine Runs.seq ?_
  refine Runs.region ?_
  refine WR.seg hE 1 [] [0, 1, 2, 11] (Lo := [(0, .pointer (some ⟨p_a_, 0, none⟩)), (1, .slice sb_first first.length sc_first), (2, .func (.func 173) #[] #[.pointer (some ⟨r, 0, none⟩)]), (11, .pointer (some ⟨p_a_, 0, none⟩))]) (obs := []) rfl (by kernel_rfl) trivial fun a hE => ?_
  obtain ⟨t_, et_, hm⟩ := bind_some hm
  refine WR.eff hE rfl rfl rfl rfl (OpTo.fn hE rfl rfl Tryz.call63 (arena_Arena_Cells_ok et_ H)) ?_
  rintro _ w ⟨rfl, H⟩ a hE
  obtain ⟨l, el, hm⟩ := bind_some hm
  refine WR.eff hE rfl rfl rfl rfl (OpTo.make el hE H ecB_ok rfl rfl rfl rfl rfl rfl rfl rfl) ?_
  rintro _ w ⟨r1, rfl, H⟩ a hE
  refine WR.seg hE 4 [] [0, 1, 2, 7] (Lo := [(0, .pointer (some ⟨p_a_, 0, none⟩)), (1, .slice sb_first first.length sc_first), (2, .func (.func 173) #[] #[.pointer (some ⟨r, 0, none⟩)]), (7, .slice (some ⟨r1, 0, none⟩) l.length l.length)]) (obs := []) rfl (by kernel_rfl) trivial fun a hE => ?_
  refine WR.done rfl ?_
  refine Runs.seq ?_
  refine Runs.region ?_
  refine WR.seg hE 1 [] [0, 1, 2, 7, 8] (Lo := [(0, .pointer (some ⟨p_a_, 0, none⟩)), (1, .slice sb_first first.length sc_first), (2, .func (.func 173) #[] #[.pointer (some ⟨r, 0, none⟩)]), (7, .slice (some ⟨r1, 0, none⟩) l.length l.length), (8, .slice none 0 0)]) (obs := []) rfl (by kernel_rfl) trivial fun a hE => ?_
  refine WR.done rfl ?_
  refine Runs.seq ?_
  refine Runs.region ?_
  refine WR.seg hE 1 [] [0, 2, 7, 8, 14] (Lo := [(0, .pointer (some ⟨p_a_, 0, none⟩)), (2, .func (.func 173) #[] #[.pointer (some ⟨r, 0, none⟩)]), (7, .slice (some ⟨r1, 0, none⟩) l.length l.length), (8, .slice none 0 0), (14, .slice sb_first first.length sc_first)]) (obs := []) rfl (by kernel_rfl) trivial fun a hE => ?_
  obtain ⟨t_1, et_1, hm⟩ := bind_some hm
  replace H := H.t2
  refine WR.eff hE rfl rfl rfl rfl (OpTo.fn hE rfl rfl Tryz.call181 (slices_Clone_int_ok (hX_s := hX_first) (hC_s := hC_first) et_1 H)) ?_
  rintro _ w ⟨sb, sc, rfl, H⟩ a hE
  refine WR.seg hE 3 [] [0, 2, 7, 8, 9] (Lo := [(0, .pointer (some ⟨p_a_, 0, none⟩)), (2, .func (.func 173) #[] #[.pointer (some ⟨r, 0, none⟩)]), (7, .slice (some ⟨r1, 0, none⟩) l.length l.length), (8, .slice none 0 0), (9, .slice sb t_1.length sc)]) (obs := []) rfl (by kernel_rfl) trivial fun a hE => ?_
  refine WR.done rfl ?_
  refine Runs.seq ?_
  obtain ⟨s, es, hm⟩ := bind_some hm
  refine Runs.join (fun a w => ∃ (sb3 : Option Addr), ∃ (sc3 : Nat), EnvOk 53 a [(8, .slice sb3 s.1.length sc3)] ∧ St w0 (Sl 3 ecI 1 sb3 sc3 s.1 :: X_first :: arena_Arena.R p_a_ al_a_ s.2 :: Blk r 28 [.pointer (some ⟨p_a_, 0, none⟩)] :: As) w) (fun hk => ?_) ?_
  · replace hm := es; clear es
    replace H := H.slNil 3 ecI 1
    refine Runs.block ?_
    refine Runs.loop (fun m a w => ∃ (out : List Int), ∃ (wait : List Int), ∃ (m_ : List Bool), ∃ (m_1 : arena_Arena), ∃ (sb4 : Option Addr), ∃ (sc4 : Nat), ∃ (sb5 : Option Addr), ∃ (sc5 : Nat), EnvOk 53 a [(0, .pointer (some ⟨p_a_, 0, none⟩)), (2, .func (.func 173) #[] #[.pointer (some ⟨r, 0, none⟩)]), (7, .slice (some ⟨r1, 0, none⟩) m_.length l.length), (8, .slice sb4 out.length sc4), (9, .slice sb5 wait.length sc5)] ∧ St w0 (Sl 3 ecI 1 sb4 sc4 out :: Sl 3 ecI 1 sb5 sc5 wait :: X_first :: Sl 4 ecB 1 (some ⟨r1, 0, none⟩) l.length m_ :: arena_Arena.R p_a_ al_a_ m_1 :: Blk r 28 [.pointer (some ⟨p_a_, 0, none⟩)] :: As) w ∧ node_Below_g173_l0 first m out wait m_ m_1 = some s) k ⟨([] : List Int), t_1, l, a_, none, 0, sb, sc, hE.sel [0, 2, 7, 8, 9] (by kernel_rfl), H.t5.t5.t5.t5.t5.t5, hm⟩ ?_
    rintro m ih a w ⟨out, wait, m_, m_1, sb4, sc4, sb5, sc5, hE, H, hm⟩
    cases m with
    | zero => simp [node_Below_g173_l0] at hm
    | succ m =>
      rw [node_Below_g173_l0] at hm
      refine Runs.seq ?_
      refine Runs.seq ?_
      refine Runs.region ?_
      refine WR.seg hE 3 [] [0, 2, 7, 8, 9, 18] (Lo := [(0, .pointer (some ⟨p_a_, 0, none⟩)), (2, .func (.func 173) #[] #[.pointer (some ⟨r, 0, none⟩)]), (7, .slice (some ⟨r1, 0, none⟩) m_.length l.length), (8, .slice sb4 out.length sc4), (9, .slice sb5 wait.length sc5), (18, .bool (decide ((wait.length : Int) > 0)))]) (obs := []) rfl (by kernel_rfl) trivial fun a hE => ?_
      refine WR.done rfl ?_
      refine Runs.cond hE rfl (fun c => ?_) (fun c => ?_)
      · replace hm := cond_t c hm
        refine Runs.skip ?_
        refine Runs.block ?_
        refine Runs.seq ?_
        refine Runs.region ?_
        obtain ⟨x, ex, hm⟩ := bind_some hm
        obtain ⟨b, o, hs, hb⟩ := SlRd.base (sl_rd 3 ecI 1 _ _ _) ecI_ok H 1 rfl ex
        refine WR.seg hE 7 [.pointer (some ⟨b, o, none⟩), .int .i64 x] [0, 2, 7, 8, 9, 10] (Lo := [(0, .pointer (some ⟨p_a_, 0, none⟩)), (2, .func (.func 173) #[] #[.pointer (some ⟨r, 0, none⟩)]), (7, .slice (some ⟨r1, 0, none⟩) m_.length l.length), (8, .slice sb4 out.length sc4), (9, .slice sb5 wait.length sc5), (10, .int .i64 x)]) (obs := [.p ((sb5 : Option Addr) = some ⟨b, o, none⟩), .p (0 ≤ ((w64 ((wait.length : Int) - 1)) : Int) ∧ ((w64 ((wait.length : Int) - 1)) : Int) < ((wait.length : Nat) : Int)), .cell ⟨b, o + (Int.toNat (w64 ((wait.length : Int) - 1))) * 1, none⟩ (.int .i64 x)]) rfl (by kernel_rfl) ⟨hs, hb, SlRd.cells (sl_rd 3 ecI 1 _ _ _) ecI_ok H 1 rfl hs ex 0 _ rfl, trivial⟩ fun a hE => ?_
        refine WR.done rfl ?_
        refine Runs.seq ?_
        refine Runs.region ?_
        obtain ⟨l2, el2, hm⟩ := bind_some hm
        obtain ⟨sb6, q⟩ : ∃ z, rebase sb5 sc5 (Int.toNat 0) 1 = z := ⟨_, rfl⟩
        obtain ⟨sc6, q1⟩ : ∃ z, sc5 - (Int.toNat 0) = z := ⟨_, rfl⟩
        refine WR.seg hE 6 [.slice sb6 l2.length sc6] [0, 2, 7, 8, 9, 10] (Lo := [(0, .pointer (some ⟨p_a_, 0, none⟩)), (2, .func (.func 173) #[] #[.pointer (some ⟨r, 0, none⟩)]), (7, .slice (some ⟨r1, 0, none⟩) m_.length l.length), (8, .slice sb4 out.length sc4), (9, .slice sb6 l2.length sc6), (10, .int .i64 x)]) (obs := [.p (rebase sb5 sc5 0 1 = sb6), .p ((Int.toNat (w64 ((wait.length : Int) - 1))) - 0 = l2.length), .p (sc5 - 0 = sc6), .p (0 ≤ ((w64 ((wait.length : Int) - 1)) : Int) ∧ ((w64 ((wait.length : Int) - 1)) : Int) ≤ ((sc5 : Nat) : Int))]) rfl (by kernel_rfl) ⟨q, cut_len el2, q1, cut_cap el2 (H.slCap 1 rfl).1, trivial⟩ fun a hE => ?_
        refine WR.done rfl ?_
        refine Runs.seq ?_
        refine Runs.seq ?_
        obtain ⟨s1, es1, hm⟩ := bind_some hm
        refine Runs.join (fun a w => EnvOk 53 a [(0, .pointer (some ⟨p_a_, 0, none⟩)), (2, .func (.func 173) #[] #[.pointer (some ⟨r, 0, none⟩)]), (7, .slice (some ⟨r1, 0, none⟩) m_.length l.length), (8, .slice sb4 out.length sc4), (9, .slice sb6 l2.length sc6), (10, .int .i64 x), (39, .bool s1)] ∧ St w0 (Sl 3 ecI 1 sb4 sc4 out :: Sl 3 ecI 1 sb5 sc5 wait :: X_first :: Sl 4 ecB 1 (some ⟨r1, 0, none⟩) l.length m_ :: arena_Arena.R p_a_ al_a_ m_1 :: Blk r 28 [.pointer (some ⟨p_a_, 0, none⟩)] :: As) w) (fun hk => ?_) ?_
        · replace hm := es1; clear es1
          refine Runs.region ?_
          refine WR.seg hE 2 [] [0, 2, 7, 8, 9, 10, 30, 31] (Lo := [(0, .pointer (some ⟨p_a_, 0, none⟩)), (2, .func (.func 173) #[] #[.pointer (some ⟨r, 0, none⟩)]), (7, .slice (some ⟨r1, 0, none⟩) m_.length l.length), (8, .slice sb4 out.length sc4), (9, .slice sb6 l2.length sc6), (10, .int .i64 x), (30, .pointer (some ⟨p_a_, 0, none⟩)), (31, .int .i64 x)]) (obs := []) rfl (by kernel_rfl) trivial fun a hE => ?_
          obtain ⟨t_2, et_2, hm⟩ := bind_some hm
          refine WR.eff hE rfl rfl rfl rfl (OpTo.fn hE rfl rfl Tryz.call58 (arena_Arena_Live_ok et_2 H.t4)) ?_
          rintro _ w ⟨rfl, H⟩ a hE
          refine WR.seg hE 5 [] [0, 2, 7, 8, 9, 10, 34] (Lo := [(0, .pointer (some ⟨p_a_, 0, none⟩)), (2, .func (.func 173) #[] #[.pointer (some ⟨r, 0, none⟩)]), (7, .slice (some ⟨r1, 0, none⟩) m_.length l.length), (8, .slice sb4 out.length sc4), (9, .slice sb6 l2.length sc6), (10, .int .i64 x), (34, .bool (!t_2))]) (obs := []) rfl (by kernel_rfl) trivial fun a hE => ?_
          rcases Bool.eq_false_or_eq_true (!t_2) with c | c
          · replace hE := hE.dec 34 c (by kernel_rfl)
            replace hm := cond_t c hm
            have c_ := c
            refine WR.seg hE 10 [] [0, 2, 7, 8, 9, 10, 39] (Lo := [(0, .pointer (some ⟨p_a_, 0, none⟩)), (2, .func (.func 173) #[] #[.pointer (some ⟨r, 0, none⟩)]), (7, .slice (some ⟨r1, 0, none⟩) m_.length l.length), (8, .slice sb4 out.length sc4), (9, .slice sb6 l2.length sc6), (10, .int .i64 x), (39, .bool true)]) (obs := []) rfl (by kernel_rfl) trivial fun a hE => ?_
            refine WR.done rfl ?_
            cases hm
            exact hk _ _ ⟨hE.sel [0, 2, 7, 8, 9, 10, 39] (by kernel_rfl), H.t5.t1.t5.t5.t5.t5⟩
          · replace hE := hE.dec 34 c (by kernel_rfl)
            replace hm := cond_f c hm
            have c_1 := c
            obtain ⟨x1, ex1, hm⟩ := bind_some hm
            obtain ⟨b1, o1, hs1, hb1⟩ := SlRd.base (sl_rd 4 ecB 1 _ _ _) ecB_ok H 4 rfl ex1
            refine WR.seg hE 10 [.pointer (some ⟨b1, o1, none⟩), .bool x1] [0, 2, 7, 8, 9, 10, 39] (Lo := [(0, .pointer (some ⟨p_a_, 0, none⟩)), (2, .func (.func 173) #[] #[.pointer (some ⟨r, 0, none⟩)]), (7, .slice (some ⟨r1, 0, none⟩) m_.length l.length), (8, .slice sb4 out.length sc4), (9, .slice sb6 l2.length sc6), (10, .int .i64 x), (39, .bool x1)]) (obs := [.p (((some ⟨r1, 0, none⟩) : Option Addr) = some ⟨b1, o1, none⟩), .p (0 ≤ (x : Int) ∧ (x : Int) < ((m_.length : Nat) : Int)), .cell ⟨b1, o1 + (Int.toNat x) * 1, none⟩ (.bool x1)]) rfl (by kernel_rfl) ⟨hs1, hb1, SlRd.cells (sl_rd 4 ecB 1 _ _ _) ecB_ok H 4 rfl hs1 ex1 0 _ rfl, trivial⟩ fun a hE => ?_
            refine WR.done rfl ?_
            cases hm
            exact hk _ _ ⟨hE.sel [0, 2, 7, 8, 9, 10, 39] (by kernel_rfl), H.t5.t1.t5.t5.t5.t5⟩
        rintro a w ⟨hE, H⟩
        refine Runs.cond hE rfl (fun c => ?_) (fun c => ?_)
        · replace hm := cond_t c hm
          refine Runs.exit rfl ?_
          replace H := H.t1.slCut' ecI_ok el2 q q1
          exact ih m (Nat.lt_succ_self m) _ _ ⟨out, l2, m_, m_1, sb4, sc4, sb6, sc6, hE.sel [0, 2, 7, 8, 9] (by kernel_rfl), H.t5.t5.t5.t5.t4.t5, hm⟩
        · replace hm := cond_f c hm
          refine Runs.skip ?_
          refine Runs.seq ?_
          refine Runs.region ?_
          obtain ⟨x2, ex2, hm⟩ := bind_some hm
          obtain ⟨b2, o2, hs2, hb2⟩ := SlRd.base (sl_rd 4 ecB 1 _ _ _) ecB_ok H 3 rfl ex2
          refine WR.seg hE 3 [.pointer (some ⟨b2, o2, none⟩)] [0, 2, 7, 8, 9, 10, 42] (Lo := [(0, .pointer (some ⟨p_a_, 0, none⟩)), (2, .func (.func 173) #[] #[.pointer (some ⟨r, 0, none⟩)]), (7, .slice (some ⟨r1, 0, none⟩) m_.length l.length), (8, .slice sb4 out.length sc4), (9, .slice sb6 l2.length sc6), (10, .int .i64 x), (42, .pointer (some ⟨b2, o2 + (Int.toNat x) * 1, none⟩))]) (obs := [.p (((some ⟨r1, 0, none⟩) : Option Addr) = some ⟨b2, o2, none⟩), .p (0 ≤ (x : Int) ∧ (x : Int) < ((m_.length : Nat) : Int))]) rfl (by kernel_rfl) ⟨hs2, hb2, trivial⟩ fun a hE => ?_
          refine WR.eff0 hE rfl rfl rfl (OpTo.storeSl (q := 0) (x' := true) hE H.t3 ecB_ok rfl hs2 ex2 rfl rfl rfl rfl rfl (Nat.le_of_ble_eq_true rfl) rfl) ?_
          rintro _ w H a hE
          try rw [← mSet_len m_ x true] at hE
          refine WR.done rfl ?_
          refine Runs.seq ?_
          refine Runs.region ?_
          refine WR.seg hE 2 [] [0, 2, 7, 8, 9, 10, 43, 44] (Lo := [(0, .pointer (some ⟨p_a_, 0, none⟩)), (2, .func (.func 173) #[] #[.pointer (some ⟨r, 0, none⟩)]), (7, .slice (some ⟨r1, 0, none⟩) ((mSet m_ x true).length) l.length), (8, .slice sb4 out.length sc4), (9, .slice sb6 l2.length sc6), (10, .int .i64 x), (43, .slice sb4 out.length sc4), (44, .int .i64 x)]) (obs := []) rfl (by kernel_rfl) trivial fun a hE => ?_
          refine WR.eff hE rfl rfl rfl rfl (OpTo.buildSl (T := 3) hE H ecI_ok ([x] : List Int) rfl (fun _ => by kernel_rfl) rfl rfl rfl) ?_
          rintro _ w ⟨r2, rfl, H⟩ a hE
          obtain ⟨l3, el3, hm⟩ := bind_some hm
          replace H := H.t2
          refine WR.eff hE rfl rfl rfl rfl (OpTo.appendM el3 hE H ecI_ok rfl rfl rfl rfl rfl rfl rfl rfl rfl rfl (SlRd.all (sl_rd 3 ecI 1 _ _ _) ecI_ok H 1 rfl) rfl) ?_
          rintro _ w ⟨sb7, sc7, rfl, H⟩ a hE
          refine WR.seg hE 5 [] [0, 2, 7, 8, 9, 10] (Lo := [(0, .pointer (some ⟨p_a_, 0, none⟩)), (2, .func (.func 173) #[] #[.pointer (some ⟨r, 0, none⟩)]), (7, .slice (some ⟨r1, 0, none⟩) ((mSet m_ x true).length) l.length), (8, .slice sb7 l3.length sc7), (9, .slice sb6 l2.length sc6), (10, .int .i64 x)]) (obs := []) rfl (by kernel_rfl) trivial fun a hE => ?_
          refine WR.done rfl ?_
          refine Runs.region ?_
          refine WR.seg hE 3 [] [0, 2, 7, 8, 9, 47, 48, 49] (Lo := [(0, .pointer (some ⟨p_a_, 0, none⟩)), (2, .func (.func 173) #[] #[.pointer (some ⟨r, 0, none⟩)]), (7, .slice (some ⟨r1, 0, none⟩) ((mSet m_ x true).length) l.length), (8, .slice sb7 l3.length sc7), (9, .slice sb6 l2.length sc6), (47, .slice sb6 l2.length sc6), (48, .func (.func 173) #[] #[.pointer (some ⟨r, 0, none⟩)]), (49, .int .i64 x)]) (obs := []) rfl (by kernel_rfl) trivial fun a hE => ?_
          obtain ⟨t_3, et_3, hm⟩ := bind_some hm
          refine WR.eff hE rfl rfl rfl rfl (OpTo.fv hE rfl rfl rfl Tryz.call173 (fib_nodes_f1_ok et_3 H.t5.t6)) ?_
          rintro _ w ⟨sb8, sc8, rfl, H⟩ a hE
          replace H := H.t6.slCut' ecI_ok el2 q q1
          obtain ⟨l4, el4, hm⟩ := bind_some hm
          refine WR.eff hE rfl rfl rfl rfl (OpTo.appendM el4 hE H ecI_ok rfl rfl rfl rfl rfl rfl rfl rfl rfl rfl (SlRd.all (sl_rd 3 ecI 1 _ _ _) ecI_ok H 1 rfl) rfl) ?_
          rintro _ w ⟨sb9, sc9, rfl, H⟩ a hE
          refine WR.seg hE 6 [] [0, 2, 7, 8, 9] (Lo := [(0, .pointer (some ⟨p_a_, 0, none⟩)), (2, .func (.func 173) #[] #[.pointer (some ⟨r, 0, none⟩)]), (7, .slice (some ⟨r1, 0, none⟩) ((mSet m_ x true).length) l.length), (8, .slice sb7 l3.length sc7), (9, .slice sb9 l4.length sc9)]) (obs := []) rfl (by kernel_rfl) trivial fun a hE => ?_
          refine WR.done rfl ?_
          refine Runs.inBlock ?_
          exact ih m (Nat.lt_succ_self m) _ _ ⟨l3, l4, mSet m_ x true, t_3.2, sb7, sc7, sb9, sc9, hE.sel [0, 2, 7, 8, 9] (by kernel_rfl), H.x5.x1.t1.t2.t4.t5.t4.t5, hm⟩
      · replace hm := cond_f c hm
        refine Runs.exit rfl ?_
        cases hm
        exact hk _ _ ⟨sb4, sc4, hE.sel [8] (by kernel_rfl), H.x3.x1.t3.t3.t3.t3⟩
  rintro a w ⟨sb3, sc3, hE, H⟩
  refine Runs.seq ?_
  refine Runs.region ?_
  refine WR.seg hE 2 [] [6] (Lo := [(6, .slice sb3 s.1.length sc3)]) (obs := []) rfl (by kernel_rfl) trivial fun a hE => ?_
  refine WR.done rfl ?_
  refine Runs.ret hE Tryz.func157 rfl rfl ?_
  cases hm
  exact ⟨sb3, sc3, rfl, H.t3.t2.t3.t3⟩

theorem fib_nodes_ok {w0 w : World} {As : List HP} {k : Nat} {p_a_ : Nat} {al_a_ : arena_Arena.A} {a_ : arena_Arena} {r : Int} {t : (List Int) × arena_Arena}  (hm : fib_nodes k a_ r = some t) (H : St w0 (arena_Arena.R p_a_ al_a_ a_ :: As) w) :
    CallsR Tryz.prog 148 #[.pointer (some ⟨p_a_, 0, none⟩), .int .i64 r] w fun v w' => ∃ (sb0 : Option Addr), ∃ (sc0 : Nat), v = .slice sb0 t.1.length sc0 ∧ St w0 (Sl 3 ecI 1 sb0 sc0 t.1 :: arena_Arena.R p_a_ al_a_ t.2 :: As) w' := by
  rw [fib_nodes] at hm
  refine enter (args := [.pointer (some ⟨p_a_, 0, none⟩), .int .i64 r]) Tryz.func148 rfl rfl rfl fun a hE => ?_
  refine Runs.seq ?_
  refine Runs.region ?_
  refine WR.eff hE rfl rfl rfl rfl (OpTo.new hE H [] (.cells #[.pointer (some ⟨p_a_, 0, none⟩)] 28 (0, 0)) (fun r => .pointer (some ⟨r, 0, none⟩)) (obs := []) rfl (fun _ => by kernel_rfl) trivial) ?_
  rintro _ w ⟨r1, rfl, H⟩ a hE
  refine WR.seg hE 2 [] [1, 2] (Lo := [(1, .int .i64 r), (2, .pointer (some ⟨r1, 0, none⟩))]) (obs := []) rfl (by kernel_rfl) trivial fun a hE => ?_
  refine WR.done rfl ?_
  refine Runs.seq ?_
  refine Runs.drawn mixed (by kernel_rfl) ?_
  replace H := H.drew
  refine WQ.seg hE [0, 1, 2, 4] [.pointer (some ⟨p_a_, 0, none⟩), .pointer (some ⟨p_a_, 0, none⟩)] [5, 6, 7, 9] (Lo := [(5, .pointer (some ⟨p_a_, 0, none⟩)), (6, .pointer (some ⟨p_a_, 0, none⟩)), (7, .int .i64 r), (9, .func (.func 173) #[] #[.pointer (some ⟨r1, 0, none⟩)])]) (obs := [.cell ⟨r1, 0, none⟩ (.pointer (some ⟨p_a_, 0, none⟩)), .cell ⟨r1, 0, none⟩ (.pointer (some ⟨p_a_, 0, none⟩))]) (by kernel_rfl) (by kernel_rfl) ⟨H.cell 0 rfl rfl, H.cell 0 rfl rfl, trivial⟩ fun a hE => ?_
  obtain ⟨t_, et_, hm⟩ := bind_some hm
  refine WQ.eff (j := 3) (obs := [.cell ⟨r1, 0, none⟩ (.pointer (some ⟨p_a_, 0, none⟩))]) hE (by kernel_rfl) rfl rfl rfl rfl (by kernel_rfl) (OpTo.fn hE rfl rfl Tryz.call165 (chain_All_ok et_ H.t1)) ?_
  rintro _ w ⟨sb, sc, rfl, H⟩
  refine ⟨⟨H.cell 2 rfl rfl, trivial⟩, fun a hE => ?_⟩
  obtain ⟨t_1, et_1, hm⟩ := bind_some hm
  replace H := H.t2.t1.t2
  refine WQ.eff (j := 5) (obs := []) hE (by kernel_rfl) rfl rfl rfl rfl (by kernel_rfl) (OpTo.fn hE rfl rfl Tryz.call157 (node_Below_g173_ok (hX_first := (sl_rd 3 ecI 1 _ _ _)) (hC_first := (H.slCap 1 rfl).1) et_1 H)) ?_
  rintro _ w ⟨sb1, sc1, rfl, H⟩
  refine ⟨trivial, fun a hE => ?_⟩
  refine WQ.seg hE [6] [] [4] (Lo := [(4, .slice sb1 t_1.1.length sc1)]) (obs := []) (by kernel_rfl) (by kernel_rfl) trivial fun a hE => ?_
  refine WQ.done (by kernel_rfl) ?_
  refine Runs.ret hE Tryz.func148 rfl rfl ?_
  cases hm
  exact ⟨sb1, sc1, rfl, H.x3.x2.t1.t1⟩

theorem fib_All_ok {w0 w : World} {As : List HP} {k : Nat} {p_a_ : Nat} {al_a_ : arena_Arena.A} {a_ : arena_Arena} {r : Int} {t : (List Int) × arena_Arena}  (hm : fib_All k a_ r = some t) (H : St w0 (arena_Arena.R p_a_ al_a_ a_ :: As) w) :
    CallsR Tryz.prog 103 #[.pointer (some ⟨p_a_, 0, none⟩), .int .i64 r] w fun v w' => ∃ (sb0 : Option Addr), ∃ (sc0 : Nat), v = .slice sb0 t.1.length sc0 ∧ St w0 (Sl 3 ecI 1 sb0 sc0 t.1 :: arena_Arena.R p_a_ al_a_ t.2 :: As) w' := by
  rw [fib_All] at hm
  refine enter (args := [.pointer (some ⟨p_a_, 0, none⟩), .int .i64 r]) Tryz.func103 rfl rfl rfl fun a hE => ?_
  refine Runs.seq ?_
  refine Runs.region ?_
  refine WR.seg hE 1 [] [0, 1] (Lo := [(0, .pointer (some ⟨p_a_, 0, none⟩)), (1, .int .i64 r)]) (obs := []) rfl (by kernel_rfl) trivial fun a hE => ?_
  refine WR.done rfl ?_
  refine Runs.seq ?_
  refine Runs.seq ?_
  refine Runs.region ?_
  refine WR.seg hE 2 [] [0, 1, 6] (Lo := [(0, .pointer (some ⟨p_a_, 0, none⟩)), (1, .int .i64 r), (6, .bool false)]) (obs := []) rfl (by kernel_rfl) trivial fun a hE => ?_
  refine WR.done rfl ?_
  refine Runs.condF hE rfl ?_
  refine Runs.skip ?_
  refine Runs.seq ?_
  refine Runs.region ?_
  refine WR.seg hE 3 [] [7, 8, 9] (Lo := [(7, .pointer (some ⟨p_a_, 0, none⟩)), (8, .pointer (some ⟨p_a_, 0, none⟩)), (9, .int .i64 r)]) (obs := []) rfl (by kernel_rfl) trivial fun a hE => ?_
  obtain ⟨t_, et_, hm⟩ := bind_some hm
  refine WR.eff hE rfl rfl rfl rfl (OpTo.fn hE rfl rfl Tryz.call148 (fib_nodes_ok et_ H)) ?_
  rintro _ w ⟨sb, sc, rfl, H⟩ a hE
  obtain ⟨t_1, et_1, hm⟩ := bind_some hm
  replace H := H.t1
  refine WR.eff hE rfl rfl rfl rfl (OpTo.fn hE rfl rfl Tryz.call127 (node_Items_ok (hX_l := (sl_rd 3 ecI 1 _ _ _)) (hC_l := (H.slCap 1 rfl).1) et_1 H)) ?_
  rintro _ w ⟨sb1, sc1, rfl, H⟩ a hE
  refine WR.seg hE 6 [] [4] (Lo := [(4, .slice sb1 t_1.1.length sc1)]) (obs := []) rfl (by kernel_rfl) trivial fun a hE => ?_
  refine WR.done rfl ?_
  refine Runs.ret hE Tryz.func103 rfl rfl ?_
  cases hm
  exact ⟨sb1, sc1, rfl, H.x2.t1.t1⟩

theorem pairing_nodes_f1_ok {w0 w : World} {As : List HP} {k : Nat} {n : Int} {r : Nat} {p_a_ : Nat} {al_a_ : arena_Arena.A} {a_ : arena_Arena} {t : (List Int) × arena_Arena}  (hm : pairing_nodes_f1 k n a_ = some t) (H : St w0 (Blk r 28 [.pointer (some ⟨p_a_, 0, none⟩)] :: arena_Arena.R p_a_ al_a_ a_ :: As) w) :
    CallsR Tryz.prog 174 #[.int .i64 n, .pointer (some ⟨r, 0, none⟩)] w fun v w' => ∃ (sb0 : Option Addr), ∃ (sc0 : Nat), v = .slice sb0 t.1.length sc0 ∧ St w0 (Sl 3 ecI 1 sb0 sc0 t.1 :: Blk r 28 [.pointer (some ⟨p_a_, 0, none⟩)] :: arena_Arena.R p_a_ al_a_ t.2 :: As) w' := by
  rw [pairing_nodes_f1] at hm
  refine enter (args := [.int .i64 n, .pointer (some ⟨r, 0, none⟩)]) Tryz.func174 rfl rfl rfl fun a hE => ?_
  refine Runs.seq ?_
  refine Runs.region ?_
  refine WR.seg hE 1 [] [0, 1] (Lo := [(0, .int .i64 n), (1, .pointer (some ⟨r, 0, none⟩))]) (obs := []) rfl (by kernel_rfl) trivial fun a hE => ?_
  refine WR.done rfl ?_
  refine Runs.seq ?_
  refine Runs.region ?_
  refine WR.seg hE 2 [.pointer (some ⟨p_a_, 0, none⟩)] [4, 5] (Lo := [(4, .pointer (some ⟨p_a_, 0, none⟩)), (5, .int .i64 n)]) (obs := [.cell ⟨r, 0, none⟩ (.pointer (some ⟨p_a_, 0, none⟩))]) rfl (by kernel_rfl) ⟨H.cell 0 rfl rfl, trivial⟩ fun a hE => ?_
  obtain ⟨t_, et_, hm⟩ := bind_some hm
  refine WR.eff hE rfl rfl rfl rfl (OpTo.fn hE rfl rfl Tryz.call168 (pairing_kids_ok et_ H.t1)) ?_
  rintro _ w ⟨sb, sc, rfl, H⟩ a hE
  refine WR.seg hE 4 [] [3] (Lo := [(3, .slice sb t_.1.length sc)]) (obs := []) rfl (by kernel_rfl) trivial fun a hE => ?_
  refine WR.done rfl ?_
  refine Runs.ret hE Tryz.func174 rfl rfl ?_
  cases hm
  exact ⟨sb, sc, rfl, H.t1.t2.t2⟩

theorem node_Below_g174_ok {w0 w : World} {As : List HP} {k : Nat} {p_a_ : Nat} {al_a_ : arena_Arena.A} {a_ : arena_Arena} {sb_first : Option Addr} {sc_first : Nat} {first : List Int} {X_first : HP} {r : Nat} {t : (List Int) × arena_Arena} (hX_first : SlRd X_first ecI 1 sb_first first) (hC_first : first.length ≤ sc_first) (hm : node_Below_g174 k a_ first = some t) (H : St w0 (arena_Arena.R p_a_ al_a_ a_ :: X_first :: Blk r 28 [.pointer (some ⟨p_a_, 0, none⟩)] :: As) w) :
    CallsR Tryz.prog 157 #[.pointer (some ⟨p_a_, 0, none⟩), .slice sb_first first.length sc_first, .func (.func 174) #[] #[.pointer (some ⟨r, 0, none⟩)]] w fun v w' => ∃ (sb0 : Option Addr), ∃ (sc0 : Nat), v = .slice sb0 t.1.length sc0 ∧ St w0 (Sl 3 ecI 1 sb0 sc0 t.1 :: arena_Arena.R p_a_ al_a_ t.2 :: X_first :: Blk r 28 [.pointer (some ⟨p_a_, 0, none⟩)] :: As) w' := by
  rw [node_Below_g174] at hm
  refine enter (args := [.pointer (some ⟨p_a_, 0, none⟩), .slice sb_first first.length sc_first, .func (.func 174) #[] #[.pointer (some ⟨r, 0, none⟩)]]) Tryz.func157 rfl rfl rfl fun a hE => ?_
  refine Runs.seq ?_
  refine Runs.region ?_
  refine WR.seg hE 1 [] [0, 1, 2] (Lo := [(0, .pointer (some ⟨p_a_, 0, none⟩)), (1, .slice sb_first first.length sc_first), (2, .func (.func 174) #[] #[.pointer (some ⟨r, 0, none⟩)])]) (obs := []) rfl (by kernel_rfl) trivial fun a hE => ?_
  refine WR.done rfl ?_
  refine Runs.seq ?_
  refine Runs.region ?_
  refine WR.seg hE 1 [] [0, 1, 2, 11] (Lo := [(0, .pointer (some ⟨p_a_, 0, none⟩)), (1, .slice sb_first first.length sc_first), (2, .func (.func 174) #[] #[.pointer (some ⟨r, 0, none⟩)]), (11, .pointer (some ⟨p_a_, 0, none⟩))]) (obs := []) rfl (by kernel_rfl) trivial fun a hE => ?_
  obtain ⟨t_, et_, hm⟩ := bind_some hm
  refine WR.eff hE rfl rfl rfl rfl (OpTo.fn hE rfl rfl Tryz.call63 (arena_Arena_Cells_ok et_ H)) ?_
  rintro _ w ⟨rfl, H⟩ a hE
  obtain ⟨l, el, hm⟩ := bind_some hm
  refine WR.eff hE rfl rfl rfl rfl (OpTo.make el hE H ecB_ok rfl rfl rfl rfl rfl rfl rfl rfl) ?_
  rintro _ w ⟨r1, rfl, H⟩ a hE
  refine WR.seg hE 4 [] [0, 1, 2, 7] (Lo := [(0, .pointer (some ⟨p_a_, 0, none⟩)), (1, .slice sb_first first.length sc_first), (2, .func (.func 174) #[] #[.pointer (some ⟨r, 0, none⟩)]), (7, .slice (some ⟨r1, 0, none⟩) l.length l.length)]) (obs := []) rfl (by kernel_rfl) trivial fun a hE => ?_
  refine WR.done rfl ?_
  refine Runs.seq ?_
  refine Runs.region ?_
  refine WR.seg hE 1 [] [0, 1, 2, 7, 8] (Lo := [(0, .pointer (some ⟨p_a_, 0, none⟩)), (1, .slice sb_first first.length sc_first), (2, .func (.func 174) #[] #[.pointer (some ⟨r, 0, none⟩)]), (7, .slice (some ⟨r1, 0, none⟩) l.length l.length), (8, .slice none 0 0)]) (obs := []) rfl (by kernel_rfl) trivial fun a hE => ?_
  refine WR.done rfl ?_
  refine Runs.seq ?_
  refine Runs.region ?_
  refine WR.seg hE 1 [] [0, 2, 7, 8, 14] (Lo := [(0, .pointer (some ⟨p_a_, 0, none⟩)), (2, .func (.func 174) #[] #[.pointer (some ⟨r, 0, none⟩)]), (7, .slice (some ⟨r1, 0, none⟩) l.length l.length), (8, .slice none 0 0), (14, .slice sb_first first.length sc_first)]) (obs := []) rfl (by kernel_rfl) trivial fun a hE => ?_
  obtain ⟨t_1, et_1, hm⟩ := bind_some hm
  replace H := H.t2
  refine WR.eff hE rfl rfl rfl rfl (OpTo.fn hE rfl rfl Tryz.call181 (slices_Clone_int_ok (hX_s := hX_first) (hC_s := hC_first) et_1 H)) ?_
  rintro _ w ⟨sb, sc, rfl, H⟩ a hE
  refine WR.seg hE 3 [] [0, 2, 7, 8, 9] (Lo := [(0, .pointer (some ⟨p_a_, 0, none⟩)), (2, .func (.func 174) #[] #[.pointer (some ⟨r, 0, none⟩)]), (7, .slice (some ⟨r1, 0, none⟩) l.length l.length), (8, .slice none 0 0), (9, .slice sb t_1.length sc)]) (obs := []) rfl (by kernel_rfl) trivial fun a hE => ?_
  refine WR.done rfl ?_
  refine Runs.seq ?_
  obtain ⟨s, es, hm⟩ := bind_some hm
  refine Runs.join (fun a w => ∃ (sb3 : Option Addr), ∃ (sc3 : Nat), EnvOk 53 a [(8, .slice sb3 s.1.length sc3)] ∧ St w0 (Sl 3 ecI 1 sb3 sc3 s.1 :: X_first :: arena_Arena.R p_a_ al_a_ s.2 :: Blk r 28 [.pointer (some ⟨p_a_, 0, none⟩)] :: As) w) (fun hk => ?_) ?_
  · replace hm := es; clear es
    replace H := H.slNil 3 ecI 1
    refine Runs.block ?_
    refine Runs.loop (fun m a w => ∃ (out : List Int), ∃ (wait : List Int), ∃ (m_ : List Bool), ∃ (m_1 : arena_Arena), ∃ (sb4 : Option Addr), ∃ (sc4 : Nat), ∃ (sb5 : Option Addr), ∃ (sc5 : Nat), EnvOk 53 a [(0, .pointer (some ⟨p_a_, 0, none⟩)), (2, .func (.func 174) #[] #[.pointer (some ⟨r, 0, none⟩)]), (7, .slice (some ⟨r1, 0, none⟩) m_.length l.length), (8, .slice sb4 out.length sc4), (9, .slice sb5 wait.length sc5)] ∧ St w0 (Sl 3 ecI 1 sb4 sc4 out :: Sl 3 ecI 1 sb5 sc5 wait :: X_first :: Sl 4 ecB 1 (some ⟨r1, 0, none⟩) l.length m_ :: arena_Arena.R p_a_ al_a_ m_1 :: Blk r 28 [.pointer (some ⟨p_a_, 0, none⟩)] :: As) w ∧ node_Below_g174_l0 first m out wait m_ m_1 = some s) k ⟨([] : List Int), t_1, l, a_, none, 0, sb, sc, hE.sel [0, 2, 7, 8, 9] (by kernel_rfl), H.t5.t5.t5.t5.t5.t5, hm⟩ ?_
    rintro m ih a w ⟨out, wait, m_, m_1, sb4, sc4, sb5, sc5, hE, H, hm⟩
    cases m with
    | zero => simp [node_Below_g174_l0] at hm
    | succ m =>
      rw [node_Below_g174_l0] at hm
      refine Runs.seq ?_
      refine Runs.seq ?_
      refine Runs.region ?_
      refine WR.seg hE 3 [] [0, 2, 7, 8, 9, 18] (Lo := [(0, .pointer (some ⟨p_a_, 0, none⟩)), (2, .func (.func 174) #[] #[.pointer (some ⟨r, 0, none⟩)]), (7, .slice (some ⟨r1, 0, none⟩) m_.length l.length), (8, .slice sb4 out.length sc4), (9, .slice sb5 wait.length sc5), (18, .bool (decide ((wait.length : Int) > 0)))]) (obs := []) rfl (by kernel_rfl) trivial fun a hE => ?_
      refine WR.done rfl ?_
      refine Runs.cond hE rfl (fun c => ?_) (fun c => ?_)
      · replace hm := cond_t c hm
        refine Runs.skip ?_
        refine Runs.block ?_
        refine Runs.seq ?_
        refine Runs.region ?_
        obtain ⟨x, ex, hm⟩ := bind_some hm
        obtain ⟨b, o, hs, hb⟩ := SlRd.base (sl_rd 3 ecI 1 _ _ _) ecI_ok H 1 rfl ex
        refine WR.seg hE 7 [.pointer (some ⟨b, o, none⟩), .int .i64 x] [0, 2, 7, 8, 9, 10] (Lo := [(0, .pointer (some ⟨p_a_, 0, none⟩)), (2, .func (.func 174) #[] #[.pointer (some ⟨r, 0, none⟩)]), (7, .slice (some ⟨r1, 0, none⟩) m_.length l.length), (8, .slice sb4 out.length sc4), (9, .slice sb5 wait.length sc5), (10, .int .i64 x)]) (obs := [.p ((sb5 : Option Addr) = some ⟨b, o, none⟩), .p (0 ≤ ((w64 ((wait.length : Int) - 1)) : Int) ∧ ((w64 ((wait.length : Int) - 1)) : Int) < ((wait.length : Nat) : Int)), .cell ⟨b, o + (Int.toNat (w64 ((wait.length : Int) - 1))) * 1, none⟩ (.int .i64 x)]) rfl (by kernel_rfl) ⟨hs, hb, SlRd.cells (sl_rd 3 ecI 1 _ _ _) ecI_ok H 1 rfl hs ex 0 _ rfl, trivial⟩ fun a hE => ?_
        refine WR.done rfl ?_
        refine Runs.seq ?_
        refine Runs.region ?_
        obtain ⟨l2, el2, hm⟩ := bind_some hm
        obtain ⟨sb6, q⟩ : ∃ z, rebase sb5 sc5 (Int.toNat 0) 1 = z := ⟨_, rfl⟩
        obtain ⟨sc6, q1⟩ : ∃ z, sc5 - (Int.toNat 0) = z := ⟨_, rfl⟩
        refine WR.seg hE 6 [.slice sb6 l2.length sc6] [0, 2, 7, 8, 9, 10] (Lo := [(0, .pointer (some ⟨p_a_, 0, none⟩)), (2, .func (.func 174) #[] #[.pointer (some ⟨r, 0, none⟩)]), (7, .slice (some ⟨r1, 0, none⟩) m_.length l.length), (8, .slice sb4 out.length sc4), (9, .slice sb6 l2.length sc6), (10, .int .i64 x)]) (obs := [.p (rebase sb5 sc5 0 1 = sb6), .p ((Int.toNat (w64 ((wait.length : Int) - 1))) - 0 = l2.length), .p (sc5 - 0 = sc6), .p (0 ≤ ((w64 ((wait.length : Int) - 1)) : Int) ∧ ((w64 ((wait.length : Int) - 1)) : Int) ≤ ((sc5 : Nat) : Int))]) rfl (by kernel_rfl) ⟨q, cut_len el2, q1, cut_cap el2 (H.slCap 1 rfl).1, trivial⟩ fun a hE => ?_
        refine WR.done rfl ?_
        refine Runs.seq ?_
        refine Runs.seq ?_
        obtain ⟨s1, es1, hm⟩ := bind_some hm
        refine Runs.join (fun a w => EnvOk 53 a [(0, .pointer (some ⟨p_a_, 0, none⟩)), (2, .func (.func 174) #[] #[.pointer (some ⟨r, 0, none⟩)]), (7, .slice (some ⟨r1, 0, none⟩) m_.length l.length), (8, .slice sb4 out.length sc4), (9, .slice sb6 l2.length sc6), (10, .int .i64 x), (39, .bool s1)] ∧ St w0 (Sl 3 ecI 1 sb4 sc4 out :: Sl 3 ecI 1 sb5 sc5 wait :: X_first :: Sl 4 ecB 1 (some ⟨r1, 0, none⟩) l.length m_ :: arena_Arena.R p_a_ al_a_ m_1 :: Blk r 28 [.pointer (some ⟨p_a_, 0, none⟩)] :: As) w) (fun hk => ?_) ?_
        · replace hm := es1; clear es1
          refine Runs.region ?_
          refine WR.seg hE 2 [] [0, 2, 7, 8, 9, 10, 30, 31] (Lo := [(0, .pointer (some ⟨p_a_, 0, none⟩)), (2, .func (.func 174) #[] #[.pointer (some ⟨r, 0, none⟩)]), (7, .slice (some ⟨r1, 0, none⟩) m_.length l.length), (8, .slice sb4 out.length sc4), (9, .slice sb6 l2.length sc6), (10, .int .i64 x), (30, .pointer (some ⟨p_a_, 0, none⟩)), (31, .int .i64 x)]) (obs := []) rfl (by kernel_rfl) trivial fun a hE => ?_
          obtain ⟨t_2, et_2, hm⟩ := bind_some hm
          refine WR.eff hE rfl rfl rfl rfl (OpTo.fn hE rfl rfl Tryz.call58 (arena_Arena_Live_ok et_2 H.t4)) ?_
          rintro _ w ⟨rfl, H⟩ a hE
          refine WR.seg hE 5 [] [0, 2, 7, 8, 9, 10, 34] (Lo := [(0, .pointer (some ⟨p_a_, 0, none⟩)), (2, .func (.func 174) #[] #[.pointer (some ⟨r, 0, none⟩)]), (7, .slice (some ⟨r1, 0, none⟩) m_.length l.length), (8, .slice sb4 out.length sc4), (9, .slice sb6 l2.length sc6), (10, .int .i64 x), (34, .bool (!t_2))]) (obs := []) rfl (by kernel_rfl) trivial fun a hE => ?_
          rcases Bool.eq_false_or_eq_true (!t_2) with c | c
          · replace hE := hE.dec 34 c (by kernel_rfl)
            replace hm := cond_t c hm
            have c_ := c
            refine WR.seg hE 10 [] [0, 2, 7, 8, 9, 10, 39] (Lo := [(0, .pointer (some ⟨p_a_, 0, none⟩)), (2, .func (.func 174) #[] #[.pointer (some ⟨r, 0, none⟩)]), (7, .slice (some ⟨r1, 0, none⟩) m_.length l.length), (8, .slice sb4 out.length sc4), (9, .slice sb6 l2.length sc6), (10, .int .i64 x), (39, .bool true)]) (obs := []) rfl (by kernel_rfl) trivial fun a hE => ?_
            refine WR.done rfl ?_
            cases hm
            exact hk _ _ ⟨hE.sel [0, 2, 7, 8, 9, 10, 39] (by kernel_rfl), H.t5.t1.t5.t5.t5.t5⟩
          · replace hE := hE.dec 34 c (by kernel_rfl)
            replace hm := cond_f c hm
            have c_1 := c
            obtain ⟨x1, ex1, hm⟩ := bind_some hm
            obtain ⟨b1, o1, hs1, hb1⟩ := SlRd.base (sl_rd 4 ecB 1 _ _ _) ecB_ok H 4 rfl ex1
            refine WR.seg hE 10 [.pointer (some ⟨b1, o1, none⟩), .bool x1] [0, 2, 7, 8, 9, 10, 39] (Lo := [(0, .pointer (some ⟨p_a_, 0, none⟩)), (2, .func (.func 174) #[] #[.pointer (some ⟨r, 0, none⟩)]), (7, .slice (some ⟨r1, 0, none⟩) m_.length l.length), (8, .slice sb4 out.length sc4), (9, .slice sb6 l2.length sc6), (10, .int .i64 x), (39, .bool x1)]) (obs := [.p (((some ⟨r1, 0, none⟩) : Option Addr) = some ⟨b1, o1, none⟩), .p (0 ≤ (x : Int) ∧ (x : Int) < ((m_.length : Nat) : Int)), .cell ⟨b1, o1 + (Int.toNat x) * 1, none⟩ (.bool x1)]) rfl (by kernel_rfl) ⟨hs1, hb1, SlRd.cells (sl_rd 4 ecB 1 _ _ _) ecB_ok H 4 rfl hs1 ex1 0 _ rfl, trivial⟩ fun a hE => ?_
            refine WR.done rfl ?_
            cases hm
            exact hk _ _ ⟨hE.sel [0, 2, 7, 8, 9, 10, 39] (by kernel_rfl), H.t5.t1.t5.t5.t5.t5⟩
        rintro a w ⟨hE, H⟩
        refine Runs.cond hE rfl (fun c => ?_) (fun c => ?_)
        · replace hm := cond_t c hm
          refine Runs.exit rfl ?_
          replace H := H.t1.slCut' ecI_ok el2 q q1
          exact ih m (Nat.lt_succ_self m) _ _ ⟨out, l2, m_, m_1, sb4, sc4, sb6, sc6, hE.sel [0, 2, 7, 8, 9] (by kernel_rfl), H.t5.t5.t5.t5.t4.t5, hm⟩
        · replace hm := cond_f c hm
          refine Runs.skip ?_
          refine Runs.seq ?_
          refine Runs.region ?_
          obtain ⟨x2, ex2, hm⟩ := bind_some hm
          obtain ⟨b2, o2, hs2, hb2⟩ := SlRd.base (sl_rd 4 ecB 1 _ _ _) ecB_ok H 3 rfl ex2
          refine WR.seg hE 3 [.pointer (some ⟨b2, o2, none⟩)] [0, 2, 7, 8, 9, 10, 42] (Lo := [(0, .pointer (some ⟨p_a_, 0, none⟩)), (2, .func (.func 174) #[] #[.pointer (some ⟨r, 0, none⟩)]), (7, .slice (some ⟨r1, 0, none⟩) m_.length l.length), (8, .slice sb4 out.length sc4), (9, .slice sb6 l2.length sc6), (10, .int .i64 x), (42, .pointer (some ⟨b2, o2 + (Int.toNat x) * 1, none⟩))]) (obs := [.p (((some ⟨r1, 0, none⟩) : Option Addr) = some ⟨b2, o2, none⟩), .p (0 ≤ (x : Int) ∧ (x : Int) < ((m_.length : Nat) : Int))]) rfl (by kernel_rfl) ⟨hs2, hb2, trivial⟩ fun a hE => ?_
          refine WR.eff0 hE rfl rfl rfl (OpTo.storeSl (q := 0) (x' := true) hE H.t3 ecB_ok rfl hs2 ex2 rfl rfl rfl rfl rfl (Nat.le_of_ble_eq_true rfl) rfl) ?_
          rintro _ w H a hE
          try rw [← mSet_len m_ x true] at hE
          refine WR.done rfl ?_
          refine Runs.seq ?_
          refine Runs.region ?_
          refine WR.seg hE 2 [] [0, 2, 7, 8, 9, 10, 43, 44] (Lo := [(0, .pointer (some ⟨p_a_, 0, none⟩)), (2, .func (.func 174) #[] #[.pointer (some ⟨r, 0, none⟩)]), (7, .slice (some ⟨r1, 0, none⟩) ((mSet m_ x true).length) l.length), (8, .slice sb4 out.length sc4), (9, .slice sb6 l2.length sc6), (10, .int .i64 x), (43, .slice sb4 out.length sc4), (44, .int .i64 x)]) (obs := []) rfl (by kernel_rfl) trivial fun a hE => ?_
          refine WR.eff hE rfl rfl rfl rfl (OpTo.buildSl (T := 3) hE H ecI_ok ([x] : List Int) rfl (fun _ => by kernel_rfl) rfl rfl rfl) ?_
          rintro _ w ⟨r2, rfl, H⟩ a hE
          obtain ⟨l3, el3, hm⟩ := bind_some hm
          replace H := H.t2
          refine WR.eff hE rfl rfl rfl rfl (OpTo.appendM el3 hE H ecI_ok rfl rfl rfl rfl rfl rfl rfl rfl rfl rfl (SlRd.all (sl_rd 3 ecI 1 _ _ _) ecI_ok H 1 rfl) rfl) ?_
          rintro _ w ⟨sb7, sc7, rfl, H⟩ a hE
          refine WR.seg hE 5 [] [0, 2, 7, 8, 9, 10] (Lo := [(0, .pointer (some ⟨p_a_, 0, none⟩)), (2, .func (.func 174) #[] #[.pointer (some ⟨r, 0, none⟩)]), (7, .slice (some ⟨r1, 0, none⟩) ((mSet m_ x true).length) l.length), (8, .slice sb7 l3.length sc7), (9, .slice sb6 l2.length sc6), (10, .int .i64 x)]) (obs := []) rfl (by kernel_rfl) trivial fun a hE => ?_
          refine WR.done rfl ?_
          refine Runs.region ?_
          refine WR.seg hE 3 [] [0, 2, 7, 8, 9, 47, 48, 49] (Lo := [(0, .pointer (some ⟨p_a_, 0, none⟩)), (2, .func (.func 174) #[] #[.pointer (some ⟨r, 0, none⟩)]), (7, .slice (some ⟨r1, 0, none⟩) ((mSet m_ x true).length) l.length), (8, .slice sb7 l3.length sc7), (9, .slice sb6 l2.length sc6), (47, .slice sb6 l2.length sc6), (48, .func (.func 174) #[] #[.pointer (some ⟨r, 0, none⟩)]), (49, .int .i64 x)]) (obs := []) rfl (by kernel_rfl) trivial fun a hE => ?_
          obtain ⟨t_3, et_3, hm⟩ := bind_some hm
          refine WR.eff hE rfl rfl rfl rfl (OpTo.fv hE rfl rfl rfl Tryz.call174 (pairing_nodes_f1_ok et_3 H.t5.t6)) ?_
          rintro _ w ⟨sb8, sc8, rfl, H⟩ a hE
          replace H := H.t6.slCut' ecI_ok el2 q q1
          obtain ⟨l4, el4, hm⟩ := bind_some hm
          refine WR.eff hE rfl rfl rfl rfl (OpTo.appendM el4 hE H ecI_ok rfl rfl rfl rfl rfl rfl rfl rfl rfl rfl (SlRd.all (sl_rd 3 ecI 1 _ _ _) ecI_ok H 1 rfl) rfl) ?_
          rintro _ w ⟨sb9, sc9, rfl, H⟩ a hE
          refine WR.seg hE 6 [] [0, 2, 7, 8, 9] (Lo := [(0, .pointer (some ⟨p_a_, 0, none⟩)), (2, .func (.func 174) #[] #[.pointer (some ⟨r, 0, none⟩)]), (7, .slice (some ⟨r1, 0, none⟩) ((mSet m_ x true).length) l.length), (8, .slice sb7 l3.length sc7), (9, .slice sb9 l4.length sc9)]) (obs := []) rfl (by kernel_rfl) trivial fun a hE => ?_
          refine WR.done rfl ?_
          refine Runs.inBlock ?_
          exact ih m (Nat.lt_succ_self m) _ _ ⟨l3, l4, mSet m_ x true, t_3.2, sb7, sc7, sb9, sc9, hE.sel [0, 2, 7, 8, 9] (by kernel_rfl), H.x5.x1.t1.t2.t4.t5.t4.t5, hm⟩
      · replace hm := cond_f c hm
        refine Runs.exit rfl ?_
        cases hm
        exact hk _ _ ⟨sb4, sc4, hE.sel [8] (by kernel_rfl), H.x3.x1.t3.t3.t3.t3⟩
  rintro a w ⟨sb3, sc3, hE, H⟩
  refine Runs.seq ?_
  refine Runs.region ?_
  refine WR.seg hE 2 [] [6] (Lo := [(6, .slice sb3 s.1.length sc3)]) (obs := []) rfl (by kernel_rfl) trivial fun a hE => ?_
  refine WR.done rfl ?_
  refine Runs.ret hE Tryz.func157 rfl rfl ?_
  cases hm
  exact ⟨sb3, sc3, rfl, H.t3.t2.t3.t3⟩

theorem pairing_nodes_ok {w0 w : World} {As : List HP} {k : Nat} {p_a_ : Nat} {al_a_ : arena_Arena.A} {a_ : arena_Arena} {r : Int} {t : (List Int) × arena_Arena}  (hm : pairing_nodes k a_ r = some t) (H : St w0 (arena_Arena.R p_a_ al_a_ a_ :: As) w) :
    CallsR Tryz.prog 149 #[.pointer (some ⟨p_a_, 0, none⟩), .int .i64 r] w fun v w' => ∃ (sb0 : Option Addr), ∃ (sc0 : Nat), v = .slice sb0 t.1.length sc0 ∧ St w0 (Sl 3 ecI 1 sb0 sc0 t.1 :: arena_Arena.R p_a_ al_a_ t.2 :: As) w' := by
  rw [pairing_nodes] at hm
  refine enter (args := [.pointer (some ⟨p_a_, 0, none⟩), .int .i64 r]) Tryz.func149 rfl rfl rfl fun a hE => ?_
  refine Runs.seq ?_
  refine Runs.region ?_
  refine WR.eff hE rfl rfl rfl rfl (OpTo.new hE H [] (.cells #[.pointer (some ⟨p_a_, 0, none⟩)] 28 (0, 0)) (fun r => .pointer (some ⟨r, 0, none⟩)) (obs := []) rfl (fun _ => by kernel_rfl) trivial) ?_
  rintro _ w ⟨r1, rfl, H⟩ a hE
  refine WR.seg hE 2 [] [1, 2] (Lo := [(1, .int .i64 r), (2, .pointer (some ⟨r1, 0, none⟩))]) (obs := []) rfl (by kernel_rfl) trivial fun a hE => ?_
  refine WR.done rfl ?_
  refine Runs.seq ?_
  refine Runs.region ?_
  refine WR.seg hE 2 [.pointer (some ⟨p_a_, 0, none⟩)] [2, 5, 6] (Lo := [(2, .pointer (some ⟨r1, 0, none⟩)), (5, .pointer (some ⟨p_a_, 0, none⟩)), (6, .int .i64 r)]) (obs := [.cell ⟨r1, 0, none⟩ (.pointer (some ⟨p_a_, 0, none⟩))]) rfl (by kernel_rfl) ⟨H.cell 0 rfl rfl, trivial⟩ fun a hE => ?_
  refine WR.eff hE rfl rfl rfl rfl (OpTo.buildSl (T := 3) hE H ecI_ok ([r] : List Int) rfl (fun _ => by kernel_rfl) rfl rfl rfl) ?_
  rintro _ w ⟨r2, rfl, H⟩ a hE
  refine WR.seg hE 4 [] [5, 7, 8] (Lo := [(5, .pointer (some ⟨p_a_, 0, none⟩)), (7, .slice (some ⟨r2, 0, none⟩) (([r] : List Int).length) 1), (8, .func (.func 174) #[] #[.pointer (some ⟨r1, 0, none⟩)])]) (obs := []) rfl (by kernel_rfl) trivial fun a hE => ?_
  obtain ⟨t_, et_, hm⟩ := bind_some hm
  replace H := H.t1.t1.t2
  refine WR.eff hE rfl rfl rfl rfl (OpTo.fn hE rfl rfl Tryz.call157 (node_Below_g174_ok (hX_first := (sl_rd 3 ecI 1 _ _ _)) (hC_first := (H.slCap 1 rfl).1) et_ H)) ?_
  rintro _ w ⟨sb, sc, rfl, H⟩ a hE
  refine WR.seg hE 6 [] [4] (Lo := [(4, .slice sb t_.1.length sc)]) (obs := []) rfl (by kernel_rfl) trivial fun a hE => ?_
  refine WR.done rfl ?_
  refine Runs.ret hE Tryz.func149 rfl rfl ?_
  cases hm
  exact ⟨sb, sc, rfl, H.x3.x2.t1.t1⟩

theorem pairing_All_ok {w0 w : World} {As : List HP} {k : Nat} {p_a_ : Nat} {al_a_ : arena_Arena.A} {a_ : arena_Arena} {r : Int} {t : (List Int) × arena_Arena}  (hm : pairing_All k a_ r = some t) (H : St w0 (arena_Arena.R p_a_ al_a_ a_ :: As) w) :
    CallsR Tryz.prog 104 #[.pointer (some ⟨p_a_, 0, none⟩), .int .i64 r] w fun v w' => ∃ (sb0 : Option Addr), ∃ (sc0 : Nat), v = .slice sb0 t.1.length sc0 ∧ St w0 (Sl 3 ecI 1 sb0 sc0 t.1 :: arena_Arena.R p_a_ al_a_ t.2 :: As) w' := by
  rw [pairing_All] at hm
  refine enter (args := [.pointer (some ⟨p_a_, 0, none⟩), .int .i64 r]) Tryz.func104 rfl rfl rfl fun a hE => ?_
  refine Runs.seq ?_
  refine Runs.region ?_
  refine WR.seg hE 1 [] [0, 1] (Lo := [(0, .pointer (some ⟨p_a_, 0, none⟩)), (1, .int .i64 r)]) (obs := []) rfl (by kernel_rfl) trivial fun a hE => ?_
  refine WR.done rfl ?_
  refine Runs.seq ?_
  refine Runs.seq ?_
  refine Runs.region ?_
  refine WR.seg hE 2 [] [0, 1, 6] (Lo := [(0, .pointer (some ⟨p_a_, 0, none⟩)), (1, .int .i64 r), (6, .bool false)]) (obs := []) rfl (by kernel_rfl) trivial fun a hE => ?_
  refine WR.done rfl ?_
  refine Runs.condF hE rfl ?_
  refine Runs.skip ?_
  refine Runs.seq ?_
  refine Runs.region ?_
  refine WR.seg hE 3 [] [7, 8, 9] (Lo := [(7, .pointer (some ⟨p_a_, 0, none⟩)), (8, .pointer (some ⟨p_a_, 0, none⟩)), (9, .int .i64 r)]) (obs := []) rfl (by kernel_rfl) trivial fun a hE => ?_
  obtain ⟨t_, et_, hm⟩ := bind_some hm
  refine WR.eff hE rfl rfl rfl rfl (OpTo.fn hE rfl rfl Tryz.call149 (pairing_nodes_ok et_ H)) ?_
  rintro _ w ⟨sb, sc, rfl, H⟩ a hE
  obtain ⟨t_1, et_1, hm⟩ := bind_some hm
  replace H := H.t1
  refine WR.eff hE rfl rfl rfl rfl (OpTo.fn hE rfl rfl Tryz.call127 (node_Items_ok (hX_l := (sl_rd 3 ecI 1 _ _ _)) (hC_l := (H.slCap 1 rfl).1) et_1 H)) ?_
  rintro _ w ⟨sb1, sc1, rfl, H⟩ a hE
  refine WR.seg hE 6 [] [4] (Lo := [(4, .slice sb1 t_1.1.length sc1)]) (obs := []) rfl (by kernel_rfl) trivial fun a hE => ?_
  refine WR.done rfl ?_
  refine Runs.ret hE Tryz.func104 rfl rfl ?_
  cases hm
  exact ⟨sb1, sc1, rfl, H.x2.t1.t1⟩

theorem kind_All_ok {w0 w : World} {As : List HP} {k : Nat} {k_ : Int} {p_a_ : Nat} {al_a_ : arena_Arena.A} {a_ : arena_Arena} {r : Int} {t : (List Int) × arena_Arena}  (hm : kind_All k k_ a_ r = some t) (H : St w0 (arena_Arena.R p_a_ al_a_ a_ :: As) w) :
    CallsR Tryz.prog 47 #[.int .i64 k_, .pointer (some ⟨p_a_, 0, none⟩), .int .i64 r] w fun v w' => ∃ (sb0 : Option Addr), ∃ (sc0 : Nat), v = .slice sb0 t.1.length sc0 ∧ St w0 (Sl 3 ecI 1 sb0 sc0 t.1 :: arena_Arena.R p_a_ al_a_ t.2 :: As) w' := by
  rw [kind_All] at hm
  refine enter (args := [.int .i64 k_, .pointer (some ⟨p_a_, 0, none⟩), .int .i64 r]) Tryz.func47 rfl rfl rfl fun a hE => ?_
  refine Runs.seq ?_
  refine Runs.region ?_
  refine WR.seg hE 1 [] [0, 1, 2] (Lo := [(0, .int .i64 k_), (1, .pointer (some ⟨p_a_, 0, none⟩)), (2, .int .i64 r)]) (obs := []) rfl (by kernel_rfl) trivial fun a hE => ?_
  refine WR.done rfl ?_
  refine Runs.seq ?_
  refine Runs.seq ?_
  refine Runs.region ?_
  refine WR.seg hE 1 [] [1, 2, 7] (Lo := [(1, .pointer (some ⟨p_a_, 0, none⟩)), (2, .int .i64 r), (7, .int .i64 k_)]) (obs := []) rfl (by kernel_rfl) trivial fun a hE => ?_
  refine WR.done rfl ?_
  refine Runs.block ?_
  refine Runs.seq ?_
  refine Runs.region ?_
  refine WR.seg hE 2 [] [1, 2, 7, 8] (Lo := [(1, .pointer (some ⟨p_a_, 0, none⟩)), (2, .int .i64 r), (7, .int .i64 k_), (8, .bool (k_ == 1))]) (obs := []) rfl (by kernel_rfl) trivial fun a hE => ?_
  refine WR.done rfl ?_
  refine Runs.cond hE rfl (fun c => ?_) (fun c => ?_)
  · replace hm := cond_t c hm
    refine Runs.seq ?_
    refine Runs.region ?_
    refine WR.seg hE 2 [] [10, 11] (Lo := [(10, .pointer (some ⟨p_a_, 0, none⟩)), (11, .int .i64 r)]) (obs := []) rfl (by kernel_rfl) trivial fun a hE => ?_
    obtain ⟨t_, et_, hm⟩ := bind_some hm
    refine WR.eff hE rfl rfl rfl rfl (OpTo.fn hE rfl rfl Tryz.call101 (leftist_All_ok et_ H)) ?_
    rintro _ w ⟨sb, sc, rfl, H⟩ a hE
    refine WR.seg hE 4 [] [6] (Lo := [(6, .slice sb t_.1.length sc)]) (obs := []) rfl (by kernel_rfl) trivial fun a hE => ?_
    refine WR.done rfl ?_
    refine Runs.ret hE Tryz.func47 rfl rfl ?_
    cases hm
    exact ⟨sb, sc, rfl, H.t1.t1⟩
  · replace hm := cond_f c hm
    refine Runs.seq ?_
    refine Runs.region ?_
    refine WR.seg hE 2 [] [1, 2, 7, 13] (Lo := [(1, .pointer (some ⟨p_a_, 0, none⟩)), (2, .int .i64 r), (7, .int .i64 k_), (13, .bool (k_ == 2))]) (obs := []) rfl (by kernel_rfl) trivial fun a hE => ?_
    refine WR.done rfl ?_
    refine Runs.cond hE rfl (fun c => ?_) (fun c => ?_)
    · replace hm := cond_t c hm
      refine Runs.seq ?_
      refine Runs.region ?_
      refine WR.seg hE 2 [] [15, 16] (Lo := [(15, .pointer (some ⟨p_a_, 0, none⟩)), (16, .int .i64 r)]) (obs := []) rfl (by kernel_rfl) trivial fun a hE => ?_
      obtain ⟨t_1, et_1, hm⟩ := bind_some hm
      refine WR.eff hE rfl rfl rfl rfl (OpTo.fn hE rfl rfl Tryz.call67 (binomial_All_ok et_1 H)) ?_
      rintro _ w ⟨sb1, sc1, rfl, H⟩ a hE
      refine WR.seg hE 4 [] [6] (Lo := [(6, .slice sb1 t_1.1.length sc1)]) (obs := []) rfl (by kernel_rfl) trivial fun a hE => ?_
      refine WR.done rfl ?_
      refine Runs.ret hE Tryz.func47 rfl rfl ?_
      cases hm
      exact ⟨sb1, sc1, rfl, H.t1.t1⟩
    · replace hm := cond_f c hm
      refine Runs.seq ?_
      refine Runs.region ?_
      refine WR.seg hE 2 [] [1, 2, 7, 18] (Lo := [(1, .pointer (some ⟨p_a_, 0, none⟩)), (2, .int .i64 r), (7, .int .i64 k_), (18, .bool (k_ == 3))]) (obs := []) rfl (by kernel_rfl) trivial fun a hE => ?_
      refine WR.done rfl ?_
      refine Runs.cond hE rfl (fun c => ?_) (fun c => ?_)
      · replace hm := cond_t c hm
        refine Runs.seq ?_
        refine Runs.region ?_
        refine WR.seg hE 2 [] [20, 21] (Lo := [(20, .pointer (some ⟨p_a_, 0, none⟩)), (21, .int .i64 r)]) (obs := []) rfl (by kernel_rfl) trivial fun a hE => ?_
        obtain ⟨t_2, et_2, hm⟩ := bind_some hm
        refine WR.eff hE rfl rfl rfl rfl (OpTo.fn hE rfl rfl Tryz.call102 (skew_All_ok et_2 H)) ?_
        rintro _ w ⟨sb2, sc2, rfl, H⟩ a hE
        refine WR.seg hE 4 [] [6] (Lo := [(6, .slice sb2 t_2.1.length sc2)]) (obs := []) rfl (by kernel_rfl) trivial fun a hE => ?_
        refine WR.done rfl ?_
        refine Runs.ret hE Tryz.func47 rfl rfl ?_
        cases hm
        exact ⟨sb2, sc2, rfl, H.t1.t1⟩
      · replace hm := cond_f c hm
        refine Runs.seq ?_
        refine Runs.region ?_
        refine WR.seg hE 2 [] [1, 2, 7, 23] (Lo := [(1, .pointer (some ⟨p_a_, 0, none⟩)), (2, .int .i64 r), (7, .int .i64 k_), (23, .bool (k_ == 4))]) (obs := []) rfl (by kernel_rfl) trivial fun a hE => ?_
        refine WR.done rfl ?_
        refine Runs.cond hE rfl (fun c => ?_) (fun c => ?_)
        · replace hm := cond_t c hm
          refine Runs.seq ?_
          refine Runs.region ?_
          refine WR.seg hE 2 [] [25, 26] (Lo := [(25, .pointer (some ⟨p_a_, 0, none⟩)), (26, .int .i64 r)]) (obs := []) rfl (by kernel_rfl) trivial fun a hE => ?_
          obtain ⟨t_3, et_3, hm⟩ := bind_some hm
          refine WR.eff hE rfl rfl rfl rfl (OpTo.fn hE rfl rfl Tryz.call103 (fib_All_ok et_3 H)) ?_
          rintro _ w ⟨sb3, sc3, rfl, H⟩ a hE
          refine WR.seg hE 4 [] [6] (Lo := [(6, .slice sb3 t_3.1.length sc3)]) (obs := []) rfl (by kernel_rfl) trivial fun a hE => ?_
          refine WR.done rfl ?_
          refine Runs.ret hE Tryz.func47 rfl rfl ?_
          cases hm
          exact ⟨sb3, sc3, rfl, H.t1.t1⟩
        · replace hm := cond_f c hm
          refine Runs.seq ?_
          refine Runs.region ?_
          refine WR.seg hE 2 [] [1, 2, 28] (Lo := [(1, .pointer (some ⟨p_a_, 0, none⟩)), (2, .int .i64 r), (28, .bool (k_ == 5))]) (obs := []) rfl (by kernel_rfl) trivial fun a hE => ?_
          refine WR.done rfl ?_
          refine Runs.cond hE rfl (fun c => ?_) (fun c => ?_)
          · replace hm := cond_t c hm
            refine Runs.seq ?_
            refine Runs.region ?_
            refine WR.seg hE 2 [] [30, 31] (Lo := [(30, .pointer (some ⟨p_a_, 0, none⟩)), (31, .int .i64 r)]) (obs := []) rfl (by kernel_rfl) trivial fun a hE => ?_
            obtain ⟨t_4, et_4, hm⟩ := bind_some hm
            refine WR.eff hE rfl rfl rfl rfl (OpTo.fn hE rfl rfl Tryz.call104 (pairing_All_ok et_4 H)) ?_
            rintro _ w ⟨sb4, sc4, rfl, H⟩ a hE
            refine WR.seg hE 4 [] [6] (Lo := [(6, .slice sb4 t_4.1.length sc4)]) (obs := []) rfl (by kernel_rfl) trivial fun a hE => ?_
            refine WR.done rfl ?_
            refine Runs.ret hE Tryz.func47 rfl rfl ?_
            cases hm
            exact ⟨sb4, sc4, rfl, H.t1.t1⟩
          · replace hm := cond_f c hm
            refine Runs.skip ?_
            refine Runs.inBlock ?_
            refine Runs.seq ?_
            refine Runs.region ?_
            refine WR.seg hE 1 [] [6] (Lo := [(6, .slice none 0 0)]) (obs := []) rfl (by kernel_rfl) trivial fun a hE => ?_
            refine WR.done rfl ?_
            replace H := H.slNil 3 ecI 1
            refine Runs.ret hE Tryz.func47 rfl rfl ?_
            cases hm
            exact ⟨none, 0, rfl, H.t1.t1⟩

theorem node_Drop_ok {w0 w : World} {As : List HP} {k : Nat} {p_a_ : Nat} {al_a_ : arena_Arena.A} {a_ : arena_Arena} {sb_l : Option Addr} {sc_l : Nat} {l : List Int} {X_l : HP} {t : (List Int) × arena_Arena} (hX_l : SlRd X_l ecI 1 sb_l l) (hC_l : l.length ≤ sc_l) (hm : node_Drop k a_ l = some t) (H : St w0 (arena_Arena.R p_a_ al_a_ a_ :: X_l :: As) w) :
    CallsR Tryz.prog 132 #[.pointer (some ⟨p_a_, 0, none⟩), .slice sb_l l.length sc_l] w fun v w' => ∃ (sb0 : Option Addr), ∃ (sc0 : Nat), ∃ (z_a__free_b : Option Addr), ∃ (z_a__free_c : Nat), v = .slice sb0 t.1.length sc0 ∧ St w0 (Sl 3 ecI 1 sb0 sc0 t.1 :: arena_Arena.R p_a_ (arena_Arena.A.mk al_a_.l_b al_a_.l_c z_a__free_b z_a__free_c al_a_.m__p) t.2 :: X_l :: As) w' := by
  rw [node_Drop] at hm
  refine enter (args := [.pointer (some ⟨p_a_, 0, none⟩), .slice sb_l l.length sc_l]) Tryz.func132 rfl rfl rfl fun a hE => ?_
  refine Runs.seq ?_
  refine Runs.region ?_
  refine WR.seg hE 1 [] [0, 1] (Lo := [(0, .pointer (some ⟨p_a_, 0, none⟩)), (1, .slice sb_l l.length sc_l)]) (obs := []) rfl (by kernel_rfl) trivial fun a hE => ?_
  refine WR.done rfl ?_
  refine Runs.seq ?_
  refine Runs.region ?_
  refine WR.seg hE 2 [] [0, 1, 8, 9] (Lo := [(0, .pointer (some ⟨p_a_, 0, none⟩)), (1, .slice sb_l l.length sc_l), (8, .pointer (some ⟨p_a_, 0, none⟩)), (9, .slice sb_l l.length sc_l)]) (obs := []) rfl (by kernel_rfl) trivial fun a hE => ?_
  obtain ⟨t_, et_, hm⟩ := bind_some hm
  replace H := H.t1.t1
  refine WR.eff hE rfl rfl rfl rfl (OpTo.fn hE rfl rfl Tryz.call127 (node_Items_ok (hX_l := hX_l) (hC_l := hC_l) et_ H)) ?_
  rintro _ w ⟨sb, sc, rfl, H⟩ a hE
  refine WR.seg hE 4 [] [0, 1, 5] (Lo := [(0, .pointer (some ⟨p_a_, 0, none⟩)), (1, .slice sb_l l.length sc_l), (5, .slice sb t_.1.length sc)]) (obs := []) rfl (by kernel_rfl) trivial fun a hE => ?_
  refine WR.done rfl ?_
  refine Runs.seq ?_
  refine Runs.seq ?_
  refine Runs.region ?_
  refine WR.seg hE 3 [] [0, 5, 11, 12, 13] (Lo := [(0, .pointer (some ⟨p_a_, 0, none⟩)), (5, .slice sb t_.1.length sc), (11, .slice sb_l l.length sc_l), (12, .int .i64 (l.length : Int)), (13, .int .i64 0)]) (obs := []) rfl (by kernel_rfl) trivial fun a hE => ?_
  refine WR.done rfl ?_
  obtain ⟨s, es, hm⟩ := bind_some hm
  refine Runs.join (fun a w => ∃ (z2 : Option Addr), ∃ (z3 : Nat), EnvOk 22 a [(5, .slice sb t_.1.length sc)] ∧ St w0 (Sl 3 ecI 1 sb sc t_.1 :: arena_Arena.R p_a_ (arena_Arena.A.mk al_a_.l_b al_a_.l_c z2 z3 al_a_.m__p) s :: X_l :: As) w) (fun hk => ?_) ?_
  · replace hm := es; clear es
    refine Runs.block ?_
    refine Runs.loop (fun m a w => ∃ (x : Int), ∃ (m_ : arena_Arena), ∃ (z4 : Option Addr), ∃ (z5 : Nat), EnvOk 22 a [(0, .pointer (some ⟨p_a_, 0, none⟩)), (5, .slice sb t_.1.length sc), (11, .slice sb_l l.length sc_l), (12, .int .i64 (l.length : Int)), (13, .int .i64 x)] ∧ St w0 (Sl 3 ecI 1 sb sc t_.1 :: arena_Arena.R p_a_ (arena_Arena.A.mk al_a_.l_b al_a_.l_c z4 z5 al_a_.m__p) m_ :: X_l :: As) w ∧ node_Drop_l0 (l.length : Int) t_.1 l m x m_ = some s) k ⟨0, t_.2, al_a_.free_b, al_a_.free_c, hE.sel [0, 5, 11, 12, 13] (by kernel_rfl), H.t2.t2.t2, hm⟩ ?_
    rintro m ih a w ⟨x, m_, z4, z5, hE, H, hm⟩
    cases m with
    | zero => simp [node_Drop_l0] at hm
    | succ m =>
      rw [node_Drop_l0] at hm
      refine Runs.seq ?_
      refine Runs.region ?_
      refine WR.seg hE 1 [] [0, 5, 11, 12, 13, 14] (Lo := [(0, .pointer (some ⟨p_a_, 0, none⟩)), (5, .slice sb t_.1.length sc), (11, .slice sb_l l.length sc_l), (12, .int .i64 (l.length : Int)), (13, .int .i64 x), (14, .bool (decide (x < (l.length : Int))))]) (obs := []) rfl (by kernel_rfl) trivial fun a hE => ?_
      refine WR.done rfl ?_
      refine Runs.seq ?_
      refine Runs.cond hE rfl (fun c => ?_) (fun c => ?_)
      · replace hm := cond_t c hm
        refine Runs.skip ?_
        refine Runs.seq ?_
        refine Runs.block ?_
        refine Runs.seq ?_
        refine Runs.region ?_
        obtain ⟨x2, ex2, hm⟩ := bind_some hm
        obtain ⟨b, o, hs, hb⟩ := SlRd.base hX_l ecI_ok H 2 rfl ex2
        refine WR.seg hE 3 [.pointer (some ⟨b, o, none⟩), .int .i64 x2] [0, 5, 7, 11, 12, 13] (Lo := [(0, .pointer (some ⟨p_a_, 0, none⟩)), (5, .slice sb t_.1.length sc), (7, .int .i64 x2), (11, .slice sb_l l.length sc_l), (12, .int .i64 (l.length : Int)), (13, .int .i64 x)]) (obs := [.p ((sb_l : Option Addr) = some ⟨b, o, none⟩), .p (0 ≤ (x : Int) ∧ (x : Int) < ((l.length : Nat) : Int)), .cell ⟨b, o + (Int.toNat x) * 1, none⟩ (.int .i64 x2)]) rfl (by kernel_rfl) ⟨hs, hb, SlRd.cells hX_l ecI_ok H 2 rfl hs ex2 0 _ rfl, trivial⟩ fun a hE => ?_
        refine WR.done rfl ?_
        refine Runs.region ?_
        refine WR.seg hE 2 [] [0, 5, 11, 12, 13, 17, 18] (Lo := [(0, .pointer (some ⟨p_a_, 0, none⟩)), (5, .slice sb t_.1.length sc), (11, .slice sb_l l.length sc_l), (12, .int .i64 (l.length : Int)), (13, .int .i64 x), (17, .pointer (some ⟨p_a_, 0, none⟩)), (18, .int .i64 x2)]) (obs := []) rfl (by kernel_rfl) trivial fun a hE => ?_
        obtain ⟨t_1, et_1, hm⟩ := bind_some hm
        refine WR.eff hE rfl rfl rfl rfl (OpTo.fn hE rfl rfl Tryz.call123 (node_End_ok et_1 H.t1)) ?_
        rintro _ w ⟨z6, z7, rfl, H⟩ a hE
        refine WR.done rfl ?_
        refine Runs.inBlock ?_
        refine Runs.region ?_
        refine WR.seg hE 2 [] [0, 5, 11, 12, 13] (Lo := [(0, .pointer (some ⟨p_a_, 0, none⟩)), (5, .slice sb t_.1.length sc), (11, .slice sb_l l.length sc_l), (12, .int .i64 (l.length : Int)), (13, .int .i64 (w64 (x + 1)))]) (obs := []) rfl (by kernel_rfl) trivial fun a hE => ?_
        refine WR.done rfl ?_
        exact ih m (Nat.lt_succ_self m) _ _ ⟨w64 (x + 1), t_1.2, z6, z7, hE.sel [0, 5, 11, 12, 13] (by kernel_rfl), H.t2.t1.t2, hm⟩
      · replace hm := cond_f c hm
        refine Runs.exit rfl ?_
        cases hm
        exact hk _ _ ⟨z4, z5, hE.sel [5] (by kernel_rfl), H.t2.t2.t2⟩
  rintro a w ⟨z2, z3, hE, H⟩
  refine Runs.seq ?_
  refine Runs.region ?_
  refine WR.seg hE 2 [] [4] (Lo := [(4, .slice sb t_.1.length sc)]) (obs := []) rfl (by kernel_rfl) trivial fun a hE => ?_
  refine WR.done rfl ?_
  refine Runs.ret hE Tryz.func132 rfl rfl ?_
  cases hm
  exact ⟨sb, sc, z2, z3, rfl, H.t2.t2.t2⟩

theorem leftist_Drop_ok {w0 w : World} {As : List HP} {k : Nat} {p_a_ : Nat} {al_a_ : arena_Arena.A} {a_ : arena_Arena} {r : Int} {t : (List Int) × arena_Arena}  (hm : leftist_Drop k a_ r = some t) (H : St w0 (arena_Arena.R p_a_ al_a_ a_ :: As) w) :
    CallsR Tryz.prog 105 #[.pointer (some ⟨p_a_, 0, none⟩), .int .i64 r] w fun v w' => ∃ (sb0 : Option Addr), ∃ (sc0 : Nat), ∃ (z_a__free_b : Option Addr), ∃ (z_a__free_c : Nat), v = .slice sb0 t.1.length sc0 ∧ St w0 (Sl 3 ecI 1 sb0 sc0 t.1 :: arena_Arena.R p_a_ (arena_Arena.A.mk al_a_.l_b al_a_.l_c z_a__free_b z_a__free_c al_a_.m__p) t.2 :: As) w' := by
  rw [leftist_Drop] at hm
  refine enter (args := [.pointer (some ⟨p_a_, 0, none⟩), .int .i64 r]) Tryz.func105 rfl rfl rfl fun a hE => ?_
  refine Runs.seq ?_
  refine Runs.region ?_
  refine WR.seg hE 1 [] [0, 1] (Lo := [(0, .pointer (some ⟨p_a_, 0, none⟩)), (1, .int .i64 r)]) (obs := []) rfl (by kernel_rfl) trivial fun a hE => ?_
  refine WR.done rfl ?_
  refine Runs.seq ?_
  refine Runs.seq ?_
  refine Runs.region ?_
  refine WR.seg hE 2 [] [0, 1, 6] (Lo := [(0, .pointer (some ⟨p_a_, 0, none⟩)), (1, .int .i64 r), (6, .bool false)]) (obs := []) rfl (by kernel_rfl) trivial fun a hE => ?_
  refine WR.done rfl ?_
  refine Runs.condF hE rfl ?_
  refine Runs.skip ?_
  refine Runs.seq ?_
  refine Runs.region ?_
  refine WR.seg hE 3 [] [7, 8, 9] (Lo := [(7, .pointer (some ⟨p_a_, 0, none⟩)), (8, .pointer (some ⟨p_a_, 0, none⟩)), (9, .int .i64 r)]) (obs := []) rfl (by kernel_rfl) trivial fun a hE => ?_
  obtain ⟨t_, et_, hm⟩ := bind_some hm
  refine WR.eff hE rfl rfl rfl rfl (OpTo.fn hE rfl rfl Tryz.call147 (leftist_nodes_ok et_ H)) ?_
  rintro _ w ⟨sb, sc, rfl, H⟩ a hE
  obtain ⟨t_1, et_1, hm⟩ := bind_some hm
  replace H := H.t1
  refine WR.eff hE rfl rfl rfl rfl (OpTo.fn hE rfl rfl Tryz.call132 (node_Drop_ok (hX_l := (sl_rd 3 ecI 1 _ _ _)) (hC_l := (H.slCap 1 rfl).1) et_1 H)) ?_
  rintro _ w ⟨sb1, sc1, z, z1, rfl, H⟩ a hE
  refine WR.seg hE 6 [] [4] (Lo := [(4, .slice sb1 t_1.1.length sc1)]) (obs := []) rfl (by kernel_rfl) trivial fun a hE => ?_
  refine WR.done rfl ?_
  refine Runs.ret hE Tryz.func105 rfl rfl ?_
  cases hm
  exact ⟨sb1, sc1, z, z1, rfl, H.x2.t1.t1⟩

theorem binomial_Drop_ok {w0 w : World} {As : List HP} {k : Nat} {p_a_ : Nat} {al_a_ : arena_Arena.A} {a_ : arena_Arena} {r : Int} {t : (List Int) × arena_Arena}  (hm : binomial_Drop k a_ r = some t) (H : St w0 (arena_Arena.R p_a_ al_a_ a_ :: As) w) :
    CallsR Tryz.prog 75 #[.pointer (some ⟨p_a_, 0, none⟩), .int .i64 r] w fun v w' => ∃ (sb0 : Option Addr), ∃ (sc0 : Nat), ∃ (z_a__free_b : Option Addr), ∃ (z_a__free_c : Nat), v = .slice sb0 t.1.length sc0 ∧ St w0 (Sl 3 ecI 1 sb0 sc0 t.1 :: arena_Arena.R p_a_ (arena_Arena.A.mk al_a_.l_b al_a_.l_c z_a__free_b z_a__free_c al_a_.m__p) t.2 :: As) w' := by
  rw [binomial_Drop] at hm
  refine enter (args := [.pointer (some ⟨p_a_, 0, none⟩), .int .i64 r]) Tryz.func75 rfl rfl rfl fun a hE => ?_
  refine Runs.seq ?_
  refine Runs.region ?_
  refine WR.seg hE 1 [] [0, 1] (Lo := [(0, .pointer (some ⟨p_a_, 0, none⟩)), (1, .int .i64 r)]) (obs := []) rfl (by kernel_rfl) trivial fun a hE => ?_
  refine WR.done rfl ?_
  refine Runs.seq ?_
  refine Runs.seq ?_
  refine Runs.region ?_
  refine WR.seg hE 2 [] [0, 1, 6] (Lo := [(0, .pointer (some ⟨p_a_, 0, none⟩)), (1, .int .i64 r), (6, .bool false)]) (obs := []) rfl (by kernel_rfl) trivial fun a hE => ?_
  refine WR.done rfl ?_
  refine Runs.condF hE rfl ?_
  refine Runs.skip ?_
  refine Runs.seq ?_
  refine Runs.region ?_
  refine WR.seg hE 3 [] [7, 8, 9] (Lo := [(7, .pointer (some ⟨p_a_, 0, none⟩)), (8, .pointer (some ⟨p_a_, 0, none⟩)), (9, .int .i64 r)]) (obs := []) rfl (by kernel_rfl) trivial fun a hE => ?_
  obtain ⟨t_, et_, hm⟩ := bind_some hm
  refine WR.eff hE rfl rfl rfl rfl (OpTo.fn hE rfl rfl Tryz.call128 (trees_Nodes_ok et_ H)) ?_
  rintro _ w ⟨sb, sc, rfl, H⟩ a hE
  obtain ⟨t_1, et_1, hm⟩ := bind_some hm
  replace H := H.t1
  refine WR.eff hE rfl rfl rfl rfl (OpTo.fn hE rfl rfl Tryz.call132 (node_Drop_ok (hX_l := (sl_rd 3 ecI 1 _ _ _)) (hC_l := (H.slCap 1 rfl).1) et_1 H)) ?_
  rintro _ w ⟨sb1, sc1, z, z1, rfl, H⟩ a hE
  refine WR.seg hE 6 [] [4] (Lo := [(4, .slice sb1 t_1.1.length sc1)]) (obs := []) rfl (by kernel_rfl) trivial fun a hE => ?_
  refine WR.done rfl ?_
  refine Runs.ret hE Tryz.func75 rfl rfl ?_
  cases hm
  exact ⟨sb1, sc1, z, z1, rfl, H.x2.t1.t1⟩

theorem skew_Drop_ok {w0 w : World} {As : List HP} {k : Nat} {p_a_ : Nat} {al_a_ : arena_Arena.A} {a_ : arena_Arena} {r : Int} {t : (List Int) × arena_Arena}  (hm : skew_Drop k a_ r = some t) (H : St w0 (arena_Arena.R p_a_ al_a_ a_ :: As) w) :
    CallsR Tryz.prog 106 #[.pointer (some ⟨p_a_, 0, none⟩), .int .i64 r] w fun v w' => ∃ (sb0 : Option Addr), ∃ (sc0 : Nat), ∃ (z_a__free_b : Option Addr), ∃ (z_a__free_c : Nat), v = .slice sb0 t.1.length sc0 ∧ St w0 (Sl 3 ecI 1 sb0 sc0 t.1 :: arena_Arena.R p_a_ (arena_Arena.A.mk al_a_.l_b al_a_.l_c z_a__free_b z_a__free_c al_a_.m__p) t.2 :: As) w' := by
  rw [skew_Drop] at hm
  refine enter (args := [.pointer (some ⟨p_a_, 0, none⟩), .int .i64 r]) Tryz.func106 rfl rfl rfl fun a hE => ?_
  refine Runs.seq ?_
  refine Runs.region ?_
  refine WR.seg hE 1 [] [0, 1] (Lo := [(0, .pointer (some ⟨p_a_, 0, none⟩)), (1, .int .i64 r)]) (obs := []) rfl (by kernel_rfl) trivial fun a hE => ?_
  refine WR.done rfl ?_
  refine Runs.seq ?_
  refine Runs.seq ?_
  refine Runs.region ?_
  refine WR.seg hE 2 [] [0, 1, 6] (Lo := [(0, .pointer (some ⟨p_a_, 0, none⟩)), (1, .int .i64 r), (6, .bool false)]) (obs := []) rfl (by kernel_rfl) trivial fun a hE => ?_
  refine WR.done rfl ?_
  refine Runs.condF hE rfl ?_
  refine Runs.skip ?_
  refine Runs.seq ?_
  refine Runs.region ?_
  refine WR.seg hE 3 [] [7, 8, 9] (Lo := [(7, .pointer (some ⟨p_a_, 0, none⟩)), (8, .pointer (some ⟨p_a_, 0, none⟩)), (9, .int .i64 r)]) (obs := []) rfl (by kernel_rfl) trivial fun a hE => ?_
  obtain ⟨t_, et_, hm⟩ := bind_some hm
  refine WR.eff hE rfl rfl rfl rfl (OpTo.fn hE rfl rfl Tryz.call128 (trees_Nodes_ok et_ H)) ?_
  rintro _ w ⟨sb, sc, rfl, H⟩ a hE
  obtain ⟨t_1, et_1, hm⟩ := bind_some hm
  replace H := H.t1
  refine WR.eff hE rfl rfl rfl rfl (OpTo.fn hE rfl rfl Tryz.call132 (node_Drop_ok (hX_l := (sl_rd 3 ecI 1 _ _ _)) (hC_l := (H.slCap 1 rfl).1) et_1 H)) ?_
  rintro _ w ⟨sb1, sc1, z, z1, rfl, H⟩ a hE
  refine WR.seg hE 6 [] [4] (Lo := [(4, .slice sb1 t_1.1.length sc1)]) (obs := []) rfl (by kernel_rfl) trivial fun a hE => ?_
  refine WR.done rfl ?_
  refine Runs.ret hE Tryz.func106 rfl rfl ?_
  cases hm
  exact ⟨sb1, sc1, z, z1, rfl, H.x2.t1.t1⟩

theorem fib_Drop_ok {w0 w : World} {As : List HP} {k : Nat} {p_a_ : Nat} {al_a_ : arena_Arena.A} {a_ : arena_Arena} {r : Int} {t : (List Int) × arena_Arena}  (hm : fib_Drop k a_ r = some t) (H : St w0 (arena_Arena.R p_a_ al_a_ a_ :: As) w) :
    CallsR Tryz.prog 107 #[.pointer (some ⟨p_a_, 0, none⟩), .int .i64 r] w fun v w' => ∃ (sb0 : Option Addr), ∃ (sc0 : Nat), ∃ (z_a__free_b : Option Addr), ∃ (z_a__free_c : Nat), v = .slice sb0 t.1.length sc0 ∧ St w0 (Sl 3 ecI 1 sb0 sc0 t.1 :: arena_Arena.R p_a_ (arena_Arena.A.mk al_a_.l_b al_a_.l_c z_a__free_b z_a__free_c al_a_.m__p) t.2 :: As) w' := by
  rw [fib_Drop] at hm
  refine enter (args := [.pointer (some ⟨p_a_, 0, none⟩), .int .i64 r]) Tryz.func107 rfl rfl rfl fun a hE => ?_
  refine Runs.seq ?_
  refine Runs.region ?_
  refine WR.seg hE 1 [] [0, 1] (Lo := [(0, .pointer (some ⟨p_a_, 0, none⟩)), (1, .int .i64 r)]) (obs := []) rfl (by kernel_rfl) trivial fun a hE => ?_
  refine WR.done rfl ?_
  refine Runs.seq ?_
  refine Runs.seq ?_
  refine Runs.region ?_
  refine WR.seg hE 2 [] [0, 1, 6] (Lo := [(0, .pointer (some ⟨p_a_, 0, none⟩)), (1, .int .i64 r), (6, .bool false)]) (obs := []) rfl (by kernel_rfl) trivial fun a hE => ?_
  refine WR.done rfl ?_
  refine Runs.condF hE rfl ?_
  refine Runs.skip ?_
  refine Runs.seq ?_
  refine Runs.region ?_
  refine WR.seg hE 3 [] [7, 8, 9] (Lo := [(7, .pointer (some ⟨p_a_, 0, none⟩)), (8, .pointer (some ⟨p_a_, 0, none⟩)), (9, .int .i64 r)]) (obs := []) rfl (by kernel_rfl) trivial fun a hE => ?_
  obtain ⟨t_, et_, hm⟩ := bind_some hm
  refine WR.eff hE rfl rfl rfl rfl (OpTo.fn hE rfl rfl Tryz.call148 (fib_nodes_ok et_ H)) ?_
  rintro _ w ⟨sb, sc, rfl, H⟩ a hE
  obtain ⟨t_1, et_1, hm⟩ := bind_some hm
  replace H := H.t1
  refine WR.eff hE rfl rfl rfl rfl (OpTo.fn hE rfl rfl Tryz.call132 (node_Drop_ok (hX_l := (sl_rd 3 ecI 1 _ _ _)) (hC_l := (H.slCap 1 rfl).1) et_1 H)) ?_
  rintro _ w ⟨sb1, sc1, z, z1, rfl, H⟩ a hE
  refine WR.seg hE 6 [] [4] (Lo := [(4, .slice sb1 t_1.1.length sc1)]) (obs := []) rfl (by kernel_rfl) trivial fun a hE => ?_
  refine WR.done rfl ?_
  refine Runs.ret hE Tryz.func107 rfl rfl ?_
  cases hm
  exact ⟨sb1, sc1, z, z1, rfl, H.x2.t1.t1⟩

theorem pairing_Drop_ok {w0 w : World} {As : List HP} {k : Nat} {p_a_ : Nat} {al_a_ : arena_Arena.A} {a_ : arena_Arena} {r : Int} {t : (List Int) × arena_Arena}  (hm : pairing_Drop k a_ r = some t) (H : St w0 (arena_Arena.R p_a_ al_a_ a_ :: As) w) :
    CallsR Tryz.prog 108 #[.pointer (some ⟨p_a_, 0, none⟩), .int .i64 r] w fun v w' => ∃ (sb0 : Option Addr), ∃ (sc0 : Nat), ∃ (z_a__free_b : Option Addr), ∃ (z_a__free_c : Nat), v = .slice sb0 t.1.length sc0 ∧ St w0 (Sl 3 ecI 1 sb0 sc0 t.1 :: arena_Arena.R p_a_ (arena_Arena.A.mk al_a_.l_b al_a_.l_c z_a__free_b z_a__free_c al_a_.m__p) t.2 :: As) w' := by
  rw [pairing_Drop] at hm
  refine enter (args := [.pointer (some ⟨p_a_, 0, none⟩), .int .i64 r]) Tryz.func108 rfl rfl rfl fun a hE => ?_
  refine Runs.seq ?_
  refine Runs.region ?_
  refine WR.seg hE 1 [] [0, 1] (Lo := [(0, .pointer (some ⟨p_a_, 0, none⟩)), (1, .int .i64 r)]) (obs := []) rfl (by kernel_rfl) trivial fun a hE => ?_
  refine WR.done rfl ?_
  refine Runs.seq ?_
  refine Runs.seq ?_
  refine Runs.region ?_
  refine WR.seg hE 2 [] [0, 1, 6] (Lo := [(0, .pointer (some ⟨p_a_, 0, none⟩)), (1, .int .i64 r), (6, .bool false)]) (obs := []) rfl (by kernel_rfl) trivial fun a hE => ?_
  refine WR.done rfl ?_
  refine Runs.condF hE rfl ?_
  refine Runs.skip ?_
  refine Runs.seq ?_
  refine Runs.region ?_
  refine WR.seg hE 3 [] [7, 8, 9] (Lo := [(7, .pointer (some ⟨p_a_, 0, none⟩)), (8, .pointer (some ⟨p_a_, 0, none⟩)), (9, .int .i64 r)]) (obs := []) rfl (by kernel_rfl) trivial fun a hE => ?_
  obtain ⟨t_, et_, hm⟩ := bind_some hm
  refine WR.eff hE rfl rfl rfl rfl (OpTo.fn hE rfl rfl Tryz.call149 (pairing_nodes_ok et_ H)) ?_
  rintro _ w ⟨sb, sc, rfl, H⟩ a hE
  obtain ⟨t_1, et_1, hm⟩ := bind_some hm
  replace H := H.t1
  refine WR.eff hE rfl rfl rfl rfl (OpTo.fn hE rfl rfl Tryz.call132 (node_Drop_ok (hX_l := (sl_rd 3 ecI 1 _ _ _)) (hC_l := (H.slCap 1 rfl).1) et_1 H)) ?_
  rintro _ w ⟨sb1, sc1, z, z1, rfl, H⟩ a hE
  refine WR.seg hE 6 [] [4] (Lo := [(4, .slice sb1 t_1.1.length sc1)]) (obs := []) rfl (by kernel_rfl) trivial fun a hE => ?_
  refine WR.done rfl ?_
  refine Runs.ret hE Tryz.func108 rfl rfl ?_
  cases hm
  exact ⟨sb1, sc1, z, z1, rfl, H.x2.t1.t1⟩

theorem kind_Drop_ok {w0 w : World} {As : List HP} {k : Nat} {k_ : Int} {p_a_ : Nat} {al_a_ : arena_Arena.A} {a_ : arena_Arena} {r : Int} {t : (List Int) × arena_Arena}  (hm : kind_Drop k k_ a_ r = some t) (H : St w0 (arena_Arena.R p_a_ al_a_ a_ :: As) w) :
    CallsR Tryz.prog 48 #[.int .i64 k_, .pointer (some ⟨p_a_, 0, none⟩), .int .i64 r] w fun v w' => ∃ (sb0 : Option Addr), ∃ (sc0 : Nat), ∃ (z_a__free_b : Option Addr), ∃ (z_a__free_c : Nat), v = .slice sb0 t.1.length sc0 ∧ St w0 (Sl 3 ecI 1 sb0 sc0 t.1 :: arena_Arena.R p_a_ (arena_Arena.A.mk al_a_.l_b al_a_.l_c z_a__free_b z_a__free_c al_a_.m__p) t.2 :: As) w' := by
  rw [kind_Drop] at hm
  refine enter (args := [.int .i64 k_, .pointer (some ⟨p_a_, 0, none⟩), .int .i64 r]) Tryz.func48 rfl rfl rfl fun a hE => ?_
  refine Runs.seq ?_
  refine Runs.region ?_
  refine WR.seg hE 1 [] [0, 1, 2] (Lo := [(0, .int .i64 k_), (1, .pointer (some ⟨p_a_, 0, none⟩)), (2, .int .i64 r)]) (obs := []) rfl (by kernel_rfl) trivial fun a hE => ?_
  refine WR.done rfl ?_
  refine Runs.seq ?_
  refine Runs.seq ?_
  refine Runs.region ?_
  refine WR.seg hE 1 [] [1, 2, 7] (Lo := [(1, .pointer (some ⟨p_a_, 0, none⟩)), (2, .int .i64 r), (7, .int .i64 k_)]) (obs := []) rfl (by kernel_rfl) trivial fun a hE => ?_
  refine WR.done rfl ?_
  refine Runs.block ?_
  refine Runs.seq ?_
  refine Runs.region ?_
  refine WR.seg hE 2 [] [1, 2, 7, 8] (Lo := [(1, .pointer (some ⟨p_a_, 0, none⟩)), (2, .int .i64 r), (7, .int .i64 k_), (8, .bool (k_ == 1))]) (obs := []) rfl (by kernel_rfl) trivial fun a hE => ?_
  refine WR.done rfl ?_
  refine Runs.cond hE rfl (fun c => ?_) (fun c => ?_)
  · replace hm := cond_t c hm
    refine Runs.seq ?_
    refine Runs.region ?_
    refine WR.seg hE 2 [] [10, 11] (Lo := [(10, .pointer (some ⟨p_a_, 0, none⟩)), (11, .int .i64 r)]) (obs := []) rfl (by kernel_rfl) trivial fun a hE => ?_
    obtain ⟨t_, et_, hm⟩ := bind_some hm
    refine WR.eff hE rfl rfl rfl rfl (OpTo.fn hE rfl rfl Tryz.call105 (leftist_Drop_ok et_ H)) ?_
    rintro _ w ⟨sb, sc, z, z1, rfl, H⟩ a hE
    refine WR.seg hE 4 [] [6] (Lo := [(6, .slice sb t_.1.length sc)]) (obs := []) rfl (by kernel_rfl) trivial fun a hE => ?_
    refine WR.done rfl ?_
    refine Runs.ret hE Tryz.func48 rfl rfl ?_
    cases hm
    exact ⟨sb, sc, z, z1, rfl, H.t1.t1⟩
  · replace hm := cond_f c hm
    refine Runs.seq ?_
    refine Runs.region ?_
    refine WR.seg hE 2 [] [1, 2, 7, 13] (Lo := [(1, .pointer (some ⟨p_a_, 0, none⟩)), (2, .int .i64 r), (7, .int .i64 k_), (13, .bool (k_ == 2))]) (obs := []) rfl (by kernel_rfl) trivial fun a hE => ?_
    refine WR.done rfl ?_
    refine Runs.cond hE rfl (fun c => ?_) (fun c => ?_)
    · replace hm := cond_t c hm
      refine Runs.seq ?_
      refine Runs.region ?_
      refine WR.seg hE 2 [] [15, 16] (Lo := [(15, .pointer (some ⟨p_a_, 0, none⟩)), (16, .int .i64 r)]) (obs := []) rfl (by kernel_rfl) trivial fun a hE => ?_
      obtain ⟨t_1, et_1, hm⟩ := bind_some hm
      refine WR.eff hE rfl rfl rfl rfl (OpTo.fn hE rfl rfl Tryz.call75 (binomial_Drop_ok et_1 H)) ?_
      rintro _ w ⟨sb1, sc1, z2, z3, rfl, H⟩ a hE
      refine WR.seg hE 4 [] [6] (Lo := [(6, .slice sb1 t_1.1.length sc1)]) (obs := []) rfl (by kernel_rfl) trivial fun a hE => ?_
      refine WR.done rfl ?_
      refine Runs.ret hE Tryz.func48 rfl rfl ?_
      cases hm
      exact ⟨sb1, sc1, z2, z3, rfl, H.t1.t1⟩
    · replace hm := cond_f c hm
      refine Runs.seq ?_
      refine Runs.region ?_
      refine WR.seg hE 2 [] [1, 2, 7, 18] (Lo := [(1, .pointer (some ⟨p_a_, 0, none⟩)), (2, .int .i64 r), (7, .int .i64 k_), (18, .bool (k_ == 3))]) (obs := []) rfl (by kernel_rfl) trivial fun a hE => ?_
      refine WR.done rfl ?_
      refine Runs.cond hE rfl (fun c => ?_) (fun c => ?_)
      · replace hm := cond_t c hm
        refine Runs.seq ?_
        refine Runs.region ?_
        refine WR.seg hE 2 [] [20, 21] (Lo := [(20, .pointer (some ⟨p_a_, 0, none⟩)), (21, .int .i64 r)]) (obs := []) rfl (by kernel_rfl) trivial fun a hE => ?_
        obtain ⟨t_2, et_2, hm⟩ := bind_some hm
        refine WR.eff hE rfl rfl rfl rfl (OpTo.fn hE rfl rfl Tryz.call106 (skew_Drop_ok et_2 H)) ?_
        rintro _ w ⟨sb2, sc2, z4, z5, rfl, H⟩ a hE
        refine WR.seg hE 4 [] [6] (Lo := [(6, .slice sb2 t_2.1.length sc2)]) (obs := []) rfl (by kernel_rfl) trivial fun a hE => ?_
        refine WR.done rfl ?_
        refine Runs.ret hE Tryz.func48 rfl rfl ?_
        cases hm
        exact ⟨sb2, sc2, z4, z5, rfl, H.t1.t1⟩
      · replace hm := cond_f c hm
        refine Runs.seq ?_
        refine Runs.region ?_
        refine WR.seg hE 2 [] [1, 2, 7, 23] (Lo := [(1, .pointer (some ⟨p_a_, 0, none⟩)), (2, .int .i64 r), (7, .int .i64 k_), (23, .bool (k_ == 4))]) (obs := []) rfl (by kernel_rfl) trivial fun a hE => ?_
        refine WR.done rfl ?_
        refine Runs.cond hE rfl (fun c => ?_) (fun c => ?_)
        · replace hm := cond_t c hm
          refine Runs.seq ?_
          refine Runs.region ?_
          refine WR.seg hE 2 [] [25, 26] (Lo := [(25, .pointer (some ⟨p_a_, 0, none⟩)), (26, .int .i64 r)]) (obs := []) rfl (by kernel_rfl) trivial fun a hE => ?_
          obtain ⟨t_3, et_3, hm⟩ := bind_some hm
          refine WR.eff hE rfl rfl rfl rfl (OpTo.fn hE rfl rfl Tryz.call107 (fib_Drop_ok et_3 H)) ?_
          rintro _ w ⟨sb3, sc3, z6, z7, rfl, H⟩ a hE
          refine WR.seg hE 4 [] [6] (Lo := [(6, .slice sb3 t_3.1.length sc3)]) (obs := []) rfl (by kernel_rfl) trivial fun a hE => ?_
          refine WR.done rfl ?_
          refine Runs.ret hE Tryz.func48 rfl rfl ?_
          cases hm
          exact ⟨sb3, sc3, z6, z7, rfl, H.t1.t1⟩
        · replace hm := cond_f c hm
          refine Runs.seq ?_
          refine Runs.region ?_
          refine WR.seg hE 2 [] [1, 2, 28] (Lo := [(1, .pointer (some ⟨p_a_, 0, none⟩)), (2, .int .i64 r), (28, .bool (k_ == 5))]) (obs := []) rfl (by kernel_rfl) trivial fun a hE => ?_
          refine WR.done rfl ?_
          refine Runs.cond hE rfl (fun c => ?_) (fun c => ?_)
          · replace hm := cond_t c hm
            refine Runs.seq ?_
            refine Runs.region ?_
            refine WR.seg hE 2 [] [30, 31] (Lo := [(30, .pointer (some ⟨p_a_, 0, none⟩)), (31, .int .i64 r)]) (obs := []) rfl (by kernel_rfl) trivial fun a hE => ?_
            obtain ⟨t_4, et_4, hm⟩ := bind_some hm
            refine WR.eff hE rfl rfl rfl rfl (OpTo.fn hE rfl rfl Tryz.call108 (pairing_Drop_ok et_4 H)) ?_
            rintro _ w ⟨sb4, sc4, z8, z9, rfl, H⟩ a hE
            refine WR.seg hE 4 [] [6] (Lo := [(6, .slice sb4 t_4.1.length sc4)]) (obs := []) rfl (by kernel_rfl) trivial fun a hE => ?_
            refine WR.done rfl ?_
            refine Runs.ret hE Tryz.func48 rfl rfl ?_
            cases hm
            exact ⟨sb4, sc4, z8, z9, rfl, H.t1.t1⟩
          · replace hm := cond_f c hm
            refine Runs.skip ?_
            refine Runs.inBlock ?_
            refine Runs.seq ?_
            refine Runs.region ?_
            refine WR.seg hE 1 [] [6] (Lo := [(6, .slice none 0 0)]) (obs := []) rfl (by kernel_rfl) trivial fun a hE => ?_
            refine WR.done rfl ?_
            replace H := H.slNil 3 ecI 1
            refine Runs.ret hE Tryz.func48 rfl rfl ?_
            cases hm
            exact ⟨none, 0, al_a_.free_b, al_a_.free_c, rfl, H.t1.t1⟩

end Go.Proofs.YthblgkpmefpllaaGreat
