import Derived.Test.YthblgkpmefpllaaGreatKp1
set_option linter.unusedVariables false
set_option linter.unusedSimpArgs false
set_option maxRecDepth 10000
set_option maxHeartbeats 4000000
namespace Go.Proofs.YthblgkpmefpllaaGreat
open Go.Th

theorem fib_Push_ok {w0 w : World} {As : List HP} {k : Nat} {p_a_ : Nat} {al_a_ : arena_Arena.A} {a_ : arena_Arena} {r : Int} {i : Int} {t : Int × Bool × arena_Arena}  (hm : fib_Push k a_ r i = some t) (H : St w0 (arena_Arena.R p_a_ al_a_ a_ :: As) w) :
    CallsR Tryz.prog 79 #[.pointer (some ⟨p_a_, 0, none⟩), .int .i64 r, .int .i64 i] w fun v w' => ∃ (z_a__free_b : Option Addr), ∃ (z_a__free_c : Nat), v = .tuple #[.int .i64 t.1, .bool t.2.1] ∧ St w0 (arena_Arena.R p_a_ (arena_Arena.A.mk al_a_.l_b al_a_.l_c z_a__free_b z_a__free_c al_a_.m__p) t.2.2 :: As) w' := by
  rw [fib_Push] at hm
  refine enter (args := [.pointer (some ⟨p_a_, 0, none⟩), .int .i64 r, .int .i64 i]) Tryz.func79 rfl rfl rfl fun a hE => ?_
  refine Runs.seq ?_
  refine Runs.region ?_
  refine WR.seg hE 2 [] [0, 1, 2] (Lo := [(0, .pointer (some ⟨p_a_, 0, none⟩)), (1, .int .i64 r), (2, .int .i64 i)]) (obs := []) rfl (by kernel_rfl) trivial fun a hE => ?_
  refine WR.done rfl ?_
  refine Runs.seq ?_
  refine Runs.seq ?_
  refine Runs.region ?_
  refine WR.seg hE 2 [] [0, 1, 2, 11] (Lo := [(0, .pointer (some ⟨p_a_, 0, none⟩)), (1, .int .i64 r), (2, .int .i64 i), (11, .bool false)]) (obs := []) rfl (by kernel_rfl) trivial fun a hE => ?_
  refine WR.done rfl ?_
  refine Runs.condF hE rfl ?_
  refine Runs.skip ?_
  refine Runs.seq ?_
  refine Runs.region ?_
  refine WR.seg hE 2 [] [0, 1, 13, 14] (Lo := [(0, .pointer (some ⟨p_a_, 0, none⟩)), (1, .int .i64 r), (13, .pointer (some ⟨p_a_, 0, none⟩)), (14, .int .i64 i)]) (obs := []) rfl (by kernel_rfl) trivial fun a hE => ?_
  obtain ⟨t_, et_, hm⟩ := bind_some hm
  refine WR.eff hE rfl rfl rfl rfl (OpTo.fn hE rfl rfl Tryz.call54 (node_New_ok et_ H)) ?_
  rintro _ w ⟨z, z1, rfl, H⟩ a hE
  refine WR.seg hE 8 [] [0, 1, 8, 9] (Lo := [(0, .pointer (some ⟨p_a_, 0, none⟩)), (1, .int .i64 r), (8, .int .i64 t_.1), (9, .bool t_.2.1)]) (obs := []) rfl (by kernel_rfl) trivial fun a hE => ?_
  refine WR.done rfl ?_
  refine Runs.seq ?_
  refine Runs.seq ?_
  refine Runs.region ?_
  refine WR.seg hE 2 [] [0, 1, 8, 19] (Lo := [(0, .pointer (some ⟨p_a_, 0, none⟩)), (1, .int .i64 r), (8, .int .i64 t_.1), (19, .bool (!t_.2.1))]) (obs := []) rfl (by kernel_rfl) trivial fun a hE => ?_
  refine WR.done rfl ?_
  refine Runs.cond hE rfl (fun c => ?_) (fun c => ?_)
  · replace hm := cond_t c hm
    refine Runs.seq ?_
    refine Runs.region ?_
    refine WR.seg hE 3 [] [6, 7] (Lo := [(6, .int .i64 r), (7, .bool false)]) (obs := []) rfl (by kernel_rfl) trivial fun a hE => ?_
    refine WR.done rfl ?_
    refine Runs.ret hE Tryz.func79 rfl rfl ?_
    cases hm
    exact ⟨z, z1, rfl, H⟩
  · replace hm := cond_f c hm
    refine Runs.skip ?_
    refine Runs.seq ?_
    refine Runs.region ?_
    refine WR.seg hE 2 [] [0, 1, 8, 21, 22] (Lo := [(0, .pointer (some ⟨p_a_, 0, none⟩)), (1, .int .i64 r), (8, .int .i64 t_.1), (21, .pointer (some ⟨p_a_, 0, none⟩)), (22, .int .i64 t_.1)]) (obs := []) rfl (by kernel_rfl) trivial fun a hE => ?_
    obtain ⟨t_1, et_1, hm⟩ := bind_some hm
    refine WR.eff hE rfl rfl rfl rfl (OpTo.fn hE rfl rfl Tryz.call135 (chain_One_ok et_1 H)) ?_
    rintro _ w ⟨rfl, hf, H⟩ a hE
    refine WR.done rfl ?_
    refine Runs.seq ?_
    refine Runs.seq ?_
    refine Runs.region ?_
    refine WR.seg hE 2 [] [0, 1, 8, 25] (Lo := [(0, .pointer (some ⟨p_a_, 0, none⟩)), (1, .int .i64 r), (8, .int .i64 t_.1), (25, .bool (r == (-1)))]) (obs := []) rfl (by kernel_rfl) trivial fun a hE => ?_
    refine WR.done rfl ?_
    refine Runs.cond hE rfl (fun c => ?_) (fun c => ?_)
    · replace hm := cond_t c hm
      refine Runs.seq ?_
      refine Runs.region ?_
      refine WR.seg hE 3 [] [6, 7] (Lo := [(6, .int .i64 t_.1), (7, .bool true)]) (obs := []) rfl (by kernel_rfl) trivial fun a hE => ?_
      refine WR.done rfl ?_
      refine Runs.ret hE Tryz.func79 rfl rfl ?_
      cases hm
      exact ⟨z, z1, rfl, H⟩
    · replace hm := cond_f c hm
      refine Runs.skip ?_
      refine Runs.seq ?_
      refine Runs.region ?_
      refine WR.seg hE 3 [] [0, 1, 8, 27, 28, 29] (Lo := [(0, .pointer (some ⟨p_a_, 0, none⟩)), (1, .int .i64 r), (8, .int .i64 t_.1), (27, .pointer (some ⟨p_a_, 0, none⟩)), (28, .int .i64 r), (29, .int .i64 t_.1)]) (obs := []) rfl (by kernel_rfl) trivial fun a hE => ?_
      obtain ⟨t_2, et_2, hm⟩ := bind_some hm
      refine WR.eff hE rfl rfl rfl rfl (OpTo.fn hE rfl rfl Tryz.call136 (chain_Put_ok et_2 H)) ?_
      rintro _ w ⟨rfl, H⟩ a hE
      refine WR.done rfl ?_
      refine Runs.seq ?_
      refine Runs.region ?_
      refine WR.seg hE 3 [] [31, 32, 33] (Lo := [(31, .pointer (some ⟨p_a_, 0, none⟩)), (32, .int .i64 r), (33, .int .i64 t_.1)]) (obs := []) rfl (by kernel_rfl) trivial fun a hE => ?_
      obtain ⟨t_3, et_3, hm⟩ := bind_some hm
      refine WR.eff hE rfl rfl rfl rfl (OpTo.fn hE rfl rfl Tryz.call137 (fib_lesser_ok et_3 H)) ?_
      rintro _ w ⟨rfl, H⟩ a hE
      refine WR.seg hE 6 [] [6, 7] (Lo := [(6, .int .i64 t_3.1), (7, .bool true)]) (obs := []) rfl (by kernel_rfl) trivial fun a hE => ?_
      refine WR.done rfl ?_
      refine Runs.ret hE Tryz.func79 rfl rfl ?_
      cases hm
      exact ⟨z, z1, rfl, H⟩

theorem pairing_link_ok {w0 w : World} {As : List HP} {k : Nat} {p_a_ : Nat} {al_a_ : arena_Arena.A} {a_ : arena_Arena} {n : Int} {m_ : Int} {t : Int × arena_Arena}  (hm : pairing_link k a_ n m_ = some t) (H : St w0 (arena_Arena.R p_a_ al_a_ a_ :: As) w) :
    CallsR Tryz.prog 138 #[.pointer (some ⟨p_a_, 0, none⟩), .int .i64 n, .int .i64 m_] w fun v w' => v = .int .i64 t.1 ∧ St w0 (arena_Arena.R p_a_ al_a_ t.2 :: As) w' := by
  rw [pairing_link] at hm
  refine enter (args := [.pointer (some ⟨p_a_, 0, none⟩), .int .i64 n, .int .i64 m_]) Tryz.func138 rfl rfl rfl fun a hE => ?_
  refine Runs.seq ?_
  refine Runs.region ?_
  refine WR.seg hE 1 [] [0, 1, 2] (Lo := [(0, .pointer (some ⟨p_a_, 0, none⟩)), (1, .int .i64 n), (2, .int .i64 m_)]) (obs := []) rfl (by kernel_rfl) trivial fun a hE => ?_
  refine WR.done rfl ?_
  refine Runs.seq ?_
  refine Runs.block ?_
  refine Runs.seq ?_
  refine Runs.region ?_
  refine WR.seg hE 3 [] [0, 1, 2, 8] (Lo := [(0, .pointer (some ⟨p_a_, 0, none⟩)), (1, .int .i64 n), (2, .int .i64 m_), (8, .bool (n == (-1)))]) (obs := []) rfl (by kernel_rfl) trivial fun a hE => ?_
  refine WR.done rfl ?_
  refine Runs.cond hE rfl (fun c => ?_) (fun c => ?_)
  · replace hm := cond_t c hm
    refine Runs.seq ?_
    refine Runs.region ?_
    refine WR.seg hE 2 [] [6] (Lo := [(6, .int .i64 m_)]) (obs := []) rfl (by kernel_rfl) trivial fun a hE => ?_
    refine WR.done rfl ?_
    refine Runs.ret hE Tryz.func138 rfl rfl ?_
    cases hm
    exact ⟨rfl, H⟩
  · replace hm := cond_f c hm
    refine Runs.seq ?_
    refine Runs.join (fun a w => EnvOk 49 a [(0, .pointer (some ⟨p_a_, 0, none⟩)), (1, .int .i64 n), (2, .int .i64 m_), (12, .bool ((m_ == (-1)) || (n == m_)))] ∧ St w0 (arena_Arena.R p_a_ al_a_ a_ :: As) w) (fun hk => ?_) ?_
    · clear hm
      refine Runs.region ?_
      refine WR.seg hE 3 [] [0, 1, 2, 15] (Lo := [(0, .pointer (some ⟨p_a_, 0, none⟩)), (1, .int .i64 n), (2, .int .i64 m_), (15, .bool (m_ == (-1)))]) (obs := []) rfl (by kernel_rfl) trivial fun a hE => ?_
      rcases Bool.eq_false_or_eq_true (m_ == (-1)) with c | c
      · replace hE := hE.dec 15 c (by kernel_rfl)
        have c_ := c
        refine WR.seg hE 8 [] [0, 1, 2, 12] (Lo := [(0, .pointer (some ⟨p_a_, 0, none⟩)), (1, .int .i64 n), (2, .int .i64 m_), (12, .bool true)]) (obs := []) rfl (by kernel_rfl) trivial fun a hE => ?_
        refine WR.done rfl ?_
        refine hk _ _ ⟨?_, H⟩
        try rw [c_] at hE
        try rw [c_]
        exact hE.sel [0, 1, 2, 12] (by kernel_rfl)
      · replace hE := hE.dec 15 c (by kernel_rfl)
        have c_1 := c
        refine WR.seg hE 8 [] [0, 1, 2, 12] (Lo := [(0, .pointer (some ⟨p_a_, 0, none⟩)), (1, .int .i64 n), (2, .int .i64 m_), (12, .bool (n == m_))]) (obs := []) rfl (by kernel_rfl) trivial fun a hE => ?_
        refine WR.done rfl ?_
        refine hk _ _ ⟨?_, H⟩
        try rw [c_1] at hE
        try rw [c_1]
        exact hE.sel [0, 1, 2, 12] (by kernel_rfl)
    rintro a w ⟨hE, H⟩
    refine Runs.cond hE rfl (fun c => ?_) (fun c => ?_)
    · replace hm := cond_t c hm
      refine Runs.seq ?_
      refine Runs.region ?_
      refine WR.seg hE 2 [] [6] (Lo := [(6, .int .i64 n)]) (obs := []) rfl (by kernel_rfl) trivial fun a hE => ?_
      refine WR.done rfl ?_
      refine Runs.ret hE Tryz.func138 rfl rfl ?_
      cases hm
      exact ⟨rfl, H⟩
    · replace hm := cond_f c hm
      refine Runs.skip ?_
      refine Runs.inBlock ?_
      refine Runs.seq ?_
      refine Runs.seq ?_
      refine Runs.region ?_
      refine WR.seg hE 3 [] [0, 1, 2, 21, 22, 23] (Lo := [(0, .pointer (some ⟨p_a_, 0, none⟩)), (1, .int .i64 n), (2, .int .i64 m_), (21, .pointer (some ⟨p_a_, 0, none⟩)), (22, .int .i64 m_), (23, .int .i64 n)]) (obs := []) rfl (by kernel_rfl) trivial fun a hE => ?_
      obtain ⟨t_, et_, hm⟩ := bind_some hm
      refine WR.eff hE rfl rfl rfl rfl (OpTo.fn hE rfl rfl Tryz.call124 (node_Before_ok et_ H)) ?_
      rintro _ w ⟨rfl, H⟩ a hE
      refine WR.done rfl ?_
      obtain ⟨s, es, hm⟩ := bind_some hm
      refine Runs.join (fun a w => EnvOk 49 a [(0, .pointer (some ⟨p_a_, 0, none⟩)), (1, .int .i64 s.1), (2, .int .i64 s.2)] ∧ St w0 (arena_Arena.R p_a_ al_a_ t_.2 :: As) w) (fun hk => ?_) ?_
      · replace hm := es; clear es
        refine Runs.cond hE rfl (fun c => ?_) (fun c => ?_)
        · replace hm := cond_t c hm
          refine Runs.region ?_
          refine WR.seg hE 4 [] [0, 1, 2] (Lo := [(0, .pointer (some ⟨p_a_, 0, none⟩)), (1, .int .i64 m_), (2, .int .i64 n)]) (obs := []) rfl (by kernel_rfl) trivial fun a hE => ?_
          refine WR.done rfl ?_
          cases hm
          exact hk _ _ ⟨hE.sel [0, 1, 2] (by kernel_rfl), H⟩
        · replace hm := cond_f c hm
          refine Runs.skip ?_
          cases hm
          exact hk _ _ ⟨hE.sel [0, 1, 2] (by kernel_rfl), H⟩
      rintro a w ⟨hE, H⟩
      refine Runs.seq ?_
      refine Runs.region ?_
      refine WR.seg hE 2 [] [0, 1, 2, 27, 28] (Lo := [(0, .pointer (some ⟨p_a_, 0, none⟩)), (1, .int .i64 s.1), (2, .int .i64 s.2), (27, .pointer (some ⟨p_a_, 0, none⟩)), (28, .int .i64 s.1)]) (obs := []) rfl (by kernel_rfl) trivial fun a hE => ?_
      obtain ⟨t_1, et_1, hm⟩ := bind_some hm
      refine WR.eff hE rfl rfl rfl rfl (OpTo.fn hE rfl rfl Tryz.call73 (arena_Arena_Cell_ok et_1 H)) ?_
      rintro _ w ⟨rfl, H⟩ a hE
      refine WR.seg hE 4 [] [0, 1, 2, 7] (Lo := [(0, .pointer (some ⟨p_a_, 0, none⟩)), (1, .int .i64 s.1), (2, .int .i64 s.2), (7, .int .i64 t_1.1)]) (obs := []) rfl (by kernel_rfl) trivial fun a hE => ?_
      refine WR.done rfl ?_
      refine Runs.seq ?_
      refine Runs.region ?_
      refine WR.seg hE 3 [] [0, 1, 2, 7, 30, 31, 32] (Lo := [(0, .pointer (some ⟨p_a_, 0, none⟩)), (1, .int .i64 s.1), (2, .int .i64 s.2), (7, .int .i64 t_1.1), (30, .pointer (some ⟨p_a_, 0, none⟩)), (31, .int .i64 s.2), (32, .int .i64 s.1)]) (obs := []) rfl (by kernel_rfl) trivial fun a hE => ?_
      obtain ⟨t_2, et_2, hm⟩ := bind_some hm
      refine WR.eff hE rfl rfl rfl rfl (OpTo.fn hE rfl rfl Tryz.call53 (arena_Arena_Set_ok et_2 H)) ?_
      rintro _ w ⟨rfl, hf, H⟩ a hE
      refine WR.done rfl ?_
      refine Runs.seq ?_
      refine Runs.region ?_
      refine WR.seg hE 3 [] [0, 1, 2, 7, 34, 35, 36] (Lo := [(0, .pointer (some ⟨p_a_, 0, none⟩)), (1, .int .i64 s.1), (2, .int .i64 s.2), (7, .int .i64 t_1.1), (34, .pointer (some ⟨p_a_, 0, none⟩)), (35, .int .i64 s.2), (36, .int .i64 t_1.1)]) (obs := []) rfl (by kernel_rfl) trivial fun a hE => ?_
      obtain ⟨t_3, et_3, hm⟩ := bind_some hm
      refine WR.eff hE rfl rfl rfl rfl (OpTo.fn hE rfl rfl Tryz.call53 (arena_Arena_Set_ok et_3 H)) ?_
      rintro _ w ⟨rfl, hf1, H⟩ a hE
      refine WR.done rfl ?_
      refine Runs.seq ?_
      refine Runs.seq ?_
      refine Runs.region ?_
      refine WR.seg hE 2 [] [0, 1, 2, 7, 39] (Lo := [(0, .pointer (some ⟨p_a_, 0, none⟩)), (1, .int .i64 s.1), (2, .int .i64 s.2), (7, .int .i64 t_1.1), (39, .bool (t_1.1 != (-1)))]) (obs := []) rfl (by kernel_rfl) trivial fun a hE => ?_
      refine WR.done rfl ?_
      obtain ⟨s1, es1, hm⟩ := bind_some hm
      refine Runs.join (fun a w => EnvOk 49 a [(0, .pointer (some ⟨p_a_, 0, none⟩)), (1, .int .i64 s.1), (2, .int .i64 s.2)] ∧ St w0 (arena_Arena.R p_a_ al_a_ s1 :: As) w) (fun hk => ?_) ?_
      · replace hm := es1; clear es1
        refine Runs.cond hE rfl (fun c => ?_) (fun c => ?_)
        · replace hm := cond_t c hm
          refine Runs.region ?_
          refine WR.seg hE 3 [] [0, 1, 2, 40, 41, 42] (Lo := [(0, .pointer (some ⟨p_a_, 0, none⟩)), (1, .int .i64 s.1), (2, .int .i64 s.2), (40, .pointer (some ⟨p_a_, 0, none⟩)), (41, .int .i64 t_1.1), (42, .int .i64 s.2)]) (obs := []) rfl (by kernel_rfl) trivial fun a hE => ?_
          obtain ⟨t_4, et_4, hm⟩ := bind_some hm
          refine WR.eff hE rfl rfl rfl rfl (OpTo.fn hE rfl rfl Tryz.call53 (arena_Arena_Set_ok et_4 H)) ?_
          rintro _ w ⟨rfl, hf2, H⟩ a hE
          refine WR.done rfl ?_
          cases hm
          exact hk _ _ ⟨hE.sel [0, 1, 2] (by kernel_rfl), H⟩
        · replace hm := cond_f c hm
          refine Runs.skip ?_
          cases hm
          exact hk _ _ ⟨hE.sel [0, 1, 2] (by kernel_rfl), H⟩
      rintro a w ⟨hE, H⟩
      refine Runs.seq ?_
      refine Runs.region ?_
      refine WR.seg hE 3 [] [1, 44, 45, 46] (Lo := [(1, .int .i64 s.1), (44, .pointer (some ⟨p_a_, 0, none⟩)), (45, .int .i64 s.1), (46, .int .i64 s.2)]) (obs := []) rfl (by kernel_rfl) trivial fun a hE => ?_
      obtain ⟨t_5, et_5, hm⟩ := bind_some hm
      refine WR.eff hE rfl rfl rfl rfl (OpTo.fn hE rfl rfl Tryz.call53 (arena_Arena_Set_ok et_5 H)) ?_
      rintro _ w ⟨rfl, hf3, H⟩ a hE
      refine WR.done rfl ?_
      refine Runs.seq ?_
      refine Runs.region ?_
      refine WR.seg hE 2 [] [6] (Lo := [(6, .int .i64 s.1)]) (obs := []) rfl (by kernel_rfl) trivial fun a hE => ?_
      refine WR.done rfl ?_
      refine Runs.ret hE Tryz.func138 rfl rfl ?_
      cases hm
      exact ⟨rfl, H⟩

theorem pairing_Push_ok {w0 w : World} {As : List HP} {k : Nat} {p_a_ : Nat} {al_a_ : arena_Arena.A} {a_ : arena_Arena} {r : Int} {i : Int} {t : Int × Bool × arena_Arena}  (hm : pairing_Push k a_ r i = some t) (H : St w0 (arena_Arena.R p_a_ al_a_ a_ :: As) w) :
    CallsR Tryz.prog 80 #[.pointer (some ⟨p_a_, 0, none⟩), .int .i64 r, .int .i64 i] w fun v w' => ∃ (z_a__free_b : Option Addr), ∃ (z_a__free_c : Nat), v = .tuple #[.int .i64 t.1, .bool t.2.1] ∧ St w0 (arena_Arena.R p_a_ (arena_Arena.A.mk al_a_.l_b al_a_.l_c z_a__free_b z_a__free_c al_a_.m__p) t.2.2 :: As) w' := by
  rw [pairing_Push] at hm
  refine enter (args := [.pointer (some ⟨p_a_, 0, none⟩), .int .i64 r, .int .i64 i]) Tryz.func80 rfl rfl rfl fun a hE => ?_
  refine Runs.seq ?_
  refine Runs.region ?_
  refine WR.seg hE 2 [] [0, 1, 2] (Lo := [(0, .pointer (some ⟨p_a_, 0, none⟩)), (1, .int .i64 r), (2, .int .i64 i)]) (obs := []) rfl (by kernel_rfl) trivial fun a hE => ?_
  refine WR.done rfl ?_
  refine Runs.seq ?_
  refine Runs.seq ?_
  refine Runs.region ?_
  refine WR.seg hE 2 [] [0, 1, 2, 11] (Lo := [(0, .pointer (some ⟨p_a_, 0, none⟩)), (1, .int .i64 r), (2, .int .i64 i), (11, .bool false)]) (obs := []) rfl (by kernel_rfl) trivial fun a hE => ?_
  refine WR.done rfl ?_
  refine Runs.condF hE rfl ?_
  refine Runs.skip ?_
  refine Runs.seq ?_
  refine Runs.region ?_
  refine WR.seg hE 2 [] [0, 1, 13, 14] (Lo := [(0, .pointer (some ⟨p_a_, 0, none⟩)), (1, .int .i64 r), (13, .pointer (some ⟨p_a_, 0, none⟩)), (14, .int .i64 i)]) (obs := []) rfl (by kernel_rfl) trivial fun a hE => ?_
  obtain ⟨t_, et_, hm⟩ := bind_some hm
  refine WR.eff hE rfl rfl rfl rfl (OpTo.fn hE rfl rfl Tryz.call54 (node_New_ok et_ H)) ?_
  rintro _ w ⟨z, z1, rfl, H⟩ a hE
  refine WR.seg hE 8 [] [0, 1, 8, 9] (Lo := [(0, .pointer (some ⟨p_a_, 0, none⟩)), (1, .int .i64 r), (8, .int .i64 t_.1), (9, .bool t_.2.1)]) (obs := []) rfl (by kernel_rfl) trivial fun a hE => ?_
  refine WR.done rfl ?_
  refine Runs.seq ?_
  refine Runs.seq ?_
  refine Runs.region ?_
  refine WR.seg hE 2 [] [0, 1, 8, 19] (Lo := [(0, .pointer (some ⟨p_a_, 0, none⟩)), (1, .int .i64 r), (8, .int .i64 t_.1), (19, .bool (!t_.2.1))]) (obs := []) rfl (by kernel_rfl) trivial fun a hE => ?_
  refine WR.done rfl ?_
  refine Runs.cond hE rfl (fun c => ?_) (fun c => ?_)
  · replace hm := cond_t c hm
    refine Runs.seq ?_
    refine Runs.region ?_
    refine WR.seg hE 3 [] [6, 7] (Lo := [(6, .int .i64 r), (7, .bool false)]) (obs := []) rfl (by kernel_rfl) trivial fun a hE => ?_
    refine WR.done rfl ?_
    refine Runs.ret hE Tryz.func80 rfl rfl ?_
    cases hm
    exact ⟨z, z1, rfl, H⟩
  · replace hm := cond_f c hm
    refine Runs.skip ?_
    refine Runs.seq ?_
    refine Runs.region ?_
    refine WR.seg hE 3 [] [21, 22, 23] (Lo := [(21, .pointer (some ⟨p_a_, 0, none⟩)), (22, .int .i64 r), (23, .int .i64 t_.1)]) (obs := []) rfl (by kernel_rfl) trivial fun a hE => ?_
    obtain ⟨t_1, et_1, hm⟩ := bind_some hm
    refine WR.eff hE rfl rfl rfl rfl (OpTo.fn hE rfl rfl Tryz.call138 (pairing_link_ok et_1 H)) ?_
    rintro _ w ⟨rfl, H⟩ a hE
    refine WR.seg hE 6 [] [6, 7] (Lo := [(6, .int .i64 t_1.1), (7, .bool true)]) (obs := []) rfl (by kernel_rfl) trivial fun a hE => ?_
    refine WR.done rfl ?_
    refine Runs.ret hE Tryz.func80 rfl rfl ?_
    cases hm
    exact ⟨z, z1, rfl, H⟩

theorem kind_Push_ok {w0 w : World} {As : List HP} {k : Nat} {k_ : Int} {p_a_ : Nat} {al_a_ : arena_Arena.A} {a_ : arena_Arena} {r : Int} {i : Int} {t : Int × Bool × arena_Arena}  (hm : kind_Push k k_ a_ r i = some t) (H : St w0 (arena_Arena.R p_a_ al_a_ a_ :: As) w) :
    CallsR Tryz.prog 41 #[.int .i64 k_, .pointer (some ⟨p_a_, 0, none⟩), .int .i64 r, .int .i64 i] w fun v w' => ∃ (z_a__free_b : Option Addr), ∃ (z_a__free_c : Nat), v = .tuple #[.int .i64 t.1, .bool t.2.1] ∧ St w0 (arena_Arena.R p_a_ (arena_Arena.A.mk al_a_.l_b al_a_.l_c z_a__free_b z_a__free_c al_a_.m__p) t.2.2 :: As) w' := by
  rw [kind_Push] at hm
  refine enter (args := [.int .i64 k_, .pointer (some ⟨p_a_, 0, none⟩), .int .i64 r, .int .i64 i]) Tryz.func41 rfl rfl rfl fun a hE => ?_
  refine Runs.seq ?_
  refine Runs.region ?_
  refine WR.seg hE 2 [] [0, 1, 2, 3] (Lo := [(0, .int .i64 k_), (1, .pointer (some ⟨p_a_, 0, none⟩)), (2, .int .i64 r), (3, .int .i64 i)]) (obs := []) rfl (by kernel_rfl) trivial fun a hE => ?_
  refine WR.done rfl ?_
  refine Runs.seq ?_
  refine Runs.seq ?_
  refine Runs.region ?_
  refine WR.seg hE 1 [] [1, 2, 3, 10] (Lo := [(1, .pointer (some ⟨p_a_, 0, none⟩)), (2, .int .i64 r), (3, .int .i64 i), (10, .int .i64 k_)]) (obs := []) rfl (by kernel_rfl) trivial fun a hE => ?_
  refine WR.done rfl ?_
  refine Runs.block ?_
  refine Runs.seq ?_
  refine Runs.region ?_
  refine WR.seg hE 2 [] [1, 2, 3, 10, 11] (Lo := [(1, .pointer (some ⟨p_a_, 0, none⟩)), (2, .int .i64 r), (3, .int .i64 i), (10, .int .i64 k_), (11, .bool (k_ == 1))]) (obs := []) rfl (by kernel_rfl) trivial fun a hE => ?_
  refine WR.done rfl ?_
  refine Runs.cond hE rfl (fun c => ?_) (fun c => ?_)
  · replace hm := cond_t c hm
    refine Runs.seq ?_
    refine Runs.region ?_
    refine WR.seg hE 3 [] [13, 14, 15] (Lo := [(13, .pointer (some ⟨p_a_, 0, none⟩)), (14, .int .i64 r), (15, .int .i64 i)]) (obs := []) rfl (by kernel_rfl) trivial fun a hE => ?_
    obtain ⟨t_, et_, hm⟩ := bind_some hm
    refine WR.eff hE rfl rfl rfl rfl (OpTo.fn hE rfl rfl Tryz.call77 (leftist_Push_ok et_ H)) ?_
    rintro _ w ⟨z, z1, rfl, H⟩ a hE
    refine WR.seg hE 8 [] [8, 9] (Lo := [(8, .int .i64 t_.1), (9, .bool t_.2.1)]) (obs := []) rfl (by kernel_rfl) trivial fun a hE => ?_
    refine WR.done rfl ?_
    refine Runs.ret hE Tryz.func41 rfl rfl ?_
    cases hm
    exact ⟨z, z1, rfl, H⟩
  · replace hm := cond_f c hm
    refine Runs.seq ?_
    refine Runs.region ?_
    refine WR.seg hE 2 [] [1, 2, 3, 10, 19] (Lo := [(1, .pointer (some ⟨p_a_, 0, none⟩)), (2, .int .i64 r), (3, .int .i64 i), (10, .int .i64 k_), (19, .bool (k_ == 2))]) (obs := []) rfl (by kernel_rfl) trivial fun a hE => ?_
    refine WR.done rfl ?_
    refine Runs.cond hE rfl (fun c => ?_) (fun c => ?_)
    · replace hm := cond_t c hm
      refine Runs.seq ?_
      refine Runs.region ?_
      refine WR.seg hE 3 [] [21, 22, 23] (Lo := [(21, .pointer (some ⟨p_a_, 0, none⟩)), (22, .int .i64 r), (23, .int .i64 i)]) (obs := []) rfl (by kernel_rfl) trivial fun a hE => ?_
      obtain ⟨t_1, et_1, hm⟩ := bind_some hm
      refine WR.eff hE rfl rfl rfl rfl (OpTo.fn hE rfl rfl Tryz.call20 (binomial_Push_ok et_1 H)) ?_
      rintro _ w ⟨z2, z3, rfl, H⟩ a hE
      refine WR.seg hE 8 [] [8, 9] (Lo := [(8, .int .i64 t_1.1), (9, .bool t_1.2.1)]) (obs := []) rfl (by kernel_rfl) trivial fun a hE => ?_
      refine WR.done rfl ?_
      refine Runs.ret hE Tryz.func41 rfl rfl ?_
      cases hm
      exact ⟨z2, z3, rfl, H⟩
    · replace hm := cond_f c hm
      refine Runs.seq ?_
      refine Runs.region ?_
      refine WR.seg hE 2 [] [1, 2, 3, 10, 27] (Lo := [(1, .pointer (some ⟨p_a_, 0, none⟩)), (2, .int .i64 r), (3, .int .i64 i), (10, .int .i64 k_), (27, .bool (k_ == 3))]) (obs := []) rfl (by kernel_rfl) trivial fun a hE => ?_
      refine WR.done rfl ?_
      refine Runs.cond hE rfl (fun c => ?_) (fun c => ?_)
      · replace hm := cond_t c hm
        refine Runs.seq ?_
        refine Runs.region ?_
        refine WR.seg hE 3 [] [29, 30, 31] (Lo := [(29, .pointer (some ⟨p_a_, 0, none⟩)), (30, .int .i64 r), (31, .int .i64 i)]) (obs := []) rfl (by kernel_rfl) trivial fun a hE => ?_
        obtain ⟨t_2, et_2, hm⟩ := bind_some hm
        refine WR.eff hE rfl rfl rfl rfl (OpTo.fn hE rfl rfl Tryz.call78 (skew_Push_ok et_2 H)) ?_
        rintro _ w ⟨z4, z5, rfl, H⟩ a hE
        refine WR.seg hE 8 [] [8, 9] (Lo := [(8, .int .i64 t_2.1), (9, .bool t_2.2.1)]) (obs := []) rfl (by kernel_rfl) trivial fun a hE => ?_
        refine WR.done rfl ?_
        refine Runs.ret hE Tryz.func41 rfl rfl ?_
        cases hm
        exact ⟨z4, z5, rfl, H⟩
      · replace hm := cond_f c hm
        refine Runs.seq ?_
        refine Runs.region ?_
        refine WR.seg hE 2 [] [1, 2, 3, 10, 35] (Lo := [(1, .pointer (some ⟨p_a_, 0, none⟩)), (2, .int .i64 r), (3, .int .i64 i), (10, .int .i64 k_), (35, .bool (k_ == 4))]) (obs := []) rfl (by kernel_rfl) trivial fun a hE => ?_
        refine WR.done rfl ?_
        refine Runs.cond hE rfl (fun c => ?_) (fun c => ?_)
        · replace hm := cond_t c hm
          refine Runs.seq ?_
          refine Runs.region ?_
          refine WR.seg hE 3 [] [37, 38, 39] (Lo := [(37, .pointer (some ⟨p_a_, 0, none⟩)), (38, .int .i64 r), (39, .int .i64 i)]) (obs := []) rfl (by kernel_rfl) trivial fun a hE => ?_
          obtain ⟨t_3, et_3, hm⟩ := bind_some hm
          refine WR.eff hE rfl rfl rfl rfl (OpTo.fn hE rfl rfl Tryz.call79 (fib_Push_ok et_3 H)) ?_
          rintro _ w ⟨z6, z7, rfl, H⟩ a hE
          refine WR.seg hE 8 [] [8, 9] (Lo := [(8, .int .i64 t_3.1), (9, .bool t_3.2.1)]) (obs := []) rfl (by kernel_rfl) trivial fun a hE => ?_
          refine WR.done rfl ?_
          refine Runs.ret hE Tryz.func41 rfl rfl ?_
          cases hm
          exact ⟨z6, z7, rfl, H⟩
        · replace hm := cond_f c hm
          refine Runs.seq ?_
          refine Runs.region ?_
          refine WR.seg hE 2 [] [1, 2, 3, 43] (Lo := [(1, .pointer (some ⟨p_a_, 0, none⟩)), (2, .int .i64 r), (3, .int .i64 i), (43, .bool (k_ == 5))]) (obs := []) rfl (by kernel_rfl) trivial fun a hE => ?_
          refine WR.done rfl ?_
          refine Runs.cond hE rfl (fun c => ?_) (fun c => ?_)
          · replace hm := cond_t c hm
            refine Runs.seq ?_
            refine Runs.region ?_
            refine WR.seg hE 3 [] [45, 46, 47] (Lo := [(45, .pointer (some ⟨p_a_, 0, none⟩)), (46, .int .i64 r), (47, .int .i64 i)]) (obs := []) rfl (by kernel_rfl) trivial fun a hE => ?_
            obtain ⟨t_4, et_4, hm⟩ := bind_some hm
            refine WR.eff hE rfl rfl rfl rfl (OpTo.fn hE rfl rfl Tryz.call80 (pairing_Push_ok et_4 H)) ?_
            rintro _ w ⟨z8, z9, rfl, H⟩ a hE
            refine WR.seg hE 8 [] [8, 9] (Lo := [(8, .int .i64 t_4.1), (9, .bool t_4.2.1)]) (obs := []) rfl (by kernel_rfl) trivial fun a hE => ?_
            refine WR.done rfl ?_
            refine Runs.ret hE Tryz.func41 rfl rfl ?_
            cases hm
            exact ⟨z8, z9, rfl, H⟩
          · replace hm := cond_f c hm
            refine Runs.skip ?_
            refine Runs.inBlock ?_
            refine Runs.seq ?_
            refine Runs.region ?_
            refine WR.seg hE 3 [] [8, 9] (Lo := [(8, .int .i64 r), (9, .bool false)]) (obs := []) rfl (by kernel_rfl) trivial fun a hE => ?_
            refine WR.done rfl ?_
            refine Runs.ret hE Tryz.func41 rfl rfl ?_
            cases hm
            exact ⟨al_a_.free_b, al_a_.free_c, rfl, H⟩

theorem leftist_kids_ok {w0 w : World} {As : List HP} {k : Nat} {p_a_ : Nat} {al_a_ : arena_Arena.A} {a_ : arena_Arena} {n : Int} {t : Int × arena_Arena}  (hm : leftist_kids k a_ n = some t) (H : St w0 (arena_Arena.R p_a_ al_a_ a_ :: As) w) :
    CallsR Tryz.prog 139 #[.pointer (some ⟨p_a_, 0, none⟩), .int .i64 n] w fun v w' => v = .int .i64 t.1 ∧ St w0 (arena_Arena.R p_a_ al_a_ t.2 :: As) w' := by
  rw [leftist_kids] at hm
  refine enter (args := [.pointer (some ⟨p_a_, 0, none⟩), .int .i64 n]) Tryz.func139 rfl rfl rfl fun a hE => ?_
  refine Runs.seq ?_
  refine Runs.region ?_
  refine WR.seg hE 1 [] [0, 1] (Lo := [(0, .pointer (some ⟨p_a_, 0, none⟩)), (1, .int .i64 n)]) (obs := []) rfl (by kernel_rfl) trivial fun a hE => ?_
  refine WR.done rfl ?_
  refine Runs.seq ?_
  refine Runs.region ?_
  refine WR.seg hE 3 [] [0, 1, 5, 6, 7] (Lo := [(0, .pointer (some ⟨p_a_, 0, none⟩)), (1, .int .i64 n), (5, .pointer (some ⟨p_a_, 0, none⟩)), (6, .pointer (some ⟨p_a_, 0, none⟩)), (7, .int .i64 n)]) (obs := []) rfl (by kernel_rfl) trivial fun a hE => ?_
  obtain ⟨t_, et_, hm⟩ := bind_some hm
  refine WR.eff hE rfl rfl rfl rfl (OpTo.fn hE rfl rfl Tryz.call73 (arena_Arena_Cell_ok et_ H)) ?_
  rintro _ w ⟨rfl, H⟩ a hE
  refine WR.seg hE 6 [] [5, 8, 9, 10] (Lo := [(5, .pointer (some ⟨p_a_, 0, none⟩)), (8, .int .i64 t_.1), (9, .pointer (some ⟨p_a_, 0, none⟩)), (10, .int .i64 n)]) (obs := []) rfl (by kernel_rfl) trivial fun a hE => ?_
  obtain ⟨t_1, et_1, hm⟩ := bind_some hm
  refine WR.eff hE rfl rfl rfl rfl (OpTo.fn hE rfl rfl Tryz.call73 (arena_Arena_Cell_ok et_1 H)) ?_
  rintro _ w ⟨rfl, H⟩ a hE
  obtain ⟨t_2, et_2, hm⟩ := bind_some hm
  refine WR.eff hE rfl rfl rfl rfl (OpTo.fn hE rfl rfl Tryz.call133 (leftist_meld_ok et_2 H)) ?_
  rintro _ w ⟨rfl, H⟩ a hE
  refine WR.seg hE 9 [] [4] (Lo := [(4, .int .i64 t_2.1)]) (obs := []) rfl (by kernel_rfl) trivial fun a hE => ?_
  refine WR.done rfl ?_
  refine Runs.ret hE Tryz.func139 rfl rfl ?_
  cases hm
  exact ⟨rfl, H⟩

theorem arena_Arena_Give_ok {w0 w : World} {As : List HP} {p_a_ : Nat} {al_a_ : arena_Arena.A} {a_ : arena_Arena} {c_ : Int} {t : Bool × arena_Arena}  (hm : arena_Arena_Give a_ c_ = some t) (H : St w0 (arena_Arena.R p_a_ al_a_ a_ :: As) w) :
    CallsR Tryz.prog 25 #[.pointer (some ⟨p_a_, 0, none⟩), .int .i64 c_] w fun v w' => ∃ (z_a__free_b : Option Addr), ∃ (z_a__free_c : Nat), v = .bool t.1 ∧ St w0 (arena_Arena.R p_a_ (arena_Arena.A.mk al_a_.l_b al_a_.l_c z_a__free_b z_a__free_c al_a_.m__p) t.2 :: As) w' := by
  rw [arena_Arena_Give] at hm
  refine enter (args := [.pointer (some ⟨p_a_, 0, none⟩), .int .i64 c_]) Tryz.func25 rfl rfl rfl fun a hE => ?_
  refine Runs.seq ?_
  refine Runs.region ?_
  refine WR.seg hE 1 [] [0, 1] (Lo := [(0, .pointer (some ⟨p_a_, 0, none⟩)), (1, .int .i64 c_)]) (obs := []) rfl (by kernel_rfl) trivial fun a hE => ?_
  refine WR.done rfl ?_
  refine Runs.seq ?_
  refine Runs.region ?_
  replace H := arena_Arena.open H
  refine WR.seg hE 4 [.pointer (some ⟨al_a_.m__p, 0, none⟩)] [0, 1, 8] (Lo := [(0, .pointer (some ⟨p_a_, 0, none⟩)), (1, .int .i64 c_), (8, .pointer (some ⟨al_a_.m__p, 0, none⟩))]) (obs := [.cell ⟨p_a_, 3, none⟩ (.pointer (some ⟨al_a_.m__p, 0, none⟩))]) rfl (by kernel_rfl) ⟨H.cell 0 rfl rfl, trivial⟩ fun a hE => ?_
  obtain ⟨t_, et_, hm⟩ := bind_some hm
  refine WR.eff hE rfl rfl rfl rfl (OpTo.fn hE rfl rfl Tryz.call62 (meter_Meter_Tick_ok et_ H.t3)) ?_
  rintro _ w ⟨rfl, H⟩ a hE
  refine WR.done rfl ?_
  refine Runs.seq ?_
  refine Runs.seq ?_
  refine Runs.region ?_
  refine WR.seg hE 2 [] [0, 1, 10, 11] (Lo := [(0, .pointer (some ⟨p_a_, 0, none⟩)), (1, .int .i64 c_), (10, .pointer (some ⟨p_a_, 0, none⟩)), (11, .int .i64 c_)]) (obs := []) rfl (by kernel_rfl) trivial fun a hE => ?_
  replace H := arena_Arena.shut al_a_ (arena_Arena.mk a_.l a_.never a_.free t_) H.t3.t3.t3
  obtain ⟨t_1, et_1, hm⟩ := bind_some hm
  refine WR.eff hE rfl rfl rfl rfl (OpTo.fn hE rfl rfl Tryz.call58 (arena_Arena_Live_ok et_1 H)) ?_
  rintro _ w ⟨rfl, H⟩ a hE
  refine WR.seg hE 4 [] [0, 1, 13] (Lo := [(0, .pointer (some ⟨p_a_, 0, none⟩)), (1, .int .i64 c_), (13, .bool (!t_1))]) (obs := []) rfl (by kernel_rfl) trivial fun a hE => ?_
  refine WR.done rfl ?_
  refine Runs.cond hE rfl (fun c => ?_) (fun c => ?_)
  · replace hm := cond_t c hm
    refine Runs.seq ?_
    refine Runs.region ?_
    refine WR.seg hE 1 [] [4] (Lo := [(4, .bool false)]) (obs := []) rfl (by kernel_rfl) trivial fun a hE => ?_
    refine WR.done rfl ?_
    refine Runs.ret hE Tryz.func25 rfl rfl ?_
    cases hm
    exact ⟨al_a_.free_b, al_a_.free_c, rfl, H⟩
  · replace hm := cond_f c hm
    refine Runs.skip ?_
    refine Runs.seq ?_
    refine Runs.region ?_
    replace H := arena_Arena.open H
    try dsimp only at H
    obtain ⟨x, ex, hm⟩ := bind_some hm
    obtain ⟨b, o, hs, hb⟩ := SlRd.base (sl_rd 102 arena_cell.enc 11 _ _ _) arena_cell.enc_ok H 1 rfl ex
    refine WR.seg hE 7 [.slice al_a_.l_b a_.l.length al_a_.l_c, .pointer (some ⟨b, o, none⟩)] [0, 1, 20] (Lo := [(0, .pointer (some ⟨p_a_, 0, none⟩)), (1, .int .i64 c_), (20, .pointer (some ⟨b, o + (Int.toNat c_) * 11 + 10, none⟩))]) (obs := [.cell ⟨p_a_, 0, none⟩ (.slice al_a_.l_b a_.l.length al_a_.l_c), .p ((al_a_.l_b : Option Addr) = some ⟨b, o, none⟩), .p (0 ≤ (c_ : Int) ∧ (c_ : Int) < ((a_.l.length : Nat) : Int))]) rfl (by kernel_rfl) ⟨H.cell 0 rfl rfl, hs, hb, trivial⟩ fun a hE => ?_
    refine WR.eff0 hE rfl rfl rfl (OpTo.storeSl (q := 10) (x' := (arena_cell.mk x.f0 x.f1 x.f2 x.f3 x.f4 x.f5 x.f6 x.f7 x.f8 x.f9 false)) hE H.t1 arena_cell.enc_ok rfl hs ex rfl rfl rfl rfl rfl (Nat.le_of_ble_eq_true rfl) rfl) ?_
    rintro _ w H a hE
    rw [← mSet_len a_.l c_ (arena_cell.mk x.f0 x.f1 x.f2 x.f3 x.f4 x.f5 x.f6 x.f7 x.f8 x.f9 false)] at H
    refine WR.done rfl ?_
    refine Runs.seq ?_
    refine Runs.region ?_
    refine WR.seg hE 6 [.slice al_a_.free_b a_.free.length al_a_.free_c] [21, 25, 26] (Lo := [(21, .pointer (some ⟨p_a_, 0, none⟩)), (25, .slice al_a_.free_b a_.free.length al_a_.free_c), (26, .int .i64 c_)]) (obs := [.cell ⟨p_a_, 2, none⟩ (.slice al_a_.free_b a_.free.length al_a_.free_c)]) rfl (by kernel_rfl) ⟨H.cell 1 rfl rfl, trivial⟩ fun a hE => ?_
    refine WR.eff hE rfl rfl rfl rfl (OpTo.buildSl (T := 3) hE H ecI_ok ([c_] : List Int) rfl (fun _ => by kernel_rfl) rfl rfl rfl) ?_
    rintro _ w ⟨r, rfl, H⟩ a hE
    obtain ⟨l, el, hm⟩ := bind_some hm
    replace H := H.t3
    refine WR.eff hE rfl rfl rfl rfl (OpTo.appendM el hE H ecI_ok rfl rfl rfl rfl rfl rfl rfl rfl rfl rfl (SlRd.all (sl_rd 3 ecI 1 _ _ _) ecI_ok H 1 rfl) rfl) ?_
    rintro _ w ⟨sb, sc, rfl, H⟩ a hE
    refine WR.seg hE 10 [] [28, 30] (Lo := [(28, .slice sb l.length sc), (30, .pointer (some ⟨p_a_, 2, none⟩))]) (obs := []) rfl (by kernel_rfl) trivial fun a hE => ?_
    refine WR.eff0 hE rfl rfl rfl (OpTo.store hE H.t3 rfl rfl rfl rfl rfl rfl (Nat.le_of_ble_eq_true rfl)) ?_
    rintro _ w H a hE
    refine WR.done rfl ?_
    refine Runs.seq ?_
    refine Runs.region ?_
    refine WR.seg hE 1 [] [4] (Lo := [(4, .bool true)]) (obs := []) rfl (by kernel_rfl) trivial fun a hE => ?_
    refine WR.done rfl ?_
    replace H := arena_Arena.shut (arena_Arena.A.mk al_a_.l_b al_a_.l_c sb sc al_a_.m__p) (arena_Arena.mk (mSet a_.l c_ (arena_cell.mk x.f0 x.f1 x.f2 x.f3 x.f4 x.f5 x.f6 x.f7 x.f8 x.f9 false)) a_.never l t_) H.t4.t2.t4.t3
    refine Runs.ret hE Tryz.func25 rfl rfl ?_
    cases hm
    exact ⟨sb, sc, rfl, H.x1⟩

theorem node_End_ok {w0 w : World} {As : List HP} {p_a_ : Nat} {al_a_ : arena_Arena.A} {a_ : arena_Arena} {n : Int} {t : Int × arena_Arena}  (hm : node_End a_ n = some t) (H : St w0 (arena_Arena.R p_a_ al_a_ a_ :: As) w) :
    CallsR Tryz.prog 123 #[.pointer (some ⟨p_a_, 0, none⟩), .int .i64 n] w fun v w' => ∃ (z_a__free_b : Option Addr), ∃ (z_a__free_c : Nat), v = .int .i64 t.1 ∧ St w0 (arena_Arena.R p_a_ (arena_Arena.A.mk al_a_.l_b al_a_.l_c z_a__free_b z_a__free_c al_a_.m__p) t.2 :: As) w' := by
  rw [node_End] at hm
  refine enter (args := [.pointer (some ⟨p_a_, 0, none⟩), .int .i64 n]) Tryz.func123 rfl rfl rfl fun a hE => ?_
  refine Runs.seq ?_
  refine Runs.region ?_
  refine WR.seg hE 1 [] [0, 1] (Lo := [(0, .pointer (some ⟨p_a_, 0, none⟩)), (1, .int .i64 n)]) (obs := []) rfl (by kernel_rfl) trivial fun a hE => ?_
  refine WR.done rfl ?_
  refine Runs.seq ?_
  refine Runs.region ?_
  refine WR.seg hE 2 [] [0, 1, 6, 7] (Lo := [(0, .pointer (some ⟨p_a_, 0, none⟩)), (1, .int .i64 n), (6, .pointer (some ⟨p_a_, 0, none⟩)), (7, .int .i64 n)]) (obs := []) rfl (by kernel_rfl) trivial fun a hE => ?_
  obtain ⟨t_, et_, hm⟩ := bind_some hm
  refine WR.eff hE rfl rfl rfl rfl (OpTo.fn hE rfl rfl Tryz.call73 (arena_Arena_Cell_ok et_ H)) ?_
  rintro _ w ⟨rfl, H⟩ a hE
  refine WR.seg hE 4 [] [0, 1, 5] (Lo := [(0, .pointer (some ⟨p_a_, 0, none⟩)), (1, .int .i64 n), (5, .int .i64 t_.1)]) (obs := []) rfl (by kernel_rfl) trivial fun a hE => ?_
  refine WR.done rfl ?_
  refine Runs.seq ?_
  refine Runs.region ?_
  refine WR.seg hE 2 [] [0, 1, 5, 9, 10] (Lo := [(0, .pointer (some ⟨p_a_, 0, none⟩)), (1, .int .i64 n), (5, .int .i64 t_.1), (9, .pointer (some ⟨p_a_, 0, none⟩)), (10, .int .i64 t_.1)]) (obs := []) rfl (by kernel_rfl) trivial fun a hE => ?_
  obtain ⟨t_1, et_1, hm⟩ := bind_some hm
  refine WR.eff hE rfl rfl rfl rfl (OpTo.fn hE rfl rfl Tryz.call53 (arena_Arena_Set_ok et_1 H)) ?_
  rintro _ w ⟨rfl, hf, H⟩ a hE
  refine WR.done rfl ?_
  refine Runs.seq ?_
  refine Runs.region ?_
  refine WR.seg hE 2 [] [5, 12, 13] (Lo := [(5, .int .i64 t_.1), (12, .pointer (some ⟨p_a_, 0, none⟩)), (13, .int .i64 n)]) (obs := []) rfl (by kernel_rfl) trivial fun a hE => ?_
  obtain ⟨t_2, et_2, hm⟩ := bind_some hm
  refine WR.eff hE rfl rfl rfl rfl (OpTo.fn hE rfl rfl Tryz.call25 (arena_Arena_Give_ok et_2 H)) ?_
  rintro _ w ⟨z, z1, rfl, H⟩ a hE
  refine WR.done rfl ?_
  refine Runs.seq ?_
  refine Runs.region ?_
  refine WR.seg hE 2 [] [4] (Lo := [(4, .int .i64 t_.1)]) (obs := []) rfl (by kernel_rfl) trivial fun a hE => ?_
  refine WR.done rfl ?_
  refine Runs.ret hE Tryz.func123 rfl rfl ?_
  cases hm
  exact ⟨z, z1, rfl, H⟩

theorem leftist_Pop_ok {w0 w : World} {As : List HP} {k : Nat} {p_a_ : Nat} {al_a_ : arena_Arena.A} {a_ : arena_Arena} {r : Int} {t : Int × Int × arena_Arena}  (hm : leftist_Pop k a_ r = some t) (H : St w0 (arena_Arena.R p_a_ al_a_ a_ :: As) w) :
    CallsR Tryz.prog 81 #[.pointer (some ⟨p_a_, 0, none⟩), .int .i64 r] w fun v w' => ∃ (z_a__free_b : Option Addr), ∃ (z_a__free_c : Nat), v = .tuple #[.int .i64 t.1, .int .i64 t.2.1] ∧ St w0 (arena_Arena.R p_a_ (arena_Arena.A.mk al_a_.l_b al_a_.l_c z_a__free_b z_a__free_c al_a_.m__p) t.2.2 :: As) w' := by
  rw [leftist_Pop] at hm
  refine enter (args := [.pointer (some ⟨p_a_, 0, none⟩), .int .i64 r]) Tryz.func81 rfl rfl rfl fun a hE => ?_
  refine Runs.seq ?_
  refine Runs.region ?_
  refine WR.seg hE 2 [] [0, 1] (Lo := [(0, .pointer (some ⟨p_a_, 0, none⟩)), (1, .int .i64 r)]) (obs := []) rfl (by kernel_rfl) trivial fun a hE => ?_
  refine WR.done rfl ?_
  refine Runs.seq ?_
  refine Runs.seq ?_
  obtain ⟨s, es, hm⟩ := bind_some hm
  refine Runs.join (fun a w => EnvOk 25 a [(0, .pointer (some ⟨p_a_, 0, none⟩)), (1, .int .i64 r), (14, .bool s)] ∧ St w0 (arena_Arena.R p_a_ al_a_ a_ :: As) w) (fun hk => ?_) ?_
  · replace hm := es; clear es
    refine Runs.region ?_
    refine WR.seg hE 5 [] [0, 1, 9, 10, 11] (Lo := [(0, .pointer (some ⟨p_a_, 0, none⟩)), (1, .int .i64 r), (9, .bool false), (10, .pointer (some ⟨p_a_, 0, none⟩)), (11, .int .i64 r)]) (obs := []) rfl (by kernel_rfl) trivial fun a hE => ?_
    obtain ⟨t_, et_, hm⟩ := bind_some hm
    refine WR.eff hE rfl rfl rfl rfl (OpTo.fn hE rfl rfl Tryz.call58 (arena_Arena_Live_ok et_ H)) ?_
    rintro _ w ⟨rfl, H⟩ a hE
    refine WR.seg hE 8 [] [0, 1, 14] (Lo := [(0, .pointer (some ⟨p_a_, 0, none⟩)), (1, .int .i64 r), (14, .bool (!t_))]) (obs := []) rfl (by kernel_rfl) trivial fun a hE => ?_
    refine WR.done rfl ?_
    cases hm
    exact hk _ _ ⟨hE.sel [0, 1, 14] (by kernel_rfl), H⟩
  rintro a w ⟨hE, H⟩
  refine Runs.cond hE rfl (fun c => ?_) (fun c => ?_)
  · replace hm := cond_t c hm
    refine Runs.seq ?_
    refine Runs.region ?_
    refine WR.seg hE 2 [] [4, 5] (Lo := [(4, .int .i64 (-1)), (5, .int .i64 (-1))]) (obs := []) rfl (by kernel_rfl) trivial fun a hE => ?_
    refine WR.done rfl ?_
    refine Runs.ret hE Tryz.func81 rfl rfl ?_
    cases hm
    exact ⟨al_a_.free_b, al_a_.free_c, rfl, H⟩
  · replace hm := cond_f c hm
    refine Runs.skip ?_
    refine Runs.seq ?_
    refine Runs.region ?_
    refine WR.seg hE 2 [] [0, 1, 15, 16] (Lo := [(0, .pointer (some ⟨p_a_, 0, none⟩)), (1, .int .i64 r), (15, .pointer (some ⟨p_a_, 0, none⟩)), (16, .int .i64 r)]) (obs := []) rfl (by kernel_rfl) trivial fun a hE => ?_
    obtain ⟨t_1, et_1, hm⟩ := bind_some hm
    refine WR.eff hE rfl rfl rfl rfl (OpTo.fn hE rfl rfl Tryz.call139 (leftist_kids_ok et_1 H)) ?_
    rintro _ w ⟨rfl, H⟩ a hE
    refine WR.seg hE 4 [] [0, 1, 6] (Lo := [(0, .pointer (some ⟨p_a_, 0, none⟩)), (1, .int .i64 r), (6, .int .i64 t_1.1)]) (obs := []) rfl (by kernel_rfl) trivial fun a hE => ?_
    refine WR.done rfl ?_
    refine Runs.seq ?_
    refine Runs.region ?_
    refine WR.seg hE 2 [] [0, 1, 6, 18, 19] (Lo := [(0, .pointer (some ⟨p_a_, 0, none⟩)), (1, .int .i64 r), (6, .int .i64 t_1.1), (18, .pointer (some ⟨p_a_, 0, none⟩)), (19, .int .i64 t_1.1)]) (obs := []) rfl (by kernel_rfl) trivial fun a hE => ?_
    obtain ⟨t_2, et_2, hm⟩ := bind_some hm
    refine WR.eff hE rfl rfl rfl rfl (OpTo.fn hE rfl rfl Tryz.call53 (arena_Arena_Set_ok et_2 H)) ?_
    rintro _ w ⟨rfl, hf, H⟩ a hE
    refine WR.done rfl ?_
    refine Runs.seq ?_
    refine Runs.region ?_
    refine WR.seg hE 3 [] [21, 22, 23] (Lo := [(21, .int .i64 t_1.1), (22, .pointer (some ⟨p_a_, 0, none⟩)), (23, .int .i64 r)]) (obs := []) rfl (by kernel_rfl) trivial fun a hE => ?_
    obtain ⟨t_3, et_3, hm⟩ := bind_some hm
    refine WR.eff hE rfl rfl rfl rfl (OpTo.fn hE rfl rfl Tryz.call123 (node_End_ok et_3 H)) ?_
    rintro _ w ⟨z, z1, rfl, H⟩ a hE
    refine WR.seg hE 6 [] [4, 5] (Lo := [(4, .int .i64 t_1.1), (5, .int .i64 t_3.1)]) (obs := []) rfl (by kernel_rfl) trivial fun a hE => ?_
    refine WR.done rfl ?_
    refine Runs.ret hE Tryz.func81 rfl rfl ?_
    cases hm
    exact ⟨z, z1, rfl, H⟩

theorem trees_Best_ok {w0 w : World} {As : List HP} {k : Nat} {p_a_ : Nat} {al_a_ : arena_Arena.A} {a_ : arena_Arena} {sb_l : Option Addr} {sc_l : Nat} {l : List Int} {X_l : HP} {t : Int × arena_Arena} (hX_l : SlRd X_l ecI 1 sb_l l) (hC_l : l.length ≤ sc_l) (hm : trees_Best k a_ l = some t) (H : St w0 (arena_Arena.R p_a_ al_a_ a_ :: X_l :: As) w) :
    CallsR Tryz.prog 60 #[.pointer (some ⟨p_a_, 0, none⟩), .slice sb_l l.length sc_l] w fun v w' => v = .int .i64 t.1 ∧ St w0 (arena_Arena.R p_a_ al_a_ t.2 :: X_l :: As) w' := by
  rw [trees_Best] at hm
  refine enter (args := [.pointer (some ⟨p_a_, 0, none⟩), .slice sb_l l.length sc_l]) Tryz.func60 rfl rfl rfl fun a hE => ?_
  refine Runs.seq ?_
  refine Runs.region ?_
  refine WR.seg hE 1 [] [0, 1] (Lo := [(0, .pointer (some ⟨p_a_, 0, none⟩)), (1, .slice sb_l l.length sc_l)]) (obs := []) rfl (by kernel_rfl) trivial fun a hE => ?_
  refine WR.done rfl ?_
  refine Runs.seq ?_
  refine Runs.region ?_
  refine WR.seg hE 1 [] [0, 1, 5] (Lo := [(0, .pointer (some ⟨p_a_, 0, none⟩)), (1, .slice sb_l l.length sc_l), (5, .int .i64 (-1))]) (obs := []) rfl (by kernel_rfl) trivial fun a hE => ?_
  refine WR.done rfl ?_
  refine Runs.seq ?_
  refine Runs.seq ?_
  refine Runs.region ?_
  refine WR.seg hE 3 [] [0, 5, 8, 9, 10] (Lo := [(0, .pointer (some ⟨p_a_, 0, none⟩)), (5, .int .i64 (-1)), (8, .slice sb_l l.length sc_l), (9, .int .i64 (l.length : Int)), (10, .int .i64 0)]) (obs := []) rfl (by kernel_rfl) trivial fun a hE => ?_
  refine WR.done rfl ?_
  obtain ⟨s, es, hm⟩ := bind_some hm
  refine Runs.join (fun a w => EnvOk 25 a [(5, .int .i64 s.1)] ∧ St w0 (arena_Arena.R p_a_ al_a_ s.2 :: X_l :: As) w) (fun hk => ?_) ?_
  · replace hm := es; clear es
    refine Runs.block ?_
    refine Runs.loop (fun m a w => ∃ (best : Int), ∃ (x : Int), ∃ (m_ : arena_Arena), EnvOk 25 a [(0, .pointer (some ⟨p_a_, 0, none⟩)), (5, .int .i64 best), (8, .slice sb_l l.length sc_l), (9, .int .i64 (l.length : Int)), (10, .int .i64 x)] ∧ St w0 (arena_Arena.R p_a_ al_a_ m_ :: X_l :: As) w ∧ trees_Best_l0 (l.length : Int) l m best x m_ = some s) k ⟨(-1), 0, a_, hE.sel [0, 5, 8, 9, 10] (by kernel_rfl), H.t1.t1, hm⟩ ?_
    rintro m ih a w ⟨best, x, m_, hE, H, hm⟩
    cases m with
    | zero => simp [trees_Best_l0] at hm
    | succ m =>
      rw [trees_Best_l0] at hm
      refine Runs.seq ?_
      refine Runs.region ?_
      refine WR.seg hE 1 [] [0, 5, 8, 9, 10, 11] (Lo := [(0, .pointer (some ⟨p_a_, 0, none⟩)), (5, .int .i64 best), (8, .slice sb_l l.length sc_l), (9, .int .i64 (l.length : Int)), (10, .int .i64 x), (11, .bool (decide (x < (l.length : Int))))]) (obs := []) rfl (by kernel_rfl) trivial fun a hE => ?_
      refine WR.done rfl ?_
      refine Runs.seq ?_
      refine Runs.cond hE rfl (fun c => ?_) (fun c => ?_)
      · replace hm := cond_t c hm
        refine Runs.skip ?_
        refine Runs.seq ?_
        obtain ⟨s1, es1, hm⟩ := bind_some hm
        refine Runs.join (fun a w => EnvOk 25 a [(0, .pointer (some ⟨p_a_, 0, none⟩)), (5, .int .i64 s1.1), (8, .slice sb_l l.length sc_l), (9, .int .i64 (l.length : Int)), (10, .int .i64 x)] ∧ St w0 (arena_Arena.R p_a_ al_a_ s1.2 :: X_l :: As) w) (fun hk => ?_) ?_
        · replace hm := es1; clear es1
          refine Runs.block ?_
          refine Runs.seq ?_
          refine Runs.region ?_
          obtain ⟨x2, ex2, hm⟩ := bind_some hm
          obtain ⟨b, o, hs, hb⟩ := SlRd.base hX_l ecI_ok H 1 rfl ex2
          refine WR.seg hE 3 [.pointer (some ⟨b, o, none⟩), .int .i64 x2] [0, 5, 7, 8, 9, 10] (Lo := [(0, .pointer (some ⟨p_a_, 0, none⟩)), (5, .int .i64 best), (7, .int .i64 x2), (8, .slice sb_l l.length sc_l), (9, .int .i64 (l.length : Int)), (10, .int .i64 x)]) (obs := [.p ((sb_l : Option Addr) = some ⟨b, o, none⟩), .p (0 ≤ (x : Int) ∧ (x : Int) < ((l.length : Nat) : Int)), .cell ⟨b, o + (Int.toNat x) * 1, none⟩ (.int .i64 x2)]) rfl (by kernel_rfl) ⟨hs, hb, SlRd.cells hX_l ecI_ok H 1 rfl hs ex2 0 _ rfl, trivial⟩ fun a hE => ?_
          refine WR.done rfl ?_
          refine Runs.seq ?_
          obtain ⟨s2, es2, hm⟩ := bind_some hm
          refine Runs.join (fun a w => EnvOk 25 a [(0, .pointer (some ⟨p_a_, 0, none⟩)), (5, .int .i64 best), (7, .int .i64 x2), (8, .slice sb_l l.length sc_l), (9, .int .i64 (l.length : Int)), (10, .int .i64 x), (21, .bool s2.1)] ∧ St w0 (arena_Arena.R p_a_ al_a_ s2.2 :: X_l :: As) w) (fun hk => ?_) ?_
          · replace hm := es2; clear es2
            refine Runs.region ?_
            refine WR.seg hE 3 [] [0, 5, 7, 8, 9, 10, 16] (Lo := [(0, .pointer (some ⟨p_a_, 0, none⟩)), (5, .int .i64 best), (7, .int .i64 x2), (8, .slice sb_l l.length sc_l), (9, .int .i64 (l.length : Int)), (10, .int .i64 x), (16, .bool (best == (-1)))]) (obs := []) rfl (by kernel_rfl) trivial fun a hE => ?_
            rcases Bool.eq_false_or_eq_true (best == (-1)) with c | c
            · replace hE := hE.dec 16 c (by kernel_rfl)
              replace hm := cond_t c hm
              have c_ := c
              refine WR.seg hE 8 [] [0, 5, 7, 8, 9, 10, 21] (Lo := [(0, .pointer (some ⟨p_a_, 0, none⟩)), (5, .int .i64 best), (7, .int .i64 x2), (8, .slice sb_l l.length sc_l), (9, .int .i64 (l.length : Int)), (10, .int .i64 x), (21, .bool true)]) (obs := []) rfl (by kernel_rfl) trivial fun a hE => ?_
              refine WR.done rfl ?_
              cases hm
              exact hk _ _ ⟨hE.sel [0, 5, 7, 8, 9, 10, 21] (by kernel_rfl), H.t1.t1⟩
            · replace hE := hE.dec 16 c (by kernel_rfl)
              replace hm := cond_f c hm
              have c_1 := c
              refine WR.seg hE 6 [] [0, 5, 7, 8, 9, 10, 16, 17, 18, 19] (Lo := [(0, .pointer (some ⟨p_a_, 0, none⟩)), (5, .int .i64 best), (7, .int .i64 x2), (8, .slice sb_l l.length sc_l), (9, .int .i64 (l.length : Int)), (10, .int .i64 x), (16, .bool false), (17, .pointer (some ⟨p_a_, 0, none⟩)), (18, .int .i64 x2), (19, .int .i64 best)]) (obs := []) rfl (by kernel_rfl) trivial fun a hE => ?_
              obtain ⟨t_, et_, hm⟩ := bind_some hm
              refine WR.eff hE rfl rfl rfl rfl (OpTo.fn hE rfl rfl Tryz.call124 (node_Before_ok et_ H)) ?_
              rintro _ w ⟨rfl, H⟩ a hE
              refine WR.seg hE 8 [] [0, 5, 7, 8, 9, 10, 21] (Lo := [(0, .pointer (some ⟨p_a_, 0, none⟩)), (5, .int .i64 best), (7, .int .i64 x2), (8, .slice sb_l l.length sc_l), (9, .int .i64 (l.length : Int)), (10, .int .i64 x), (21, .bool t_.1)]) (obs := []) rfl (by kernel_rfl) trivial fun a hE => ?_
              refine WR.done rfl ?_
              cases hm
              exact hk _ _ ⟨hE.sel [0, 5, 7, 8, 9, 10, 21] (by kernel_rfl), H.t1.t1⟩
          rintro a w ⟨hE, H⟩
          refine Runs.cond hE rfl (fun c => ?_) (fun c => ?_)
          · replace hm := cond_t c hm
            refine Runs.region ?_
            refine WR.seg hE 2 [] [0, 5, 8, 9, 10] (Lo := [(0, .pointer (some ⟨p_a_, 0, none⟩)), (5, .int .i64 x2), (8, .slice sb_l l.length sc_l), (9, .int .i64 (l.length : Int)), (10, .int .i64 x)]) (obs := []) rfl (by kernel_rfl) trivial fun a hE => ?_
            refine WR.done rfl ?_
            refine Runs.inBlock ?_
            cases hm
            exact hk _ _ ⟨hE.sel [0, 5, 8, 9, 10] (by kernel_rfl), H.t1.t1⟩
          · replace hm := cond_f c hm
            refine Runs.skip ?_
            refine Runs.inBlock ?_
            cases hm
            exact hk _ _ ⟨hE.sel [0, 5, 8, 9, 10] (by kernel_rfl), H.t1.t1⟩
        rintro a w ⟨hE, H⟩
        refine Runs.region ?_
        refine WR.seg hE 2 [] [0, 5, 8, 9, 10] (Lo := [(0, .pointer (some ⟨p_a_, 0, none⟩)), (5, .int .i64 s1.1), (8, .slice sb_l l.length sc_l), (9, .int .i64 (l.length : Int)), (10, .int .i64 (w64 (x + 1)))]) (obs := []) rfl (by kernel_rfl) trivial fun a hE => ?_
        refine WR.done rfl ?_
        exact ih m (Nat.lt_succ_self m) _ _ ⟨s1.1, w64 (x + 1), s1.2, hE.sel [0, 5, 8, 9, 10] (by kernel_rfl), H.t1.t1, hm⟩
      · replace hm := cond_f c hm
        refine Runs.exit rfl ?_
        cases hm
        exact hk _ _ ⟨hE.sel [5] (by kernel_rfl), H.t1.t1⟩
  rintro a w ⟨hE, H⟩
  refine Runs.seq ?_
  refine Runs.region ?_
  refine WR.seg hE 2 [] [4] (Lo := [(4, .int .i64 s.1)]) (obs := []) rfl (by kernel_rfl) trivial fun a hE => ?_
  refine WR.done rfl ?_
  refine Runs.ret hE Tryz.func60 rfl rfl ?_
  cases hm
  exact ⟨rfl, H.t1.t1⟩

theorem binomial_without_f1_ok {w0 w : World} {As : List HP} {x : Int} {v_ : Int} {r : Nat} {t : Bool}  (hm : binomial_without_f1 x v_ = some t) (H : St w0 (Blk r 3 [.int .i64 v_] :: As) w) :
    CallsR Tryz.prog 121 #[.int .i64 x, .pointer (some ⟨r, 0, none⟩)] w fun v w' => v = .bool t ∧ St w0 (Blk r 3 [.int .i64 v_] :: As) w' := by
  rw [binomial_without_f1] at hm
  refine enter (args := [.int .i64 x, .pointer (some ⟨r, 0, none⟩)]) Tryz.func121 rfl rfl rfl fun a hE => ?_
  refine Runs.seq ?_
  refine Runs.region ?_
  refine WR.seg hE 1 [] [0, 1] (Lo := [(0, .int .i64 x), (1, .pointer (some ⟨r, 0, none⟩))]) (obs := []) rfl (by kernel_rfl) trivial fun a hE => ?_
  refine WR.done rfl ?_
  refine Runs.seq ?_
  refine Runs.region ?_
  refine WR.seg hE 4 [.int .i64 v_] [3] (Lo := [(3, .bool (x == v_))]) (obs := [.cell ⟨r, 0, none⟩ (.int .i64 v_)]) rfl (by kernel_rfl) ⟨H.cell 0 rfl rfl, trivial⟩ fun a hE => ?_
  refine WR.done rfl ?_
  refine Runs.ret hE Tryz.func121 rfl rfl ?_
  cases hm
  exact ⟨rfl, H⟩

theorem slices_IndexFunc_int_g121_ok {w0 w : World} {As : List HP} {k : Nat} {sb_s : Option Addr} {sc_s : Nat} {s : List Int} {X_s : HP} {v_ : Int} {r : Nat} {t : Int} (hX_s : SlRd X_s ecI 1 sb_s s) (hC_s : s.length ≤ sc_s) (hm : slices_IndexFunc_int_g121 k s v_ = some t) (H : St w0 (X_s :: Blk r 3 [.int .i64 v_] :: As) w) :
    CallsR Tryz.prog 154 #[.slice sb_s s.length sc_s, .func (.func 121) #[] #[.pointer (some ⟨r, 0, none⟩)]] w fun v w' => v = .int .i64 t ∧ St w0 (X_s :: Blk r 3 [.int .i64 v_] :: As) w' := by
  rw [slices_IndexFunc_int_g121] at hm
  refine enter (args := [.slice sb_s s.length sc_s, .func (.func 121) #[] #[.pointer (some ⟨r, 0, none⟩)]]) Tryz.func154 rfl rfl rfl fun a hE => ?_
  refine Runs.seq ?_
  refine Runs.region ?_
  refine WR.seg hE 1 [] [0, 1] (Lo := [(0, .slice sb_s s.length sc_s), (1, .func (.func 121) #[] #[.pointer (some ⟨r, 0, none⟩)])]) (obs := []) rfl (by kernel_rfl) trivial fun a hE => ?_
  refine WR.done rfl ?_
  refine Runs.seq ?_
  refine Runs.seq ?_
  refine Runs.region ?_
  refine WR.seg hE 3 [] [0, 1, 7, 8] (Lo := [(0, .slice sb_s s.length sc_s), (1, .func (.func 121) #[] #[.pointer (some ⟨r, 0, none⟩)]), (7, .int .i64 (s.length : Int)), (8, .int .i64 0)]) (obs := []) rfl (by kernel_rfl) trivial fun a hE => ?_
  refine WR.done rfl ?_
  obtain ⟨s1, es1, hR⟩ := bind_some hm
  refine Runs.join (fun a w => ∃ s2, s1 = Sum.inr s2 ∧ EnvOk 19 a [] ∧ St w0 (X_s :: Blk r 3 [.int .i64 v_] :: As) w) (fun hk => ?_) ?_
  · replace hm := es1; clear es1
    refine Runs.block ?_
    refine Runs.loop (fun m a w => ∃ (x : Int), EnvOk 19 a [(0, .slice sb_s s.length sc_s), (1, .func (.func 121) #[] #[.pointer (some ⟨r, 0, none⟩)]), (7, .int .i64 (s.length : Int)), (8, .int .i64 x)] ∧ St w0 (X_s :: Blk r 3 [.int .i64 v_] :: As) w ∧ slices_IndexFunc_int_g121_l0 (s.length : Int) s v_ m x = some s1) k ⟨0, hE.sel [0, 1, 7, 8] (by kernel_rfl), H.t1.t1, hm⟩ ?_
    rintro m ih a w ⟨x, hE, H, hm⟩
    cases m with
    | zero => simp [slices_IndexFunc_int_g121_l0] at hm
    | succ m =>
      rw [slices_IndexFunc_int_g121_l0] at hm
      refine Runs.seq ?_
      refine Runs.region ?_
      refine WR.seg hE 1 [] [0, 1, 7, 8, 9] (Lo := [(0, .slice sb_s s.length sc_s), (1, .func (.func 121) #[] #[.pointer (some ⟨r, 0, none⟩)]), (7, .int .i64 (s.length : Int)), (8, .int .i64 x), (9, .bool (decide (x < (s.length : Int))))]) (obs := []) rfl (by kernel_rfl) trivial fun a hE => ?_
      refine WR.done rfl ?_
      refine Runs.seq ?_
      refine Runs.cond hE rfl (fun c => ?_) (fun c => ?_)
      · replace hm := cond_t c hm
        refine Runs.skip ?_
        refine Runs.seq ?_
        refine Runs.block ?_
        refine Runs.seq ?_
        refine Runs.region ?_
        refine WR.seg hE 2 [] [0, 1, 5, 7, 8] (Lo := [(0, .slice sb_s s.length sc_s), (1, .func (.func 121) #[] #[.pointer (some ⟨r, 0, none⟩)]), (5, .int .i64 x), (7, .int .i64 (s.length : Int)), (8, .int .i64 x)]) (obs := []) rfl (by kernel_rfl) trivial fun a hE => ?_
        refine WR.done rfl ?_
        refine Runs.seq ?_
        refine Runs.region ?_
        obtain ⟨x2, ex2, hm⟩ := bind_some hm
        obtain ⟨b, o, hs, hb⟩ := SlRd.base hX_s ecI_ok H 0 rfl ex2
        refine WR.seg hE 5 [.pointer (some ⟨b, o, none⟩), .int .i64 x2] [0, 1, 5, 7, 8, 11, 15] (Lo := [(0, .slice sb_s s.length sc_s), (1, .func (.func 121) #[] #[.pointer (some ⟨r, 0, none⟩)]), (5, .int .i64 x), (7, .int .i64 (s.length : Int)), (8, .int .i64 x), (11, .func (.func 121) #[] #[.pointer (some ⟨r, 0, none⟩)]), (15, .int .i64 x2)]) (obs := [.p ((sb_s : Option Addr) = some ⟨b, o, none⟩), .p (0 ≤ (x : Int) ∧ (x : Int) < ((s.length : Nat) : Int)), .cell ⟨b, o + (Int.toNat x) * 1, none⟩ (.int .i64 x2)]) rfl (by kernel_rfl) ⟨hs, hb, SlRd.cells hX_s ecI_ok H 0 rfl hs ex2 0 _ rfl, trivial⟩ fun a hE => ?_
        obtain ⟨t_, et_, hm⟩ := bind_some hm
        refine WR.eff hE rfl rfl rfl rfl (OpTo.fv hE rfl rfl rfl Tryz.call121 (binomial_without_f1_ok et_ H.t1)) ?_
        rintro _ w ⟨rfl, H⟩ a hE
        refine WR.done rfl ?_
        refine Runs.cond hE rfl (fun c => ?_) (fun c => ?_)
        · replace hm := cond_t c hm
          refine Runs.seq ?_
          refine Runs.region ?_
          refine WR.seg hE 2 [] [4] (Lo := [(4, .int .i64 x)]) (obs := []) rfl (by kernel_rfl) trivial fun a hE => ?_
          refine WR.done rfl ?_
          refine Runs.ret hE Tryz.func154 rfl rfl ?_
          cases hm
          dsimp only at hR; cases hR
          exact ⟨rfl, H.t1⟩
        · replace hm := cond_f c hm
          refine Runs.skip ?_
          refine Runs.inBlock ?_
          refine Runs.region ?_
          refine WR.seg hE 2 [] [0, 1, 7, 8] (Lo := [(0, .slice sb_s s.length sc_s), (1, .func (.func 121) #[] #[.pointer (some ⟨r, 0, none⟩)]), (7, .int .i64 (s.length : Int)), (8, .int .i64 (w64 (x + 1)))]) (obs := []) rfl (by kernel_rfl) trivial fun a hE => ?_
          refine WR.done rfl ?_
          exact ih m (Nat.lt_succ_self m) _ _ ⟨w64 (x + 1), hE.sel [0, 1, 7, 8] (by kernel_rfl), H.t1, hm⟩
      · replace hm := cond_f c hm
        refine Runs.exit rfl ?_
        cases hm
        exact hk _ _ ⟨_, rfl, hE.sel [] (by kernel_rfl), H.t1.t1⟩
  rintro a w ⟨s2, rfl, hE, H⟩
  replace hm := hR; dsimp only at hm
  refine Runs.seq ?_
  refine Runs.region ?_
  refine WR.seg hE 1 [] [4] (Lo := [(4, .int .i64 (-1))]) (obs := []) rfl (by kernel_rfl) trivial fun a hE => ?_
  refine WR.done rfl ?_
  refine Runs.ret hE Tryz.func154 rfl rfl ?_
  cases hm
  exact ⟨rfl, H.t1.t1⟩

theorem slices_DeleteFunc_int_g121_ok {w0 w : World} {As : List HP} {k : Nat} {sb_s : Option Addr} {sc_s : Nat} {s : List Int} {v_ : Int} {r : Nat} {t : (List Int)}  (hm : slices_DeleteFunc_int_g121 k s v_ = some t) (H : St w0 (Sl 3 ecI 1 sb_s sc_s s :: Blk r 3 [.int .i64 v_] :: As) w) :
    CallsR Tryz.prog 120 #[.slice sb_s s.length sc_s, .func (.func 121) #[] #[.pointer (some ⟨r, 0, none⟩)]] w fun v w' => ∃ (sb0 : Option Addr), ∃ (sc0 : Nat), v = .slice sb0 t.length sc0 ∧ St w0 (Sl 3 ecI 1 sb0 sc0 t :: Blk r 3 [.int .i64 v_] :: As) w' := by
  rw [slices_DeleteFunc_int_g121] at hm
  refine enter (args := [.slice sb_s s.length sc_s, .func (.func 121) #[] #[.pointer (some ⟨r, 0, none⟩)]]) Tryz.func120 rfl rfl rfl fun a hE => ?_
  refine Runs.seq ?_
  refine Runs.region ?_
  refine WR.seg hE 1 [] [0, 1] (Lo := [(0, .slice sb_s s.length sc_s), (1, .func (.func 121) #[] #[.pointer (some ⟨r, 0, none⟩)])]) (obs := []) rfl (by kernel_rfl) trivial fun a hE => ?_
  refine WR.done rfl ?_
  refine Runs.seq ?_
  refine Runs.region ?_
  refine WR.seg hE 2 [] [0, 1, 8, 9] (Lo := [(0, .slice sb_s s.length sc_s), (1, .func (.func 121) #[] #[.pointer (some ⟨r, 0, none⟩)]), (8, .slice sb_s s.length sc_s), (9, .func (.func 121) #[] #[.pointer (some ⟨r, 0, none⟩)])]) (obs := []) rfl (by kernel_rfl) trivial fun a hE => ?_
  obtain ⟨t_, et_, hm⟩ := bind_some hm
  replace H := H.t1.t1
  refine WR.eff hE rfl rfl rfl rfl (OpTo.fn hE rfl rfl Tryz.call154 (slices_IndexFunc_int_g121_ok (hX_s := (sl_rd 3 ecI 1 _ _ _)) (hC_s := (H.slCap 0 rfl).1) et_ H)) ?_
  rintro _ w ⟨rfl, H⟩ a hE
  refine WR.seg hE 4 [] [0, 1, 5] (Lo := [(0, .slice sb_s s.length sc_s), (1, .func (.func 121) #[] #[.pointer (some ⟨r, 0, none⟩)]), (5, .int .i64 t_)]) (obs := []) rfl (by kernel_rfl) trivial fun a hE => ?_
  refine WR.done rfl ?_
  refine Runs.seq ?_
  refine Runs.seq ?_
  refine Runs.region ?_
  refine WR.seg hE 2 [] [0, 1, 5, 12] (Lo := [(0, .slice sb_s s.length sc_s), (1, .func (.func 121) #[] #[.pointer (some ⟨r, 0, none⟩)]), (5, .int .i64 t_), (12, .bool (t_ == (-1)))]) (obs := []) rfl (by kernel_rfl) trivial fun a hE => ?_
  refine WR.done rfl ?_
  refine Runs.cond hE rfl (fun c => ?_) (fun c => ?_)
  · replace hm := cond_t c hm
    refine Runs.seq ?_
    refine Runs.region ?_
    refine WR.seg hE 2 [] [4] (Lo := [(4, .slice sb_s s.length sc_s)]) (obs := []) rfl (by kernel_rfl) trivial fun a hE => ?_
    refine WR.done rfl ?_
    refine Runs.ret hE Tryz.func120 rfl rfl ?_
    cases hm
    exact ⟨sb_s, sc_s, rfl, H.t1.t1⟩
  · replace hm := cond_f c hm
    refine Runs.skip ?_
    refine Runs.seq ?_
    refine Runs.seq ?_
    refine Runs.region ?_
    refine WR.seg hE 3 [] [0, 1, 5, 6] (Lo := [(0, .slice sb_s s.length sc_s), (1, .func (.func 121) #[] #[.pointer (some ⟨r, 0, none⟩)]), (5, .int .i64 t_), (6, .int .i64 (w64 (t_ + 1)))]) (obs := []) rfl (by kernel_rfl) trivial fun a hE => ?_
    refine WR.done rfl ?_
    obtain ⟨s1, es1, hm⟩ := bind_some hm
    refine Runs.join (fun a w => EnvOk 42 a [(0, .slice sb_s s1.2.length sc_s), (5, .int .i64 s1.1)] ∧ St w0 (Sl 3 ecI 1 sb_s sc_s s1.2 :: Blk r 3 [.int .i64 v_] :: As) w) (fun hk => ?_) ?_
    · replace hm := es1; clear es1
      refine Runs.block ?_
      refine Runs.loop (fun m a w => ∃ (i : Int), ∃ (j : Int), ∃ (m_ : List Int), EnvOk 42 a [(0, .slice sb_s m_.length sc_s), (1, .func (.func 121) #[] #[.pointer (some ⟨r, 0, none⟩)]), (5, .int .i64 i), (6, .int .i64 j)] ∧ St w0 (Sl 3 ecI 1 sb_s sc_s m_ :: Blk r 3 [.int .i64 v_] :: As) w ∧ slices_DeleteFunc_int_g121_l0 v_ m i j m_ = some s1) k ⟨t_, w64 (t_ + 1), s, hE.sel [0, 1, 5, 6] (by kernel_rfl), H.t1.t1, hm⟩ ?_
      rintro m ih a w ⟨i, j, m_, hE, H, hm⟩
      cases m with
      | zero => simp [slices_DeleteFunc_int_g121_l0] at hm
      | succ m =>
        rw [slices_DeleteFunc_int_g121_l0] at hm
        refine Runs.seq ?_
        refine Runs.seq ?_
        refine Runs.region ?_
        refine WR.seg hE 4 [] [0, 1, 5, 6, 19] (Lo := [(0, .slice sb_s m_.length sc_s), (1, .func (.func 121) #[] #[.pointer (some ⟨r, 0, none⟩)]), (5, .int .i64 i), (6, .int .i64 j), (19, .bool (decide (j < (m_.length : Int))))]) (obs := []) rfl (by kernel_rfl) trivial fun a hE => ?_
        refine WR.done rfl ?_
        refine Runs.cond hE rfl (fun c => ?_) (fun c => ?_)
        · replace hm := cond_t c hm
          refine Runs.skip ?_
          refine Runs.seq ?_
          obtain ⟨s2, es2, hm⟩ := bind_some hm
          refine Runs.join (fun a w => EnvOk 42 a [(0, .slice sb_s s2.2.length sc_s), (1, .func (.func 121) #[] #[.pointer (some ⟨r, 0, none⟩)]), (5, .int .i64 s2.1), (6, .int .i64 j)] ∧ St w0 (Sl 3 ecI 1 sb_s sc_s s2.2 :: Blk r 3 [.int .i64 v_] :: As) w) (fun hk => ?_) ?_
          · replace hm := es2; clear es2
            refine Runs.block ?_
            refine Runs.seq ?_
            refine Runs.region ?_
            obtain ⟨x, ex, hm⟩ := bind_some hm
            obtain ⟨b, o, hs, hb⟩ := SlRd.base (sl_rd 3 ecI 1 _ _ _) ecI_ok H 0 rfl ex
            refine WR.seg hE 5 [.pointer (some ⟨b, o, none⟩), .int .i64 x] [0, 1, 5, 6, 7] (Lo := [(0, .slice sb_s m_.length sc_s), (1, .func (.func 121) #[] #[.pointer (some ⟨r, 0, none⟩)]), (5, .int .i64 i), (6, .int .i64 j), (7, .int .i64 x)]) (obs := [.p ((sb_s : Option Addr) = some ⟨b, o, none⟩), .p (0 ≤ (j : Int) ∧ (j : Int) < ((m_.length : Nat) : Int)), .cell ⟨b, o + (Int.toNat j) * 1, none⟩ (.int .i64 x)]) rfl (by kernel_rfl) ⟨hs, hb, SlRd.cells (sl_rd 3 ecI 1 _ _ _) ecI_ok H 0 rfl hs ex 0 _ rfl, trivial⟩ fun a hE => ?_
            refine WR.done rfl ?_
            refine Runs.seq ?_
            refine Runs.region ?_
            refine WR.seg hE 2 [] [0, 1, 5, 6, 7, 26, 27] (Lo := [(0, .slice sb_s m_.length sc_s), (1, .func (.func 121) #[] #[.pointer (some ⟨r, 0, none⟩)]), (5, .int .i64 i), (6, .int .i64 j), (7, .int .i64 x), (26, .func (.func 121) #[] #[.pointer (some ⟨r, 0, none⟩)]), (27, .int .i64 x)]) (obs := []) rfl (by kernel_rfl) trivial fun a hE => ?_
            obtain ⟨t_1, et_1, hm⟩ := bind_some hm
            refine WR.eff hE rfl rfl rfl rfl (OpTo.fv hE rfl rfl rfl Tryz.call121 (binomial_without_f1_ok et_1 H.t1)) ?_
            rintro _ w ⟨rfl, H⟩ a hE
            refine WR.seg hE 4 [] [0, 1, 5, 6, 7, 29] (Lo := [(0, .slice sb_s m_.length sc_s), (1, .func (.func 121) #[] #[.pointer (some ⟨r, 0, none⟩)]), (5, .int .i64 i), (6, .int .i64 j), (7, .int .i64 x), (29, .bool (!t_1))]) (obs := []) rfl (by kernel_rfl) trivial fun a hE => ?_
            refine WR.done rfl ?_
            refine Runs.cond hE rfl (fun c => ?_) (fun c => ?_)
            · replace hm := cond_t c hm
              refine Runs.seq ?_
              refine Runs.region ?_
              obtain ⟨x1, ex1, hm⟩ := bind_some hm
              obtain ⟨b1, o1, hs1, hb1⟩ := SlRd.base (sl_rd 3 ecI 1 _ _ _) ecI_ok H 1 rfl ex1
              refine WR.seg hE 4 [.pointer (some ⟨b1, o1, none⟩)] [0, 1, 5, 6, 32, 33] (Lo := [(0, .slice sb_s m_.length sc_s), (1, .func (.func 121) #[] #[.pointer (some ⟨r, 0, none⟩)]), (5, .int .i64 i), (6, .int .i64 j), (32, .int .i64 x), (33, .pointer (some ⟨b1, o1 + (Int.toNat i) * 1, none⟩))]) (obs := [.p ((sb_s : Option Addr) = some ⟨b1, o1, none⟩), .p (0 ≤ (i : Int) ∧ (i : Int) < ((m_.length : Nat) : Int))]) rfl (by kernel_rfl) ⟨hs1, hb1, trivial⟩ fun a hE => ?_
              refine WR.eff0 hE rfl rfl rfl (OpTo.storeSl (q := 0) (x' := x) hE H.t1 ecI_ok rfl hs1 ex1 rfl rfl rfl rfl rfl (Nat.le_of_ble_eq_true rfl) rfl) ?_
              rintro _ w H a hE
              try rw [← mSet_len m_ i x] at hE
              refine WR.done rfl ?_
              refine Runs.region ?_
              refine WR.seg hE 3 [] [0, 1, 5, 6] (Lo := [(0, .slice sb_s ((mSet m_ i x).length) sc_s), (1, .func (.func 121) #[] #[.pointer (some ⟨r, 0, none⟩)]), (5, .int .i64 (w64 (i + 1))), (6, .int .i64 j)]) (obs := []) rfl (by kernel_rfl) trivial fun a hE => ?_
              refine WR.done rfl ?_
              refine Runs.inBlock ?_
              cases hm
              exact hk _ _ ⟨hE.sel [0, 1, 5, 6] (by kernel_rfl), H.t1.t1⟩
            · replace hm := cond_f c hm
              refine Runs.skip ?_
              refine Runs.inBlock ?_
              cases hm
              exact hk _ _ ⟨hE.sel [0, 1, 5, 6] (by kernel_rfl), H.t1⟩
          rintro a w ⟨hE, H⟩
          refine Runs.region ?_
          refine WR.seg hE 3 [] [0, 1, 5, 6] (Lo := [(0, .slice sb_s s2.2.length sc_s), (1, .func (.func 121) #[] #[.pointer (some ⟨r, 0, none⟩)]), (5, .int .i64 s2.1), (6, .int .i64 (w64 (j + 1)))]) (obs := []) rfl (by kernel_rfl) trivial fun a hE => ?_
          refine WR.done rfl ?_
          exact ih m (Nat.lt_succ_self m) _ _ ⟨s2.1, w64 (j + 1), s2.2, hE.sel [0, 1, 5, 6] (by kernel_rfl), H.t1.t1, hm⟩
        · replace hm := cond_f c hm
          refine Runs.exit rfl ?_
          cases hm
          exact hk _ _ ⟨hE.sel [0, 5] (by kernel_rfl), H.t1.t1⟩
    rintro a w ⟨hE, H⟩
    refine Runs.seq ?_
    refine Runs.region ?_
    obtain ⟨l, el, hm⟩ := bind_some hm
    obtain ⟨sb, q⟩ : ∃ z, rebase sb_s sc_s (Int.toNat s1.1) 1 = z := ⟨_, rfl⟩
    obtain ⟨sc, q1⟩ : ∃ z, sc_s - (Int.toNat s1.1) = z := ⟨_, rfl⟩
    refine WR.seg hE 3 [.slice sb l.length sc] [0, 5, 38] (Lo := [(0, .slice sb_s s1.2.length sc_s), (5, .int .i64 s1.1), (38, .slice sb l.length sc)]) (obs := [.p (rebase sb_s sc_s (Int.toNat s1.1) 1 = sb), .p (s1.2.length - (Int.toNat s1.1) = l.length), .p (sc_s - (Int.toNat s1.1) = sc), .p (0 ≤ (s1.1 : Int) ∧ (s1.1 : Int) ≤ ((s1.2.length : Nat) : Int))]) rfl (by kernel_rfl) ⟨q, cut_len el, q1, cut_bd0 el, trivial⟩ fun a hE => ?_
    refine WR.eff0 hE rfl rfl rfl (OpTo.clearSl (z := 0) hE H ecI_ok el q q1 rfl rfl rfl rfl rfl rfl) ?_
    rintro _ w ⟨_, H⟩ a hE
    try rw [← mClear_len (z := 0) el] at hE
    refine WR.done rfl ?_
    refine Runs.seq ?_
    refine Runs.region ?_
    obtain ⟨l1, el1, hm⟩ := bind_some hm
    obtain ⟨sb1, q2⟩ : ∃ z, rebase sb_s sc_s (Int.toNat 0) 1 = z := ⟨_, rfl⟩
    obtain ⟨sc1, q3⟩ : ∃ z, sc_s - (Int.toNat 0) = z := ⟨_, rfl⟩
    refine WR.seg hE 4 [.slice sb1 l1.length sc1] [4] (Lo := [(4, .slice sb1 l1.length sc1)]) (obs := [.p (rebase sb_s sc_s 0 1 = sb1), .p ((Int.toNat s1.1) - 0 = l1.length), .p (sc_s - 0 = sc1), .p (0 ≤ (s1.1 : Int) ∧ (s1.1 : Int) ≤ ((sc_s : Nat) : Int))]) rfl (by kernel_rfl) ⟨q2, cut_len el1, q3, cut_cap el1 (H.slCap 0 rfl).1, trivial⟩ fun a hE => ?_
    refine WR.done rfl ?_
    replace H := H.slCut' ecI_ok el1 q2 q3
    refine Runs.ret hE Tryz.func120 rfl rfl ?_
    cases hm
    exact ⟨sb1, sc1, rfl, H.t1.t1⟩

theorem trees_Kids_ok {w0 w : World} {As : List HP} {k : Nat} {p_a_ : Nat} {al_a_ : arena_Arena.A} {a_ : arena_Arena} {n : Int} {t : (List Int) × arena_Arena}  (hm : trees_Kids k a_ n = some t) (H : St w0 (arena_Arena.R p_a_ al_a_ a_ :: As) w) :
    CallsR Tryz.prog 122 #[.pointer (some ⟨p_a_, 0, none⟩), .int .i64 n] w fun v w' => ∃ (sb0 : Option Addr), ∃ (sc0 : Nat), v = .slice sb0 t.1.length sc0 ∧ St w0 (Sl 3 ecI 1 sb0 sc0 t.1 :: arena_Arena.R p_a_ al_a_ t.2 :: As) w' := by
  rw [trees_Kids] at hm
  refine enter (args := [.pointer (some ⟨p_a_, 0, none⟩), .int .i64 n]) Tryz.func122 rfl rfl rfl fun a hE => ?_
  refine Runs.seq ?_
  refine Runs.region ?_
  refine WR.seg hE 1 [] [0, 1] (Lo := [(0, .pointer (some ⟨p_a_, 0, none⟩)), (1, .int .i64 n)]) (obs := []) rfl (by kernel_rfl) trivial fun a hE => ?_
  refine WR.done rfl ?_
  refine Runs.seq ?_
  refine Runs.region ?_
  refine WR.seg hE 3 [] [5, 6, 7] (Lo := [(5, .pointer (some ⟨p_a_, 0, none⟩)), (6, .pointer (some ⟨p_a_, 0, none⟩)), (7, .int .i64 n)]) (obs := []) rfl (by kernel_rfl) trivial fun a hE => ?_
  obtain ⟨t_, et_, hm⟩ := bind_some hm
  refine WR.eff hE rfl rfl rfl rfl (OpTo.fn hE rfl rfl Tryz.call73 (arena_Arena_Cell_ok et_ H)) ?_
  rintro _ w ⟨rfl, H⟩ a hE
  obtain ⟨t_1, et_1, hm⟩ := bind_some hm
  refine WR.eff hE rfl rfl rfl rfl (OpTo.fn hE rfl rfl Tryz.call117 (node_Row_ok et_1 H)) ?_
  rintro _ w ⟨sb, sc, rfl, H⟩ a hE
  refine WR.seg hE 6 [] [4] (Lo := [(4, .slice sb t_1.1.length sc)]) (obs := []) rfl (by kernel_rfl) trivial fun a hE => ?_
  refine WR.done rfl ?_
  refine Runs.ret hE Tryz.func122 rfl rfl ?_
  cases hm
  exact ⟨sb, sc, rfl, H.t1.t1⟩

theorem binomial_without_ok {w0 w : World} {As : List HP} {k : Nat} {p_a_ : Nat} {al_a_ : arena_Arena.A} {a_ : arena_Arena} {sb_l : Option Addr} {sc_l : Nat} {l : List Int} {n : Int} {t : Int × Int × arena_Arena}  (hm : binomial_without k a_ l n = some t) (H : St w0 (arena_Arena.R p_a_ al_a_ a_ :: Sl 3 ecI 1 sb_l sc_l l :: As) w) :
    CallsR Tryz.prog 59 #[.pointer (some ⟨p_a_, 0, none⟩), .slice sb_l l.length sc_l, .int .i64 n] w fun v w' => ∃ (z_a__free_b : Option Addr), ∃ (z_a__free_c : Nat), v = .tuple #[.int .i64 t.1, .int .i64 t.2.1] ∧ St w0 (arena_Arena.R p_a_ (arena_Arena.A.mk al_a_.l_b al_a_.l_c z_a__free_b z_a__free_c al_a_.m__p) t.2.2 :: As) w' := by
  rw [binomial_without] at hm
  refine enter (args := [.pointer (some ⟨p_a_, 0, none⟩), .slice sb_l l.length sc_l, .int .i64 n]) Tryz.func59 rfl rfl rfl fun a hE => ?_
  refine Runs.seq ?_
  refine Runs.region ?_
  refine WR.eff hE rfl rfl rfl rfl (OpTo.new hE H [] (.cells #[.int .i64 n] 3 (0, 0)) (fun r => .pointer (some ⟨r, 0, none⟩)) (obs := []) rfl (fun _ => by kernel_rfl) trivial) ?_
  rintro _ w ⟨r, rfl, H⟩ a hE
  refine WR.seg hE 3 [] [0, 1, 5] (Lo := [(0, .pointer (some ⟨p_a_, 0, none⟩)), (1, .slice sb_l l.length sc_l), (5, .pointer (some ⟨r, 0, none⟩))]) (obs := []) rfl (by kernel_rfl) trivial fun a hE => ?_
  refine WR.done rfl ?_
  refine Runs.seq ?_
  refine Runs.region ?_
  refine WR.seg hE 2 [] [0, 5, 10, 11] (Lo := [(0, .pointer (some ⟨p_a_, 0, none⟩)), (5, .pointer (some ⟨r, 0, none⟩)), (10, .slice sb_l l.length sc_l), (11, .func (.func 121) #[] #[.pointer (some ⟨r, 0, none⟩)])]) (obs := []) rfl (by kernel_rfl) trivial fun a hE => ?_
  obtain ⟨t_, et_, hm⟩ := bind_some hm
  refine WR.eff hE rfl rfl rfl rfl (OpTo.fn hE rfl rfl Tryz.call120 (slices_DeleteFunc_int_g121_ok et_ H.t2)) ?_
  rintro _ w ⟨sb, sc, rfl, H⟩ a hE
  refine WR.seg hE 4 [] [0, 5, 8] (Lo := [(0, .pointer (some ⟨p_a_, 0, none⟩)), (5, .pointer (some ⟨r, 0, none⟩)), (8, .slice sb t_.length sc)]) (obs := []) rfl (by kernel_rfl) trivial fun a hE => ?_
  refine WR.done rfl ?_
  refine Runs.seq ?_
  refine Runs.region ?_
  refine WR.seg hE 3 [.int .i64 n] [0, 5, 8, 13, 14, 15] (Lo := [(0, .pointer (some ⟨p_a_, 0, none⟩)), (5, .pointer (some ⟨r, 0, none⟩)), (8, .slice sb t_.length sc), (13, .slice sb t_.length sc), (14, .pointer (some ⟨p_a_, 0, none⟩)), (15, .int .i64 n)]) (obs := [.cell ⟨r, 0, none⟩ (.int .i64 n)]) rfl (by kernel_rfl) ⟨H.cell 1 rfl rfl, trivial⟩ fun a hE => ?_
  obtain ⟨t_1, et_1, hm⟩ := bind_some hm
  refine WR.eff hE rfl rfl rfl rfl (OpTo.fn hE rfl rfl Tryz.call122 (trees_Kids_ok et_1 H.t2)) ?_
  rintro _ w ⟨sb1, sc1, rfl, H⟩ a hE
  obtain ⟨l1, el1, hm⟩ := bind_some hm
  replace H := H.t2
  refine WR.eff hE rfl rfl rfl rfl (OpTo.appendM el1 hE H ecI_ok rfl rfl rfl rfl rfl rfl rfl rfl rfl rfl (SlRd.all (sl_rd 3 ecI 1 _ _ _) ecI_ok H 1 rfl) rfl) ?_
  rintro _ w ⟨sb2, sc2, rfl, H⟩ a hE
  refine WR.seg hE 6 [] [0, 5, 8] (Lo := [(0, .pointer (some ⟨p_a_, 0, none⟩)), (5, .pointer (some ⟨r, 0, none⟩)), (8, .slice sb2 l1.length sc2)]) (obs := []) rfl (by kernel_rfl) trivial fun a hE => ?_
  refine WR.done rfl ?_
  refine Runs.seq ?_
  refine Runs.region ?_
  refine WR.seg hE 2 [.int .i64 n] [0, 8, 18, 19] (Lo := [(0, .pointer (some ⟨p_a_, 0, none⟩)), (8, .slice sb2 l1.length sc2), (18, .pointer (some ⟨p_a_, 0, none⟩)), (19, .int .i64 n)]) (obs := [.cell ⟨r, 0, none⟩ (.int .i64 n)]) rfl (by kernel_rfl) ⟨H.cell 3 rfl rfl, trivial⟩ fun a hE => ?_
  obtain ⟨t_2, et_2, hm⟩ := bind_some hm
  refine WR.eff hE rfl rfl rfl rfl (OpTo.fn hE rfl rfl Tryz.call123 (node_End_ok et_2 H.t2)) ?_
  rintro _ w ⟨z, z1, rfl, H⟩ a hE
  refine WR.seg hE 4 [] [0, 8, 9] (Lo := [(0, .pointer (some ⟨p_a_, 0, none⟩)), (8, .slice sb2 l1.length sc2), (9, .int .i64 t_2.1)]) (obs := []) rfl (by kernel_rfl) trivial fun a hE => ?_
  refine WR.done rfl ?_
  refine Runs.seq ?_
  refine Runs.region ?_
  refine WR.seg hE 2 [] [9, 21, 22] (Lo := [(9, .int .i64 t_2.1), (21, .pointer (some ⟨p_a_, 0, none⟩)), (22, .slice sb2 l1.length sc2)]) (obs := []) rfl (by kernel_rfl) trivial fun a hE => ?_
  obtain ⟨t_3, et_3, hm⟩ := bind_some hm
  replace H := H.t1.t1
  refine WR.eff hE rfl rfl rfl rfl (OpTo.fn hE rfl rfl Tryz.call55 (trees_Carry_ok (hX_l := (sl_rd 3 ecI 1 _ _ _)) (hC_l := (H.slCap 1 rfl).1) et_3 H)) ?_
  rintro _ w ⟨rfl, H⟩ a hE
  refine WR.seg hE 6 [] [6, 7] (Lo := [(6, .int .i64 t_3.1), (7, .int .i64 t_2.1)]) (obs := []) rfl (by kernel_rfl) trivial fun a hE => ?_
  refine WR.done rfl ?_
  refine Runs.ret hE Tryz.func59 rfl rfl ?_
  cases hm
  exact ⟨z, z1, rfl, H.x3.x2.x1⟩

theorem binomial_Pop_ok {w0 w : World} {As : List HP} {k : Nat} {p_a_ : Nat} {al_a_ : arena_Arena.A} {a_ : arena_Arena} {r : Int} {t : Int × Int × arena_Arena}  (hm : binomial_Pop k a_ r = some t) (H : St w0 (arena_Arena.R p_a_ al_a_ a_ :: As) w) :
    CallsR Tryz.prog 22 #[.pointer (some ⟨p_a_, 0, none⟩), .int .i64 r] w fun v w' => ∃ (z_a__free_b : Option Addr), ∃ (z_a__free_c : Nat), v = .tuple #[.int .i64 t.1, .int .i64 t.2.1] ∧ St w0 (arena_Arena.R p_a_ (arena_Arena.A.mk al_a_.l_b al_a_.l_c z_a__free_b z_a__free_c al_a_.m__p) t.2.2 :: As) w' := by
  rw [binomial_Pop] at hm
  refine enter (args := [.pointer (some ⟨p_a_, 0, none⟩), .int .i64 r]) Tryz.func22 rfl rfl rfl fun a hE => ?_
  refine Runs.seq ?_
  refine Runs.region ?_
  refine WR.seg hE 2 [] [0, 1] (Lo := [(0, .pointer (some ⟨p_a_, 0, none⟩)), (1, .int .i64 r)]) (obs := []) rfl (by kernel_rfl) trivial fun a hE => ?_
  refine WR.done rfl ?_
  refine Runs.seq ?_
  refine Runs.seq ?_
  obtain ⟨s, es, hm⟩ := bind_some hm
  refine Runs.join (fun a w => EnvOk 26 a [(0, .pointer (some ⟨p_a_, 0, none⟩)), (1, .int .i64 r), (14, .bool s)] ∧ St w0 (arena_Arena.R p_a_ al_a_ a_ :: As) w) (fun hk => ?_) ?_
  · replace hm := es; clear es
    refine Runs.region ?_
    refine WR.seg hE 5 [] [0, 1, 9, 10, 11] (Lo := [(0, .pointer (some ⟨p_a_, 0, none⟩)), (1, .int .i64 r), (9, .bool false), (10, .pointer (some ⟨p_a_, 0, none⟩)), (11, .int .i64 r)]) (obs := []) rfl (by kernel_rfl) trivial fun a hE => ?_
    obtain ⟨t_, et_, hm⟩ := bind_some hm
    refine WR.eff hE rfl rfl rfl rfl (OpTo.fn hE rfl rfl Tryz.call58 (arena_Arena_Live_ok et_ H)) ?_
    rintro _ w ⟨rfl, H⟩ a hE
    refine WR.seg hE 8 [] [0, 1, 14] (Lo := [(0, .pointer (some ⟨p_a_, 0, none⟩)), (1, .int .i64 r), (14, .bool (!t_))]) (obs := []) rfl (by kernel_rfl) trivial fun a hE => ?_
    refine WR.done rfl ?_
    cases hm
    exact hk _ _ ⟨hE.sel [0, 1, 14] (by kernel_rfl), H⟩
  rintro a w ⟨hE, H⟩
  refine Runs.cond hE rfl (fun c => ?_) (fun c => ?_)
  · replace hm := cond_t c hm
    refine Runs.seq ?_
    refine Runs.region ?_
    refine WR.seg hE 2 [] [4, 5] (Lo := [(4, .int .i64 (-1)), (5, .int .i64 (-1))]) (obs := []) rfl (by kernel_rfl) trivial fun a hE => ?_
    refine WR.done rfl ?_
    refine Runs.ret hE Tryz.func22 rfl rfl ?_
    cases hm
    exact ⟨al_a_.free_b, al_a_.free_c, rfl, H⟩
  · replace hm := cond_f c hm
    refine Runs.skip ?_
    refine Runs.seq ?_
    refine Runs.region ?_
    refine WR.seg hE 2 [] [0, 15, 16] (Lo := [(0, .pointer (some ⟨p_a_, 0, none⟩)), (15, .pointer (some ⟨p_a_, 0, none⟩)), (16, .int .i64 r)]) (obs := []) rfl (by kernel_rfl) trivial fun a hE => ?_
    obtain ⟨t_1, et_1, hm⟩ := bind_some hm
    refine WR.eff hE rfl rfl rfl rfl (OpTo.fn hE rfl rfl Tryz.call56 (trees_List_ok et_1 H)) ?_
    rintro _ w ⟨sb, sc, rfl, H⟩ a hE
    refine WR.seg hE 4 [] [0, 6] (Lo := [(0, .pointer (some ⟨p_a_, 0, none⟩)), (6, .slice sb t_1.1.length sc)]) (obs := []) rfl (by kernel_rfl) trivial fun a hE => ?_
    refine WR.done rfl ?_
    refine Runs.seq ?_
    refine Runs.region ?_
    refine WR.seg hE 4 [] [18, 19, 20, 21] (Lo := [(18, .pointer (some ⟨p_a_, 0, none⟩)), (19, .slice sb t_1.1.length sc), (20, .pointer (some ⟨p_a_, 0, none⟩)), (21, .slice sb t_1.1.length sc)]) (obs := []) rfl (by kernel_rfl) trivial fun a hE => ?_
    obtain ⟨t_2, et_2, hm⟩ := bind_some hm
    replace H := H.t1
    refine WR.eff hE rfl rfl rfl rfl (OpTo.fn hE rfl rfl Tryz.call60 (trees_Best_ok (hX_l := (sl_rd 3 ecI 1 _ _ _)) (hC_l := (H.slCap 1 rfl).1) et_2 H)) ?_
    rintro _ w ⟨rfl, H⟩ a hE
    obtain ⟨t_3, et_3, hm⟩ := bind_some hm
    refine WR.eff hE rfl rfl rfl rfl (OpTo.fn hE rfl rfl Tryz.call59 (binomial_without_ok et_3 H.t1.t1)) ?_
    rintro _ w ⟨z, z1, rfl, H⟩ a hE
    refine WR.seg hE 10 [] [4, 5] (Lo := [(4, .int .i64 t_3.1), (5, .int .i64 t_3.2.1)]) (obs := []) rfl (by kernel_rfl) trivial fun a hE => ?_
    refine WR.done rfl ?_
    refine Runs.ret hE Tryz.func22 rfl rfl ?_
    cases hm
    exact ⟨z, z1, rfl, H⟩

theorem skew_without_f1_ok {w0 w : World} {As : List HP} {x : Int} {v_ : Int} {r : Nat} {t : Bool}  (hm : skew_without_f1 x v_ = some t) (H : St w0 (Blk r 3 [.int .i64 v_] :: As) w) :
    CallsR Tryz.prog 164 #[.int .i64 x, .pointer (some ⟨r, 0, none⟩)] w fun v w' => v = .bool t ∧ St w0 (Blk r 3 [.int .i64 v_] :: As) w' := by
  rw [skew_without_f1] at hm
  refine enter (args := [.int .i64 x, .pointer (some ⟨r, 0, none⟩)]) Tryz.func164 rfl rfl rfl fun a hE => ?_
  refine Runs.seq ?_
  refine Runs.region ?_
  refine WR.seg hE 1 [] [0, 1] (Lo := [(0, .int .i64 x), (1, .pointer (some ⟨r, 0, none⟩))]) (obs := []) rfl (by kernel_rfl) trivial fun a hE => ?_
  refine WR.done rfl ?_
  refine Runs.seq ?_
  refine Runs.region ?_
  refine WR.seg hE 4 [.int .i64 v_] [3] (Lo := [(3, .bool (x == v_))]) (obs := [.cell ⟨r, 0, none⟩ (.int .i64 v_)]) rfl (by kernel_rfl) ⟨H.cell 0 rfl rfl, trivial⟩ fun a hE => ?_
  refine WR.done rfl ?_
  refine Runs.ret hE Tryz.func164 rfl rfl ?_
  cases hm
  exact ⟨rfl, H⟩

theorem slices_IndexFunc_int_g164_ok {w0 w : World} {As : List HP} {k : Nat} {sb_s : Option Addr} {sc_s : Nat} {s : List Int} {X_s : HP} {v_ : Int} {r : Nat} {t : Int} (hX_s : SlRd X_s ecI 1 sb_s s) (hC_s : s.length ≤ sc_s) (hm : slices_IndexFunc_int_g164 k s v_ = some t) (H : St w0 (X_s :: Blk r 3 [.int .i64 v_] :: As) w) :
    CallsR Tryz.prog 154 #[.slice sb_s s.length sc_s, .func (.func 164) #[] #[.pointer (some ⟨r, 0, none⟩)]] w fun v w' => v = .int .i64 t ∧ St w0 (X_s :: Blk r 3 [.int .i64 v_] :: As) w' := by
  rw [slices_IndexFunc_int_g164] at hm
  refine enter (args := [.slice sb_s s.length sc_s, .func (.func 164) #[] #[.pointer (some ⟨r, 0, none⟩)]]) Tryz.func154 rfl rfl rfl fun a hE => ?_
  refine Runs.seq ?_
  refine Runs.region ?_
  refine WR.seg hE 1 [] [0, 1] (Lo := [(0, .slice sb_s s.length sc_s), (1, .func (.func 164) #[] #[.pointer (some ⟨r, 0, none⟩)])]) (obs := []) rfl (by kernel_rfl) trivial fun a hE => ?_
  refine WR.done rfl ?_
  refine Runs.seq ?_
  refine Runs.seq ?_
  refine Runs.region ?_
  refine WR.seg hE 3 [] [0, 1, 7, 8] (Lo := [(0, .slice sb_s s.length sc_s), (1, .func (.func 164) #[] #[.pointer (some ⟨r, 0, none⟩)]), (7, .int .i64 (s.length : Int)), (8, .int .i64 0)]) (obs := []) rfl (by kernel_rfl) trivial fun a hE => ?_
  refine WR.done rfl ?_
  obtain ⟨s1, es1, hR⟩ := bind_some hm
  refine Runs.join (fun a w => ∃ s2, s1 = Sum.inr s2 ∧ EnvOk 19 a [] ∧ St w0 (X_s :: Blk r 3 [.int .i64 v_] :: As) w) (fun hk => ?_) ?_
  · replace hm := es1; clear es1
    refine Runs.block ?_
    refine Runs.loop (fun m a w => ∃ (x : Int), EnvOk 19 a [(0, .slice sb_s s.length sc_s), (1, .func (.func 164) #[] #[.pointer (some ⟨r, 0, none⟩)]), (7, .int .i64 (s.length : Int)), (8, .int .i64 x)] ∧ St w0 (X_s :: Blk r 3 [.int .i64 v_] :: As) w ∧ slices_IndexFunc_int_g164_l0 (s.length : Int) s v_ m x = some s1) k ⟨0, hE.sel [0, 1, 7, 8] (by kernel_rfl), H.t1.t1, hm⟩ ?_
    rintro m ih a w ⟨x, hE, H, hm⟩
    cases m with
    | zero => simp [slices_IndexFunc_int_g164_l0] at hm
    | succ m =>
      rw [slices_IndexFunc_int_g164_l0] at hm
      refine Runs.seq ?_
      refine Runs.region ?_
      refine WR.seg hE 1 [] [0, 1, 7, 8, 9] (Lo := [(0, .slice sb_s s.length sc_s), (1, .func (.func 164) #[] #[.pointer (some ⟨r, 0, none⟩)]), (7, .int .i64 (s.length : Int)), (8, .int .i64 x), (9, .bool (decide (x < (s.length : Int))))]) (obs := []) rfl (by kernel_rfl) trivial fun a hE => ?_
      refine WR.done rfl ?_
      refine Runs.seq ?_
      refine Runs.cond hE rfl (fun c => ?_) (fun c => ?_)
      · replace hm := cond_t c hm
        refine Runs.skip ?_
        refine Runs.seq ?_
        refine Runs.block ?_
        refine Runs.seq ?_
        refine Runs.region ?_
        refine WR.seg hE 2 [] [0, 1, 5, 7, 8] (Lo := [(0, .slice sb_s s.length sc_s), (1, .func (.func 164) #[] #[.pointer (some ⟨r, 0, none⟩)]), (5, .int .i64 x), (7, .int .i64 (s.length : Int)), (8, .int .i64 x)]) (obs := []) rfl (by kernel_rfl) trivial fun a hE => ?_
        refine WR.done rfl ?_
        refine Runs.seq ?_
        refine Runs.region ?_
        obtain ⟨x2, ex2, hm⟩ := bind_some hm
        obtain ⟨b, o, hs, hb⟩ := SlRd.base hX_s ecI_ok H 0 rfl ex2
        refine WR.seg hE 5 [.pointer (some ⟨b, o, none⟩), .int .i64 x2] [0, 1, 5, 7, 8, 11, 15] (Lo := [(0, .slice sb_s s.length sc_s), (1, .func (.func 164) #[] #[.pointer (some ⟨r, 0, none⟩)]), (5, .int .i64 x), (7, .int .i64 (s.length : Int)), (8, .int .i64 x), (11, .func (.func 164) #[] #[.pointer (some ⟨r, 0, none⟩)]), (15, .int .i64 x2)]) (obs := [.p ((sb_s : Option Addr) = some ⟨b, o, none⟩), .p (0 ≤ (x : Int) ∧ (x : Int) < ((s.length : Nat) : Int)), .cell ⟨b, o + (Int.toNat x) * 1, none⟩ (.int .i64 x2)]) rfl (by kernel_rfl) ⟨hs, hb, SlRd.cells hX_s ecI_ok H 0 rfl hs ex2 0 _ rfl, trivial⟩ fun a hE => ?_
        obtain ⟨t_, et_, hm⟩ := bind_some hm
        refine WR.eff hE rfl rfl rfl rfl (OpTo.fv hE rfl rfl rfl Tryz.call164 (skew_without_f1_ok et_ H.t1)) ?_
        rintro _ w ⟨rfl, H⟩ a hE
        refine WR.done rfl ?_
        refine Runs.cond hE rfl (fun c => ?_) (fun c => ?_)
        · replace hm := cond_t c hm
          refine Runs.seq ?_
          refine Runs.region ?_
          refine WR.seg hE 2 [] [4] (Lo := [(4, .int .i64 x)]) (obs := []) rfl (by kernel_rfl) trivial fun a hE => ?_
          refine WR.done rfl ?_
          refine Runs.ret hE Tryz.func154 rfl rfl ?_
          cases hm
          dsimp only at hR; cases hR
          exact ⟨rfl, H.t1⟩
        · replace hm := cond_f c hm
          refine Runs.skip ?_
          refine Runs.inBlock ?_
          refine Runs.region ?_
          refine WR.seg hE 2 [] [0, 1, 7, 8] (Lo := [(0, .slice sb_s s.length sc_s), (1, .func (.func 164) #[] #[.pointer (some ⟨r, 0, none⟩)]), (7, .int .i64 (s.length : Int)), (8, .int .i64 (w64 (x + 1)))]) (obs := []) rfl (by kernel_rfl) trivial fun a hE => ?_
          refine WR.done rfl ?_
          exact ih m (Nat.lt_succ_self m) _ _ ⟨w64 (x + 1), hE.sel [0, 1, 7, 8] (by kernel_rfl), H.t1, hm⟩
      · replace hm := cond_f c hm
        refine Runs.exit rfl ?_
        cases hm
        exact hk _ _ ⟨_, rfl, hE.sel [] (by kernel_rfl), H.t1.t1⟩
  rintro a w ⟨s2, rfl, hE, H⟩
  replace hm := hR; dsimp only at hm
  refine Runs.seq ?_
  refine Runs.region ?_
  refine WR.seg hE 1 [] [4] (Lo := [(4, .int .i64 (-1))]) (obs := []) rfl (by kernel_rfl) trivial fun a hE => ?_
  refine WR.done rfl ?_
  refine Runs.ret hE Tryz.func154 rfl rfl ?_
  cases hm
  exact ⟨rfl, H.t1.t1⟩

theorem slices_DeleteFunc_int_g164_ok {w0 w : World} {As : List HP} {k : Nat} {sb_s : Option Addr} {sc_s : Nat} {s : List Int} {v_ : Int} {r : Nat} {t : (List Int)}  (hm : slices_DeleteFunc_int_g164 k s v_ = some t) (H : St w0 (Sl 3 ecI 1 sb_s sc_s s :: Blk r 3 [.int .i64 v_] :: As) w) :
    CallsR Tryz.prog 120 #[.slice sb_s s.length sc_s, .func (.func 164) #[] #[.pointer (some ⟨r, 0, none⟩)]] w fun v w' => ∃ (sb0 : Option Addr), ∃ (sc0 : Nat), v = .slice sb0 t.length sc0 ∧ St w0 (Sl 3 ecI 1 sb0 sc0 t :: Blk r 3 [.int .i64 v_] :: As) w' := by
  rw [slices_DeleteFunc_int_g164] at hm
  refine enter (args := [.slice sb_s s.length sc_s, .func (.func 164) #[] #[.pointer (some ⟨r, 0, none⟩)]]) Tryz.func120 rfl rfl rfl fun a hE => ?_
  refine Runs.seq ?_
  refine Runs.region ?_
  refine WR.seg hE 1 [] [0, 1] (Lo := [(0, .slice sb_s s.length sc_s), (1, .func (.func 164) #[] #[.pointer (some ⟨r, 0, none⟩)])]) (obs := []) rfl (by kernel_rfl) trivial fun a hE => ?_
  refine WR.done rfl ?_
  refine Runs.seq ?_
  refine Runs.region ?_
  refine WR.seg hE 2 [] [0, 1, 8, 9] (Lo := [(0, .slice sb_s s.length sc_s), (1, .func (.func 164) #[] #[.pointer (some ⟨r, 0, none⟩)]), (8, .slice sb_s s.length sc_s), (9, .func (.func 164) #[] #[.pointer (some ⟨r, 0, none⟩)])]) (obs := []) rfl (by kernel_rfl) trivial fun a hE => ?_
  obtain ⟨t_, et_, hm⟩ := bind_some hm
  replace H := H.t1.t1
  refine WR.eff hE rfl rfl rfl rfl (OpTo.fn hE rfl rfl Tryz.call154 (slices_IndexFunc_int_g164_ok (hX_s := (sl_rd 3 ecI 1 _ _ _)) (hC_s := (H.slCap 0 rfl).1) et_ H)) ?_
  rintro _ w ⟨rfl, H⟩ a hE
  refine WR.seg hE 4 [] [0, 1, 5] (Lo := [(0, .slice sb_s s.length sc_s), (1, .func (.func 164) #[] #[.pointer (some ⟨r, 0, none⟩)]), (5, .int .i64 t_)]) (obs := []) rfl (by kernel_rfl) trivial fun a hE => ?_
  refine WR.done rfl ?_
  refine Runs.seq ?_
  refine Runs.seq ?_
  refine Runs.region ?_
  refine WR.seg hE 2 [] [0, 1, 5, 12] (Lo := [(0, .slice sb_s s.length sc_s), (1, .func (.func 164) #[] #[.pointer (some ⟨r, 0, none⟩)]), (5, .int .i64 t_), (12, .bool (t_ == (-1)))]) (obs := []) rfl (by kernel_rfl) trivial fun a hE => ?_
  refine WR.done rfl ?_
  refine Runs.cond hE rfl (fun c => ?_) (fun c => ?_)
  · replace hm := cond_t c hm
    refine Runs.seq ?_
    refine Runs.region ?_
    refine WR.seg hE 2 [] [4] (Lo := [(4, .slice sb_s s.length sc_s)]) (obs := []) rfl (by kernel_rfl) trivial fun a hE => ?_
    refine WR.done rfl ?_
    refine Runs.ret hE Tryz.func120 rfl rfl ?_
    cases hm
    exact ⟨sb_s, sc_s, rfl, H.t1.t1⟩
  · replace hm := cond_f c hm
    refine Runs.skip ?_
    refine Runs.seq ?_
    refine Runs.seq ?_
    refine Runs.region ?_
    refine WR.seg hE 3 [] [0, 1, 5, 6] (Lo := [(0, .slice sb_s s.length sc_s), (1, .func (.func 164) #[] #[.pointer (some ⟨r, 0, none⟩)]), (5, .int .i64 t_), (6, .int .i64 (w64 (t_ + 1)))]) (obs := []) rfl (by kernel_rfl) trivial fun a hE => ?_
    refine WR.done rfl ?_
    obtain ⟨s1, es1, hm⟩ := bind_some hm
    refine Runs.join (fun a w => EnvOk 42 a [(0, .slice sb_s s1.2.length sc_s), (5, .int .i64 s1.1)] ∧ St w0 (Sl 3 ecI 1 sb_s sc_s s1.2 :: Blk r 3 [.int .i64 v_] :: As) w) (fun hk => ?_) ?_
    · replace hm := es1; clear es1
      refine Runs.block ?_
      refine Runs.loop (fun m a w => ∃ (i : Int), ∃ (j : Int), ∃ (m_ : List Int), EnvOk 42 a [(0, .slice sb_s m_.length sc_s), (1, .func (.func 164) #[] #[.pointer (some ⟨r, 0, none⟩)]), (5, .int .i64 i), (6, .int .i64 j)] ∧ St w0 (Sl 3 ecI 1 sb_s sc_s m_ :: Blk r 3 [.int .i64 v_] :: As) w ∧ slices_DeleteFunc_int_g164_l0 v_ m i j m_ = some s1) k ⟨t_, w64 (t_ + 1), s, hE.sel [0, 1, 5, 6] (by kernel_rfl), H.t1.t1, hm⟩ ?_
      rintro m ih a w ⟨i, j, m_, hE, H, hm⟩
      cases m with
      | zero => simp [slices_DeleteFunc_int_g164_l0] at hm
      | succ m =>
        rw [slices_DeleteFunc_int_g164_l0] at hm
        refine Runs.seq ?_
        refine Runs.seq ?_
        refine Runs.region ?_
        refine WR.seg hE 4 [] [0, 1, 5, 6, 19] (Lo := [(0, .slice sb_s m_.length sc_s), (1, .func (.func 164) #[] #[.pointer (some ⟨r, 0, none⟩)]), (5, .int .i64 i), (6, .int .i64 j), (19, .bool (decide (j < (m_.length : Int))))]) (obs := []) rfl (by kernel_rfl) trivial fun a hE => ?_
        refine WR.done rfl ?_
        refine Runs.cond hE rfl (fun c => ?_) (fun c => ?_)
        · replace hm := cond_t c hm
          refine Runs.skip ?_
          refine Runs.seq ?_
          obtain ⟨s2, es2, hm⟩ := bind_some hm
          refine Runs.join (fun a w => EnvOk 42 a [(0, .slice sb_s s2.2.length sc_s), (1, .func (.func 164) #[] #[.pointer (some ⟨r, 0, none⟩)]), (5, .int .i64 s2.1), (6, .int .i64 j)] ∧ St w0 (Sl 3 ecI 1 sb_s sc_s s2.2 :: Blk r 3 [.int .i64 v_] :: As) w) (fun hk => ?_) ?_
          · replace hm := es2; clear es2
            refine Runs.block ?_
            refine Runs.seq ?_
            refine Runs.region ?_
            obtain ⟨x, ex, hm⟩ := bind_some hm
            obtain ⟨b, o, hs, hb⟩ := SlRd.base (sl_rd 3 ecI 1 _ _ _) ecI_ok H 0 rfl ex
            refine WR.seg hE 5 [.pointer (some ⟨b, o, none⟩), .int .i64 x] [0, 1, 5, 6, 7] (Lo := [(0, .slice sb_s m_.length sc_s), (1, .func (.func 164) #[] #[.pointer (some ⟨r, 0, none⟩)]), (5, .int .i64 i), (6, .int .i64 j), (7, .int .i64 x)]) (obs := [.p ((sb_s : Option Addr) = some ⟨b, o, none⟩), .p (0 ≤ (j : Int) ∧ (j : Int) < ((m_.length : Nat) : Int)), .cell ⟨b, o + (Int.toNat j) * 1, none⟩ (.int .i64 x)]) rfl (by kernel_rfl) ⟨hs, hb, SlRd.cells (sl_rd 3 ecI 1 _ _ _) ecI_ok H 0 rfl hs ex 0 _ rfl, trivial⟩ fun a hE => ?_
            refine WR.done rfl ?_
            refine Runs.seq ?_
            refine Runs.region ?_
            refine WR.seg hE 2 [] [0, 1, 5, 6, 7, 26, 27] (Lo := [(0, .slice sb_s m_.length sc_s), (1, .func (.func 164) #[] #[.pointer (some ⟨r, 0, none⟩)]), (5, .int .i64 i), (6, .int .i64 j), (7, .int .i64 x), (26, .func (.func 164) #[] #[.pointer (some ⟨r, 0, none⟩)]), (27, .int .i64 x)]) (obs := []) rfl (by kernel_rfl) trivial fun a hE => ?_
            obtain ⟨t_1, et_1, hm⟩ := bind_some hm
            refine WR.eff hE rfl rfl rfl rfl (OpTo.fv hE rfl rfl rfl Tryz.call164 (skew_without_f1_ok et_1 H.t1)) ?_
            rintro _ w ⟨rfl, H⟩ a hE
            refine WR.seg hE 4 [] [0, 1, 5, 6, 7, 29] (Lo := [(0, .slice sb_s m_.length sc_s), (1, .func (.func 164) #[] #[.pointer (some ⟨r, 0, none⟩)]), (5, .int .i64 i), (6, .int .i64 j), (7, .int .i64 x), (29, .bool (!t_1))]) (obs := []) rfl (by kernel_rfl) trivial fun a hE => ?_
            refine WR.done rfl ?_
            refine Runs.cond hE rfl (fun c => ?_) (fun c => ?_)
            · replace hm := cond_t c hm
              refine Runs.seq ?_
              refine Runs.region ?_
              obtain ⟨x1, ex1, hm⟩ := bind_some hm
              obtain ⟨b1, o1, hs1, hb1⟩ := SlRd.base (sl_rd 3 ecI 1 _ _ _) ecI_ok H 1 rfl ex1
              refine WR.seg hE 4 [.pointer (some ⟨b1, o1, none⟩)] [0, 1, 5, 6, 32, 33] (Lo := [(0, .slice sb_s m_.length sc_s), (1, .func (.func 164) #[] #[.pointer (some ⟨r, 0, none⟩)]), (5, .int .i64 i), (6, .int .i64 j), (32, .int .i64 x), (33, .pointer (some ⟨b1, o1 + (Int.toNat i) * 1, none⟩))]) (obs := [.p ((sb_s : Option Addr) = some ⟨b1, o1, none⟩), .p (0 ≤ (i : Int) ∧ (i : Int) < ((m_.length : Nat) : Int))]) rfl (by kernel_rfl) ⟨hs1, hb1, trivial⟩ fun a hE => ?_
              refine WR.eff0 hE rfl rfl rfl (OpTo.storeSl (q := 0) (x' := x) hE H.t1 ecI_ok rfl hs1 ex1 rfl rfl rfl rfl rfl (Nat.le_of_ble_eq_true rfl) rfl) ?_
              rintro _ w H a hE
              try rw [← mSet_len m_ i x] at hE
              refine WR.done rfl ?_
              refine Runs.region ?_
              refine WR.seg hE 3 [] [0, 1, 5, 6] (Lo := [(0, .slice sb_s ((mSet m_ i x).length) sc_s), (1, .func (.func 164) #[] #[.pointer (some ⟨r, 0, none⟩)]), (5, .int .i64 (w64 (i + 1))), (6, .int .i64 j)]) (obs := []) rfl (by kernel_rfl) trivial fun a hE => ?_
              refine WR.done rfl ?_
              refine Runs.inBlock ?_
              cases hm
              exact hk _ _ ⟨hE.sel [0, 1, 5, 6] (by kernel_rfl), H.t1.t1⟩
            · replace hm := cond_f c hm
              refine Runs.skip ?_
              refine Runs.inBlock ?_
              cases hm
              exact hk _ _ ⟨hE.sel [0, 1, 5, 6] (by kernel_rfl), H.t1⟩
          rintro a w ⟨hE, H⟩
          refine Runs.region ?_
          refine WR.seg hE 3 [] [0, 1, 5, 6] (Lo := [(0, .slice sb_s s2.2.length sc_s), (1, .func (.func 164) #[] #[.pointer (some ⟨r, 0, none⟩)]), (5, .int .i64 s2.1), (6, .int .i64 (w64 (j + 1)))]) (obs := []) rfl (by kernel_rfl) trivial fun a hE => ?_
          refine WR.done rfl ?_
          exact ih m (Nat.lt_succ_self m) _ _ ⟨s2.1, w64 (j + 1), s2.2, hE.sel [0, 1, 5, 6] (by kernel_rfl), H.t1.t1, hm⟩
        · replace hm := cond_f c hm
          refine Runs.exit rfl ?_
          cases hm
          exact hk _ _ ⟨hE.sel [0, 5] (by kernel_rfl), H.t1.t1⟩
    rintro a w ⟨hE, H⟩
    refine Runs.seq ?_
    refine Runs.region ?_
    obtain ⟨l, el, hm⟩ := bind_some hm
    obtain ⟨sb, q⟩ : ∃ z, rebase sb_s sc_s (Int.toNat s1.1) 1 = z := ⟨_, rfl⟩
    obtain ⟨sc, q1⟩ : ∃ z, sc_s - (Int.toNat s1.1) = z := ⟨_, rfl⟩
    refine WR.seg hE 3 [.slice sb l.length sc] [0, 5, 38] (Lo := [(0, .slice sb_s s1.2.length sc_s), (5, .int .i64 s1.1), (38, .slice sb l.length sc)]) (obs := [.p (rebase sb_s sc_s (Int.toNat s1.1) 1 = sb), .p (s1.2.length - (Int.toNat s1.1) = l.length), .p (sc_s - (Int.toNat s1.1) = sc), .p (0 ≤ (s1.1 : Int) ∧ (s1.1 : Int) ≤ ((s1.2.length : Nat) : Int))]) rfl (by kernel_rfl) ⟨q, cut_len el, q1, cut_bd0 el, trivial⟩ fun a hE => ?_
    refine WR.eff0 hE rfl rfl rfl (OpTo.clearSl (z := 0) hE H ecI_ok el q q1 rfl rfl rfl rfl rfl rfl) ?_
    rintro _ w ⟨_, H⟩ a hE
    try rw [← mClear_len (z := 0) el] at hE
    refine WR.done rfl ?_
    refine Runs.seq ?_
    refine Runs.region ?_
    obtain ⟨l1, el1, hm⟩ := bind_some hm
    obtain ⟨sb1, q2⟩ : ∃ z, rebase sb_s sc_s (Int.toNat 0) 1 = z := ⟨_, rfl⟩
    obtain ⟨sc1, q3⟩ : ∃ z, sc_s - (Int.toNat 0) = z := ⟨_, rfl⟩
    refine WR.seg hE 4 [.slice sb1 l1.length sc1] [4] (Lo := [(4, .slice sb1 l1.length sc1)]) (obs := [.p (rebase sb_s sc_s 0 1 = sb1), .p ((Int.toNat s1.1) - 0 = l1.length), .p (sc_s - 0 = sc1), .p (0 ≤ (s1.1 : Int) ∧ (s1.1 : Int) ≤ ((sc_s : Nat) : Int))]) rfl (by kernel_rfl) ⟨q2, cut_len el1, q3, cut_cap el1 (H.slCap 0 rfl).1, trivial⟩ fun a hE => ?_
    refine WR.done rfl ?_
    replace H := H.slCut' ecI_ok el1 q2 q3
    refine Runs.ret hE Tryz.func120 rfl rfl ?_
    cases hm
    exact ⟨sb1, sc1, rfl, H.t1.t1⟩

theorem skew_without_ok {w0 w : World} {As : List HP} {k : Nat} {p_a_ : Nat} {al_a_ : arena_Arena.A} {a_ : arena_Arena} {sb_l : Option Addr} {sc_l : Nat} {l : List Int} {n : Int} {t : Int × Int × arena_Arena}  (hm : skew_without k a_ l n = some t) (H : St w0 (arena_Arena.R p_a_ al_a_ a_ :: Sl 3 ecI 1 sb_l sc_l l :: As) w) :
    CallsR Tryz.prog 140 #[.pointer (some ⟨p_a_, 0, none⟩), .slice sb_l l.length sc_l, .int .i64 n] w fun v w' => ∃ (z_a__free_b : Option Addr), ∃ (z_a__free_c : Nat), v = .tuple #[.int .i64 t.1, .int .i64 t.2.1] ∧ St w0 (arena_Arena.R p_a_ (arena_Arena.A.mk al_a_.l_b al_a_.l_c z_a__free_b z_a__free_c al_a_.m__p) t.2.2 :: As) w' := by
  rw [skew_without] at hm
  refine enter (args := [.pointer (some ⟨p_a_, 0, none⟩), .slice sb_l l.length sc_l, .int .i64 n]) Tryz.func140 rfl rfl rfl fun a hE => ?_
  refine Runs.seq ?_
  refine Runs.region ?_
  refine WR.eff hE rfl rfl rfl rfl (OpTo.new hE H [] (.cells #[.int .i64 n] 3 (0, 0)) (fun r => .pointer (some ⟨r, 0, none⟩)) (obs := []) rfl (fun _ => by kernel_rfl) trivial) ?_
  rintro _ w ⟨r, rfl, H⟩ a hE
  refine WR.seg hE 3 [] [0, 1, 5] (Lo := [(0, .pointer (some ⟨p_a_, 0, none⟩)), (1, .slice sb_l l.length sc_l), (5, .pointer (some ⟨r, 0, none⟩))]) (obs := []) rfl (by kernel_rfl) trivial fun a hE => ?_
  refine WR.done rfl ?_
  refine Runs.seq ?_
  refine Runs.region ?_
  refine WR.seg hE 2 [] [0, 5, 16, 17] (Lo := [(0, .pointer (some ⟨p_a_, 0, none⟩)), (5, .pointer (some ⟨r, 0, none⟩)), (16, .slice sb_l l.length sc_l), (17, .func (.func 164) #[] #[.pointer (some ⟨r, 0, none⟩)])]) (obs := []) rfl (by kernel_rfl) trivial fun a hE => ?_
  obtain ⟨t_, et_, hm⟩ := bind_some hm
  refine WR.eff hE rfl rfl rfl rfl (OpTo.fn hE rfl rfl Tryz.call120 (slices_DeleteFunc_int_g164_ok et_ H.t2)) ?_
  rintro _ w ⟨sb, sc, rfl, H⟩ a hE
  refine WR.seg hE 4 [] [0, 5, 8] (Lo := [(0, .pointer (some ⟨p_a_, 0, none⟩)), (5, .pointer (some ⟨r, 0, none⟩)), (8, .slice sb t_.length sc)]) (obs := []) rfl (by kernel_rfl) trivial fun a hE => ?_
  refine WR.done rfl ?_
  refine Runs.seq ?_
  refine Runs.region ?_
  refine WR.seg hE 1 [] [0, 5, 8, 9] (Lo := [(0, .pointer (some ⟨p_a_, 0, none⟩)), (5, .pointer (some ⟨r, 0, none⟩)), (8, .slice sb t_.length sc), (9, .slice none 0 0)]) (obs := []) rfl (by kernel_rfl) trivial fun a hE => ?_
  refine WR.done rfl ?_
  refine Runs.seq ?_
  refine Runs.seq ?_
  refine Runs.region ?_
  refine WR.seg hE 2 [.int .i64 n] [0, 5, 8, 9, 19, 20] (Lo := [(0, .pointer (some ⟨p_a_, 0, none⟩)), (5, .pointer (some ⟨r, 0, none⟩)), (8, .slice sb t_.length sc), (9, .slice none 0 0), (19, .pointer (some ⟨p_a_, 0, none⟩)), (20, .int .i64 n)]) (obs := [.cell ⟨r, 0, none⟩ (.int .i64 n)]) rfl (by kernel_rfl) ⟨H.cell 1 rfl rfl, trivial⟩ fun a hE => ?_
  obtain ⟨t_1, et_1, hm⟩ := bind_some hm
  refine WR.eff hE rfl rfl rfl rfl (OpTo.fn hE rfl rfl Tryz.call122 (trees_Kids_ok et_1 H.t2)) ?_
  rintro _ w ⟨sb1, sc1, rfl, H⟩ a hE
  refine WR.seg hE 5 [] [0, 5, 8, 9, 21, 22, 23] (Lo := [(0, .pointer (some ⟨p_a_, 0, none⟩)), (5, .pointer (some ⟨r, 0, none⟩)), (8, .slice sb t_.length sc), (9, .slice none 0 0), (21, .slice sb1 t_1.1.length sc1), (22, .int .i64 (t_1.1.length : Int)), (23, .int .i64 0)]) (obs := []) rfl (by kernel_rfl) trivial fun a hE => ?_
  refine WR.done rfl ?_
  obtain ⟨s, es, hm⟩ := bind_some hm
  refine Runs.join (fun a w => ∃ (sb4 : Option Addr), ∃ (sc4 : Nat), ∃ (sb5 : Option Addr), ∃ (sc5 : Nat), EnvOk 59 a [(0, .pointer (some ⟨p_a_, 0, none⟩)), (5, .pointer (some ⟨r, 0, none⟩)), (8, .slice sb4 s.1.length sc4), (9, .slice sb5 s.2.1.length sc5)] ∧ St w0 (Sl 3 ecI 1 sb4 sc4 s.1 :: Sl 3 ecI 1 sb5 sc5 s.2.1 :: arena_Arena.R p_a_ al_a_ s.2.2 :: Blk r 3 [.int .i64 n] :: As) w) (fun hk => ?_) ?_
  · replace hm := es; clear es
    replace H := H.slNil 3 ecI 1
    refine Runs.block ?_
    refine Runs.loop (fun m a w => ∃ (rest : List Int), ∃ (alone : List Int), ∃ (x : Int), ∃ (m_ : arena_Arena), ∃ (sb6 : Option Addr), ∃ (sc6 : Nat), ∃ (sb7 : Option Addr), ∃ (sc7 : Nat), EnvOk 59 a [(0, .pointer (some ⟨p_a_, 0, none⟩)), (5, .pointer (some ⟨r, 0, none⟩)), (8, .slice sb6 rest.length sc6), (9, .slice sb7 alone.length sc7), (21, .slice sb1 t_1.1.length sc1), (22, .int .i64 (t_1.1.length : Int)), (23, .int .i64 x)] ∧ St w0 (Sl 3 ecI 1 sb6 sc6 rest :: Sl 3 ecI 1 sb7 sc7 alone :: Sl 3 ecI 1 sb1 sc1 t_1.1 :: arena_Arena.R p_a_ al_a_ m_ :: Blk r 3 [.int .i64 n] :: As) w ∧ skew_without_l0 (t_1.1.length : Int) t_1.1 n m rest alone x m_ = some s) k ⟨t_, ([] : List Int), 0, t_1.2, sb, sc, none, 0, hE.sel [0, 5, 8, 9, 21, 22, 23] (by kernel_rfl), H.t4.t3.t3.t3.t4, hm⟩ ?_
    rintro m ih a w ⟨rest, alone, x, m_, sb6, sc6, sb7, sc7, hE, H, hm⟩
    cases m with
    | zero => simp [skew_without_l0] at hm
    | succ m =>
      rw [skew_without_l0] at hm
      refine Runs.seq ?_
      refine Runs.region ?_
      refine WR.seg hE 1 [] [0, 5, 8, 9, 21, 22, 23, 24] (Lo := [(0, .pointer (some ⟨p_a_, 0, none⟩)), (5, .pointer (some ⟨r, 0, none⟩)), (8, .slice sb6 rest.length sc6), (9, .slice sb7 alone.length sc7), (21, .slice sb1 t_1.1.length sc1), (22, .int .i64 (t_1.1.length : Int)), (23, .int .i64 x), (24, .bool (decide (x < (t_1.1.length : Int))))]) (obs := []) rfl (by kernel_rfl) trivial fun a hE => ?_
      refine WR.done rfl ?_
      refine Runs.seq ?_
      refine Runs.cond hE rfl (fun c => ?_) (fun c => ?_)
      · replace hm := cond_t c hm
        refine Runs.skip ?_
        refine Runs.seq ?_
        obtain ⟨s1, es1, hm⟩ := bind_some hm
        refine Runs.join (fun a w => ∃ (sb8 : Option Addr), ∃ (sc8 : Nat), ∃ (sb9 : Option Addr), ∃ (sc9 : Nat), EnvOk 59 a [(0, .pointer (some ⟨p_a_, 0, none⟩)), (5, .pointer (some ⟨r, 0, none⟩)), (8, .slice sb8 s1.1.length sc8), (9, .slice sb9 s1.2.1.length sc9), (21, .slice sb1 t_1.1.length sc1), (22, .int .i64 (t_1.1.length : Int)), (23, .int .i64 x)] ∧ St w0 (Sl 3 ecI 1 sb8 sc8 s1.1 :: Sl 3 ecI 1 sb9 sc9 s1.2.1 :: Sl 3 ecI 1 sb1 sc1 t_1.1 :: arena_Arena.R p_a_ al_a_ s1.2.2 :: Blk r 3 [.int .i64 n] :: As) w) (fun hk => ?_) ?_
        · replace hm := es1; clear es1
          refine Runs.block ?_
          refine Runs.seq ?_
          refine Runs.region ?_
          obtain ⟨x2, ex2, hm⟩ := bind_some hm
          obtain ⟨b, o, hs, hb⟩ := SlRd.base (sl_rd 3 ecI 1 _ _ _) ecI_ok H 2 rfl ex2
          refine WR.seg hE 3 [.pointer (some ⟨b, o, none⟩), .int .i64 x2] [0, 5, 8, 9, 11, 21, 22, 23] (Lo := [(0, .pointer (some ⟨p_a_, 0, none⟩)), (5, .pointer (some ⟨r, 0, none⟩)), (8, .slice sb6 rest.length sc6), (9, .slice sb7 alone.length sc7), (11, .int .i64 x2), (21, .slice sb1 t_1.1.length sc1), (22, .int .i64 (t_1.1.length : Int)), (23, .int .i64 x)]) (obs := [.p ((sb1 : Option Addr) = some ⟨b, o, none⟩), .p (0 ≤ (x : Int) ∧ (x : Int) < ((t_1.1.length : Nat) : Int)), .cell ⟨b, o + (Int.toNat x) * 1, none⟩ (.int .i64 x2)]) rfl (by kernel_rfl) ⟨hs, hb, SlRd.cells (sl_rd 3 ecI 1 _ _ _) ecI_ok H 2 rfl hs ex2 0 _ rfl, trivial⟩ fun a hE => ?_
          refine WR.done rfl ?_
          refine Runs.seq ?_
          refine Runs.region ?_
          refine WR.seg hE 2 [] [0, 5, 8, 9, 11, 21, 22, 23, 27, 28] (Lo := [(0, .pointer (some ⟨p_a_, 0, none⟩)), (5, .pointer (some ⟨r, 0, none⟩)), (8, .slice sb6 rest.length sc6), (9, .slice sb7 alone.length sc7), (11, .int .i64 x2), (21, .slice sb1 t_1.1.length sc1), (22, .int .i64 (t_1.1.length : Int)), (23, .int .i64 x), (27, .pointer (some ⟨p_a_, 0, none⟩)), (28, .int .i64 x2)]) (obs := []) rfl (by kernel_rfl) trivial fun a hE => ?_
          obtain ⟨t_2, et_2, hm⟩ := bind_some hm
          refine WR.eff hE rfl rfl rfl rfl (OpTo.fn hE rfl rfl Tryz.call61 (arena_Arena_Get_ok et_2 H.t3)) ?_
          rintro _ w ⟨rfl, hf1, hf, H⟩ a hE
          refine WR.seg hE 4 [] [0, 5, 8, 9, 11, 21, 22, 23, 30] (Lo := [(0, .pointer (some ⟨p_a_, 0, none⟩)), (5, .pointer (some ⟨r, 0, none⟩)), (8, .slice sb6 rest.length sc6), (9, .slice sb7 alone.length sc7), (11, .int .i64 x2), (21, .slice sb1 t_1.1.length sc1), (22, .int .i64 (t_1.1.length : Int)), (23, .int .i64 x), (30, .bool (t_2.1 == 0))]) (obs := []) rfl (by kernel_rfl) trivial fun a hE => ?_
          refine WR.done rfl ?_
          refine Runs.cond hE rfl (fun c => ?_) (fun c => ?_)
          · replace hm := cond_t c hm
            refine Runs.region ?_
            refine WR.seg hE 2 [] [0, 5, 8, 9, 21, 22, 23, 31, 32] (Lo := [(0, .pointer (some ⟨p_a_, 0, none⟩)), (5, .pointer (some ⟨r, 0, none⟩)), (8, .slice sb6 rest.length sc6), (9, .slice sb7 alone.length sc7), (21, .slice sb1 t_1.1.length sc1), (22, .int .i64 (t_1.1.length : Int)), (23, .int .i64 x), (31, .slice sb7 alone.length sc7), (32, .int .i64 x2)]) (obs := []) rfl (by kernel_rfl) trivial fun a hE => ?_
            refine WR.eff hE rfl rfl rfl rfl (OpTo.buildSl (T := 3) hE H ecI_ok ([x2] : List Int) rfl (fun _ => by kernel_rfl) rfl rfl rfl) ?_
            rintro _ w ⟨r1, rfl, H⟩ a hE
            obtain ⟨l2, el2, hm⟩ := bind_some hm
            replace H := H.t3
            refine WR.eff hE rfl rfl rfl rfl (OpTo.appendM el2 hE H ecI_ok rfl rfl rfl rfl rfl rfl rfl rfl rfl rfl (SlRd.all (sl_rd 3 ecI 1 _ _ _) ecI_ok H 1 rfl) rfl) ?_
            rintro _ w ⟨sb10, sc10, rfl, H⟩ a hE
            refine WR.seg hE 5 [] [0, 5, 8, 9, 21, 22, 23] (Lo := [(0, .pointer (some ⟨p_a_, 0, none⟩)), (5, .pointer (some ⟨r, 0, none⟩)), (8, .slice sb6 rest.length sc6), (9, .slice sb10 l2.length sc10), (21, .slice sb1 t_1.1.length sc1), (22, .int .i64 (t_1.1.length : Int)), (23, .int .i64 x)]) (obs := []) rfl (by kernel_rfl) trivial fun a hE => ?_
            refine WR.done rfl ?_
            refine Runs.inBlock ?_
            cases hm
            exact hk _ _ ⟨sb6, sc6, sb10, sc10, hE.sel [0, 5, 8, 9, 21, 22, 23] (by kernel_rfl), H.x1.t4.t2.t4.t3.t4⟩
          · replace hm := cond_f c hm
            refine Runs.region ?_
            refine WR.seg hE 2 [] [0, 5, 8, 9, 21, 22, 23, 35, 36] (Lo := [(0, .pointer (some ⟨p_a_, 0, none⟩)), (5, .pointer (some ⟨r, 0, none⟩)), (8, .slice sb6 rest.length sc6), (9, .slice sb7 alone.length sc7), (21, .slice sb1 t_1.1.length sc1), (22, .int .i64 (t_1.1.length : Int)), (23, .int .i64 x), (35, .slice sb6 rest.length sc6), (36, .int .i64 x2)]) (obs := []) rfl (by kernel_rfl) trivial fun a hE => ?_
            refine WR.eff hE rfl rfl rfl rfl (OpTo.buildSl (T := 3) hE H ecI_ok ([x2] : List Int) rfl (fun _ => by kernel_rfl) rfl rfl rfl) ?_
            rintro _ w ⟨r2, rfl, H⟩ a hE
            obtain ⟨l3, el3, hm⟩ := bind_some hm
            replace H := H.t2
            refine WR.eff hE rfl rfl rfl rfl (OpTo.appendM el3 hE H ecI_ok rfl rfl rfl rfl rfl rfl rfl rfl rfl rfl (SlRd.all (sl_rd 3 ecI 1 _ _ _) ecI_ok H 1 rfl) rfl) ?_
            rintro _ w ⟨sb11, sc11, rfl, H⟩ a hE
            refine WR.seg hE 5 [] [0, 5, 8, 9, 21, 22, 23] (Lo := [(0, .pointer (some ⟨p_a_, 0, none⟩)), (5, .pointer (some ⟨r, 0, none⟩)), (8, .slice sb11 l3.length sc11), (9, .slice sb7 alone.length sc7), (21, .slice sb1 t_1.1.length sc1), (22, .int .i64 (t_1.1.length : Int)), (23, .int .i64 x)]) (obs := []) rfl (by kernel_rfl) trivial fun a hE => ?_
            refine WR.done rfl ?_
            refine Runs.inBlock ?_
            cases hm
            exact hk _ _ ⟨sb11, sc11, sb7, sc7, hE.sel [0, 5, 8, 9, 21, 22, 23] (by kernel_rfl), H.x1.t4.t2.t4.t4.t4⟩
        rintro a w ⟨sb8, sc8, sb9, sc9, hE, H⟩
        refine Runs.region ?_
        refine WR.seg hE 2 [] [0, 5, 8, 9, 21, 22, 23] (Lo := [(0, .pointer (some ⟨p_a_, 0, none⟩)), (5, .pointer (some ⟨r, 0, none⟩)), (8, .slice sb8 s1.1.length sc8), (9, .slice sb9 s1.2.1.length sc9), (21, .slice sb1 t_1.1.length sc1), (22, .int .i64 (t_1.1.length : Int)), (23, .int .i64 (w64 (x + 1)))]) (obs := []) rfl (by kernel_rfl) trivial fun a hE => ?_
        refine WR.done rfl ?_
        exact ih m (Nat.lt_succ_self m) _ _ ⟨s1.1, s1.2.1, w64 (x + 1), s1.2.2, sb8, sc8, sb9, sc9, hE.sel [0, 5, 8, 9, 21, 22, 23] (by kernel_rfl), H.t4.t4.t4.t4.t4, hm⟩
      · replace hm := cond_f c hm
        refine Runs.exit rfl ?_
        cases hm
        exact hk _ _ ⟨sb6, sc6, sb7, sc7, hE.sel [0, 5, 8, 9] (by kernel_rfl), H.x2.t3.t3.t3.t3⟩
  rintro a w ⟨sb4, sc4, sb5, sc5, hE, H⟩
  refine Runs.seq ?_
  refine Runs.region ?_
  refine WR.seg hE 2 [.int .i64 n] [0, 8, 9, 40, 41] (Lo := [(0, .pointer (some ⟨p_a_, 0, none⟩)), (8, .slice sb4 s.1.length sc4), (9, .slice sb5 s.2.1.length sc5), (40, .pointer (some ⟨p_a_, 0, none⟩)), (41, .int .i64 n)]) (obs := [.cell ⟨r, 0, none⟩ (.int .i64 n)]) rfl (by kernel_rfl) ⟨H.cell 3 rfl rfl, trivial⟩ fun a hE => ?_
  obtain ⟨t_3, et_3, hm⟩ := bind_some hm
  refine WR.eff hE rfl rfl rfl rfl (OpTo.fn hE rfl rfl Tryz.call123 (node_End_ok et_3 H.t2)) ?_
  rintro _ w ⟨z, z1, rfl, H⟩ a hE
  refine WR.seg hE 4 [] [0, 8, 9, 12] (Lo := [(0, .pointer (some ⟨p_a_, 0, none⟩)), (8, .slice sb4 s.1.length sc4), (9, .slice sb5 s.2.1.length sc5), (12, .int .i64 t_3.1)]) (obs := []) rfl (by kernel_rfl) trivial fun a hE => ?_
  refine WR.done rfl ?_
  refine Runs.seq ?_
  refine Runs.region ?_
  refine WR.seg hE 2 [] [0, 9, 12, 43, 44] (Lo := [(0, .pointer (some ⟨p_a_, 0, none⟩)), (9, .slice sb5 s.2.1.length sc5), (12, .int .i64 t_3.1), (43, .pointer (some ⟨p_a_, 0, none⟩)), (44, .slice sb4 s.1.length sc4)]) (obs := []) rfl (by kernel_rfl) trivial fun a hE => ?_
  obtain ⟨t_4, et_4, hm⟩ := bind_some hm
  replace H := H.t1.t1
  refine WR.eff hE rfl rfl rfl rfl (OpTo.fn hE rfl rfl Tryz.call55 (trees_Carry_ok (hX_l := (sl_rd 3 ecI 1 _ _ _)) (hC_l := (H.slCap 1 rfl).1) et_4 H)) ?_
  rintro _ w ⟨rfl, H⟩ a hE
  refine WR.seg hE 4 [] [0, 9, 12, 13] (Lo := [(0, .pointer (some ⟨p_a_, 0, none⟩)), (9, .slice sb5 s.2.1.length sc5), (12, .int .i64 t_3.1), (13, .int .i64 t_4.1)]) (obs := []) rfl (by kernel_rfl) trivial fun a hE => ?_
  refine WR.done rfl ?_
  refine Runs.seq ?_
  refine Runs.seq ?_
  refine Runs.region ?_
  refine WR.seg hE 3 [] [0, 12, 13, 46, 47, 48] (Lo := [(0, .pointer (some ⟨p_a_, 0, none⟩)), (12, .int .i64 t_3.1), (13, .int .i64 t_4.1), (46, .slice sb5 s.2.1.length sc5), (47, .int .i64 (s.2.1.length : Int)), (48, .int .i64 0)]) (obs := []) rfl (by kernel_rfl) trivial fun a hE => ?_
  refine WR.done rfl ?_
  obtain ⟨s2, es2, hm⟩ := bind_some hm
  refine Runs.join (fun a w => EnvOk 59 a [(12, .int .i64 t_3.1), (13, .int .i64 s2.1)] ∧ St w0 (arena_Arena.R p_a_ (arena_Arena.A.mk al_a_.l_b al_a_.l_c z z1 al_a_.m__p) s2.2 :: As) w) (fun hk => ?_) ?_
  · replace hm := es2; clear es2
    refine Runs.block ?_
    refine Runs.loop (fun m a w => ∃ (r3 : Int), ∃ (x3 : Int), ∃ (m_1 : arena_Arena), EnvOk 59 a [(0, .pointer (some ⟨p_a_, 0, none⟩)), (12, .int .i64 t_3.1), (13, .int .i64 r3), (46, .slice sb5 s.2.1.length sc5), (47, .int .i64 (s.2.1.length : Int)), (48, .int .i64 x3)] ∧ St w0 (arena_Arena.R p_a_ (arena_Arena.A.mk al_a_.l_b al_a_.l_c z z1 al_a_.m__p) m_1 :: Sl 3 ecI 1 sb5 sc5 s.2.1 :: As) w ∧ skew_without_l1 t_3.1 (s.2.1.length : Int) s.2.1 m r3 x3 m_1 = some s2) k ⟨t_4.1, 0, t_4.2, hE.sel [0, 12, 13, 46, 47, 48] (by kernel_rfl), H.x3.x1.t1.t1, hm⟩ ?_
    rintro m ih a w ⟨r3, x3, m_1, hE, H, hm⟩
    cases m with
    | zero => simp [skew_without_l1] at hm
    | succ m =>
      rw [skew_without_l1] at hm
      refine Runs.seq ?_
      refine Runs.region ?_
      refine WR.seg hE 1 [] [0, 12, 13, 46, 47, 48, 49] (Lo := [(0, .pointer (some ⟨p_a_, 0, none⟩)), (12, .int .i64 t_3.1), (13, .int .i64 r3), (46, .slice sb5 s.2.1.length sc5), (47, .int .i64 (s.2.1.length : Int)), (48, .int .i64 x3), (49, .bool (decide (x3 < (s.2.1.length : Int))))]) (obs := []) rfl (by kernel_rfl) trivial fun a hE => ?_
      refine WR.done rfl ?_
      refine Runs.seq ?_
      refine Runs.cond hE rfl (fun c => ?_) (fun c => ?_)
      · replace hm := cond_t c hm
        refine Runs.skip ?_
        refine Runs.seq ?_
        refine Runs.block ?_
        refine Runs.seq ?_
        refine Runs.region ?_
        obtain ⟨x5, ex5, hm⟩ := bind_some hm
        obtain ⟨b1, o1, hs1, hb1⟩ := SlRd.base (sl_rd 3 ecI 1 _ _ _) ecI_ok H 1 rfl ex5
        refine WR.seg hE 3 [.pointer (some ⟨b1, o1, none⟩), .int .i64 x5] [0, 12, 13, 15, 46, 47, 48] (Lo := [(0, .pointer (some ⟨p_a_, 0, none⟩)), (12, .int .i64 t_3.1), (13, .int .i64 r3), (15, .int .i64 x5), (46, .slice sb5 s.2.1.length sc5), (47, .int .i64 (s.2.1.length : Int)), (48, .int .i64 x3)]) (obs := [.p ((sb5 : Option Addr) = some ⟨b1, o1, none⟩), .p (0 ≤ (x3 : Int) ∧ (x3 : Int) < ((s.2.1.length : Nat) : Int)), .cell ⟨b1, o1 + (Int.toNat x3) * 1, none⟩ (.int .i64 x5)]) rfl (by kernel_rfl) ⟨hs1, hb1, SlRd.cells (sl_rd 3 ecI 1 _ _ _) ecI_ok H 1 rfl hs1 ex5 0 _ rfl, trivial⟩ fun a hE => ?_
        refine WR.done rfl ?_
        refine Runs.region ?_
        refine WR.seg hE 3 [] [0, 12, 13, 46, 47, 48, 52, 53, 54] (Lo := [(0, .pointer (some ⟨p_a_, 0, none⟩)), (12, .int .i64 t_3.1), (13, .int .i64 r3), (46, .slice sb5 s.2.1.length sc5), (47, .int .i64 (s.2.1.length : Int)), (48, .int .i64 x3), (52, .pointer (some ⟨p_a_, 0, none⟩)), (53, .int .i64 r3), (54, .int .i64 x5)]) (obs := []) rfl (by kernel_rfl) trivial fun a hE => ?_
        obtain ⟨t_5, et_5, hm⟩ := bind_some hm
        refine WR.eff hE rfl rfl rfl rfl (OpTo.fn hE rfl rfl Tryz.call134 (skew_single_ok et_5 H)) ?_
        rintro _ w ⟨rfl, H⟩ a hE
        refine WR.seg hE 5 [] [0, 12, 13, 46, 47, 48] (Lo := [(0, .pointer (some ⟨p_a_, 0, none⟩)), (12, .int .i64 t_3.1), (13, .int .i64 t_5.1), (46, .slice sb5 s.2.1.length sc5), (47, .int .i64 (s.2.1.length : Int)), (48, .int .i64 x3)]) (obs := []) rfl (by kernel_rfl) trivial fun a hE => ?_
        refine WR.done rfl ?_
        refine Runs.inBlock ?_
        refine Runs.region ?_
        refine WR.seg hE 2 [] [0, 12, 13, 46, 47, 48] (Lo := [(0, .pointer (some ⟨p_a_, 0, none⟩)), (12, .int .i64 t_3.1), (13, .int .i64 t_5.1), (46, .slice sb5 s.2.1.length sc5), (47, .int .i64 (s.2.1.length : Int)), (48, .int .i64 (w64 (x3 + 1)))]) (obs := []) rfl (by kernel_rfl) trivial fun a hE => ?_
        refine WR.done rfl ?_
        exact ih m (Nat.lt_succ_self m) _ _ ⟨t_5.1, w64 (x3 + 1), t_5.2, hE.sel [0, 12, 13, 46, 47, 48] (by kernel_rfl), H.t1.t1, hm⟩
      · replace hm := cond_f c hm
        refine Runs.exit rfl ?_
        cases hm
        exact hk _ _ ⟨hE.sel [12, 13] (by kernel_rfl), H.x1⟩
  rintro a w ⟨hE, H⟩
  refine Runs.seq ?_
  refine Runs.region ?_
  refine WR.seg hE 4 [] [6, 7] (Lo := [(6, .int .i64 s2.1), (7, .int .i64 t_3.1)]) (obs := []) rfl (by kernel_rfl) trivial fun a hE => ?_
  refine WR.done rfl ?_
  refine Runs.ret hE Tryz.func140 rfl rfl ?_
  cases hm
  exact ⟨z, z1, rfl, H⟩

theorem skew_Pop_ok {w0 w : World} {As : List HP} {k : Nat} {p_a_ : Nat} {al_a_ : arena_Arena.A} {a_ : arena_Arena} {r : Int} {t : Int × Int × arena_Arena}  (hm : skew_Pop k a_ r = some t) (H : St w0 (arena_Arena.R p_a_ al_a_ a_ :: As) w) :
    CallsR Tryz.prog 82 #[.pointer (some ⟨p_a_, 0, none⟩), .int .i64 r] w fun v w' => ∃ (z_a__free_b : Option Addr), ∃ (z_a__free_c : Nat), v = .tuple #[.int .i64 t.1, .int .i64 t.2.1] ∧ St w0 (arena_Arena.R p_a_ (arena_Arena.A.mk al_a_.l_b al_a_.l_c z_a__free_b z_a__free_c al_a_.m__p) t.2.2 :: As) w' := by
  rw [skew_Pop] at hm
  refine enter (args := [.pointer (some ⟨p_a_, 0, none⟩), .int .i64 r]) Tryz.func82 rfl rfl rfl fun a hE => ?_
  refine Runs.seq ?_
  refine Runs.region ?_
  refine WR.seg hE 2 [] [0, 1] (Lo := [(0, .pointer (some ⟨p_a_, 0, none⟩)), (1, .int .i64 r)]) (obs := []) rfl (by kernel_rfl) trivial fun a hE => ?_
  refine WR.done rfl ?_
  refine Runs.seq ?_
  refine Runs.seq ?_
  obtain ⟨s, es, hm⟩ := bind_some hm
  refine Runs.join (fun a w => EnvOk 26 a [(0, .pointer (some ⟨p_a_, 0, none⟩)), (1, .int .i64 r), (14, .bool s)] ∧ St w0 (arena_Arena.R p_a_ al_a_ a_ :: As) w) (fun hk => ?_) ?_
  · replace hm := es; clear es
    refine Runs.region ?_
    refine WR.seg hE 5 [] [0, 1, 9, 10, 11] (Lo := [(0, .pointer (some ⟨p_a_, 0, none⟩)), (1, .int .i64 r), (9, .bool false), (10, .pointer (some ⟨p_a_, 0, none⟩)), (11, .int .i64 r)]) (obs := []) rfl (by kernel_rfl) trivial fun a hE => ?_
    obtain ⟨t_, et_, hm⟩ := bind_some hm
    refine WR.eff hE rfl rfl rfl rfl (OpTo.fn hE rfl rfl Tryz.call58 (arena_Arena_Live_ok et_ H)) ?_
    rintro _ w ⟨rfl, H⟩ a hE
    refine WR.seg hE 8 [] [0, 1, 14] (Lo := [(0, .pointer (some ⟨p_a_, 0, none⟩)), (1, .int .i64 r), (14, .bool (!t_))]) (obs := []) rfl (by kernel_rfl) trivial fun a hE => ?_
    refine WR.done rfl ?_
    cases hm
    exact hk _ _ ⟨hE.sel [0, 1, 14] (by kernel_rfl), H⟩
  rintro a w ⟨hE, H⟩
  refine Runs.cond hE rfl (fun c => ?_) (fun c => ?_)
  · replace hm := cond_t c hm
    refine Runs.seq ?_
    refine Runs.region ?_
    refine WR.seg hE 2 [] [4, 5] (Lo := [(4, .int .i64 (-1)), (5, .int .i64 (-1))]) (obs := []) rfl (by kernel_rfl) trivial fun a hE => ?_
    refine WR.done rfl ?_
    refine Runs.ret hE Tryz.func82 rfl rfl ?_
    cases hm
    exact ⟨al_a_.free_b, al_a_.free_c, rfl, H⟩
  · replace hm := cond_f c hm
    refine Runs.skip ?_
    refine Runs.seq ?_
    refine Runs.region ?_
    refine WR.seg hE 2 [] [0, 15, 16] (Lo := [(0, .pointer (some ⟨p_a_, 0, none⟩)), (15, .pointer (some ⟨p_a_, 0, none⟩)), (16, .int .i64 r)]) (obs := []) rfl (by kernel_rfl) trivial fun a hE => ?_
    obtain ⟨t_1, et_1, hm⟩ := bind_some hm
    refine WR.eff hE rfl rfl rfl rfl (OpTo.fn hE rfl rfl Tryz.call56 (trees_List_ok et_1 H)) ?_
    rintro _ w ⟨sb, sc, rfl, H⟩ a hE
    refine WR.seg hE 4 [] [0, 6] (Lo := [(0, .pointer (some ⟨p_a_, 0, none⟩)), (6, .slice sb t_1.1.length sc)]) (obs := []) rfl (by kernel_rfl) trivial fun a hE => ?_
    refine WR.done rfl ?_
    refine Runs.seq ?_
    refine Runs.region ?_
    refine WR.seg hE 4 [] [18, 19, 20, 21] (Lo := [(18, .pointer (some ⟨p_a_, 0, none⟩)), (19, .slice sb t_1.1.length sc), (20, .pointer (some ⟨p_a_, 0, none⟩)), (21, .slice sb t_1.1.length sc)]) (obs := []) rfl (by kernel_rfl) trivial fun a hE => ?_
    obtain ⟨t_2, et_2, hm⟩ := bind_some hm
    replace H := H.t1
    refine WR.eff hE rfl rfl rfl rfl (OpTo.fn hE rfl rfl Tryz.call60 (trees_Best_ok (hX_l := (sl_rd 3 ecI 1 _ _ _)) (hC_l := (H.slCap 1 rfl).1) et_2 H)) ?_
    rintro _ w ⟨rfl, H⟩ a hE
    obtain ⟨t_3, et_3, hm⟩ := bind_some hm
    refine WR.eff hE rfl rfl rfl rfl (OpTo.fn hE rfl rfl Tryz.call140 (skew_without_ok et_3 H.t1.t1)) ?_
    rintro _ w ⟨z, z1, rfl, H⟩ a hE
    refine WR.seg hE 10 [] [4, 5] (Lo := [(4, .int .i64 t_3.1), (5, .int .i64 t_3.2.1)]) (obs := []) rfl (by kernel_rfl) trivial fun a hE => ?_
    refine WR.done rfl ?_
    refine Runs.ret hE Tryz.func82 rfl rfl ?_
    cases hm
    exact ⟨z, z1, rfl, H⟩

theorem chain_All_ok {w0 w : World} {As : List HP} {k : Nat} {p_a_ : Nat} {al_a_ : arena_Arena.A} {a_ : arena_Arena} {c_ : Int} {t : (List Int) × arena_Arena}  (hm : chain_All k a_ c_ = some t) (H : St w0 (arena_Arena.R p_a_ al_a_ a_ :: As) w) :
    CallsR Tryz.prog 165 #[.pointer (some ⟨p_a_, 0, none⟩), .int .i64 c_] w fun v w' => ∃ (sb0 : Option Addr), ∃ (sc0 : Nat), v = .slice sb0 t.1.length sc0 ∧ St w0 (Sl 3 ecI 1 sb0 sc0 t.1 :: arena_Arena.R p_a_ al_a_ t.2 :: As) w' := by
  rw [chain_All] at hm
  refine enter (args := [.pointer (some ⟨p_a_, 0, none⟩), .int .i64 c_]) Tryz.func165 rfl rfl rfl fun a hE => ?_
  refine Runs.seq ?_
  refine Runs.region ?_
  refine WR.seg hE 1 [] [0, 1] (Lo := [(0, .pointer (some ⟨p_a_, 0, none⟩)), (1, .int .i64 c_)]) (obs := []) rfl (by kernel_rfl) trivial fun a hE => ?_
  refine WR.done rfl ?_
  refine Runs.seq ?_
  refine Runs.seq ?_
  obtain ⟨s, es, hm⟩ := bind_some hm
  refine Runs.join (fun a w => EnvOk 43 a [(0, .pointer (some ⟨p_a_, 0, none⟩)), (1, .int .i64 c_), (14, .bool s)] ∧ St w0 (arena_Arena.R p_a_ al_a_ a_ :: As) w) (fun hk => ?_) ?_
  · replace hm := es; clear es
    refine Runs.region ?_
    refine WR.seg hE 5 [] [0, 1, 9, 10, 11] (Lo := [(0, .pointer (some ⟨p_a_, 0, none⟩)), (1, .int .i64 c_), (9, .bool false), (10, .pointer (some ⟨p_a_, 0, none⟩)), (11, .int .i64 c_)]) (obs := []) rfl (by kernel_rfl) trivial fun a hE => ?_
    obtain ⟨t_, et_, hm⟩ := bind_some hm
    refine WR.eff hE rfl rfl rfl rfl (OpTo.fn hE rfl rfl Tryz.call58 (arena_Arena_Live_ok et_ H)) ?_
    rintro _ w ⟨rfl, H⟩ a hE
    refine WR.seg hE 8 [] [0, 1, 14] (Lo := [(0, .pointer (some ⟨p_a_, 0, none⟩)), (1, .int .i64 c_), (14, .bool (!t_))]) (obs := []) rfl (by kernel_rfl) trivial fun a hE => ?_
    refine WR.done rfl ?_
    cases hm
    exact hk _ _ ⟨hE.sel [0, 1, 14] (by kernel_rfl), H⟩
  rintro a w ⟨hE, H⟩
  refine Runs.cond hE rfl (fun c => ?_) (fun c => ?_)
  · replace hm := cond_t c hm
    refine Runs.seq ?_
    refine Runs.region ?_
    refine WR.seg hE 1 [] [4] (Lo := [(4, .slice none 0 0)]) (obs := []) rfl (by kernel_rfl) trivial fun a hE => ?_
    refine WR.done rfl ?_
    replace H := H.slNil 3 ecI 1
    refine Runs.ret hE Tryz.func165 rfl rfl ?_
    cases hm
    exact ⟨none, 0, rfl, H.t1.t1⟩
  · replace hm := cond_f c hm
    refine Runs.skip ?_
    refine Runs.seq ?_
    refine Runs.region ?_
    refine WR.seg hE 1 [] [0, 1, 15] (Lo := [(0, .pointer (some ⟨p_a_, 0, none⟩)), (1, .int .i64 c_), (15, .int .i64 c_)]) (obs := []) rfl (by kernel_rfl) trivial fun a hE => ?_
    refine WR.eff hE rfl rfl rfl rfl (OpTo.buildSl (T := 3) hE H ecI_ok ([c_] : List Int) rfl (fun _ => by kernel_rfl) rfl rfl rfl) ?_
    rintro _ w ⟨r, rfl, H⟩ a hE
    refine WR.seg hE 3 [] [0, 1, 5] (Lo := [(0, .pointer (some ⟨p_a_, 0, none⟩)), (1, .int .i64 c_), (5, .slice (some ⟨r, 0, none⟩) (([c_] : List Int).length) 1)]) (obs := []) rfl (by kernel_rfl) trivial fun a hE => ?_
    refine WR.done rfl ?_
    refine Runs.seq ?_
    refine Runs.seq ?_
    refine Runs.region ?_
    refine WR.seg hE 2 [] [0, 1, 5, 17, 18] (Lo := [(0, .pointer (some ⟨p_a_, 0, none⟩)), (1, .int .i64 c_), (5, .slice (some ⟨r, 0, none⟩) (([c_] : List Int).length) 1), (17, .pointer (some ⟨p_a_, 0, none⟩)), (18, .int .i64 c_)]) (obs := []) rfl (by kernel_rfl) trivial fun a hE => ?_
    obtain ⟨t_1, et_1, hm⟩ := bind_some hm
    refine WR.eff hE rfl rfl rfl rfl (OpTo.fn hE rfl rfl Tryz.call73 (arena_Arena_Cell_ok et_1 H.t1)) ?_
    rintro _ w ⟨rfl, H⟩ a hE
    refine WR.seg hE 4 [] [0, 1, 5, 6] (Lo := [(0, .pointer (some ⟨p_a_, 0, none⟩)), (1, .int .i64 c_), (5, .slice (some ⟨r, 0, none⟩) (([c_] : List Int).length) 1), (6, .int .i64 t_1.1)]) (obs := []) rfl (by kernel_rfl) trivial fun a hE => ?_
    refine WR.done rfl ?_
    obtain ⟨s1, es1, hm⟩ := bind_some hm
    refine Runs.join (fun a w => ∃ (sb1 : Option Addr), ∃ (sc1 : Nat), EnvOk 43 a [(5, .slice sb1 s1.1.length sc1)] ∧ St w0 (Sl 3 ecI 1 sb1 sc1 s1.1 :: arena_Arena.R p_a_ al_a_ s1.2 :: As) w) (fun hk => ?_) ?_
    · replace hm := es1; clear es1
      refine Runs.block ?_
      refine Runs.loop (fun m a w => ∃ (out : List Int), ∃ (d : Int), ∃ (m_ : arena_Arena), ∃ (sb2 : Option Addr), ∃ (sc2 : Nat), EnvOk 43 a [(0, .pointer (some ⟨p_a_, 0, none⟩)), (1, .int .i64 c_), (5, .slice sb2 out.length sc2), (6, .int .i64 d)] ∧ St w0 (Sl 3 ecI 1 sb2 sc2 out :: arena_Arena.R p_a_ al_a_ m_ :: As) w ∧ chain_All_l0 c_ m out d m_ = some s1) k ⟨([c_] : List Int), t_1.1, t_1.2, (some ⟨r, 0, none⟩), 1, hE.sel [0, 1, 5, 6] (by kernel_rfl), H.t1, hm⟩ ?_
      rintro m ih a w ⟨out, d, m_, sb2, sc2, hE, H, hm⟩
      cases m with
      | zero => simp [chain_All_l0] at hm
      | succ m =>
        rw [chain_All_l0] at hm
        refine Runs.seq ?_
        refine Runs.seq ?_
        obtain ⟨s2, es2, hm⟩ := bind_some hm
        refine Runs.join (fun a w => EnvOk 43 a [(0, .pointer (some ⟨p_a_, 0, none⟩)), (1, .int .i64 c_), (5, .slice sb2 out.length sc2), (6, .int .i64 d), (34, .bool s2)] ∧ St w0 (Sl 3 ecI 1 sb2 sc2 out :: arena_Arena.R p_a_ al_a_ m_ :: As) w) (fun hk => ?_) ?_
        · replace hm := es2; clear es2
          refine Runs.region ?_
          refine WR.seg hE 4 [] [0, 1, 5, 6, 23] (Lo := [(0, .pointer (some ⟨p_a_, 0, none⟩)), (1, .int .i64 c_), (5, .slice sb2 out.length sc2), (6, .int .i64 d), (23, .bool (d != c_))]) (obs := []) rfl (by kernel_rfl) trivial fun a hE => ?_
          rcases Bool.eq_false_or_eq_true (d != c_) with c | c
          · replace hE := hE.dec 23 c (by kernel_rfl)
            replace hm := cond_t c hm
            have c_2 := c
            refine WR.seg hE 6 [] [0, 1, 5, 6, 23, 24, 25] (Lo := [(0, .pointer (some ⟨p_a_, 0, none⟩)), (1, .int .i64 c_), (5, .slice sb2 out.length sc2), (6, .int .i64 d), (23, .bool true), (24, .pointer (some ⟨p_a_, 0, none⟩)), (25, .int .i64 d)]) (obs := []) rfl (by kernel_rfl) trivial fun a hE => ?_
            obtain ⟨t_2, et_2, hm⟩ := bind_some hm
            refine WR.eff hE rfl rfl rfl rfl (OpTo.fn hE rfl rfl Tryz.call58 (arena_Arena_Live_ok et_2 H.t1)) ?_
            rintro _ w ⟨rfl, H⟩ a hE
            refine WR.seg hE 9 [] [0, 1, 5, 6, 28] (Lo := [(0, .pointer (some ⟨p_a_, 0, none⟩)), (1, .int .i64 c_), (5, .slice sb2 out.length sc2), (6, .int .i64 d), (28, .bool t_2)]) (obs := []) rfl (by kernel_rfl) trivial fun a hE => ?_
            rcases Bool.eq_false_or_eq_true t_2 with c | c
            · replace hE := hE.dec 28 c (by kernel_rfl)
              replace hm := cond_t c hm
              have c_3 := c
              refine WR.seg hE 12 [] [0, 1, 5, 6, 28, 30, 31] (Lo := [(0, .pointer (some ⟨p_a_, 0, none⟩)), (1, .int .i64 c_), (5, .slice sb2 out.length sc2), (6, .int .i64 d), (28, .bool true), (30, .int .i64 (out.length : Int)), (31, .pointer (some ⟨p_a_, 0, none⟩))]) (obs := []) rfl (by kernel_rfl) trivial fun a hE => ?_
              obtain ⟨t_3, et_3, hm⟩ := bind_some hm
              refine WR.eff hE rfl rfl rfl rfl (OpTo.fn hE rfl rfl Tryz.call63 (arena_Arena_Cells_ok et_3 H)) ?_
              rintro _ w ⟨rfl, H⟩ a hE
              refine WR.seg hE 15 [] [0, 1, 5, 6, 34] (Lo := [(0, .pointer (some ⟨p_a_, 0, none⟩)), (1, .int .i64 c_), (5, .slice sb2 out.length sc2), (6, .int .i64 d), (34, .bool (decide ((out.length : Int) < t_3)))]) (obs := []) rfl (by kernel_rfl) trivial fun a hE => ?_
              refine WR.done rfl ?_
              cases hm
              exact hk _ _ ⟨hE.sel [0, 1, 5, 6, 34] (by kernel_rfl), H.t1⟩
            · replace hE := hE.dec 28 c (by kernel_rfl)
              replace hm := cond_f c hm
              have c_4 := c
              refine WR.seg hE 15 [] [0, 1, 5, 6, 34] (Lo := [(0, .pointer (some ⟨p_a_, 0, none⟩)), (1, .int .i64 c_), (5, .slice sb2 out.length sc2), (6, .int .i64 d), (34, .bool false)]) (obs := []) rfl (by kernel_rfl) trivial fun a hE => ?_
              refine WR.done rfl ?_
              cases hm
              exact hk _ _ ⟨hE.sel [0, 1, 5, 6, 34] (by kernel_rfl), H.t1⟩
          · replace hE := hE.dec 23 c (by kernel_rfl)
            replace hm := cond_f c hm
            have c_5 := c
            refine WR.seg hE 15 [] [0, 1, 5, 6, 34] (Lo := [(0, .pointer (some ⟨p_a_, 0, none⟩)), (1, .int .i64 c_), (5, .slice sb2 out.length sc2), (6, .int .i64 d), (34, .bool false)]) (obs := []) rfl (by kernel_rfl) trivial fun a hE => ?_
            refine WR.done rfl ?_
            cases hm
            exact hk _ _ ⟨hE.sel [0, 1, 5, 6, 34] (by kernel_rfl), H.t1.t1⟩
        rintro a w ⟨hE, H⟩
        refine Runs.cond hE rfl (fun c => ?_) (fun c => ?_)
        · replace hm := cond_t c hm
          refine Runs.skip ?_
          refine Runs.seq ?_
          refine Runs.block ?_
          refine Runs.region ?_
          refine WR.seg hE 2 [] [0, 1, 5, 6, 38, 39] (Lo := [(0, .pointer (some ⟨p_a_, 0, none⟩)), (1, .int .i64 c_), (5, .slice sb2 out.length sc2), (6, .int .i64 d), (38, .slice sb2 out.length sc2), (39, .int .i64 d)]) (obs := []) rfl (by kernel_rfl) trivial fun a hE => ?_
          refine WR.eff hE rfl rfl rfl rfl (OpTo.buildSl (T := 3) hE H ecI_ok ([d] : List Int) rfl (fun _ => by kernel_rfl) rfl rfl rfl) ?_
          rintro _ w ⟨r1, rfl, H⟩ a hE
          obtain ⟨l, el, hm⟩ := bind_some hm
          replace H := H.t1
          refine WR.eff hE rfl rfl rfl rfl (OpTo.appendM el hE H ecI_ok rfl rfl rfl rfl rfl rfl rfl rfl rfl rfl (SlRd.all (sl_rd 3 ecI 1 _ _ _) ecI_ok H 1 rfl) rfl) ?_
          rintro _ w ⟨sb3, sc3, rfl, H⟩ a hE
          refine WR.seg hE 5 [] [0, 1, 5, 6] (Lo := [(0, .pointer (some ⟨p_a_, 0, none⟩)), (1, .int .i64 c_), (5, .slice sb3 l.length sc3), (6, .int .i64 d)]) (obs := []) rfl (by kernel_rfl) trivial fun a hE => ?_
          refine WR.done rfl ?_
          refine Runs.inBlock ?_
          refine Runs.region ?_
          refine WR.seg hE 2 [] [0, 1, 5, 6, 35, 36] (Lo := [(0, .pointer (some ⟨p_a_, 0, none⟩)), (1, .int .i64 c_), (5, .slice sb3 l.length sc3), (6, .int .i64 d), (35, .pointer (some ⟨p_a_, 0, none⟩)), (36, .int .i64 d)]) (obs := []) rfl (by kernel_rfl) trivial fun a hE => ?_
          obtain ⟨t_4, et_4, hm⟩ := bind_some hm
          refine WR.eff hE rfl rfl rfl rfl (OpTo.fn hE rfl rfl Tryz.call73 (arena_Arena_Cell_ok et_4 H.t2)) ?_
          rintro _ w ⟨rfl, H⟩ a hE
          refine WR.seg hE 4 [] [0, 1, 5, 6] (Lo := [(0, .pointer (some ⟨p_a_, 0, none⟩)), (1, .int .i64 c_), (5, .slice sb3 l.length sc3), (6, .int .i64 t_4.1)]) (obs := []) rfl (by kernel_rfl) trivial fun a hE => ?_
          refine WR.done rfl ?_
          exact ih m (Nat.lt_succ_self m) _ _ ⟨l, t_4.1, t_4.2, sb3, sc3, hE.sel [0, 1, 5, 6] (by kernel_rfl), H.x2.t1, hm⟩
        · replace hm := cond_f c hm
          refine Runs.exit rfl ?_
          cases hm
          exact hk _ _ ⟨sb2, sc2, hE.sel [5] (by kernel_rfl), H.t1.t1⟩
    rintro a w ⟨sb1, sc1, hE, H⟩
    refine Runs.seq ?_
    refine Runs.region ?_
    refine WR.seg hE 2 [] [4] (Lo := [(4, .slice sb1 s1.1.length sc1)]) (obs := []) rfl (by kernel_rfl) trivial fun a hE => ?_
    refine WR.done rfl ?_
    refine Runs.ret hE Tryz.func165 rfl rfl ?_
    cases hm
    exact ⟨sb1, sc1, rfl, H.t1.t1⟩

theorem chain_Out_ok {w0 w : World} {As : List HP} {p_a_ : Nat} {al_a_ : arena_Arena.A} {a_ : arena_Arena} {c_ : Int} {t : Int × arena_Arena}  (hm : chain_Out a_ c_ = some t) (H : St w0 (arena_Arena.R p_a_ al_a_ a_ :: As) w) :
    CallsR Tryz.prog 166 #[.pointer (some ⟨p_a_, 0, none⟩), .int .i64 c_] w fun v w' => v = .int .i64 t.1 ∧ St w0 (arena_Arena.R p_a_ al_a_ t.2 :: As) w' := by
  rw [chain_Out] at hm
  refine enter (args := [.pointer (some ⟨p_a_, 0, none⟩), .int .i64 c_]) Tryz.func166 rfl rfl rfl fun a hE => ?_
  refine Runs.seq ?_
  refine Runs.region ?_
  refine WR.seg hE 1 [] [0, 1] (Lo := [(0, .pointer (some ⟨p_a_, 0, none⟩)), (1, .int .i64 c_)]) (obs := []) rfl (by kernel_rfl) trivial fun a hE => ?_
  refine WR.done rfl ?_
  refine Runs.seq ?_
  refine Runs.seq ?_
  refine Runs.region ?_
  refine WR.seg hE 2 [] [0, 1, 8] (Lo := [(0, .pointer (some ⟨p_a_, 0, none⟩)), (1, .int .i64 c_), (8, .bool false)]) (obs := []) rfl (by kernel_rfl) trivial fun a hE => ?_
  refine WR.done rfl ?_
  refine Runs.condF hE rfl ?_
  refine Runs.skip ?_
  refine Runs.seq ?_
  refine Runs.region ?_
  refine WR.seg hE 2 [] [0, 1, 9, 10] (Lo := [(0, .pointer (some ⟨p_a_, 0, none⟩)), (1, .int .i64 c_), (9, .pointer (some ⟨p_a_, 0, none⟩)), (10, .int .i64 c_)]) (obs := []) rfl (by kernel_rfl) trivial fun a hE => ?_
  obtain ⟨t_, et_, hm⟩ := bind_some hm
  refine WR.eff hE rfl rfl rfl rfl (OpTo.fn hE rfl rfl Tryz.call73 (arena_Arena_Cell_ok et_ H)) ?_
  rintro _ w ⟨rfl, H⟩ a hE
  refine WR.seg hE 5 [] [0, 1, 11, 12, 13] (Lo := [(0, .pointer (some ⟨p_a_, 0, none⟩)), (1, .int .i64 c_), (11, .int .i64 t_.1), (12, .pointer (some ⟨p_a_, 0, none⟩)), (13, .int .i64 c_)]) (obs := []) rfl (by kernel_rfl) trivial fun a hE => ?_
  obtain ⟨t_1, et_1, hm⟩ := bind_some hm
  refine WR.eff hE rfl rfl rfl rfl (OpTo.fn hE rfl rfl Tryz.call73 (arena_Arena_Cell_ok et_1 H)) ?_
  rintro _ w ⟨rfl, H⟩ a hE
  refine WR.seg hE 8 [] [0, 1, 5, 6] (Lo := [(0, .pointer (some ⟨p_a_, 0, none⟩)), (1, .int .i64 c_), (5, .int .i64 t_.1), (6, .int .i64 t_1.1)]) (obs := []) rfl (by kernel_rfl) trivial fun a hE => ?_
  refine WR.done rfl ?_
  refine Runs.seq ?_
  refine Runs.seq ?_
  refine Runs.region ?_
  refine WR.seg hE 3 [] [0, 1, 5, 6, 17] (Lo := [(0, .pointer (some ⟨p_a_, 0, none⟩)), (1, .int .i64 c_), (5, .int .i64 t_.1), (6, .int .i64 t_1.1), (17, .bool (t_.1 == c_))]) (obs := []) rfl (by kernel_rfl) trivial fun a hE => ?_
  refine WR.done rfl ?_
  refine Runs.cond hE rfl (fun c => ?_) (fun c => ?_)
  · replace hm := cond_t c hm
    refine Runs.seq ?_
    refine Runs.region ?_
    refine WR.seg hE 1 [] [4] (Lo := [(4, .int .i64 (-1))]) (obs := []) rfl (by kernel_rfl) trivial fun a hE => ?_
    refine WR.done rfl ?_
    refine Runs.ret hE Tryz.func166 rfl rfl ?_
    cases hm
    exact ⟨rfl, H⟩
  · replace hm := cond_f c hm
    refine Runs.skip ?_
    refine Runs.seq ?_
    refine Runs.region ?_
    refine WR.seg hE 3 [] [0, 1, 5, 18, 19, 20] (Lo := [(0, .pointer (some ⟨p_a_, 0, none⟩)), (1, .int .i64 c_), (5, .int .i64 t_.1), (18, .pointer (some ⟨p_a_, 0, none⟩)), (19, .int .i64 t_1.1), (20, .int .i64 t_.1)]) (obs := []) rfl (by kernel_rfl) trivial fun a hE => ?_
    obtain ⟨t_2, et_2, hm⟩ := bind_some hm
    refine WR.eff hE rfl rfl rfl rfl (OpTo.fn hE rfl rfl Tryz.call163 (chain_link_ok et_2 H)) ?_
    rintro _ w ⟨rfl, hf, H⟩ a hE
    refine WR.done rfl ?_
    refine Runs.seq ?_
    refine Runs.region ?_
    refine WR.seg hE 3 [] [5, 22, 23, 24] (Lo := [(5, .int .i64 t_.1), (22, .pointer (some ⟨p_a_, 0, none⟩)), (23, .int .i64 c_), (24, .int .i64 c_)]) (obs := []) rfl (by kernel_rfl) trivial fun a hE => ?_
    obtain ⟨t_3, et_3, hm⟩ := bind_some hm
    refine WR.eff hE rfl rfl rfl rfl (OpTo.fn hE rfl rfl Tryz.call163 (chain_link_ok et_3 H)) ?_
    rintro _ w ⟨rfl, hf1, H⟩ a hE
    refine WR.done rfl ?_
    refine Runs.seq ?_
    refine Runs.region ?_
    refine WR.seg hE 2 [] [4] (Lo := [(4, .int .i64 t_.1)]) (obs := []) rfl (by kernel_rfl) trivial fun a hE => ?_
    refine WR.done rfl ?_
    refine Runs.ret hE Tryz.func166 rfl rfl ?_
    cases hm
    exact ⟨rfl, H⟩

theorem fib_unlike_f1_ok {w0 w : World} {As : List HP} {y : fib_ranked} {v_ : Int} {v_1 : Int} {r : Nat} {t : Bool}  (hm : fib_unlike_f1 y v_ v_1 = some t) (H : St w0 (Blk r 151 [.int .i64 v_, .int .i64 v_1] :: As) w) :
    CallsR Tryz.prog 184 #[.agg #[.int .i64 y.n, .int .i64 y.rank], .pointer (some ⟨r, 0, none⟩)] w fun v w' => v = .bool t ∧ St w0 (Blk r 151 [.int .i64 v_, .int .i64 v_1] :: As) w' := by
  rw [fib_unlike_f1] at hm
  refine enter (args := [.agg #[.int .i64 y.n, .int .i64 y.rank], .pointer (some ⟨r, 0, none⟩)]) Tryz.func184 rfl rfl rfl fun a hE => ?_
  refine Runs.seq ?_
  refine Runs.region ?_
  refine WR.eff hE rfl rfl rfl rfl (OpTo.new hE H [] (.cells #[.int .i64 y.n, .int .i64 y.rank] 151 (0, 0)) (fun r => .pointer (some ⟨r, 0, none⟩)) (obs := []) rfl (fun _ => by kernel_rfl) trivial) ?_
  rintro _ w ⟨r1, rfl, H⟩ a hE
  refine WR.seg hE 2 [] [1, 2] (Lo := [(1, .pointer (some ⟨r, 0, none⟩)), (2, .pointer (some ⟨r1, 0, none⟩))]) (obs := []) rfl (by kernel_rfl) trivial fun a hE => ?_
  refine WR.done rfl ?_
  refine Runs.seq ?_
  refine Runs.region ?_
  refine WR.seg hE 6 [.int .i64 y.rank, .int .i64 v_1] [3] (Lo := [(3, .bool (y.rank == v_1))]) (obs := [.cell ⟨r1, 1, none⟩ (.int .i64 y.rank), .cell ⟨r, 1, none⟩ (.int .i64 v_1)]) rfl (by kernel_rfl) ⟨H.cell 0 rfl rfl, H.cell 1 rfl rfl, trivial⟩ fun a hE => ?_
  refine WR.done rfl ?_
  refine Runs.ret hE Tryz.func184 rfl rfl ?_
  cases hm
  exact ⟨rfl, H.x0⟩

theorem slices_IndexFunc_fib_ranked_g184_ok {w0 w : World} {As : List HP} {k : Nat} {sb_s : Option Addr} {sc_s : Nat} {s : List fib_ranked} {X_s : HP} {v_ : Int} {v_1 : Int} {r : Nat} {t : Int} (hX_s : SlRd X_s fib_ranked.enc 2 sb_s s) (hC_s : s.length ≤ sc_s) (hm : slices_IndexFunc_fib_ranked_g184 k s v_ v_1 = some t) (H : St w0 (X_s :: Blk r 151 [.int .i64 v_, .int .i64 v_1] :: As) w) :
    CallsR Tryz.prog 183 #[.slice sb_s s.length sc_s, .func (.func 184) #[] #[.pointer (some ⟨r, 0, none⟩)]] w fun v w' => v = .int .i64 t ∧ St w0 (X_s :: Blk r 151 [.int .i64 v_, .int .i64 v_1] :: As) w' := by
  rw [slices_IndexFunc_fib_ranked_g184] at hm
  refine enter (args := [.slice sb_s s.length sc_s, .func (.func 184) #[] #[.pointer (some ⟨r, 0, none⟩)]]) Tryz.func183 rfl rfl rfl fun a hE => ?_
  refine Runs.seq ?_
  refine Runs.region ?_
  refine WR.seg hE 1 [] [0, 1] (Lo := [(0, .slice sb_s s.length sc_s), (1, .func (.func 184) #[] #[.pointer (some ⟨r, 0, none⟩)])]) (obs := []) rfl (by kernel_rfl) trivial fun a hE => ?_
  refine WR.done rfl ?_
  refine Runs.seq ?_
  refine Runs.seq ?_
  refine Runs.region ?_
  refine WR.seg hE 3 [] [0, 1, 7, 8] (Lo := [(0, .slice sb_s s.length sc_s), (1, .func (.func 184) #[] #[.pointer (some ⟨r, 0, none⟩)]), (7, .int .i64 (s.length : Int)), (8, .int .i64 0)]) (obs := []) rfl (by kernel_rfl) trivial fun a hE => ?_
  refine WR.done rfl ?_
  obtain ⟨s1, es1, hR⟩ := bind_some hm
  refine Runs.join (fun a w => ∃ s2, s1 = Sum.inr s2 ∧ EnvOk 19 a [] ∧ St w0 (X_s :: Blk r 151 [.int .i64 v_, .int .i64 v_1] :: As) w) (fun hk => ?_) ?_
  · replace hm := es1; clear es1
    refine Runs.block ?_
    refine Runs.loop (fun m a w => ∃ (x : Int), EnvOk 19 a [(0, .slice sb_s s.length sc_s), (1, .func (.func 184) #[] #[.pointer (some ⟨r, 0, none⟩)]), (7, .int .i64 (s.length : Int)), (8, .int .i64 x)] ∧ St w0 (X_s :: Blk r 151 [.int .i64 v_, .int .i64 v_1] :: As) w ∧ slices_IndexFunc_fib_ranked_g184_l0 (s.length : Int) s v_ v_1 m x = some s1) k ⟨0, hE.sel [0, 1, 7, 8] (by kernel_rfl), H.t1.t1, hm⟩ ?_
    rintro m ih a w ⟨x, hE, H, hm⟩
    cases m with
    | zero => simp [slices_IndexFunc_fib_ranked_g184_l0] at hm
    | succ m =>
      rw [slices_IndexFunc_fib_ranked_g184_l0] at hm
      refine Runs.seq ?_
      refine Runs.region ?_
      refine WR.seg hE 1 [] [0, 1, 7, 8, 9] (Lo := [(0, .slice sb_s s.length sc_s), (1, .func (.func 184) #[] #[.pointer (some ⟨r, 0, none⟩)]), (7, .int .i64 (s.length : Int)), (8, .int .i64 x), (9, .bool (decide (x < (s.length : Int))))]) (obs := []) rfl (by kernel_rfl) trivial fun a hE => ?_
      refine WR.done rfl ?_
      refine Runs.seq ?_
      refine Runs.cond hE rfl (fun c => ?_) (fun c => ?_)
      · replace hm := cond_t c hm
        refine Runs.skip ?_
        refine Runs.seq ?_
        refine Runs.block ?_
        refine Runs.seq ?_
        refine Runs.region ?_
        refine WR.seg hE 2 [] [0, 1, 5, 7, 8] (Lo := [(0, .slice sb_s s.length sc_s), (1, .func (.func 184) #[] #[.pointer (some ⟨r, 0, none⟩)]), (5, .int .i64 x), (7, .int .i64 (s.length : Int)), (8, .int .i64 x)]) (obs := []) rfl (by kernel_rfl) trivial fun a hE => ?_
        refine WR.done rfl ?_
        refine Runs.seq ?_
        refine Runs.region ?_
        obtain ⟨x2, ex2, hm⟩ := bind_some hm
        obtain ⟨b, o, hs, hb⟩ := SlRd.base hX_s fib_ranked.enc_ok H 0 rfl ex2
        refine WR.seg hE 5 [.pointer (some ⟨b, o, none⟩), .int .i64 x2.n, .int .i64 x2.rank] [0, 1, 5, 7, 8, 11, 15] (Lo := [(0, .slice sb_s s.length sc_s), (1, .func (.func 184) #[] #[.pointer (some ⟨r, 0, none⟩)]), (5, .int .i64 x), (7, .int .i64 (s.length : Int)), (8, .int .i64 x), (11, .func (.func 184) #[] #[.pointer (some ⟨r, 0, none⟩)]), (15, .agg #[.int .i64 x2.n, .int .i64 x2.rank])]) (obs := [.p ((sb_s : Option Addr) = some ⟨b, o, none⟩), .p (0 ≤ (x : Int) ∧ (x : Int) < ((s.length : Nat) : Int)), .cell ⟨b, o + (Int.toNat x) * 2, none⟩ (.int .i64 x2.n), .cell ⟨b, o + (Int.toNat x) * 2 + 1, none⟩ (.int .i64 x2.rank)]) rfl (by kernel_rfl) ⟨hs, hb, SlRd.cells hX_s fib_ranked.enc_ok H 0 rfl hs ex2 0 _ rfl, SlRd.cells hX_s fib_ranked.enc_ok H 0 rfl hs ex2 1 _ rfl, trivial⟩ fun a hE => ?_
        obtain ⟨t_, et_, hm⟩ := bind_some hm
        refine WR.eff hE rfl rfl rfl rfl (OpTo.fv hE rfl rfl rfl Tryz.call184 (fib_unlike_f1_ok et_ H.t1)) ?_
        rintro _ w ⟨rfl, H⟩ a hE
        refine WR.done rfl ?_
        refine Runs.cond hE rfl (fun c => ?_) (fun c => ?_)
        · replace hm := cond_t c hm
          refine Runs.seq ?_
          refine Runs.region ?_
          refine WR.seg hE 2 [] [4] (Lo := [(4, .int .i64 x)]) (obs := []) rfl (by kernel_rfl) trivial fun a hE => ?_
          refine WR.done rfl ?_
          refine Runs.ret hE Tryz.func183 rfl rfl ?_
          cases hm
          dsimp only at hR; cases hR
          exact ⟨rfl, H.t1⟩
        · replace hm := cond_f c hm
          refine Runs.skip ?_
          refine Runs.inBlock ?_
          refine Runs.region ?_
          refine WR.seg hE 2 [] [0, 1, 7, 8] (Lo := [(0, .slice sb_s s.length sc_s), (1, .func (.func 184) #[] #[.pointer (some ⟨r, 0, none⟩)]), (7, .int .i64 (s.length : Int)), (8, .int .i64 (w64 (x + 1)))]) (obs := []) rfl (by kernel_rfl) trivial fun a hE => ?_
          refine WR.done rfl ?_
          exact ih m (Nat.lt_succ_self m) _ _ ⟨w64 (x + 1), hE.sel [0, 1, 7, 8] (by kernel_rfl), H.t1, hm⟩
      · replace hm := cond_f c hm
        refine Runs.exit rfl ?_
        cases hm
        exact hk _ _ ⟨_, rfl, hE.sel [] (by kernel_rfl), H.t1.t1⟩
  rintro a w ⟨s2, rfl, hE, H⟩
  replace hm := hR; dsimp only at hm
  refine Runs.seq ?_
  refine Runs.region ?_
  refine WR.seg hE 1 [] [4] (Lo := [(4, .int .i64 (-1))]) (obs := []) rfl (by kernel_rfl) trivial fun a hE => ?_
  refine WR.done rfl ?_
  refine Runs.ret hE Tryz.func183 rfl rfl ?_
  cases hm
  exact ⟨rfl, H.t1.t1⟩

theorem slices_Delete_fib_ranked_ok {w0 w : World} {As : List HP} {sb_s : Option Addr} {sc_s : Nat} {s : List fib_ranked} {i j : Int} {t : List fib_ranked} (hm : lDelete s i j = some t) (H : St w0 (Sl 151 fib_ranked.enc 2 sb_s sc_s s :: As) w) :
    CallsR Tryz.prog 185 #[.slice sb_s s.length sc_s, .int .i64 i, .int .i64 j] w fun u w' => ∃ (sb0 : Option Addr) (sc0 : Nat), u = .slice sb0 t.length sc0 ∧ St w0 (Sl 151 fib_ranked.enc 2 sb0 sc0 t :: As) w' := by
  unfold lDelete at hm
  split at hm
  · rename_i hI
    cases hm
    obtain ⟨h0, hij, hjn, hmx⟩ := hI
    obtain ⟨p, rfl⟩ := Int.eq_ofNat_of_zero_le h0
    obtain ⟨q, rfl⟩ := Int.eq_ofNat_of_zero_le (show 0 ≤ j by omega)
    have hpq : p ≤ q := by omega
    have hqn : q ≤ s.length := by omega
    have he := fib_ranked.enc_ok
    have hcs := (H.slCap 0 rfl)
    simp only [Int.toNat_natCast]
    refine enter (args := [.slice sb_s s.length sc_s, .int .i64 (p : Int), .int .i64 (q : Int)]) Tryz.func185 rfl rfl rfl fun a hE => ?_
    refine Runs.seq ?_
    refine Runs.region ?_
    refine WR.seg hE 1 [] [0, 1, 2] (Lo := [(0, .slice sb_s s.length sc_s), (1, .int .i64 (p : Int)), (2, .int .i64 (q : Int))]) (obs := []) rfl (by kernel_rfl) trivial fun a hE => ?_
    refine WR.done rfl ?_
    refine Runs.seq ?_
    refine Runs.region ?_
    refine WR.seg hE 5 [] [0, 1, 2, 8, 9, 10, 12] (Lo := [(0, .slice sb_s s.length sc_s), (1, .int .i64 (p : Int)), (2, .int .i64 (q : Int)), (8, .slice sb_s s.length sc_s), (9, .int .i64 (p : Int)), (10, .int .i64 (q : Int)), (12, .int .i64 (s.length : Int))]) (obs := []) rfl (by kernel_rfl) trivial fun a hE => ?_
    refine WR.eff hE rfl rfl rfl rfl (OpTo.slice3 hE rfl rfl rfl rfl rfl rfl rfl ⟨h0, by omega⟩ hjn (by omega) (by have := hcs.2; unfold maxLen at this; omega)) ?_
    rintro v w' rfl a hE
    refine WR.done rfl ?_
    replace hE := hE.sel [0, 1, 2] (Lo := [(0, .slice sb_s s.length sc_s), (1, .int .i64 (p : Int)), (2, .int .i64 (q : Int))]) (by kernel_rfl)
    refine Runs.seq ?_
    refine Runs.seq ?_
    refine Runs.region ?_
    refine WR.seg hE 3 [] [0, 1, 2, 16] (Lo := [(0, .slice sb_s s.length sc_s), (1, .int .i64 (p : Int)), (2, .int .i64 (q : Int)), (16, .bool ((p : Int) == (q : Int)))]) (obs := []) rfl (by kernel_rfl) trivial fun a hE => ?_
    refine WR.done rfl ?_
    refine Runs.cond hE rfl (fun c => ?_) (fun c => ?_)
    · have hpe : p = q := by have := c; simp at this; omega
      refine Runs.seq ?_
      refine Runs.region ?_
      refine WR.seg hE 2 [] [6] (Lo := [(6, .slice sb_s s.length sc_s)]) (obs := []) rfl (by kernel_rfl) trivial fun a hE => ?_
      refine WR.done rfl ?_
      refine Runs.ret hE Tryz.func185 rfl rfl ?_
      subst hpe
      rw [List.take_append_drop]
      exact ⟨_, _, rfl, H⟩
    · have hlt : p < q := by have := c; simp at this; omega
      refine Runs.skip ?_
      refine Runs.seq ?_
      refine Runs.region ?_
      refine WR.seg hE 3 [] [0, 1, 2, 7] (Lo := [(0, .slice sb_s s.length sc_s), (1, .int .i64 (p : Int)), (2, .int .i64 (q : Int)), (7, .int .i64 (s.length : Int))]) (obs := []) rfl (by kernel_rfl) trivial fun a hE => ?_
      refine WR.done rfl ?_
      have hrb : rebase sb_s sc_s 0 2 = sb_s := by
        unfold rebase
        split
        · rfl
        · cases sb_s <;> simp [Addr.add]
      refine Runs.seq ?_
      refine Runs.drawn mixed (by kernel_rfl) ?_
      replace H := H.drew
      refine WQ.seg hE [0, 1, 2, 3, 4, 5] [.slice sb_s p sc_s, .slice (rebase sb_s sc_s q 2) (s.length - q) (sc_s - q)] [7, 22, 25] (Lo := [(7, .int .i64 (s.length : Int)), (22, .slice sb_s p sc_s), (25, .slice (rebase sb_s sc_s q 2) (s.length - q) (sc_s - q))])
        (obs := [.p (rebase sb_s sc_s 0 2 = sb_s), .p (p - 0 = p), .p (sc_s - 0 = sc_s), .p (0 ≤ (p : Int) ∧ (p : Int) ≤ (sc_s : Int)), .p (rebase sb_s sc_s q 2 = rebase sb_s sc_s q 2), .p (s.length - q = s.length - q), .p (sc_s - q = sc_s - q), .p (0 ≤ (q : Int) ∧ (q : Int) ≤ (s.length : Int))]) (by kernel_rfl) (by kernel_rfl)
        ⟨hrb, rfl, rfl, ⟨h0, by omega⟩, rfl, rfl, rfl, ⟨by omega, hjn⟩, trivial⟩ fun a hE => ?_
      refine WQ.eff (j := 6) (obs := []) hE (by kernel_rfl) rfl rfl rfl rfl (by kernel_rfl) (OpTo.appendSelf hE H he rfl hpq hqn (by omega) rfl rfl rfl rfl rfl rfl rfl) ?_
      rintro _ w ⟨rfl, H⟩
      refine ⟨trivial, fun a hE => ?_⟩
      refine WQ.seg hE [7] [] [0, 7] (Lo := [(0, .slice sb_s (p + (s.length - q)) sc_s), (7, .int .i64 (s.length : Int))]) (obs := []) (by kernel_rfl) (by kernel_rfl) trivial fun a hE => ?_
      refine WQ.done (by kernel_rfl) ?_
      obtain ⟨l1, hl1⟩ : ∃ l1, s.take p ++ (s.drop q ++ s.drop (p + (s.length - q))) = l1 := ⟨_, rfl⟩
      have hln : l1.length = s.length := by rw [← hl1]; simp; omega
      have htk : l1.take (p + (s.length - q)) = s.take p ++ s.drop q := by
        rw [← hl1, ← List.append_assoc]
        exact List.take_left' (by simp; omega)
      rw [hl1] at H
      obtain ⟨r, hr⟩ : ∃ r, mCut l1 ((p + (s.length - q) : Nat) : Int) (l1.length : Int) = some r := by
        unfold mCut
        rw [if_pos ⟨by omega, by omega, by omega⟩]
        exact ⟨_, rfl⟩
      have hrl := cut_len hr
      simp only [Int.toNat_natCast, hln] at hrl
      refine Runs.seq ?_
      refine Runs.region ?_
      refine WR.seg hE 5 [.slice (rebase sb_s sc_s (p + (s.length - q)) 2) r.length (sc_s - (p + (s.length - q)))] [0, 31] (Lo := [(0, .slice sb_s (p + (s.length - q)) sc_s), (31, .slice (rebase sb_s sc_s (p + (s.length - q)) 2) r.length (sc_s - (p + (s.length - q))))])
        (obs := [.p (rebase sb_s sc_s (p + (s.length - q)) 2 = rebase sb_s sc_s (p + (s.length - q)) 2), .p (s.length - (p + (s.length - q)) = r.length), .p (sc_s - (p + (s.length - q)) = sc_s - (p + (s.length - q))), .p (0 ≤ (s.length : Int) ∧ (s.length : Int) ≤ (sc_s : Int)), .p (0 ≤ ((p + (s.length - q) : Nat) : Int) ∧ ((p + (s.length - q) : Nat) : Int) ≤ (s.length : Int))]) rfl (by kernel_rfl)
        ⟨rfl, hrl, rfl, ⟨by omega, by omega⟩, ⟨by omega, by omega⟩, trivial⟩ fun a hE => ?_
      refine WR.eff0 hE rfl rfl rfl (OpTo.clearSl (z := (fib_ranked.mk 0 0)) (lo := ((p + (s.length - q) : Nat) : Int)) hE H he hr rfl rfl rfl rfl rfl rfl rfl rfl) ?_
      rintro _ w ⟨_, H⟩ a hE
      refine WR.done rfl ?_
      have hml : (mClear l1 ((p + (s.length - q) : Nat) : Int) (fib_ranked.mk 0 0)).length = s.length := by
        unfold mClear
        simp; omega
      have hmt : (mClear l1 ((p + (s.length - q) : Nat) : Int) (fib_ranked.mk 0 0)).take (p + (s.length - q)) = s.take p ++ s.drop q := by
        unfold mClear
        rw [Int.toNat_natCast, List.take_append_of_le_length (by simp; omega), List.take_take, Nat.min_self, htk]
      have hcut : mCut (mClear l1 ((p + (s.length - q) : Nat) : Int) (fib_ranked.mk 0 0)) 0 ((p + (s.length - q) : Nat) : Int) = some (s.take p ++ s.drop q) := by
        unfold mCut
        rw [if_pos ⟨by omega, by omega, by rw [hml]; omega⟩, Int.toNat_natCast, hmt]
        rfl
      have H3 := H.slCut' he hcut hrb (Nat.sub_zero sc_s)
      refine Runs.seq ?_
      refine Runs.region ?_
      refine WR.seg hE 2 [] [6] (Lo := [(6, .slice sb_s (p + (s.length - q)) sc_s)]) (obs := []) rfl (by kernel_rfl) trivial fun a hE => ?_
      refine WR.done rfl ?_
      refine Runs.ret hE Tryz.func185 rfl rfl ?_
      refine ⟨sb_s, sc_s, ?_, H3⟩
      have : (s.take p ++ s.drop q).length = p + (s.length - q) := by simp; omega
      rw [this]; rfl
  · cases hm

theorem fib_under_ok {w0 w : World} {As : List HP} {p_a_ : Nat} {al_a_ : arena_Arena.A} {a_ : arena_Arena} {n : Int} {up : Int} {t : arena_Arena}  (hm : fib_under a_ n up = some t) (H : St w0 (arena_Arena.R p_a_ al_a_ a_ :: As) w) :
    CallsR Tryz.prog 186 #[.pointer (some ⟨p_a_, 0, none⟩), .int .i64 n, .int .i64 up] w fun v w' => v = .tuple #[] ∧ St w0 (arena_Arena.R p_a_ al_a_ t :: As) w' := by
  rw [fib_under] at hm
  refine enter (args := [.pointer (some ⟨p_a_, 0, none⟩), .int .i64 n, .int .i64 up]) Tryz.func186 rfl rfl rfl fun a hE => ?_
  refine Runs.seq ?_
  refine Runs.region ?_
  refine WR.seg hE 2 [] [0, 1, 2, 7, 8] (Lo := [(0, .pointer (some ⟨p_a_, 0, none⟩)), (1, .int .i64 n), (2, .int .i64 up), (7, .pointer (some ⟨p_a_, 0, none⟩)), (8, .int .i64 n)]) (obs := []) rfl (by kernel_rfl) trivial fun a hE => ?_
  obtain ⟨t_, et_, hm⟩ := bind_some hm
  refine WR.eff hE rfl rfl rfl rfl (OpTo.fn hE rfl rfl Tryz.call135 (chain_One_ok et_ H)) ?_
  rintro _ w ⟨rfl, hf, H⟩ a hE
  refine WR.done rfl ?_
  refine Runs.seq ?_
  refine Runs.seq ?_
  refine Runs.region ?_
  refine WR.seg hE 2 [] [0, 1, 2, 10, 11] (Lo := [(0, .pointer (some ⟨p_a_, 0, none⟩)), (1, .int .i64 n), (2, .int .i64 up), (10, .pointer (some ⟨p_a_, 0, none⟩)), (11, .int .i64 up)]) (obs := []) rfl (by kernel_rfl) trivial fun a hE => ?_
  obtain ⟨t_1, et_1, hm⟩ := bind_some hm
  refine WR.eff hE rfl rfl rfl rfl (OpTo.fn hE rfl rfl Tryz.call73 (arena_Arena_Cell_ok et_1 H)) ?_
  rintro _ w ⟨rfl, H⟩ a hE
  refine WR.seg hE 4 [] [0, 1, 2, 6] (Lo := [(0, .pointer (some ⟨p_a_, 0, none⟩)), (1, .int .i64 n), (2, .int .i64 up), (6, .int .i64 t_1.1)]) (obs := []) rfl (by kernel_rfl) trivial fun a hE => ?_
  refine WR.done rfl ?_
  refine Runs.seq ?_
  refine Runs.region ?_
  refine WR.seg hE 2 [] [0, 1, 2, 6, 14] (Lo := [(0, .pointer (some ⟨p_a_, 0, none⟩)), (1, .int .i64 n), (2, .int .i64 up), (6, .int .i64 t_1.1), (14, .bool (t_1.1 == (-1)))]) (obs := []) rfl (by kernel_rfl) trivial fun a hE => ?_
  refine WR.done rfl ?_
  obtain ⟨s, es, hm⟩ := bind_some hm
  refine Runs.join (fun a w => EnvOk 30 a [(0, .pointer (some ⟨p_a_, 0, none⟩)), (1, .int .i64 n), (2, .int .i64 up)] ∧ St w0 (arena_Arena.R p_a_ al_a_ s :: As) w) (fun hk => ?_) ?_
  · replace hm := es; clear es
    refine Runs.cond hE rfl (fun c => ?_) (fun c => ?_)
    · replace hm := cond_t c hm
      refine Runs.region ?_
      refine WR.seg hE 3 [] [0, 1, 2, 15, 16, 17] (Lo := [(0, .pointer (some ⟨p_a_, 0, none⟩)), (1, .int .i64 n), (2, .int .i64 up), (15, .pointer (some ⟨p_a_, 0, none⟩)), (16, .int .i64 up), (17, .int .i64 n)]) (obs := []) rfl (by kernel_rfl) trivial fun a hE => ?_
      obtain ⟨t_2, et_2, hm⟩ := bind_some hm
      refine WR.eff hE rfl rfl rfl rfl (OpTo.fn hE rfl rfl Tryz.call53 (arena_Arena_Set_ok et_2 H)) ?_
      rintro _ w ⟨rfl, hf1, H⟩ a hE
      refine WR.done rfl ?_
      cases hm
      exact hk _ _ ⟨hE.sel [0, 1, 2] (by kernel_rfl), H⟩
    · replace hm := cond_f c hm
      refine Runs.region ?_
      refine WR.seg hE 3 [] [0, 1, 2, 19, 20, 21] (Lo := [(0, .pointer (some ⟨p_a_, 0, none⟩)), (1, .int .i64 n), (2, .int .i64 up), (19, .pointer (some ⟨p_a_, 0, none⟩)), (20, .int .i64 t_1.1), (21, .int .i64 n)]) (obs := []) rfl (by kernel_rfl) trivial fun a hE => ?_
      obtain ⟨t_3, et_3, hm⟩ := bind_some hm
      refine WR.eff hE rfl rfl rfl rfl (OpTo.fn hE rfl rfl Tryz.call136 (chain_Put_ok et_3 H)) ?_
      rintro _ w ⟨rfl, H⟩ a hE
      refine WR.done rfl ?_
      cases hm
      exact hk _ _ ⟨hE.sel [0, 1, 2] (by kernel_rfl), H⟩
  rintro a w ⟨hE, H⟩
  refine Runs.seq ?_
  refine Runs.region ?_
  refine WR.seg hE 3 [] [0, 1, 23, 24, 25] (Lo := [(0, .pointer (some ⟨p_a_, 0, none⟩)), (1, .int .i64 n), (23, .pointer (some ⟨p_a_, 0, none⟩)), (24, .int .i64 n), (25, .int .i64 up)]) (obs := []) rfl (by kernel_rfl) trivial fun a hE => ?_
  obtain ⟨t_4, et_4, hm⟩ := bind_some hm
  refine WR.eff hE rfl rfl rfl rfl (OpTo.fn hE rfl rfl Tryz.call53 (arena_Arena_Set_ok et_4 H)) ?_
  rintro _ w ⟨rfl, hf2, H⟩ a hE
  refine WR.done rfl ?_
  refine Runs.region ?_
  refine WR.seg hE 2 [] [27, 28] (Lo := [(27, .pointer (some ⟨p_a_, 0, none⟩)), (28, .int .i64 n)]) (obs := []) rfl (by kernel_rfl) trivial fun a hE => ?_
  obtain ⟨t_5, et_5, hm⟩ := bind_some hm
  refine WR.eff hE rfl rfl rfl rfl (OpTo.fn hE rfl rfl Tryz.call53 (arena_Arena_Set_ok et_5 H)) ?_
  rintro _ w ⟨rfl, hf3, H⟩ a hE
  refine WR.done rfl ?_
  refine Runs.fin hE Tryz.func186 rfl rfl ?_
  cases hm
  exact ⟨rfl, H⟩

theorem fib_unlike_ok {w0 w : World} {As : List HP} {k : Nat} {p_a_ : Nat} {al_a_ : arena_Arena.A} {a_ : arena_Arena} {sb_l : Option Addr} {sc_l : Nat} {l : List Int} {X_l : HP} {t : Int × arena_Arena} (hX_l : SlRd X_l ecI 1 sb_l l) (hC_l : l.length ≤ sc_l) (hm : fib_unlike k a_ l = some t) (H : St w0 (arena_Arena.R p_a_ al_a_ a_ :: X_l :: As) w) :
    CallsR Tryz.prog 167 #[.pointer (some ⟨p_a_, 0, none⟩), .slice sb_l l.length sc_l] w fun v w' => v = .int .i64 t.1 ∧ St w0 (arena_Arena.R p_a_ al_a_ t.2 :: X_l :: As) w' := by
  rw [fib_unlike] at hm
  refine enter (args := [.pointer (some ⟨p_a_, 0, none⟩), .slice sb_l l.length sc_l]) Tryz.func167 rfl rfl rfl fun a hE => ?_
  refine Runs.seq ?_
  refine Runs.region ?_
  refine WR.seg hE 1 [] [0, 1] (Lo := [(0, .pointer (some ⟨p_a_, 0, none⟩)), (1, .slice sb_l l.length sc_l)]) (obs := []) rfl (by kernel_rfl) trivial fun a hE => ?_
  refine WR.done rfl ?_
  refine Runs.seq ?_
  refine Runs.region ?_
  refine WR.seg hE 1 [] [0, 1, 5] (Lo := [(0, .pointer (some ⟨p_a_, 0, none⟩)), (1, .slice sb_l l.length sc_l), (5, .slice none 0 0)]) (obs := []) rfl (by kernel_rfl) trivial fun a hE => ?_
  refine WR.done rfl ?_
  refine Runs.seq ?_
  refine Runs.seq ?_
  refine Runs.region ?_
  refine WR.seg hE 3 [] [0, 5, 15, 16, 17] (Lo := [(0, .pointer (some ⟨p_a_, 0, none⟩)), (5, .slice none 0 0), (15, .slice sb_l l.length sc_l), (16, .int .i64 (l.length : Int)), (17, .int .i64 0)]) (obs := []) rfl (by kernel_rfl) trivial fun a hE => ?_
  refine WR.done rfl ?_
  obtain ⟨s, es, hm⟩ := bind_some hm
  refine Runs.join (fun a w => ∃ (sb1 : Option Addr), ∃ (sc1 : Nat), EnvOk 98 a [(0, .pointer (some ⟨p_a_, 0, none⟩)), (5, .slice sb1 s.1.length sc1)] ∧ St w0 (Sl 151 fib_ranked.enc 2 sb1 sc1 s.1 :: arena_Arena.R p_a_ al_a_ s.2 :: X_l :: As) w) (fun hk => ?_) ?_
  · replace hm := es; clear es
    replace H := H.slNil 151 fib_ranked.enc 2
    refine Runs.block ?_
    refine Runs.loop (fun m a w => ∃ (by_ : List fib_ranked), ∃ (x : Int), ∃ (m_ : arena_Arena), ∃ (sb2 : Option Addr), ∃ (sc2 : Nat), EnvOk 98 a [(0, .pointer (some ⟨p_a_, 0, none⟩)), (5, .slice sb2 by_.length sc2), (15, .slice sb_l l.length sc_l), (16, .int .i64 (l.length : Int)), (17, .int .i64 x)] ∧ St w0 (Sl 151 fib_ranked.enc 2 sb2 sc2 by_ :: arena_Arena.R p_a_ al_a_ m_ :: X_l :: As) w ∧ fib_unlike_l0 (l.length : Int) l m by_ x m_ = some s) k ⟨([] : List fib_ranked), 0, a_, none, 0, hE.sel [0, 5, 15, 16, 17] (by kernel_rfl), H.t2.t2.t2, hm⟩ ?_
    rintro m ih a w ⟨by_, x, m_, sb2, sc2, hE, H, hm⟩
    cases m with
    | zero => simp [fib_unlike_l0] at hm
    | succ m =>
      rw [fib_unlike_l0] at hm
      refine Runs.seq ?_
      refine Runs.region ?_
      refine WR.seg hE 1 [] [0, 5, 15, 16, 17, 18] (Lo := [(0, .pointer (some ⟨p_a_, 0, none⟩)), (5, .slice sb2 by_.length sc2), (15, .slice sb_l l.length sc_l), (16, .int .i64 (l.length : Int)), (17, .int .i64 x), (18, .bool (decide (x < (l.length : Int))))]) (obs := []) rfl (by kernel_rfl) trivial fun a hE => ?_
      refine WR.done rfl ?_
      refine Runs.seq ?_
      refine Runs.cond hE rfl (fun c => ?_) (fun c => ?_)
      · replace hm := cond_t c hm
        refine Runs.skip ?_
        refine Runs.seq ?_
        refine Runs.block ?_
        refine Runs.seq ?_
        refine Runs.region ?_
        obtain ⟨x2, ex2, hm⟩ := bind_some hm
        obtain ⟨b, o, hs, hb⟩ := SlRd.base hX_l ecI_ok H 2 rfl ex2
        refine WR.seg hE 3 [.pointer (some ⟨b, o, none⟩), .int .i64 x2] [0, 5, 7, 15, 16, 17] (Lo := [(0, .pointer (some ⟨p_a_, 0, none⟩)), (5, .slice sb2 by_.length sc2), (7, .int .i64 x2), (15, .slice sb_l l.length sc_l), (16, .int .i64 (l.length : Int)), (17, .int .i64 x)]) (obs := [.p ((sb_l : Option Addr) = some ⟨b, o, none⟩), .p (0 ≤ (x : Int) ∧ (x : Int) < ((l.length : Nat) : Int)), .cell ⟨b, o + (Int.toNat x) * 1, none⟩ (.int .i64 x2)]) rfl (by kernel_rfl) ⟨hs, hb, SlRd.cells hX_l ecI_ok H 2 rfl hs ex2 0 _ rfl, trivial⟩ fun a hE => ?_
        refine WR.done rfl ?_
        refine Runs.seq ?_
        refine Runs.region ?_
        refine WR.seg hE 3 [] [0, 5, 15, 16, 17, 21, 22, 23] (Lo := [(0, .pointer (some ⟨p_a_, 0, none⟩)), (5, .slice sb2 by_.length sc2), (15, .slice sb_l l.length sc_l), (16, .int .i64 (l.length : Int)), (17, .int .i64 x), (21, .int .i64 x2), (22, .pointer (some ⟨p_a_, 0, none⟩)), (23, .int .i64 x2)]) (obs := []) rfl (by kernel_rfl) trivial fun a hE => ?_
        obtain ⟨t_, et_, hm⟩ := bind_some hm
        refine WR.eff hE rfl rfl rfl rfl (OpTo.fn hE rfl rfl Tryz.call61 (arena_Arena_Get_ok et_ H.t1)) ?_
        rintro _ w ⟨rfl, hf1, hf, H⟩ a hE
        refine WR.seg hE 5 [] [0, 5, 15, 16, 17, 25] (Lo := [(0, .pointer (some ⟨p_a_, 0, none⟩)), (5, .slice sb2 by_.length sc2), (15, .slice sb_l l.length sc_l), (16, .int .i64 (l.length : Int)), (17, .int .i64 x), (25, .agg #[.int .i64 x2, .int .i64 t_.1])]) (obs := []) rfl (by kernel_rfl) trivial fun a hE => ?_
        refine WR.eff hE rfl rfl rfl rfl (OpTo.new hE H [] (.cells #[.int .i64 0, .int .i64 0] 151 (0, 0)) (fun r => .pointer (some ⟨r, 0, none⟩)) (obs := []) rfl (fun _ => by kernel_rfl) trivial) ?_
        rintro _ w ⟨r, rfl, H⟩ a hE
        refine WR.eff0 hE rfl rfl rfl (OpTo.store hE H rfl rfl rfl rfl rfl rfl (Nat.le_of_ble_eq_true rfl)) ?_
        rintro _ w H a hE
        refine WR.done rfl ?_
        refine Runs.seq ?_
        obtain ⟨s1, es1, hm⟩ := bind_some hm
        refine Runs.join (fun a w => ∃ (sb4 : Option Addr), ∃ (sc4 : Nat), EnvOk 98 a [(0, .pointer (some ⟨p_a_, 0, none⟩)), (5, .slice sb4 s1.1.length sc4), (8, .pointer (some ⟨r, 0, none⟩)), (15, .slice sb_l l.length sc_l), (16, .int .i64 (l.length : Int)), (17, .int .i64 x)] ∧ St w0 (Sl 151 fib_ranked.enc 2 sb4 sc4 s1.1 :: Blk r 151 [.int .i64 s1.2.1, .int .i64 s1.2.2.1] :: arena_Arena.R p_a_ al_a_ s1.2.2.2 :: X_l :: As) w) (fun hk => ?_) ?_
        · replace hm := es1; clear es1
          refine Runs.block ?_
          refine Runs.loop (fun m a w => ∃ (by_1 : List fib_ranked), ∃ (v_ : Int), ∃ (v_1 : Int), ∃ (m_1 : arena_Arena), ∃ (sb5 : Option Addr), ∃ (sc5 : Nat), EnvOk 98 a [(0, .pointer (some ⟨p_a_, 0, none⟩)), (5, .slice sb5 by_1.length sc5), (8, .pointer (some ⟨r, 0, none⟩)), (15, .slice sb_l l.length sc_l), (16, .int .i64 (l.length : Int)), (17, .int .i64 x)] ∧ St w0 (Sl 151 fib_ranked.enc 2 sb5 sc5 by_1 :: Blk r 151 [.int .i64 v_, .int .i64 v_1] :: arena_Arena.R p_a_ al_a_ m_1 :: X_l :: As) w ∧ fib_unlike_l1 (l.length : Int) x l m by_1 v_ v_1 m_1 = some s1) m ⟨by_, x2, t_.1, t_.2, sb2, sc2, hE.sel [0, 5, 8, 15, 16, 17] (by kernel_rfl), H.t3.t2.t2.t3, hm⟩ ?_
          rintro m ih a w ⟨by_1, v_, v_1, m_1, sb5, sc5, hE, H, hm⟩
          cases m with
          | zero => simp [fib_unlike_l1] at hm
          | succ m =>
            rw [fib_unlike_l1] at hm
            refine Runs.block ?_
            refine Runs.seq ?_
            refine Runs.region ?_
            refine WR.seg hE 2 [] [0, 5, 8, 15, 16, 17, 26, 27] (Lo := [(0, .pointer (some ⟨p_a_, 0, none⟩)), (5, .slice sb5 by_1.length sc5), (8, .pointer (some ⟨r, 0, none⟩)), (15, .slice sb_l l.length sc_l), (16, .int .i64 (l.length : Int)), (17, .int .i64 x), (26, .slice sb5 by_1.length sc5), (27, .func (.func 184) #[] #[.pointer (some ⟨r, 0, none⟩)])]) (obs := []) rfl (by kernel_rfl) trivial fun a hE => ?_
            obtain ⟨t_1, et_1, hm⟩ := bind_some hm
            replace H := H.t1.t1
            refine WR.eff hE rfl rfl rfl rfl (OpTo.fn hE rfl rfl Tryz.call183 (slices_IndexFunc_fib_ranked_g184_ok (hX_s := (sl_rd 151 fib_ranked.enc 2 _ _ _)) (hC_s := (H.slCap 0 rfl).1) et_1 H)) ?_
            rintro _ w ⟨rfl, H⟩ a hE
            refine WR.seg hE 4 [] [0, 5, 8, 9, 15, 16, 17] (Lo := [(0, .pointer (some ⟨p_a_, 0, none⟩)), (5, .slice sb5 by_1.length sc5), (8, .pointer (some ⟨r, 0, none⟩)), (9, .int .i64 t_1), (15, .slice sb_l l.length sc_l), (16, .int .i64 (l.length : Int)), (17, .int .i64 x)]) (obs := []) rfl (by kernel_rfl) trivial fun a hE => ?_
            refine WR.done rfl ?_
            refine Runs.seq ?_
            refine Runs.seq ?_
            refine Runs.region ?_
            refine WR.seg hE 2 [] [0, 5, 8, 9, 15, 16, 17, 30] (Lo := [(0, .pointer (some ⟨p_a_, 0, none⟩)), (5, .slice sb5 by_1.length sc5), (8, .pointer (some ⟨r, 0, none⟩)), (9, .int .i64 t_1), (15, .slice sb_l l.length sc_l), (16, .int .i64 (l.length : Int)), (17, .int .i64 x), (30, .bool (decide (t_1 < 0)))]) (obs := []) rfl (by kernel_rfl) trivial fun a hE => ?_
            refine WR.done rfl ?_
            refine Runs.cond hE rfl (fun c => ?_) (fun c => ?_)
            · replace hm := cond_t c hm
              refine Runs.exit rfl ?_
              cases hm
              exact hk _ _ ⟨sb5, sc5, hE.sel [0, 5, 8, 15, 16, 17] (by kernel_rfl), H.t3.t3.t3.t3⟩
            · replace hm := cond_f c hm
              refine Runs.skip ?_
              refine Runs.seq ?_
              refine Runs.drawn mixed (by kernel_rfl) ?_
              replace H := H.drew
              obtain ⟨x5, ex5, hm⟩ := bind_some hm
              obtain ⟨b1, o1, hs1, hb1⟩ := SlRd.base (sl_rd 151 fib_ranked.enc 2 _ _ _) fib_ranked.enc_ok H 0 rfl ex5
              refine WQ.seg hE [0, 1, 2, 3, 4, 5, 6, 7, 8] [.pointer (some ⟨b1, o1, none⟩), .int .i64 x5.n, .int .i64 v_] [0, 5, 8, 9, 10, 11, 15, 16, 17] (Lo := [(0, .pointer (some ⟨p_a_, 0, none⟩)), (5, .slice sb5 by_1.length sc5), (8, .pointer (some ⟨r, 0, none⟩)), (9, .int .i64 t_1), (10, .int .i64 x5.n), (11, .int .i64 v_), (15, .slice sb_l l.length sc_l), (16, .int .i64 (l.length : Int)), (17, .int .i64 x)]) (obs := [.p ((sb5 : Option Addr) = some ⟨b1, o1, none⟩), .p (0 ≤ (t_1 : Int) ∧ (t_1 : Int) < ((by_1.length : Nat) : Int)), .cell ⟨b1, o1 + (Int.toNat t_1) * 2, none⟩ (.int .i64 x5.n), .cell ⟨r, 0, none⟩ (.int .i64 v_)]) (by kernel_rfl) (by kernel_rfl) ⟨hs1, hb1, SlRd.cells (sl_rd 151 fib_ranked.enc 2 _ _ _) fib_ranked.enc_ok H 0 rfl hs1 ex5 0 _ rfl, H.cell 1 rfl rfl, trivial⟩ fun a hE => ?_
              refine WQ.done (by kernel_rfl) ?_
              refine Runs.seq ?_
              refine Runs.region ?_
              refine WR.seg hE 4 [] [0, 5, 8, 10, 11, 15, 16, 17, 38, 39, 41] (Lo := [(0, .pointer (some ⟨p_a_, 0, none⟩)), (5, .slice sb5 by_1.length sc5), (8, .pointer (some ⟨r, 0, none⟩)), (10, .int .i64 x5.n), (11, .int .i64 v_), (15, .slice sb_l l.length sc_l), (16, .int .i64 (l.length : Int)), (17, .int .i64 x), (38, .slice sb5 by_1.length sc5), (39, .int .i64 t_1), (41, .int .i64 (w64 (t_1 + 1)))]) (obs := []) rfl (by kernel_rfl) trivial fun a hE => ?_
              obtain ⟨t_2, et_2, hm⟩ := bind_some hm
              refine WR.eff hE rfl rfl rfl rfl (OpTo.fn hE rfl rfl Tryz.call185 (slices_Delete_fib_ranked_ok et_2 H)) ?_
              rintro _ w ⟨sb6, sc6, rfl, H⟩ a hE
              refine WR.seg hE 6 [] [0, 5, 8, 10, 11, 15, 16, 17] (Lo := [(0, .pointer (some ⟨p_a_, 0, none⟩)), (5, .slice sb6 t_2.length sc6), (8, .pointer (some ⟨r, 0, none⟩)), (10, .int .i64 x5.n), (11, .int .i64 v_), (15, .slice sb_l l.length sc_l), (16, .int .i64 (l.length : Int)), (17, .int .i64 x)]) (obs := []) rfl (by kernel_rfl) trivial fun a hE => ?_
              refine WR.done rfl ?_
              refine Runs.seq ?_
              refine Runs.seq ?_
              refine Runs.region ?_
              refine WR.seg hE 3 [] [0, 5, 8, 10, 11, 15, 16, 17, 43, 44, 45] (Lo := [(0, .pointer (some ⟨p_a_, 0, none⟩)), (5, .slice sb6 t_2.length sc6), (8, .pointer (some ⟨r, 0, none⟩)), (10, .int .i64 x5.n), (11, .int .i64 v_), (15, .slice sb_l l.length sc_l), (16, .int .i64 (l.length : Int)), (17, .int .i64 x), (43, .pointer (some ⟨p_a_, 0, none⟩)), (44, .int .i64 v_), (45, .int .i64 x5.n)]) (obs := []) rfl (by kernel_rfl) trivial fun a hE => ?_
              obtain ⟨t_3, et_3, hm⟩ := bind_some hm
              refine WR.eff hE rfl rfl rfl rfl (OpTo.fn hE rfl rfl Tryz.call124 (node_Before_ok et_3 H.t2)) ?_
              rintro _ w ⟨rfl, H⟩ a hE
              refine WR.done rfl ?_
              obtain ⟨s2, es2, hm⟩ := bind_some hm
              refine Runs.join (fun a w => EnvOk 98 a [(0, .pointer (some ⟨p_a_, 0, none⟩)), (5, .slice sb6 t_2.length sc6), (8, .pointer (some ⟨r, 0, none⟩)), (10, .int .i64 s2.1), (11, .int .i64 s2.2), (15, .slice sb_l l.length sc_l), (16, .int .i64 (l.length : Int)), (17, .int .i64 x)] ∧ St w0 (arena_Arena.R p_a_ al_a_ t_3.2 :: Sl 151 fib_ranked.enc 2 sb6 sc6 t_2 :: Blk r 151 [.int .i64 v_, .int .i64 v_1] :: X_l :: As) w) (fun hk => ?_) ?_
              · replace hm := es2; clear es2
                refine Runs.cond hE rfl (fun c => ?_) (fun c => ?_)
                · replace hm := cond_t c hm
                  refine Runs.region ?_
                  refine WR.seg hE 4 [] [0, 5, 8, 10, 11, 15, 16, 17] (Lo := [(0, .pointer (some ⟨p_a_, 0, none⟩)), (5, .slice sb6 t_2.length sc6), (8, .pointer (some ⟨r, 0, none⟩)), (10, .int .i64 v_), (11, .int .i64 x5.n), (15, .slice sb_l l.length sc_l), (16, .int .i64 (l.length : Int)), (17, .int .i64 x)]) (obs := []) rfl (by kernel_rfl) trivial fun a hE => ?_
                  refine WR.done rfl ?_
                  cases hm
                  exact hk _ _ ⟨hE.sel [0, 5, 8, 10, 11, 15, 16, 17] (by kernel_rfl), H.t3.t3.t3.t3⟩
                · replace hm := cond_f c hm
                  refine Runs.skip ?_
                  cases hm
                  exact hk _ _ ⟨hE.sel [0, 5, 8, 10, 11, 15, 16, 17] (by kernel_rfl), H.t3.t3.t3.t3⟩
              rintro a w ⟨hE, H⟩
              refine Runs.seq ?_
              refine Runs.region ?_
              refine WR.seg hE 3 [] [0, 5, 8, 10, 15, 16, 17, 49, 50, 51] (Lo := [(0, .pointer (some ⟨p_a_, 0, none⟩)), (5, .slice sb6 t_2.length sc6), (8, .pointer (some ⟨r, 0, none⟩)), (10, .int .i64 s2.1), (15, .slice sb_l l.length sc_l), (16, .int .i64 (l.length : Int)), (17, .int .i64 x), (49, .pointer (some ⟨p_a_, 0, none⟩)), (50, .int .i64 s2.2), (51, .int .i64 s2.1)]) (obs := []) rfl (by kernel_rfl) trivial fun a hE => ?_
              obtain ⟨t_4, et_4, hm⟩ := bind_some hm
              refine WR.eff hE rfl rfl rfl rfl (OpTo.fn hE rfl rfl Tryz.call186 (fib_under_ok et_4 H)) ?_
              rintro _ w ⟨rfl, H⟩ a hE
              refine WR.done rfl ?_
              refine Runs.seq ?_
              refine Runs.region ?_
              refine WR.seg hE 5 [.int .i64 v_1] [0, 5, 8, 10, 15, 16, 17, 57] (Lo := [(0, .pointer (some ⟨p_a_, 0, none⟩)), (5, .slice sb6 t_2.length sc6), (8, .pointer (some ⟨r, 0, none⟩)), (10, .int .i64 s2.1), (15, .slice sb_l l.length sc_l), (16, .int .i64 (l.length : Int)), (17, .int .i64 x), (57, .agg #[.int .i64 s2.1, .int .i64 (w64 (v_1 + 1))])]) (obs := [.cell ⟨r, 1, none⟩ (.int .i64 v_1)]) rfl (by kernel_rfl) ⟨H.cell 2 rfl rfl, trivial⟩ fun a hE => ?_
              refine WR.eff0 hE rfl rfl rfl (OpTo.store hE H.t2 rfl rfl rfl rfl rfl rfl (Nat.le_of_ble_eq_true rfl)) ?_
              rintro _ w H a hE
              refine WR.done rfl ?_
              refine Runs.region ?_
              refine WR.seg hE 4 [.int .i64 (w64 (v_1 + 1))] [0, 5, 8, 15, 16, 17, 58, 59, 61] (Lo := [(0, .pointer (some ⟨p_a_, 0, none⟩)), (5, .slice sb6 t_2.length sc6), (8, .pointer (some ⟨r, 0, none⟩)), (15, .slice sb_l l.length sc_l), (16, .int .i64 (l.length : Int)), (17, .int .i64 x), (58, .pointer (some ⟨p_a_, 0, none⟩)), (59, .int .i64 s2.1), (61, .int .i64 (w64 (v_1 + 1)))]) (obs := [.cell ⟨r, 1, none⟩ (.int .i64 (w64 (v_1 + 1)))]) rfl (by kernel_rfl) ⟨H.cell 0 rfl rfl, trivial⟩ fun a hE => ?_
              obtain ⟨t_5, et_5, hm⟩ := bind_some hm
              refine WR.eff hE rfl rfl rfl rfl (OpTo.fn hE rfl rfl Tryz.call53 (arena_Arena_Set_ok et_5 H.t1)) ?_
              rintro _ w ⟨rfl, hf2, H⟩ a hE
              refine WR.done rfl ?_
              refine Runs.inBlock ?_
              exact ih m (Nat.lt_succ_self m) _ _ ⟨t_2, s2.1, w64 (v_1 + 1), t_5.2, sb6, sc6, hE.sel [0, 5, 8, 15, 16, 17] (by kernel_rfl), H.t3.t1.t2.t3, hm⟩
        rintro a w ⟨sb4, sc4, hE, H⟩
        refine Runs.region ?_
        refine WR.seg hE 2 [.int .i64 s1.2.1, .int .i64 s1.2.2.1] [0, 5, 15, 16, 17, 63, 64] (Lo := [(0, .pointer (some ⟨p_a_, 0, none⟩)), (5, .slice sb4 s1.1.length sc4), (15, .slice sb_l l.length sc_l), (16, .int .i64 (l.length : Int)), (17, .int .i64 x), (63, .slice sb4 s1.1.length sc4), (64, .agg #[.int .i64 s1.2.1, .int .i64 s1.2.2.1])]) (obs := [.cell ⟨r, 0, none⟩ (.int .i64 s1.2.1), .cell ⟨r, 1, none⟩ (.int .i64 s1.2.2.1)]) rfl (by kernel_rfl) ⟨H.cell 1 rfl rfl, H.cell 1 rfl rfl, trivial⟩ fun a hE => ?_
        refine WR.eff hE rfl rfl rfl rfl (OpTo.buildSl (T := 151) hE H fib_ranked.enc_ok ([fib_ranked.mk s1.2.1 s1.2.2.1] : List fib_ranked) rfl (fun _ => by kernel_rfl) rfl rfl rfl) ?_
        rintro _ w ⟨r1, rfl, H⟩ a hE
        obtain ⟨l3, el3, hm⟩ := bind_some hm
        replace H := H.t1
        refine WR.eff hE rfl rfl rfl rfl (OpTo.appendM el3 hE H fib_ranked.enc_ok rfl rfl rfl rfl rfl rfl rfl rfl rfl rfl (SlRd.all (sl_rd 151 fib_ranked.enc 2 _ _ _) fib_ranked.enc_ok H 1 rfl) rfl) ?_
        rintro _ w ⟨sb7, sc7, rfl, H⟩ a hE
        refine WR.seg hE 5 [] [0, 5, 15, 16, 17] (Lo := [(0, .pointer (some ⟨p_a_, 0, none⟩)), (5, .slice sb7 l3.length sc7), (15, .slice sb_l l.length sc_l), (16, .int .i64 (l.length : Int)), (17, .int .i64 x)]) (obs := []) rfl (by kernel_rfl) trivial fun a hE => ?_
        refine WR.done rfl ?_
        refine Runs.inBlock ?_
        refine Runs.region ?_
        refine WR.seg hE 2 [] [0, 5, 15, 16, 17] (Lo := [(0, .pointer (some ⟨p_a_, 0, none⟩)), (5, .slice sb7 l3.length sc7), (15, .slice sb_l l.length sc_l), (16, .int .i64 (l.length : Int)), (17, .int .i64 (w64 (x + 1)))]) (obs := []) rfl (by kernel_rfl) trivial fun a hE => ?_
        refine WR.done rfl ?_
        exact ih m (Nat.lt_succ_self m) _ _ ⟨l3, w64 (x + 1), s1.2.2.2, sb7, sc7, hE.sel [0, 5, 15, 16, 17] (by kernel_rfl), H.x2.x1.t2.t2.t2, hm⟩
      · replace hm := cond_f c hm
        refine Runs.exit rfl ?_
        cases hm
        exact hk _ _ ⟨sb2, sc2, hE.sel [0, 5] (by kernel_rfl), H.t2.t2.t2⟩
  rintro a w ⟨sb1, sc1, hE, H⟩
  refine Runs.seq ?_
  refine Runs.region ?_
  refine WR.seg hE 1 [] [0, 5, 12] (Lo := [(0, .pointer (some ⟨p_a_, 0, none⟩)), (5, .slice sb1 s.1.length sc1), (12, .int .i64 (-1))]) (obs := []) rfl (by kernel_rfl) trivial fun a hE => ?_
  refine WR.done rfl ?_
  refine Runs.seq ?_
  refine Runs.seq ?_
  refine Runs.region ?_
  refine WR.seg hE 3 [] [0, 5, 12, 68, 69, 70] (Lo := [(0, .pointer (some ⟨p_a_, 0, none⟩)), (5, .slice sb1 s.1.length sc1), (12, .int .i64 (-1)), (68, .slice sb1 s.1.length sc1), (69, .int .i64 (s.1.length : Int)), (70, .int .i64 0)]) (obs := []) rfl (by kernel_rfl) trivial fun a hE => ?_
  refine WR.done rfl ?_
  obtain ⟨s3, es3, hm⟩ := bind_some hm
  refine Runs.join (fun a w => EnvOk 98 a [(12, .int .i64 s3.1)] ∧ St w0 (arena_Arena.R p_a_ al_a_ s3.2 :: X_l :: As) w) (fun hk => ?_) ?_
  · replace hm := es3; clear es3
    refine Runs.block ?_
    refine Runs.loop (fun m a w => ∃ (root : Int), ∃ (x6 : Int), ∃ (m_2 : arena_Arena), EnvOk 98 a [(0, .pointer (some ⟨p_a_, 0, none⟩)), (5, .slice sb1 s.1.length sc1), (12, .int .i64 root), (68, .slice sb1 s.1.length sc1), (69, .int .i64 (s.1.length : Int)), (70, .int .i64 x6)] ∧ St w0 (Sl 151 fib_ranked.enc 2 sb1 sc1 s.1 :: arena_Arena.R p_a_ al_a_ m_2 :: X_l :: As) w ∧ fib_unlike_l2 (s.1.length : Int) s.1 l m root x6 m_2 = some s3) k ⟨(-1), 0, s.2, hE.sel [0, 5, 12, 68, 69, 70] (by kernel_rfl), H.t2.t2.t2, hm⟩ ?_
    rintro m ih a w ⟨root, x6, m_2, hE, H, hm⟩
    cases m with
    | zero => simp [fib_unlike_l2] at hm
    | succ m =>
      rw [fib_unlike_l2] at hm
      refine Runs.seq ?_
      refine Runs.region ?_
      refine WR.seg hE 1 [] [0, 5, 12, 68, 69, 70, 71] (Lo := [(0, .pointer (some ⟨p_a_, 0, none⟩)), (5, .slice sb1 s.1.length sc1), (12, .int .i64 root), (68, .slice sb1 s.1.length sc1), (69, .int .i64 (s.1.length : Int)), (70, .int .i64 x6), (71, .bool (decide (x6 < (s.1.length : Int))))]) (obs := []) rfl (by kernel_rfl) trivial fun a hE => ?_
      refine WR.done rfl ?_
      refine Runs.seq ?_
      refine Runs.cond hE rfl (fun c => ?_) (fun c => ?_)
      · replace hm := cond_t c hm
        refine Runs.skip ?_
        refine Runs.seq ?_
        obtain ⟨s4, es4, hm⟩ := bind_some hm
        refine Runs.join (fun a w => EnvOk 98 a [(0, .pointer (some ⟨p_a_, 0, none⟩)), (5, .slice sb1 s.1.length sc1), (12, .int .i64 s4.1), (68, .slice sb1 s.1.length sc1), (69, .int .i64 (s.1.length : Int)), (70, .int .i64 x6)] ∧ St w0 (Sl 151 fib_ranked.enc 2 sb1 sc1 s.1 :: arena_Arena.R p_a_ al_a_ s4.2 :: X_l :: As) w) (fun hk => ?_) ?_
        · replace hm := es4; clear es4
          refine Runs.block ?_
          refine Runs.seq ?_
          refine Runs.region ?_
          obtain ⟨x8, ex8, hm⟩ := bind_some hm
          obtain ⟨b2, o2, hs2, hb2⟩ := SlRd.base (sl_rd 151 fib_ranked.enc 2 _ _ _) fib_ranked.enc_ok H 0 rfl ex8
          refine WR.seg hE 3 [.pointer (some ⟨b2, o2, none⟩), .int .i64 x8.n, .int .i64 x8.rank] [0, 5, 12, 68, 69, 70, 72, 74] (Lo := [(0, .pointer (some ⟨p_a_, 0, none⟩)), (5, .slice sb1 s.1.length sc1), (12, .int .i64 root), (68, .slice sb1 s.1.length sc1), (69, .int .i64 (s.1.length : Int)), (70, .int .i64 x6), (72, .int .i64 x6), (74, .agg #[.int .i64 x8.n, .int .i64 x8.rank])]) (obs := [.p ((sb1 : Option Addr) = some ⟨b2, o2, none⟩), .p (0 ≤ (x6 : Int) ∧ (x6 : Int) < ((s.1.length : Nat) : Int)), .cell ⟨b2, o2 + (Int.toNat x6) * 2, none⟩ (.int .i64 x8.n), .cell ⟨b2, o2 + (Int.toNat x6) * 2 + 1, none⟩ (.int .i64 x8.rank)]) rfl (by kernel_rfl) ⟨hs2, hb2, SlRd.cells (sl_rd 151 fib_ranked.enc 2 _ _ _) fib_ranked.enc_ok H 0 rfl hs2 ex8 0 _ rfl, SlRd.cells (sl_rd 151 fib_ranked.enc 2 _ _ _) fib_ranked.enc_ok H 0 rfl hs2 ex8 1 _ rfl, trivial⟩ fun a hE => ?_
          refine WR.eff hE rfl rfl rfl rfl (OpTo.new hE H [] (.cells #[.int .i64 0, .int .i64 0] 151 (0, 0)) (fun r => .pointer (some ⟨r, 0, none⟩)) (obs := []) rfl (fun _ => by kernel_rfl) trivial) ?_
          rintro _ w ⟨r2, rfl, H⟩ a hE
          refine WR.seg hE 5 [] [0, 5, 12, 13, 14, 68, 69, 70, 74] (Lo := [(0, .pointer (some ⟨p_a_, 0, none⟩)), (5, .slice sb1 s.1.length sc1), (12, .int .i64 root), (13, .int .i64 x6), (14, .pointer (some ⟨r2, 0, none⟩)), (68, .slice sb1 s.1.length sc1), (69, .int .i64 (s.1.length : Int)), (70, .int .i64 x6), (74, .agg #[.int .i64 x8.n, .int .i64 x8.rank])]) (obs := []) rfl (by kernel_rfl) trivial fun a hE => ?_
          refine WR.eff0 hE rfl rfl rfl (OpTo.store hE H rfl rfl rfl rfl rfl rfl (Nat.le_of_ble_eq_true rfl)) ?_
          rintro _ w H a hE
          refine WR.done rfl ?_
          refine Runs.seq ?_
          refine Runs.region ?_
          refine WR.seg hE 3 [.int .i64 x8.n] [0, 5, 12, 13, 14, 68, 69, 70, 75, 77] (Lo := [(0, .pointer (some ⟨p_a_, 0, none⟩)), (5, .slice sb1 s.1.length sc1), (12, .int .i64 root), (13, .int .i64 x6), (14, .pointer (some ⟨r2, 0, none⟩)), (68, .slice sb1 s.1.length sc1), (69, .int .i64 (s.1.length : Int)), (70, .int .i64 x6), (75, .pointer (some ⟨p_a_, 0, none⟩)), (77, .int .i64 x8.n)]) (obs := [.cell ⟨r2, 0, none⟩ (.int .i64 x8.n)]) rfl (by kernel_rfl) ⟨H.cell 0 rfl rfl, trivial⟩ fun a hE => ?_
          obtain ⟨t_6, et_6, hm⟩ := bind_some hm
          refine WR.eff hE rfl rfl rfl rfl (OpTo.fn hE rfl rfl Tryz.call135 (chain_One_ok et_6 H.t2)) ?_
          rintro _ w ⟨rfl, hf3, H⟩ a hE
          refine WR.done rfl ?_
          refine Runs.seq ?_
          refine Runs.seq ?_
          refine Runs.region ?_
          refine WR.seg hE 2 [] [0, 5, 12, 14, 68, 69, 70, 80] (Lo := [(0, .pointer (some ⟨p_a_, 0, none⟩)), (5, .slice sb1 s.1.length sc1), (12, .int .i64 root), (14, .pointer (some ⟨r2, 0, none⟩)), (68, .slice sb1 s.1.length sc1), (69, .int .i64 (s.1.length : Int)), (70, .int .i64 x6), (80, .bool (x6 == 0))]) (obs := []) rfl (by kernel_rfl) trivial fun a hE => ?_
          refine WR.done rfl ?_
          refine Runs.cond hE rfl (fun c => ?_) (fun c => ?_)
          · replace hm := cond_t c hm
            refine Runs.seq ?_
            refine Runs.region ?_
            refine WR.seg hE 3 [.int .i64 x8.n] [0, 5, 12, 68, 69, 70] (Lo := [(0, .pointer (some ⟨p_a_, 0, none⟩)), (5, .slice sb1 s.1.length sc1), (12, .int .i64 x8.n), (68, .slice sb1 s.1.length sc1), (69, .int .i64 (s.1.length : Int)), (70, .int .i64 x6)]) (obs := [.cell ⟨r2, 0, none⟩ (.int .i64 x8.n)]) rfl (by kernel_rfl) ⟨H.cell 1 rfl rfl, trivial⟩ fun a hE => ?_
            refine WR.done rfl ?_
            refine Runs.exit rfl ?_
            cases hm
            exact hk _ _ ⟨hE.sel [0, 5, 12, 68, 69, 70] (by kernel_rfl), H.x1.t2.t1.t2⟩
          · replace hm := cond_f c hm
            refine Runs.skip ?_
            refine Runs.seq ?_
            refine Runs.drawn mixed (by kernel_rfl) ?_
            replace H := H.drew
            obtain ⟨x9, ex9, hm⟩ := bind_some hm
            obtain ⟨b3, o3, hs3, hb3⟩ := SlRd.base (sl_rd 151 fib_ranked.enc 2 _ _ _) fib_ranked.enc_ok H 2 rfl ex9
            refine WQ.seg hE [0, 1, 2, 3, 4, 5, 6] [.pointer (some ⟨b3, o3, none⟩), .int .i64 x9.n, .int .i64 x8.n] [0, 5, 12, 14, 68, 69, 70, 83, 87, 89] (Lo := [(0, .pointer (some ⟨p_a_, 0, none⟩)), (5, .slice sb1 s.1.length sc1), (12, .int .i64 root), (14, .pointer (some ⟨r2, 0, none⟩)), (68, .slice sb1 s.1.length sc1), (69, .int .i64 (s.1.length : Int)), (70, .int .i64 x6), (83, .pointer (some ⟨p_a_, 0, none⟩)), (87, .int .i64 x9.n), (89, .int .i64 x8.n)]) (obs := [.p ((sb1 : Option Addr) = some ⟨b3, o3, none⟩), .p (0 ≤ (0 : Int) ∧ (0 : Int) < ((s.1.length : Nat) : Int)), .cell ⟨b3, o3 + (Int.toNat 0) * 2, none⟩ (.int .i64 x9.n), .cell ⟨r2, 0, none⟩ (.int .i64 x8.n)]) (by kernel_rfl) (by kernel_rfl) ⟨hs3, hb3, SlRd.cells (sl_rd 151 fib_ranked.enc 2 _ _ _) fib_ranked.enc_ok H 2 rfl hs3 ex9 0 _ rfl, H.cell 1 rfl rfl, trivial⟩ fun a hE => ?_
            obtain ⟨t_7, et_7, hm⟩ := bind_some hm
            refine WQ.eff (j := 7) (obs := []) hE (by kernel_rfl) rfl rfl rfl rfl (by kernel_rfl) (OpTo.fn hE rfl rfl Tryz.call136 (chain_Put_ok et_7 H)) ?_
            rintro _ w ⟨rfl, H⟩
            refine ⟨trivial, fun a hE => ?_⟩
            refine WQ.done (by kernel_rfl) ?_
            refine Runs.region ?_
            refine WR.seg hE 4 [.int .i64 x8.n] [0, 5, 12, 68, 69, 70, 91, 92, 94] (Lo := [(0, .pointer (some ⟨p_a_, 0, none⟩)), (5, .slice sb1 s.1.length sc1), (12, .int .i64 root), (68, .slice sb1 s.1.length sc1), (69, .int .i64 (s.1.length : Int)), (70, .int .i64 x6), (91, .pointer (some ⟨p_a_, 0, none⟩)), (92, .int .i64 root), (94, .int .i64 x8.n)]) (obs := [.cell ⟨r2, 0, none⟩ (.int .i64 x8.n)]) rfl (by kernel_rfl) ⟨H.cell 1 rfl rfl, trivial⟩ fun a hE => ?_
            obtain ⟨t_8, et_8, hm⟩ := bind_some hm
            refine WR.eff hE rfl rfl rfl rfl (OpTo.fn hE rfl rfl Tryz.call137 (fib_lesser_ok et_8 H)) ?_
            rintro _ w ⟨rfl, H⟩ a hE
            refine WR.seg hE 6 [] [0, 5, 12, 68, 69, 70] (Lo := [(0, .pointer (some ⟨p_a_, 0, none⟩)), (5, .slice sb1 s.1.length sc1), (12, .int .i64 t_8.1), (68, .slice sb1 s.1.length sc1), (69, .int .i64 (s.1.length : Int)), (70, .int .i64 x6)]) (obs := []) rfl (by kernel_rfl) trivial fun a hE => ?_
            refine WR.done rfl ?_
            refine Runs.inBlock ?_
            cases hm
            exact hk _ _ ⟨hE.sel [0, 5, 12, 68, 69, 70] (by kernel_rfl), H.x1.t2.t1.t2⟩
        rintro a w ⟨hE, H⟩
        refine Runs.region ?_
        refine WR.seg hE 2 [] [0, 5, 12, 68, 69, 70] (Lo := [(0, .pointer (some ⟨p_a_, 0, none⟩)), (5, .slice sb1 s.1.length sc1), (12, .int .i64 s4.1), (68, .slice sb1 s.1.length sc1), (69, .int .i64 (s.1.length : Int)), (70, .int .i64 (w64 (x6 + 1)))]) (obs := []) rfl (by kernel_rfl) trivial fun a hE => ?_
        refine WR.done rfl ?_
        exact ih m (Nat.lt_succ_self m) _ _ ⟨s4.1, w64 (x6 + 1), s4.2, hE.sel [0, 5, 12, 68, 69, 70] (by kernel_rfl), H.t2.t2.t2, hm⟩
      · replace hm := cond_f c hm
        refine Runs.exit rfl ?_
        cases hm
        exact hk _ _ ⟨hE.sel [12] (by kernel_rfl), H.x0.t1.t1⟩
  rintro a w ⟨hE, H⟩
  refine Runs.seq ?_
  refine Runs.region ?_
  refine WR.seg hE 2 [] [4] (Lo := [(4, .int .i64 s3.1)]) (obs := []) rfl (by kernel_rfl) trivial fun a hE => ?_
  refine WR.done rfl ?_
  refine Runs.ret hE Tryz.func167 rfl rfl ?_
  cases hm
  exact ⟨rfl, H.t1.t1⟩

theorem fib_pop_ok {w0 w : World} {As : List HP} {k : Nat} {p_a_ : Nat} {al_a_ : arena_Arena.A} {a_ : arena_Arena} {n : Int} {t : Int × Int × arena_Arena}  (hm : fib_pop k a_ n = some t) (H : St w0 (arena_Arena.R p_a_ al_a_ a_ :: As) w) :
    CallsR Tryz.prog 141 #[.pointer (some ⟨p_a_, 0, none⟩), .int .i64 n] w fun v w' => ∃ (z_a__free_b : Option Addr), ∃ (z_a__free_c : Nat), v = .tuple #[.int .i64 t.1, .int .i64 t.2.1] ∧ St w0 (arena_Arena.R p_a_ (arena_Arena.A.mk al_a_.l_b al_a_.l_c z_a__free_b z_a__free_c al_a_.m__p) t.2.2 :: As) w' := by
  rw [fib_pop] at hm
  refine enter (args := [.pointer (some ⟨p_a_, 0, none⟩), .int .i64 n]) Tryz.func141 rfl rfl rfl fun a hE => ?_
  refine Runs.seq ?_
  refine Runs.region ?_
  refine WR.seg hE 2 [] [0, 1] (Lo := [(0, .pointer (some ⟨p_a_, 0, none⟩)), (1, .int .i64 n)]) (obs := []) rfl (by kernel_rfl) trivial fun a hE => ?_
  refine WR.done rfl ?_
  refine Runs.seq ?_
  refine Runs.region ?_
  refine WR.seg hE 1 [] [0, 1, 6] (Lo := [(0, .pointer (some ⟨p_a_, 0, none⟩)), (1, .int .i64 n), (6, .slice none 0 0)]) (obs := []) rfl (by kernel_rfl) trivial fun a hE => ?_
  refine WR.done rfl ?_
  refine Runs.seq ?_
  refine Runs.seq ?_
  refine Runs.region ?_
  refine WR.seg hE 2 [] [0, 1, 6, 12, 13] (Lo := [(0, .pointer (some ⟨p_a_, 0, none⟩)), (1, .int .i64 n), (6, .slice none 0 0), (12, .pointer (some ⟨p_a_, 0, none⟩)), (13, .int .i64 n)]) (obs := []) rfl (by kernel_rfl) trivial fun a hE => ?_
  obtain ⟨t_, et_, hm⟩ := bind_some hm
  refine WR.eff hE rfl rfl rfl rfl (OpTo.fn hE rfl rfl Tryz.call73 (arena_Arena_Cell_ok et_ H)) ?_
  rintro _ w ⟨rfl, H⟩ a hE
  refine WR.seg hE 4 [] [0, 1, 6, 7] (Lo := [(0, .pointer (some ⟨p_a_, 0, none⟩)), (1, .int .i64 n), (6, .slice none 0 0), (7, .int .i64 t_.1)]) (obs := []) rfl (by kernel_rfl) trivial fun a hE => ?_
  refine WR.done rfl ?_
  refine Runs.seq ?_
  refine Runs.region ?_
  refine WR.seg hE 2 [] [0, 1, 6, 7, 16] (Lo := [(0, .pointer (some ⟨p_a_, 0, none⟩)), (1, .int .i64 n), (6, .slice none 0 0), (7, .int .i64 t_.1), (16, .bool (t_.1 != (-1)))]) (obs := []) rfl (by kernel_rfl) trivial fun a hE => ?_
  refine WR.done rfl ?_
  obtain ⟨s, es, hm⟩ := bind_some hm
  refine Runs.join (fun a w => ∃ (sb : Option Addr), ∃ (sc : Nat), EnvOk 50 a [(0, .pointer (some ⟨p_a_, 0, none⟩)), (1, .int .i64 n), (6, .slice sb s.1.length sc)] ∧ St w0 (Sl 3 ecI 1 sb sc s.1 :: arena_Arena.R p_a_ al_a_ s.2 :: As) w) (fun hk => ?_) ?_
  · replace hm := es; clear es
    refine Runs.cond hE rfl (fun c => ?_) (fun c => ?_)
    · replace hm := cond_t c hm
      refine Runs.seq ?_
      refine Runs.region ?_
      refine WR.seg hE 2 [] [0, 1, 6, 17, 18] (Lo := [(0, .pointer (some ⟨p_a_, 0, none⟩)), (1, .int .i64 n), (6, .slice none 0 0), (17, .pointer (some ⟨p_a_, 0, none⟩)), (18, .int .i64 t_.1)]) (obs := []) rfl (by kernel_rfl) trivial fun a hE => ?_
      obtain ⟨t_1, et_1, hm⟩ := bind_some hm
      refine WR.eff hE rfl rfl rfl rfl (OpTo.fn hE rfl rfl Tryz.call165 (chain_All_ok et_1 H)) ?_
      rintro _ w ⟨sb1, sc1, rfl, H⟩ a hE
      refine WR.seg hE 5 [] [0, 1, 6, 19, 20, 21] (Lo := [(0, .pointer (some ⟨p_a_, 0, none⟩)), (1, .int .i64 n), (6, .slice none 0 0), (19, .slice sb1 t_1.1.length sc1), (20, .int .i64 (t_1.1.length : Int)), (21, .int .i64 0)]) (obs := []) rfl (by kernel_rfl) trivial fun a hE => ?_
      refine WR.done rfl ?_
      obtain ⟨s1, es1, hm⟩ := bind_some hm
      refine Runs.join (fun a w => ∃ (sb3 : Option Addr), ∃ (sc3 : Nat), EnvOk 50 a [(0, .pointer (some ⟨p_a_, 0, none⟩)), (1, .int .i64 n), (6, .slice sb3 s1.1.length sc3)] ∧ St w0 (Sl 3 ecI 1 sb3 sc3 s1.1 :: arena_Arena.R p_a_ al_a_ s1.2 :: As) w) (fun hk => ?_) ?_
      · replace hm := es1; clear es1
        replace H := H.slNil 3 ecI 1
        refine Runs.block ?_
        refine Runs.loop (fun m a w => ∃ (l : List Int), ∃ (x : Int), ∃ (m_ : arena_Arena), ∃ (sb4 : Option Addr), ∃ (sc4 : Nat), EnvOk 50 a [(0, .pointer (some ⟨p_a_, 0, none⟩)), (1, .int .i64 n), (6, .slice sb4 l.length sc4), (19, .slice sb1 t_1.1.length sc1), (20, .int .i64 (t_1.1.length : Int)), (21, .int .i64 x)] ∧ St w0 (Sl 3 ecI 1 sb4 sc4 l :: Sl 3 ecI 1 sb1 sc1 t_1.1 :: arena_Arena.R p_a_ al_a_ m_ :: As) w ∧ fib_pop_l0 n (t_1.1.length : Int) t_1.1 m l x m_ = some s1) k ⟨([] : List Int), 0, t_1.2, none, 0, hE.sel [0, 1, 6, 19, 20, 21] (by kernel_rfl), H.t2.t2.t2, hm⟩ ?_
        rintro m ih a w ⟨l, x, m_, sb4, sc4, hE, H, hm⟩
        cases m with
        | zero => simp [fib_pop_l0] at hm
        | succ m =>
          rw [fib_pop_l0] at hm
          refine Runs.seq ?_
          refine Runs.region ?_
          refine WR.seg hE 1 [] [0, 1, 6, 19, 20, 21, 22] (Lo := [(0, .pointer (some ⟨p_a_, 0, none⟩)), (1, .int .i64 n), (6, .slice sb4 l.length sc4), (19, .slice sb1 t_1.1.length sc1), (20, .int .i64 (t_1.1.length : Int)), (21, .int .i64 x), (22, .bool (decide (x < (t_1.1.length : Int))))]) (obs := []) rfl (by kernel_rfl) trivial fun a hE => ?_
          refine WR.done rfl ?_
          refine Runs.seq ?_
          refine Runs.cond hE rfl (fun c => ?_) (fun c => ?_)
          · replace hm := cond_t c hm
            refine Runs.skip ?_
            refine Runs.seq ?_
            refine Runs.block ?_
            refine Runs.seq ?_
            refine Runs.region ?_
            obtain ⟨x2, ex2, hm⟩ := bind_some hm
            obtain ⟨b, o, hs, hb⟩ := SlRd.base (sl_rd 3 ecI 1 _ _ _) ecI_ok H 1 rfl ex2
            refine WR.seg hE 3 [.pointer (some ⟨b, o, none⟩), .int .i64 x2] [0, 1, 6, 9, 19, 20, 21] (Lo := [(0, .pointer (some ⟨p_a_, 0, none⟩)), (1, .int .i64 n), (6, .slice sb4 l.length sc4), (9, .int .i64 x2), (19, .slice sb1 t_1.1.length sc1), (20, .int .i64 (t_1.1.length : Int)), (21, .int .i64 x)]) (obs := [.p ((sb1 : Option Addr) = some ⟨b, o, none⟩), .p (0 ≤ (x : Int) ∧ (x : Int) < ((t_1.1.length : Nat) : Int)), .cell ⟨b, o + (Int.toNat x) * 1, none⟩ (.int .i64 x2)]) rfl (by kernel_rfl) ⟨hs, hb, SlRd.cells (sl_rd 3 ecI 1 _ _ _) ecI_ok H 1 rfl hs ex2 0 _ rfl, trivial⟩ fun a hE => ?_
            refine WR.done rfl ?_
            refine Runs.seq ?_
            refine Runs.region ?_
            refine WR.seg hE 2 [] [0, 1, 6, 9, 19, 20, 21, 25, 26] (Lo := [(0, .pointer (some ⟨p_a_, 0, none⟩)), (1, .int .i64 n), (6, .slice sb4 l.length sc4), (9, .int .i64 x2), (19, .slice sb1 t_1.1.length sc1), (20, .int .i64 (t_1.1.length : Int)), (21, .int .i64 x), (25, .pointer (some ⟨p_a_, 0, none⟩)), (26, .int .i64 x2)]) (obs := []) rfl (by kernel_rfl) trivial fun a hE => ?_
            obtain ⟨t_2, et_2, hm⟩ := bind_some hm
            refine WR.eff hE rfl rfl rfl rfl (OpTo.fn hE rfl rfl Tryz.call53 (arena_Arena_Set_ok et_2 H.t2)) ?_
            rintro _ w ⟨rfl, hf, H⟩ a hE
            refine WR.done rfl ?_
            refine Runs.region ?_
            refine WR.seg hE 2 [] [0, 1, 6, 19, 20, 21, 28, 29] (Lo := [(0, .pointer (some ⟨p_a_, 0, none⟩)), (1, .int .i64 n), (6, .slice sb4 l.length sc4), (19, .slice sb1 t_1.1.length sc1), (20, .int .i64 (t_1.1.length : Int)), (21, .int .i64 x), (28, .slice sb4 l.length sc4), (29, .int .i64 x2)]) (obs := []) rfl (by kernel_rfl) trivial fun a hE => ?_
            refine WR.eff hE rfl rfl rfl rfl (OpTo.buildSl (T := 3) hE H ecI_ok ([x2] : List Int) rfl (fun _ => by kernel_rfl) rfl rfl rfl) ?_
            rintro _ w ⟨r, rfl, H⟩ a hE
            obtain ⟨l2, el2, hm⟩ := bind_some hm
            replace H := H.t2
            refine WR.eff hE rfl rfl rfl rfl (OpTo.appendM el2 hE H ecI_ok rfl rfl rfl rfl rfl rfl rfl rfl rfl rfl (SlRd.all (sl_rd 3 ecI 1 _ _ _) ecI_ok H 1 rfl) rfl) ?_
            rintro _ w ⟨sb5, sc5, rfl, H⟩ a hE
            refine WR.seg hE 5 [] [0, 1, 6, 19, 20, 21] (Lo := [(0, .pointer (some ⟨p_a_, 0, none⟩)), (1, .int .i64 n), (6, .slice sb5 l2.length sc5), (19, .slice sb1 t_1.1.length sc1), (20, .int .i64 (t_1.1.length : Int)), (21, .int .i64 x)]) (obs := []) rfl (by kernel_rfl) trivial fun a hE => ?_
            refine WR.done rfl ?_
            refine Runs.inBlock ?_
            refine Runs.region ?_
            refine WR.seg hE 2 [] [0, 1, 6, 19, 20, 21] (Lo := [(0, .pointer (some ⟨p_a_, 0, none⟩)), (1, .int .i64 n), (6, .slice sb5 l2.length sc5), (19, .slice sb1 t_1.1.length sc1), (20, .int .i64 (t_1.1.length : Int)), (21, .int .i64 (w64 (x + 1)))]) (obs := []) rfl (by kernel_rfl) trivial fun a hE => ?_
            refine WR.done rfl ?_
            exact ih m (Nat.lt_succ_self m) _ _ ⟨l2, w64 (x + 1), t_2.2, sb5, sc5, hE.sel [0, 1, 6, 19, 20, 21] (by kernel_rfl), H.x1.t1.t2.t2, hm⟩
          · replace hm := cond_f c hm
            refine Runs.exit rfl ?_
            cases hm
            exact hk _ _ ⟨sb4, sc4, hE.sel [0, 1, 6] (by kernel_rfl), H.x1.t1.t1⟩
      rintro a w ⟨sb3, sc3, hE, H⟩
      cases hm
      exact hk _ _ ⟨sb3, sc3, hE.sel [0, 1, 6] (by kernel_rfl), H.t1.t1⟩
    · replace hm := cond_f c hm
      refine Runs.skip ?_
      replace H := H.slNil 3 ecI 1
      cases hm
      exact hk _ _ ⟨none, 0, hE.sel [0, 1, 6] (by kernel_rfl), H.t1.t1⟩
  rintro a w ⟨sb, sc, hE, H⟩
  refine Runs.seq ?_
  refine Runs.seq ?_
  refine Runs.region ?_
  refine WR.seg hE 2 [] [0, 1, 6, 33, 34] (Lo := [(0, .pointer (some ⟨p_a_, 0, none⟩)), (1, .int .i64 n), (6, .slice sb s.1.length sc), (33, .pointer (some ⟨p_a_, 0, none⟩)), (34, .int .i64 n)]) (obs := []) rfl (by kernel_rfl) trivial fun a hE => ?_
  obtain ⟨t_3, et_3, hm⟩ := bind_some hm
  refine WR.eff hE rfl rfl rfl rfl (OpTo.fn hE rfl rfl Tryz.call166 (chain_Out_ok et_3 H.t1)) ?_
  rintro _ w ⟨rfl, H⟩ a hE
  refine WR.seg hE 4 [] [0, 1, 6, 10] (Lo := [(0, .pointer (some ⟨p_a_, 0, none⟩)), (1, .int .i64 n), (6, .slice sb s.1.length sc), (10, .int .i64 t_3.1)]) (obs := []) rfl (by kernel_rfl) trivial fun a hE => ?_
  refine WR.done rfl ?_
  refine Runs.seq ?_
  refine Runs.region ?_
  refine WR.seg hE 2 [] [0, 1, 6, 10, 37] (Lo := [(0, .pointer (some ⟨p_a_, 0, none⟩)), (1, .int .i64 n), (6, .slice sb s.1.length sc), (10, .int .i64 t_3.1), (37, .bool (t_3.1 != (-1)))]) (obs := []) rfl (by kernel_rfl) trivial fun a hE => ?_
  refine WR.done rfl ?_
  obtain ⟨s2, es2, hm⟩ := bind_some hm
  refine Runs.join (fun a w => ∃ (sb6 : Option Addr), ∃ (sc6 : Nat), EnvOk 50 a [(0, .pointer (some ⟨p_a_, 0, none⟩)), (1, .int .i64 n), (6, .slice sb6 s2.1.length sc6)] ∧ St w0 (Sl 3 ecI 1 sb6 sc6 s2.1 :: arena_Arena.R p_a_ al_a_ s2.2 :: As) w) (fun hk => ?_) ?_
  · replace hm := es2; clear es2
    refine Runs.cond hE rfl (fun c => ?_) (fun c => ?_)
    · replace hm := cond_t c hm
      refine Runs.region ?_
      refine WR.seg hE 3 [] [0, 1, 6, 38, 39, 40] (Lo := [(0, .pointer (some ⟨p_a_, 0, none⟩)), (1, .int .i64 n), (6, .slice sb s.1.length sc), (38, .slice sb s.1.length sc), (39, .pointer (some ⟨p_a_, 0, none⟩)), (40, .int .i64 t_3.1)]) (obs := []) rfl (by kernel_rfl) trivial fun a hE => ?_
      obtain ⟨t_4, et_4, hm⟩ := bind_some hm
      refine WR.eff hE rfl rfl rfl rfl (OpTo.fn hE rfl rfl Tryz.call165 (chain_All_ok et_4 H)) ?_
      rintro _ w ⟨sb7, sc7, rfl, H⟩ a hE
      obtain ⟨l3, el3, hm⟩ := bind_some hm
      replace H := H.t2
      refine WR.eff hE rfl rfl rfl rfl (OpTo.appendM el3 hE H ecI_ok rfl rfl rfl rfl rfl rfl rfl rfl rfl rfl (SlRd.all (sl_rd 3 ecI 1 _ _ _) ecI_ok H 1 rfl) rfl) ?_
      rintro _ w ⟨sb8, sc8, rfl, H⟩ a hE
      refine WR.seg hE 6 [] [0, 1, 6] (Lo := [(0, .pointer (some ⟨p_a_, 0, none⟩)), (1, .int .i64 n), (6, .slice sb8 l3.length sc8)]) (obs := []) rfl (by kernel_rfl) trivial fun a hE => ?_
      refine WR.done rfl ?_
      cases hm
      exact hk _ _ ⟨sb8, sc8, hE.sel [0, 1, 6] (by kernel_rfl), H.x1.t1.t1⟩
    · replace hm := cond_f c hm
      refine Runs.skip ?_
      cases hm
      exact hk _ _ ⟨sb, sc, hE.sel [0, 1, 6] (by kernel_rfl), H.t1⟩
  rintro a w ⟨sb6, sc6, hE, H⟩
  refine Runs.seq ?_
  refine Runs.region ?_
  refine WR.seg hE 2 [] [0, 6, 43, 44] (Lo := [(0, .pointer (some ⟨p_a_, 0, none⟩)), (6, .slice sb6 s2.1.length sc6), (43, .pointer (some ⟨p_a_, 0, none⟩)), (44, .int .i64 n)]) (obs := []) rfl (by kernel_rfl) trivial fun a hE => ?_
  obtain ⟨t_5, et_5, hm⟩ := bind_some hm
  refine WR.eff hE rfl rfl rfl rfl (OpTo.fn hE rfl rfl Tryz.call123 (node_End_ok et_5 H.t1)) ?_
  rintro _ w ⟨z, z1, rfl, H⟩ a hE
  refine WR.seg hE 4 [] [0, 6, 11] (Lo := [(0, .pointer (some ⟨p_a_, 0, none⟩)), (6, .slice sb6 s2.1.length sc6), (11, .int .i64 t_5.1)]) (obs := []) rfl (by kernel_rfl) trivial fun a hE => ?_
  refine WR.done rfl ?_
  refine Runs.seq ?_
  refine Runs.region ?_
  refine WR.seg hE 2 [] [11, 46, 47] (Lo := [(11, .int .i64 t_5.1), (46, .pointer (some ⟨p_a_, 0, none⟩)), (47, .slice sb6 s2.1.length sc6)]) (obs := []) rfl (by kernel_rfl) trivial fun a hE => ?_
  obtain ⟨t_6, et_6, hm⟩ := bind_some hm
  replace H := H.t1.t1
  refine WR.eff hE rfl rfl rfl rfl (OpTo.fn hE rfl rfl Tryz.call167 (fib_unlike_ok (hX_l := (sl_rd 3 ecI 1 _ _ _)) (hC_l := (H.slCap 1 rfl).1) et_6 H)) ?_
  rintro _ w ⟨rfl, H⟩ a hE
  refine WR.seg hE 6 [] [4, 5] (Lo := [(4, .int .i64 t_6.1), (5, .int .i64 t_5.1)]) (obs := []) rfl (by kernel_rfl) trivial fun a hE => ?_
  refine WR.done rfl ?_
  refine Runs.ret hE Tryz.func141 rfl rfl ?_
  cases hm
  exact ⟨z, z1, rfl, H.x1⟩

theorem fib_Pop_ok {w0 w : World} {As : List HP} {k : Nat} {p_a_ : Nat} {al_a_ : arena_Arena.A} {a_ : arena_Arena} {r : Int} {t : Int × Int × arena_Arena}  (hm : fib_Pop k a_ r = some t) (H : St w0 (arena_Arena.R p_a_ al_a_ a_ :: As) w) :
    CallsR Tryz.prog 83 #[.pointer (some ⟨p_a_, 0, none⟩), .int .i64 r] w fun v w' => ∃ (z_a__free_b : Option Addr), ∃ (z_a__free_c : Nat), v = .tuple #[.int .i64 t.1, .int .i64 t.2.1] ∧ St w0 (arena_Arena.R p_a_ (arena_Arena.A.mk al_a_.l_b al_a_.l_c z_a__free_b z_a__free_c al_a_.m__p) t.2.2 :: As) w' := by
  rw [fib_Pop] at hm
  refine enter (args := [.pointer (some ⟨p_a_, 0, none⟩), .int .i64 r]) Tryz.func83 rfl rfl rfl fun a hE => ?_
  refine Runs.seq ?_
  refine Runs.region ?_
  refine WR.seg hE 2 [] [0, 1] (Lo := [(0, .pointer (some ⟨p_a_, 0, none⟩)), (1, .int .i64 r)]) (obs := []) rfl (by kernel_rfl) trivial fun a hE => ?_
  refine WR.done rfl ?_
  refine Runs.seq ?_
  refine Runs.seq ?_
  obtain ⟨s, es, hm⟩ := bind_some hm
  refine Runs.join (fun a w => EnvOk 19 a [(0, .pointer (some ⟨p_a_, 0, none⟩)), (1, .int .i64 r), (13, .bool s)] ∧ St w0 (arena_Arena.R p_a_ al_a_ a_ :: As) w) (fun hk => ?_) ?_
  · replace hm := es; clear es
    refine Runs.region ?_
    refine WR.seg hE 5 [] [0, 1, 8, 9, 10] (Lo := [(0, .pointer (some ⟨p_a_, 0, none⟩)), (1, .int .i64 r), (8, .bool false), (9, .pointer (some ⟨p_a_, 0, none⟩)), (10, .int .i64 r)]) (obs := []) rfl (by kernel_rfl) trivial fun a hE => ?_
    obtain ⟨t_, et_, hm⟩ := bind_some hm
    refine WR.eff hE rfl rfl rfl rfl (OpTo.fn hE rfl rfl Tryz.call58 (arena_Arena_Live_ok et_ H)) ?_
    rintro _ w ⟨rfl, H⟩ a hE
    refine WR.seg hE 8 [] [0, 1, 13] (Lo := [(0, .pointer (some ⟨p_a_, 0, none⟩)), (1, .int .i64 r), (13, .bool (!t_))]) (obs := []) rfl (by kernel_rfl) trivial fun a hE => ?_
    refine WR.done rfl ?_
    cases hm
    exact hk _ _ ⟨hE.sel [0, 1, 13] (by kernel_rfl), H⟩
  rintro a w ⟨hE, H⟩
  refine Runs.cond hE rfl (fun c => ?_) (fun c => ?_)
  · replace hm := cond_t c hm
    refine Runs.seq ?_
    refine Runs.region ?_
    refine WR.seg hE 2 [] [4, 5] (Lo := [(4, .int .i64 (-1)), (5, .int .i64 (-1))]) (obs := []) rfl (by kernel_rfl) trivial fun a hE => ?_
    refine WR.done rfl ?_
    refine Runs.ret hE Tryz.func83 rfl rfl ?_
    cases hm
    exact ⟨al_a_.free_b, al_a_.free_c, rfl, H⟩
  · replace hm := cond_f c hm
    refine Runs.skip ?_
    refine Runs.seq ?_
    refine Runs.region ?_
    refine WR.seg hE 2 [] [14, 15] (Lo := [(14, .pointer (some ⟨p_a_, 0, none⟩)), (15, .int .i64 r)]) (obs := []) rfl (by kernel_rfl) trivial fun a hE => ?_
    obtain ⟨t_1, et_1, hm⟩ := bind_some hm
    refine WR.eff hE rfl rfl rfl rfl (OpTo.fn hE rfl rfl Tryz.call141 (fib_pop_ok et_1 H)) ?_
    rintro _ w ⟨z, z1, rfl, H⟩ a hE
    refine WR.seg hE 7 [] [4, 5] (Lo := [(4, .int .i64 t_1.1), (5, .int .i64 t_1.2.1)]) (obs := []) rfl (by kernel_rfl) trivial fun a hE => ?_
    refine WR.done rfl ?_
    refine Runs.ret hE Tryz.func83 rfl rfl ?_
    cases hm
    exact ⟨z, z1, rfl, H⟩

theorem pairing_kids_ok {w0 w : World} {As : List HP} {k : Nat} {p_a_ : Nat} {al_a_ : arena_Arena.A} {a_ : arena_Arena} {n : Int} {t : (List Int) × arena_Arena}  (hm : pairing_kids k a_ n = some t) (H : St w0 (arena_Arena.R p_a_ al_a_ a_ :: As) w) :
    CallsR Tryz.prog 168 #[.pointer (some ⟨p_a_, 0, none⟩), .int .i64 n] w fun v w' => ∃ (sb0 : Option Addr), ∃ (sc0 : Nat), v = .slice sb0 t.1.length sc0 ∧ St w0 (Sl 3 ecI 1 sb0 sc0 t.1 :: arena_Arena.R p_a_ al_a_ t.2 :: As) w' := by
  rw [pairing_kids] at hm
  refine enter (args := [.pointer (some ⟨p_a_, 0, none⟩), .int .i64 n]) Tryz.func168 rfl rfl rfl fun a hE => ?_
  refine Runs.seq ?_
  refine Runs.region ?_
  refine WR.seg hE 1 [] [0, 1] (Lo := [(0, .pointer (some ⟨p_a_, 0, none⟩)), (1, .int .i64 n)]) (obs := []) rfl (by kernel_rfl) trivial fun a hE => ?_
  refine WR.done rfl ?_
  refine Runs.seq ?_
  refine Runs.region ?_
  refine WR.seg hE 3 [] [5, 6, 7] (Lo := [(5, .pointer (some ⟨p_a_, 0, none⟩)), (6, .pointer (some ⟨p_a_, 0, none⟩)), (7, .int .i64 n)]) (obs := []) rfl (by kernel_rfl) trivial fun a hE => ?_
  obtain ⟨t_, et_, hm⟩ := bind_some hm
  refine WR.eff hE rfl rfl rfl rfl (OpTo.fn hE rfl rfl Tryz.call73 (arena_Arena_Cell_ok et_ H)) ?_
  rintro _ w ⟨rfl, H⟩ a hE
  obtain ⟨t_1, et_1, hm⟩ := bind_some hm
  refine WR.eff hE rfl rfl rfl rfl (OpTo.fn hE rfl rfl Tryz.call117 (node_Row_ok et_1 H)) ?_
  rintro _ w ⟨sb, sc, rfl, H⟩ a hE
  refine WR.seg hE 6 [] [4] (Lo := [(4, .slice sb t_1.1.length sc)]) (obs := []) rfl (by kernel_rfl) trivial fun a hE => ?_
  refine WR.done rfl ?_
  refine Runs.ret hE Tryz.func168 rfl rfl ?_
  cases hm
  exact ⟨sb, sc, rfl, H.t1.t1⟩

theorem pairing_root_ok {w0 w : World} {As : List HP} {p_a_ : Nat} {al_a_ : arena_Arena.A} {a_ : arena_Arena} {n : Int} {t : arena_Arena}  (hm : pairing_root a_ n = some t) (H : St w0 (arena_Arena.R p_a_ al_a_ a_ :: As) w) :
    CallsR Tryz.prog 171 #[.pointer (some ⟨p_a_, 0, none⟩), .int .i64 n] w fun v w' => v = .tuple #[] ∧ t.free = a_.free ∧ St w0 (arena_Arena.R p_a_ al_a_ t :: As) w' := by
  rw [pairing_root] at hm
  refine enter (args := [.pointer (some ⟨p_a_, 0, none⟩), .int .i64 n]) Tryz.func171 rfl rfl rfl fun a hE => ?_
  refine Runs.seq ?_
  refine Runs.region ?_
  refine WR.seg hE 2 [] [0, 1, 4, 5] (Lo := [(0, .pointer (some ⟨p_a_, 0, none⟩)), (1, .int .i64 n), (4, .pointer (some ⟨p_a_, 0, none⟩)), (5, .int .i64 n)]) (obs := []) rfl (by kernel_rfl) trivial fun a hE => ?_
  obtain ⟨t_, et_, hm⟩ := bind_some hm
  refine WR.eff hE rfl rfl rfl rfl (OpTo.fn hE rfl rfl Tryz.call53 (arena_Arena_Set_ok et_ H)) ?_
  rintro _ w ⟨rfl, hf, H⟩ a hE
  refine WR.done rfl ?_
  refine Runs.seq ?_
  refine Runs.region ?_
  refine WR.seg hE 2 [] [0, 1, 7, 8] (Lo := [(0, .pointer (some ⟨p_a_, 0, none⟩)), (1, .int .i64 n), (7, .pointer (some ⟨p_a_, 0, none⟩)), (8, .int .i64 n)]) (obs := []) rfl (by kernel_rfl) trivial fun a hE => ?_
  obtain ⟨t_1, et_1, hm⟩ := bind_some hm
  refine WR.eff hE rfl rfl rfl rfl (OpTo.fn hE rfl rfl Tryz.call53 (arena_Arena_Set_ok et_1 H)) ?_
  rintro _ w ⟨rfl, hf1, H⟩ a hE
  refine WR.done rfl ?_
  refine Runs.region ?_
  refine WR.seg hE 2 [] [10, 11] (Lo := [(10, .pointer (some ⟨p_a_, 0, none⟩)), (11, .int .i64 n)]) (obs := []) rfl (by kernel_rfl) trivial fun a hE => ?_
  obtain ⟨t_2, et_2, hm⟩ := bind_some hm
  refine WR.eff hE rfl rfl rfl rfl (OpTo.fn hE rfl rfl Tryz.call53 (arena_Arena_Set_ok et_2 H)) ?_
  rintro _ w ⟨rfl, hf2, H⟩ a hE
  refine WR.done rfl ?_
  refine Runs.fin hE Tryz.func171 rfl rfl ?_
  cases hm
  exact ⟨rfl, (by simp only [hf2, hf1, hf]), H⟩

theorem pairing_paired_ok {w0 w : World} {As : List HP} {k : Nat} {p_a_ : Nat} {al_a_ : arena_Arena.A} {a_ : arena_Arena} {sb_l : Option Addr} {sc_l : Nat} {l : List Int} {X_l : HP} {t : Int × arena_Arena} (hX_l : SlRd X_l ecI 1 sb_l l) (hC_l : l.length ≤ sc_l) (hm : pairing_paired k a_ l = some t) (H : St w0 (arena_Arena.R p_a_ al_a_ a_ :: X_l :: As) w) :
    CallsR Tryz.prog 169 #[.pointer (some ⟨p_a_, 0, none⟩), .slice sb_l l.length sc_l] w fun v w' => v = .int .i64 t.1 ∧ St w0 (arena_Arena.R p_a_ al_a_ t.2 :: X_l :: As) w' := by
  rw [pairing_paired] at hm
  refine enter (args := [.pointer (some ⟨p_a_, 0, none⟩), .slice sb_l l.length sc_l]) Tryz.func169 rfl rfl rfl fun a hE => ?_
  refine Runs.seq ?_
  refine Runs.region ?_
  refine WR.seg hE 1 [] [0, 1] (Lo := [(0, .pointer (some ⟨p_a_, 0, none⟩)), (1, .slice sb_l l.length sc_l)]) (obs := []) rfl (by kernel_rfl) trivial fun a hE => ?_
  refine WR.done rfl ?_
  refine Runs.seq ?_
  refine Runs.seq ?_
  refine Runs.region ?_
  refine WR.seg hE 3 [] [0, 1, 11, 12, 13] (Lo := [(0, .pointer (some ⟨p_a_, 0, none⟩)), (1, .slice sb_l l.length sc_l), (11, .slice sb_l l.length sc_l), (12, .int .i64 (l.length : Int)), (13, .int .i64 0)]) (obs := []) rfl (by kernel_rfl) trivial fun a hE => ?_
  refine WR.done rfl ?_
  obtain ⟨s, es, hm⟩ := bind_some hm
  refine Runs.join (fun a w => EnvOk 68 a [(0, .pointer (some ⟨p_a_, 0, none⟩)), (1, .slice sb_l l.length sc_l)] ∧ St w0 (arena_Arena.R p_a_ al_a_ s :: X_l :: As) w) (fun hk => ?_) ?_
  · replace hm := es; clear es
    refine Runs.block ?_
    refine Runs.loop (fun m a w => ∃ (x : Int), ∃ (m_ : arena_Arena), EnvOk 68 a [(0, .pointer (some ⟨p_a_, 0, none⟩)), (1, .slice sb_l l.length sc_l), (11, .slice sb_l l.length sc_l), (12, .int .i64 (l.length : Int)), (13, .int .i64 x)] ∧ St w0 (arena_Arena.R p_a_ al_a_ m_ :: X_l :: As) w ∧ pairing_paired_l0 (l.length : Int) l m x m_ = some s) k ⟨0, a_, hE.sel [0, 1, 11, 12, 13] (by kernel_rfl), H.t1.t1, hm⟩ ?_
    rintro m ih a w ⟨x, m_, hE, H, hm⟩
    cases m with
    | zero => simp [pairing_paired_l0] at hm
    | succ m =>
      rw [pairing_paired_l0] at hm
      refine Runs.seq ?_
      refine Runs.region ?_
      refine WR.seg hE 1 [] [0, 1, 11, 12, 13, 14] (Lo := [(0, .pointer (some ⟨p_a_, 0, none⟩)), (1, .slice sb_l l.length sc_l), (11, .slice sb_l l.length sc_l), (12, .int .i64 (l.length : Int)), (13, .int .i64 x), (14, .bool (decide (x < (l.length : Int))))]) (obs := []) rfl (by kernel_rfl) trivial fun a hE => ?_
      refine WR.done rfl ?_
      refine Runs.seq ?_
      refine Runs.cond hE rfl (fun c => ?_) (fun c => ?_)
      · replace hm := cond_t c hm
        refine Runs.skip ?_
        refine Runs.seq ?_
        refine Runs.block ?_
        refine Runs.seq ?_
        refine Runs.region ?_
        obtain ⟨x2, ex2, hm⟩ := bind_some hm
        obtain ⟨b, o, hs, hb⟩ := SlRd.base hX_l ecI_ok H 1 rfl ex2
        refine WR.seg hE 3 [.pointer (some ⟨b, o, none⟩), .int .i64 x2] [0, 1, 6, 11, 12, 13] (Lo := [(0, .pointer (some ⟨p_a_, 0, none⟩)), (1, .slice sb_l l.length sc_l), (6, .int .i64 x2), (11, .slice sb_l l.length sc_l), (12, .int .i64 (l.length : Int)), (13, .int .i64 x)]) (obs := [.p ((sb_l : Option Addr) = some ⟨b, o, none⟩), .p (0 ≤ (x : Int) ∧ (x : Int) < ((l.length : Nat) : Int)), .cell ⟨b, o + (Int.toNat x) * 1, none⟩ (.int .i64 x2)]) rfl (by kernel_rfl) ⟨hs, hb, SlRd.cells hX_l ecI_ok H 1 rfl hs ex2 0 _ rfl, trivial⟩ fun a hE => ?_
        refine WR.done rfl ?_
        refine Runs.region ?_
        refine WR.seg hE 2 [] [0, 1, 11, 12, 13, 17, 18] (Lo := [(0, .pointer (some ⟨p_a_, 0, none⟩)), (1, .slice sb_l l.length sc_l), (11, .slice sb_l l.length sc_l), (12, .int .i64 (l.length : Int)), (13, .int .i64 x), (17, .pointer (some ⟨p_a_, 0, none⟩)), (18, .int .i64 x2)]) (obs := []) rfl (by kernel_rfl) trivial fun a hE => ?_
        obtain ⟨t_, et_, hm⟩ := bind_some hm
        refine WR.eff hE rfl rfl rfl rfl (OpTo.fn hE rfl rfl Tryz.call171 (pairing_root_ok et_ H)) ?_
        rintro _ w ⟨rfl, hf, H⟩ a hE
        refine WR.done rfl ?_
        refine Runs.inBlock ?_
        refine Runs.region ?_
        refine WR.seg hE 2 [] [0, 1, 11, 12, 13] (Lo := [(0, .pointer (some ⟨p_a_, 0, none⟩)), (1, .slice sb_l l.length sc_l), (11, .slice sb_l l.length sc_l), (12, .int .i64 (l.length : Int)), (13, .int .i64 (w64 (x + 1)))]) (obs := []) rfl (by kernel_rfl) trivial fun a hE => ?_
        refine WR.done rfl ?_
        exact ih m (Nat.lt_succ_self m) _ _ ⟨w64 (x + 1), t_, hE.sel [0, 1, 11, 12, 13] (by kernel_rfl), H.t1.t1, hm⟩
      · replace hm := cond_f c hm
        refine Runs.exit rfl ?_
        cases hm
        exact hk _ _ ⟨hE.sel [0, 1] (by kernel_rfl), H.t1.t1⟩
  rintro a w ⟨hE, H⟩
  refine Runs.seq ?_
  refine Runs.region ?_
  refine WR.seg hE 1 [] [0, 1, 7] (Lo := [(0, .pointer (some ⟨p_a_, 0, none⟩)), (1, .slice sb_l l.length sc_l), (7, .slice none 0 0)]) (obs := []) rfl (by kernel_rfl) trivial fun a hE => ?_
  refine WR.done rfl ?_
  refine Runs.seq ?_
  refine Runs.seq ?_
  refine Runs.region ?_
  refine WR.seg hE 1 [] [0, 1, 7, 8] (Lo := [(0, .pointer (some ⟨p_a_, 0, none⟩)), (1, .slice sb_l l.length sc_l), (7, .slice none 0 0), (8, .int .i64 0)]) (obs := []) rfl (by kernel_rfl) trivial fun a hE => ?_
  refine WR.done rfl ?_
  obtain ⟨s1, es1, hm⟩ := bind_some hm
  refine Runs.join (fun a w => ∃ (sb1 : Option Addr), ∃ (sc1 : Nat), EnvOk 68 a [(0, .pointer (some ⟨p_a_, 0, none⟩)), (7, .slice sb1 s1.1.length sc1)] ∧ St w0 (Sl 3 ecI 1 sb1 sc1 s1.1 :: arena_Arena.R p_a_ al_a_ s1.2 :: X_l :: As) w) (fun hk => ?_) ?_
  · replace hm := es1; clear es1
    replace H := H.slNil 3 ecI 1
    refine Runs.block ?_
    refine Runs.loop (fun m a w => ∃ (pairs : List Int), ∃ (k_ : Int), ∃ (m_1 : arena_Arena), ∃ (sb2 : Option Addr), ∃ (sc2 : Nat), EnvOk 68 a [(0, .pointer (some ⟨p_a_, 0, none⟩)), (1, .slice sb_l l.length sc_l), (7, .slice sb2 pairs.length sc2), (8, .int .i64 k_)] ∧ St w0 (Sl 3 ecI 1 sb2 sc2 pairs :: arena_Arena.R p_a_ al_a_ m_1 :: X_l :: As) w ∧ pairing_paired_l1 l m pairs k_ m_1 = some s1) k ⟨([] : List Int), 0, s, none, 0, hE.sel [0, 1, 7, 8] (by kernel_rfl), H.t2.t2.t2, hm⟩ ?_
    rintro m ih a w ⟨pairs, k_, m_1, sb2, sc2, hE, H, hm⟩
    cases m with
    | zero => simp [pairing_paired_l1] at hm
    | succ m =>
      rw [pairing_paired_l1] at hm
      refine Runs.seq ?_
      refine Runs.seq ?_
      refine Runs.region ?_
      refine WR.seg hE 4 [] [0, 1, 7, 8, 24] (Lo := [(0, .pointer (some ⟨p_a_, 0, none⟩)), (1, .slice sb_l l.length sc_l), (7, .slice sb2 pairs.length sc2), (8, .int .i64 k_), (24, .bool (decide (k_ < (l.length : Int))))]) (obs := []) rfl (by kernel_rfl) trivial fun a hE => ?_
      refine WR.done rfl ?_
      refine Runs.cond hE rfl (fun c => ?_) (fun c => ?_)
      · replace hm := cond_t c hm
        refine Runs.skip ?_
        refine Runs.seq ?_
        obtain ⟨s2, es2, hm⟩ := bind_some hm
        refine Runs.join (fun a w => ∃ (sb3 : Option Addr), ∃ (sc3 : Nat), EnvOk 68 a [(0, .pointer (some ⟨p_a_, 0, none⟩)), (1, .slice sb_l l.length sc_l), (7, .slice sb3 s2.1.length sc3), (8, .int .i64 k_)] ∧ St w0 (Sl 3 ecI 1 sb3 sc3 s2.1 :: arena_Arena.R p_a_ al_a_ s2.2 :: X_l :: As) w) (fun hk => ?_) ?_
        · replace hm := es2; clear es2
          refine Runs.block ?_
          refine Runs.seq ?_
          refine Runs.region ?_
          refine WR.seg hE 5 [] [0, 1, 7, 8, 31] (Lo := [(0, .pointer (some ⟨p_a_, 0, none⟩)), (1, .slice sb_l l.length sc_l), (7, .slice sb2 pairs.length sc2), (8, .int .i64 k_), (31, .bool (decide (w64 (k_ + 1) < (l.length : Int))))]) (obs := []) rfl (by kernel_rfl) trivial fun a hE => ?_
          refine WR.done rfl ?_
          refine Runs.cond hE rfl (fun c => ?_) (fun c => ?_)
          · replace hm := cond_t c hm
            refine Runs.drawn mixed (by kernel_rfl) ?_
            replace H := H.drew
            obtain ⟨x3, ex3, hm⟩ := bind_some hm
            obtain ⟨b1, o1, hs1, hb1⟩ := SlRd.base hX_l ecI_ok H 2 rfl ex3
            obtain ⟨x4, ex4, hm⟩ := bind_some hm
            obtain ⟨b2, o2, hs2, hb2⟩ := SlRd.base hX_l ecI_ok H 2 rfl ex4
            refine WQ.seg hE [0, 1, 2, 3, 4, 5, 6, 7, 8, 9, 10] [.pointer (some ⟨b1, o1, none⟩), .int .i64 x3, .pointer (some ⟨b2, o2, none⟩), .int .i64 x4] [0, 1, 7, 8, 32, 33, 37, 42] (Lo := [(0, .pointer (some ⟨p_a_, 0, none⟩)), (1, .slice sb_l l.length sc_l), (7, .slice sb2 pairs.length sc2), (8, .int .i64 k_), (32, .slice sb2 pairs.length sc2), (33, .pointer (some ⟨p_a_, 0, none⟩)), (37, .int .i64 x3), (42, .int .i64 x4)]) (obs := [.p ((sb_l : Option Addr) = some ⟨b1, o1, none⟩), .p (0 ≤ (k_ : Int) ∧ (k_ : Int) < ((l.length : Nat) : Int)), .cell ⟨b1, o1 + (Int.toNat k_) * 1, none⟩ (.int .i64 x3), .p ((sb_l : Option Addr) = some ⟨b2, o2, none⟩), .p (0 ≤ ((w64 (k_ + 1)) : Int) ∧ ((w64 (k_ + 1)) : Int) < ((l.length : Nat) : Int)), .cell ⟨b2, o2 + (Int.toNat (w64 (k_ + 1))) * 1, none⟩ (.int .i64 x4)]) (by kernel_rfl) (by kernel_rfl) ⟨hs1, hb1, SlRd.cells hX_l ecI_ok H 2 rfl hs1 ex3 0 _ rfl, hs2, hb2, SlRd.cells hX_l ecI_ok H 2 rfl hs2 ex4 0 _ rfl, trivial⟩ fun a hE => ?_
            obtain ⟨t_1, et_1, hm⟩ := bind_some hm
            refine WQ.eff (j := 11) (obs := []) hE (by kernel_rfl) rfl rfl rfl rfl (by kernel_rfl) (OpTo.fn hE rfl rfl Tryz.call138 (pairing_link_ok et_1 H.t1)) ?_
            rintro _ w ⟨rfl, H⟩
            refine ⟨trivial, fun a hE => ?_⟩
            refine WQ.eff (j := 12) (obs := []) hE (by kernel_rfl) rfl rfl rfl rfl (by kernel_rfl) (OpTo.buildSl (T := 3) hE H ecI_ok ([t_1.1] : List Int) rfl (fun _ => by kernel_rfl) rfl rfl rfl) ?_
            rintro _ w ⟨r, rfl, H⟩
            refine ⟨trivial, fun a hE => ?_⟩
            obtain ⟨l3, el3, hm⟩ := bind_some hm
            replace H := H.t2
            refine WQ.eff (j := 13) (obs := []) hE (by kernel_rfl) rfl rfl rfl rfl (by kernel_rfl) (OpTo.appendM el3 hE H ecI_ok rfl rfl rfl rfl rfl rfl rfl rfl rfl rfl (SlRd.all (sl_rd 3 ecI 1 _ _ _) ecI_ok H 1 rfl) rfl) ?_
            rintro _ w ⟨sb4, sc4, rfl, H⟩
            refine ⟨trivial, fun a hE => ?_⟩
            refine WQ.seg hE [14] [] [0, 1, 7, 8] (Lo := [(0, .pointer (some ⟨p_a_, 0, none⟩)), (1, .slice sb_l l.length sc_l), (7, .slice sb4 l3.length sc4), (8, .int .i64 k_)]) (obs := []) (by kernel_rfl) (by kernel_rfl) trivial fun a hE => ?_
            refine WQ.done (by kernel_rfl) ?_
            refine Runs.inBlock ?_
            cases hm
            exact hk _ _ ⟨sb4, sc4, hE.sel [0, 1, 7, 8] (by kernel_rfl), H.x1.t2.t2.t2⟩
          · replace hm := cond_f c hm
            refine Runs.region ?_
            obtain ⟨x5, ex5, hm⟩ := bind_some hm
            obtain ⟨b3, o3, hs3, hb3⟩ := SlRd.base hX_l ecI_ok H 2 rfl ex5
            refine WR.seg hE 5 [.pointer (some ⟨b3, o3, none⟩), .int .i64 x5] [0, 1, 7, 8, 46, 50] (Lo := [(0, .pointer (some ⟨p_a_, 0, none⟩)), (1, .slice sb_l l.length sc_l), (7, .slice sb2 pairs.length sc2), (8, .int .i64 k_), (46, .slice sb2 pairs.length sc2), (50, .int .i64 x5)]) (obs := [.p ((sb_l : Option Addr) = some ⟨b3, o3, none⟩), .p (0 ≤ (k_ : Int) ∧ (k_ : Int) < ((l.length : Nat) : Int)), .cell ⟨b3, o3 + (Int.toNat k_) * 1, none⟩ (.int .i64 x5)]) rfl (by kernel_rfl) ⟨hs3, hb3, SlRd.cells hX_l ecI_ok H 2 rfl hs3 ex5 0 _ rfl, trivial⟩ fun a hE => ?_
            refine WR.eff hE rfl rfl rfl rfl (OpTo.buildSl (T := 3) hE H ecI_ok ([x5] : List Int) rfl (fun _ => by kernel_rfl) rfl rfl rfl) ?_
            rintro _ w ⟨r1, rfl, H⟩ a hE
            obtain ⟨l4, el4, hm⟩ := bind_some hm
            replace H := H.t1
            refine WR.eff hE rfl rfl rfl rfl (OpTo.appendM el4 hE H ecI_ok rfl rfl rfl rfl rfl rfl rfl rfl rfl rfl (SlRd.all (sl_rd 3 ecI 1 _ _ _) ecI_ok H 1 rfl) rfl) ?_
            rintro _ w ⟨sb5, sc5, rfl, H⟩ a hE
            refine WR.seg hE 8 [] [0, 1, 7, 8] (Lo := [(0, .pointer (some ⟨p_a_, 0, none⟩)), (1, .slice sb_l l.length sc_l), (7, .slice sb5 l4.length sc5), (8, .int .i64 k_)]) (obs := []) rfl (by kernel_rfl) trivial fun a hE => ?_
            refine WR.done rfl ?_
            refine Runs.inBlock ?_
            cases hm
            exact hk _ _ ⟨sb5, sc5, hE.sel [0, 1, 7, 8] (by kernel_rfl), H.x1.t2.t2.t2⟩
        rintro a w ⟨sb3, sc3, hE, H⟩
        refine Runs.region ?_
        refine WR.seg hE 3 [] [0, 1, 7, 8] (Lo := [(0, .pointer (some ⟨p_a_, 0, none⟩)), (1, .slice sb_l l.length sc_l), (7, .slice sb3 s2.1.length sc3), (8, .int .i64 (w64 (k_ + 2)))]) (obs := []) rfl (by kernel_rfl) trivial fun a hE => ?_
        refine WR.done rfl ?_
        exact ih m (Nat.lt_succ_self m) _ _ ⟨s2.1, w64 (k_ + 2), s2.2, sb3, sc3, hE.sel [0, 1, 7, 8] (by kernel_rfl), H.t2.t2.t2, hm⟩
      · replace hm := cond_f c hm
        refine Runs.exit rfl ?_
        cases hm
        exact hk _ _ ⟨sb2, sc2, hE.sel [0, 7] (by kernel_rfl), H.t2.t2.t2⟩
  rintro a w ⟨sb1, sc1, hE, H⟩
  refine Runs.seq ?_
  refine Runs.region ?_
  refine WR.seg hE 1 [] [0, 7, 9] (Lo := [(0, .pointer (some ⟨p_a_, 0, none⟩)), (7, .slice sb1 s1.1.length sc1), (9, .int .i64 (-1))]) (obs := []) rfl (by kernel_rfl) trivial fun a hE => ?_
  refine WR.done rfl ?_
  refine Runs.seq ?_
  refine Runs.seq ?_
  refine Runs.region ?_
  refine WR.seg hE 4 [] [0, 7, 9, 10] (Lo := [(0, .pointer (some ⟨p_a_, 0, none⟩)), (7, .slice sb1 s1.1.length sc1), (9, .int .i64 (-1)), (10, .int .i64 (w64 ((s1.1.length : Int) - 1)))]) (obs := []) rfl (by kernel_rfl) trivial fun a hE => ?_
  refine WR.done rfl ?_
  obtain ⟨s3, es3, hm⟩ := bind_some hm
  refine Runs.join (fun a w => EnvOk 68 a [(9, .int .i64 s3.1)] ∧ St w0 (arena_Arena.R p_a_ al_a_ s3.2 :: X_l :: As) w) (fun hk => ?_) ?_
  · replace hm := es3; clear es3
    refine Runs.block ?_
    refine Runs.loop (fun m a w => ∃ (top : Int), ∃ (k_1 : Int), ∃ (m_2 : arena_Arena), EnvOk 68 a [(0, .pointer (some ⟨p_a_, 0, none⟩)), (7, .slice sb1 s1.1.length sc1), (9, .int .i64 top), (10, .int .i64 k_1)] ∧ St w0 (Sl 3 ecI 1 sb1 sc1 s1.1 :: arena_Arena.R p_a_ al_a_ m_2 :: X_l :: As) w ∧ pairing_paired_l2 s1.1 l m top k_1 m_2 = some s3) k ⟨(-1), w64 ((s1.1.length : Int) - 1), s1.2, hE.sel [0, 7, 9, 10] (by kernel_rfl), H.t2.t2.t2, hm⟩ ?_
    rintro m ih a w ⟨top, k_1, m_2, hE, H, hm⟩
    cases m with
    | zero => simp [pairing_paired_l2] at hm
    | succ m =>
      rw [pairing_paired_l2] at hm
      refine Runs.seq ?_
      refine Runs.seq ?_
      refine Runs.region ?_
      refine WR.seg hE 2 [] [0, 7, 9, 10, 57] (Lo := [(0, .pointer (some ⟨p_a_, 0, none⟩)), (7, .slice sb1 s1.1.length sc1), (9, .int .i64 top), (10, .int .i64 k_1), (57, .bool (decide (k_1 ≥ 0)))]) (obs := []) rfl (by kernel_rfl) trivial fun a hE => ?_
      refine WR.done rfl ?_
      refine Runs.cond hE rfl (fun c => ?_) (fun c => ?_)
      · replace hm := cond_t c hm
        refine Runs.skip ?_
        refine Runs.seq ?_
        refine Runs.block ?_
        refine Runs.region ?_
        obtain ⟨x6, ex6, hm⟩ := bind_some hm
        obtain ⟨b4, o4, hs4, hb4⟩ := SlRd.base (sl_rd 3 ecI 1 _ _ _) ecI_ok H 0 rfl ex6
        refine WR.seg hE 6 [.pointer (some ⟨b4, o4, none⟩), .int .i64 x6] [0, 7, 9, 10, 60, 64, 65] (Lo := [(0, .pointer (some ⟨p_a_, 0, none⟩)), (7, .slice sb1 s1.1.length sc1), (9, .int .i64 top), (10, .int .i64 k_1), (60, .pointer (some ⟨p_a_, 0, none⟩)), (64, .int .i64 x6), (65, .int .i64 top)]) (obs := [.p ((sb1 : Option Addr) = some ⟨b4, o4, none⟩), .p (0 ≤ (k_1 : Int) ∧ (k_1 : Int) < ((s1.1.length : Nat) : Int)), .cell ⟨b4, o4 + (Int.toNat k_1) * 1, none⟩ (.int .i64 x6)]) rfl (by kernel_rfl) ⟨hs4, hb4, SlRd.cells (sl_rd 3 ecI 1 _ _ _) ecI_ok H 0 rfl hs4 ex6 0 _ rfl, trivial⟩ fun a hE => ?_
        obtain ⟨t_2, et_2, hm⟩ := bind_some hm
        refine WR.eff hE rfl rfl rfl rfl (OpTo.fn hE rfl rfl Tryz.call138 (pairing_link_ok et_2 H.t1)) ?_
        rintro _ w ⟨rfl, H⟩ a hE
        refine WR.seg hE 8 [] [0, 7, 9, 10] (Lo := [(0, .pointer (some ⟨p_a_, 0, none⟩)), (7, .slice sb1 s1.1.length sc1), (9, .int .i64 t_2.1), (10, .int .i64 k_1)]) (obs := []) rfl (by kernel_rfl) trivial fun a hE => ?_
        refine WR.done rfl ?_
        refine Runs.inBlock ?_
        refine Runs.region ?_
        refine WR.seg hE 3 [] [0, 7, 9, 10] (Lo := [(0, .pointer (some ⟨p_a_, 0, none⟩)), (7, .slice sb1 s1.1.length sc1), (9, .int .i64 t_2.1), (10, .int .i64 (w64 (k_1 - 1)))]) (obs := []) rfl (by kernel_rfl) trivial fun a hE => ?_
        refine WR.done rfl ?_
        exact ih m (Nat.lt_succ_self m) _ _ ⟨t_2.1, w64 (k_1 - 1), t_2.2, hE.sel [0, 7, 9, 10] (by kernel_rfl), H.t2.t1.t2, hm⟩
      · replace hm := cond_f c hm
        refine Runs.exit rfl ?_
        cases hm
        exact hk _ _ ⟨hE.sel [9] (by kernel_rfl), H.x0.t1.t1⟩
  rintro a w ⟨hE, H⟩
  refine Runs.seq ?_
  refine Runs.region ?_
  refine WR.seg hE 2 [] [4] (Lo := [(4, .int .i64 s3.1)]) (obs := []) rfl (by kernel_rfl) trivial fun a hE => ?_
  refine WR.done rfl ?_
  refine Runs.ret hE Tryz.func169 rfl rfl ?_
  cases hm
  exact ⟨rfl, H.t1.t1⟩

theorem pairing_pop_ok {w0 w : World} {As : List HP} {k : Nat} {p_a_ : Nat} {al_a_ : arena_Arena.A} {a_ : arena_Arena} {n : Int} {t : Int × Int × arena_Arena}  (hm : pairing_pop k a_ n = some t) (H : St w0 (arena_Arena.R p_a_ al_a_ a_ :: As) w) :
    CallsR Tryz.prog 142 #[.pointer (some ⟨p_a_, 0, none⟩), .int .i64 n] w fun v w' => ∃ (z_a__free_b : Option Addr), ∃ (z_a__free_c : Nat), v = .tuple #[.int .i64 t.1, .int .i64 t.2.1] ∧ St w0 (arena_Arena.R p_a_ (arena_Arena.A.mk al_a_.l_b al_a_.l_c z_a__free_b z_a__free_c al_a_.m__p) t.2.2 :: As) w' := by
  rw [pairing_pop] at hm
  refine enter (args := [.pointer (some ⟨p_a_, 0, none⟩), .int .i64 n]) Tryz.func142 rfl rfl rfl fun a hE => ?_
  refine Runs.seq ?_
  refine Runs.region ?_
  refine WR.seg hE 2 [] [0, 1] (Lo := [(0, .pointer (some ⟨p_a_, 0, none⟩)), (1, .int .i64 n)]) (obs := []) rfl (by kernel_rfl) trivial fun a hE => ?_
  refine WR.done rfl ?_
  refine Runs.seq ?_
  refine Runs.region ?_
  refine WR.seg hE 2 [] [0, 1, 8, 9] (Lo := [(0, .pointer (some ⟨p_a_, 0, none⟩)), (1, .int .i64 n), (8, .pointer (some ⟨p_a_, 0, none⟩)), (9, .int .i64 n)]) (obs := []) rfl (by kernel_rfl) trivial fun a hE => ?_
  obtain ⟨t_, et_, hm⟩ := bind_some hm
  refine WR.eff hE rfl rfl rfl rfl (OpTo.fn hE rfl rfl Tryz.call168 (pairing_kids_ok et_ H)) ?_
  rintro _ w ⟨sb, sc, rfl, H⟩ a hE
  refine WR.seg hE 4 [] [0, 1, 6] (Lo := [(0, .pointer (some ⟨p_a_, 0, none⟩)), (1, .int .i64 n), (6, .slice sb t_.1.length sc)]) (obs := []) rfl (by kernel_rfl) trivial fun a hE => ?_
  refine WR.done rfl ?_
  refine Runs.seq ?_
  refine Runs.region ?_
  refine WR.seg hE 2 [] [0, 6, 11, 12] (Lo := [(0, .pointer (some ⟨p_a_, 0, none⟩)), (6, .slice sb t_.1.length sc), (11, .pointer (some ⟨p_a_, 0, none⟩)), (12, .int .i64 n)]) (obs := []) rfl (by kernel_rfl) trivial fun a hE => ?_
  obtain ⟨t_1, et_1, hm⟩ := bind_some hm
  refine WR.eff hE rfl rfl rfl rfl (OpTo.fn hE rfl rfl Tryz.call123 (node_End_ok et_1 H.t1)) ?_
  rintro _ w ⟨z, z1, rfl, H⟩ a hE
  refine WR.seg hE 4 [] [0, 6, 7] (Lo := [(0, .pointer (some ⟨p_a_, 0, none⟩)), (6, .slice sb t_.1.length sc), (7, .int .i64 t_1.1)]) (obs := []) rfl (by kernel_rfl) trivial fun a hE => ?_
  refine WR.done rfl ?_
  refine Runs.seq ?_
  refine Runs.region ?_
  refine WR.seg hE 2 [] [7, 14, 15] (Lo := [(7, .int .i64 t_1.1), (14, .pointer (some ⟨p_a_, 0, none⟩)), (15, .slice sb t_.1.length sc)]) (obs := []) rfl (by kernel_rfl) trivial fun a hE => ?_
  obtain ⟨t_2, et_2, hm⟩ := bind_some hm
  replace H := H.t1.t1
  refine WR.eff hE rfl rfl rfl rfl (OpTo.fn hE rfl rfl Tryz.call169 (pairing_paired_ok (hX_l := (sl_rd 3 ecI 1 _ _ _)) (hC_l := (H.slCap 1 rfl).1) et_2 H)) ?_
  rintro _ w ⟨rfl, H⟩ a hE
  refine WR.seg hE 6 [] [4, 5] (Lo := [(4, .int .i64 t_2.1), (5, .int .i64 t_1.1)]) (obs := []) rfl (by kernel_rfl) trivial fun a hE => ?_
  refine WR.done rfl ?_
  refine Runs.ret hE Tryz.func142 rfl rfl ?_
  cases hm
  exact ⟨z, z1, rfl, H.x1⟩

theorem pairing_Pop_ok {w0 w : World} {As : List HP} {k : Nat} {p_a_ : Nat} {al_a_ : arena_Arena.A} {a_ : arena_Arena} {r : Int} {t : Int × Int × arena_Arena}  (hm : pairing_Pop k a_ r = some t) (H : St w0 (arena_Arena.R p_a_ al_a_ a_ :: As) w) :
    CallsR Tryz.prog 84 #[.pointer (some ⟨p_a_, 0, none⟩), .int .i64 r] w fun v w' => ∃ (z_a__free_b : Option Addr), ∃ (z_a__free_c : Nat), v = .tuple #[.int .i64 t.1, .int .i64 t.2.1] ∧ St w0 (arena_Arena.R p_a_ (arena_Arena.A.mk al_a_.l_b al_a_.l_c z_a__free_b z_a__free_c al_a_.m__p) t.2.2 :: As) w' := by
  rw [pairing_Pop] at hm
  refine enter (args := [.pointer (some ⟨p_a_, 0, none⟩), .int .i64 r]) Tryz.func84 rfl rfl rfl fun a hE => ?_
  refine Runs.seq ?_
  refine Runs.region ?_
  refine WR.seg hE 2 [] [0, 1] (Lo := [(0, .pointer (some ⟨p_a_, 0, none⟩)), (1, .int .i64 r)]) (obs := []) rfl (by kernel_rfl) trivial fun a hE => ?_
  refine WR.done rfl ?_
  refine Runs.seq ?_
  refine Runs.seq ?_
  obtain ⟨s, es, hm⟩ := bind_some hm
  refine Runs.join (fun a w => EnvOk 19 a [(0, .pointer (some ⟨p_a_, 0, none⟩)), (1, .int .i64 r), (13, .bool s)] ∧ St w0 (arena_Arena.R p_a_ al_a_ a_ :: As) w) (fun hk => ?_) ?_
  · replace hm := es; clear es
    refine Runs.region ?_
    refine WR.seg hE 5 [] [0, 1, 8, 9, 10] (Lo := [(0, .pointer (some ⟨p_a_, 0, none⟩)), (1, .int .i64 r), (8, .bool false), (9, .pointer (some ⟨p_a_, 0, none⟩)), (10, .int .i64 r)]) (obs := []) rfl (by kernel_rfl) trivial fun a hE => ?_
    obtain ⟨t_, et_, hm⟩ := bind_some hm
    refine WR.eff hE rfl rfl rfl rfl (OpTo.fn hE rfl rfl Tryz.call58 (arena_Arena_Live_ok et_ H)) ?_
    rintro _ w ⟨rfl, H⟩ a hE
    refine WR.seg hE 8 [] [0, 1, 13] (Lo := [(0, .pointer (some ⟨p_a_, 0, none⟩)), (1, .int .i64 r), (13, .bool (!t_))]) (obs := []) rfl (by kernel_rfl) trivial fun a hE => ?_
    refine WR.done rfl ?_
    cases hm
    exact hk _ _ ⟨hE.sel [0, 1, 13] (by kernel_rfl), H⟩
  rintro a w ⟨hE, H⟩
  refine Runs.cond hE rfl (fun c => ?_) (fun c => ?_)
  · replace hm := cond_t c hm
    refine Runs.seq ?_
    refine Runs.region ?_
    refine WR.seg hE 2 [] [4, 5] (Lo := [(4, .int .i64 (-1)), (5, .int .i64 (-1))]) (obs := []) rfl (by kernel_rfl) trivial fun a hE => ?_
    refine WR.done rfl ?_
    refine Runs.ret hE Tryz.func84 rfl rfl ?_
    cases hm
    exact ⟨al_a_.free_b, al_a_.free_c, rfl, H⟩
  · replace hm := cond_f c hm
    refine Runs.skip ?_
    refine Runs.seq ?_
    refine Runs.region ?_
    refine WR.seg hE 2 [] [14, 15] (Lo := [(14, .pointer (some ⟨p_a_, 0, none⟩)), (15, .int .i64 r)]) (obs := []) rfl (by kernel_rfl) trivial fun a hE => ?_
    obtain ⟨t_1, et_1, hm⟩ := bind_some hm
    refine WR.eff hE rfl rfl rfl rfl (OpTo.fn hE rfl rfl Tryz.call142 (pairing_pop_ok et_1 H)) ?_
    rintro _ w ⟨z, z1, rfl, H⟩ a hE
    refine WR.seg hE 7 [] [4, 5] (Lo := [(4, .int .i64 t_1.1), (5, .int .i64 t_1.2.1)]) (obs := []) rfl (by kernel_rfl) trivial fun a hE => ?_
    refine WR.done rfl ?_
    refine Runs.ret hE Tryz.func84 rfl rfl ?_
    cases hm
    exact ⟨z, z1, rfl, H⟩

theorem kind_Pop_ok {w0 w : World} {As : List HP} {k : Nat} {k_ : Int} {p_a_ : Nat} {al_a_ : arena_Arena.A} {a_ : arena_Arena} {r : Int} {t : Int × Int × arena_Arena}  (hm : kind_Pop k k_ a_ r = some t) (H : St w0 (arena_Arena.R p_a_ al_a_ a_ :: As) w) :
    CallsR Tryz.prog 42 #[.int .i64 k_, .pointer (some ⟨p_a_, 0, none⟩), .int .i64 r] w fun v w' => ∃ (z_a__free_b : Option Addr), ∃ (z_a__free_c : Nat), v = .tuple #[.int .i64 t.1, .int .i64 t.2.1] ∧ St w0 (arena_Arena.R p_a_ (arena_Arena.A.mk al_a_.l_b al_a_.l_c z_a__free_b z_a__free_c al_a_.m__p) t.2.2 :: As) w' := by
  rw [kind_Pop] at hm
  refine enter (args := [.int .i64 k_, .pointer (some ⟨p_a_, 0, none⟩), .int .i64 r]) Tryz.func42 rfl rfl rfl fun a hE => ?_
  refine Runs.seq ?_
  refine Runs.region ?_
  refine WR.seg hE 2 [] [0, 1, 2] (Lo := [(0, .int .i64 k_), (1, .pointer (some ⟨p_a_, 0, none⟩)), (2, .int .i64 r)]) (obs := []) rfl (by kernel_rfl) trivial fun a hE => ?_
  refine WR.done rfl ?_
  refine Runs.seq ?_
  refine Runs.seq ?_
  refine Runs.region ?_
  refine WR.seg hE 1 [] [1, 2, 8] (Lo := [(1, .pointer (some ⟨p_a_, 0, none⟩)), (2, .int .i64 r), (8, .int .i64 k_)]) (obs := []) rfl (by kernel_rfl) trivial fun a hE => ?_
  refine WR.done rfl ?_
  refine Runs.block ?_
  refine Runs.seq ?_
  refine Runs.region ?_
  refine WR.seg hE 2 [] [1, 2, 8, 9] (Lo := [(1, .pointer (some ⟨p_a_, 0, none⟩)), (2, .int .i64 r), (8, .int .i64 k_), (9, .bool (k_ == 1))]) (obs := []) rfl (by kernel_rfl) trivial fun a hE => ?_
  refine WR.done rfl ?_
  refine Runs.cond hE rfl (fun c => ?_) (fun c => ?_)
  · replace hm := cond_t c hm
    refine Runs.seq ?_
    refine Runs.region ?_
    refine WR.seg hE 2 [] [11, 12] (Lo := [(11, .pointer (some ⟨p_a_, 0, none⟩)), (12, .int .i64 r)]) (obs := []) rfl (by kernel_rfl) trivial fun a hE => ?_
    obtain ⟨t_, et_, hm⟩ := bind_some hm
    refine WR.eff hE rfl rfl rfl rfl (OpTo.fn hE rfl rfl Tryz.call81 (leftist_Pop_ok et_ H)) ?_
    rintro _ w ⟨z, z1, rfl, H⟩ a hE
    refine WR.seg hE 7 [] [6, 7] (Lo := [(6, .int .i64 t_.1), (7, .int .i64 t_.2.1)]) (obs := []) rfl (by kernel_rfl) trivial fun a hE => ?_
    refine WR.done rfl ?_
    refine Runs.ret hE Tryz.func42 rfl rfl ?_
    cases hm
    exact ⟨z, z1, rfl, H⟩
  · replace hm := cond_f c hm
    refine Runs.seq ?_
    refine Runs.region ?_
    refine WR.seg hE 2 [] [1, 2, 8, 16] (Lo := [(1, .pointer (some ⟨p_a_, 0, none⟩)), (2, .int .i64 r), (8, .int .i64 k_), (16, .bool (k_ == 2))]) (obs := []) rfl (by kernel_rfl) trivial fun a hE => ?_
    refine WR.done rfl ?_
    refine Runs.cond hE rfl (fun c => ?_) (fun c => ?_)
    · replace hm := cond_t c hm
      refine Runs.seq ?_
      refine Runs.region ?_
      refine WR.seg hE 2 [] [18, 19] (Lo := [(18, .pointer (some ⟨p_a_, 0, none⟩)), (19, .int .i64 r)]) (obs := []) rfl (by kernel_rfl) trivial fun a hE => ?_
      obtain ⟨t_1, et_1, hm⟩ := bind_some hm
      refine WR.eff hE rfl rfl rfl rfl (OpTo.fn hE rfl rfl Tryz.call22 (binomial_Pop_ok et_1 H)) ?_
      rintro _ w ⟨z2, z3, rfl, H⟩ a hE
      refine WR.seg hE 7 [] [6, 7] (Lo := [(6, .int .i64 t_1.1), (7, .int .i64 t_1.2.1)]) (obs := []) rfl (by kernel_rfl) trivial fun a hE => ?_
      refine WR.done rfl ?_
      refine Runs.ret hE Tryz.func42 rfl rfl ?_
      cases hm
      exact ⟨z2, z3, rfl, H⟩
    · replace hm := cond_f c hm
      refine Runs.seq ?_
      refine Runs.region ?_
      refine WR.seg hE 2 [] [1, 2, 8, 23] (Lo := [(1, .pointer (some ⟨p_a_, 0, none⟩)), (2, .int .i64 r), (8, .int .i64 k_), (23, .bool (k_ == 3))]) (obs := []) rfl (by kernel_rfl) trivial fun a hE => ?_
      refine WR.done rfl ?_
      refine Runs.cond hE rfl (fun c => ?_) (fun c => ?_)
      · replace hm := cond_t c hm
        refine Runs.seq ?_
        refine Runs.region ?_
        refine WR.seg hE 2 [] [25, 26] (Lo := [(25, .pointer (some ⟨p_a_, 0, none⟩)), (26, .int .i64 r)]) (obs := []) rfl (by kernel_rfl) trivial fun a hE => ?_
        obtain ⟨t_2, et_2, hm⟩ := bind_some hm
        refine WR.eff hE rfl rfl rfl rfl (OpTo.fn hE rfl rfl Tryz.call82 (skew_Pop_ok et_2 H)) ?_
        rintro _ w ⟨z4, z5, rfl, H⟩ a hE
        refine WR.seg hE 7 [] [6, 7] (Lo := [(6, .int .i64 t_2.1), (7, .int .i64 t_2.2.1)]) (obs := []) rfl (by kernel_rfl) trivial fun a hE => ?_
        refine WR.done rfl ?_
        refine Runs.ret hE Tryz.func42 rfl rfl ?_
        cases hm
        exact ⟨z4, z5, rfl, H⟩
      · replace hm := cond_f c hm
        refine Runs.seq ?_
        refine Runs.region ?_
        refine WR.seg hE 2 [] [1, 2, 8, 30] (Lo := [(1, .pointer (some ⟨p_a_, 0, none⟩)), (2, .int .i64 r), (8, .int .i64 k_), (30, .bool (k_ == 4))]) (obs := []) rfl (by kernel_rfl) trivial fun a hE => ?_
        refine WR.done rfl ?_
        refine Runs.cond hE rfl (fun c => ?_) (fun c => ?_)
        · replace hm := cond_t c hm
          refine Runs.seq ?_
          refine Runs.region ?_
          refine WR.seg hE 2 [] [32, 33] (Lo := [(32, .pointer (some ⟨p_a_, 0, none⟩)), (33, .int .i64 r)]) (obs := []) rfl (by kernel_rfl) trivial fun a hE => ?_
          obtain ⟨t_3, et_3, hm⟩ := bind_some hm
          refine WR.eff hE rfl rfl rfl rfl (OpTo.fn hE rfl rfl Tryz.call83 (fib_Pop_ok et_3 H)) ?_
          rintro _ w ⟨z6, z7, rfl, H⟩ a hE
          refine WR.seg hE 7 [] [6, 7] (Lo := [(6, .int .i64 t_3.1), (7, .int .i64 t_3.2.1)]) (obs := []) rfl (by kernel_rfl) trivial fun a hE => ?_
          refine WR.done rfl ?_
          refine Runs.ret hE Tryz.func42 rfl rfl ?_
          cases hm
          exact ⟨z6, z7, rfl, H⟩
        · replace hm := cond_f c hm
          refine Runs.seq ?_
          refine Runs.region ?_
          refine WR.seg hE 2 [] [1, 2, 37] (Lo := [(1, .pointer (some ⟨p_a_, 0, none⟩)), (2, .int .i64 r), (37, .bool (k_ == 5))]) (obs := []) rfl (by kernel_rfl) trivial fun a hE => ?_
          refine WR.done rfl ?_
          refine Runs.cond hE rfl (fun c => ?_) (fun c => ?_)
          · replace hm := cond_t c hm
            refine Runs.seq ?_
            refine Runs.region ?_
            refine WR.seg hE 2 [] [39, 40] (Lo := [(39, .pointer (some ⟨p_a_, 0, none⟩)), (40, .int .i64 r)]) (obs := []) rfl (by kernel_rfl) trivial fun a hE => ?_
            obtain ⟨t_4, et_4, hm⟩ := bind_some hm
            refine WR.eff hE rfl rfl rfl rfl (OpTo.fn hE rfl rfl Tryz.call84 (pairing_Pop_ok et_4 H)) ?_
            rintro _ w ⟨z8, z9, rfl, H⟩ a hE
            refine WR.seg hE 7 [] [6, 7] (Lo := [(6, .int .i64 t_4.1), (7, .int .i64 t_4.2.1)]) (obs := []) rfl (by kernel_rfl) trivial fun a hE => ?_
            refine WR.done rfl ?_
            refine Runs.ret hE Tryz.func42 rfl rfl ?_
            cases hm
            exact ⟨z8, z9, rfl, H⟩
          · replace hm := cond_f c hm
            refine Runs.skip ?_
            refine Runs.inBlock ?_
            refine Runs.seq ?_
            refine Runs.region ?_
            refine WR.seg hE 2 [] [6, 7] (Lo := [(6, .int .i64 (-1)), (7, .int .i64 (-1))]) (obs := []) rfl (by kernel_rfl) trivial fun a hE => ?_
            refine WR.done rfl ?_
            refine Runs.ret hE Tryz.func42 rfl rfl ?_
            cases hm
            exact ⟨al_a_.free_b, al_a_.free_c, rfl, H⟩

theorem leftist_Min_ok {w0 w : World} {As : List HP} {p_a_ : Nat} {al_a_ : arena_Arena.A} {a_ : arena_Arena} {r : Int} {t : Int × arena_Arena}  (hm : leftist_Min a_ r = some t) (H : St w0 (arena_Arena.R p_a_ al_a_ a_ :: As) w) :
    CallsR Tryz.prog 85 #[.pointer (some ⟨p_a_, 0, none⟩), .int .i64 r] w fun v w' => v = .int .i64 t.1 ∧ St w0 (arena_Arena.R p_a_ al_a_ t.2 :: As) w' := by
  rw [leftist_Min] at hm
  refine enter (args := [.pointer (some ⟨p_a_, 0, none⟩), .int .i64 r]) Tryz.func85 rfl rfl rfl fun a hE => ?_
  refine Runs.seq ?_
  refine Runs.region ?_
  refine WR.seg hE 1 [] [0, 1] (Lo := [(0, .pointer (some ⟨p_a_, 0, none⟩)), (1, .int .i64 r)]) (obs := []) rfl (by kernel_rfl) trivial fun a hE => ?_
  refine WR.done rfl ?_
  refine Runs.seq ?_
  refine Runs.seq ?_
  refine Runs.region ?_
  refine WR.seg hE 2 [] [0, 1, 6] (Lo := [(0, .pointer (some ⟨p_a_, 0, none⟩)), (1, .int .i64 r), (6, .bool false)]) (obs := []) rfl (by kernel_rfl) trivial fun a hE => ?_
  refine WR.done rfl ?_
  refine Runs.condF hE rfl ?_
  refine Runs.skip ?_
  refine Runs.seq ?_
  refine Runs.region ?_
  refine WR.seg hE 2 [] [7, 8] (Lo := [(7, .pointer (some ⟨p_a_, 0, none⟩)), (8, .int .i64 r)]) (obs := []) rfl (by kernel_rfl) trivial fun a hE => ?_
  obtain ⟨t_, et_, hm⟩ := bind_some hm
  refine WR.eff hE rfl rfl rfl rfl (OpTo.fn hE rfl rfl Tryz.call73 (arena_Arena_Cell_ok et_ H)) ?_
  rintro _ w ⟨rfl, H⟩ a hE
  refine WR.seg hE 4 [] [4] (Lo := [(4, .int .i64 t_.1)]) (obs := []) rfl (by kernel_rfl) trivial fun a hE => ?_
  refine WR.done rfl ?_
  refine Runs.ret hE Tryz.func85 rfl rfl ?_
  cases hm
  exact ⟨rfl, H⟩

theorem binomial_Min_ok {w0 w : World} {As : List HP} {k : Nat} {p_a_ : Nat} {al_a_ : arena_Arena.A} {a_ : arena_Arena} {r : Int} {t : Int × arena_Arena}  (hm : binomial_Min k a_ r = some t) (H : St w0 (arena_Arena.R p_a_ al_a_ a_ :: As) w) :
    CallsR Tryz.prog 33 #[.pointer (some ⟨p_a_, 0, none⟩), .int .i64 r] w fun v w' => v = .int .i64 t.1 ∧ St w0 (arena_Arena.R p_a_ al_a_ t.2 :: As) w' := by
  rw [binomial_Min] at hm
  refine enter (args := [.pointer (some ⟨p_a_, 0, none⟩), .int .i64 r]) Tryz.func33 rfl rfl rfl fun a hE => ?_
  refine Runs.seq ?_
  refine Runs.region ?_
  refine WR.seg hE 1 [] [0, 1] (Lo := [(0, .pointer (some ⟨p_a_, 0, none⟩)), (1, .int .i64 r)]) (obs := []) rfl (by kernel_rfl) trivial fun a hE => ?_
  refine WR.done rfl ?_
  refine Runs.seq ?_
  refine Runs.seq ?_
  refine Runs.region ?_
  refine WR.seg hE 2 [] [0, 1, 6] (Lo := [(0, .pointer (some ⟨p_a_, 0, none⟩)), (1, .int .i64 r), (6, .bool false)]) (obs := []) rfl (by kernel_rfl) trivial fun a hE => ?_
  refine WR.done rfl ?_
  refine Runs.condF hE rfl ?_
  refine Runs.skip ?_
  refine Runs.seq ?_
  refine Runs.region ?_
  refine WR.seg hE 4 [] [7, 8, 9, 10] (Lo := [(7, .pointer (some ⟨p_a_, 0, none⟩)), (8, .pointer (some ⟨p_a_, 0, none⟩)), (9, .pointer (some ⟨p_a_, 0, none⟩)), (10, .int .i64 r)]) (obs := []) rfl (by kernel_rfl) trivial fun a hE => ?_
  obtain ⟨t_, et_, hm⟩ := bind_some hm
  refine WR.eff hE rfl rfl rfl rfl (OpTo.fn hE rfl rfl Tryz.call56 (trees_List_ok et_ H)) ?_
  rintro _ w ⟨sb, sc, rfl, H⟩ a hE
  obtain ⟨t_1, et_1, hm⟩ := bind_some hm
  replace H := H.t1
  refine WR.eff hE rfl rfl rfl rfl (OpTo.fn hE rfl rfl Tryz.call60 (trees_Best_ok (hX_l := (sl_rd 3 ecI 1 _ _ _)) (hC_l := (H.slCap 1 rfl).1) et_1 H)) ?_
  rintro _ w ⟨rfl, H⟩ a hE
  obtain ⟨t_2, et_2, hm⟩ := bind_some hm
  refine WR.eff hE rfl rfl rfl rfl (OpTo.fn hE rfl rfl Tryz.call73 (arena_Arena_Cell_ok et_2 H)) ?_
  rintro _ w ⟨rfl, H⟩ a hE
  refine WR.seg hE 8 [] [4] (Lo := [(4, .int .i64 t_2.1)]) (obs := []) rfl (by kernel_rfl) trivial fun a hE => ?_
  refine WR.done rfl ?_
  refine Runs.ret hE Tryz.func33 rfl rfl ?_
  cases hm
  exact ⟨rfl, H.x1⟩

theorem skew_Min_ok {w0 w : World} {As : List HP} {k : Nat} {p_a_ : Nat} {al_a_ : arena_Arena.A} {a_ : arena_Arena} {r : Int} {t : Int × arena_Arena}  (hm : skew_Min k a_ r = some t) (H : St w0 (arena_Arena.R p_a_ al_a_ a_ :: As) w) :
    CallsR Tryz.prog 86 #[.pointer (some ⟨p_a_, 0, none⟩), .int .i64 r] w fun v w' => v = .int .i64 t.1 ∧ St w0 (arena_Arena.R p_a_ al_a_ t.2 :: As) w' := by
  rw [skew_Min] at hm
  refine enter (args := [.pointer (some ⟨p_a_, 0, none⟩), .int .i64 r]) Tryz.func86 rfl rfl rfl fun a hE => ?_
  refine Runs.seq ?_
  refine Runs.region ?_
  refine WR.seg hE 1 [] [0, 1] (Lo := [(0, .pointer (some ⟨p_a_, 0, none⟩)), (1, .int .i64 r)]) (obs := []) rfl (by kernel_rfl) trivial fun a hE => ?_
  refine WR.done rfl ?_
  refine Runs.seq ?_
  refine Runs.seq ?_
  refine Runs.region ?_
  refine WR.seg hE 2 [] [0, 1, 6] (Lo := [(0, .pointer (some ⟨p_a_, 0, none⟩)), (1, .int .i64 r), (6, .bool false)]) (obs := []) rfl (by kernel_rfl) trivial fun a hE => ?_
  refine WR.done rfl ?_
  refine Runs.condF hE rfl ?_
  refine Runs.skip ?_
  refine Runs.seq ?_
  refine Runs.region ?_
  refine WR.seg hE 4 [] [7, 8, 9, 10] (Lo := [(7, .pointer (some ⟨p_a_, 0, none⟩)), (8, .pointer (some ⟨p_a_, 0, none⟩)), (9, .pointer (some ⟨p_a_, 0, none⟩)), (10, .int .i64 r)]) (obs := []) rfl (by kernel_rfl) trivial fun a hE => ?_
  obtain ⟨t_, et_, hm⟩ := bind_some hm
  refine WR.eff hE rfl rfl rfl rfl (OpTo.fn hE rfl rfl Tryz.call56 (trees_List_ok et_ H)) ?_
  rintro _ w ⟨sb, sc, rfl, H⟩ a hE
  obtain ⟨t_1, et_1, hm⟩ := bind_some hm
  replace H := H.t1
  refine WR.eff hE rfl rfl rfl rfl (OpTo.fn hE rfl rfl Tryz.call60 (trees_Best_ok (hX_l := (sl_rd 3 ecI 1 _ _ _)) (hC_l := (H.slCap 1 rfl).1) et_1 H)) ?_
  rintro _ w ⟨rfl, H⟩ a hE
  obtain ⟨t_2, et_2, hm⟩ := bind_some hm
  refine WR.eff hE rfl rfl rfl rfl (OpTo.fn hE rfl rfl Tryz.call73 (arena_Arena_Cell_ok et_2 H)) ?_
  rintro _ w ⟨rfl, H⟩ a hE
  refine WR.seg hE 8 [] [4] (Lo := [(4, .int .i64 t_2.1)]) (obs := []) rfl (by kernel_rfl) trivial fun a hE => ?_
  refine WR.done rfl ?_
  refine Runs.ret hE Tryz.func86 rfl rfl ?_
  cases hm
  exact ⟨rfl, H.x1⟩

theorem fib_Min_ok {w0 w : World} {As : List HP} {p_a_ : Nat} {al_a_ : arena_Arena.A} {a_ : arena_Arena} {r : Int} {t : Int × arena_Arena}  (hm : fib_Min a_ r = some t) (H : St w0 (arena_Arena.R p_a_ al_a_ a_ :: As) w) :
    CallsR Tryz.prog 87 #[.pointer (some ⟨p_a_, 0, none⟩), .int .i64 r] w fun v w' => v = .int .i64 t.1 ∧ St w0 (arena_Arena.R p_a_ al_a_ t.2 :: As) w' := by
  rw [fib_Min] at hm
  refine enter (args := [.pointer (some ⟨p_a_, 0, none⟩), .int .i64 r]) Tryz.func87 rfl rfl rfl fun a hE => ?_
  refine Runs.seq ?_
  refine Runs.region ?_
  refine WR.seg hE 1 [] [0, 1] (Lo := [(0, .pointer (some ⟨p_a_, 0, none⟩)), (1, .int .i64 r)]) (obs := []) rfl (by kernel_rfl) trivial fun a hE => ?_
  refine WR.done rfl ?_
  refine Runs.seq ?_
  refine Runs.seq ?_
  refine Runs.region ?_
  refine WR.seg hE 2 [] [0, 1, 6] (Lo := [(0, .pointer (some ⟨p_a_, 0, none⟩)), (1, .int .i64 r), (6, .bool false)]) (obs := []) rfl (by kernel_rfl) trivial fun a hE => ?_
  refine WR.done rfl ?_
  refine Runs.condF hE rfl ?_
  refine Runs.skip ?_
  refine Runs.seq ?_
  refine Runs.region ?_
  refine WR.seg hE 2 [] [7, 8] (Lo := [(7, .pointer (some ⟨p_a_, 0, none⟩)), (8, .int .i64 r)]) (obs := []) rfl (by kernel_rfl) trivial fun a hE => ?_
  obtain ⟨t_, et_, hm⟩ := bind_some hm
  refine WR.eff hE rfl rfl rfl rfl (OpTo.fn hE rfl rfl Tryz.call73 (arena_Arena_Cell_ok et_ H)) ?_
  rintro _ w ⟨rfl, H⟩ a hE
  refine WR.seg hE 4 [] [4] (Lo := [(4, .int .i64 t_.1)]) (obs := []) rfl (by kernel_rfl) trivial fun a hE => ?_
  refine WR.done rfl ?_
  refine Runs.ret hE Tryz.func87 rfl rfl ?_
  cases hm
  exact ⟨rfl, H⟩

theorem pairing_Min_ok {w0 w : World} {As : List HP} {p_a_ : Nat} {al_a_ : arena_Arena.A} {a_ : arena_Arena} {r : Int} {t : Int × arena_Arena}  (hm : pairing_Min a_ r = some t) (H : St w0 (arena_Arena.R p_a_ al_a_ a_ :: As) w) :
    CallsR Tryz.prog 88 #[.pointer (some ⟨p_a_, 0, none⟩), .int .i64 r] w fun v w' => v = .int .i64 t.1 ∧ St w0 (arena_Arena.R p_a_ al_a_ t.2 :: As) w' := by
  rw [pairing_Min] at hm
  refine enter (args := [.pointer (some ⟨p_a_, 0, none⟩), .int .i64 r]) Tryz.func88 rfl rfl rfl fun a hE => ?_
  refine Runs.seq ?_
  refine Runs.region ?_
  refine WR.seg hE 1 [] [0, 1] (Lo := [(0, .pointer (some ⟨p_a_, 0, none⟩)), (1, .int .i64 r)]) (obs := []) rfl (by kernel_rfl) trivial fun a hE => ?_
  refine WR.done rfl ?_
  refine Runs.seq ?_
  refine Runs.seq ?_
  refine Runs.region ?_
  refine WR.seg hE 2 [] [0, 1, 6] (Lo := [(0, .pointer (some ⟨p_a_, 0, none⟩)), (1, .int .i64 r), (6, .bool false)]) (obs := []) rfl (by kernel_rfl) trivial fun a hE => ?_
  refine WR.done rfl ?_
  refine Runs.condF hE rfl ?_
  refine Runs.skip ?_
  refine Runs.seq ?_
  refine Runs.region ?_
  refine WR.seg hE 2 [] [7, 8] (Lo := [(7, .pointer (some ⟨p_a_, 0, none⟩)), (8, .int .i64 r)]) (obs := []) rfl (by kernel_rfl) trivial fun a hE => ?_
  obtain ⟨t_, et_, hm⟩ := bind_some hm
  refine WR.eff hE rfl rfl rfl rfl (OpTo.fn hE rfl rfl Tryz.call73 (arena_Arena_Cell_ok et_ H)) ?_
  rintro _ w ⟨rfl, H⟩ a hE
  refine WR.seg hE 4 [] [4] (Lo := [(4, .int .i64 t_.1)]) (obs := []) rfl (by kernel_rfl) trivial fun a hE => ?_
  refine WR.done rfl ?_
  refine Runs.ret hE Tryz.func88 rfl rfl ?_
  cases hm
  exact ⟨rfl, H⟩

theorem kind_Min_ok {w0 w : World} {As : List HP} {k : Nat} {k_ : Int} {p_a_ : Nat} {al_a_ : arena_Arena.A} {a_ : arena_Arena} {r : Int} {t : Int × arena_Arena}  (hm : kind_Min k k_ a_ r = some t) (H : St w0 (arena_Arena.R p_a_ al_a_ a_ :: As) w) :
    CallsR Tryz.prog 43 #[.int .i64 k_, .pointer (some ⟨p_a_, 0, none⟩), .int .i64 r] w fun v w' => v = .int .i64 t.1 ∧ St w0 (arena_Arena.R p_a_ al_a_ t.2 :: As) w' := by
  rw [kind_Min] at hm
  refine enter (args := [.int .i64 k_, .pointer (some ⟨p_a_, 0, none⟩), .int .i64 r]) Tryz.func43 rfl rfl rfl fun a hE => ?_
  refine Runs.seq ?_
  refine Runs.region ?_
  refine WR.seg hE 1 [] [0, 1, 2] (Lo := [(0, .int .i64 k_), (1, .pointer (some ⟨p_a_, 0, none⟩)), (2, .int .i64 r)]) (obs := []) rfl (by kernel_rfl) trivial fun a hE => ?_
  refine WR.done rfl ?_
  refine Runs.seq ?_
  refine Runs.seq ?_
  refine Runs.region ?_
  refine WR.seg hE 1 [] [1, 2, 7] (Lo := [(1, .pointer (some ⟨p_a_, 0, none⟩)), (2, .int .i64 r), (7, .int .i64 k_)]) (obs := []) rfl (by kernel_rfl) trivial fun a hE => ?_
  refine WR.done rfl ?_
  refine Runs.block ?_
  refine Runs.seq ?_
  refine Runs.region ?_
  refine WR.seg hE 2 [] [1, 2, 7, 8] (Lo := [(1, .pointer (some ⟨p_a_, 0, none⟩)), (2, .int .i64 r), (7, .int .i64 k_), (8, .bool (k_ == 1))]) (obs := []) rfl (by kernel_rfl) trivial fun a hE => ?_
  refine WR.done rfl ?_
  refine Runs.cond hE rfl (fun c => ?_) (fun c => ?_)
  · replace hm := cond_t c hm
    refine Runs.seq ?_
    refine Runs.region ?_
    refine WR.seg hE 2 [] [10, 11] (Lo := [(10, .pointer (some ⟨p_a_, 0, none⟩)), (11, .int .i64 r)]) (obs := []) rfl (by kernel_rfl) trivial fun a hE => ?_
    obtain ⟨t_, et_, hm⟩ := bind_some hm
    refine WR.eff hE rfl rfl rfl rfl (OpTo.fn hE rfl rfl Tryz.call85 (leftist_Min_ok et_ H)) ?_
    rintro _ w ⟨rfl, H⟩ a hE
    refine WR.seg hE 4 [] [6] (Lo := [(6, .int .i64 t_.1)]) (obs := []) rfl (by kernel_rfl) trivial fun a hE => ?_
    refine WR.done rfl ?_
    refine Runs.ret hE Tryz.func43 rfl rfl ?_
    cases hm
    exact ⟨rfl, H⟩
  · replace hm := cond_f c hm
    refine Runs.seq ?_
    refine Runs.region ?_
    refine WR.seg hE 2 [] [1, 2, 7, 13] (Lo := [(1, .pointer (some ⟨p_a_, 0, none⟩)), (2, .int .i64 r), (7, .int .i64 k_), (13, .bool (k_ == 2))]) (obs := []) rfl (by kernel_rfl) trivial fun a hE => ?_
    refine WR.done rfl ?_
    refine Runs.cond hE rfl (fun c => ?_) (fun c => ?_)
    · replace hm := cond_t c hm
      refine Runs.seq ?_
      refine Runs.region ?_
      refine WR.seg hE 2 [] [15, 16] (Lo := [(15, .pointer (some ⟨p_a_, 0, none⟩)), (16, .int .i64 r)]) (obs := []) rfl (by kernel_rfl) trivial fun a hE => ?_
      obtain ⟨t_1, et_1, hm⟩ := bind_some hm
      refine WR.eff hE rfl rfl rfl rfl (OpTo.fn hE rfl rfl Tryz.call33 (binomial_Min_ok et_1 H)) ?_
      rintro _ w ⟨rfl, H⟩ a hE
      refine WR.seg hE 4 [] [6] (Lo := [(6, .int .i64 t_1.1)]) (obs := []) rfl (by kernel_rfl) trivial fun a hE => ?_
      refine WR.done rfl ?_
      refine Runs.ret hE Tryz.func43 rfl rfl ?_
      cases hm
      exact ⟨rfl, H⟩
    · replace hm := cond_f c hm
      refine Runs.seq ?_
      refine Runs.region ?_
      refine WR.seg hE 2 [] [1, 2, 7, 18] (Lo := [(1, .pointer (some ⟨p_a_, 0, none⟩)), (2, .int .i64 r), (7, .int .i64 k_), (18, .bool (k_ == 3))]) (obs := []) rfl (by kernel_rfl) trivial fun a hE => ?_
      refine WR.done rfl ?_
      refine Runs.cond hE rfl (fun c => ?_) (fun c => ?_)
      · replace hm := cond_t c hm
        refine Runs.seq ?_
        refine Runs.region ?_
        refine WR.seg hE 2 [] [20, 21] (Lo := [(20, .pointer (some ⟨p_a_, 0, none⟩)), (21, .int .i64 r)]) (obs := []) rfl (by kernel_rfl) trivial fun a hE => ?_
        obtain ⟨t_2, et_2, hm⟩ := bind_some hm
        refine WR.eff hE rfl rfl rfl rfl (OpTo.fn hE rfl rfl Tryz.call86 (skew_Min_ok et_2 H)) ?_
        rintro _ w ⟨rfl, H⟩ a hE
        refine WR.seg hE 4 [] [6] (Lo := [(6, .int .i64 t_2.1)]) (obs := []) rfl (by kernel_rfl) trivial fun a hE => ?_
        refine WR.done rfl ?_
        refine Runs.ret hE Tryz.func43 rfl rfl ?_
        cases hm
        exact ⟨rfl, H⟩
      · replace hm := cond_f c hm
        refine Runs.seq ?_
        refine Runs.region ?_
        refine WR.seg hE 2 [] [1, 2, 7, 23] (Lo := [(1, .pointer (some ⟨p_a_, 0, none⟩)), (2, .int .i64 r), (7, .int .i64 k_), (23, .bool (k_ == 4))]) (obs := []) rfl (by kernel_rfl) trivial fun a hE => ?_
        refine WR.done rfl ?_
        refine Runs.cond hE rfl (fun c => ?_) (fun c => ?_)
        · replace hm := cond_t c hm
          refine Runs.seq ?_
          refine Runs.region ?_
          refine WR.seg hE 2 [] [25, 26] (Lo := [(25, .pointer (some ⟨p_a_, 0, none⟩)), (26, .int .i64 r)]) (obs := []) rfl (by kernel_rfl) trivial fun a hE => ?_
          obtain ⟨t_3, et_3, hm⟩ := bind_some hm
          refine WR.eff hE rfl rfl rfl rfl (OpTo.fn hE rfl rfl Tryz.call87 (fib_Min_ok et_3 H)) ?_
          rintro _ w ⟨rfl, H⟩ a hE
          refine WR.seg hE 4 [] [6] (Lo := [(6, .int .i64 t_3.1)]) (obs := []) rfl (by kernel_rfl) trivial fun a hE => ?_
          refine WR.done rfl ?_
          refine Runs.ret hE Tryz.func43 rfl rfl ?_
          cases hm
          exact ⟨rfl, H⟩
        · replace hm := cond_f c hm
          refine Runs.seq ?_
          refine Runs.region ?_
          refine WR.seg hE 2 [] [1, 2, 28] (Lo := [(1, .pointer (some ⟨p_a_, 0, none⟩)), (2, .int .i64 r), (28, .bool (k_ == 5))]) (obs := []) rfl (by kernel_rfl) trivial fun a hE => ?_
          refine WR.done rfl ?_
          refine Runs.cond hE rfl (fun c => ?_) (fun c => ?_)
          · replace hm := cond_t c hm
            refine Runs.seq ?_
            refine Runs.region ?_
            refine WR.seg hE 2 [] [30, 31] (Lo := [(30, .pointer (some ⟨p_a_, 0, none⟩)), (31, .int .i64 r)]) (obs := []) rfl (by kernel_rfl) trivial fun a hE => ?_
            obtain ⟨t_4, et_4, hm⟩ := bind_some hm
            refine WR.eff hE rfl rfl rfl rfl (OpTo.fn hE rfl rfl Tryz.call88 (pairing_Min_ok et_4 H)) ?_
            rintro _ w ⟨rfl, H⟩ a hE
            refine WR.seg hE 4 [] [6] (Lo := [(6, .int .i64 t_4.1)]) (obs := []) rfl (by kernel_rfl) trivial fun a hE => ?_
            refine WR.done rfl ?_
            refine Runs.ret hE Tryz.func43 rfl rfl ?_
            cases hm
            exact ⟨rfl, H⟩
          · replace hm := cond_f c hm
            refine Runs.skip ?_
            refine Runs.inBlock ?_
            refine Runs.seq ?_
            refine Runs.region ?_
            refine WR.seg hE 1 [] [6] (Lo := [(6, .int .i64 (-1))]) (obs := []) rfl (by kernel_rfl) trivial fun a hE => ?_
            refine WR.done rfl ?_
            refine Runs.ret hE Tryz.func43 rfl rfl ?_
            cases hm
            exact ⟨rfl, H⟩

theorem item_Node_ok {w0 w : World} {As : List HP} {p_a_ : Nat} {al_a_ : arena_Arena.A} {a_ : arena_Arena} {i : Int} {t : Int × arena_Arena}  (hm : item_Node a_ i = some t) (H : St w0 (arena_Arena.R p_a_ al_a_ a_ :: As) w) :
    CallsR Tryz.prog 65 #[.pointer (some ⟨p_a_, 0, none⟩), .int .i64 i] w fun v w' => v = .int .i64 t.1 ∧ St w0 (arena_Arena.R p_a_ al_a_ t.2 :: As) w' := by
  rw [item_Node] at hm
  refine enter (args := [.pointer (some ⟨p_a_, 0, none⟩), .int .i64 i]) Tryz.func65 rfl rfl rfl fun a hE => ?_
  refine Runs.seq ?_
  refine Runs.region ?_
  refine WR.seg hE 1 [] [0, 1] (Lo := [(0, .pointer (some ⟨p_a_, 0, none⟩)), (1, .int .i64 i)]) (obs := []) rfl (by kernel_rfl) trivial fun a hE => ?_
  refine WR.done rfl ?_
  refine Runs.seq ?_
  refine Runs.seq ?_
  refine Runs.region ?_
  refine WR.seg hE 2 [] [0, 1, 6] (Lo := [(0, .pointer (some ⟨p_a_, 0, none⟩)), (1, .int .i64 i), (6, .bool false)]) (obs := []) rfl (by kernel_rfl) trivial fun a hE => ?_
  refine WR.done rfl ?_
  refine Runs.condF hE rfl ?_
  refine Runs.skip ?_
  refine Runs.seq ?_
  refine Runs.region ?_
  refine WR.seg hE 2 [] [7, 8] (Lo := [(7, .pointer (some ⟨p_a_, 0, none⟩)), (8, .int .i64 i)]) (obs := []) rfl (by kernel_rfl) trivial fun a hE => ?_
  obtain ⟨t_, et_, hm⟩ := bind_some hm
  refine WR.eff hE rfl rfl rfl rfl (OpTo.fn hE rfl rfl Tryz.call73 (arena_Arena_Cell_ok et_ H)) ?_
  rintro _ w ⟨rfl, H⟩ a hE
  refine WR.seg hE 4 [] [4] (Lo := [(4, .int .i64 t_.1)]) (obs := []) rfl (by kernel_rfl) trivial fun a hE => ?_
  refine WR.done rfl ?_
  refine Runs.ret hE Tryz.func65 rfl rfl ?_
  cases hm
  exact ⟨rfl, H⟩

theorem leftist_leave_ok {w0 w : World} {As : List HP} {k : Nat} {p_a_ : Nat} {al_a_ : arena_Arena.A} {a_ : arena_Arena} {n : Int} {t : arena_Arena}  (hm : leftist_leave k a_ n = some t) (H : St w0 (arena_Arena.R p_a_ al_a_ a_ :: As) w) :
    CallsR Tryz.prog 143 #[.pointer (some ⟨p_a_, 0, none⟩), .int .i64 n] w fun v w' => v = .tuple #[] ∧ St w0 (arena_Arena.R p_a_ al_a_ t :: As) w' := by
  rw [leftist_leave] at hm
  refine enter (args := [.pointer (some ⟨p_a_, 0, none⟩), .int .i64 n]) Tryz.func143 rfl rfl rfl fun a hE => ?_
  refine Runs.seq ?_
  refine Runs.region ?_
  refine WR.seg hE 2 [] [0, 1, 6, 7] (Lo := [(0, .pointer (some ⟨p_a_, 0, none⟩)), (1, .int .i64 n), (6, .pointer (some ⟨p_a_, 0, none⟩)), (7, .int .i64 n)]) (obs := []) rfl (by kernel_rfl) trivial fun a hE => ?_
  obtain ⟨t_, et_, hm⟩ := bind_some hm
  refine WR.eff hE rfl rfl rfl rfl (OpTo.fn hE rfl rfl Tryz.call73 (arena_Arena_Cell_ok et_ H)) ?_
  rintro _ w ⟨rfl, H⟩ a hE
  refine WR.seg hE 4 [] [0, 1, 4] (Lo := [(0, .pointer (some ⟨p_a_, 0, none⟩)), (1, .int .i64 n), (4, .int .i64 t_.1)]) (obs := []) rfl (by kernel_rfl) trivial fun a hE => ?_
  refine WR.done rfl ?_
  refine Runs.seq ?_
  refine Runs.seq ?_
  refine Runs.region ?_
  refine WR.seg hE 2 [] [0, 1, 4, 9, 10] (Lo := [(0, .pointer (some ⟨p_a_, 0, none⟩)), (1, .int .i64 n), (4, .int .i64 t_.1), (9, .pointer (some ⟨p_a_, 0, none⟩)), (10, .int .i64 t_.1)]) (obs := []) rfl (by kernel_rfl) trivial fun a hE => ?_
  obtain ⟨t_1, et_1, hm⟩ := bind_some hm
  refine WR.eff hE rfl rfl rfl rfl (OpTo.fn hE rfl rfl Tryz.call73 (arena_Arena_Cell_ok et_1 H)) ?_
  rintro _ w ⟨rfl, H⟩ a hE
  refine WR.seg hE 5 [] [0, 1, 4, 13] (Lo := [(0, .pointer (some ⟨p_a_, 0, none⟩)), (1, .int .i64 n), (4, .int .i64 t_.1), (13, .bool (t_1.1 == n))]) (obs := []) rfl (by kernel_rfl) trivial fun a hE => ?_
  refine WR.done rfl ?_
  obtain ⟨s, es, hm⟩ := bind_some hm
  refine Runs.join (fun a w => EnvOk 46 a [(0, .pointer (some ⟨p_a_, 0, none⟩)), (1, .int .i64 n), (4, .int .i64 t_.1)] ∧ St w0 (arena_Arena.R p_a_ al_a_ s :: As) w) (fun hk => ?_) ?_
  · replace hm := es; clear es
    refine Runs.cond hE rfl (fun c => ?_) (fun c => ?_)
    · replace hm := cond_t c hm
      refine Runs.region ?_
      refine WR.seg hE 2 [] [0, 1, 4, 14, 15] (Lo := [(0, .pointer (some ⟨p_a_, 0, none⟩)), (1, .int .i64 n), (4, .int .i64 t_.1), (14, .pointer (some ⟨p_a_, 0, none⟩)), (15, .int .i64 t_.1)]) (obs := []) rfl (by kernel_rfl) trivial fun a hE => ?_
      obtain ⟨t_2, et_2, hm⟩ := bind_some hm
      refine WR.eff hE rfl rfl rfl rfl (OpTo.fn hE rfl rfl Tryz.call53 (arena_Arena_Set_ok et_2 H)) ?_
      rintro _ w ⟨rfl, hf, H⟩ a hE
      refine WR.done rfl ?_
      cases hm
      exact hk _ _ ⟨hE.sel [0, 1, 4] (by kernel_rfl), H⟩
    · replace hm := cond_f c hm
      refine Runs.seq ?_
      refine Runs.region ?_
      refine WR.seg hE 2 [] [0, 1, 4, 17, 18] (Lo := [(0, .pointer (some ⟨p_a_, 0, none⟩)), (1, .int .i64 n), (4, .int .i64 t_.1), (17, .pointer (some ⟨p_a_, 0, none⟩)), (18, .int .i64 t_.1)]) (obs := []) rfl (by kernel_rfl) trivial fun a hE => ?_
      obtain ⟨t_3, et_3, hm⟩ := bind_some hm
      refine WR.eff hE rfl rfl rfl rfl (OpTo.fn hE rfl rfl Tryz.call73 (arena_Arena_Cell_ok et_3 H)) ?_
      rintro _ w ⟨rfl, H⟩ a hE
      refine WR.seg hE 5 [] [0, 1, 4, 21] (Lo := [(0, .pointer (some ⟨p_a_, 0, none⟩)), (1, .int .i64 n), (4, .int .i64 t_.1), (21, .bool (t_3.1 == n))]) (obs := []) rfl (by kernel_rfl) trivial fun a hE => ?_
      refine WR.done rfl ?_
      refine Runs.cond hE rfl (fun c => ?_) (fun c => ?_)
      · replace hm := cond_t c hm
        refine Runs.region ?_
        refine WR.seg hE 2 [] [0, 1, 4, 22, 23] (Lo := [(0, .pointer (some ⟨p_a_, 0, none⟩)), (1, .int .i64 n), (4, .int .i64 t_.1), (22, .pointer (some ⟨p_a_, 0, none⟩)), (23, .int .i64 t_.1)]) (obs := []) rfl (by kernel_rfl) trivial fun a hE => ?_
        obtain ⟨t_4, et_4, hm⟩ := bind_some hm
        refine WR.eff hE rfl rfl rfl rfl (OpTo.fn hE rfl rfl Tryz.call53 (arena_Arena_Set_ok et_4 H)) ?_
        rintro _ w ⟨rfl, hf1, H⟩ a hE
        refine WR.done rfl ?_
        cases hm
        exact hk _ _ ⟨hE.sel [0, 1, 4] (by kernel_rfl), H⟩
      · replace hm := cond_f c hm
        refine Runs.skip ?_
        cases hm
        exact hk _ _ ⟨hE.sel [0, 1, 4] (by kernel_rfl), H⟩
  rintro a w ⟨hE, H⟩
  refine Runs.seq ?_
  refine Runs.region ?_
  refine WR.seg hE 2 [] [0, 4, 25, 26] (Lo := [(0, .pointer (some ⟨p_a_, 0, none⟩)), (4, .int .i64 t_.1), (25, .pointer (some ⟨p_a_, 0, none⟩)), (26, .int .i64 n)]) (obs := []) rfl (by kernel_rfl) trivial fun a hE => ?_
  obtain ⟨t_5, et_5, hm⟩ := bind_some hm
  refine WR.eff hE rfl rfl rfl rfl (OpTo.fn hE rfl rfl Tryz.call53 (arena_Arena_Set_ok et_5 H)) ?_
  rintro _ w ⟨rfl, hf2, H⟩ a hE
  refine WR.done rfl ?_
  refine Runs.seq ?_
  refine Runs.region ?_
  refine WR.seg hE 1 [] [0, 4, 5] (Lo := [(0, .pointer (some ⟨p_a_, 0, none⟩)), (4, .int .i64 t_.1), (5, .int .i64 0)]) (obs := []) rfl (by kernel_rfl) trivial fun a hE => ?_
  refine WR.done rfl ?_
  obtain ⟨s1, es1, hm⟩ := bind_some hm
  refine Runs.join (fun a w => EnvOk 46 a [] ∧ St w0 (arena_Arena.R p_a_ al_a_ s1 :: As) w) (fun hk => ?_) ?_
  · replace hm := es1; clear es1
    refine Runs.block ?_
    refine Runs.loop (fun m a w => ∃ (p : Int), ∃ (k_ : Int), ∃ (m_ : arena_Arena), EnvOk 46 a [(0, .pointer (some ⟨p_a_, 0, none⟩)), (4, .int .i64 p), (5, .int .i64 k_)] ∧ St w0 (arena_Arena.R p_a_ al_a_ m_ :: As) w ∧ leftist_leave_l0 m p k_ m_ = some s1) k ⟨t_.1, 0, t_5.2, hE.sel [0, 4, 5] (by kernel_rfl), H, hm⟩ ?_
    rintro m ih a w ⟨p, k_, m_, hE, H, hm⟩
    cases m with
    | zero => simp [leftist_leave_l0] at hm
    | succ m =>
      rw [leftist_leave_l0] at hm
      refine Runs.seq ?_
      refine Runs.seq ?_
      obtain ⟨s2, es2, hm⟩ := bind_some hm
      refine Runs.join (fun a w => EnvOk 46 a [(0, .pointer (some ⟨p_a_, 0, none⟩)), (4, .int .i64 p), (5, .int .i64 k_), (40, .bool s2.1)] ∧ St w0 (arena_Arena.R p_a_ al_a_ s2.2 :: As) w) (fun hk => ?_) ?_
      · replace hm := es2; clear es2
        refine Runs.region ?_
        refine WR.seg hE 3 [] [0, 4, 5, 30] (Lo := [(0, .pointer (some ⟨p_a_, 0, none⟩)), (4, .int .i64 p), (5, .int .i64 k_), (30, .bool (p != (-1)))]) (obs := []) rfl (by kernel_rfl) trivial fun a hE => ?_
        rcases Bool.eq_false_or_eq_true (p != (-1)) with c | c
        · replace hE := hE.dec 30 c (by kernel_rfl)
          replace hm := cond_t c hm
          have c_ := c
          refine WR.seg hE 5 [] [0, 4, 5, 30, 31, 32] (Lo := [(0, .pointer (some ⟨p_a_, 0, none⟩)), (4, .int .i64 p), (5, .int .i64 k_), (30, .bool true), (31, .int .i64 k_), (32, .pointer (some ⟨p_a_, 0, none⟩))]) (obs := []) rfl (by kernel_rfl) trivial fun a hE => ?_
          obtain ⟨t_6, et_6, hm⟩ := bind_some hm
          refine WR.eff hE rfl rfl rfl rfl (OpTo.fn hE rfl rfl Tryz.call63 (arena_Arena_Cells_ok et_6 H)) ?_
          rintro _ w ⟨rfl, H⟩ a hE
          refine WR.seg hE 9 [] [0, 4, 5, 36] (Lo := [(0, .pointer (some ⟨p_a_, 0, none⟩)), (4, .int .i64 p), (5, .int .i64 k_), (36, .bool (decide (k_ ≤ t_6)))]) (obs := []) rfl (by kernel_rfl) trivial fun a hE => ?_
          rcases Bool.eq_false_or_eq_true (decide (k_ ≤ t_6)) with c | c
          · replace hE := hE.dec 36 c (by kernel_rfl)
            replace hm := cond_t c hm
            have c_1 := c
            refine WR.seg hE 11 [] [0, 4, 5, 36, 37, 38] (Lo := [(0, .pointer (some ⟨p_a_, 0, none⟩)), (4, .int .i64 p), (5, .int .i64 k_), (36, .bool true), (37, .pointer (some ⟨p_a_, 0, none⟩)), (38, .int .i64 p)]) (obs := []) rfl (by kernel_rfl) trivial fun a hE => ?_
            obtain ⟨t_7, et_7, hm⟩ := bind_some hm
            refine WR.eff hE rfl rfl rfl rfl (OpTo.fn hE rfl rfl Tryz.call162 (leftist_fix_ok et_7 H)) ?_
            rintro _ w ⟨rfl, H⟩ a hE
            refine WR.seg hE 13 [] [0, 4, 5, 40] (Lo := [(0, .pointer (some ⟨p_a_, 0, none⟩)), (4, .int .i64 p), (5, .int .i64 k_), (40, .bool t_7.1)]) (obs := []) rfl (by kernel_rfl) trivial fun a hE => ?_
            refine WR.done rfl ?_
            cases hm
            exact hk _ _ ⟨hE.sel [0, 4, 5, 40] (by kernel_rfl), H⟩
          · replace hE := hE.dec 36 c (by kernel_rfl)
            replace hm := cond_f c hm
            have c_2 := c
            refine WR.seg hE 13 [] [0, 4, 5, 40] (Lo := [(0, .pointer (some ⟨p_a_, 0, none⟩)), (4, .int .i64 p), (5, .int .i64 k_), (40, .bool false)]) (obs := []) rfl (by kernel_rfl) trivial fun a hE => ?_
            refine WR.done rfl ?_
            cases hm
            exact hk _ _ ⟨hE.sel [0, 4, 5, 40] (by kernel_rfl), H⟩
        · replace hE := hE.dec 30 c (by kernel_rfl)
          replace hm := cond_f c hm
          have c_3 := c
          refine WR.seg hE 13 [] [0, 4, 5, 40] (Lo := [(0, .pointer (some ⟨p_a_, 0, none⟩)), (4, .int .i64 p), (5, .int .i64 k_), (40, .bool false)]) (obs := []) rfl (by kernel_rfl) trivial fun a hE => ?_
          refine WR.done rfl ?_
          cases hm
          exact hk _ _ ⟨hE.sel [0, 4, 5, 40] (by kernel_rfl), H⟩
      rintro a w ⟨hE, H⟩
      refine Runs.cond hE rfl (fun c => ?_) (fun c => ?_)
      · replace hm := cond_t c hm
        refine Runs.skip ?_
        refine Runs.seq ?_
        refine Runs.block ?_
        refine Runs.region ?_
        refine WR.seg hE 2 [] [0, 4, 5, 43, 44] (Lo := [(0, .pointer (some ⟨p_a_, 0, none⟩)), (4, .int .i64 p), (5, .int .i64 k_), (43, .pointer (some ⟨p_a_, 0, none⟩)), (44, .int .i64 p)]) (obs := []) rfl (by kernel_rfl) trivial fun a hE => ?_
        obtain ⟨t_8, et_8, hm⟩ := bind_some hm
        refine WR.eff hE rfl rfl rfl rfl (OpTo.fn hE rfl rfl Tryz.call73 (arena_Arena_Cell_ok et_8 H)) ?_
        rintro _ w ⟨rfl, H⟩ a hE
        refine WR.seg hE 4 [] [0, 4, 5] (Lo := [(0, .pointer (some ⟨p_a_, 0, none⟩)), (4, .int .i64 t_8.1), (5, .int .i64 k_)]) (obs := []) rfl (by kernel_rfl) trivial fun a hE => ?_
        refine WR.done rfl ?_
        refine Runs.inBlock ?_
        refine Runs.region ?_
        refine WR.seg hE 3 [] [0, 4, 5] (Lo := [(0, .pointer (some ⟨p_a_, 0, none⟩)), (4, .int .i64 t_8.1), (5, .int .i64 (w64 (k_ + 1)))]) (obs := []) rfl (by kernel_rfl) trivial fun a hE => ?_
        refine WR.done rfl ?_
        exact ih m (Nat.lt_succ_self m) _ _ ⟨t_8.1, w64 (k_ + 1), t_8.2, hE.sel [0, 4, 5] (by kernel_rfl), H, hm⟩
      · replace hm := cond_f c hm
        refine Runs.exit rfl ?_
        cases hm
        exact hk _ _ ⟨hE.sel [] (by kernel_rfl), H⟩
  rintro a w ⟨hE, H⟩
  refine Runs.fin hE Tryz.func143 rfl rfl ?_
  cases hm
  exact ⟨rfl, H⟩

theorem leftist_Fall_ok {w0 w : World} {As : List HP} {k : Nat} {p_a_ : Nat} {al_a_ : arena_Arena.A} {a_ : arena_Arena} {r : Int} {i : Int} {t : Int × arena_Arena}  (hm : leftist_Fall k a_ r i = some t) (H : St w0 (arena_Arena.R p_a_ al_a_ a_ :: As) w) :
    CallsR Tryz.prog 89 #[.pointer (some ⟨p_a_, 0, none⟩), .int .i64 r, .int .i64 i] w fun v w' => v = .int .i64 t.1 ∧ St w0 (arena_Arena.R p_a_ al_a_ t.2 :: As) w' := by
  rw [leftist_Fall] at hm
  refine enter (args := [.pointer (some ⟨p_a_, 0, none⟩), .int .i64 r, .int .i64 i]) Tryz.func89 rfl rfl rfl fun a hE => ?_
  refine Runs.seq ?_
  refine Runs.region ?_
  refine WR.seg hE 1 [] [0, 1, 2] (Lo := [(0, .pointer (some ⟨p_a_, 0, none⟩)), (1, .int .i64 r), (2, .int .i64 i)]) (obs := []) rfl (by kernel_rfl) trivial fun a hE => ?_
  refine WR.done rfl ?_
  refine Runs.seq ?_
  refine Runs.seq ?_
  refine Runs.region ?_
  refine WR.seg hE 2 [] [0, 1, 2, 9] (Lo := [(0, .pointer (some ⟨p_a_, 0, none⟩)), (1, .int .i64 r), (2, .int .i64 i), (9, .bool false)]) (obs := []) rfl (by kernel_rfl) trivial fun a hE => ?_
  refine WR.done rfl ?_
  refine Runs.condF hE rfl ?_
  refine Runs.skip ?_
  refine Runs.seq ?_
  refine Runs.region ?_
  refine WR.seg hE 2 [] [0, 1, 10, 11] (Lo := [(0, .pointer (some ⟨p_a_, 0, none⟩)), (1, .int .i64 r), (10, .pointer (some ⟨p_a_, 0, none⟩)), (11, .int .i64 i)]) (obs := []) rfl (by kernel_rfl) trivial fun a hE => ?_
  obtain ⟨t_, et_, hm⟩ := bind_some hm
  refine WR.eff hE rfl rfl rfl rfl (OpTo.fn hE rfl rfl Tryz.call65 (item_Node_ok et_ H)) ?_
  rintro _ w ⟨rfl, H⟩ a hE
  refine WR.seg hE 4 [] [0, 1, 7] (Lo := [(0, .pointer (some ⟨p_a_, 0, none⟩)), (1, .int .i64 r), (7, .int .i64 t_.1)]) (obs := []) rfl (by kernel_rfl) trivial fun a hE => ?_
  refine WR.done rfl ?_
  refine Runs.seq ?_
  refine Runs.seq ?_
  obtain ⟨s, es, hm⟩ := bind_some hm
  refine Runs.join (fun a w => EnvOk 34 a [(0, .pointer (some ⟨p_a_, 0, none⟩)), (1, .int .i64 r), (7, .int .i64 t_.1), (25, .bool s.1)] ∧ St w0 (arena_Arena.R p_a_ al_a_ s.2 :: As) w) (fun hk => ?_) ?_
  · replace hm := es; clear es
    refine Runs.region ?_
    refine WR.seg hE 3 [] [0, 1, 7, 15] (Lo := [(0, .pointer (some ⟨p_a_, 0, none⟩)), (1, .int .i64 r), (7, .int .i64 t_.1), (15, .bool (t_.1 == (-1)))]) (obs := []) rfl (by kernel_rfl) trivial fun a hE => ?_
    rcases Bool.eq_false_or_eq_true (t_.1 == (-1)) with c | c
    · replace hE := hE.dec 15 c (by kernel_rfl)
      replace hm := cond_t c hm
      have c_ := c
      refine WR.seg hE 13 [] [0, 1, 7, 25] (Lo := [(0, .pointer (some ⟨p_a_, 0, none⟩)), (1, .int .i64 r), (7, .int .i64 t_.1), (25, .bool true)]) (obs := []) rfl (by kernel_rfl) trivial fun a hE => ?_
      refine WR.done rfl ?_
      cases hm
      exact hk _ _ ⟨hE.sel [0, 1, 7, 25] (by kernel_rfl), H⟩
    · replace hE := hE.dec 15 c (by kernel_rfl)
      replace hm := cond_f c hm
      have c_1 := c
      refine WR.seg hE 8 [] [0, 1, 7, 20] (Lo := [(0, .pointer (some ⟨p_a_, 0, none⟩)), (1, .int .i64 r), (7, .int .i64 t_.1), (20, .bool (t_.1 == r))]) (obs := []) rfl (by kernel_rfl) trivial fun a hE => ?_
      rcases Bool.eq_false_or_eq_true (t_.1 == r) with c | c
      · replace hE := hE.dec 20 c (by kernel_rfl)
        replace hm := cond_t c hm
        have c_2 := c
        refine WR.seg hE 13 [] [0, 1, 7, 25] (Lo := [(0, .pointer (some ⟨p_a_, 0, none⟩)), (1, .int .i64 r), (7, .int .i64 t_.1), (25, .bool true)]) (obs := []) rfl (by kernel_rfl) trivial fun a hE => ?_
        refine WR.done rfl ?_
        cases hm
        exact hk _ _ ⟨hE.sel [0, 1, 7, 25] (by kernel_rfl), H⟩
      · replace hE := hE.dec 20 c (by kernel_rfl)
        replace hm := cond_f c hm
        have c_3 := c
        refine WR.seg hE 10 [] [0, 1, 7, 20, 21, 22] (Lo := [(0, .pointer (some ⟨p_a_, 0, none⟩)), (1, .int .i64 r), (7, .int .i64 t_.1), (20, .bool false), (21, .pointer (some ⟨p_a_, 0, none⟩)), (22, .int .i64 t_.1)]) (obs := []) rfl (by kernel_rfl) trivial fun a hE => ?_
        obtain ⟨t_1, et_1, hm⟩ := bind_some hm
        refine WR.eff hE rfl rfl rfl rfl (OpTo.fn hE rfl rfl Tryz.call73 (arena_Arena_Cell_ok et_1 H)) ?_
        rintro _ w ⟨rfl, H⟩ a hE
        refine WR.seg hE 13 [] [0, 1, 7, 25] (Lo := [(0, .pointer (some ⟨p_a_, 0, none⟩)), (1, .int .i64 r), (7, .int .i64 t_.1), (25, .bool (t_1.1 == (-1)))]) (obs := []) rfl (by kernel_rfl) trivial fun a hE => ?_
        refine WR.done rfl ?_
        cases hm
        exact hk _ _ ⟨hE.sel [0, 1, 7, 25] (by kernel_rfl), H⟩
  rintro a w ⟨hE, H⟩
  refine Runs.cond hE rfl (fun c => ?_) (fun c => ?_)
  · replace hm := cond_t c hm
    refine Runs.seq ?_
    refine Runs.region ?_
    refine WR.seg hE 2 [] [6] (Lo := [(6, .int .i64 r)]) (obs := []) rfl (by kernel_rfl) trivial fun a hE => ?_
    refine WR.done rfl ?_
    refine Runs.ret hE Tryz.func89 rfl rfl ?_
    cases hm
    exact ⟨rfl, H⟩
  · replace hm := cond_f c hm
    refine Runs.skip ?_
    refine Runs.seq ?_
    refine Runs.region ?_
    refine WR.seg hE 2 [] [0, 1, 7, 27, 28] (Lo := [(0, .pointer (some ⟨p_a_, 0, none⟩)), (1, .int .i64 r), (7, .int .i64 t_.1), (27, .pointer (some ⟨p_a_, 0, none⟩)), (28, .int .i64 t_.1)]) (obs := []) rfl (by kernel_rfl) trivial fun a hE => ?_
    obtain ⟨t_2, et_2, hm⟩ := bind_some hm
    refine WR.eff hE rfl rfl rfl rfl (OpTo.fn hE rfl rfl Tryz.call143 (leftist_leave_ok et_2 H)) ?_
    rintro _ w ⟨rfl, H⟩ a hE
    refine WR.done rfl ?_
    refine Runs.seq ?_
    refine Runs.region ?_
    refine WR.seg hE 3 [] [30, 31, 32] (Lo := [(30, .pointer (some ⟨p_a_, 0, none⟩)), (31, .int .i64 r), (32, .int .i64 t_.1)]) (obs := []) rfl (by kernel_rfl) trivial fun a hE => ?_
    obtain ⟨t_3, et_3, hm⟩ := bind_some hm
    refine WR.eff hE rfl rfl rfl rfl (OpTo.fn hE rfl rfl Tryz.call133 (leftist_meld_ok et_3 H)) ?_
    rintro _ w ⟨rfl, H⟩ a hE
    refine WR.seg hE 5 [] [6] (Lo := [(6, .int .i64 t_3.1)]) (obs := []) rfl (by kernel_rfl) trivial fun a hE => ?_
    refine WR.done rfl ?_
    refine Runs.ret hE Tryz.func89 rfl rfl ?_
    cases hm
    exact ⟨rfl, H⟩

end Go.Proofs.YthblgkpmefpllaaGreat
