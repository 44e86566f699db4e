import Derived.Test.YtbpkejhpmakmbaaGreatLp1
set_option linter.unusedVariables false
set_option linter.unusedSimpArgs false
set_option maxRecDepth 10000
set_option maxHeartbeats 4000000
namespace Go.Proofs.YtbpkejhpmakmbaaGreat
open Go.Th

theorem slots_Table_Put_ok {w0 w : World} {As : List HP} {p_t_ : Nat} {al_t_ : slots_Table.A} {t_ : slots_Table} {h_ : api_Ref} {cell : Int} {t : api_Ref × Int × slots_Table}  (hm : slots_Table_Put t_ h_ cell = some t) (H : St w0 (slots_Table.R p_t_ al_t_ t_ :: As) w) :
    CallsR Tryz.prog 107 #[.pointer (some ⟨p_t_, 0, none⟩), .agg #[.int .i64 h_.At, .int .i64 h_.Gen], .int .i64 cell] w fun v w' => ∃ (z_t__items_a : pool_Pool_slots_thing.A), v = .tuple #[.agg #[.int .i64 t.1.At, .int .i64 t.1.Gen], .int .i64 t.2.1] ∧ St w0 (slots_Table.R p_t_ (slots_Table.A.mk al_t_.heaps_p al_t_.heaps_a al_t_.items_p z_t__items_a al_t_.at__p) t.2.2 :: As) w' := by
 rw [slots_Table_Put] at hm
 refine enter (args := [.pointer (some ⟨p_t_, 0, none⟩), .agg #[.int .i64 h_.At, .int .i64 h_.Gen], .int .i64 cell]) Tryz.func107 rfl rfl rfl fun a hE => ?_
 refine Runs.sr ?_
 refine WR.eff hE rfl rfl rfl rfl (OpTo.new hE H [] (.cells #[.int .i64 h_.At, .int .i64 h_.Gen] 26 (0, 0)) (fun r => .pointer (some ⟨r, 0, none⟩)) (obs := []) rfl (fun _ => by kernel_rfl) trivial) ?_
 rintro _ w ⟨r, rfl, H⟩ a hE
 refine WR.eff hE rfl rfl rfl rfl (OpTo.new hE H [] (.cells #[.int .i64 0, .int .i64 0] 26 (0, 0)) (fun r => .pointer (some ⟨r, 0, none⟩)) (obs := []) rfl (fun _ => by kernel_rfl) trivial) ?_
 rintro _ w ⟨r1, rfl, H⟩ a hE
 refine WR.seg hE 3 [] [0, 2, 4, 6] (Lo := [(0, .pointer (some ⟨p_t_, 0, none⟩)), (2, .int .i64 cell), (4, .pointer (some ⟨r, 0, none⟩)), (6, .pointer (some ⟨r1, 0, none⟩))]) (obs := []) rfl (by kernel_rfl) trivial fun a hE => ?_
 refine WR.done rfl ?_
 refine Runs.seq ?_
 refine Runs.seq ?_
 obtain ⟨t_1, et_1, hm⟩ := bind_some hm
 refine Runs.join (fun a w => EnvOk 70 a [(0, .pointer (some ⟨p_t_, 0, none⟩)), (2, .int .i64 cell), (4, .pointer (some ⟨r, 0, none⟩)), (6, .pointer (some ⟨r1, 0, none⟩)), (9, .int .i64 t_1.2)] ∧ St w0 (Blk r1 26 [.int .i64 0, .int .i64 0] :: Blk r 26 [.int .i64 h_.At, .int .i64 h_.Gen] :: slots_Table.R p_t_ al_t_ t_ :: As) w) (fun hk => ?_) ?_
 ·refine Runs.drawn mixed (by kernel_rfl) ?_
  replace H := H.drew
  replace H := slots_Table.open H.t2
  refine WQ.d hE [0, 1, 2, 3, 4] [.pointer (some ⟨al_t_.heaps_p, 0, none⟩), .int .i64 h_.At, .int .i64 h_.Gen] [(18, .pointer (some ⟨al_t_.heaps_p, 0, none⟩)), (19, .agg #[.int .i64 h_.At, .int .i64 h_.Gen])] (obs := [.cell ⟨p_t_, 0, none⟩ (.pointer (some ⟨al_t_.heaps_p, 0, none⟩)), .cell ⟨r, 0, none⟩ (.int .i64 h_.At), .cell ⟨r, 1, none⟩ (.int .i64 h_.Gen)]) ⟨H.cell 0 rfl rfl, H.cell 5 rfl rfl, H.cell 5 rfl rfl, trivial⟩ fun a hE => ?_
  refine WQ.act2 5 9 (by kernel_rfl) ?_ ?_
  ·refine AQ.eff (j := 5) (obs := []) hE rfl rfl rfl rfl (by kernel_rfl) (OpTo.fn hE rfl rfl Tryz.call120 (pool_Pool_slots_heap_Get_ok et_1 H.t1)) ?_
   rintro _ w ⟨rfl, H⟩
   refine ⟨trivial, fun a hE => ?_⟩
   refine WQ.d0 hE [6, 7, 8] [(21, .agg #[.int .i64 t_1.1.kind, .int .i64 t_1.1.root, .int .i64 t_1.1.n]), (22, .int .i64 t_1.2)] fun a hE => ?_
   refine WQ.eff (j := 9) (obs := []) hE (by kernel_rfl) rfl rfl rfl rfl (by kernel_rfl) (OpTo.new hE H [] (.cells #[.int .i64 0, .int .i64 0, .int .i64 0] 173 (0, 0)) (fun r => .pointer (some ⟨r, 0, none⟩)) (obs := []) rfl (fun _ => by kernel_rfl) trivial) ?_
   rintro _ w ⟨r3, rfl, H⟩
   refine ⟨trivial, fun a hE => ?_⟩
   refine WQ.eff0 (j := 10) (obs := []) hE (by kernel_rfl) rfl rfl rfl (by kernel_rfl) (OpTo.store hE H rfl rfl rfl rfl rfl rfl (Nat.le_of_ble_eq_true rfl)) ?_
   rintro _ w H
   refine ⟨trivial, fun a hE => ?_⟩
   refine WQ.d0 hE [11] [(9, .int .i64 t_1.2)] fun a hE => ?_
   refine WQ.done (by kernel_rfl) ?_
   replace H := slots_Table.shut al_t_ (t_) H.t4.t4.t3.t4
   exact hk _ _ ⟨hE.sel [0, 2, 4, 6, 9] (by kernel_rfl), H.x1.t2.t2⟩
  ·refine AQ.eff (j := 9) (obs := [.cell ⟨r, 0, none⟩ (.int .i64 h_.At), .cell ⟨r, 1, none⟩ (.int .i64 h_.Gen), .cell ⟨p_t_, 0, none⟩ (.pointer (some ⟨al_t_.heaps_p, 0, none⟩))]) hE rfl rfl rfl rfl (by kernel_rfl) (OpTo.new hE H [] (.cells #[.int .i64 0, .int .i64 0, .int .i64 0] 173 (0, 0)) (fun r => .pointer (some ⟨r, 0, none⟩)) (obs := []) rfl (fun _ => by kernel_rfl) trivial) ?_
   rintro _ w ⟨r4, rfl, H⟩
   refine ⟨⟨H.cell 6 rfl rfl, H.cell 6 rfl rfl, H.cell 1 rfl rfl, trivial⟩, fun a hE => ?_⟩
   refine WQ.eff (j := 5) (obs := []) hE (by kernel_rfl) rfl rfl rfl rfl (by kernel_rfl) (OpTo.fn hE rfl rfl Tryz.call120 (pool_Pool_slots_heap_Get_ok et_1 H.t2)) ?_
   rintro _ w ⟨rfl, H⟩
   refine ⟨trivial, fun a hE => ?_⟩
   refine WQ.d0 hE [6, 7, 8] [(21, .agg #[.int .i64 t_1.1.kind, .int .i64 t_1.1.root, .int .i64 t_1.1.n]), (22, .int .i64 t_1.2)] fun a hE => ?_
   refine WQ.eff0 (j := 10) (obs := []) hE (by kernel_rfl) rfl rfl rfl (by kernel_rfl) (OpTo.store hE H.t1 rfl rfl rfl rfl rfl rfl (Nat.le_of_ble_eq_true rfl)) ?_
   rintro _ w H
   refine ⟨trivial, fun a hE => ?_⟩
   refine WQ.d0 hE [11] [(9, .int .i64 t_1.2)] fun a hE => ?_
   refine WQ.done (by kernel_rfl) ?_
   replace H := slots_Table.shut al_t_ (t_) H.t4.t4.t3.t4
   exact hk _ _ ⟨hE.sel [0, 2, 4, 6, 9] (by kernel_rfl), H.x1.t2.t2⟩
 rintro a w ⟨hE, H⟩
 refine Runs.sr ?_
 refine WR.seg hE 2 [] [0, 2, 4, 6, 9, 24] (Lo := [(0, .pointer (some ⟨p_t_, 0, none⟩)), (2, .int .i64 cell), (4, .pointer (some ⟨r, 0, none⟩)), (6, .pointer (some ⟨r1, 0, none⟩)), (9, .int .i64 t_1.2), (24, .bool (t_1.2 != 0))]) (obs := []) rfl (by kernel_rfl) trivial fun a hE => ?_
 refine WR.done rfl ?_
 refine Runs.cond hE rfl (fun c => ?_) (fun c => ?_)
 ·replace hm := cond_t c hm
  refine Runs.sr ?_
  refine WR.d0 hE 2 [(25, .agg #[.int .i64 0, .int .i64 0]), (26, .int .i64 t_1.2)] fun a hE => ?_
  refine WR.eff0 hE rfl rfl rfl (OpTo.store hE H rfl rfl rfl rfl rfl rfl (Nat.le_of_ble_eq_true rfl)) ?_
  rintro _ w H a hE
  refine WR.e0 hE [(7, .int .i64 t_1.2)] fun a hE => ?_
  refine Runs.retO (vs := [.agg #[.int .i64 0, .int .i64 0], .int .i64 t_1.2]) (obs := [.cell ⟨r1, 0, none⟩ (.int .i64 0), .cell ⟨r1, 1, none⟩ (.int .i64 0)]) hE Tryz.func107 rfl [.int .i64 0, .int .i64 0] (by kernel_rfl) ⟨H.cell 0 rfl rfl, H.cell 0 rfl rfl, trivial⟩ ?_
  cases hm
  exact ⟨al_t_.items_a, rfl, H.x1.x0⟩
 ·replace hm := cond_f c hm
  refine Runs.skip ?_
  refine Runs.sr ?_
  replace H := slots_Table.open H.t2
  refine WR.d hE 5 [.map (some al_t_.at__p)] [(31, .map (some al_t_.at__p)), (32, .int .i64 cell)] (obs := [.cell ⟨p_t_, 2, none⟩ (.map (some al_t_.at__p))]) ⟨H.cell 0 rfl rfl, trivial⟩ fun a hE => ?_
  obtain ⟨x, ex, hm⟩ := bind_some hm
  refine WR.eff hE rfl rfl rfl rfl (OpTo.mpGet2 3 hE H rfl (KeyOk.int rfl) ex rfl rfl rfl rfl rfl rfl) ?_
  rintro _ _ ⟨rfl, rfl⟩ a hE
  refine WR.d0 hE 9 [(34, .agg #[.int .i64 x.1.At, .int .i64 x.1.Gen]), (35, .bool x.2)] fun a hE => ?_
  refine WR.eff hE rfl rfl rfl rfl (OpTo.new hE H [] (.cells #[.int .i64 0, .int .i64 0] 26 (0, 0)) (fun r => .pointer (some ⟨r, 0, none⟩)) (obs := []) rfl (fun _ => by kernel_rfl) trivial) ?_
  rintro _ w ⟨r5, rfl, H⟩ a hE
  refine WR.eff0 hE rfl rfl rfl (OpTo.store hE H rfl rfl rfl rfl rfl rfl (Nat.le_of_ble_eq_true rfl)) ?_
  rintro _ w H a hE
  refine WR.e0 hE [(11, .bool x.2)] fun a hE => ?_
  refine Runs.seq ?_
  refine Runs.block ?_
  refine Runs.seq ?_
  refine Runs.drawn mixed (by kernel_rfl) ?_
  replace H := H.drew
  refine WQ.d hE [0, 1, 2, 3, 5, 6, 7, 8] [.pointer (some ⟨al_t_.items_p, 0, none⟩), .pointer (some ⟨al_t_.items_p, 0, none⟩)] [(40, .pointer (some ⟨al_t_.items_p, 0, none⟩)), (45, .pointer (some ⟨al_t_.items_p, 0, none⟩))] (obs := [.cell ⟨p_t_, 1, none⟩ (.pointer (some ⟨al_t_.items_p, 0, none⟩)), .cell ⟨p_t_, 1, none⟩ (.pointer (some ⟨al_t_.items_p, 0, none⟩))]) ⟨H.cell 1 rfl rfl, H.cell 1 rfl rfl, trivial⟩ fun a hE => ?_
  obtain ⟨t_2, et_2, hm⟩ := bind_some hm
  refine WQ.eff (j := 4) (obs := [.cell ⟨p_t_, 1, none⟩ (.pointer (some ⟨al_t_.items_p, 0, none⟩))]) hE (by kernel_rfl) rfl rfl rfl rfl (by kernel_rfl) (OpTo.fn hE rfl rfl Tryz.call150 (pool_Pool_slots_thing_Len_ok et_2 H.t3)) ?_
  rintro _ w ⟨rfl, H⟩
  refine ⟨⟨H.cell 2 rfl rfl, trivial⟩, fun a hE => ?_⟩
  obtain ⟨t_3, et_3, hm⟩ := bind_some hm
  refine WQ.eff (j := 9) (obs := []) hE (by kernel_rfl) rfl rfl rfl rfl (by kernel_rfl) (OpTo.fn hE rfl rfl Tryz.call158 (pool_Pool_slots_thing_Places_ok et_3 H)) ?_
  rintro _ w ⟨rfl, H⟩
  refine ⟨trivial, fun a hE => ?_⟩
  refine WQ.d0 hE [10, 11] [(36, .bool (t_2 == t_3))] fun a hE => ?_
  refine WQ.done (by kernel_rfl) ?_
  refine Runs.cond hE rfl (fun c => ?_) (fun c => ?_)
  ·replace hm := cond_t c hm
   refine Runs.sr ?_
   refine WR.d0 hE 1 [(48, .agg #[.int .i64 0, .int .i64 0])] fun a hE => ?_
   refine WR.eff0 hE rfl rfl rfl (OpTo.store hE H.t5 rfl rfl rfl rfl rfl rfl (Nat.le_of_ble_eq_true rfl)) ?_
   rintro _ w H a hE
   refine WR.e0 hE [(7, .int .i64 13)] fun a hE => ?_
   refine Runs.retO (vs := [.agg #[.int .i64 0, .int .i64 0], .int .i64 13]) (obs := [.cell ⟨r1, 0, none⟩ (.int .i64 0), .cell ⟨r1, 1, none⟩ (.int .i64 0)]) hE Tryz.func107 rfl [.int .i64 0, .int .i64 0] (by kernel_rfl) ⟨H.cell 0 rfl rfl, H.cell 0 rfl rfl, trivial⟩ ?_
   replace H := slots_Table.shut al_t_ (t_) H.t5.t2.t5.t5
   cases hm
   exact ⟨al_t_.items_a, rfl, H.x3.x2.x1⟩
  ·replace hm := cond_f c hm
   refine Runs.sr ?_
   refine WR.e0 hE [(49, .bool x.2)] fun a hE => ?_
   refine Runs.cond hE rfl (fun c => ?_) (fun c => ?_)
   ·replace hm := cond_t c hm
    refine Runs.sr ?_
    refine WR.d0 hE 1 [(51, .agg #[.int .i64 0, .int .i64 0])] fun a hE => ?_
    refine WR.eff0 hE rfl rfl rfl (OpTo.store hE H.t5 rfl rfl rfl rfl rfl rfl (Nat.le_of_ble_eq_true rfl)) ?_
    rintro _ w H a hE
    refine WR.e0 hE [(7, .int .i64 1)] fun a hE => ?_
    refine Runs.retO (vs := [.agg #[.int .i64 0, .int .i64 0], .int .i64 1]) (obs := [.cell ⟨r1, 0, none⟩ (.int .i64 0), .cell ⟨r1, 1, none⟩ (.int .i64 0)]) hE Tryz.func107 rfl [.int .i64 0, .int .i64 0] (by kernel_rfl) ⟨H.cell 0 rfl rfl, H.cell 0 rfl rfl, trivial⟩ ?_
    replace H := slots_Table.shut al_t_ (t_) H.t5.t2.t5.t5
    cases hm
    exact ⟨al_t_.items_a, rfl, H.x3.x2.x1⟩
   ·replace hm := cond_f c hm
    refine Runs.skip ?_
    refine Runs.inBlock ?_
    refine Runs.seq ?_
    replace H := slots_Table.shut al_t_ (t_) H.t4.t1.t4.t4
    obtain ⟨t_4, et_4, hm⟩ := bind_some hm
    refine Runs.join (fun a w => ∃ (r7 : Nat), ∃ (z4 : pool_Pool_slots_thing.A), EnvOk 70 a [(0, .pointer (some ⟨p_t_, 0, none⟩)), (2, .int .i64 cell), (6, .pointer (some ⟨r1, 0, none⟩)), (12, .pointer (some ⟨r7, 0, none⟩))] ∧ St w0 (Blk r7 26 [.int .i64 t_4.1.At, .int .i64 t_4.1.Gen] :: slots_Table.R p_t_ (slots_Table.A.mk al_t_.heaps_p al_t_.heaps_a al_t_.items_p z4 al_t_.at__p) (slots_Table.mk t_.heaps t_4.2.2 t_.at_) :: Blk r1 26 [.int .i64 0, .int .i64 0] :: As) w) (fun hk => ?_) ?_
    ·refine Runs.drawn mixed (by kernel_rfl) ?_
     replace H := H.drew
     replace H := slots_Table.open H
     refine WQ.d hE [0, 1, 2, 3, 4, 5, 6] [.pointer (some ⟨al_t_.items_p, 0, none⟩), .int .i64 h_.At, .int .i64 h_.Gen] [(56, .pointer (some ⟨al_t_.items_p, 0, none⟩)), (59, .agg #[.int .i64 cell, .int .i64 h_.At, .int .i64 h_.Gen])] (obs := [.cell ⟨p_t_, 1, none⟩ (.pointer (some ⟨al_t_.items_p, 0, none⟩)), .cell ⟨r, 0, none⟩ (.int .i64 h_.At), .cell ⟨r, 1, none⟩ (.int .i64 h_.Gen)]) ⟨H.cell 0 rfl rfl, H.cell 6 rfl rfl, H.cell 6 rfl rfl, trivial⟩ fun a hE => ?_
     refine WQ.act2 7 11 (by kernel_rfl) ?_ ?_
     ·have hC_ := pool_Pool_slots_thing_Take_ok et_4 H.t2
      try dsimp only at hC_
      refine AQ.eff (j := 7) (obs := []) hE rfl rfl rfl rfl (by kernel_rfl) (OpTo.fn hE rfl rfl Tryz.call159 hC_) ?_
      rintro _ w ⟨z5, z6, z7, z8, rfl, H⟩
      refine ⟨trivial, fun a hE => ?_⟩
      refine WQ.d0 hE [8, 9, 10] [(61, .agg #[.int .i64 t_4.1.At, .int .i64 t_4.1.Gen]), (62, .bool t_4.2.1)] fun a hE => ?_
      refine WQ.eff (j := 11) (obs := []) hE (by kernel_rfl) rfl rfl rfl rfl (by kernel_rfl) (OpTo.new hE H [] (.cells #[.int .i64 0, .int .i64 0] 26 (0, 0)) (fun r => .pointer (some ⟨r, 0, none⟩)) (obs := []) rfl (fun _ => by kernel_rfl) trivial) ?_
      rintro _ w ⟨r8, rfl, H⟩
      refine ⟨trivial, fun a hE => ?_⟩
      refine WQ.eff0 (j := 12) (obs := []) hE (by kernel_rfl) rfl rfl rfl (by kernel_rfl) (OpTo.store hE H rfl rfl rfl rfl rfl rfl (Nat.le_of_ble_eq_true rfl)) ?_
      rintro _ w H
      refine ⟨trivial, fun a hE => ?_⟩
      refine WQ.d0 hE [13] [] fun a hE => ?_
      refine WQ.done (by kernel_rfl) ?_
      replace H := slots_Table.shut (slots_Table.A.mk al_t_.heaps_p al_t_.heaps_a al_t_.items_p (pool_Pool_slots_thing.A.mk z5 z6 z7 z8) al_t_.at__p) (slots_Table.mk t_.heaps t_4.2.2 t_.at_) H.t4.t2.t4.t4
      exact hk _ _ ⟨r8, pool_Pool_slots_thing.A.mk z5 z6 z7 z8, hE.sel [0, 2, 6, 12] (by kernel_rfl), H.x4.x2.t2.t1.t2⟩
     ·refine AQ.eff (j := 11) (obs := [.cell ⟨r, 0, none⟩ (.int .i64 h_.At), .cell ⟨r, 1, none⟩ (.int .i64 h_.Gen), .cell ⟨p_t_, 1, none⟩ (.pointer (some ⟨al_t_.items_p, 0, none⟩))]) hE rfl rfl rfl rfl (by kernel_rfl) (OpTo.new hE H [] (.cells #[.int .i64 0, .int .i64 0] 26 (0, 0)) (fun r => .pointer (some ⟨r, 0, none⟩)) (obs := []) rfl (fun _ => by kernel_rfl) trivial) ?_
      rintro _ w ⟨r9, rfl, H⟩
      refine ⟨⟨H.cell 7 rfl rfl, H.cell 7 rfl rfl, H.cell 1 rfl rfl, trivial⟩, fun a hE => ?_⟩
      have hC_ := pool_Pool_slots_thing_Take_ok et_4 H.t3
      try dsimp only at hC_
      refine WQ.eff (j := 7) (obs := []) hE (by kernel_rfl) rfl rfl rfl rfl (by kernel_rfl) (OpTo.fn hE rfl rfl Tryz.call159 hC_) ?_
      rintro _ w ⟨z9, z10, z11, z12, rfl, H⟩
      refine ⟨trivial, fun a hE => ?_⟩
      refine WQ.d0 hE [8, 9, 10] [(61, .agg #[.int .i64 t_4.1.At, .int .i64 t_4.1.Gen]), (62, .bool t_4.2.1)] fun a hE => ?_
      refine WQ.eff0 (j := 12) (obs := []) hE (by kernel_rfl) rfl rfl rfl (by kernel_rfl) (OpTo.store hE H.t1 rfl rfl rfl rfl rfl rfl (Nat.le_of_ble_eq_true rfl)) ?_
      rintro _ w H
      refine ⟨trivial, fun a hE => ?_⟩
      refine WQ.d0 hE [13] [] fun a hE => ?_
      refine WQ.done (by kernel_rfl) ?_
      replace H := slots_Table.shut (slots_Table.A.mk al_t_.heaps_p al_t_.heaps_a al_t_.items_p (pool_Pool_slots_thing.A.mk z9 z10 z11 z12) al_t_.at__p) (slots_Table.mk t_.heaps t_4.2.2 t_.at_) H.t4.t2.t4.t4
      exact hk _ _ ⟨r9, pool_Pool_slots_thing.A.mk z9 z10 z11 z12, hE.sel [0, 2, 6, 12] (by kernel_rfl), H.x4.x2.t2.t1.t2⟩
    rintro a w ⟨r7, z4, hE, H⟩
    refine Runs.seq ?_
    refine Runs.drawn mixed (by kernel_rfl) ?_
    replace H := H.drew
    replace H := slots_Table.open H.t1
    try dsimp only at H
    refine WQ.seg hE [0, 1, 2, 3, 4, 5] [.map (some al_t_.at__p), .int .i64 t_4.1.At, .int .i64 t_4.1.Gen] [6, 12, 66, 67, 68] (Lo := [(6, .pointer (some ⟨r1, 0, none⟩)), (12, .pointer (some ⟨r7, 0, none⟩)), (66, .map (some al_t_.at__p)), (67, .int .i64 cell), (68, .agg #[.int .i64 t_4.1.At, .int .i64 t_4.1.Gen])]) (obs := [.cell ⟨p_t_, 2, none⟩ (.map (some al_t_.at__p)), .cell ⟨r7, 0, none⟩ (.int .i64 t_4.1.At), .cell ⟨r7, 1, none⟩ (.int .i64 t_4.1.Gen)]) (by kernel_rfl) (by kernel_rfl) ⟨H.cell 0 rfl rfl, H.cell 4 rfl rfl, H.cell 4 rfl rfl, trivial⟩ fun a hE => ?_
    refine WQ.eff0 (j := 6) (obs := []) hE (by kernel_rfl) rfl rfl rfl (by kernel_rfl) (OpTo.mpPut (k := cell) (v := t_4.1) hE H.t3 (KeyOk.int rfl) rfl rfl rfl rfl rfl) ?_
    rintro _ w H
    refine ⟨trivial, fun a hE => ?_⟩
    refine WQ.done (by kernel_rfl) ?_
    refine Runs.sr ?_
    refine WR.d hE 1 [.int .i64 t_4.1.At, .int .i64 t_4.1.Gen] [(69, .agg #[.int .i64 t_4.1.At, .int .i64 t_4.1.Gen])] (obs := [.cell ⟨r7, 0, none⟩ (.int .i64 t_4.1.At), .cell ⟨r7, 1, none⟩ (.int .i64 t_4.1.Gen)]) ⟨H.cell 4 rfl rfl, H.cell 4 rfl rfl, trivial⟩ fun a hE => ?_
    refine WR.eff0 hE rfl rfl rfl (OpTo.store hE H.t5 rfl rfl rfl rfl rfl rfl (Nat.le_of_ble_eq_true rfl)) ?_
    rintro _ w H a hE
    refine WR.e0 hE [(7, .int .i64 0)] fun a hE => ?_
    refine Runs.retO (vs := [.agg #[.int .i64 t_4.1.At, .int .i64 t_4.1.Gen], .int .i64 0]) (obs := [.cell ⟨r1, 0, none⟩ (.int .i64 t_4.1.At), .cell ⟨r1, 1, none⟩ (.int .i64 t_4.1.Gen)]) hE Tryz.func107 rfl [.int .i64 t_4.1.At, .int .i64 t_4.1.Gen] (by kernel_rfl) ⟨H.cell 0 rfl rfl, H.cell 0 rfl rfl, trivial⟩ ?_
    replace H := slots_Table.shut (slots_Table.A.mk al_t_.heaps_p al_t_.heaps_a al_t_.items_p z4 al_t_.at__p) (slots_Table.mk ((slots_Table.mk t_.heaps t_4.2.2 t_.at_).heaps) ((slots_Table.mk t_.heaps t_4.2.2 t_.at_).items) (mPut kI cell t_4.1 ((slots_Table.mk t_.heaps t_4.2.2 t_.at_).at_))) H.t1.t4.t4.t4
    cases hm
    exact ⟨z4, rfl, H.x2.x1⟩

theorem pool_Pool_slots_heap_Set_ok {w0 w : World} {As : List HP} {p_p : Nat} {al_p : pool_Pool_slots_heap.A} {p : pool_Pool_slots_heap} {r : api_Ref} {v_ : slots_heap} {t : Int × pool_Pool_slots_heap}  (hm : pool_Pool_slots_heap_Set p r v_ = some t) (H : St w0 (pool_Pool_slots_heap.R p_p al_p p :: As) w) :
    CallsR Tryz.prog 160 #[.pointer (some ⟨p_p, 0, none⟩), .agg #[.int .i64 r.At, .int .i64 r.Gen], .agg #[.int .i64 v_.kind, .int .i64 v_.root, .int .i64 v_.n]] w fun v w' => v = .int .i64 t.1 ∧ St w0 (pool_Pool_slots_heap.R p_p al_p t.2 :: As) w' := by
 rw [pool_Pool_slots_heap_Set] at hm
 refine enter (args := [.pointer (some ⟨p_p, 0, none⟩), .agg #[.int .i64 r.At, .int .i64 r.Gen], .agg #[.int .i64 v_.kind, .int .i64 v_.root, .int .i64 v_.n]]) Tryz.func160 rfl rfl rfl fun a hE => ?_
 refine Runs.sr ?_
 refine WR.eff hE rfl rfl rfl rfl (OpTo.new hE H [] (.cells #[.int .i64 r.At, .int .i64 r.Gen] 26 (0, 0)) (fun r => .pointer (some ⟨r, 0, none⟩)) (obs := []) rfl (fun _ => by kernel_rfl) trivial) ?_
 rintro _ w ⟨r1, rfl, H⟩ a hE
 refine WR.eff hE rfl rfl rfl rfl (OpTo.new hE H [] (.cells #[.int .i64 v_.kind, .int .i64 v_.root, .int .i64 v_.n] 173 (0, 0)) (fun r => .pointer (some ⟨r, 0, none⟩)) (obs := []) rfl (fun _ => by kernel_rfl) trivial) ?_
 rintro _ w ⟨r2, rfl, H⟩ a hE
 refine WR.seg hE 3 [] [0, 4, 5] (Lo := [(0, .pointer (some ⟨p_p, 0, none⟩)), (4, .pointer (some ⟨r1, 0, none⟩)), (5, .pointer (some ⟨r2, 0, none⟩))]) (obs := []) rfl (by kernel_rfl) trivial fun a hE => ?_
 refine WR.done rfl ?_
 refine Runs.sr ?_
 refine WR.d hE 2 [.int .i64 r.At, .int .i64 r.Gen] [(10, .pointer (some ⟨p_p, 0, none⟩)), (11, .agg #[.int .i64 r.At, .int .i64 r.Gen])] (obs := [.cell ⟨r1, 0, none⟩ (.int .i64 r.At), .cell ⟨r1, 1, none⟩ (.int .i64 r.Gen)]) ⟨H.cell 1 rfl rfl, H.cell 1 rfl rfl, trivial⟩ fun a hE => ?_
 obtain ⟨t_, et_, hm⟩ := bind_some hm
 refine WR.eff hE rfl rfl rfl rfl (OpTo.fn hE rfl rfl Tryz.call192 (pool_Pool_slots_heap_find_ok et_ H.t2)) ?_
 rintro _ w ⟨rfl, H⟩ a hE
 rcases ho : t_.1 with _ | i
 ·replace hm := case_n ho hm
  rw [ho] at hE
  refine WR.seg hE 8 [] [5, 7, 8] (Lo := [(5, .pointer (some ⟨r2, 0, none⟩)), (7, .pointer none), (8, .int .i64 t_.2)]) (obs := []) rfl (by kernel_rfl) trivial fun a hE => ?_
  refine WR.done rfl ?_
  refine Runs.seq ?_
  refine Runs.sr ?_
  refine WR.e0 hE [(16, .bool (t_.2 == 0))] fun a hE => ?_
  obtain ⟨s, es, hm⟩ := bind_some hm
  refine Runs.join (fun a w => EnvOk 22 a [(8, .int .i64 t_.2)] ∧ St w0 (pool_Pool_slots_heap.R p_p al_p p :: As) w) (fun hk => ?_) ?_
  ·replace hm := es; clear es
   refine Runs.cond hE rfl (fun c => ?_) (fun c => ?_)
   ·replace hm := cond_t c hm
    refine Runs.region ?_
    cases hm
   ·replace hm := cond_f c hm
    refine Runs.skip ?_
    cases hm
    exact hk _ _ ⟨hE.sel [8] (by kernel_rfl), H.x2.x1⟩
  rintro a w ⟨hE, H⟩
  refine Runs.sr ?_
  refine WR.seg hE 2 [] [6] (Lo := [(6, .int .i64 t_.2)]) (obs := []) rfl (by kernel_rfl) trivial fun a hE => ?_
  refine WR.done rfl ?_
  refine Runs.ret hE Tryz.func160 rfl rfl ?_
  cases hm
  exact ⟨rfl, H⟩
 ·replace hm := case_s ho hm
  replace H := pool_Pool_slots_heap.open H
  obtain ⟨x, ex, hm⟩ := bind_some hm
  obtain ⟨b, o, hs, hb⟩ := SlRd.base (sl_rd 237 pool_place_slots_heap.enc 5 _ _ _) pool_place_slots_heap.enc_ok H 1 rfl ex
  rw [ho, elemV_some hs] at hE
  refine WR.seg hE 8 [] [5, 7, 8] (Lo := [(5, .pointer (some ⟨r2, 0, none⟩)), (7, .pointer (some ⟨b, o + (Int.toNat i) * 5, none⟩)), (8, .int .i64 t_.2)]) (obs := []) rfl (by kernel_rfl) trivial fun a hE => ?_
  refine WR.done rfl ?_
  refine Runs.seq ?_
  refine Runs.sr ?_
  refine WR.e0 hE [(16, .bool (t_.2 == 0))] fun a hE => ?_
  replace H := pool_Pool_slots_heap.shut al_p (p) H.t2.t2.t2
  obtain ⟨s1, es1, hm⟩ := bind_some hm
  refine Runs.join (fun a w => EnvOk 22 a [(8, .int .i64 t_.2)] ∧ St w0 (pool_Pool_slots_heap.R p_p al_p s1 :: As) w) (fun hk => ?_) ?_
  ·replace hm := es1; clear es1
   refine Runs.cond hE rfl (fun c => ?_) (fun c => ?_)
   ·replace hm := cond_t c hm
    refine Runs.region ?_
    replace H := pool_Pool_slots_heap.open H
    refine WR.d hE 4 [.int .i64 v_.kind, .int .i64 v_.root, .int .i64 v_.n] [(18, .agg #[.int .i64 v_.kind, .int .i64 v_.root, .int .i64 v_.n]), (20, .pointer (some ⟨b, o + (Int.toNat i) * 5 + 2, none⟩))] (obs := [.cell ⟨r2, 0, none⟩ (.int .i64 v_.kind), .cell ⟨r2, 1, none⟩ (.int .i64 v_.root), .cell ⟨r2, 2, none⟩ (.int .i64 v_.n)]) ⟨H.cell 3 rfl rfl, H.cell 3 rfl rfl, H.cell 3 rfl rfl, trivial⟩ fun a hE => ?_
    refine WR.eff0 hE rfl rfl rfl (OpTo.storeSl (q := 2) (x' := (pool_place_slots_heap.mk x.gen x.taken v_)) hE H.t1 pool_place_slots_heap.enc_ok rfl hs ex rfl rfl rfl rfl rfl (Nat.le_of_ble_eq_true rfl) rfl) ?_
    rintro _ w H a hE
    rw [← mSet_len p.l i (pool_place_slots_heap.mk x.gen x.taken v_)] at H
    refine WR.done rfl ?_
    replace H := pool_Pool_slots_heap.shut al_p (pool_Pool_slots_heap.mk p.most (mSet p.l i (pool_place_slots_heap.mk x.gen x.taken v_)) p.free) H.t2.t1.t2
    cases hm
    exact hk _ _ ⟨hE.sel [8] (by kernel_rfl), H.x2.x1⟩
   ·replace hm := cond_f c hm
    refine Runs.skip ?_
    cases hm
    exact hk _ _ ⟨hE.sel [8] (by kernel_rfl), H.x2.x1⟩
  rintro a w ⟨hE, H⟩
  refine Runs.sr ?_
  refine WR.seg hE 2 [] [6] (Lo := [(6, .int .i64 t_.2)]) (obs := []) rfl (by kernel_rfl) trivial fun a hE => ?_
  refine WR.done rfl ?_
  refine Runs.ret hE Tryz.func160 rfl rfl ?_
  cases hm
  exact ⟨rfl, H⟩

theorem slots_Table_Root_ok {w0 w : World} {As : List HP} {p_t_ : Nat} {al_t_ : slots_Table.A} {t_ : slots_Table} {h_ : api_Ref} {r : Int} {n : Int} {t : Int × slots_Table}  (hm : slots_Table_Root t_ h_ r n = some t) (H : St w0 (slots_Table.R p_t_ al_t_ t_ :: As) w) :
    CallsR Tryz.prog 108 #[.pointer (some ⟨p_t_, 0, none⟩), .agg #[.int .i64 h_.At, .int .i64 h_.Gen], .int .i64 r, .int .i64 n] w fun v w' => v = .int .i64 t.1 ∧ St w0 (slots_Table.R p_t_ al_t_ t.2 :: As) w' := by
 rw [slots_Table_Root] at hm
 refine enter (args := [.pointer (some ⟨p_t_, 0, none⟩), .agg #[.int .i64 h_.At, .int .i64 h_.Gen], .int .i64 r, .int .i64 n]) Tryz.func108 rfl rfl rfl fun a hE => ?_
 refine Runs.sr ?_
 refine WR.eff hE rfl rfl rfl rfl (OpTo.new hE H [] (.cells #[.int .i64 h_.At, .int .i64 h_.Gen] 26 (0, 0)) (fun r => .pointer (some ⟨r, 0, none⟩)) (obs := []) rfl (fun _ => by kernel_rfl) trivial) ?_
 rintro _ w ⟨r1, rfl, H⟩ a hE
 refine WR.seg hE 2 [] [0, 2, 3, 5] (Lo := [(0, .pointer (some ⟨p_t_, 0, none⟩)), (2, .int .i64 r), (3, .int .i64 n), (5, .pointer (some ⟨r1, 0, none⟩))]) (obs := []) rfl (by kernel_rfl) trivial fun a hE => ?_
 refine WR.done rfl ?_
 refine Runs.seq ?_
 obtain ⟨t_1, et_1, hm⟩ := bind_some hm
 refine Runs.join (fun a w => ∃ (r3 : Nat), EnvOk 34 a [(0, .pointer (some ⟨p_t_, 0, none⟩)), (2, .int .i64 r), (3, .int .i64 n), (5, .pointer (some ⟨r1, 0, none⟩)), (9, .pointer (some ⟨r3, 0, none⟩)), (10, .int .i64 t_1.2)] ∧ St w0 (Blk r3 173 [.int .i64 t_1.1.kind, .int .i64 t_1.1.root, .int .i64 t_1.1.n] :: Blk r1 26 [.int .i64 h_.At, .int .i64 h_.Gen] :: slots_Table.R p_t_ al_t_ t_ :: As) w) (fun hk => ?_) ?_
 ·refine Runs.drawn mixed (by kernel_rfl) ?_
  replace H := H.drew
  replace H := slots_Table.open H.t1
  refine WQ.d hE [0, 1, 2, 3, 4] [.pointer (some ⟨al_t_.heaps_p, 0, none⟩), .int .i64 h_.At, .int .i64 h_.Gen] [(15, .pointer (some ⟨al_t_.heaps_p, 0, none⟩)), (16, .agg #[.int .i64 h_.At, .int .i64 h_.Gen])] (obs := [.cell ⟨p_t_, 0, none⟩ (.pointer (some ⟨al_t_.heaps_p, 0, none⟩)), .cell ⟨r1, 0, none⟩ (.int .i64 h_.At), .cell ⟨r1, 1, none⟩ (.int .i64 h_.Gen)]) ⟨H.cell 0 rfl rfl, H.cell 4 rfl rfl, H.cell 4 rfl rfl, trivial⟩ fun a hE => ?_
  refine WQ.act2 5 9 (by kernel_rfl) ?_ ?_
  ·refine AQ.eff (j := 5) (obs := []) hE rfl rfl rfl rfl (by kernel_rfl) (OpTo.fn hE rfl rfl Tryz.call120 (pool_Pool_slots_heap_Get_ok et_1 H.t1)) ?_
   rintro _ w ⟨rfl, H⟩
   refine ⟨trivial, fun a hE => ?_⟩
   refine WQ.d0 hE [6, 7, 8] [(18, .agg #[.int .i64 t_1.1.kind, .int .i64 t_1.1.root, .int .i64 t_1.1.n]), (19, .int .i64 t_1.2)] fun a hE => ?_
   refine WQ.eff (j := 9) (obs := []) hE (by kernel_rfl) rfl rfl rfl rfl (by kernel_rfl) (OpTo.new hE H [] (.cells #[.int .i64 0, .int .i64 0, .int .i64 0] 173 (0, 0)) (fun r => .pointer (some ⟨r, 0, none⟩)) (obs := []) rfl (fun _ => by kernel_rfl) trivial) ?_
   rintro _ w ⟨r4, rfl, H⟩
   refine ⟨trivial, fun a hE => ?_⟩
   refine WQ.eff0 (j := 10) (obs := []) hE (by kernel_rfl) rfl rfl rfl (by kernel_rfl) (OpTo.store hE H rfl rfl rfl rfl rfl rfl (Nat.le_of_ble_eq_true rfl)) ?_
   rintro _ w H
   refine ⟨trivial, fun a hE => ?_⟩
   refine WQ.d0 hE [11] [(10, .int .i64 t_1.2)] fun a hE => ?_
   refine WQ.done (by kernel_rfl) ?_
   replace H := slots_Table.shut al_t_ (t_) H.t4.t4.t3.t4
   exact hk _ _ ⟨r4, hE.sel [0, 2, 3, 5, 9, 10] (by kernel_rfl), H.t2.t2⟩
  ·refine AQ.eff (j := 9) (obs := [.cell ⟨r1, 0, none⟩ (.int .i64 h_.At), .cell ⟨r1, 1, none⟩ (.int .i64 h_.Gen), .cell ⟨p_t_, 0, none⟩ (.pointer (some ⟨al_t_.heaps_p, 0, none⟩))]) hE rfl rfl rfl rfl (by kernel_rfl) (OpTo.new hE H [] (.cells #[.int .i64 0, .int .i64 0, .int .i64 0] 173 (0, 0)) (fun r => .pointer (some ⟨r, 0, none⟩)) (obs := []) rfl (fun _ => by kernel_rfl) trivial) ?_
   rintro _ w ⟨r5, rfl, H⟩
   refine ⟨⟨H.cell 5 rfl rfl, H.cell 5 rfl rfl, H.cell 1 rfl rfl, trivial⟩, fun a hE => ?_⟩
   refine WQ.eff (j := 5) (obs := []) hE (by kernel_rfl) rfl rfl rfl rfl (by kernel_rfl) (OpTo.fn hE rfl rfl Tryz.call120 (pool_Pool_slots_heap_Get_ok et_1 H.t2)) ?_
   rintro _ w ⟨rfl, H⟩
   refine ⟨trivial, fun a hE => ?_⟩
   refine WQ.d0 hE [6, 7, 8] [(18, .agg #[.int .i64 t_1.1.kind, .int .i64 t_1.1.root, .int .i64 t_1.1.n]), (19, .int .i64 t_1.2)] fun a hE => ?_
   refine WQ.eff0 (j := 10) (obs := []) hE (by kernel_rfl) rfl rfl rfl (by kernel_rfl) (OpTo.store hE H.t1 rfl rfl rfl rfl rfl rfl (Nat.le_of_ble_eq_true rfl)) ?_
   rintro _ w H
   refine ⟨trivial, fun a hE => ?_⟩
   refine WQ.d0 hE [11] [(10, .int .i64 t_1.2)] fun a hE => ?_
   refine WQ.done (by kernel_rfl) ?_
   replace H := slots_Table.shut al_t_ (t_) H.t4.t4.t3.t4
   exact hk _ _ ⟨r5, hE.sel [0, 2, 3, 5, 9, 10] (by kernel_rfl), H.t2.t2⟩
 rintro a w ⟨r3, hE, H⟩
 refine Runs.seq ?_
 refine Runs.sr ?_
 refine WR.seg hE 2 [] [0, 2, 3, 5, 9, 10, 21] (Lo := [(0, .pointer (some ⟨p_t_, 0, none⟩)), (2, .int .i64 r), (3, .int .i64 n), (5, .pointer (some ⟨r1, 0, none⟩)), (9, .pointer (some ⟨r3, 0, none⟩)), (10, .int .i64 t_1.2), (21, .bool (t_1.2 == 0))]) (obs := []) rfl (by kernel_rfl) trivial fun a hE => ?_
 refine WR.done rfl ?_
 obtain ⟨s, es, hm⟩ := bind_some hm
 refine Runs.join (fun a w => EnvOk 34 a [(10, .int .i64 t_1.2)] ∧ St w0 (slots_Table.R p_t_ al_t_ s :: As) w) (fun hk => ?_) ?_
 ·replace hm := es; clear es
  refine Runs.cond hE rfl (fun c => ?_) (fun c => ?_)
  ·replace hm := cond_t c hm
   refine Runs.sr ?_
   refine WR.d0 hE 3 [(22, .int .i64 r), (23, .int .i64 n), (24, .pointer (some ⟨r3, 1, none⟩))] fun a hE => ?_
   refine WR.eff0 hE rfl rfl rfl (OpTo.store hE H rfl rfl rfl rfl rfl rfl (Nat.le_of_ble_eq_true rfl)) ?_
   rintro _ w H a hE
   refine WR.d0 hE 5 [(25, .pointer (some ⟨r3, 2, none⟩))] fun a hE => ?_
   refine WR.eff0 hE rfl rfl rfl (OpTo.store hE H rfl rfl rfl rfl rfl rfl (Nat.le_of_ble_eq_true rfl)) ?_
   rintro _ w H a hE
   refine WR.done rfl ?_
   refine Runs.drawn mixed (by kernel_rfl) ?_
   replace H := H.drew
   replace H := slots_Table.open H.t2
   refine WQ.d hE [0, 1, 2, 3, 4, 5] [.pointer (some ⟨al_t_.heaps_p, 0, none⟩), .int .i64 h_.At, .int .i64 h_.Gen, .int .i64 t_1.1.kind, .int .i64 r, .int .i64 n] [(29, .pointer (some ⟨al_t_.heaps_p, 0, none⟩)), (30, .agg #[.int .i64 h_.At, .int .i64 h_.Gen]), (31, .agg #[.int .i64 t_1.1.kind, .int .i64 r, .int .i64 n])] (obs := [.cell ⟨p_t_, 0, none⟩ (.pointer (some ⟨al_t_.heaps_p, 0, none⟩)), .cell ⟨r1, 0, none⟩ (.int .i64 h_.At), .cell ⟨r1, 1, none⟩ (.int .i64 h_.Gen), .cell ⟨r3, 0, none⟩ (.int .i64 t_1.1.kind), .cell ⟨r3, 1, none⟩ (.int .i64 r), .cell ⟨r3, 2, none⟩ (.int .i64 n)]) ⟨H.cell 0 rfl rfl, H.cell 5 rfl rfl, H.cell 5 rfl rfl, H.cell 4 rfl rfl, H.cell 4 rfl rfl, H.cell 4 rfl rfl, trivial⟩ fun a hE => ?_
   obtain ⟨t_2, et_2, hm⟩ := bind_some hm
   have hC_ := pool_Pool_slots_heap_Set_ok et_2 H.t1
   try dsimp only at hC_
   refine WQ.eff (j := 6) (obs := []) hE (by kernel_rfl) rfl rfl rfl rfl (by kernel_rfl) (OpTo.fn hE rfl rfl Tryz.call160 hC_) ?_
   rintro _ w ⟨rfl, H⟩
   refine ⟨trivial, fun a hE => ?_⟩
   refine WQ.done (by kernel_rfl) ?_
   replace H := slots_Table.shut al_t_ (slots_Table.mk t_2.2 t_.items t_.at_) H.t3.t3.t2.t3
   cases hm
   exact hk _ _ ⟨hE.sel [10] (by kernel_rfl), H.x2.x1⟩
  ·replace hm := cond_f c hm
   refine Runs.skip ?_
   cases hm
   exact hk _ _ ⟨hE.sel [10] (by kernel_rfl), H.x1.x0⟩
 rintro a w ⟨hE, H⟩
 refine Runs.sr ?_
 refine WR.seg hE 2 [] [8] (Lo := [(8, .int .i64 t_1.2)]) (obs := []) rfl (by kernel_rfl) trivial fun a hE => ?_
 refine WR.done rfl ?_
 refine Runs.ret hE Tryz.func108 rfl rfl ?_
 cases hm
 exact ⟨rfl, H⟩

theorem pq_Queues_insert_ok {w0 w : World} {As : List HP} {k : Nat} {p_q : Nat} {al_q : pq_Queues.A} {q : pq_Queues} {c_ : api_Call} {t : api_Answer × pq_Queues}  (hm : pq_Queues_insert k q c_ = some t) (H : St w0 (pq_Queues.R p_q al_q q :: As) w) :
    CallsR Tryz.prog 62 #[.pointer (some ⟨p_q, 0, none⟩), .agg #[.int .i64 c_.Op, .int .i64 c_.Kind, .int .i64 c_.Heap.At, .int .i64 c_.Heap.Gen, .int .i64 c_.Other.At, .int .i64 c_.Other.Gen, .int .i64 c_.Item.At, .int .i64 c_.Item.Gen, .int .i64 c_.Key]] w fun v w' => ∃ (z_q_a__a : arena_Arena.A), ∃ (z_q_t__a : slots_Table.A), v = .agg #[.int .i64 t.1.Why, .int .i64 t.1.Heap.At, .int .i64 t.1.Heap.Gen, .int .i64 t.1.Item.At, .int .i64 t.1.Item.Gen, .int .i64 t.1.Entry.Key, .int .i64 t.1.Entry.Serial, .int .i64 t.1.N] ∧ St w0 (pq_Queues.R p_q (pq_Queues.A.mk al_q.a__p z_q_a__a al_q.t__p z_q_t__a al_q.entries_p) t.2 :: As) w' := by
 rw [pq_Queues_insert] at hm
 refine enter (args := [.pointer (some ⟨p_q, 0, none⟩), .agg #[.int .i64 c_.Op, .int .i64 c_.Kind, .int .i64 c_.Heap.At, .int .i64 c_.Heap.Gen, .int .i64 c_.Other.At, .int .i64 c_.Other.Gen, .int .i64 c_.Item.At, .int .i64 c_.Item.Gen, .int .i64 c_.Key]]) Tryz.func62 rfl rfl rfl fun a hE => ?_
 refine Runs.sr ?_
 refine WR.eff hE rfl rfl rfl rfl (OpTo.new hE H [] (.cells #[.int .i64 c_.Op, .int .i64 c_.Kind, .int .i64 c_.Heap.At, .int .i64 c_.Heap.Gen, .int .i64 c_.Other.At, .int .i64 c_.Other.Gen, .int .i64 c_.Item.At, .int .i64 c_.Item.Gen, .int .i64 c_.Key] 89 (0, 0)) (fun r => .pointer (some ⟨r, 0, none⟩)) (obs := []) rfl (fun _ => by kernel_rfl) trivial) ?_
 rintro _ w ⟨r, rfl, H⟩ a hE
 refine WR.eff hE rfl rfl rfl rfl (OpTo.new hE H [] (.cells #[.int .i64 0, .int .i64 0, .int .i64 0, .int .i64 0, .int .i64 0, .int .i64 0, .int .i64 0, .int .i64 0] 86 (0, 0)) (fun r => .pointer (some ⟨r, 0, none⟩)) (obs := []) rfl (fun _ => by kernel_rfl) trivial) ?_
 rintro _ w ⟨r1, rfl, H⟩ a hE
 refine WR.done rfl ?_
 refine Runs.seq ?_
 refine Runs.drawn mixed (by kernel_rfl) ?_
 replace H := H.drew
 replace H := pq_Queues.open H.t2
 refine WQ.seg hE [0, 1, 2, 3, 4, 5] [.pointer (some ⟨al_q.t__p, 0, none⟩), .int .i64 c_.Heap.At, .int .i64 c_.Heap.Gen] [0, 3, 4, 18, 20] (Lo := [(0, .pointer (some ⟨p_q, 0, none⟩)), (3, .pointer (some ⟨r, 0, none⟩)), (4, .pointer (some ⟨r1, 0, none⟩)), (18, .pointer (some ⟨al_q.t__p, 0, none⟩)), (20, .agg #[.int .i64 c_.Heap.At, .int .i64 c_.Heap.Gen])]) (obs := [.cell ⟨p_q, 2, none⟩ (.pointer (some ⟨al_q.t__p, 0, none⟩)), .cell ⟨r, 2, none⟩ (.int .i64 c_.Heap.At), .cell ⟨r, 3, none⟩ (.int .i64 c_.Heap.Gen)]) (by kernel_rfl) (by kernel_rfl) ⟨H.cell 0 rfl rfl, H.cell 5 rfl rfl, H.cell 5 rfl rfl, trivial⟩ fun a hE => ?_
 obtain ⟨t_, et_, hm⟩ := bind_some hm
 refine WQ.eff (j := 6) (obs := []) hE (by kernel_rfl) rfl rfl rfl rfl (by kernel_rfl) (OpTo.fn hE rfl rfl Tryz.call67 (slots_Table_Heap_ok et_ H.t2)) ?_
 rintro _ w ⟨rfl, H⟩
 refine ⟨trivial, fun a hE => ?_⟩
 refine WQ.d0 hE [7, 8, 9, 10, 11, 12, 13, 14, 15] [(5, .int .i64 t_.1), (6, .int .i64 t_.2.1), (7, .int .i64 t_.2.2.1), (8, .int .i64 t_.2.2.2)] fun a hE => ?_
 refine WQ.done (by kernel_rfl) ?_
 refine Runs.seq ?_
 refine Runs.block ?_
 refine Runs.sr ?_
 refine WR.e0 hE [(26, .bool (t_.2.2.2 != 0))] fun a hE => ?_
 refine Runs.cond hE rfl (fun c => ?_) (fun c => ?_)
 ·replace hm := cond_t c hm
  refine Runs.sr ?_
  refine WR.d0 hE 1 [(29, .int .i64 t_.2.2.2)] fun a hE => ?_
  obtain ⟨t_1, et_1, hm⟩ := bind_some hm
  refine WR.eff hE rfl rfl rfl rfl (OpTo.fn hE rfl rfl Tryz.call69 (pq_refused_ok et_1 H)) ?_
  rintro _ w ⟨rfl, H⟩ a hE
  refine WR.eff0 hE rfl rfl rfl (OpTo.store hE H.t4 rfl rfl rfl rfl rfl rfl (Nat.le_of_ble_eq_true rfl)) ?_
  rintro _ w H a hE
  refine WR.done rfl ?_
  refine Runs.retO (vs := [.agg #[.int .i64 t_1.Why, .int .i64 t_1.Heap.At, .int .i64 t_1.Heap.Gen, .int .i64 t_1.Item.At, .int .i64 t_1.Item.Gen, .int .i64 t_1.Entry.Key, .int .i64 t_1.Entry.Serial, .int .i64 t_1.N]]) (obs := [.cell ⟨r1, 0, none⟩ (.int .i64 t_1.Why), .cell ⟨r1, 1, none⟩ (.int .i64 t_1.Heap.At), .cell ⟨r1, 2, none⟩ (.int .i64 t_1.Heap.Gen), .cell ⟨r1, 3, none⟩ (.int .i64 t_1.Item.At), .cell ⟨r1, 4, none⟩ (.int .i64 t_1.Item.Gen), .cell ⟨r1, 5, none⟩ (.int .i64 t_1.Entry.Key), .cell ⟨r1, 6, none⟩ (.int .i64 t_1.Entry.Serial), .cell ⟨r1, 7, none⟩ (.int .i64 t_1.N)]) hE Tryz.func62 rfl [.int .i64 t_1.Why, .int .i64 t_1.Heap.At, .int .i64 t_1.Heap.Gen, .int .i64 t_1.Item.At, .int .i64 t_1.Item.Gen, .int .i64 t_1.Entry.Key, .int .i64 t_1.Entry.Serial, .int .i64 t_1.N] (by kernel_rfl) ⟨H.cell 0 rfl rfl, H.cell 0 rfl rfl, H.cell 0 rfl rfl, H.cell 0 rfl rfl, H.cell 0 rfl rfl, H.cell 0 rfl rfl, H.cell 0 rfl rfl, H.cell 0 rfl rfl, trivial⟩ ?_
  replace H := pq_Queues.shut al_q (q) H.t4.t2.t4.t4
  cases hm
  exact ⟨al_q.a__a, al_q.t__a, rfl, H.x2.x1⟩
 ·replace hm := cond_f c hm
  refine Runs.seq ?_
  refine Runs.drawn mixed (by kernel_rfl) ?_
  replace H := H.drew
  refine WQ.d hE [0, 1, 2, 3, 5, 6, 7, 8] [.pointer (some ⟨al_q.t__p, 0, none⟩), .int .i64 q.items] [(35, .pointer (some ⟨al_q.t__p, 0, none⟩)), (40, .int .i64 q.items)] (obs := [.cell ⟨p_q, 2, none⟩ (.pointer (some ⟨al_q.t__p, 0, none⟩)), .cell ⟨p_q, 0, none⟩ (.int .i64 q.items)]) ⟨H.cell 1 rfl rfl, H.cell 1 rfl rfl, trivial⟩ fun a hE => ?_
  obtain ⟨t_2, et_2, hm⟩ := bind_some hm
  refine WQ.eff (j := 4) (obs := [.cell ⟨p_q, 0, none⟩ (.int .i64 q.items)]) hE (by kernel_rfl) rfl rfl rfl rfl (by kernel_rfl) (OpTo.fn hE rfl rfl Tryz.call104 (slots_Table_Items_ok et_2 H)) ?_
  rintro _ w ⟨rfl, H⟩
  refine ⟨⟨H.cell 1 rfl rfl, trivial⟩, fun a hE => ?_⟩
  refine WQ.d0 hE [9, 10] [(31, .bool (decide (t_2 ≥ q.items)))] fun a hE => ?_
  refine WQ.done (by kernel_rfl) ?_
  refine Runs.cond hE rfl (fun c => ?_) (fun c => ?_)
  ·replace hm := cond_t c hm
   refine Runs.sr ?_
   obtain ⟨t_3, et_3, hm⟩ := bind_some hm
   refine WR.eff hE rfl rfl rfl rfl (OpTo.fn hE rfl rfl Tryz.call69 (pq_refused_ok et_3 H)) ?_
   rintro _ w ⟨rfl, H⟩ a hE
   refine WR.eff0 hE rfl rfl rfl (OpTo.store hE H.t4 rfl rfl rfl rfl rfl rfl (Nat.le_of_ble_eq_true rfl)) ?_
   rintro _ w H a hE
   refine WR.done rfl ?_
   refine Runs.retO (vs := [.agg #[.int .i64 t_3.Why, .int .i64 t_3.Heap.At, .int .i64 t_3.Heap.Gen, .int .i64 t_3.Item.At, .int .i64 t_3.Item.Gen, .int .i64 t_3.Entry.Key, .int .i64 t_3.Entry.Serial, .int .i64 t_3.N]]) (obs := [.cell ⟨r1, 0, none⟩ (.int .i64 t_3.Why), .cell ⟨r1, 1, none⟩ (.int .i64 t_3.Heap.At), .cell ⟨r1, 2, none⟩ (.int .i64 t_3.Heap.Gen), .cell ⟨r1, 3, none⟩ (.int .i64 t_3.Item.At), .cell ⟨r1, 4, none⟩ (.int .i64 t_3.Item.Gen), .cell ⟨r1, 5, none⟩ (.int .i64 t_3.Entry.Key), .cell ⟨r1, 6, none⟩ (.int .i64 t_3.Entry.Serial), .cell ⟨r1, 7, none⟩ (.int .i64 t_3.N)]) hE Tryz.func62 rfl [.int .i64 t_3.Why, .int .i64 t_3.Heap.At, .int .i64 t_3.Heap.Gen, .int .i64 t_3.Item.At, .int .i64 t_3.Item.Gen, .int .i64 t_3.Entry.Key, .int .i64 t_3.Entry.Serial, .int .i64 t_3.N] (by kernel_rfl) ⟨H.cell 0 rfl rfl, H.cell 0 rfl rfl, H.cell 0 rfl rfl, H.cell 0 rfl rfl, H.cell 0 rfl rfl, H.cell 0 rfl rfl, H.cell 0 rfl rfl, H.cell 0 rfl rfl, trivial⟩ ?_
   replace H := pq_Queues.shut al_q (q) H.t4.t2.t4.t4
   cases hm
   exact ⟨al_q.a__a, al_q.t__a, rfl, H.x2.x1⟩
  ·replace hm := cond_f c hm
   refine Runs.skip ?_
   refine Runs.inBlock ?_
   refine Runs.seq ?_
   refine Runs.drawn mixed (by kernel_rfl) ?_
   replace H := H.drew
   refine WQ.d hE [0, 1, 2, 3, 4, 5, 6] [.int .i64 c_.Key, .int .i64 q.serial] [(49, .agg #[.int .i64 c_.Key, .int .i64 q.serial])] (obs := [.cell ⟨r, 8, none⟩ (.int .i64 c_.Key), .cell ⟨p_q, 4, none⟩ (.int .i64 q.serial)]) ⟨H.cell 5 rfl rfl, H.cell 1 rfl rfl, trivial⟩ fun a hE => ?_
   refine WQ.eff (j := 7) (obs := [.cell ⟨p_q, 4, none⟩ (.int .i64 q.serial), .cell ⟨r, 8, none⟩ (.int .i64 c_.Key)]) hE (by kernel_rfl) rfl rfl rfl rfl (by kernel_rfl) (OpTo.new hE H [] (.cells #[.int .i64 0, .int .i64 0] 84 (0, 0)) (fun r => .pointer (some ⟨r, 0, none⟩)) (obs := []) rfl (fun _ => by kernel_rfl) trivial) ?_
   rintro _ w ⟨r2, rfl, H⟩
   refine ⟨⟨H.cell 2 rfl rfl, H.cell 6 rfl rfl, trivial⟩, fun a hE => ?_⟩
   refine WQ.eff0 (j := 8) (obs := []) hE (by kernel_rfl) rfl rfl rfl (by kernel_rfl) (OpTo.store hE H rfl rfl rfl rfl rfl rfl (Nat.le_of_ble_eq_true rfl)) ?_
   rintro _ w H
   refine ⟨trivial, fun a hE => ?_⟩
   refine WQ.done (by kernel_rfl) ?_
   refine Runs.seq ?_
   refine Runs.drawn mixed (by kernel_rfl) ?_
   replace H := H.drew
   refine WQ.d hE [0, 1, 2, 3, 4, 5, 6, 7] [.pointer (some ⟨al_q.a__p, 0, none⟩), .int .i64 c_.Key, .int .i64 q.serial] [(54, .pointer (some ⟨al_q.a__p, 0, none⟩)), (56, .int .i64 c_.Key), (58, .int .i64 q.serial)] (obs := [.cell ⟨p_q, 1, none⟩ (.pointer (some ⟨al_q.a__p, 0, none⟩)), .cell ⟨r2, 0, none⟩ (.int .i64 c_.Key), .cell ⟨r2, 1, none⟩ (.int .i64 q.serial)]) ⟨H.cell 2 rfl rfl, H.cell 0 rfl rfl, H.cell 0 rfl rfl, trivial⟩ fun a hE => ?_
   obtain ⟨t_4, et_4, hm⟩ := bind_some hm
   refine WQ.eff (j := 8) (obs := []) hE (by kernel_rfl) rfl rfl rfl rfl (by kernel_rfl) (OpTo.fn hE rfl rfl Tryz.call105 (item_New_ok et_4 H.t3)) ?_
   rintro _ w ⟨z, z1, rfl, H⟩
   refine ⟨trivial, fun a hE => ?_⟩
   refine WQ.d0 hE [9, 10, 11, 12, 13] [(10, .int .i64 t_4.1)] fun a hE => ?_
   refine WQ.done (by kernel_rfl) ?_
   refine Runs.sr ?_
   refine WR.d hE 7 [.pointer (some ⟨al_q.a__p, 0, none⟩)] [(63, .int .i64 t_.1), (67, .pointer (some ⟨al_q.a__p, 0, none⟩)), (68, .int .i64 t_.2.1), (69, .int .i64 t_4.1)] (obs := [.cell ⟨p_q, 1, none⟩ (.pointer (some ⟨al_q.a__p, 0, none⟩))]) ⟨H.cell 3 rfl rfl, trivial⟩ fun a hE => ?_
   obtain ⟨t_5, et_5, hm⟩ := bind_some hm
   refine WR.eff hE rfl rfl rfl rfl (OpTo.fn hE rfl rfl Tryz.call106 (kind_Push_ok et_5 H)) ?_
   rintro _ w ⟨z2, z3, rfl, H⟩ a hE
   refine WR.e0 hE [(6, .int .i64 t_5.1)] fun a hE => ?_
   refine Runs.seq ?_
   replace H := pq_Queues.shut (pq_Queues.A.mk al_q.a__p (arena_Arena.A.mk al_q.a__a.l_b al_q.a__a.l_c z2 z3 al_q.a__a.m__p) al_q.t__p al_q.t__a al_q.entries_p) (pq_Queues.mk q.items t_5.2.2 q.t_ q.entries q.serial) H.t4.t3.t2.t4
   obtain ⟨t_6, et_6, hm⟩ := bind_some hm
   refine Runs.join (fun a w => ∃ (r4 : Nat), ∃ (z5 : slots_Table.A), EnvOk 110 a [(0, .pointer (some ⟨p_q, 0, none⟩)), (3, .pointer (some ⟨r, 0, none⟩)), (4, .pointer (some ⟨r1, 0, none⟩)), (6, .int .i64 t_5.1), (7, .int .i64 t_.2.2.1), (9, .pointer (some ⟨r2, 0, none⟩)), (12, .pointer (some ⟨r4, 0, none⟩))] ∧ St w0 (Blk r4 26 [.int .i64 t_6.1.At, .int .i64 t_6.1.Gen] :: pq_Queues.R p_q (pq_Queues.A.mk al_q.a__p (arena_Arena.A.mk al_q.a__a.l_b al_q.a__a.l_c z2 z3 al_q.a__a.m__p) al_q.t__p z5 al_q.entries_p) (pq_Queues.mk q.items t_5.2.2 t_6.2.2 q.entries q.serial) :: Blk r2 84 [.int .i64 c_.Key, .int .i64 q.serial] :: Blk r1 86 [.int .i64 0, .int .i64 0, .int .i64 0, .int .i64 0, .int .i64 0, .int .i64 0, .int .i64 0, .int .i64 0] :: Blk r 89 [.int .i64 c_.Op, .int .i64 c_.Kind, .int .i64 c_.Heap.At, .int .i64 c_.Heap.Gen, .int .i64 c_.Other.At, .int .i64 c_.Other.Gen, .int .i64 c_.Item.At, .int .i64 c_.Item.Gen, .int .i64 c_.Key] :: As) w) (fun hk => ?_) ?_
   ·refine Runs.drawn mixed (by kernel_rfl) ?_
    replace H := H.drew
    replace H := pq_Queues.open H
    try dsimp only at H
    refine WQ.d hE [0, 1, 2, 3, 4, 5, 6] [.pointer (some ⟨al_q.t__p, 0, none⟩), .int .i64 c_.Heap.At, .int .i64 c_.Heap.Gen] [(77, .pointer (some ⟨al_q.t__p, 0, none⟩)), (79, .agg #[.int .i64 c_.Heap.At, .int .i64 c_.Heap.Gen]), (80, .int .i64 t_4.1)] (obs := [.cell ⟨p_q, 2, none⟩ (.pointer (some ⟨al_q.t__p, 0, none⟩)), .cell ⟨r, 2, none⟩ (.int .i64 c_.Heap.At), .cell ⟨r, 3, none⟩ (.int .i64 c_.Heap.Gen)]) ⟨H.cell 0 rfl rfl, H.cell 6 rfl rfl, H.cell 6 rfl rfl, trivial⟩ fun a hE => ?_
    refine WQ.act2 7 11 (by kernel_rfl) ?_ ?_
    ·refine AQ.eff (j := 7) (obs := []) hE rfl rfl rfl rfl (by kernel_rfl) (OpTo.fn hE rfl rfl Tryz.call107 (slots_Table_Put_ok et_6 H.t2)) ?_
     rintro _ w ⟨z6, rfl, H⟩
     refine ⟨trivial, fun a hE => ?_⟩
     refine WQ.d0 hE [8, 9, 10] [(82, .agg #[.int .i64 t_6.1.At, .int .i64 t_6.1.Gen]), (83, .int .i64 t_6.2.1)] fun a hE => ?_
     refine WQ.eff (j := 11) (obs := []) hE (by kernel_rfl) rfl rfl rfl rfl (by kernel_rfl) (OpTo.new hE H [] (.cells #[.int .i64 0, .int .i64 0] 26 (0, 0)) (fun r => .pointer (some ⟨r, 0, none⟩)) (obs := []) rfl (fun _ => by kernel_rfl) trivial) ?_
     rintro _ w ⟨r5, rfl, H⟩
     refine ⟨trivial, fun a hE => ?_⟩
     refine WQ.eff0 (j := 12) (obs := []) hE (by kernel_rfl) rfl rfl rfl (by kernel_rfl) (OpTo.store hE H rfl rfl rfl rfl rfl rfl (Nat.le_of_ble_eq_true rfl)) ?_
     rintro _ w H
     refine ⟨trivial, fun a hE => ?_⟩
     refine WQ.d0 hE [13] [] fun a hE => ?_
     refine WQ.done (by kernel_rfl) ?_
     replace H := pq_Queues.shut (pq_Queues.A.mk al_q.a__p (arena_Arena.A.mk al_q.a__a.l_b al_q.a__a.l_c z2 z3 al_q.a__a.m__p) al_q.t__p (slots_Table.A.mk al_q.t__a.heaps_p al_q.t__a.heaps_a al_q.t__a.items_p z6 al_q.t__a.at__p) al_q.entries_p) (pq_Queues.mk q.items t_5.2.2 t_6.2.2 q.entries q.serial) H.t4.t2.t4.t4
     exact hk _ _ ⟨r5, slots_Table.A.mk al_q.t__a.heaps_p al_q.t__a.heaps_a al_q.t__a.items_p z6 al_q.t__a.at__p, hE.sel [0, 3, 4, 6, 7, 9, 12] (by kernel_rfl), H.t4.t4.t4.t3.t4⟩
    ·refine AQ.eff (j := 11) (obs := [.cell ⟨r, 2, none⟩ (.int .i64 c_.Heap.At), .cell ⟨r, 3, none⟩ (.int .i64 c_.Heap.Gen), .cell ⟨p_q, 2, none⟩ (.pointer (some ⟨al_q.t__p, 0, none⟩))]) hE rfl rfl rfl rfl (by kernel_rfl) (OpTo.new hE H [] (.cells #[.int .i64 0, .int .i64 0] 26 (0, 0)) (fun r => .pointer (some ⟨r, 0, none⟩)) (obs := []) rfl (fun _ => by kernel_rfl) trivial) ?_
     rintro _ w ⟨r6, rfl, H⟩
     refine ⟨⟨H.cell 7 rfl rfl, H.cell 7 rfl rfl, H.cell 1 rfl rfl, trivial⟩, fun a hE => ?_⟩
     refine WQ.eff (j := 7) (obs := []) hE (by kernel_rfl) rfl rfl rfl rfl (by kernel_rfl) (OpTo.fn hE rfl rfl Tryz.call107 (slots_Table_Put_ok et_6 H.t3)) ?_
     rintro _ w ⟨z7, rfl, H⟩
     refine ⟨trivial, fun a hE => ?_⟩
     refine WQ.d0 hE [8, 9, 10] [(82, .agg #[.int .i64 t_6.1.At, .int .i64 t_6.1.Gen]), (83, .int .i64 t_6.2.1)] fun a hE => ?_
     refine WQ.eff0 (j := 12) (obs := []) hE (by kernel_rfl) rfl rfl rfl (by kernel_rfl) (OpTo.store hE H.t1 rfl rfl rfl rfl rfl rfl (Nat.le_of_ble_eq_true rfl)) ?_
     rintro _ w H
     refine ⟨trivial, fun a hE => ?_⟩
     refine WQ.d0 hE [13] [] fun a hE => ?_
     refine WQ.done (by kernel_rfl) ?_
     replace H := pq_Queues.shut (pq_Queues.A.mk al_q.a__p (arena_Arena.A.mk al_q.a__a.l_b al_q.a__a.l_c z2 z3 al_q.a__a.m__p) al_q.t__p (slots_Table.A.mk al_q.t__a.heaps_p al_q.t__a.heaps_a al_q.t__a.items_p z7 al_q.t__a.at__p) al_q.entries_p) (pq_Queues.mk q.items t_5.2.2 t_6.2.2 q.entries q.serial) H.t4.t2.t4.t4
     exact hk _ _ ⟨r6, slots_Table.A.mk al_q.t__a.heaps_p al_q.t__a.heaps_a al_q.t__a.items_p z7 al_q.t__a.at__p, hE.sel [0, 3, 4, 6, 7, 9, 12] (by kernel_rfl), H.t4.t4.t4.t3.t4⟩
   rintro a w ⟨r4, z5, hE, H⟩
   refine Runs.seq ?_
   refine Runs.drawn mixed (by kernel_rfl) ?_
   replace H := H.drew
   replace H := pq_Queues.open H.t1
   try dsimp only at H
   refine WQ.seg hE [0, 1, 2, 3, 4, 5, 6, 7, 8] [.pointer (some ⟨al_q.t__p, 0, none⟩), .int .i64 c_.Heap.At, .int .i64 c_.Heap.Gen] [0, 4, 9, 12, 87, 89, 90, 92] (Lo := [(0, .pointer (some ⟨p_q, 0, none⟩)), (4, .pointer (some ⟨r1, 0, none⟩)), (9, .pointer (some ⟨r2, 0, none⟩)), (12, .pointer (some ⟨r4, 0, none⟩)), (87, .pointer (some ⟨al_q.t__p, 0, none⟩)), (89, .agg #[.int .i64 c_.Heap.At, .int .i64 c_.Heap.Gen]), (90, .int .i64 t_5.1), (92, .int .i64 (w64 (t_.2.2.1 + 1)))]) (obs := [.cell ⟨p_q, 2, none⟩ (.pointer (some ⟨al_q.t__p, 0, none⟩)), .cell ⟨r, 2, none⟩ (.int .i64 c_.Heap.At), .cell ⟨r, 3, none⟩ (.int .i64 c_.Heap.Gen)]) (by kernel_rfl) (by kernel_rfl) ⟨H.cell 0 rfl rfl, H.cell 7 rfl rfl, H.cell 7 rfl rfl, trivial⟩ fun a hE => ?_
   obtain ⟨t_7, et_7, hm⟩ := bind_some hm
   refine WQ.eff (j := 9) (obs := []) hE (by kernel_rfl) rfl rfl rfl rfl (by kernel_rfl) (OpTo.fn hE rfl rfl Tryz.call108 (slots_Table_Root_ok et_7 H.t2)) ?_
   rintro _ w ⟨rfl, H⟩
   refine ⟨trivial, fun a hE => ?_⟩
   refine WQ.done (by kernel_rfl) ?_
   refine Runs.seq ?_
   refine Runs.drawn mixed (by kernel_rfl) ?_
   replace H := H.drew
   refine WQ.d hE [0, 1, 2, 3, 4, 5] [.map (some al_q.entries_p), .int .i64 t_6.1.At, .int .i64 t_6.1.Gen, .int .i64 c_.Key, .int .i64 q.serial] [(97, .map (some al_q.entries_p)), (98, .agg #[.int .i64 t_6.1.At, .int .i64 t_6.1.Gen]), (99, .agg #[.int .i64 c_.Key, .int .i64 q.serial])] (obs := [.cell ⟨p_q, 3, none⟩ (.map (some al_q.entries_p)), .cell ⟨r4, 0, none⟩ (.int .i64 t_6.1.At), .cell ⟨r4, 1, none⟩ (.int .i64 t_6.1.Gen), .cell ⟨r2, 0, none⟩ (.int .i64 c_.Key), .cell ⟨r2, 1, none⟩ (.int .i64 q.serial)]) ⟨H.cell 1 rfl rfl, H.cell 4 rfl rfl, H.cell 4 rfl rfl, H.cell 5 rfl rfl, H.cell 5 rfl rfl, trivial⟩ fun a hE => ?_
   refine WQ.eff0 (j := 6) (obs := []) hE (by kernel_rfl) rfl rfl rfl (by kernel_rfl) (OpTo.mpPut (k := t_6.1) (v := api_Entry.mk c_.Key q.serial) hE H.t3 api_Ref.key_ok rfl rfl rfl rfl rfl) ?_
   rintro _ w H
   refine ⟨trivial, fun a hE => ?_⟩
   refine WQ.done (by kernel_rfl) ?_
   refine Runs.sr ?_
   refine WR.d hE 7 [.int .i64 ((pq_Queues.mk q.items t_5.2.2 t_6.2.2 q.entries q.serial).serial)] [(104, .int .i64 (w64 (((pq_Queues.mk q.items t_5.2.2 t_6.2.2 q.entries q.serial).serial) + 1))), (106, .pointer (some ⟨p_q, 4, none⟩))] (obs := [.cell ⟨p_q, 4, none⟩ (.int .i64 ((pq_Queues.mk q.items t_5.2.2 t_6.2.2 q.entries q.serial).serial))]) ⟨H.cell 2 rfl rfl, trivial⟩ fun a hE => ?_
   refine WR.eff0 hE rfl rfl rfl (OpTo.store hE H.t2 rfl rfl rfl rfl rfl rfl (Nat.le_of_ble_eq_true rfl)) ?_
   rintro _ w H a hE
   refine WR.done rfl ?_
   refine Runs.sr ?_
   refine WR.d hE 3 [.int .i64 t_6.1.At, .int .i64 t_6.1.Gen, .int .i64 c_.Key, .int .i64 q.serial] [(109, .agg #[.int .i64 0, .int .i64 0, .int .i64 0, .int .i64 t_6.1.At, .int .i64 t_6.1.Gen, .int .i64 c_.Key, .int .i64 q.serial, .int .i64 0])] (obs := [.cell ⟨r4, 0, none⟩ (.int .i64 t_6.1.At), .cell ⟨r4, 1, none⟩ (.int .i64 t_6.1.Gen), .cell ⟨r2, 0, none⟩ (.int .i64 c_.Key), .cell ⟨r2, 1, none⟩ (.int .i64 q.serial)]) ⟨H.cell 4 rfl rfl, H.cell 4 rfl rfl, H.cell 5 rfl rfl, H.cell 5 rfl rfl, trivial⟩ fun a hE => ?_
   refine WR.eff0 hE rfl rfl rfl (OpTo.store hE H.t6 rfl rfl rfl rfl rfl rfl (Nat.le_of_ble_eq_true rfl)) ?_
   rintro _ w H a hE
   refine WR.done rfl ?_
   refine Runs.retO (vs := [.agg #[.int .i64 0, .int .i64 0, .int .i64 0, .int .i64 t_6.1.At, .int .i64 t_6.1.Gen, .int .i64 c_.Key, .int .i64 q.serial, .int .i64 0]]) (obs := [.cell ⟨r1, 0, none⟩ (.int .i64 0), .cell ⟨r1, 1, none⟩ (.int .i64 0), .cell ⟨r1, 2, none⟩ (.int .i64 0), .cell ⟨r1, 3, none⟩ (.int .i64 t_6.1.At), .cell ⟨r1, 4, none⟩ (.int .i64 t_6.1.Gen), .cell ⟨r1, 5, none⟩ (.int .i64 c_.Key), .cell ⟨r1, 6, none⟩ (.int .i64 q.serial), .cell ⟨r1, 7, none⟩ (.int .i64 0)]) hE Tryz.func62 rfl [.int .i64 0, .int .i64 0, .int .i64 0, .int .i64 t_6.1.At, .int .i64 t_6.1.Gen, .int .i64 c_.Key, .int .i64 q.serial, .int .i64 0] (by kernel_rfl) ⟨H.cell 0 rfl rfl, H.cell 0 rfl rfl, H.cell 0 rfl rfl, H.cell 0 rfl rfl, H.cell 0 rfl rfl, H.cell 0 rfl rfl, H.cell 0 rfl rfl, H.cell 0 rfl rfl, trivial⟩ ?_
   replace H := pq_Queues.shut (pq_Queues.A.mk al_q.a__p (arena_Arena.A.mk al_q.a__a.l_b al_q.a__a.l_c z2 z3 al_q.a__a.m__p) al_q.t__p z5 al_q.entries_p) (pq_Queues.mk ((pq_Queues.mk q.items t_5.2.2 t_6.2.2 q.entries q.serial).items) ((pq_Queues.mk q.items t_5.2.2 t_6.2.2 q.entries q.serial).a_) t_7.2 (mPut api_Ref.eq t_6.1 (api_Entry.mk c_.Key q.serial) ((pq_Queues.mk q.items t_5.2.2 t_6.2.2 q.entries q.serial).entries)) (w64 (((pq_Queues.mk q.items t_5.2.2 t_6.2.2 q.entries q.serial).serial) + 1))) H.t2.t3.t4.t4
   cases hm
   exact ⟨arena_Arena.A.mk al_q.a__a.l_b al_q.a__a.l_c z2 z3 al_q.a__a.m__p, z5, rfl, H.x4.x3.x2.x1⟩

theorem leftist_Min_ok {w0 w : World} {As : List HP} {p_a_ : Nat} {al_a_ : arena_Arena.A} {a_ : arena_Arena} {r : Int} {t : Int}  (hm : leftist_Min a_ r = some t) (H : St w0 (arena_Arena.R p_a_ al_a_ a_ :: As) w) :
    CallsR Tryz.prog 161 #[.pointer (some ⟨p_a_, 0, none⟩), .int .i64 r] w fun v w' => v = .int .i64 t ∧ St w0 (arena_Arena.R p_a_ al_a_ a_ :: As) w' := by
  rw [leftist_Min] at hm
  cases hm

theorem binomial_Min_ok {w0 w : World} {As : List HP} {p_a_ : Nat} {al_a_ : arena_Arena.A} {a_ : arena_Arena} {r : Int} {t : Int}  (hm : binomial_Min a_ r = some t) (H : St w0 (arena_Arena.R p_a_ al_a_ a_ :: As) w) :
    CallsR Tryz.prog 162 #[.pointer (some ⟨p_a_, 0, none⟩), .int .i64 r] w fun v w' => v = .int .i64 t ∧ St w0 (arena_Arena.R p_a_ al_a_ a_ :: As) w' := by
  rw [binomial_Min] at hm
  cases hm

theorem arena_Arena_Cells_ok {w0 w : World} {As : List HP} {p_a_ : Nat} {al_a_ : arena_Arena.A} {a_ : arena_Arena} {t : Int}  (hm : arena_Arena_Cells a_ = some t) (H : St w0 (arena_Arena.R p_a_ al_a_ a_ :: As) w) :
    CallsR Tryz.prog 257 #[.pointer (some ⟨p_a_, 0, none⟩)] w fun v w' => v = .int .i64 t ∧ St w0 (arena_Arena.R p_a_ al_a_ a_ :: As) w' := by
 rw [arena_Arena_Cells] at hm
 refine enter (args := [.pointer (some ⟨p_a_, 0, none⟩)]) Tryz.func257 rfl rfl rfl fun a hE => ?_
 refine Runs.sr ?_
 refine WR.seg hE 1 [] [0] (Lo := [(0, .pointer (some ⟨p_a_, 0, none⟩))]) (obs := []) rfl (by kernel_rfl) trivial fun a hE => ?_
 refine WR.done rfl ?_
 refine Runs.sr ?_
 replace H := arena_Arena.open H
 refine WR.e hE [.slice al_a_.l_b a_.l.length al_a_.l_c] [(2, .int .i64 (a_.l.length : Int))] (obs := [.cell ⟨p_a_, 0, none⟩ (.slice al_a_.l_b a_.l.length al_a_.l_c)]) ⟨H.cell 0 rfl rfl, trivial⟩ fun a hE => ?_
 replace H := arena_Arena.shut al_a_ (a_) H.t3.t3.t3.t3
 refine Runs.ret hE Tryz.func257 rfl rfl ?_
 cases hm
 exact ⟨rfl, H⟩

theorem node_Row_ok {w0 w : World} {As : List HP} {k : Nat} {p_a_ : Nat} {al_a_ : arena_Arena.A} {a_ : arena_Arena} {n : Int} {field : Int} {t : (List Int) × arena_Arena}  (hm : node_Row k a_ n field = some t) (H : St w0 (arena_Arena.R p_a_ al_a_ a_ :: As) w) :
    CallsR Tryz.prog 264 #[.pointer (some ⟨p_a_, 0, none⟩), .int .i64 n, .int .i64 field] w fun v w' => ∃ (sb0 : Option Addr), ∃ (sc0 : Nat), v = .slice sb0 t.1.length sc0 ∧ St w0 (Sl 3 ecI 1 sb0 sc0 t.1 :: arena_Arena.R p_a_ al_a_ t.2 :: As) w' := by
 rw [node_Row] at hm
 refine enter (args := [.pointer (some ⟨p_a_, 0, none⟩), .int .i64 n, .int .i64 field]) Tryz.func264 rfl rfl rfl fun a hE => ?_
 refine Runs.sr ?_
 refine WR.seg hE 1 [] [0, 1, 2] (Lo := [(0, .pointer (some ⟨p_a_, 0, none⟩)), (1, .int .i64 n), (2, .int .i64 field)]) (obs := []) rfl (by kernel_rfl) trivial fun a hE => ?_
 refine WR.done rfl ?_
 refine Runs.sr ?_
 refine WR.e0 hE [(7, .slice none 0 0)] fun a hE => ?_
 refine Runs.seq ?_
 obtain ⟨s, es, hm⟩ := bind_some hm
 refine Runs.join (fun a w => ∃ (sb1 : Option Addr), ∃ (sc1 : Nat), EnvOk 27 a [(7, .slice sb1 s.1.length sc1)] ∧ St w0 (Sl 3 ecI 1 sb1 sc1 s.1 :: arena_Arena.R p_a_ al_a_ s.2 :: As) w) (fun hk => ?_) ?_
 ·replace hm := es; clear es
  replace H := H.slNil 3 ecI 1
  refine Runs.block ?_
  refine Runs.loop (fun m a w => ∃ (n1 : Int), ∃ (out : List Int), ∃ (m_ : arena_Arena), ∃ (sb2 : Option Addr), ∃ (sc2 : Nat), EnvOk 27 a [(0, .pointer (some ⟨p_a_, 0, none⟩)), (1, .int .i64 n1), (2, .int .i64 field), (7, .slice sb2 out.length sc2)] ∧ St w0 (Sl 3 ecI 1 sb2 sc2 out :: arena_Arena.R p_a_ al_a_ m_ :: As) w ∧ node_Row_l0 field m n1 out m_ = some s) k ⟨n, ([] : List Int), a_, none, 0, hE.sel [0, 1, 2, 7] (by kernel_rfl), H.t1.t1, hm⟩ ?_
  rintro m ih a w ⟨n1, out, m_, sb2, sc2, hE, H, hm⟩
  cases m with
  | zero => simp [node_Row_l0] at hm
  | succ m =>
   rw [node_Row_l0] at hm
   refine Runs.seq ?_
   refine Runs.seq ?_
   obtain ⟨s1, es1, hm⟩ := bind_some hm
   refine Runs.join (fun a w => EnvOk 27 a [(0, .pointer (some ⟨p_a_, 0, none⟩)), (1, .int .i64 n1), (2, .int .i64 field), (7, .slice sb2 out.length sc2), (17, .bool s1)] ∧ St w0 (Sl 3 ecI 1 sb2 sc2 out :: arena_Arena.R p_a_ al_a_ m_ :: As) w) (fun hk => ?_) ?_
   ·replace hm := es1; clear es1
    refine Runs.region ?_
    refine WR.seg hE 2 [] [0, 1, 2, 7, 8, 9] (Lo := [(0, .pointer (some ⟨p_a_, 0, none⟩)), (1, .int .i64 n1), (2, .int .i64 field), (7, .slice sb2 out.length sc2), (8, .pointer (some ⟨p_a_, 0, none⟩)), (9, .int .i64 n1)]) (obs := []) rfl (by kernel_rfl) trivial fun a hE => ?_
    obtain ⟨t_, et_, hm⟩ := bind_some hm
    refine WR.eff hE rfl rfl rfl rfl (OpTo.fn hE rfl rfl Tryz.call227 (arena_Arena_Live_ok et_ H.t1)) ?_
    rintro _ w ⟨rfl, H⟩ a hE
    refine WR.d0 hE 4 [(11, .bool t_)] fun a hE => ?_
    rcases Bool.eq_false_or_eq_true t_ with c | c
    ·replace hE := hE.dec 11 c (by kernel_rfl)
     replace hm := cond_t c hm
     have c_ := c
     refine WR.d0 hE 7 [(11, .bool true), (13, .int .i64 (out.length : Int)), (14, .pointer (some ⟨p_a_, 0, none⟩))] fun a hE => ?_
     obtain ⟨t_1, et_1, hm⟩ := bind_some hm
     refine WR.eff hE rfl rfl rfl rfl (OpTo.fn hE rfl rfl Tryz.call257 (arena_Arena_Cells_ok et_1 H)) ?_
     rintro _ w ⟨rfl, H⟩ a hE
     refine WR.e0 hE [(17, .bool (decide ((out.length : Int) < t_1)))] fun a hE => ?_
     cases hm
     exact hk _ _ ⟨hE.sel [0, 1, 2, 7, 17] (by kernel_rfl), H.t1⟩
    ·replace hE := hE.dec 11 c (by kernel_rfl)
     replace hm := cond_f c hm
     have c_1 := c
     refine WR.e0 hE [(17, .bool false)] fun a hE => ?_
     cases hm
     exact hk _ _ ⟨hE.sel [0, 1, 2, 7, 17] (by kernel_rfl), H.t1⟩
   rintro a w ⟨hE, H⟩
   refine Runs.cond hE rfl (fun c => ?_) (fun c => ?_)
   ·replace hm := cond_t c hm
    refine Runs.skip ?_
    refine Runs.block ?_
    refine Runs.sr ?_
    refine WR.seg hE 2 [] [0, 1, 2, 7, 18, 19] (Lo := [(0, .pointer (some ⟨p_a_, 0, none⟩)), (1, .int .i64 n1), (2, .int .i64 field), (7, .slice sb2 out.length sc2), (18, .slice sb2 out.length sc2), (19, .int .i64 n1)]) (obs := []) rfl (by kernel_rfl) trivial fun a hE => ?_
    refine WR.eff hE rfl rfl rfl rfl (OpTo.buildSl (T := 3) hE H ecI_ok ([n1] : List Int) rfl (fun _ => by kernel_rfl) rfl rfl rfl) ?_
    rintro _ w ⟨r, rfl, H⟩ a hE
    obtain ⟨l, el, hm⟩ := bind_some hm
    replace H := H.t1
    refine WR.eff hE rfl rfl rfl rfl (OpTo.appendM el hE H ecI_ok rfl rfl rfl rfl rfl rfl rfl rfl rfl rfl (SlRd.all (sl_rd 3 ecI 1 _ _ _) ecI_ok H 1 rfl) rfl) ?_
    rintro _ w ⟨sb3, sc3, rfl, H⟩ a hE
    refine WR.e0 hE [(7, .slice sb3 l.length sc3)] fun a hE => ?_
    refine Runs.region ?_
    refine WR.d0 hE 3 [(22, .pointer (some ⟨p_a_, 0, none⟩)), (23, .int .i64 n1), (24, .int .i64 field)] fun a hE => ?_
    obtain ⟨t_2, et_2, hm⟩ := bind_some hm
    refine WR.eff hE rfl rfl rfl rfl (OpTo.fn hE rfl rfl Tryz.call225 (arena_Arena_Cell_ok et_2 H.t2)) ?_
    rintro _ w ⟨rfl, H⟩ a hE
    refine WR.e0 hE [(1, .int .i64 t_2.1)] fun a hE => ?_
    refine Runs.inBlock ?_
    exact ih m (Nat.lt_succ_self m) _ _ ⟨t_2.1, l, t_2.2, sb3, sc3, hE.sel [0, 1, 2, 7] (by kernel_rfl), H.x2.t1, hm⟩
   ·replace hm := cond_f c hm
    refine Runs.exit rfl ?_
    cases hm
    exact hk _ _ ⟨sb2, sc2, hE.sel [7] (by kernel_rfl), H.t1.t1⟩
 rintro a w ⟨sb1, sc1, hE, H⟩
 refine Runs.sr ?_
 refine WR.seg hE 2 [] [6] (Lo := [(6, .slice sb1 s.1.length sc1)]) (obs := []) rfl (by kernel_rfl) trivial fun a hE => ?_
 refine WR.done rfl ?_
 refine Runs.ret hE Tryz.func264 rfl rfl ?_
 cases hm
 exact ⟨sb1, sc1, rfl, H.t1.t1⟩

theorem trees_List_ok {w0 w : World} {As : List HP} {k : Nat} {p_a_ : Nat} {al_a_ : arena_Arena.A} {a_ : arena_Arena} {r : Int} {t : (List Int) × arena_Arena}  (hm : trees_List k a_ r = some t) (H : St w0 (arena_Arena.R p_a_ al_a_ a_ :: As) w) :
    CallsR Tryz.prog 219 #[.pointer (some ⟨p_a_, 0, none⟩), .int .i64 r] w fun v w' => ∃ (sb0 : Option Addr), ∃ (sc0 : Nat), v = .slice sb0 t.1.length sc0 ∧ St w0 (Sl 3 ecI 1 sb0 sc0 t.1 :: arena_Arena.R p_a_ al_a_ t.2 :: As) w' := by
 rw [trees_List] at hm
 refine enter (args := [.pointer (some ⟨p_a_, 0, none⟩), .int .i64 r]) Tryz.func219 rfl rfl rfl fun a hE => ?_
 refine Runs.sr ?_
 refine WR.seg hE 1 [] [0, 1] (Lo := [(0, .pointer (some ⟨p_a_, 0, none⟩)), (1, .int .i64 r)]) (obs := []) rfl (by kernel_rfl) trivial fun a hE => ?_
 refine WR.done rfl ?_
 refine Runs.sr ?_
 refine WR.d0 hE 2 [(5, .pointer (some ⟨p_a_, 0, none⟩)), (6, .int .i64 r)] fun a hE => ?_
 obtain ⟨t_, et_, hm⟩ := bind_some hm
 refine WR.eff hE rfl rfl rfl rfl (OpTo.fn hE rfl rfl Tryz.call264 (node_Row_ok et_ H)) ?_
 rintro _ w ⟨sb, sc, rfl, H⟩ a hE
 refine WR.e0 hE [(4, .slice sb t_.1.length sc)] fun a hE => ?_
 refine Runs.ret hE Tryz.func219 rfl rfl ?_
 cases hm
 exact ⟨sb, sc, rfl, H.t1.t1⟩

theorem trees_Best_ok {w0 w : World} {As : List HP} {k : Nat} {p_a_ : Nat} {al_a_ : arena_Arena.A} {a_ : arena_Arena} {sb_l : Option Addr} {sc_l : Nat} {l : List Int} {X_l : HP} {t : Int × arena_Arena} (hX_l : SlRd X_l ecI 1 sb_l l) (hC_l : l.length ≤ sc_l) (hm : trees_Best k a_ l = some t) (H : St w0 (arena_Arena.R p_a_ al_a_ a_ :: X_l :: As) w) :
    CallsR Tryz.prog 226 #[.pointer (some ⟨p_a_, 0, none⟩), .slice sb_l l.length sc_l] w fun v w' => v = .int .i64 t.1 ∧ St w0 (arena_Arena.R p_a_ al_a_ t.2 :: X_l :: As) w' := by
 rw [trees_Best] at hm
 refine enter (args := [.pointer (some ⟨p_a_, 0, none⟩), .slice sb_l l.length sc_l]) Tryz.func226 rfl rfl rfl fun a hE => ?_
 refine Runs.sr ?_
 refine WR.seg hE 1 [] [0, 1] (Lo := [(0, .pointer (some ⟨p_a_, 0, none⟩)), (1, .slice sb_l l.length sc_l)]) (obs := []) rfl (by kernel_rfl) trivial fun a hE => ?_
 refine WR.done rfl ?_
 refine Runs.sr ?_
 refine WR.e0 hE [(5, .int .i64 (-1))] fun a hE => ?_
 refine Runs.seq ?_
 refine Runs.sr ?_
 refine WR.e0 hE [(8, .slice sb_l l.length sc_l), (9, .int .i64 (l.length : Int)), (10, .int .i64 0)] fun a hE => ?_
 obtain ⟨s, es, hm⟩ := bind_some hm
 refine Runs.join (fun a w => EnvOk 25 a [(5, .int .i64 s.1)] ∧ St w0 (arena_Arena.R p_a_ al_a_ s.2 :: X_l :: As) w) (fun hk => ?_) ?_
 ·replace hm := es; clear es
  refine Runs.block ?_
  refine Runs.loop (fun m a w => ∃ (best : Int), ∃ (x : Int), ∃ (m_ : arena_Arena), EnvOk 25 a [(0, .pointer (some ⟨p_a_, 0, none⟩)), (5, .int .i64 best), (8, .slice sb_l l.length sc_l), (9, .int .i64 (l.length : Int)), (10, .int .i64 x)] ∧ St w0 (arena_Arena.R p_a_ al_a_ m_ :: X_l :: As) w ∧ trees_Best_l0 (l.length : Int) l m best x m_ = some s) k ⟨(-1), 0, a_, hE.sel [0, 5, 8, 9, 10] (by kernel_rfl), H.t1.t1, hm⟩ ?_
  rintro m ih a w ⟨best, x, m_, hE, H, hm⟩
  cases m with
  | zero => simp [trees_Best_l0] at hm
  | succ m =>
   rw [trees_Best_l0] at hm
   refine Runs.sr ?_
   refine WR.seg hE 1 [] [0, 5, 8, 9, 10, 11] (Lo := [(0, .pointer (some ⟨p_a_, 0, none⟩)), (5, .int .i64 best), (8, .slice sb_l l.length sc_l), (9, .int .i64 (l.length : Int)), (10, .int .i64 x), (11, .bool (decide (x < (l.length : Int))))]) (obs := []) rfl (by kernel_rfl) trivial fun a hE => ?_
   refine WR.done rfl ?_
   refine Runs.seq ?_
   refine Runs.cond hE rfl (fun c => ?_) (fun c => ?_)
   ·replace hm := cond_t c hm
    refine Runs.skip ?_
    refine Runs.seq ?_
    obtain ⟨s1, es1, hm⟩ := bind_some hm
    refine Runs.join (fun a w => EnvOk 25 a [(0, .pointer (some ⟨p_a_, 0, none⟩)), (5, .int .i64 s1.1), (8, .slice sb_l l.length sc_l), (9, .int .i64 (l.length : Int)), (10, .int .i64 x)] ∧ St w0 (arena_Arena.R p_a_ al_a_ s1.2 :: X_l :: As) w) (fun hk => ?_) ?_
    ·replace hm := es1; clear es1
     refine Runs.block ?_
     refine Runs.sr ?_
     obtain ⟨x2, ex2, hm⟩ := bind_some hm
     obtain ⟨b, o, hs, hb⟩ := SlRd.base hX_l ecI_ok H 1 rfl ex2
     refine WR.e hE [.pointer (some ⟨b, o, none⟩), .int .i64 x2] [(7, .int .i64 x2)] (obs := [.p ((sb_l : Option Addr) = some ⟨b, o, none⟩), .p (0 ≤ (x : Int) ∧ (x : Int) < ((l.length : Nat) : Int)), .cell ⟨b, o + (Int.toNat x) * 1, none⟩ (.int .i64 x2)]) ⟨hs, hb, SlRd.cells hX_l ecI_ok H 1 rfl hs ex2 0 _ rfl, trivial⟩ fun a hE => ?_
     refine Runs.seq ?_
     obtain ⟨s2, es2, hm⟩ := bind_some hm
     refine Runs.join (fun a w => EnvOk 25 a [(0, .pointer (some ⟨p_a_, 0, none⟩)), (5, .int .i64 best), (7, .int .i64 x2), (8, .slice sb_l l.length sc_l), (9, .int .i64 (l.length : Int)), (10, .int .i64 x), (21, .bool s2.1)] ∧ St w0 (arena_Arena.R p_a_ al_a_ s2.2 :: X_l :: As) w) (fun hk => ?_) ?_
     ·replace hm := es2; clear es2
      refine Runs.region ?_
      refine WR.d0 hE 3 [(16, .bool (best == (-1)))] fun a hE => ?_
      rcases Bool.eq_false_or_eq_true (best == (-1)) with c | c
      ·replace hE := hE.dec 16 c (by kernel_rfl)
       replace hm := cond_t c hm
       have c_ := c
       refine WR.e0 hE [(21, .bool true)] fun a hE => ?_
       cases hm
       exact hk _ _ ⟨hE.sel [0, 5, 7, 8, 9, 10, 21] (by kernel_rfl), H.t1.t1⟩
      ·replace hE := hE.dec 16 c (by kernel_rfl)
       replace hm := cond_f c hm
       have c_1 := c
       refine WR.d0 hE 6 [(16, .bool false), (17, .pointer (some ⟨p_a_, 0, none⟩)), (18, .int .i64 x2), (19, .int .i64 best)] fun a hE => ?_
       obtain ⟨t_, et_, hm⟩ := bind_some hm
       refine WR.eff hE rfl rfl rfl rfl (OpTo.fn hE rfl rfl Tryz.call239 (node_Before_ok et_ H)) ?_
       rintro _ w ⟨rfl, H⟩ a hE
       refine WR.e0 hE [(21, .bool t_.1)] fun a hE => ?_
       cases hm
       exact hk _ _ ⟨hE.sel [0, 5, 7, 8, 9, 10, 21] (by kernel_rfl), H.t1.t1⟩
     rintro a w ⟨hE, H⟩
     refine Runs.cond hE rfl (fun c => ?_) (fun c => ?_)
     ·replace hm := cond_t c hm
      refine Runs.region ?_
      refine WR.seg hE 2 [] [0, 5, 8, 9, 10] (Lo := [(0, .pointer (some ⟨p_a_, 0, none⟩)), (5, .int .i64 x2), (8, .slice sb_l l.length sc_l), (9, .int .i64 (l.length : Int)), (10, .int .i64 x)]) (obs := []) rfl (by kernel_rfl) trivial fun a hE => ?_
      refine WR.done rfl ?_
      refine Runs.inBlock ?_
      cases hm
      exact hk _ _ ⟨hE.sel [0, 5, 8, 9, 10] (by kernel_rfl), H.t1.t1⟩
     ·replace hm := cond_f c hm
      refine Runs.skip ?_
      refine Runs.inBlock ?_
      cases hm
      exact hk _ _ ⟨hE.sel [0, 5, 8, 9, 10] (by kernel_rfl), H.t1.t1⟩
    rintro a w ⟨hE, H⟩
    refine Runs.region ?_
    refine WR.seg hE 2 [] [0, 5, 8, 9, 10] (Lo := [(0, .pointer (some ⟨p_a_, 0, none⟩)), (5, .int .i64 s1.1), (8, .slice sb_l l.length sc_l), (9, .int .i64 (l.length : Int)), (10, .int .i64 (w64 (x + 1)))]) (obs := []) rfl (by kernel_rfl) trivial fun a hE => ?_
    refine WR.done rfl ?_
    exact ih m (Nat.lt_succ_self m) _ _ ⟨s1.1, w64 (x + 1), s1.2, hE.sel [0, 5, 8, 9, 10] (by kernel_rfl), H.t1.t1, hm⟩
   ·replace hm := cond_f c hm
    refine Runs.exit rfl ?_
    cases hm
    exact hk _ _ ⟨hE.sel [5] (by kernel_rfl), H.t1.t1⟩
 rintro a w ⟨hE, H⟩
 refine Runs.sr ?_
 refine WR.seg hE 2 [] [4] (Lo := [(4, .int .i64 s.1)]) (obs := []) rfl (by kernel_rfl) trivial fun a hE => ?_
 refine WR.done rfl ?_
 refine Runs.ret hE Tryz.func226 rfl rfl ?_
 cases hm
 exact ⟨rfl, H.t1.t1⟩

theorem skew_Min_ok {w0 w : World} {As : List HP} {k : Nat} {p_a_ : Nat} {al_a_ : arena_Arena.A} {a_ : arena_Arena} {r : Int} {t : Int × arena_Arena}  (hm : skew_Min k a_ r = some t) (H : St w0 (arena_Arena.R p_a_ al_a_ a_ :: As) w) :
    CallsR Tryz.prog 163 #[.pointer (some ⟨p_a_, 0, none⟩), .int .i64 r] w fun v w' => v = .int .i64 t.1 ∧ St w0 (arena_Arena.R p_a_ al_a_ t.2 :: As) w' := by
 rw [skew_Min] at hm
 refine enter (args := [.pointer (some ⟨p_a_, 0, none⟩), .int .i64 r]) Tryz.func163 rfl rfl rfl fun a hE => ?_
 refine Runs.sr ?_
 refine WR.seg hE 1 [] [0, 1] (Lo := [(0, .pointer (some ⟨p_a_, 0, none⟩)), (1, .int .i64 r)]) (obs := []) rfl (by kernel_rfl) trivial fun a hE => ?_
 refine WR.done rfl ?_
 refine Runs.seq ?_
 refine Runs.sr ?_
 refine WR.e0 hE [(6, .bool false)] fun a hE => ?_
 refine Runs.condF hE rfl ?_
 refine Runs.skip ?_
 refine Runs.sr ?_
 refine WR.d0 hE 4 [(7, .pointer (some ⟨p_a_, 0, none⟩)), (8, .pointer (some ⟨p_a_, 0, none⟩)), (9, .pointer (some ⟨p_a_, 0, none⟩)), (10, .int .i64 r)] fun a hE => ?_
 obtain ⟨t_, et_, hm⟩ := bind_some hm
 refine WR.eff hE rfl rfl rfl rfl (OpTo.fn hE rfl rfl Tryz.call219 (trees_List_ok et_ H)) ?_
 rintro _ w ⟨sb, sc, rfl, H⟩ a hE
 obtain ⟨t_1, et_1, hm⟩ := bind_some hm
 replace H := H.t1
 refine WR.eff hE rfl rfl rfl rfl (OpTo.fn hE rfl rfl Tryz.call226 (trees_Best_ok (hX_l := (sl_rd 3 ecI 1 _ _ _)) (hC_l := (H.slCap 1 rfl).1) et_1 H)) ?_
 rintro _ w ⟨rfl, H⟩ a hE
 obtain ⟨t_2, et_2, hm⟩ := bind_some hm
 refine WR.eff hE rfl rfl rfl rfl (OpTo.fn hE rfl rfl Tryz.call225 (arena_Arena_Cell_ok et_2 H)) ?_
 rintro _ w ⟨rfl, H⟩ a hE
 refine WR.e0 hE [(4, .int .i64 t_2.1)] fun a hE => ?_
 refine Runs.ret hE Tryz.func163 rfl rfl ?_
 cases hm
 exact ⟨rfl, H.x1⟩

theorem fib_Min_ok {w0 w : World} {As : List HP} {p_a_ : Nat} {al_a_ : arena_Arena.A} {a_ : arena_Arena} {r : Int} {t : Int}  (hm : fib_Min a_ r = some t) (H : St w0 (arena_Arena.R p_a_ al_a_ a_ :: As) w) :
    CallsR Tryz.prog 164 #[.pointer (some ⟨p_a_, 0, none⟩), .int .i64 r] w fun v w' => v = .int .i64 t ∧ St w0 (arena_Arena.R p_a_ al_a_ a_ :: As) w' := by
  rw [fib_Min] at hm
  cases hm

theorem pairing_Min_ok {w0 w : World} {As : List HP} {p_a_ : Nat} {al_a_ : arena_Arena.A} {a_ : arena_Arena} {r : Int} {t : Int}  (hm : pairing_Min a_ r = some t) (H : St w0 (arena_Arena.R p_a_ al_a_ a_ :: As) w) :
    CallsR Tryz.prog 165 #[.pointer (some ⟨p_a_, 0, none⟩), .int .i64 r] w fun v w' => v = .int .i64 t ∧ St w0 (arena_Arena.R p_a_ al_a_ a_ :: As) w' := by
  rw [pairing_Min] at hm
  cases hm

theorem kind_Min_ok {w0 w : World} {As : List HP} {k : Nat} {k_ : Int} {p_a_ : Nat} {al_a_ : arena_Arena.A} {a_ : arena_Arena} {r : Int} {t : Int × arena_Arena}  (hm : kind_Min k k_ a_ r = some t) (H : St w0 (arena_Arena.R p_a_ al_a_ a_ :: As) w) :
    CallsR Tryz.prog 110 #[.int .i64 k_, .pointer (some ⟨p_a_, 0, none⟩), .int .i64 r] w fun v w' => v = .int .i64 t.1 ∧ St w0 (arena_Arena.R p_a_ al_a_ t.2 :: As) w' := by
 rw [kind_Min] at hm
 refine enter (args := [.int .i64 k_, .pointer (some ⟨p_a_, 0, none⟩), .int .i64 r]) Tryz.func110 rfl rfl rfl fun a hE => ?_
 refine Runs.sr ?_
 refine WR.seg hE 1 [] [0, 1, 2] (Lo := [(0, .int .i64 k_), (1, .pointer (some ⟨p_a_, 0, none⟩)), (2, .int .i64 r)]) (obs := []) rfl (by kernel_rfl) trivial fun a hE => ?_
 refine WR.done rfl ?_
 refine Runs.seq ?_
 refine Runs.sr ?_
 refine WR.e0 hE [(7, .int .i64 k_)] fun a hE => ?_
 refine Runs.block ?_
 refine Runs.sr ?_
 refine WR.e0 hE [(8, .bool (k_ == 1))] fun a hE => ?_
 refine Runs.cond hE rfl (fun c => ?_) (fun c => ?_)
 ·replace hm := cond_t c hm
  refine Runs.sr ?_
  refine WR.d0 hE 2 [(10, .pointer (some ⟨p_a_, 0, none⟩)), (11, .int .i64 r)] fun a hE => ?_
  obtain ⟨t_, et_, hm⟩ := bind_some hm
  refine WR.eff hE rfl rfl rfl rfl (OpTo.fn hE rfl rfl Tryz.call161 (leftist_Min_ok et_ H)) ?_
  rintro _ w ⟨rfl, H⟩ a hE
  refine WR.e0 hE [(6, .int .i64 t_)] fun a hE => ?_
  refine Runs.ret hE Tryz.func110 rfl rfl ?_
  cases hm
  exact ⟨rfl, H⟩
 ·replace hm := cond_f c hm
  refine Runs.sr ?_
  refine WR.e0 hE [(13, .bool (k_ == 2))] fun a hE => ?_
  refine Runs.cond hE rfl (fun c => ?_) (fun c => ?_)
  ·replace hm := cond_t c hm
   refine Runs.sr ?_
   refine WR.d0 hE 2 [(15, .pointer (some ⟨p_a_, 0, none⟩)), (16, .int .i64 r)] fun a hE => ?_
   obtain ⟨t_1, et_1, hm⟩ := bind_some hm
   refine WR.eff hE rfl rfl rfl rfl (OpTo.fn hE rfl rfl Tryz.call162 (binomial_Min_ok et_1 H)) ?_
   rintro _ w ⟨rfl, H⟩ a hE
   refine WR.e0 hE [(6, .int .i64 t_1)] fun a hE => ?_
   refine Runs.ret hE Tryz.func110 rfl rfl ?_
   cases hm
   exact ⟨rfl, H⟩
  ·replace hm := cond_f c hm
   refine Runs.sr ?_
   refine WR.e0 hE [(18, .bool (k_ == 3))] fun a hE => ?_
   refine Runs.cond hE rfl (fun c => ?_) (fun c => ?_)
   ·replace hm := cond_t c hm
    refine Runs.sr ?_
    refine WR.d0 hE 2 [(20, .pointer (some ⟨p_a_, 0, none⟩)), (21, .int .i64 r)] fun a hE => ?_
    obtain ⟨t_2, et_2, hm⟩ := bind_some hm
    refine WR.eff hE rfl rfl rfl rfl (OpTo.fn hE rfl rfl Tryz.call163 (skew_Min_ok et_2 H)) ?_
    rintro _ w ⟨rfl, H⟩ a hE
    refine WR.e0 hE [(6, .int .i64 t_2.1)] fun a hE => ?_
    refine Runs.ret hE Tryz.func110 rfl rfl ?_
    cases hm
    exact ⟨rfl, H⟩
   ·replace hm := cond_f c hm
    refine Runs.sr ?_
    refine WR.e0 hE [(23, .bool (k_ == 4))] fun a hE => ?_
    refine Runs.cond hE rfl (fun c => ?_) (fun c => ?_)
    ·replace hm := cond_t c hm
     refine Runs.sr ?_
     refine WR.d0 hE 2 [(25, .pointer (some ⟨p_a_, 0, none⟩)), (26, .int .i64 r)] fun a hE => ?_
     obtain ⟨t_3, et_3, hm⟩ := bind_some hm
     refine WR.eff hE rfl rfl rfl rfl (OpTo.fn hE rfl rfl Tryz.call164 (fib_Min_ok et_3 H)) ?_
     rintro _ w ⟨rfl, H⟩ a hE
     refine WR.e0 hE [(6, .int .i64 t_3)] fun a hE => ?_
     refine Runs.ret hE Tryz.func110 rfl rfl ?_
     cases hm
     exact ⟨rfl, H⟩
    ·replace hm := cond_f c hm
     refine Runs.sr ?_
     refine WR.e0 hE [(28, .bool (k_ == 5))] fun a hE => ?_
     refine Runs.cond hE rfl (fun c => ?_) (fun c => ?_)
     ·replace hm := cond_t c hm
      refine Runs.sr ?_
      refine WR.d0 hE 2 [(30, .pointer (some ⟨p_a_, 0, none⟩)), (31, .int .i64 r)] fun a hE => ?_
      obtain ⟨t_4, et_4, hm⟩ := bind_some hm
      refine WR.eff hE rfl rfl rfl rfl (OpTo.fn hE rfl rfl Tryz.call165 (pairing_Min_ok et_4 H)) ?_
      rintro _ w ⟨rfl, H⟩ a hE
      refine WR.e0 hE [(6, .int .i64 t_4)] fun a hE => ?_
      refine Runs.ret hE Tryz.func110 rfl rfl ?_
      cases hm
      exact ⟨rfl, H⟩
     ·replace hm := cond_f c hm
      refine Runs.skip ?_
      refine Runs.inBlock ?_
      refine Runs.sr ?_
      refine WR.e0 hE [(6, .int .i64 (-1))] fun a hE => ?_
      refine Runs.ret hE Tryz.func110 rfl rfl ?_
      cases hm
      exact ⟨rfl, H⟩

theorem slots_Table_At_ok {w0 w : World} {As : List HP} {p_t_ : Nat} {al_t_ : slots_Table.A} {t_ : slots_Table} {cell : Int} {t : api_Ref × Bool}  (hm : slots_Table_At t_ cell = some t) (H : St w0 (slots_Table.R p_t_ al_t_ t_ :: As) w) :
    CallsR Tryz.prog 109 #[.pointer (some ⟨p_t_, 0, none⟩), .int .i64 cell] w fun v w' => v = .tuple #[.agg #[.int .i64 t.1.At, .int .i64 t.1.Gen], .bool t.2] ∧ St w0 (slots_Table.R p_t_ al_t_ t_ :: As) w' := by
 rw [slots_Table_At] at hm
 refine enter (args := [.pointer (some ⟨p_t_, 0, none⟩), .int .i64 cell]) Tryz.func109 rfl rfl rfl fun a hE => ?_
 refine Runs.sr ?_
 refine WR.eff hE rfl rfl rfl rfl (OpTo.new hE H [] (.cells #[.int .i64 0, .int .i64 0] 26 (0, 0)) (fun r => .pointer (some ⟨r, 0, none⟩)) (obs := []) rfl (fun _ => by kernel_rfl) trivial) ?_
 rintro _ w ⟨r, rfl, H⟩ a hE
 refine WR.seg hE 2 [] [0, 1, 4] (Lo := [(0, .pointer (some ⟨p_t_, 0, none⟩)), (1, .int .i64 cell), (4, .pointer (some ⟨r, 0, none⟩))]) (obs := []) rfl (by kernel_rfl) trivial fun a hE => ?_
 refine WR.done rfl ?_
 refine Runs.sr ?_
 replace H := slots_Table.open H.t1
 refine WR.d hE 5 [.map (some al_t_.at__p)] [(12, .map (some al_t_.at__p)), (13, .int .i64 cell)] (obs := [.cell ⟨p_t_, 2, none⟩ (.map (some al_t_.at__p))]) ⟨H.cell 0 rfl rfl, trivial⟩ fun a hE => ?_
 obtain ⟨x, ex, hm⟩ := bind_some hm
 refine WR.eff hE rfl rfl rfl rfl (OpTo.mpGet2 3 hE H rfl (KeyOk.int rfl) ex rfl rfl rfl rfl rfl rfl) ?_
 rintro _ _ ⟨rfl, rfl⟩ a hE
 refine WR.d0 hE 9 [(15, .agg #[.int .i64 x.1.At, .int .i64 x.1.Gen]), (16, .bool x.2)] fun a hE => ?_
 refine WR.eff hE rfl rfl rfl rfl (OpTo.new hE H [] (.cells #[.int .i64 0, .int .i64 0] 26 (0, 0)) (fun r => .pointer (some ⟨r, 0, none⟩)) (obs := []) rfl (fun _ => by kernel_rfl) trivial) ?_
 rintro _ w ⟨r1, rfl, H⟩ a hE
 refine WR.eff0 hE rfl rfl rfl (OpTo.store hE H rfl rfl rfl rfl rfl rfl (Nat.le_of_ble_eq_true rfl)) ?_
 rintro _ w H a hE
 refine WR.e0 hE [(7, .bool x.2)] fun a hE => ?_
 refine Runs.sr ?_
 refine WR.d hE 2 [.int .i64 x.1.At, .int .i64 x.1.Gen] [(17, .agg #[.int .i64 x.1.At, .int .i64 x.1.Gen]), (18, .bool x.2)] (obs := [.cell ⟨r1, 0, none⟩ (.int .i64 x.1.At), .cell ⟨r1, 1, none⟩ (.int .i64 x.1.Gen)]) ⟨H.cell 0 rfl rfl, H.cell 0 rfl rfl, trivial⟩ fun a hE => ?_
 refine WR.eff0 hE rfl rfl rfl (OpTo.store hE H.t5 rfl rfl rfl rfl rfl rfl (Nat.le_of_ble_eq_true rfl)) ?_
 rintro _ w H a hE
 refine WR.e0 hE [(5, .bool x.2)] fun a hE => ?_
 refine Runs.retO (vs := [.agg #[.int .i64 x.1.At, .int .i64 x.1.Gen], .bool x.2]) (obs := [.cell ⟨r, 0, none⟩ (.int .i64 x.1.At), .cell ⟨r, 1, none⟩ (.int .i64 x.1.Gen)]) hE Tryz.func109 rfl [.int .i64 x.1.At, .int .i64 x.1.Gen] (by kernel_rfl) ⟨H.cell 0 rfl rfl, H.cell 0 rfl rfl, trivial⟩ ?_
 replace H := slots_Table.shut al_t_ (t_) H.t5.t5.t5.t5
 cases hm
 exact ⟨rfl, H.x2.x1⟩

theorem leftist_Pop_ok {w0 w : World} {As : List HP} {p_a_ : Nat} {al_a_ : arena_Arena.A} {a_ : arena_Arena} {r : Int} {t : Int × Int}  (hm : leftist_Pop a_ r = some t) (H : St w0 (arena_Arena.R p_a_ al_a_ a_ :: As) w) :
    CallsR Tryz.prog 166 #[.pointer (some ⟨p_a_, 0, none⟩), .int .i64 r] w fun v w' => v = .tuple #[.int .i64 t.1, .int .i64 t.2] ∧ St w0 (arena_Arena.R p_a_ al_a_ a_ :: As) w' := by
  rw [leftist_Pop] at hm
  cases hm

theorem binomial_Pop_ok {w0 w : World} {As : List HP} {p_a_ : Nat} {al_a_ : arena_Arena.A} {a_ : arena_Arena} {r : Int} {t : Int × Int}  (hm : binomial_Pop a_ r = some t) (H : St w0 (arena_Arena.R p_a_ al_a_ a_ :: As) w) :
    CallsR Tryz.prog 167 #[.pointer (some ⟨p_a_, 0, none⟩), .int .i64 r] w fun v w' => v = .tuple #[.int .i64 t.1, .int .i64 t.2] ∧ St w0 (arena_Arena.R p_a_ al_a_ a_ :: As) w' := by
  rw [binomial_Pop] at hm
  cases hm

theorem skew_without_f1_ok {w0 w : World} {As : List HP} {x : Int} {v_ : Int} {r : Nat} {t : Bool}  (hm : skew_without_f1 x v_ = some t) (H : St w0 (Blk r 3 [.int .i64 v_] :: As) w) :
    CallsR Tryz.prog 271 #[.int .i64 x, .pointer (some ⟨r, 0, none⟩)] w fun v w' => v = .bool t ∧ St w0 (Blk r 3 [.int .i64 v_] :: As) w' := by
 rw [skew_without_f1] at hm
 refine enter (args := [.int .i64 x, .pointer (some ⟨r, 0, none⟩)]) Tryz.func271 rfl rfl rfl fun a hE => ?_
 refine Runs.sr ?_
 refine WR.seg hE 1 [] [0, 1] (Lo := [(0, .int .i64 x), (1, .pointer (some ⟨r, 0, none⟩))]) (obs := []) rfl (by kernel_rfl) trivial fun a hE => ?_
 refine WR.done rfl ?_
 refine Runs.sr ?_
 refine WR.e hE [.int .i64 v_] [(3, .bool (x == v_))] (obs := [.cell ⟨r, 0, none⟩ (.int .i64 v_)]) ⟨H.cell 0 rfl rfl, trivial⟩ fun a hE => ?_
 refine Runs.ret hE Tryz.func271 rfl rfl ?_
 cases hm
 exact ⟨rfl, H⟩

theorem slices_IndexFunc_int_g271_ok {w0 w : World} {As : List HP} {k : Nat} {sb_s : Option Addr} {sc_s : Nat} {s : List Int} {X_s : HP} {v_ : Int} {r : Nat} {t : Int} (hX_s : SlRd X_s ecI 1 sb_s s) (hC_s : s.length ≤ sc_s) (hm : slices_IndexFunc_int_g271 k s v_ = some t) (H : St w0 (X_s :: Blk r 3 [.int .i64 v_] :: As) w) :
    CallsR Tryz.prog 293 #[.slice sb_s s.length sc_s, .func (.func 271) #[] #[.pointer (some ⟨r, 0, none⟩)]] w fun v w' => v = .int .i64 t ∧ St w0 (X_s :: Blk r 3 [.int .i64 v_] :: As) w' := by
 rw [slices_IndexFunc_int_g271] at hm
 refine enter (args := [.slice sb_s s.length sc_s, .func (.func 271) #[] #[.pointer (some ⟨r, 0, none⟩)]]) Tryz.func293 rfl rfl rfl fun a hE => ?_
 refine Runs.sr ?_
 refine WR.seg hE 1 [] [0, 1] (Lo := [(0, .slice sb_s s.length sc_s), (1, .func (.func 271) #[] #[.pointer (some ⟨r, 0, none⟩)])]) (obs := []) rfl (by kernel_rfl) trivial fun a hE => ?_
 refine WR.done rfl ?_
 refine Runs.seq ?_
 refine Runs.sr ?_
 refine WR.e0 hE [(7, .int .i64 (s.length : Int)), (8, .int .i64 0)] fun a hE => ?_
 obtain ⟨s1, es1, hR⟩ := bind_some hm
 refine Runs.join (fun a w => ∃ s2, s1 = Sum.inr s2 ∧ EnvOk 19 a [] ∧ St w0 (X_s :: Blk r 3 [.int .i64 v_] :: As) w) (fun hk => ?_) ?_
 ·replace hm := es1; clear es1
  refine Runs.block ?_
  refine Runs.loop (fun m a w => ∃ (x : Int), EnvOk 19 a [(0, .slice sb_s s.length sc_s), (1, .func (.func 271) #[] #[.pointer (some ⟨r, 0, none⟩)]), (7, .int .i64 (s.length : Int)), (8, .int .i64 x)] ∧ St w0 (X_s :: Blk r 3 [.int .i64 v_] :: As) w ∧ slices_IndexFunc_int_g271_l0 (s.length : Int) s v_ m x = some s1) k ⟨0, hE.sel [0, 1, 7, 8] (by kernel_rfl), H.t1.t1, hm⟩ ?_
  rintro m ih a w ⟨x, hE, H, hm⟩
  cases m with
  | zero => simp [slices_IndexFunc_int_g271_l0] at hm
  | succ m =>
   rw [slices_IndexFunc_int_g271_l0] at hm
   refine Runs.sr ?_
   refine WR.seg hE 1 [] [0, 1, 7, 8, 9] (Lo := [(0, .slice sb_s s.length sc_s), (1, .func (.func 271) #[] #[.pointer (some ⟨r, 0, none⟩)]), (7, .int .i64 (s.length : Int)), (8, .int .i64 x), (9, .bool (decide (x < (s.length : Int))))]) (obs := []) rfl (by kernel_rfl) trivial fun a hE => ?_
   refine WR.done rfl ?_
   refine Runs.seq ?_
   refine Runs.cond hE rfl (fun c => ?_) (fun c => ?_)
   ·replace hm := cond_t c hm
    refine Runs.skip ?_
    refine Runs.seq ?_
    refine Runs.block ?_
    refine Runs.sr ?_
    refine WR.e0 hE [(5, .int .i64 x)] fun a hE => ?_
    refine Runs.sr ?_
    obtain ⟨x2, ex2, hm⟩ := bind_some hm
    obtain ⟨b, o, hs, hb⟩ := SlRd.base hX_s ecI_ok H 0 rfl ex2
    refine WR.d hE 5 [.pointer (some ⟨b, o, none⟩), .int .i64 x2] [(11, .func (.func 271) #[] #[.pointer (some ⟨r, 0, none⟩)]), (15, .int .i64 x2)] (obs := [.p ((sb_s : Option Addr) = some ⟨b, o, none⟩), .p (0 ≤ (x : Int) ∧ (x : Int) < ((s.length : Nat) : Int)), .cell ⟨b, o + (Int.toNat x) * 1, none⟩ (.int .i64 x2)]) ⟨hs, hb, SlRd.cells hX_s ecI_ok H 0 rfl hs ex2 0 _ rfl, trivial⟩ fun a hE => ?_
    obtain ⟨t_, et_, hm⟩ := bind_some hm
    refine WR.eff hE rfl rfl rfl rfl (OpTo.fv hE rfl rfl rfl Tryz.call271 (skew_without_f1_ok et_ H.t1)) ?_
    rintro _ w ⟨rfl, H⟩ a hE
    refine WR.done rfl ?_
    refine Runs.cond hE rfl (fun c => ?_) (fun c => ?_)
    ·replace hm := cond_t c hm
     refine Runs.sr ?_
     refine WR.e0 hE [(4, .int .i64 x)] fun a hE => ?_
     refine Runs.ret hE Tryz.func293 rfl rfl ?_
     cases hm
     dsimp only at hR; cases hR
     exact ⟨rfl, H.t1⟩
    ·replace hm := cond_f c hm
     refine Runs.skip ?_
     refine Runs.inBlock ?_
     refine Runs.region ?_
     refine WR.e0 hE [(8, .int .i64 (w64 (x + 1)))] fun a hE => ?_
     exact ih m (Nat.lt_succ_self m) _ _ ⟨w64 (x + 1), hE.sel [0, 1, 7, 8] (by kernel_rfl), H.t1, hm⟩
   ·replace hm := cond_f c hm
    refine Runs.exit rfl ?_
    cases hm
    exact hk _ _ ⟨_, rfl, hE.sel [] (by kernel_rfl), H.t1.t1⟩
 rintro a w ⟨s2, rfl, hE, H⟩
 replace hm := hR; dsimp only at hm
 refine Runs.sr ?_
 refine WR.seg hE 1 [] [4] (Lo := [(4, .int .i64 (-1))]) (obs := []) rfl (by kernel_rfl) trivial fun a hE => ?_
 refine WR.done rfl ?_
 refine Runs.ret hE Tryz.func293 rfl rfl ?_
 cases hm
 exact ⟨rfl, H.t1.t1⟩

theorem slices_DeleteFunc_int_g271_ok {w0 w : World} {As : List HP} {k : Nat} {sb_s : Option Addr} {sc_s : Nat} {s : List Int} {v_ : Int} {r : Nat} {t : (List Int)}  (hm : slices_DeleteFunc_int_g271 k s v_ = some t) (H : St w0 (Sl 3 ecI 1 sb_s sc_s s :: Blk r 3 [.int .i64 v_] :: As) w) :
    CallsR Tryz.prog 268 #[.slice sb_s s.length sc_s, .func (.func 271) #[] #[.pointer (some ⟨r, 0, none⟩)]] w fun v w' => ∃ (sb0 : Option Addr), ∃ (sc0 : Nat), v = .slice sb0 t.length sc0 ∧ St w0 (Sl 3 ecI 1 sb0 sc0 t :: Blk r 3 [.int .i64 v_] :: As) w' := by
 rw [slices_DeleteFunc_int_g271] at hm
 refine enter (args := [.slice sb_s s.length sc_s, .func (.func 271) #[] #[.pointer (some ⟨r, 0, none⟩)]]) Tryz.func268 rfl rfl rfl fun a hE => ?_
 refine Runs.sr ?_
 refine WR.seg hE 1 [] [0, 1] (Lo := [(0, .slice sb_s s.length sc_s), (1, .func (.func 271) #[] #[.pointer (some ⟨r, 0, none⟩)])]) (obs := []) rfl (by kernel_rfl) trivial fun a hE => ?_
 refine WR.done rfl ?_
 refine Runs.sr ?_
 refine WR.d0 hE 2 [(8, .slice sb_s s.length sc_s), (9, .func (.func 271) #[] #[.pointer (some ⟨r, 0, none⟩)])] fun a hE => ?_
 obtain ⟨t_, et_, hm⟩ := bind_some hm
 replace H := H.t1.t1
 refine WR.eff hE rfl rfl rfl rfl (OpTo.fn hE rfl rfl Tryz.call293 (slices_IndexFunc_int_g271_ok (hX_s := (sl_rd 3 ecI 1 _ _ _)) (hC_s := (H.slCap 0 rfl).1) et_ H)) ?_
 rintro _ w ⟨rfl, H⟩ a hE
 refine WR.e0 hE [(5, .int .i64 t_)] fun a hE => ?_
 refine Runs.seq ?_
 refine Runs.sr ?_
 refine WR.e0 hE [(12, .bool (t_ == (-1)))] fun a hE => ?_
 refine Runs.cond hE rfl (fun c => ?_) (fun c => ?_)
 ·replace hm := cond_t c hm
  refine Runs.sr ?_
  refine WR.e0 hE [(4, .slice sb_s s.length sc_s)] fun a hE => ?_
  refine Runs.ret hE Tryz.func268 rfl rfl ?_
  cases hm
  exact ⟨sb_s, sc_s, rfl, H.t1.t1⟩
 ·replace hm := cond_f c hm
  refine Runs.skip ?_
  refine Runs.seq ?_
  refine Runs.sr ?_
  refine WR.e0 hE [(6, .int .i64 (w64 (t_ + 1)))] fun a hE => ?_
  obtain ⟨s1, es1, hm⟩ := bind_some hm
  refine Runs.join (fun a w => EnvOk 42 a [(0, .slice sb_s s1.2.length sc_s), (5, .int .i64 s1.1)] ∧ St w0 (Sl 3 ecI 1 sb_s sc_s s1.2 :: Blk r 3 [.int .i64 v_] :: As) w) (fun hk => ?_) ?_
  ·replace hm := es1; clear es1
   refine Runs.block ?_
   refine Runs.loop (fun m a w => ∃ (i : Int), ∃ (j : Int), ∃ (m_ : List Int), EnvOk 42 a [(0, .slice sb_s m_.length sc_s), (1, .func (.func 271) #[] #[.pointer (some ⟨r, 0, none⟩)]), (5, .int .i64 i), (6, .int .i64 j)] ∧ St w0 (Sl 3 ecI 1 sb_s sc_s m_ :: Blk r 3 [.int .i64 v_] :: As) w ∧ slices_DeleteFunc_int_g271_l0 v_ m i j m_ = some s1) k ⟨t_, w64 (t_ + 1), s, hE.sel [0, 1, 5, 6] (by kernel_rfl), H.t1.t1, hm⟩ ?_
   rintro m ih a w ⟨i, j, m_, hE, H, hm⟩
   cases m with
   | zero => simp [slices_DeleteFunc_int_g271_l0] at hm
   | succ m =>
    rw [slices_DeleteFunc_int_g271_l0] at hm
    refine Runs.seq ?_
    refine Runs.sr ?_
    refine WR.seg hE 4 [] [0, 1, 5, 6, 19] (Lo := [(0, .slice sb_s m_.length sc_s), (1, .func (.func 271) #[] #[.pointer (some ⟨r, 0, none⟩)]), (5, .int .i64 i), (6, .int .i64 j), (19, .bool (decide (j < (m_.length : Int))))]) (obs := []) rfl (by kernel_rfl) trivial fun a hE => ?_
    refine WR.done rfl ?_
    refine Runs.cond hE rfl (fun c => ?_) (fun c => ?_)
    ·replace hm := cond_t c hm
     refine Runs.skip ?_
     refine Runs.seq ?_
     obtain ⟨s2, es2, hm⟩ := bind_some hm
     refine Runs.join (fun a w => EnvOk 42 a [(0, .slice sb_s s2.2.length sc_s), (1, .func (.func 271) #[] #[.pointer (some ⟨r, 0, none⟩)]), (5, .int .i64 s2.1), (6, .int .i64 j)] ∧ St w0 (Sl 3 ecI 1 sb_s sc_s s2.2 :: Blk r 3 [.int .i64 v_] :: As) w) (fun hk => ?_) ?_
     ·replace hm := es2; clear es2
      refine Runs.block ?_
      refine Runs.sr ?_
      obtain ⟨x, ex, hm⟩ := bind_some hm
      obtain ⟨b, o, hs, hb⟩ := SlRd.base (sl_rd 3 ecI 1 _ _ _) ecI_ok H 0 rfl ex
      refine WR.e hE [.pointer (some ⟨b, o, none⟩), .int .i64 x] [(7, .int .i64 x)] (obs := [.p ((sb_s : Option Addr) = some ⟨b, o, none⟩), .p (0 ≤ (j : Int) ∧ (j : Int) < ((m_.length : Nat) : Int)), .cell ⟨b, o + (Int.toNat j) * 1, none⟩ (.int .i64 x)]) ⟨hs, hb, SlRd.cells (sl_rd 3 ecI 1 _ _ _) ecI_ok H 0 rfl hs ex 0 _ rfl, trivial⟩ fun a hE => ?_
      refine Runs.sr ?_
      refine WR.d0 hE 2 [(26, .func (.func 271) #[] #[.pointer (some ⟨r, 0, none⟩)]), (27, .int .i64 x)] fun a hE => ?_
      obtain ⟨t_1, et_1, hm⟩ := bind_some hm
      refine WR.eff hE rfl rfl rfl rfl (OpTo.fv hE rfl rfl rfl Tryz.call271 (skew_without_f1_ok et_1 H.t1)) ?_
      rintro _ w ⟨rfl, H⟩ a hE
      refine WR.e0 hE [(29, .bool (!t_1))] fun a hE => ?_
      refine Runs.cond hE rfl (fun c => ?_) (fun c => ?_)
      ·replace hm := cond_t c hm
       refine Runs.sr ?_
       obtain ⟨x1, ex1, hm⟩ := bind_some hm
       obtain ⟨b1, o1, hs1, hb1⟩ := SlRd.base (sl_rd 3 ecI 1 _ _ _) ecI_ok H 1 rfl ex1
       refine WR.d hE 4 [.pointer (some ⟨b1, o1, none⟩)] [(32, .int .i64 x), (33, .pointer (some ⟨b1, o1 + (Int.toNat i) * 1, none⟩))] (obs := [.p ((sb_s : Option Addr) = some ⟨b1, o1, none⟩), .p (0 ≤ (i : Int) ∧ (i : Int) < ((m_.length : Nat) : Int))]) ⟨hs1, hb1, trivial⟩ fun a hE => ?_
       refine WR.eff0 hE rfl rfl rfl (OpTo.storeSl (q := 0) (x' := x) hE H.t1 ecI_ok rfl hs1 ex1 rfl rfl rfl rfl rfl (Nat.le_of_ble_eq_true rfl) rfl) ?_
       rintro _ w H a hE
       try rw [← mSet_len m_ i x] at hE
       refine WR.done rfl ?_
       refine Runs.region ?_
       refine WR.seg hE 3 [] [0, 1, 5, 6] (Lo := [(0, .slice sb_s ((mSet m_ i x).length) sc_s), (1, .func (.func 271) #[] #[.pointer (some ⟨r, 0, none⟩)]), (5, .int .i64 (w64 (i + 1))), (6, .int .i64 j)]) (obs := []) rfl (by kernel_rfl) trivial fun a hE => ?_
       refine WR.done rfl ?_
       refine Runs.inBlock ?_
       cases hm
       exact hk _ _ ⟨hE.sel [0, 1, 5, 6] (by kernel_rfl), H.t1.t1⟩
      ·replace hm := cond_f c hm
       refine Runs.skip ?_
       refine Runs.inBlock ?_
       cases hm
       exact hk _ _ ⟨hE.sel [0, 1, 5, 6] (by kernel_rfl), H.t1⟩
     rintro a w ⟨hE, H⟩
     refine Runs.region ?_
     refine WR.seg hE 3 [] [0, 1, 5, 6] (Lo := [(0, .slice sb_s s2.2.length sc_s), (1, .func (.func 271) #[] #[.pointer (some ⟨r, 0, none⟩)]), (5, .int .i64 s2.1), (6, .int .i64 (w64 (j + 1)))]) (obs := []) rfl (by kernel_rfl) trivial fun a hE => ?_
     refine WR.done rfl ?_
     exact ih m (Nat.lt_succ_self m) _ _ ⟨s2.1, w64 (j + 1), s2.2, hE.sel [0, 1, 5, 6] (by kernel_rfl), H.t1.t1, hm⟩
    ·replace hm := cond_f c hm
     refine Runs.exit rfl ?_
     cases hm
     exact hk _ _ ⟨hE.sel [0, 5] (by kernel_rfl), H.t1.t1⟩
  rintro a w ⟨hE, H⟩
  refine Runs.sr ?_
  obtain ⟨l, el, hm⟩ := bind_some hm
  obtain ⟨sb, q⟩ : ∃ z, rebase sb_s sc_s (Int.toNat s1.1) 1 = z := ⟨_, rfl⟩
  obtain ⟨sc, q1⟩ : ∃ z, sc_s - (Int.toNat s1.1) = z := ⟨_, rfl⟩
  refine WR.seg hE 3 [.slice sb l.length sc] [0, 5, 38] (Lo := [(0, .slice sb_s s1.2.length sc_s), (5, .int .i64 s1.1), (38, .slice sb l.length sc)]) (obs := [.p (rebase sb_s sc_s (Int.toNat s1.1) 1 = sb), .p (s1.2.length - (Int.toNat s1.1) = l.length), .p (sc_s - (Int.toNat s1.1) = sc), .p (0 ≤ (s1.1 : Int) ∧ (s1.1 : Int) ≤ ((s1.2.length : Nat) : Int))]) rfl (by kernel_rfl) ⟨q, cut_len el, q1, cut_bd0 el, trivial⟩ fun a hE => ?_
  refine WR.eff0 hE rfl rfl rfl (OpTo.clearSl (z := 0) hE H ecI_ok el q q1 rfl rfl rfl rfl rfl rfl) ?_
  rintro _ w ⟨_, H⟩ a hE
  try rw [← mClear_len (z := 0) el] at hE
  refine WR.done rfl ?_
  refine Runs.sr ?_
  obtain ⟨l1, el1, hm⟩ := bind_some hm
  obtain ⟨sb1, q2⟩ : ∃ z, rebase sb_s sc_s (Int.toNat 0) 1 = z := ⟨_, rfl⟩
  obtain ⟨sc1, q3⟩ : ∃ z, sc_s - (Int.toNat 0) = z := ⟨_, rfl⟩
  refine WR.seg hE 4 [.slice sb1 l1.length sc1] [4] (Lo := [(4, .slice sb1 l1.length sc1)]) (obs := [.p (rebase sb_s sc_s 0 1 = sb1), .p ((Int.toNat s1.1) - 0 = l1.length), .p (sc_s - 0 = sc1), .p (0 ≤ (s1.1 : Int) ∧ (s1.1 : Int) ≤ ((sc_s : Nat) : Int))]) rfl (by kernel_rfl) ⟨q2, cut_len el1, q3, cut_cap el1 (H.slCap 0 rfl).1, trivial⟩ fun a hE => ?_
  refine WR.done rfl ?_
  replace H := H.slCut' ecI_ok el1 q2 q3
  refine Runs.ret hE Tryz.func268 rfl rfl ?_
  cases hm
  exact ⟨sb1, sc1, rfl, H.t1.t1⟩

theorem trees_Kids_ok {w0 w : World} {As : List HP} {k : Nat} {p_a_ : Nat} {al_a_ : arena_Arena.A} {a_ : arena_Arena} {n : Int} {t : (List Int) × arena_Arena}  (hm : trees_Kids k a_ n = some t) (H : St w0 (arena_Arena.R p_a_ al_a_ a_ :: As) w) :
    CallsR Tryz.prog 270 #[.pointer (some ⟨p_a_, 0, none⟩), .int .i64 n] w fun v w' => ∃ (sb0 : Option Addr), ∃ (sc0 : Nat), v = .slice sb0 t.1.length sc0 ∧ St w0 (Sl 3 ecI 1 sb0 sc0 t.1 :: arena_Arena.R p_a_ al_a_ t.2 :: As) w' := by
 rw [trees_Kids] at hm
 refine enter (args := [.pointer (some ⟨p_a_, 0, none⟩), .int .i64 n]) Tryz.func270 rfl rfl rfl fun a hE => ?_
 refine Runs.sr ?_
 refine WR.seg hE 1 [] [0, 1] (Lo := [(0, .pointer (some ⟨p_a_, 0, none⟩)), (1, .int .i64 n)]) (obs := []) rfl (by kernel_rfl) trivial fun a hE => ?_
 refine WR.done rfl ?_
 refine Runs.sr ?_
 refine WR.d0 hE 3 [(5, .pointer (some ⟨p_a_, 0, none⟩)), (6, .pointer (some ⟨p_a_, 0, none⟩)), (7, .int .i64 n)] fun a hE => ?_
 obtain ⟨t_, et_, hm⟩ := bind_some hm
 refine WR.eff hE rfl rfl rfl rfl (OpTo.fn hE rfl rfl Tryz.call225 (arena_Arena_Cell_ok et_ H)) ?_
 rintro _ w ⟨rfl, H⟩ a hE
 obtain ⟨t_1, et_1, hm⟩ := bind_some hm
 refine WR.eff hE rfl rfl rfl rfl (OpTo.fn hE rfl rfl Tryz.call264 (node_Row_ok et_1 H)) ?_
 rintro _ w ⟨sb, sc, rfl, H⟩ a hE
 refine WR.e0 hE [(4, .slice sb t_1.1.length sc)] fun a hE => ?_
 refine Runs.ret hE Tryz.func270 rfl rfl ?_
 cases hm
 exact ⟨sb, sc, rfl, H.t1.t1⟩

theorem arena_Arena_Give_ok {w0 w : World} {As : List HP} {p_a_ : Nat} {al_a_ : arena_Arena.A} {a_ : arena_Arena} {c_ : Int} {t : Bool × arena_Arena}  (hm : arena_Arena_Give a_ c_ = some t) (H : St w0 (arena_Arena.R p_a_ al_a_ a_ :: As) w) :
    CallsR Tryz.prog 172 #[.pointer (some ⟨p_a_, 0, none⟩), .int .i64 c_] w fun v w' => ∃ (z_a__free_b : Option Addr), ∃ (z_a__free_c : Nat), v = .bool t.1 ∧ St w0 (arena_Arena.R p_a_ (arena_Arena.A.mk al_a_.l_b al_a_.l_c z_a__free_b z_a__free_c al_a_.m__p) t.2 :: As) w' := by
 rw [arena_Arena_Give] at hm
 refine enter (args := [.pointer (some ⟨p_a_, 0, none⟩), .int .i64 c_]) Tryz.func172 rfl rfl rfl fun a hE => ?_
 refine Runs.sr ?_
 refine WR.seg hE 1 [] [0, 1] (Lo := [(0, .pointer (some ⟨p_a_, 0, none⟩)), (1, .int .i64 c_)]) (obs := []) rfl (by kernel_rfl) trivial fun a hE => ?_
 refine WR.done rfl ?_
 refine Runs.sr ?_
 replace H := arena_Arena.open H
 refine WR.d hE 4 [.pointer (some ⟨al_a_.m__p, 0, none⟩)] [(8, .pointer (some ⟨al_a_.m__p, 0, none⟩))] (obs := [.cell ⟨p_a_, 3, none⟩ (.pointer (some ⟨al_a_.m__p, 0, none⟩))]) ⟨H.cell 0 rfl rfl, trivial⟩ fun a hE => ?_
 obtain ⟨t_, et_, hm⟩ := bind_some hm
 refine WR.eff hE rfl rfl rfl rfl (OpTo.fn hE rfl rfl Tryz.call213 (meter_Meter_Tick_ok et_ H.t3)) ?_
 rintro _ w ⟨rfl, H⟩ a hE
 refine WR.done rfl ?_
 refine Runs.seq ?_
 refine Runs.sr ?_
 refine WR.d0 hE 2 [(10, .pointer (some ⟨p_a_, 0, none⟩)), (11, .int .i64 c_)] fun a hE => ?_
 replace H := arena_Arena.shut al_a_ (arena_Arena.mk a_.l a_.never a_.free t_) H.t3.t3.t3
 obtain ⟨t_1, et_1, hm⟩ := bind_some hm
 refine WR.eff hE rfl rfl rfl rfl (OpTo.fn hE rfl rfl Tryz.call227 (arena_Arena_Live_ok et_1 H)) ?_
 rintro _ w ⟨rfl, H⟩ a hE
 refine WR.e0 hE [(13, .bool (!t_1))] fun a hE => ?_
 refine Runs.cond hE rfl (fun c => ?_) (fun c => ?_)
 ·replace hm := cond_t c hm
  refine Runs.sr ?_
  refine WR.e0 hE [(4, .bool false)] fun a hE => ?_
  refine Runs.ret hE Tryz.func172 rfl rfl ?_
  cases hm
  exact ⟨al_a_.free_b, al_a_.free_c, rfl, H⟩
 ·replace hm := cond_f c hm
  refine Runs.skip ?_
  refine Runs.sr ?_
  replace H := arena_Arena.open H
  try dsimp only at H
  obtain ⟨x, ex, hm⟩ := bind_some hm
  obtain ⟨b, o, hs, hb⟩ := SlRd.base (sl_rd 279 arena_cell.enc 11 _ _ _) arena_cell.enc_ok H 1 rfl ex
  refine WR.d hE 7 [.slice al_a_.l_b a_.l.length al_a_.l_c, .pointer (some ⟨b, o, none⟩)] [(20, .pointer (some ⟨b, o + (Int.toNat c_) * 11 + 10, none⟩))] (obs := [.cell ⟨p_a_, 0, none⟩ (.slice al_a_.l_b a_.l.length al_a_.l_c), .p ((al_a_.l_b : Option Addr) = some ⟨b, o, none⟩), .p (0 ≤ (c_ : Int) ∧ (c_ : Int) < ((a_.l.length : Nat) : Int))]) ⟨H.cell 0 rfl rfl, hs, hb, trivial⟩ fun a hE => ?_
  refine WR.eff0 hE rfl rfl rfl (OpTo.storeSl (q := 10) (x' := (arena_cell.mk x.f0 x.f1 x.f2 x.f3 x.f4 x.f5 x.f6 x.f7 x.f8 x.f9 false)) hE H.t1 arena_cell.enc_ok rfl hs ex rfl rfl rfl rfl rfl (Nat.le_of_ble_eq_true rfl) rfl) ?_
  rintro _ w H a hE
  rw [← mSet_len a_.l c_ (arena_cell.mk x.f0 x.f1 x.f2 x.f3 x.f4 x.f5 x.f6 x.f7 x.f8 x.f9 false)] at H
  refine WR.done rfl ?_
  refine Runs.sr ?_
  refine WR.d hE 6 [.slice al_a_.free_b a_.free.length al_a_.free_c] [(21, .pointer (some ⟨p_a_, 0, none⟩)), (25, .slice al_a_.free_b a_.free.length al_a_.free_c), (26, .int .i64 c_)] (obs := [.cell ⟨p_a_, 2, none⟩ (.slice al_a_.free_b a_.free.length al_a_.free_c)]) ⟨H.cell 1 rfl rfl, trivial⟩ fun a hE => ?_
  refine WR.eff hE rfl rfl rfl rfl (OpTo.buildSl (T := 3) hE H ecI_ok ([c_] : List Int) rfl (fun _ => by kernel_rfl) rfl rfl rfl) ?_
  rintro _ w ⟨r, rfl, H⟩ a hE
  obtain ⟨l, el, hm⟩ := bind_some hm
  replace H := H.t3
  refine WR.eff hE rfl rfl rfl rfl (OpTo.appendM el hE H ecI_ok rfl rfl rfl rfl rfl rfl rfl rfl rfl rfl (SlRd.all (sl_rd 3 ecI 1 _ _ _) ecI_ok H 1 rfl) rfl) ?_
  rintro _ w ⟨sb, sc, rfl, H⟩ a hE
  refine WR.d0 hE 10 [(30, .pointer (some ⟨p_a_, 2, none⟩))] fun a hE => ?_
  refine WR.eff0 hE rfl rfl rfl (OpTo.store hE H.t3 rfl rfl rfl rfl rfl rfl (Nat.le_of_ble_eq_true rfl)) ?_
  rintro _ w H a hE
  refine WR.done rfl ?_
  refine Runs.sr ?_
  refine WR.e0 hE [(4, .bool true)] fun a hE => ?_
  replace H := arena_Arena.shut (arena_Arena.A.mk al_a_.l_b al_a_.l_c sb sc al_a_.m__p) (arena_Arena.mk (mSet a_.l c_ (arena_cell.mk x.f0 x.f1 x.f2 x.f3 x.f4 x.f5 x.f6 x.f7 x.f8 x.f9 false)) a_.never l t_) H.t4.t2.t4.t3
  refine Runs.ret hE Tryz.func172 rfl rfl ?_
  cases hm
  exact ⟨sb, sc, rfl, H.x1⟩

theorem node_End_ok {w0 w : World} {As : List HP} {p_a_ : Nat} {al_a_ : arena_Arena.A} {a_ : arena_Arena} {n : Int} {t : Int × arena_Arena}  (hm : node_End a_ n = some t) (H : St w0 (arena_Arena.R p_a_ al_a_ a_ :: As) w) :
    CallsR Tryz.prog 229 #[.pointer (some ⟨p_a_, 0, none⟩), .int .i64 n] w fun v w' => ∃ (z_a__free_b : Option Addr), ∃ (z_a__free_c : Nat), v = .int .i64 t.1 ∧ St w0 (arena_Arena.R p_a_ (arena_Arena.A.mk al_a_.l_b al_a_.l_c z_a__free_b z_a__free_c al_a_.m__p) t.2 :: As) w' := by
 rw [node_End] at hm
 refine enter (args := [.pointer (some ⟨p_a_, 0, none⟩), .int .i64 n]) Tryz.func229 rfl rfl rfl fun a hE => ?_
 refine Runs.sr ?_
 refine WR.seg hE 1 [] [0, 1] (Lo := [(0, .pointer (some ⟨p_a_, 0, none⟩)), (1, .int .i64 n)]) (obs := []) rfl (by kernel_rfl) trivial fun a hE => ?_
 refine WR.done rfl ?_
 refine Runs.sr ?_
 refine WR.d0 hE 2 [(6, .pointer (some ⟨p_a_, 0, none⟩)), (7, .int .i64 n)] fun a hE => ?_
 obtain ⟨t_, et_, hm⟩ := bind_some hm
 refine WR.eff hE rfl rfl rfl rfl (OpTo.fn hE rfl rfl Tryz.call225 (arena_Arena_Cell_ok et_ H)) ?_
 rintro _ w ⟨rfl, H⟩ a hE
 refine WR.e0 hE [(5, .int .i64 t_.1)] fun a hE => ?_
 refine Runs.sr ?_
 refine WR.d0 hE 2 [(9, .pointer (some ⟨p_a_, 0, none⟩)), (10, .int .i64 t_.1)] fun a hE => ?_
 obtain ⟨t_1, et_1, hm⟩ := bind_some hm
 refine WR.eff hE rfl rfl rfl rfl (OpTo.fn hE rfl rfl Tryz.call152 (arena_Arena_Set_ok et_1 H)) ?_
 rintro _ w ⟨rfl, hf, H⟩ a hE
 refine WR.done rfl ?_
 refine Runs.sr ?_
 refine WR.d0 hE 2 [(12, .pointer (some ⟨p_a_, 0, none⟩)), (13, .int .i64 n)] fun a hE => ?_
 obtain ⟨t_2, et_2, hm⟩ := bind_some hm
 refine WR.eff hE rfl rfl rfl rfl (OpTo.fn hE rfl rfl Tryz.call172 (arena_Arena_Give_ok et_2 H)) ?_
 rintro _ w ⟨z, z1, rfl, H⟩ a hE
 refine WR.done rfl ?_
 refine Runs.sr ?_
 refine WR.e0 hE [(4, .int .i64 t_.1)] fun a hE => ?_
 refine Runs.ret hE Tryz.func229 rfl rfl ?_
 cases hm
 exact ⟨z, z1, rfl, H⟩

theorem trees_Carry_f1_ok {w0 w : World} {As : List HP} {x : trees_ranked} {y : trees_ranked} {t : Int}  (hm : trees_Carry_f1 x y = some t) (H : St w0 (As) w) :
    CallsR Tryz.prog 260 #[.agg #[.int .i64 x.n, .int .i64 x.rank], .agg #[.int .i64 y.n, .int .i64 y.rank]] w fun v w' => v = .int .i64 t ∧ St w0 (As) w' := by
 rw [trees_Carry_f1] at hm
 refine enter (args := [.agg #[.int .i64 x.n, .int .i64 x.rank], .agg #[.int .i64 y.n, .int .i64 y.rank]]) Tryz.func260 rfl rfl rfl fun a hE => ?_
 refine Runs.sr ?_
 refine WR.eff hE rfl rfl rfl rfl (OpTo.new hE H [] (.cells #[.int .i64 x.n, .int .i64 x.rank] 302 (0, 0)) (fun r => .pointer (some ⟨r, 0, none⟩)) (obs := []) rfl (fun _ => by kernel_rfl) trivial) ?_
 rintro _ w ⟨r, rfl, H⟩ a hE
 refine WR.eff hE rfl rfl rfl rfl (OpTo.new hE H [] (.cells #[.int .i64 y.n, .int .i64 y.rank] 302 (0, 0)) (fun r => .pointer (some ⟨r, 0, none⟩)) (obs := []) rfl (fun _ => by kernel_rfl) trivial) ?_
 rintro _ w ⟨r1, rfl, H⟩ a hE
 refine WR.seg hE 3 [] [2, 3] (Lo := [(2, .pointer (some ⟨r, 0, none⟩)), (3, .pointer (some ⟨r1, 0, none⟩))]) (obs := []) rfl (by kernel_rfl) trivial fun a hE => ?_
 refine WR.done rfl ?_
 refine Runs.sr ?_
 refine WR.e hE [.int .i64 x.rank, .int .i64 y.rank] [(4, .int .i64 (if (if 1 < w64 (x.rank - y.rank) then 1 else w64 (x.rank - y.rank)) > (-1) then (if 1 < w64 (x.rank - y.rank) then 1 else w64 (x.rank - y.rank)) else (-1)))] (obs := [.cell ⟨r, 1, none⟩ (.int .i64 x.rank), .cell ⟨r1, 1, none⟩ (.int .i64 y.rank)]) ⟨H.cell 1 rfl rfl, H.cell 0 rfl rfl, trivial⟩ fun a hE => ?_
 refine Runs.ret hE Tryz.func260 rfl rfl ?_
 cases hm
 exact ⟨rfl, H.x1.x0⟩

theorem slices_insertionSortCmpFunc_trees_ranked_g260_ok {w0 w : World} {As : List HP} {k : Nat} {sb_data : Option Addr} {sc_data : Nat} {data : List trees_ranked} {a_ : Int} {b : Int} {t : (List trees_ranked)}  (hm : slices_insertionSortCmpFunc_trees_ranked_g260 k data a_ b = some t) (H : St w0 (Sl 302 trees_ranked.enc 2 sb_data sc_data data :: As) w) :
    CallsR Tryz.prog 302 #[.slice sb_data data.length sc_data, .int .i64 a_, .int .i64 b, .func (.func 260) #[] #[]] w fun v w' => v = .tuple #[] ∧ t.length = data.length ∧ St w0 (Sl 302 trees_ranked.enc 2 sb_data sc_data t :: As) w' := by
 rw [slices_insertionSortCmpFunc_trees_ranked_g260] at hm
 refine enter (args := [.slice sb_data data.length sc_data, .int .i64 a_, .int .i64 b, .func (.func 260) #[] #[]]) Tryz.func302 rfl rfl rfl fun a hE => ?_
 refine Runs.sr ?_
 refine WR.seg hE 3 [] [0, 1, 2, 3, 8] (Lo := [(0, .slice sb_data data.length sc_data), (1, .int .i64 a_), (2, .int .i64 b), (3, .func (.func 260) #[] #[]), (8, .int .i64 (w64 (a_ + 1)))]) (obs := []) rfl (by kernel_rfl) trivial fun a hE => ?_
 refine WR.done rfl ?_
 obtain ⟨s, es, hm⟩ := bind_some hm
 refine Runs.join (fun a w => EnvOk 53 a [] ∧ St w0 (Sl 302 trees_ranked.enc 2 sb_data sc_data s :: As) w) (fun hk => ?_) ?_
 ·replace hm := es; clear es
  refine Runs.block ?_
  refine Runs.loop (fun m a w => ∃ (i : Int), ∃ (m_ : List trees_ranked), EnvOk 53 a [(0, .slice sb_data m_.length sc_data), (1, .int .i64 a_), (2, .int .i64 b), (3, .func (.func 260) #[] #[]), (8, .int .i64 i)] ∧ St w0 (Sl 302 trees_ranked.enc 2 sb_data sc_data m_ :: As) w ∧ slices_insertionSortCmpFunc_trees_ranked_g260_l0 a_ b m i m_ = some s) k ⟨w64 (a_ + 1), data, hE.sel [0, 1, 2, 3, 8] (by kernel_rfl), H, hm⟩ ?_
  rintro m ih a w ⟨i, m_, hE, H, hm⟩
  cases m with
  | zero => simp [slices_insertionSortCmpFunc_trees_ranked_g260_l0] at hm
  | succ m =>
   rw [slices_insertionSortCmpFunc_trees_ranked_g260_l0] at hm
   refine Runs.seq ?_
   refine Runs.sr ?_
   refine WR.seg hE 3 [] [0, 1, 2, 3, 8, 14] (Lo := [(0, .slice sb_data m_.length sc_data), (1, .int .i64 a_), (2, .int .i64 b), (3, .func (.func 260) #[] #[]), (8, .int .i64 i), (14, .bool (decide (i < b)))]) (obs := []) rfl (by kernel_rfl) trivial fun a hE => ?_
   refine WR.done rfl ?_
   refine Runs.cond hE rfl (fun c => ?_) (fun c => ?_)
   ·replace hm := cond_t c hm
    refine Runs.skip ?_
    refine Runs.seq ?_
    refine Runs.block ?_
    refine Runs.sr ?_
    refine WR.e0 hE [(9, .int .i64 i)] fun a hE => ?_
    obtain ⟨s1, es1, hm⟩ := bind_some hm
    refine Runs.join (fun a w => EnvOk 53 a [(0, .slice sb_data s1.length sc_data), (1, .int .i64 a_), (2, .int .i64 b), (3, .func (.func 260) #[] #[]), (8, .int .i64 i)] ∧ St w0 (Sl 302 trees_ranked.enc 2 sb_data sc_data s1 :: As) w) (fun hk => ?_) ?_
    ·replace hm := es1; clear es1
     refine Runs.block ?_
     refine Runs.loop (fun m a w => ∃ (j : Int), ∃ (m_1 : List trees_ranked), EnvOk 53 a [(0, .slice sb_data m_1.length sc_data), (1, .int .i64 a_), (2, .int .i64 b), (3, .func (.func 260) #[] #[]), (8, .int .i64 i), (9, .int .i64 j)] ∧ St w0 (Sl 302 trees_ranked.enc 2 sb_data sc_data m_1 :: As) w ∧ slices_insertionSortCmpFunc_trees_ranked_g260_l1 a_ b i m j m_1 = some s1) m ⟨i, m_, hE.sel [0, 1, 2, 3, 8, 9] (by kernel_rfl), H, hm⟩ ?_
     rintro m ih a w ⟨j, m_1, hE, H, hm⟩
     cases m with
     | zero => simp [slices_insertionSortCmpFunc_trees_ranked_g260_l1] at hm
     | succ m =>
      rw [slices_insertionSortCmpFunc_trees_ranked_g260_l1] at hm
      refine Runs.seq ?_
      refine Runs.seq ?_
      obtain ⟨s2, es2, hm⟩ := bind_some hm
      refine Runs.join (fun a w => EnvOk 53 a [(0, .slice sb_data m_1.length sc_data), (1, .int .i64 a_), (2, .int .i64 b), (3, .func (.func 260) #[] #[]), (8, .int .i64 i), (9, .int .i64 j), (34, .bool s2)] ∧ St w0 (Sl 302 trees_ranked.enc 2 sb_data sc_data m_1 :: As) w) (fun hk => ?_) ?_
      ·replace hm := es2; clear es2
       refine Runs.drawn mixed (by kernel_rfl) ?_
       replace H := H.drew
       refine WQ.seg hE [0, 1, 2, 3] [] [0, 1, 2, 3, 8, 9, 21] (Lo := [(0, .slice sb_data m_1.length sc_data), (1, .int .i64 a_), (2, .int .i64 b), (3, .func (.func 260) #[] #[]), (8, .int .i64 i), (9, .int .i64 j), (21, .bool (decide (j > a_)))]) (obs := []) (by kernel_rfl) (by kernel_rfl) trivial fun a hE => ?_
       rcases Bool.eq_false_or_eq_true (decide (j > a_)) with c | c
       ·replace hE := hE.dec 21 c (by kernel_rfl)
        replace hm := cond_t c hm
        have c_ := c
        obtain ⟨x1, ex1, hm⟩ := bind_some hm
        obtain ⟨b4, o1, hs1, hb1⟩ := SlRd.base (sl_rd 302 trees_ranked.enc 2 _ _ _) trees_ranked.enc_ok H 0 rfl ex1
        obtain ⟨x2, ex2, hm⟩ := bind_some hm
        obtain ⟨b5, o2, hs2, hb2⟩ := SlRd.base (sl_rd 302 trees_ranked.enc 2 _ _ _) trees_ranked.enc_ok H 0 rfl ex2
        refine WQ.d hE [4, 5, 6, 7, 8, 9, 10, 11, 12, 13] [.pointer (some ⟨b4, o1, none⟩), .int .i64 x1.n, .int .i64 x1.rank, .pointer (some ⟨b5, o2, none⟩), .int .i64 x2.n, .int .i64 x2.rank] [(21, .bool true), (22, .func (.func 260) #[] #[]), (26, .agg #[.int .i64 x1.n, .int .i64 x1.rank]), (31, .agg #[.int .i64 x2.n, .int .i64 x2.rank])] (obs := [.p ((sb_data : Option Addr) = some ⟨b4, o1, none⟩), .p (0 ≤ (j : Int) ∧ (j : Int) < ((m_1.length : Nat) : Int)), .cell ⟨b4, o1 + (Int.toNat j) * 2, none⟩ (.int .i64 x1.n), .cell ⟨b4, o1 + (Int.toNat j) * 2 + 1, none⟩ (.int .i64 x1.rank), .p ((sb_data : Option Addr) = some ⟨b5, o2, none⟩), .p (0 ≤ ((w64 (j - 1)) : Int) ∧ ((w64 (j - 1)) : Int) < ((m_1.length : Nat) : Int)), .cell ⟨b5, o2 + (Int.toNat (w64 (j - 1))) * 2, none⟩ (.int .i64 x2.n), .cell ⟨b5, o2 + (Int.toNat (w64 (j - 1))) * 2 + 1, none⟩ (.int .i64 x2.rank)]) ⟨hs1, hb1, SlRd.cells (sl_rd 302 trees_ranked.enc 2 _ _ _) trees_ranked.enc_ok H 0 rfl hs1 ex1 0 _ rfl, SlRd.cells (sl_rd 302 trees_ranked.enc 2 _ _ _) trees_ranked.enc_ok H 0 rfl hs1 ex1 1 _ rfl, hs2, hb2, SlRd.cells (sl_rd 302 trees_ranked.enc 2 _ _ _) trees_ranked.enc_ok H 0 rfl hs2 ex2 0 _ rfl, SlRd.cells (sl_rd 302 trees_ranked.enc 2 _ _ _) trees_ranked.enc_ok H 0 rfl hs2 ex2 1 _ rfl, trivial⟩ fun a hE => ?_
        obtain ⟨t_, et_, hm⟩ := bind_some hm
        refine WQ.eff (j := 14) (obs := []) hE (by kernel_rfl) rfl rfl rfl rfl (by kernel_rfl) (OpTo.fv hE rfl rfl rfl Tryz.call260 (trees_Carry_f1_ok et_ H)) ?_
        rintro _ w ⟨rfl, H⟩
        refine ⟨trivial, fun a hE => ?_⟩
        refine WQ.d0 hE [15, 16] [(34, .bool (decide (t_ < 0)))] fun a hE => ?_
        refine WQ.done (by kernel_rfl) ?_
        cases hm
        exact hk _ _ ⟨hE.sel [0, 1, 2, 3, 8, 9, 34] (by kernel_rfl), H⟩
       ·replace hE := hE.dec 21 c (by kernel_rfl)
        replace hm := cond_f c hm
        have c_1 := c
        refine WQ.d0 hE [4, 5, 6, 7, 8, 9, 10, 11, 12, 13, 14, 15, 16] [(34, .bool false)] fun a hE => ?_
        refine WQ.done (by kernel_rfl) ?_
        cases hm
        exact hk _ _ ⟨hE.sel [0, 1, 2, 3, 8, 9, 34] (by kernel_rfl), H⟩
      rintro a w ⟨hE, H⟩
      refine Runs.cond hE rfl (fun c => ?_) (fun c => ?_)
      ·replace hm := cond_t c hm
       refine Runs.skip ?_
       refine Runs.seq ?_
       refine Runs.block ?_
       refine Runs.drawn mixed (by kernel_rfl) ?_
       replace H := H.drew
       obtain ⟨x3, ex3, hm⟩ := bind_some hm
       obtain ⟨b6, o3, hs3, hb3⟩ := SlRd.base (sl_rd 302 trees_ranked.enc 2 _ _ _) trees_ranked.enc_ok H 0 rfl ex3
       obtain ⟨x4, ex4, hm⟩ := bind_some hm
       obtain ⟨b7, o4, hs4, hb4⟩ := SlRd.base (sl_rd 302 trees_ranked.enc 2 _ _ _) trees_ranked.enc_ok H 0 rfl ex4
       obtain ⟨x5, ex5, hm⟩ := bind_some hm
       obtain ⟨b8, o5, hs5, hb5⟩ := SlRd.base (sl_rd 302 trees_ranked.enc 2 _ _ _) trees_ranked.enc_ok H 0 rfl ex5
       refine WQ.seg hE [0, 1, 2, 3, 4, 5, 6, 7, 8, 9, 10, 11, 12, 13, 14] [.pointer (some ⟨b6, o3, none⟩), .int .i64 x3.n, .int .i64 x3.rank, .pointer (some ⟨b7, o4, none⟩), .int .i64 x4.n, .int .i64 x4.rank, .pointer (some ⟨b8, o5, none⟩)] [0, 1, 2, 3, 8, 9, 39, 41, 46, 50, 51] (Lo := [(0, .slice sb_data m_1.length sc_data), (1, .int .i64 a_), (2, .int .i64 b), (3, .func (.func 260) #[] #[]), (8, .int .i64 i), (9, .int .i64 j), (39, .slice sb_data m_1.length sc_data), (41, .int .i64 (w64 (j - 1))), (46, .agg #[.int .i64 x3.n, .int .i64 x3.rank]), (50, .agg #[.int .i64 x4.n, .int .i64 x4.rank]), (51, .pointer (some ⟨b8, o5 + (Int.toNat j) * 2, none⟩))]) (obs := [.p ((sb_data : Option Addr) = some ⟨b6, o3, none⟩), .p (0 ≤ ((w64 (j - 1)) : Int) ∧ ((w64 (j - 1)) : Int) < ((m_1.length : Nat) : Int)), .cell ⟨b6, o3 + (Int.toNat (w64 (j - 1))) * 2, none⟩ (.int .i64 x3.n), .cell ⟨b6, o3 + (Int.toNat (w64 (j - 1))) * 2 + 1, none⟩ (.int .i64 x3.rank), .p ((sb_data : Option Addr) = some ⟨b7, o4, none⟩), .p (0 ≤ (j : Int) ∧ (j : Int) < ((m_1.length : Nat) : Int)), .cell ⟨b7, o4 + (Int.toNat j) * 2, none⟩ (.int .i64 x4.n), .cell ⟨b7, o4 + (Int.toNat j) * 2 + 1, none⟩ (.int .i64 x4.rank), .p ((sb_data : Option Addr) = some ⟨b8, o5, none⟩), .p (0 ≤ (j : Int) ∧ (j : Int) < ((m_1.length : Nat) : Int))]) (by kernel_rfl) (by kernel_rfl) ⟨hs3, hb3, SlRd.cells (sl_rd 302 trees_ranked.enc 2 _ _ _) trees_ranked.enc_ok H 0 rfl hs3 ex3 0 _ rfl, SlRd.cells (sl_rd 302 trees_ranked.enc 2 _ _ _) trees_ranked.enc_ok H 0 rfl hs3 ex3 1 _ rfl, hs4, hb4, SlRd.cells (sl_rd 302 trees_ranked.enc 2 _ _ _) trees_ranked.enc_ok H 0 rfl hs4 ex4 0 _ rfl, SlRd.cells (sl_rd 302 trees_ranked.enc 2 _ _ _) trees_ranked.enc_ok H 0 rfl hs4 ex4 1 _ rfl, hs5, hb5, trivial⟩ fun a hE => ?_
       refine WQ.eff0 (j := 15) (obs := []) hE (by kernel_rfl) rfl rfl rfl (by kernel_rfl) (OpTo.storeSl (q := 0) (x' := x3) hE H trees_ranked.enc_ok rfl hs5 ex5 rfl rfl rfl rfl rfl (Nat.le_of_ble_eq_true rfl) rfl) ?_
       rintro _ w H
       refine ⟨trivial, fun a hE => ?_⟩
       try rw [← mSet_len m_1 j x3] at hE
       obtain ⟨x6, ex6, hm⟩ := bind_some hm
       obtain ⟨b9, o6, hs6, hb6⟩ := SlRd.base (sl_rd 302 trees_ranked.enc 2 _ _ _) trees_ranked.enc_ok H 0 rfl ex6
       refine WQ.seg hE [16] [.pointer (some ⟨b9, o6, none⟩)] [0, 1, 2, 3, 8, 9, 50, 52] (Lo := [(0, .slice sb_data ((mSet m_1 j x3).length) sc_data), (1, .int .i64 a_), (2, .int .i64 b), (3, .func (.func 260) #[] #[]), (8, .int .i64 i), (9, .int .i64 j), (50, .agg #[.int .i64 x4.n, .int .i64 x4.rank]), (52, .pointer (some ⟨b9, o6 + (Int.toNat (w64 (j - 1))) * 2, none⟩))]) (obs := [.p ((sb_data : Option Addr) = some ⟨b9, o6, none⟩), .p (0 ≤ ((w64 (j - 1)) : Int) ∧ ((w64 (j - 1)) : Int) < (((mSet m_1 j x3).length : Nat) : Int))]) (by kernel_rfl) (by kernel_rfl) ⟨hs6, hb6, trivial⟩ fun a hE => ?_
       refine WQ.eff0 (j := 17) (obs := []) hE (by kernel_rfl) rfl rfl rfl (by kernel_rfl) (OpTo.storeSl (q := 0) (x' := x4) hE H trees_ranked.enc_ok rfl hs6 ex6 rfl rfl rfl rfl rfl (Nat.le_of_ble_eq_true rfl) rfl) ?_
       rintro _ w H
       refine ⟨trivial, fun a hE => ?_⟩
       try rw [← mSet_len (mSet m_1 j x3) (w64 (j - 1)) x4] at hE
       refine WQ.done (by kernel_rfl) ?_
       refine Runs.inBlock ?_
       refine Runs.region ?_
       refine WR.seg hE 3 [] [0, 1, 2, 3, 8, 9] (Lo := [(0, .slice sb_data ((mSet (mSet m_1 j x3) (w64 (j - 1)) x4).length) sc_data), (1, .int .i64 a_), (2, .int .i64 b), (3, .func (.func 260) #[] #[]), (8, .int .i64 i), (9, .int .i64 (w64 (j - 1)))]) (obs := []) rfl (by kernel_rfl) trivial fun a hE => ?_
       refine WR.done rfl ?_
       exact ih m (Nat.lt_succ_self m) _ _ ⟨w64 (j - 1), mSet (mSet m_1 j x3) (w64 (j - 1)) x4, hE.sel [0, 1, 2, 3, 8, 9] (by kernel_rfl), H, hm⟩
      ·replace hm := cond_f c hm
       refine Runs.exit rfl ?_
       cases hm
       exact hk _ _ ⟨hE.sel [0, 1, 2, 3, 8] (by kernel_rfl), H⟩
    rintro a w ⟨hE, H⟩
    refine Runs.inBlock ?_
    refine Runs.region ?_
    refine WR.seg hE 3 [] [0, 1, 2, 3, 8] (Lo := [(0, .slice sb_data s1.length sc_data), (1, .int .i64 a_), (2, .int .i64 b), (3, .func (.func 260) #[] #[]), (8, .int .i64 (w64 (i + 1)))]) (obs := []) rfl (by kernel_rfl) trivial fun a hE => ?_
    refine WR.done rfl ?_
    exact ih m (Nat.lt_succ_self m) _ _ ⟨w64 (i + 1), s1, hE.sel [0, 1, 2, 3, 8] (by kernel_rfl), H, hm⟩
   ·replace hm := cond_f c hm
    refine Runs.exit rfl ?_
    cases hm
    exact hk _ _ ⟨hE.sel [] (by kernel_rfl), H⟩
 rintro a w ⟨hE, H⟩
 refine Runs.fin hE Tryz.func302 rfl rfl ?_
 obtain ⟨u, eu, hm⟩ := bind_some hm
 cases hm
 exact ⟨rfl, same_spec eu, H⟩

theorem slices_stableCmpFunc_trees_ranked_g260_ok {w0 w : World} {As : List HP} {k : Nat} {sb_data : Option Addr} {sc_data : Nat} {data : List trees_ranked} {n : Int} {t : (List trees_ranked)}  (hm : slices_stableCmpFunc_trees_ranked_g260 k data n = some t) (H : St w0 (Sl 302 trees_ranked.enc 2 sb_data sc_data data :: As) w) :
    CallsR Tryz.prog 290 #[.slice sb_data data.length sc_data, .int .i64 n, .func (.func 260) #[] #[]] w fun v w' => v = .tuple #[] ∧ t.length = data.length ∧ St w0 (Sl 302 trees_ranked.enc 2 sb_data sc_data t :: As) w' := by
 rw [slices_stableCmpFunc_trees_ranked_g260] at hm
 refine enter (args := [.slice sb_data data.length sc_data, .int .i64 n, .func (.func 260) #[] #[]]) Tryz.func290 rfl rfl rfl fun a hE => ?_
 refine Runs.sr ?_
 refine WR.seg hE 1 [] [0, 1, 2, 6] (Lo := [(0, .slice sb_data data.length sc_data), (1, .int .i64 n), (2, .func (.func 260) #[] #[]), (6, .int .i64 20)]) (obs := []) rfl (by kernel_rfl) trivial fun a hE => ?_
 refine WR.done rfl ?_
 refine Runs.sr ?_
 refine WR.e0 hE [(7, .int .i64 0), (8, .int .i64 20)] fun a hE => ?_
 refine Runs.seq ?_
 obtain ⟨s, es, hm⟩ := bind_some hm
 refine Runs.join (fun a w => EnvOk 63 a [(0, .slice sb_data s.2.length sc_data), (1, .int .i64 n), (2, .func (.func 260) #[] #[]), (6, .int .i64 20), (7, .int .i64 s.1)] ∧ St w0 (Sl 302 trees_ranked.enc 2 sb_data sc_data s.2 :: As) w) (fun hk => ?_) ?_
 ·replace hm := es; clear es
  refine Runs.block ?_
  refine Runs.loop (fun m a w => ∃ (a_ : Int), ∃ (b : Int), ∃ (m_ : List trees_ranked), EnvOk 63 a [(0, .slice sb_data m_.length sc_data), (1, .int .i64 n), (2, .func (.func 260) #[] #[]), (6, .int .i64 20), (7, .int .i64 a_), (8, .int .i64 b)] ∧ St w0 (Sl 302 trees_ranked.enc 2 sb_data sc_data m_ :: As) w ∧ slices_stableCmpFunc_trees_ranked_g260_l0 n m a_ b m_ = some s) k ⟨0, 20, data, hE.sel [0, 1, 2, 6, 7, 8] (by kernel_rfl), H, hm⟩ ?_
  rintro m ih a w ⟨a_, b, m_, hE, H, hm⟩
  cases m with
  | zero => simp [slices_stableCmpFunc_trees_ranked_g260_l0] at hm
  | succ m =>
   rw [slices_stableCmpFunc_trees_ranked_g260_l0] at hm
   refine Runs.seq ?_
   refine Runs.sr ?_
   refine WR.seg hE 3 [] [0, 1, 2, 6, 7, 8, 13] (Lo := [(0, .slice sb_data m_.length sc_data), (1, .int .i64 n), (2, .func (.func 260) #[] #[]), (6, .int .i64 20), (7, .int .i64 a_), (8, .int .i64 b), (13, .bool (decide (b ≤ n)))]) (obs := []) rfl (by kernel_rfl) trivial fun a hE => ?_
   refine WR.done rfl ?_
   refine Runs.cond hE rfl (fun c => ?_) (fun c => ?_)
   ·replace hm := cond_t c hm
    refine Runs.skip ?_
    refine Runs.block ?_
    refine Runs.sr ?_
    refine WR.d0 hE 4 [(14, .slice sb_data m_.length sc_data), (15, .int .i64 a_), (16, .int .i64 b), (17, .func (.func 260) #[] #[])] fun a hE => ?_
    obtain ⟨t_, et_, hm⟩ := bind_some hm
    refine WR.eff hE rfl rfl rfl rfl (OpTo.fn hE rfl rfl Tryz.call302 (slices_insertionSortCmpFunc_trees_ranked_g260_ok et_ H)) ?_
    rintro _ w ⟨rfl, hl0, H⟩ a hE
    try rw [← hl0] at hE
    refine WR.done rfl ?_
    refine Runs.sr ?_
    refine WR.seg hE 2 [] [0, 1, 2, 6, 7, 8] (Lo := [(0, .slice sb_data t_.length sc_data), (1, .int .i64 n), (2, .func (.func 260) #[] #[]), (6, .int .i64 20), (7, .int .i64 b), (8, .int .i64 b)]) (obs := []) rfl (by kernel_rfl) trivial fun a hE => ?_
    refine WR.done rfl ?_
    refine Runs.region ?_
    refine WR.e0 hE [(8, .int .i64 (w64 (b + 20)))] fun a hE => ?_
    refine Runs.inBlock ?_
    exact ih m (Nat.lt_succ_self m) _ _ ⟨b, w64 (b + 20), t_, hE.sel [0, 1, 2, 6, 7, 8] (by kernel_rfl), H, hm⟩
   ·replace hm := cond_f c hm
    refine Runs.exit rfl ?_
    cases hm
    exact hk _ _ ⟨hE.sel [0, 1, 2, 6, 7] (by kernel_rfl), H⟩
 rintro a w ⟨hE, H⟩
 refine Runs.sr ?_
 refine WR.seg hE 4 [] [0, 1, 2, 6, 23, 24, 25, 26] (Lo := [(0, .slice sb_data s.2.length sc_data), (1, .int .i64 n), (2, .func (.func 260) #[] #[]), (6, .int .i64 20), (23, .slice sb_data s.2.length sc_data), (24, .int .i64 s.1), (25, .int .i64 n), (26, .func (.func 260) #[] #[])]) (obs := []) rfl (by kernel_rfl) trivial fun a hE => ?_
 obtain ⟨t_1, et_1, hm⟩ := bind_some hm
 refine WR.eff hE rfl rfl rfl rfl (OpTo.fn hE rfl rfl Tryz.call302 (slices_insertionSortCmpFunc_trees_ranked_g260_ok et_1 H)) ?_
 rintro _ w ⟨rfl, hl0, H⟩ a hE
 try rw [← hl0] at hE
 refine WR.done rfl ?_
 obtain ⟨s1, es1, hm⟩ := bind_some hm
 refine Runs.join (fun a w => EnvOk 63 a [] ∧ St w0 (Sl 302 trees_ranked.enc 2 sb_data sc_data t_1 :: As) w) (fun hk => ?_) ?_
 ·replace hm := es1; clear es1
  refine Runs.block ?_
  refine Runs.loop (fun m a w => ∃ (blockSize : Int), EnvOk 63 a [(0, .slice sb_data t_1.length sc_data), (1, .int .i64 n), (2, .func (.func 260) #[] #[]), (6, .int .i64 blockSize)] ∧ St w0 (Sl 302 trees_ranked.enc 2 sb_data sc_data t_1 :: As) w ∧ slices_stableCmpFunc_trees_ranked_g260_l1 n t_1 m blockSize = some s1) k ⟨20, hE.sel [0, 1, 2, 6] (by kernel_rfl), H, hm⟩ ?_
  rintro m ih a w ⟨blockSize, hE, H, hm⟩
  cases m with
  | zero => simp [slices_stableCmpFunc_trees_ranked_g260_l1] at hm
  | succ m =>
   rw [slices_stableCmpFunc_trees_ranked_g260_l1] at hm
   refine Runs.seq ?_
   refine Runs.sr ?_
   refine WR.seg hE 3 [] [0, 1, 2, 6, 30] (Lo := [(0, .slice sb_data t_1.length sc_data), (1, .int .i64 n), (2, .func (.func 260) #[] #[]), (6, .int .i64 blockSize), (30, .bool (decide (blockSize < n)))]) (obs := []) rfl (by kernel_rfl) trivial fun a hE => ?_
   refine WR.done rfl ?_
   refine Runs.cond hE rfl (fun c => ?_) (fun c => ?_)
   ·replace hm := cond_t c hm
    refine Runs.skip ?_
    refine Runs.block ?_
    refine Runs.sr ?_
    refine WR.e0 hE [(7, .int .i64 0), (8, .int .i64 (w64 (2 * blockSize)))] fun a hE => ?_
    refine Runs.seq ?_
    obtain ⟨s2, es2, hm⟩ := bind_some hm
    refine Runs.join (fun a w => EnvOk 63 a [(0, .slice sb_data t_1.length sc_data), (1, .int .i64 n), (2, .func (.func 260) #[] #[]), (6, .int .i64 blockSize), (7, .int .i64 s2)] ∧ St w0 (Sl 302 trees_ranked.enc 2 sb_data sc_data t_1 :: As) w) (fun hk => ?_) ?_
    ·replace hm := es2; clear es2
     refine Runs.block ?_
     refine Runs.loop (fun m a w => ∃ (a_1 : Int), ∃ (b1 : Int), EnvOk 63 a [(0, .slice sb_data t_1.length sc_data), (1, .int .i64 n), (2, .func (.func 260) #[] #[]), (6, .int .i64 blockSize), (7, .int .i64 a_1), (8, .int .i64 b1)] ∧ St w0 (Sl 302 trees_ranked.enc 2 sb_data sc_data t_1 :: As) w ∧ slices_stableCmpFunc_trees_ranked_g260_l2 n blockSize t_1 m a_1 b1 = some s2) m ⟨0, w64 (2 * blockSize), hE.sel [0, 1, 2, 6, 7, 8] (by kernel_rfl), H, hm⟩ ?_
     rintro m ih a w ⟨a_1, b1, hE, H, hm⟩
     cases m with
     | zero => simp [slices_stableCmpFunc_trees_ranked_g260_l2] at hm
     | succ m =>
      rw [slices_stableCmpFunc_trees_ranked_g260_l2] at hm
      refine Runs.seq ?_
      refine Runs.sr ?_
      refine WR.seg hE 3 [] [0, 1, 2, 6, 7, 8, 35] (Lo := [(0, .slice sb_data t_1.length sc_data), (1, .int .i64 n), (2, .func (.func 260) #[] #[]), (6, .int .i64 blockSize), (7, .int .i64 a_1), (8, .int .i64 b1), (35, .bool (decide (b1 ≤ n)))]) (obs := []) rfl (by kernel_rfl) trivial fun a hE => ?_
      refine WR.done rfl ?_
      refine Runs.cond hE rfl (fun c => ?_) (fun c => ?_)
      ·replace hm := cond_t c hm
       refine Runs.skip ?_
       refine Runs.block ?_
       refine Runs.sr ?_
       cases hm
      ·replace hm := cond_f c hm
       refine Runs.exit rfl ?_
       cases hm
       exact hk _ _ ⟨hE.sel [0, 1, 2, 6, 7] (by kernel_rfl), H⟩
    rintro a w ⟨hE, H⟩
    refine Runs.seq ?_
    refine Runs.sr ?_
    refine WR.seg hE 4 [] [0, 1, 2, 6, 7, 9] (Lo := [(0, .slice sb_data t_1.length sc_data), (1, .int .i64 n), (2, .func (.func 260) #[] #[]), (6, .int .i64 blockSize), (7, .int .i64 s2), (9, .int .i64 (w64 (s2 + blockSize)))]) (obs := []) rfl (by kernel_rfl) trivial fun a hE => ?_
    refine WR.done rfl ?_
    refine Runs.sr ?_
    refine WR.e0 hE [(54, .bool (decide (w64 (s2 + blockSize) < n)))] fun a hE => ?_
    obtain ⟨s3, es3, hm⟩ := bind_some hm
    refine Runs.join (fun a w => EnvOk 63 a [(0, .slice sb_data t_1.length sc_data), (1, .int .i64 n), (2, .func (.func 260) #[] #[]), (6, .int .i64 blockSize)] ∧ St w0 (Sl 302 trees_ranked.enc 2 sb_data sc_data t_1 :: As) w) (fun hk => ?_) ?_
    ·replace hm := es3; clear es3
     refine Runs.cond hE rfl (fun c => ?_) (fun c => ?_)
     ·replace hm := cond_t c hm
      refine Runs.region ?_
      cases hm
     ·replace hm := cond_f c hm
      refine Runs.skip ?_
      cases hm
      exact hk _ _ ⟨hE.sel [0, 1, 2, 6] (by kernel_rfl), H⟩
    rintro a w ⟨hE, H⟩
    refine Runs.region ?_
    refine WR.seg hE 3 [] [0, 1, 2, 6] (Lo := [(0, .slice sb_data t_1.length sc_data), (1, .int .i64 n), (2, .func (.func 260) #[] #[]), (6, .int .i64 (w64 (blockSize * 2)))]) (obs := []) rfl (by kernel_rfl) trivial fun a hE => ?_
    refine WR.done rfl ?_
    refine Runs.inBlock ?_
    exact ih m (Nat.lt_succ_self m) _ _ ⟨w64 (blockSize * 2), hE.sel [0, 1, 2, 6] (by kernel_rfl), H, hm⟩
   ·replace hm := cond_f c hm
    refine Runs.exit rfl ?_
    cases hm
    exact hk _ _ ⟨hE.sel [] (by kernel_rfl), H⟩
 rintro a w ⟨hE, H⟩
 refine Runs.fin hE Tryz.func290 rfl rfl ?_
 obtain ⟨u, eu, hm⟩ := bind_some hm
 cases hm
 exact ⟨rfl, same_spec eu, H⟩

theorem slices_SortStableFunc_trees_ranked_g260_ok {w0 w : World} {As : List HP} {k : Nat} {sb_x : Option Addr} {sc_x : Nat} {x : List trees_ranked} {t : (List trees_ranked)}  (hm : slices_SortStableFunc_trees_ranked_g260 k x = some t) (H : St w0 (Sl 302 trees_ranked.enc 2 sb_x sc_x x :: As) w) :
    CallsR Tryz.prog 259 #[.slice sb_x x.length sc_x, .func (.func 260) #[] #[]] w fun v w' => v = .tuple #[] ∧ t.length = x.length ∧ St w0 (Sl 302 trees_ranked.enc 2 sb_x sc_x t :: As) w' := by
 rw [slices_SortStableFunc_trees_ranked_g260] at hm
 refine enter (args := [.slice sb_x x.length sc_x, .func (.func 260) #[] #[]]) Tryz.func259 rfl rfl rfl fun a hE => ?_
 refine Runs.region ?_
 refine WR.seg hE 4 [] [4, 6, 7] (Lo := [(4, .slice sb_x x.length sc_x), (6, .int .i64 (x.length : Int)), (7, .func (.func 260) #[] #[])]) (obs := []) rfl (by kernel_rfl) trivial fun a hE => ?_
 obtain ⟨t_, et_, hm⟩ := bind_some hm
 refine WR.eff hE rfl rfl rfl rfl (OpTo.fn hE rfl rfl Tryz.call290 (slices_stableCmpFunc_trees_ranked_g260_ok et_ H)) ?_
 rintro _ w ⟨rfl, hl0, H⟩ a hE
 try rw [← hl0] at hE
 refine WR.done rfl ?_
 refine Runs.fin hE Tryz.func259 rfl rfl ?_
 obtain ⟨u, eu, hm⟩ := bind_some hm
 cases hm
 exact ⟨rfl, same_spec eu, H⟩

theorem slices_Insert_trees_ranked_ok {w0 w : World} {As : List HP} {sb_s : Option Addr} {sc_s : Nat} {s : List trees_ranked} {X_s : HP} {i : Int} {sb_v_ : Option Addr} {sc_v_ : Nat} {v_ : List trees_ranked} {X_v_ : HP} {t : (List trees_ranked)} (hX_s : SlRd X_s trees_ranked.enc 2 sb_s s) (hC_s : s.length ≤ sc_s) (hX_v_ : SlRd X_v_ trees_ranked.enc 2 sb_v_ v_) (hC_v_ : v_.length ≤ sc_v_) (hm : slices_Insert_trees_ranked s i v_ = some t) (H : St w0 (X_s :: X_v_ :: As) w) :
    CallsR Tryz.prog 262 #[.slice sb_s s.length sc_s, .int .i64 i, .slice sb_v_ v_.length sc_v_] w fun v w' => ∃ (sb0 : Option Addr), ∃ (sc0 : Nat), v = .slice sb0 t.length sc0 ∧ St w0 (Sl 302 trees_ranked.enc 2 sb0 sc0 t :: X_s :: X_v_ :: As) w' := by
  rw [slices_Insert_trees_ranked] at hm
  cases hm

theorem trees_Row_ok {w0 w : World} {As : List HP} {k : Nat} {p_a_ : Nat} {al_a_ : arena_Arena.A} {a_ : arena_Arena} {sb_l : Option Addr} {sc_l : Nat} {l : List Int} {X_l : HP} {t : Int × arena_Arena} (hX_l : SlRd X_l ecI 1 sb_l l) (hC_l : l.length ≤ sc_l) (hm : trees_Row k a_ l = some t) (H : St w0 (arena_Arena.R p_a_ al_a_ a_ :: X_l :: As) w) :
    CallsR Tryz.prog 263 #[.pointer (some ⟨p_a_, 0, none⟩), .slice sb_l l.length sc_l] w fun v w' => v = .int .i64 t.1 ∧ St w0 (arena_Arena.R p_a_ al_a_ t.2 :: X_l :: As) w' := by
 rw [trees_Row] at hm
 refine enter (args := [.pointer (some ⟨p_a_, 0, none⟩), .slice sb_l l.length sc_l]) Tryz.func263 rfl rfl rfl fun a hE => ?_
 refine Runs.sr ?_
 refine WR.seg hE 1 [] [0, 1] (Lo := [(0, .pointer (some ⟨p_a_, 0, none⟩)), (1, .slice sb_l l.length sc_l)]) (obs := []) rfl (by kernel_rfl) trivial fun a hE => ?_
 refine WR.done rfl ?_
 refine Runs.sr ?_
 refine WR.e0 hE [(5, .int .i64 (-1))] fun a hE => ?_
 refine Runs.seq ?_
 refine Runs.sr ?_
 refine WR.e0 hE [(6, .int .i64 (w64 ((l.length : Int) - 1)))] fun a hE => ?_
 obtain ⟨s, es, hm⟩ := bind_some hm
 refine Runs.join (fun a w => EnvOk 32 a [(5, .int .i64 s.1)] ∧ St w0 (arena_Arena.R p_a_ al_a_ s.2 :: X_l :: As) w) (fun hk => ?_) ?_
 ·replace hm := es; clear es
  refine Runs.block ?_
  refine Runs.loop (fun m a w => ∃ (next : Int), ∃ (k_ : Int), ∃ (m_ : arena_Arena), EnvOk 32 a [(0, .pointer (some ⟨p_a_, 0, none⟩)), (1, .slice sb_l l.length sc_l), (5, .int .i64 next), (6, .int .i64 k_)] ∧ St w0 (arena_Arena.R p_a_ al_a_ m_ :: X_l :: As) w ∧ trees_Row_l0 l m next k_ m_ = some s) k ⟨(-1), w64 ((l.length : Int) - 1), a_, hE.sel [0, 1, 5, 6] (by kernel_rfl), H.t1.t1, hm⟩ ?_
  rintro m ih a w ⟨next, k_, m_, hE, H, hm⟩
  cases m with
  | zero => simp [trees_Row_l0] at hm
  | succ m =>
   rw [trees_Row_l0] at hm
   refine Runs.seq ?_
   refine Runs.sr ?_
   refine WR.seg hE 2 [] [0, 1, 5, 6, 11] (Lo := [(0, .pointer (some ⟨p_a_, 0, none⟩)), (1, .slice sb_l l.length sc_l), (5, .int .i64 next), (6, .int .i64 k_), (11, .bool (decide (k_ ≥ 0)))]) (obs := []) rfl (by kernel_rfl) trivial fun a hE => ?_
   refine WR.done rfl ?_
   refine Runs.cond hE rfl (fun c => ?_) (fun c => ?_)
   ·replace hm := cond_t c hm
    refine Runs.skip ?_
    refine Runs.seq ?_
    refine Runs.block ?_
    refine Runs.sr ?_
    obtain ⟨x, ex, hm⟩ := bind_some hm
    obtain ⟨b, o, hs, hb⟩ := SlRd.base hX_l ecI_ok H 1 rfl ex
    refine WR.d hE 6 [.pointer (some ⟨b, o, none⟩), .int .i64 x] [(14, .pointer (some ⟨p_a_, 0, none⟩)), (18, .int .i64 x), (19, .int .i64 next)] (obs := [.p ((sb_l : Option Addr) = some ⟨b, o, none⟩), .p (0 ≤ (k_ : Int) ∧ (k_ : Int) < ((l.length : Nat) : Int)), .cell ⟨b, o + (Int.toNat k_) * 1, none⟩ (.int .i64 x)]) ⟨hs, hb, SlRd.cells hX_l ecI_ok H 1 rfl hs ex 0 _ rfl, trivial⟩ fun a hE => ?_
    obtain ⟨t_, et_, hm⟩ := bind_some hm
    refine WR.eff hE rfl rfl rfl rfl (OpTo.fn hE rfl rfl Tryz.call152 (arena_Arena_Set_ok et_ H)) ?_
    rintro _ w ⟨rfl, hf, H⟩ a hE
    refine WR.done rfl ?_
    refine Runs.sr ?_
    obtain ⟨x1, ex1, hm⟩ := bind_some hm
    obtain ⟨b1, o1, hs1, hb1⟩ := SlRd.base hX_l ecI_ok H 1 rfl ex1
    refine WR.d hE 5 [.pointer (some ⟨b1, o1, none⟩), .int .i64 x1] [(21, .pointer (some ⟨p_a_, 0, none⟩)), (25, .int .i64 x1)] (obs := [.p ((sb_l : Option Addr) = some ⟨b1, o1, none⟩), .p (0 ≤ (k_ : Int) ∧ (k_ : Int) < ((l.length : Nat) : Int)), .cell ⟨b1, o1 + (Int.toNat k_) * 1, none⟩ (.int .i64 x1)]) ⟨hs1, hb1, SlRd.cells hX_l ecI_ok H 1 rfl hs1 ex1 0 _ rfl, trivial⟩ fun a hE => ?_
    obtain ⟨t_1, et_1, hm⟩ := bind_some hm
    refine WR.eff hE rfl rfl rfl rfl (OpTo.fn hE rfl rfl Tryz.call152 (arena_Arena_Set_ok et_1 H)) ?_
    rintro _ w ⟨rfl, hf1, H⟩ a hE
    refine WR.done rfl ?_
    refine Runs.region ?_
    obtain ⟨x2, ex2, hm⟩ := bind_some hm
    obtain ⟨b2, o2, hs2, hb2⟩ := SlRd.base hX_l ecI_ok H 1 rfl ex2
    refine WR.e hE [.pointer (some ⟨b2, o2, none⟩), .int .i64 x2] [(5, .int .i64 x2)] (obs := [.p ((sb_l : Option Addr) = some ⟨b2, o2, none⟩), .p (0 ≤ (k_ : Int) ∧ (k_ : Int) < ((l.length : Nat) : Int)), .cell ⟨b2, o2 + (Int.toNat k_) * 1, none⟩ (.int .i64 x2)]) ⟨hs2, hb2, SlRd.cells hX_l ecI_ok H 1 rfl hs2 ex2 0 _ rfl, trivial⟩ fun a hE => ?_
    refine Runs.inBlock ?_
    refine Runs.region ?_
    refine WR.e0 hE [(6, .int .i64 (w64 (k_ - 1)))] fun a hE => ?_
    exact ih m (Nat.lt_succ_self m) _ _ ⟨x2, w64 (k_ - 1), t_1.2, hE.sel [0, 1, 5, 6] (by kernel_rfl), H.t1.t1, hm⟩
   ·replace hm := cond_f c hm
    refine Runs.exit rfl ?_
    cases hm
    exact hk _ _ ⟨hE.sel [5] (by kernel_rfl), H.t1.t1⟩
 rintro a w ⟨hE, H⟩
 refine Runs.sr ?_
 refine WR.seg hE 2 [] [4] (Lo := [(4, .int .i64 s.1)]) (obs := []) rfl (by kernel_rfl) trivial fun a hE => ?_
 refine WR.done rfl ?_
 refine Runs.ret hE Tryz.func263 rfl rfl ?_
 cases hm
 exact ⟨rfl, H.t1.t1⟩

theorem trees_Carry_ok {w0 w : World} {As : List HP} {k : Nat} {p_a_ : Nat} {al_a_ : arena_Arena.A} {a_ : arena_Arena} {sb_l : Option Addr} {sc_l : Nat} {l : List Int} {X_l : HP} {t : Int × arena_Arena} (hX_l : SlRd X_l ecI 1 sb_l l) (hC_l : l.length ≤ sc_l) (hm : trees_Carry k a_ l = some t) (H : St w0 (arena_Arena.R p_a_ al_a_ a_ :: X_l :: As) w) :
    CallsR Tryz.prog 218 #[.pointer (some ⟨p_a_, 0, none⟩), .slice sb_l l.length sc_l] w fun v w' => v = .int .i64 t.1 ∧ St w0 (arena_Arena.R p_a_ al_a_ t.2 :: X_l :: As) w' := by
 rw [trees_Carry] at hm
 refine enter (args := [.pointer (some ⟨p_a_, 0, none⟩), .slice sb_l l.length sc_l]) Tryz.func218 rfl rfl rfl fun a hE => ?_
 refine Runs.sr ?_
 refine WR.seg hE 1 [] [0, 1] (Lo := [(0, .pointer (some ⟨p_a_, 0, none⟩)), (1, .slice sb_l l.length sc_l)]) (obs := []) rfl (by kernel_rfl) trivial fun a hE => ?_
 refine WR.done rfl ?_
 refine Runs.sr ?_
 refine WR.e0 hE [(5, .slice none 0 0)] fun a hE => ?_
 refine Runs.seq ?_
 refine Runs.sr ?_
 refine WR.e0 hE [(12, .slice sb_l l.length sc_l), (13, .int .i64 (l.length : Int)), (14, .int .i64 0)] fun a hE => ?_
 obtain ⟨s, es, hm⟩ := bind_some hm
 refine Runs.join (fun a w => ∃ (sb1 : Option Addr), ∃ (sc1 : Nat), EnvOk 94 a [(0, .pointer (some ⟨p_a_, 0, none⟩)), (5, .slice sb1 s.1.length sc1)] ∧ St w0 (Sl 302 trees_ranked.enc 2 sb1 sc1 s.1 :: arena_Arena.R p_a_ al_a_ s.2 :: X_l :: As) w) (fun hk => ?_) ?_
 ·replace hm := es; clear es
  replace H := H.slNil 302 trees_ranked.enc 2
  refine Runs.block ?_
  refine Runs.loop (fun m a w => ∃ (wait : List trees_ranked), ∃ (x : Int), ∃ (m_ : arena_Arena), ∃ (sb2 : Option Addr), ∃ (sc2 : Nat), EnvOk 94 a [(0, .pointer (some ⟨p_a_, 0, none⟩)), (5, .slice sb2 wait.length sc2), (12, .slice sb_l l.length sc_l), (13, .int .i64 (l.length : Int)), (14, .int .i64 x)] ∧ St w0 (Sl 302 trees_ranked.enc 2 sb2 sc2 wait :: arena_Arena.R p_a_ al_a_ m_ :: X_l :: As) w ∧ trees_Carry_l0 (l.length : Int) l m wait x m_ = some s) k ⟨([] : List trees_ranked), 0, a_, none, 0, hE.sel [0, 5, 12, 13, 14] (by kernel_rfl), H.t2.t2.t2, hm⟩ ?_
  rintro m ih a w ⟨wait, x, m_, sb2, sc2, hE, H, hm⟩
  cases m with
  | zero => simp [trees_Carry_l0] at hm
  | succ m =>
   rw [trees_Carry_l0] at hm
   refine Runs.sr ?_
   refine WR.seg hE 1 [] [0, 5, 12, 13, 14, 15] (Lo := [(0, .pointer (some ⟨p_a_, 0, none⟩)), (5, .slice sb2 wait.length sc2), (12, .slice sb_l l.length sc_l), (13, .int .i64 (l.length : Int)), (14, .int .i64 x), (15, .bool (decide (x < (l.length : Int))))]) (obs := []) rfl (by kernel_rfl) trivial fun a hE => ?_
   refine WR.done rfl ?_
   refine Runs.seq ?_
   refine Runs.cond hE rfl (fun c => ?_) (fun c => ?_)
   ·replace hm := cond_t c hm
    refine Runs.skip ?_
    refine Runs.seq ?_
    refine Runs.block ?_
    refine Runs.sr ?_
    obtain ⟨x2, ex2, hm⟩ := bind_some hm
    obtain ⟨b, o, hs, hb⟩ := SlRd.base hX_l ecI_ok H 2 rfl ex2
    refine WR.e hE [.pointer (some ⟨b, o, none⟩), .int .i64 x2] [(7, .int .i64 x2)] (obs := [.p ((sb_l : Option Addr) = some ⟨b, o, none⟩), .p (0 ≤ (x : Int) ∧ (x : Int) < ((l.length : Nat) : Int)), .cell ⟨b, o + (Int.toNat x) * 1, none⟩ (.int .i64 x2)]) ⟨hs, hb, SlRd.cells hX_l ecI_ok H 2 rfl hs ex2 0 _ rfl, trivial⟩ fun a hE => ?_
    refine Runs.region ?_
    refine WR.d0 hE 4 [(18, .slice sb2 wait.length sc2), (19, .int .i64 x2), (20, .pointer (some ⟨p_a_, 0, none⟩)), (21, .int .i64 x2)] fun a hE => ?_
    obtain ⟨t_, et_, hm⟩ := bind_some hm
    refine WR.eff hE rfl rfl rfl rfl (OpTo.fn hE rfl rfl Tryz.call174 (arena_Arena_Get_ok et_ H.t1)) ?_
    rintro _ w ⟨rfl, hf1, hf, H⟩ a hE
    refine WR.d0 hE 6 [(23, .agg #[.int .i64 x2, .int .i64 t_.1])] fun a hE => ?_
    refine WR.eff hE rfl rfl rfl rfl (OpTo.buildSl (T := 302) hE H trees_ranked.enc_ok ([trees_ranked.mk x2 t_.1] : List trees_ranked) rfl (fun _ => by kernel_rfl) rfl rfl rfl) ?_
    rintro _ w ⟨r, rfl, H⟩ a hE
    obtain ⟨l2, el2, hm⟩ := bind_some hm
    replace H := H.t2
    refine WR.eff hE rfl rfl rfl rfl (OpTo.appendM el2 hE H trees_ranked.enc_ok rfl rfl rfl rfl rfl rfl rfl rfl rfl rfl (SlRd.all (sl_rd 302 trees_ranked.enc 2 _ _ _) trees_ranked.enc_ok H 1 rfl) rfl) ?_
    rintro _ w ⟨sb3, sc3, rfl, H⟩ a hE
    refine WR.e0 hE [(5, .slice sb3 l2.length sc3)] fun a hE => ?_
    refine Runs.inBlock ?_
    refine Runs.region ?_
    refine WR.e0 hE [(14, .int .i64 (w64 (x + 1)))] fun a hE => ?_
    exact ih m (Nat.lt_succ_self m) _ _ ⟨l2, w64 (x + 1), t_.2, sb3, sc3, hE.sel [0, 5, 12, 13, 14] (by kernel_rfl), H.x1.t2.t2.t2, hm⟩
   ·replace hm := cond_f c hm
    refine Runs.exit rfl ?_
    cases hm
    exact hk _ _ ⟨sb2, sc2, hE.sel [0, 5] (by kernel_rfl), H.t2.t2.t2⟩
 rintro a w ⟨sb1, sc1, hE, H⟩
 refine Runs.sr ?_
 refine WR.seg hE 1 [] [0, 5, 27] (Lo := [(0, .pointer (some ⟨p_a_, 0, none⟩)), (5, .slice sb1 s.1.length sc1), (27, .slice sb1 s.1.length sc1)]) (obs := []) rfl (by kernel_rfl) trivial fun a hE => ?_
 obtain ⟨t_1, et_1, hm⟩ := bind_some hm
 refine WR.eff hE rfl rfl rfl rfl (OpTo.fn hE rfl rfl Tryz.call259 (slices_SortStableFunc_trees_ranked_g260_ok et_1 H)) ?_
 rintro _ w ⟨rfl, hl0, H⟩ a hE
 try rw [← hl0] at hE
 refine WR.done rfl ?_
 refine Runs.sr ?_
 refine WR.seg hE 1 [] [0, 5, 8] (Lo := [(0, .pointer (some ⟨p_a_, 0, none⟩)), (5, .slice sb1 t_1.length sc1), (8, .slice none 0 0)]) (obs := []) rfl (by kernel_rfl) trivial fun a hE => ?_
 refine WR.done rfl ?_
 refine Runs.seq ?_
 obtain ⟨s1, es1, hm⟩ := bind_some hm
 refine Runs.join (fun a w => ∃ (sb6 : Option Addr), ∃ (sc6 : Nat), EnvOk 94 a [(0, .pointer (some ⟨p_a_, 0, none⟩)), (8, .slice sb6 s1.1.length sc6)] ∧ St w0 (Sl 3 ecI 1 sb6 sc6 s1.1 :: arena_Arena.R p_a_ al_a_ s1.2 :: X_l :: As) w) (fun hk => ?_) ?_
 ·replace hm := es1; clear es1
  replace H := H.slNil 3 ecI 1
  refine Runs.block ?_
  refine Runs.loop (fun m a w => ∃ (wait1 : List trees_ranked), ∃ (out : List Int), ∃ (m_1 : arena_Arena), ∃ (sb7 : Option Addr), ∃ (sc7 : Nat), ∃ (sb8 : Option Addr), ∃ (sc8 : Nat), EnvOk 94 a [(0, .pointer (some ⟨p_a_, 0, none⟩)), (5, .slice sb7 wait1.length sc7), (8, .slice sb8 out.length sc8)] ∧ St w0 (Sl 302 trees_ranked.enc 2 sb7 sc7 wait1 :: Sl 3 ecI 1 sb8 sc8 out :: arena_Arena.R p_a_ al_a_ m_1 :: X_l :: As) w ∧ trees_Carry_l1 l m wait1 out m_1 = some s1) k ⟨t_1, ([] : List Int), s.2, sb1, sc1, none, 0, hE.sel [0, 5, 8] (by kernel_rfl), H.t3.t3.t2.t3, hm⟩ ?_
  rintro m ih a w ⟨wait1, out, m_1, sb7, sc7, sb8, sc8, hE, H, hm⟩
  cases m with
  | zero => simp [trees_Carry_l1] at hm
  | succ m =>
   rw [trees_Carry_l1] at hm
   refine Runs.seq ?_
   refine Runs.sr ?_
   refine WR.seg hE 3 [] [0, 5, 8, 31] (Lo := [(0, .pointer (some ⟨p_a_, 0, none⟩)), (5, .slice sb7 wait1.length sc7), (8, .slice sb8 out.length sc8), (31, .bool (decide ((wait1.length : Int) > 0)))]) (obs := []) rfl (by kernel_rfl) trivial fun a hE => ?_
   refine WR.done rfl ?_
   refine Runs.cond hE rfl (fun c => ?_) (fun c => ?_)
   ·replace hm := cond_t c hm
    refine Runs.skip ?_
    refine Runs.block ?_
    refine Runs.sr ?_
    obtain ⟨x3, ex3, hm⟩ := bind_some hm
    obtain ⟨b1, o1, hs1, hb1⟩ := SlRd.base (sl_rd 302 trees_ranked.enc 2 _ _ _) trees_ranked.enc_ok H 0 rfl ex3
    refine WR.d hE 3 [.pointer (some ⟨b1, o1, none⟩), .int .i64 x3.n, .int .i64 x3.rank] [(34, .agg #[.int .i64 x3.n, .int .i64 x3.rank])] (obs := [.p ((sb7 : Option Addr) = some ⟨b1, o1, none⟩), .p (0 ≤ (0 : Int) ∧ (0 : Int) < ((wait1.length : Nat) : Int)), .cell ⟨b1, o1 + (Int.toNat 0) * 2, none⟩ (.int .i64 x3.n), .cell ⟨b1, o1 + (Int.toNat 0) * 2 + 1, none⟩ (.int .i64 x3.rank)]) ⟨hs1, hb1, SlRd.cells (sl_rd 302 trees_ranked.enc 2 _ _ _) trees_ranked.enc_ok H 0 rfl hs1 ex3 0 _ rfl, SlRd.cells (sl_rd 302 trees_ranked.enc 2 _ _ _) trees_ranked.enc_ok H 0 rfl hs1 ex3 1 _ rfl, trivial⟩ fun a hE => ?_
    refine WR.eff hE rfl rfl rfl rfl (OpTo.new hE H [] (.cells #[.int .i64 0, .int .i64 0] 302 (0, 0)) (fun r => .pointer (some ⟨r, 0, none⟩)) (obs := []) rfl (fun _ => by kernel_rfl) trivial) ?_
    rintro _ w ⟨r1, rfl, H⟩ a hE
    refine WR.eff0 hE rfl rfl rfl (OpTo.store hE H rfl rfl rfl rfl rfl rfl (Nat.le_of_ble_eq_true rfl)) ?_
    rintro _ w H a hE
    refine WR.done rfl ?_
    refine Runs.seq ?_
    refine Runs.seq ?_
    obtain ⟨s2, es2, hm⟩ := bind_some hm
    refine Runs.join (fun a w => EnvOk 94 a [(0, .pointer (some ⟨p_a_, 0, none⟩)), (5, .slice sb7 wait1.length sc7), (8, .slice sb8 out.length sc8), (9, .pointer (some ⟨r1, 0, none⟩)), (46, .bool s2)] ∧ St w0 (Blk r1 302 [.int .i64 x3.n, .int .i64 x3.rank] :: Sl 302 trees_ranked.enc 2 sb7 sc7 wait1 :: Sl 3 ecI 1 sb8 sc8 out :: arena_Arena.R p_a_ al_a_ m_1 :: X_l :: As) w) (fun hk => ?_) ?_
    ·replace hm := es2; clear es2
     refine Runs.drawn mixed (by kernel_rfl) ?_
     replace H := H.drew
     refine WQ.d0 hE [0, 1, 2, 3] [(38, .bool ((wait1.length : Int) == 1))] fun a hE => ?_
     rcases Bool.eq_false_or_eq_true ((wait1.length : Int) == 1) with c | c
     ·replace hE := hE.dec 38 c (by kernel_rfl)
      replace hm := cond_t c hm
      have c_ := c
      refine WQ.d0 hE [4, 5, 6, 7, 8, 9, 10, 11] [(46, .bool true)] fun a hE => ?_
      refine WQ.done (by kernel_rfl) ?_
      cases hm
      exact hk _ _ ⟨hE.sel [0, 5, 8, 9, 46] (by kernel_rfl), H.t4.t4.t4.t4.t4⟩
     ·replace hE := hE.dec 38 c (by kernel_rfl)
      replace hm := cond_f c hm
      have c_1 := c
      obtain ⟨x5, ex5, hm⟩ := bind_some hm
      obtain ⟨b3, o3, hs3, hb3⟩ := SlRd.base (sl_rd 302 trees_ranked.enc 2 _ _ _) trees_ranked.enc_ok H 1 rfl ex5
      refine WQ.d hE [4, 5, 6, 7, 8, 9, 10, 11] [.pointer (some ⟨b3, o3, none⟩), .int .i64 x5.rank, .int .i64 x3.rank] [(46, .bool (x5.rank != x3.rank))] (obs := [.p ((sb7 : Option Addr) = some ⟨b3, o3, none⟩), .p (0 ≤ (1 : Int) ∧ (1 : Int) < ((wait1.length : Nat) : Int)), .cell ⟨b3, o3 + (Int.toNat 1) * 2 + 1, none⟩ (.int .i64 x5.rank), .cell ⟨r1, 1, none⟩ (.int .i64 x3.rank)]) ⟨hs3, hb3, SlRd.cells (sl_rd 302 trees_ranked.enc 2 _ _ _) trees_ranked.enc_ok H 1 rfl hs3 ex5 1 _ rfl, H.cell 0 rfl rfl, trivial⟩ fun a hE => ?_
      refine WQ.done (by kernel_rfl) ?_
      cases hm
      exact hk _ _ ⟨hE.sel [0, 5, 8, 9, 46] (by kernel_rfl), H.t4.t4.t4.t4.t4⟩
    rintro a w ⟨hE, H⟩
    refine Runs.cond hE rfl (fun c => ?_) (fun c => ?_)
    ·replace hm := cond_t c hm
     refine Runs.seq ?_
     refine Runs.drawn mixed (by kernel_rfl) ?_
     replace H := H.drew
     obtain ⟨l4, el4, hm⟩ := bind_some hm
     obtain ⟨sb9, q1⟩ : ∃ z, rebase sb7 sc7 (Int.toNat 1) 2 = z := ⟨_, rfl⟩
     obtain ⟨sc9, q2⟩ : ∃ z, sc7 - (Int.toNat 1) = z := ⟨_, rfl⟩
     refine WQ.seg hE [0, 1, 2, 5, 6] [.int .i64 x3.n, .slice sb9 l4.length sc9] [0, 5, 8, 47, 49, 53] (Lo := [(0, .pointer (some ⟨p_a_, 0, none⟩)), (5, .slice sb7 wait1.length sc7), (8, .slice sb8 out.length sc8), (47, .slice sb8 out.length sc8), (49, .int .i64 x3.n), (53, .slice sb9 l4.length sc9)]) (obs := [.cell ⟨r1, 0, none⟩ (.int .i64 x3.n), .p (rebase sb7 sc7 (Int.toNat 1) 2 = sb9), .p (wait1.length - (Int.toNat 1) = l4.length), .p (sc7 - (Int.toNat 1) = sc9), .p (0 ≤ (1 : Int) ∧ (1 : Int) ≤ ((wait1.length : Nat) : Int))]) (by kernel_rfl) (by kernel_rfl) ⟨H.cell 0 rfl rfl, q1, cut_len el4, q2, cut_bd0 el4, trivial⟩ fun a hE => ?_
     refine WQ.eff (j := 3) (obs := [.p (rebase sb7 sc7 (Int.toNat 1) 2 = sb9), .p (wait1.length - (Int.toNat 1) = l4.length), .p (sc7 - (Int.toNat 1) = sc9), .p (0 ≤ (1 : Int) ∧ (1 : Int) ≤ ((wait1.length : Nat) : Int))]) hE (by kernel_rfl) rfl rfl rfl rfl (by kernel_rfl) (OpTo.buildSl (T := 3) hE H ecI_ok ([x3.n] : List Int) rfl (fun _ => by kernel_rfl) rfl rfl rfl) ?_
     rintro _ w ⟨r2, rfl, H⟩
     refine ⟨⟨q1, cut_len el4, q2, cut_bd0 el4, trivial⟩, fun a hE => ?_⟩
     obtain ⟨l5, el5, hm⟩ := bind_some hm
     replace H := H.t3
     refine WQ.eff (j := 4) (obs := [.p (rebase sb7 sc7 (Int.toNat 1) 2 = sb9), .p (wait1.length - (Int.toNat 1) = l4.length), .p (sc7 - (Int.toNat 1) = sc9), .p (0 ≤ (1 : Int) ∧ (1 : Int) ≤ ((wait1.length : Nat) : Int))]) hE (by kernel_rfl) rfl rfl rfl rfl (by kernel_rfl) (OpTo.appendM el5 hE H ecI_ok rfl rfl rfl rfl rfl rfl rfl rfl rfl rfl (SlRd.all (sl_rd 3 ecI 1 _ _ _) ecI_ok H 1 rfl) rfl) ?_
     rintro _ w ⟨sb10, sc10, rfl, H⟩
     refine ⟨⟨q1, cut_len el4, q2, cut_bd0 el4, trivial⟩, fun a hE => ?_⟩
     refine WQ.d0 hE [7, 8] [(5, .slice sb9 l4.length sc9), (8, .slice sb10 l5.length sc10)] fun a hE => ?_
     refine WQ.done (by kernel_rfl) ?_
     refine Runs.exit rfl ?_
     replace H := H.t3.slCut' trees_ranked.enc_ok el4 q1 q2
     exact ih m (Nat.lt_succ_self m) _ _ ⟨l4, l5, m_1, sb9, sc9, sb10, sc10, hE.sel [0, 5, 8] (by kernel_rfl), H.x3.x2.t3.t3.t3.t3, hm⟩
    ·replace hm := cond_f c hm
     refine Runs.skip ?_
     refine Runs.seq ?_
     obtain ⟨x6, ex6, hm⟩ := bind_some hm
     obtain ⟨t_2, et_2, hm⟩ := bind_some hm
     refine Runs.join (fun a w => ∃ (r4 : Nat), EnvOk 94 a [(0, .pointer (some ⟨p_a_, 0, none⟩)), (5, .slice sb7 wait1.length sc7), (8, .slice sb8 out.length sc8), (10, .pointer (some ⟨r4, 0, none⟩))] ∧ St w0 (Blk r4 302 [.int .i64 ((trees_ranked.mk t_2.1 (w64 (x3.rank + 1))).n), .int .i64 ((trees_ranked.mk t_2.1 (w64 (x3.rank + 1))).rank)] :: Sl 302 trees_ranked.enc 2 sb7 sc7 wait1 :: Sl 3 ecI 1 sb8 sc8 out :: arena_Arena.R p_a_ al_a_ t_2.2 :: X_l :: As) w) (fun hk => ?_) ?_
     ·refine Runs.drawn mixed (by kernel_rfl) ?_
      replace H := H.drew
      obtain ⟨b5, o5, hs5, hb5⟩ := SlRd.base (sl_rd 302 trees_ranked.enc 2 _ _ _) trees_ranked.enc_ok H 1 rfl ex6
      refine WQ.seg hE [0, 1, 2, 3, 4, 5, 6, 7, 8, 10, 11, 12] [.int .i64 x3.n, .pointer (some ⟨b5, o5, none⟩), .int .i64 x6.n, .int .i64 x3.rank, .int .i64 x3.rank] [0, 5, 8, 54, 56, 60, 62, 66] (Lo := [(0, .pointer (some ⟨p_a_, 0, none⟩)), (5, .slice sb7 wait1.length sc7), (8, .slice sb8 out.length sc8), (54, .pointer (some ⟨p_a_, 0, none⟩)), (56, .int .i64 x3.n), (60, .int .i64 x6.n), (62, .int .i64 x3.rank), (66, .int .i64 (w64 (x3.rank + 1)))]) (obs := [.cell ⟨r1, 0, none⟩ (.int .i64 x3.n), .p ((sb7 : Option Addr) = some ⟨b5, o5, none⟩), .p (0 ≤ (1 : Int) ∧ (1 : Int) < ((wait1.length : Nat) : Int)), .cell ⟨b5, o5 + (Int.toNat 1) * 2, none⟩ (.int .i64 x6.n), .cell ⟨r1, 1, none⟩ (.int .i64 x3.rank), .cell ⟨r1, 1, none⟩ (.int .i64 x3.rank)]) (by kernel_rfl) (by kernel_rfl) ⟨H.cell 0 rfl rfl, hs5, hb5, SlRd.cells (sl_rd 302 trees_ranked.enc 2 _ _ _) trees_ranked.enc_ok H 1 rfl hs5 ex6 0 _ rfl, H.cell 0 rfl rfl, H.cell 0 rfl rfl, trivial⟩ fun a hE => ?_
      refine WQ.act2 9 14 (by kernel_rfl) ?_ ?_
      ·refine AQ.eff (j := 9) (obs := [.cell ⟨r1, 1, none⟩ (.int .i64 x3.rank)]) hE rfl rfl rfl rfl (by kernel_rfl) (OpTo.fn hE rfl rfl Tryz.call261 (trees_Link_ok et_2 H.t3)) ?_
       rintro _ w ⟨rfl, H⟩
       refine ⟨⟨H.cell 1 rfl rfl, trivial⟩, fun a hE => ?_⟩
       refine WQ.d0 hE [13] [(67, .agg #[.int .i64 t_2.1, .int .i64 (w64 (x3.rank + 1))])] fun a hE => ?_
       refine WQ.eff (j := 14) (obs := [.cell ⟨r1, 1, none⟩ (.int .i64 x3.rank)]) hE (by kernel_rfl) rfl rfl rfl rfl (by kernel_rfl) (OpTo.new hE H [] (.cells #[.int .i64 0, .int .i64 0] 302 (0, 0)) (fun r => .pointer (some ⟨r, 0, none⟩)) (obs := []) rfl (fun _ => by kernel_rfl) trivial) ?_
       rintro _ w ⟨r5, rfl, H⟩
       refine ⟨⟨H.cell 2 rfl rfl, trivial⟩, fun a hE => ?_⟩
       refine WQ.eff0 (j := 15) (obs := []) hE (by kernel_rfl) rfl rfl rfl (by kernel_rfl) (OpTo.store hE H rfl rfl rfl rfl rfl rfl (Nat.le_of_ble_eq_true rfl)) ?_
       rintro _ w H
       refine ⟨trivial, fun a hE => ?_⟩
       refine WQ.done (by kernel_rfl) ?_
       exact hk _ _ ⟨r5, hE.sel [0, 5, 8, 10] (by kernel_rfl), H.x2.t4.t2.t4.t4.t4⟩
      ·refine AQ.eff (j := 14) (obs := [.cell ⟨r1, 1, none⟩ (.int .i64 x3.rank), .cell ⟨r1, 1, none⟩ (.int .i64 x3.rank), .cell ⟨b5, o5 + (Int.toNat 1) * 2, none⟩ (.int .i64 x6.n), .p ((sb7 : Option Addr) = some ⟨b5, o5, none⟩), .p (0 ≤ (1 : Int) ∧ (1 : Int) < ((wait1.length : Nat) : Int)), .cell ⟨r1, 0, none⟩ (.int .i64 x3.n)]) hE rfl rfl rfl rfl (by kernel_rfl) (OpTo.new hE H [] (.cells #[.int .i64 0, .int .i64 0] 302 (0, 0)) (fun r => .pointer (some ⟨r, 0, none⟩)) (obs := []) rfl (fun _ => by kernel_rfl) trivial) ?_
       rintro _ w ⟨r6, rfl, H⟩
       refine ⟨⟨H.cell 1 rfl rfl, H.cell 1 rfl rfl, SlRd.cells (sl_rd 302 trees_ranked.enc 2 _ _ _) trees_ranked.enc_ok H 2 rfl hs5 ex6 0 _ rfl, hs5, hb5, H.cell 1 rfl rfl, trivial⟩, fun a hE => ?_⟩
       refine WQ.eff (j := 9) (obs := [.cell ⟨r1, 1, none⟩ (.int .i64 x3.rank)]) hE (by kernel_rfl) rfl rfl rfl rfl (by kernel_rfl) (OpTo.fn hE rfl rfl Tryz.call261 (trees_Link_ok et_2 H.t4)) ?_
       rintro _ w ⟨rfl, H⟩
       refine ⟨⟨H.cell 2 rfl rfl, trivial⟩, fun a hE => ?_⟩
       refine WQ.d0 hE [13] [(67, .agg #[.int .i64 t_2.1, .int .i64 (w64 (x3.rank + 1))])] fun a hE => ?_
       refine WQ.eff0 (j := 15) (obs := []) hE (by kernel_rfl) rfl rfl rfl (by kernel_rfl) (OpTo.store hE H.t1 rfl rfl rfl rfl rfl rfl (Nat.le_of_ble_eq_true rfl)) ?_
       rintro _ w H
       refine ⟨trivial, fun a hE => ?_⟩
       refine WQ.done (by kernel_rfl) ?_
       exact hk _ _ ⟨r6, hE.sel [0, 5, 8, 10] (by kernel_rfl), H.x2.t4.t2.t4.t4.t4⟩
     rintro a w ⟨r4, hE, H⟩
     refine Runs.sr ?_
     obtain ⟨l6, el6, hm⟩ := bind_some hm
     obtain ⟨sb11, q4⟩ : ∃ z, rebase sb7 sc7 (Int.toNat 2) 2 = z := ⟨_, rfl⟩
     obtain ⟨sc11, q5⟩ : ∃ z, sc7 - (Int.toNat 2) = z := ⟨_, rfl⟩
     refine WR.seg hE 3 [.slice sb11 l6.length sc11] [0, 5, 8, 10] (Lo := [(0, .pointer (some ⟨p_a_, 0, none⟩)), (5, .slice sb11 l6.length sc11), (8, .slice sb8 out.length sc8), (10, .pointer (some ⟨r4, 0, none⟩))]) (obs := [.p (rebase sb7 sc7 (Int.toNat 2) 2 = sb11), .p (wait1.length - (Int.toNat 2) = l6.length), .p (sc7 - (Int.toNat 2) = sc11), .p (0 ≤ (2 : Int) ∧ (2 : Int) ≤ ((wait1.length : Nat) : Int))]) rfl (by kernel_rfl) ⟨q4, cut_len el6, q5, cut_bd0 el6, trivial⟩ fun a hE => ?_
     refine WR.done rfl ?_
     refine Runs.sr ?_
     refine WR.e0 hE [(11, .int .i64 0)] fun a hE => ?_
     refine Runs.seq ?_
     replace H := H.t1.slCut' trees_ranked.enc_ok el6 q4 q5
     obtain ⟨s3, es3, hm⟩ := bind_some hm
     refine Runs.join (fun a w => EnvOk 94 a [(0, .pointer (some ⟨p_a_, 0, none⟩)), (5, .slice sb11 l6.length sc11), (8, .slice sb8 out.length sc8), (10, .pointer (some ⟨r4, 0, none⟩)), (11, .int .i64 s3)] ∧ St w0 (Sl 302 trees_ranked.enc 2 sb11 sc11 l6 :: Blk r4 302 [.int .i64 ((trees_ranked.mk t_2.1 (w64 (x3.rank + 1))).n), .int .i64 ((trees_ranked.mk t_2.1 (w64 (x3.rank + 1))).rank)] :: Sl 3 ecI 1 sb8 sc8 out :: arena_Arena.R p_a_ al_a_ t_2.2 :: X_l :: As) w) (fun hk => ?_) ?_
     ·replace hm := es3; clear es3
      refine Runs.block ?_
      refine Runs.loop (fun m a w => ∃ (k_ : Int), EnvOk 94 a [(0, .pointer (some ⟨p_a_, 0, none⟩)), (5, .slice sb11 l6.length sc11), (8, .slice sb8 out.length sc8), (10, .pointer (some ⟨r4, 0, none⟩)), (11, .int .i64 k_)] ∧ St w0 (Sl 302 trees_ranked.enc 2 sb11 sc11 l6 :: Blk r4 302 [.int .i64 ((trees_ranked.mk t_2.1 (w64 (x3.rank + 1))).n), .int .i64 ((trees_ranked.mk t_2.1 (w64 (x3.rank + 1))).rank)] :: Sl 3 ecI 1 sb8 sc8 out :: arena_Arena.R p_a_ al_a_ t_2.2 :: X_l :: As) w ∧ trees_Carry_l2 l6 ((trees_ranked.mk t_2.1 (w64 (x3.rank + 1))).n) ((trees_ranked.mk t_2.1 (w64 (x3.rank + 1))).rank) out t_2.2 l m k_ = some s3) m ⟨0, hE.sel [0, 5, 8, 10, 11] (by kernel_rfl), H.t4.t4.t4.t4.t4, hm⟩ ?_
      rintro m ih a w ⟨k_, hE, H, hm⟩
      cases m with
      | zero => simp [trees_Carry_l2] at hm
      | succ m =>
       rw [trees_Carry_l2] at hm
       refine Runs.seq ?_
       refine Runs.seq ?_
       obtain ⟨s4, es4, hm⟩ := bind_some hm
       refine Runs.join (fun a w => EnvOk 94 a [(0, .pointer (some ⟨p_a_, 0, none⟩)), (5, .slice sb11 l6.length sc11), (8, .slice sb8 out.length sc8), (10, .pointer (some ⟨r4, 0, none⟩)), (11, .int .i64 k_), (83, .bool s4)] ∧ St w0 (Sl 302 trees_ranked.enc 2 sb11 sc11 l6 :: Blk r4 302 [.int .i64 ((trees_ranked.mk t_2.1 (w64 (x3.rank + 1))).n), .int .i64 ((trees_ranked.mk t_2.1 (w64 (x3.rank + 1))).rank)] :: Sl 3 ecI 1 sb8 sc8 out :: arena_Arena.R p_a_ al_a_ t_2.2 :: X_l :: As) w) (fun hk => ?_) ?_
       ·replace hm := es4; clear es4
        refine Runs.drawn mixed (by kernel_rfl) ?_
        replace H := H.drew
        refine WQ.seg hE [0, 1, 2, 3, 4] [] [0, 5, 8, 10, 11, 74] (Lo := [(0, .pointer (some ⟨p_a_, 0, none⟩)), (5, .slice sb11 l6.length sc11), (8, .slice sb8 out.length sc8), (10, .pointer (some ⟨r4, 0, none⟩)), (11, .int .i64 k_), (74, .bool (decide (k_ < (l6.length : Int))))]) (obs := []) (by kernel_rfl) (by kernel_rfl) trivial fun a hE => ?_
        rcases Bool.eq_false_or_eq_true (decide (k_ < (l6.length : Int))) with c | c
        ·replace hE := hE.dec 74 c (by kernel_rfl)
         replace hm := cond_t c hm
         have c_2 := c
         obtain ⟨x8, ex8, hm⟩ := bind_some hm
         obtain ⟨b7, o7, hs7, hb7⟩ := SlRd.base (sl_rd 302 trees_ranked.enc 2 _ _ _) trees_ranked.enc_ok H 0 rfl ex8
         refine WQ.d hE [5, 6, 7, 8, 9, 10, 11, 12, 13] [.pointer (some ⟨b7, o7, none⟩), .int .i64 x8.rank, .int .i64 ((trees_ranked.mk t_2.1 (w64 (x3.rank + 1))).rank)] [(83, .bool (decide (x8.rank < (trees_ranked.mk t_2.1 (w64 (x3.rank + 1))).rank)))] (obs := [.p ((sb11 : Option Addr) = some ⟨b7, o7, none⟩), .p (0 ≤ (k_ : Int) ∧ (k_ : Int) < ((l6.length : Nat) : Int)), .cell ⟨b7, o7 + (Int.toNat k_) * 2 + 1, none⟩ (.int .i64 x8.rank), .cell ⟨r4, 1, none⟩ (.int .i64 ((trees_ranked.mk t_2.1 (w64 (x3.rank + 1))).rank))]) ⟨hs7, hb7, SlRd.cells (sl_rd 302 trees_ranked.enc 2 _ _ _) trees_ranked.enc_ok H 0 rfl hs7 ex8 1 _ rfl, H.cell 1 rfl rfl, trivial⟩ fun a hE => ?_
         refine WQ.done (by kernel_rfl) ?_
         cases hm
         exact hk _ _ ⟨hE.sel [0, 5, 8, 10, 11, 83] (by kernel_rfl), H.t4.t4.t4.t4.t4⟩
        ·replace hE := hE.dec 74 c (by kernel_rfl)
         replace hm := cond_f c hm
         have c_3 := c
         refine WQ.d0 hE [5, 6, 7, 8, 9, 10, 11, 12, 13] [(83, .bool false)] fun a hE => ?_
         refine WQ.done (by kernel_rfl) ?_
         cases hm
         exact hk _ _ ⟨hE.sel [0, 5, 8, 10, 11, 83] (by kernel_rfl), H.t4.t4.t4.t4.t4⟩
       rintro a w ⟨hE, H⟩
       refine Runs.cond hE rfl (fun c => ?_) (fun c => ?_)
       ·replace hm := cond_t c hm
        refine Runs.skip ?_
        refine Runs.block ?_
        refine Runs.region ?_
        refine WR.seg hE 3 [] [0, 5, 8, 10, 11] (Lo := [(0, .pointer (some ⟨p_a_, 0, none⟩)), (5, .slice sb11 l6.length sc11), (8, .slice sb8 out.length sc8), (10, .pointer (some ⟨r4, 0, none⟩)), (11, .int .i64 (w64 (k_ + 1)))]) (obs := []) rfl (by kernel_rfl) trivial fun a hE => ?_
        refine WR.done rfl ?_
        refine Runs.inBlock ?_
        exact ih m (Nat.lt_succ_self m) _ _ ⟨w64 (k_ + 1), hE.sel [0, 5, 8, 10, 11] (by kernel_rfl), H.t4.t4.t4.t4.t4, hm⟩
       ·replace hm := cond_f c hm
        refine Runs.exit rfl ?_
        cases hm
        exact hk _ _ ⟨hE.sel [0, 5, 8, 10, 11] (by kernel_rfl), H.t4.t4.t4.t4.t4⟩
     rintro a w ⟨hE, H⟩
     refine Runs.region ?_
     refine WR.seg hE 3 [.int .i64 ((trees_ranked.mk t_2.1 (w64 (x3.rank + 1))).n), .int .i64 ((trees_ranked.mk t_2.1 (w64 (x3.rank + 1))).rank)] [0, 5, 8, 86, 87, 88] (Lo := [(0, .pointer (some ⟨p_a_, 0, none⟩)), (5, .slice sb11 l6.length sc11), (8, .slice sb8 out.length sc8), (86, .slice sb11 l6.length sc11), (87, .int .i64 s3), (88, .agg #[.int .i64 ((trees_ranked.mk t_2.1 (w64 (x3.rank + 1))).n), .int .i64 ((trees_ranked.mk t_2.1 (w64 (x3.rank + 1))).rank)])]) (obs := [.cell ⟨r4, 0, none⟩ (.int .i64 ((trees_ranked.mk t_2.1 (w64 (x3.rank + 1))).n)), .cell ⟨r4, 1, none⟩ (.int .i64 ((trees_ranked.mk t_2.1 (w64 (x3.rank + 1))).rank))]) rfl (by kernel_rfl) ⟨H.cell 1 rfl rfl, H.cell 1 rfl rfl, trivial⟩ fun a hE => ?_
     refine WR.eff hE rfl rfl rfl rfl (OpTo.buildSl (T := 302) hE H trees_ranked.enc_ok ([(trees_ranked.mk t_2.1 (w64 (x3.rank + 1)))] : List trees_ranked) rfl (fun _ => by kernel_rfl) rfl rfl rfl) ?_
     rintro _ w ⟨r7, rfl, H⟩ a hE
     obtain ⟨t_3, et_3, hm⟩ := bind_some hm
     replace H := H.t1
     refine WR.eff hE rfl rfl rfl rfl (OpTo.fn hE rfl rfl Tryz.call262 (slices_Insert_trees_ranked_ok (hX_s := (sl_rd 302 trees_ranked.enc 2 _ _ _)) (hC_s := (H.slCap 0 rfl).1) (hX_v_ := (sl_rd 302 trees_ranked.enc 2 _ _ _)) (hC_v_ := (H.slCap 1 rfl).1) et_3 H)) ?_
     rintro _ w ⟨sb12, sc12, rfl, H⟩ a hE
     refine WR.e0 hE [(5, .slice sb12 t_3.length sc12)] fun a hE => ?_
     refine Runs.inBlock ?_
     exact ih m (Nat.lt_succ_self m) _ _ ⟨t_3, out, t_2.2, sb12, sc12, sb8, sc8, hE.sel [0, 5, 8] (by kernel_rfl), H.x3.x2.x1.t3.t3.t3.t3, hm⟩
   ·replace hm := cond_f c hm
    refine Runs.exit rfl ?_
    cases hm
    exact hk _ _ ⟨sb8, sc8, hE.sel [0, 8] (by kernel_rfl), H.x0.t2.t2.t2⟩
 rintro a w ⟨sb6, sc6, hE, H⟩
 refine Runs.sr ?_
 refine WR.seg hE 2 [] [91, 92] (Lo := [(91, .pointer (some ⟨p_a_, 0, none⟩)), (92, .slice sb6 s1.1.length sc6)]) (obs := []) rfl (by kernel_rfl) trivial fun a hE => ?_
 obtain ⟨t_4, et_4, hm⟩ := bind_some hm
 replace H := H.t1
 refine WR.eff hE rfl rfl rfl rfl (OpTo.fn hE rfl rfl Tryz.call263 (trees_Row_ok (hX_l := (sl_rd 3 ecI 1 _ _ _)) (hC_l := (H.slCap 1 rfl).1) et_4 H)) ?_
 rintro _ w ⟨rfl, H⟩ a hE
 refine WR.e0 hE [(4, .int .i64 t_4.1)] fun a hE => ?_
 refine Runs.ret hE Tryz.func218 rfl rfl ?_
 cases hm
 exact ⟨rfl, H.x1.t1.t1⟩

theorem skew_without_ok {w0 w : World} {As : List HP} {k : Nat} {p_a_ : Nat} {al_a_ : arena_Arena.A} {a_ : arena_Arena} {sb_l : Option Addr} {sc_l : Nat} {l : List Int} {n : Int} {t : Int × Int × arena_Arena}  (hm : skew_without k a_ l n = some t) (H : St w0 (arena_Arena.R p_a_ al_a_ a_ :: Sl 3 ecI 1 sb_l sc_l l :: As) w) :
    CallsR Tryz.prog 231 #[.pointer (some ⟨p_a_, 0, none⟩), .slice sb_l l.length sc_l, .int .i64 n] w fun v w' => ∃ (z_a__free_b : Option Addr), ∃ (z_a__free_c : Nat), v = .tuple #[.int .i64 t.1, .int .i64 t.2.1] ∧ St w0 (arena_Arena.R p_a_ (arena_Arena.A.mk al_a_.l_b al_a_.l_c z_a__free_b z_a__free_c al_a_.m__p) t.2.2 :: As) w' := by
 rw [skew_without] at hm
 refine enter (args := [.pointer (some ⟨p_a_, 0, none⟩), .slice sb_l l.length sc_l, .int .i64 n]) Tryz.func231 rfl rfl rfl fun a hE => ?_
 refine Runs.sr ?_
 refine WR.eff hE rfl rfl rfl rfl (OpTo.new hE H [] (.cells #[.int .i64 n] 3 (0, 0)) (fun r => .pointer (some ⟨r, 0, none⟩)) (obs := []) rfl (fun _ => by kernel_rfl) trivial) ?_
 rintro _ w ⟨r, rfl, H⟩ a hE
 refine WR.seg hE 3 [] [0, 1, 5] (Lo := [(0, .pointer (some ⟨p_a_, 0, none⟩)), (1, .slice sb_l l.length sc_l), (5, .pointer (some ⟨r, 0, none⟩))]) (obs := []) rfl (by kernel_rfl) trivial fun a hE => ?_
 refine WR.done rfl ?_
 refine Runs.sr ?_
 refine WR.d0 hE 2 [(16, .slice sb_l l.length sc_l), (17, .func (.func 271) #[] #[.pointer (some ⟨r, 0, none⟩)])] fun a hE => ?_
 obtain ⟨t_, et_, hm⟩ := bind_some hm
 refine WR.eff hE rfl rfl rfl rfl (OpTo.fn hE rfl rfl Tryz.call268 (slices_DeleteFunc_int_g271_ok et_ H.t2)) ?_
 rintro _ w ⟨sb, sc, rfl, H⟩ a hE
 refine WR.e0 hE [(8, .slice sb t_.length sc)] fun a hE => ?_
 refine Runs.sr ?_
 refine WR.e0 hE [(9, .slice none 0 0)] fun a hE => ?_
 refine Runs.seq ?_
 refine Runs.sr ?_
 refine WR.d hE 2 [.int .i64 n] [(19, .pointer (some ⟨p_a_, 0, none⟩)), (20, .int .i64 n)] (obs := [.cell ⟨r, 0, none⟩ (.int .i64 n)]) ⟨H.cell 1 rfl rfl, trivial⟩ fun a hE => ?_
 obtain ⟨t_1, et_1, hm⟩ := bind_some hm
 refine WR.eff hE rfl rfl rfl rfl (OpTo.fn hE rfl rfl Tryz.call270 (trees_Kids_ok et_1 H.t2)) ?_
 rintro _ w ⟨sb1, sc1, rfl, H⟩ a hE
 refine WR.e0 hE [(22, .int .i64 (t_1.1.length : Int)), (23, .int .i64 0)] fun a hE => ?_
 obtain ⟨s, es, hm⟩ := bind_some hm
 refine Runs.join (fun a w => ∃ (sb4 : Option Addr), ∃ (sc4 : Nat), ∃ (sb5 : Option Addr), ∃ (sc5 : Nat), EnvOk 59 a [(0, .pointer (some ⟨p_a_, 0, none⟩)), (5, .pointer (some ⟨r, 0, none⟩)), (8, .slice sb4 s.1.length sc4), (9, .slice sb5 s.2.1.length sc5)] ∧ St w0 (Sl 3 ecI 1 sb4 sc4 s.1 :: Sl 3 ecI 1 sb5 sc5 s.2.1 :: arena_Arena.R p_a_ al_a_ s.2.2 :: Blk r 3 [.int .i64 n] :: As) w) (fun hk => ?_) ?_
 ·replace hm := es; clear es
  replace H := H.slNil 3 ecI 1
  refine Runs.block ?_
  refine Runs.loop (fun m a w => ∃ (rest : List Int), ∃ (alone : List Int), ∃ (x : Int), ∃ (m_ : arena_Arena), ∃ (sb6 : Option Addr), ∃ (sc6 : Nat), ∃ (sb7 : Option Addr), ∃ (sc7 : Nat), EnvOk 59 a [(0, .pointer (some ⟨p_a_, 0, none⟩)), (5, .pointer (some ⟨r, 0, none⟩)), (8, .slice sb6 rest.length sc6), (9, .slice sb7 alone.length sc7), (21, .slice sb1 t_1.1.length sc1), (22, .int .i64 (t_1.1.length : Int)), (23, .int .i64 x)] ∧ St w0 (Sl 3 ecI 1 sb6 sc6 rest :: Sl 3 ecI 1 sb7 sc7 alone :: Sl 3 ecI 1 sb1 sc1 t_1.1 :: arena_Arena.R p_a_ al_a_ m_ :: Blk r 3 [.int .i64 n] :: As) w ∧ skew_without_l0 (t_1.1.length : Int) t_1.1 n m rest alone x m_ = some s) k ⟨t_, ([] : List Int), 0, t_1.2, sb, sc, none, 0, hE.sel [0, 5, 8, 9, 21, 22, 23] (by kernel_rfl), H.t4.t3.t3.t3.t4, hm⟩ ?_
  rintro m ih a w ⟨rest, alone, x, m_, sb6, sc6, sb7, sc7, hE, H, hm⟩
  cases m with
  | zero => simp [skew_without_l0] at hm
  | succ m =>
   rw [skew_without_l0] at hm
   refine Runs.sr ?_
   refine WR.seg hE 1 [] [0, 5, 8, 9, 21, 22, 23, 24] (Lo := [(0, .pointer (some ⟨p_a_, 0, none⟩)), (5, .pointer (some ⟨r, 0, none⟩)), (8, .slice sb6 rest.length sc6), (9, .slice sb7 alone.length sc7), (21, .slice sb1 t_1.1.length sc1), (22, .int .i64 (t_1.1.length : Int)), (23, .int .i64 x), (24, .bool (decide (x < (t_1.1.length : Int))))]) (obs := []) rfl (by kernel_rfl) trivial fun a hE => ?_
   refine WR.done rfl ?_
   refine Runs.seq ?_
   refine Runs.cond hE rfl (fun c => ?_) (fun c => ?_)
   ·replace hm := cond_t c hm
    refine Runs.skip ?_
    refine Runs.seq ?_
    obtain ⟨s1, es1, hm⟩ := bind_some hm
    refine Runs.join (fun a w => ∃ (sb8 : Option Addr), ∃ (sc8 : Nat), ∃ (sb9 : Option Addr), ∃ (sc9 : Nat), EnvOk 59 a [(0, .pointer (some ⟨p_a_, 0, none⟩)), (5, .pointer (some ⟨r, 0, none⟩)), (8, .slice sb8 s1.1.length sc8), (9, .slice sb9 s1.2.1.length sc9), (21, .slice sb1 t_1.1.length sc1), (22, .int .i64 (t_1.1.length : Int)), (23, .int .i64 x)] ∧ St w0 (Sl 3 ecI 1 sb8 sc8 s1.1 :: Sl 3 ecI 1 sb9 sc9 s1.2.1 :: Sl 3 ecI 1 sb1 sc1 t_1.1 :: arena_Arena.R p_a_ al_a_ s1.2.2 :: Blk r 3 [.int .i64 n] :: As) w) (fun hk => ?_) ?_
    ·replace hm := es1; clear es1
     refine Runs.block ?_
     refine Runs.sr ?_
     obtain ⟨x2, ex2, hm⟩ := bind_some hm
     obtain ⟨b, o, hs, hb⟩ := SlRd.base (sl_rd 3 ecI 1 _ _ _) ecI_ok H 2 rfl ex2
     refine WR.e hE [.pointer (some ⟨b, o, none⟩), .int .i64 x2] [(11, .int .i64 x2)] (obs := [.p ((sb1 : Option Addr) = some ⟨b, o, none⟩), .p (0 ≤ (x : Int) ∧ (x : Int) < ((t_1.1.length : Nat) : Int)), .cell ⟨b, o + (Int.toNat x) * 1, none⟩ (.int .i64 x2)]) ⟨hs, hb, SlRd.cells (sl_rd 3 ecI 1 _ _ _) ecI_ok H 2 rfl hs ex2 0 _ rfl, trivial⟩ fun a hE => ?_
     refine Runs.sr ?_
     refine WR.d0 hE 2 [(27, .pointer (some ⟨p_a_, 0, none⟩)), (28, .int .i64 x2)] fun a hE => ?_
     obtain ⟨t_2, et_2, hm⟩ := bind_some hm
     refine WR.eff hE rfl rfl rfl rfl (OpTo.fn hE rfl rfl Tryz.call174 (arena_Arena_Get_ok et_2 H.t3)) ?_
     rintro _ w ⟨rfl, hf1, hf, H⟩ a hE
     refine WR.e0 hE [(30, .bool (t_2.1 == 0))] fun a hE => ?_
     refine Runs.cond hE rfl (fun c => ?_) (fun c => ?_)
     ·replace hm := cond_t c hm
      refine Runs.region ?_
      refine WR.d0 hE 2 [(31, .slice sb7 alone.length sc7), (32, .int .i64 x2)] fun a hE => ?_
      refine WR.eff hE rfl rfl rfl rfl (OpTo.buildSl (T := 3) hE H ecI_ok ([x2] : List Int) rfl (fun _ => by kernel_rfl) rfl rfl rfl) ?_
      rintro _ w ⟨r1, rfl, H⟩ a hE
      obtain ⟨l2, el2, hm⟩ := bind_some hm
      replace H := H.t3
      refine WR.eff hE rfl rfl rfl rfl (OpTo.appendM el2 hE H ecI_ok rfl rfl rfl rfl rfl rfl rfl rfl rfl rfl (SlRd.all (sl_rd 3 ecI 1 _ _ _) ecI_ok H 1 rfl) rfl) ?_
      rintro _ w ⟨sb10, sc10, rfl, H⟩ a hE
      refine WR.e0 hE [(9, .slice sb10 l2.length sc10)] fun a hE => ?_
      refine Runs.inBlock ?_
      cases hm
      exact hk _ _ ⟨sb6, sc6, sb10, sc10, hE.sel [0, 5, 8, 9, 21, 22, 23] (by kernel_rfl), H.x1.t4.t2.t4.t3.t4⟩
     ·replace hm := cond_f c hm
      refine Runs.region ?_
      refine WR.d0 hE 2 [(35, .slice sb6 rest.length sc6), (36, .int .i64 x2)] fun a hE => ?_
      refine WR.eff hE rfl rfl rfl rfl (OpTo.buildSl (T := 3) hE H ecI_ok ([x2] : List Int) rfl (fun _ => by kernel_rfl) rfl rfl rfl) ?_
      rintro _ w ⟨r2, rfl, H⟩ a hE
      obtain ⟨l3, el3, hm⟩ := bind_some hm
      replace H := H.t2
      refine WR.eff hE rfl rfl rfl rfl (OpTo.appendM el3 hE H ecI_ok rfl rfl rfl rfl rfl rfl rfl rfl rfl rfl (SlRd.all (sl_rd 3 ecI 1 _ _ _) ecI_ok H 1 rfl) rfl) ?_
      rintro _ w ⟨sb11, sc11, rfl, H⟩ a hE
      refine WR.e0 hE [(8, .slice sb11 l3.length sc11)] fun a hE => ?_
      refine Runs.inBlock ?_
      cases hm
      exact hk _ _ ⟨sb11, sc11, sb7, sc7, hE.sel [0, 5, 8, 9, 21, 22, 23] (by kernel_rfl), H.x1.t4.t2.t4.t4.t4⟩
    rintro a w ⟨sb8, sc8, sb9, sc9, hE, H⟩
    refine Runs.region ?_
    refine WR.seg hE 2 [] [0, 5, 8, 9, 21, 22, 23] (Lo := [(0, .pointer (some ⟨p_a_, 0, none⟩)), (5, .pointer (some ⟨r, 0, none⟩)), (8, .slice sb8 s1.1.length sc8), (9, .slice sb9 s1.2.1.length sc9), (21, .slice sb1 t_1.1.length sc1), (22, .int .i64 (t_1.1.length : Int)), (23, .int .i64 (w64 (x + 1)))]) (obs := []) rfl (by kernel_rfl) trivial fun a hE => ?_
    refine WR.done rfl ?_
    exact ih m (Nat.lt_succ_self m) _ _ ⟨s1.1, s1.2.1, w64 (x + 1), s1.2.2, sb8, sc8, sb9, sc9, hE.sel [0, 5, 8, 9, 21, 22, 23] (by kernel_rfl), H.t4.t4.t4.t4.t4, hm⟩
   ·replace hm := cond_f c hm
    refine Runs.exit rfl ?_
    cases hm
    exact hk _ _ ⟨sb6, sc6, sb7, sc7, hE.sel [0, 5, 8, 9] (by kernel_rfl), H.x2.t3.t3.t3.t3⟩
 rintro a w ⟨sb4, sc4, sb5, sc5, hE, H⟩
 refine Runs.sr ?_
 refine WR.seg hE 2 [.int .i64 n] [0, 8, 9, 40, 41] (Lo := [(0, .pointer (some ⟨p_a_, 0, none⟩)), (8, .slice sb4 s.1.length sc4), (9, .slice sb5 s.2.1.length sc5), (40, .pointer (some ⟨p_a_, 0, none⟩)), (41, .int .i64 n)]) (obs := [.cell ⟨r, 0, none⟩ (.int .i64 n)]) rfl (by kernel_rfl) ⟨H.cell 3 rfl rfl, trivial⟩ fun a hE => ?_
 obtain ⟨t_3, et_3, hm⟩ := bind_some hm
 refine WR.eff hE rfl rfl rfl rfl (OpTo.fn hE rfl rfl Tryz.call229 (node_End_ok et_3 H.t2)) ?_
 rintro _ w ⟨z, z1, rfl, H⟩ a hE
 refine WR.e0 hE [(12, .int .i64 t_3.1)] fun a hE => ?_
 refine Runs.sr ?_
 refine WR.d0 hE 2 [(43, .pointer (some ⟨p_a_, 0, none⟩)), (44, .slice sb4 s.1.length sc4)] fun a hE => ?_
 obtain ⟨t_4, et_4, hm⟩ := bind_some hm
 replace H := H.t1.t1
 refine WR.eff hE rfl rfl rfl rfl (OpTo.fn hE rfl rfl Tryz.call218 (trees_Carry_ok (hX_l := (sl_rd 3 ecI 1 _ _ _)) (hC_l := (H.slCap 1 rfl).1) et_4 H)) ?_
 rintro _ w ⟨rfl, H⟩ a hE
 refine WR.e0 hE [(13, .int .i64 t_4.1)] fun a hE => ?_
 refine Runs.seq ?_
 refine Runs.sr ?_
 refine WR.e0 hE [(46, .slice sb5 s.2.1.length sc5), (47, .int .i64 (s.2.1.length : Int)), (48, .int .i64 0)] fun a hE => ?_
 obtain ⟨s2, es2, hm⟩ := bind_some hm
 refine Runs.join (fun a w => EnvOk 59 a [(12, .int .i64 t_3.1), (13, .int .i64 s2.1)] ∧ St w0 (arena_Arena.R p_a_ (arena_Arena.A.mk al_a_.l_b al_a_.l_c z z1 al_a_.m__p) s2.2 :: As) w) (fun hk => ?_) ?_
 ·replace hm := es2; clear es2
  refine Runs.block ?_
  refine Runs.loop (fun m a w => ∃ (r3 : Int), ∃ (x3 : Int), ∃ (m_1 : arena_Arena), EnvOk 59 a [(0, .pointer (some ⟨p_a_, 0, none⟩)), (12, .int .i64 t_3.1), (13, .int .i64 r3), (46, .slice sb5 s.2.1.length sc5), (47, .int .i64 (s.2.1.length : Int)), (48, .int .i64 x3)] ∧ St w0 (arena_Arena.R p_a_ (arena_Arena.A.mk al_a_.l_b al_a_.l_c z z1 al_a_.m__p) m_1 :: Sl 3 ecI 1 sb5 sc5 s.2.1 :: As) w ∧ skew_without_l1 t_3.1 (s.2.1.length : Int) s.2.1 m r3 x3 m_1 = some s2) k ⟨t_4.1, 0, t_4.2, hE.sel [0, 12, 13, 46, 47, 48] (by kernel_rfl), H.x3.x1.t1.t1, hm⟩ ?_
  rintro m ih a w ⟨r3, x3, m_1, hE, H, hm⟩
  cases m with
  | zero => simp [skew_without_l1] at hm
  | succ m =>
   rw [skew_without_l1] at hm
   refine Runs.sr ?_
   refine WR.seg hE 1 [] [0, 12, 13, 46, 47, 48, 49] (Lo := [(0, .pointer (some ⟨p_a_, 0, none⟩)), (12, .int .i64 t_3.1), (13, .int .i64 r3), (46, .slice sb5 s.2.1.length sc5), (47, .int .i64 (s.2.1.length : Int)), (48, .int .i64 x3), (49, .bool (decide (x3 < (s.2.1.length : Int))))]) (obs := []) rfl (by kernel_rfl) trivial fun a hE => ?_
   refine WR.done rfl ?_
   refine Runs.seq ?_
   refine Runs.cond hE rfl (fun c => ?_) (fun c => ?_)
   ·replace hm := cond_t c hm
    refine Runs.skip ?_
    refine Runs.seq ?_
    refine Runs.block ?_
    refine Runs.sr ?_
    obtain ⟨x5, ex5, hm⟩ := bind_some hm
    obtain ⟨b1, o1, hs1, hb1⟩ := SlRd.base (sl_rd 3 ecI 1 _ _ _) ecI_ok H 1 rfl ex5
    refine WR.e hE [.pointer (some ⟨b1, o1, none⟩), .int .i64 x5] [(15, .int .i64 x5)] (obs := [.p ((sb5 : Option Addr) = some ⟨b1, o1, none⟩), .p (0 ≤ (x3 : Int) ∧ (x3 : Int) < ((s.2.1.length : Nat) : Int)), .cell ⟨b1, o1 + (Int.toNat x3) * 1, none⟩ (.int .i64 x5)]) ⟨hs1, hb1, SlRd.cells (sl_rd 3 ecI 1 _ _ _) ecI_ok H 1 rfl hs1 ex5 0 _ rfl, trivial⟩ fun a hE => ?_
    refine Runs.region ?_
    refine WR.d0 hE 3 [(52, .pointer (some ⟨p_a_, 0, none⟩)), (53, .int .i64 r3), (54, .int .i64 x5)] fun a hE => ?_
    obtain ⟨t_5, et_5, hm⟩ := bind_some hm
    refine WR.eff hE rfl rfl rfl rfl (OpTo.fn hE rfl rfl Tryz.call220 (skew_single_ok et_5 H)) ?_
    rintro _ w ⟨rfl, H⟩ a hE
    refine WR.e0 hE [(13, .int .i64 t_5.1)] fun a hE => ?_
    refine Runs.inBlock ?_
    refine Runs.region ?_
    refine WR.e0 hE [(48, .int .i64 (w64 (x3 + 1)))] fun a hE => ?_
    exact ih m (Nat.lt_succ_self m) _ _ ⟨t_5.1, w64 (x3 + 1), t_5.2, hE.sel [0, 12, 13, 46, 47, 48] (by kernel_rfl), H.t1.t1, hm⟩
   ·replace hm := cond_f c hm
    refine Runs.exit rfl ?_
    cases hm
    exact hk _ _ ⟨hE.sel [12, 13] (by kernel_rfl), H.x1⟩
 rintro a w ⟨hE, H⟩
 refine Runs.sr ?_
 refine WR.seg hE 4 [] [6, 7] (Lo := [(6, .int .i64 s2.1), (7, .int .i64 t_3.1)]) (obs := []) rfl (by kernel_rfl) trivial fun a hE => ?_
 refine WR.done rfl ?_
 refine Runs.ret hE Tryz.func231 rfl rfl ?_
 cases hm
 exact ⟨z, z1, rfl, H⟩

theorem skew_Pop_ok {w0 w : World} {As : List HP} {k : Nat} {p_a_ : Nat} {al_a_ : arena_Arena.A} {a_ : arena_Arena} {r : Int} {t : Int × Int × arena_Arena}  (hm : skew_Pop k a_ r = some t) (H : St w0 (arena_Arena.R p_a_ al_a_ a_ :: As) w) :
    CallsR Tryz.prog 168 #[.pointer (some ⟨p_a_, 0, none⟩), .int .i64 r] w fun v w' => ∃ (z_a__free_b : Option Addr), ∃ (z_a__free_c : Nat), v = .tuple #[.int .i64 t.1, .int .i64 t.2.1] ∧ St w0 (arena_Arena.R p_a_ (arena_Arena.A.mk al_a_.l_b al_a_.l_c z_a__free_b z_a__free_c al_a_.m__p) t.2.2 :: As) w' := by
 rw [skew_Pop] at hm
 refine enter (args := [.pointer (some ⟨p_a_, 0, none⟩), .int .i64 r]) Tryz.func168 rfl rfl rfl fun a hE => ?_
 refine Runs.sr ?_
 refine WR.seg hE 2 [] [0, 1] (Lo := [(0, .pointer (some ⟨p_a_, 0, none⟩)), (1, .int .i64 r)]) (obs := []) rfl (by kernel_rfl) trivial fun a hE => ?_
 refine WR.done rfl ?_
 refine Runs.seq ?_
 refine Runs.seq ?_
 obtain ⟨s, es, hm⟩ := bind_some hm
 refine Runs.join (fun a w => EnvOk 26 a [(0, .pointer (some ⟨p_a_, 0, none⟩)), (1, .int .i64 r), (14, .bool s)] ∧ St w0 (arena_Arena.R p_a_ al_a_ a_ :: As) w) (fun hk => ?_) ?_
 ·replace hm := es; clear es
  refine Runs.region ?_
  refine WR.d0 hE 5 [(9, .bool false), (10, .pointer (some ⟨p_a_, 0, none⟩)), (11, .int .i64 r)] fun a hE => ?_
  obtain ⟨t_, et_, hm⟩ := bind_some hm
  refine WR.eff hE rfl rfl rfl rfl (OpTo.fn hE rfl rfl Tryz.call227 (arena_Arena_Live_ok et_ H)) ?_
  rintro _ w ⟨rfl, H⟩ a hE
  refine WR.e0 hE [(14, .bool (!t_))] fun a hE => ?_
  cases hm
  exact hk _ _ ⟨hE.sel [0, 1, 14] (by kernel_rfl), H⟩
 rintro a w ⟨hE, H⟩
 refine Runs.cond hE rfl (fun c => ?_) (fun c => ?_)
 ·replace hm := cond_t c hm
  refine Runs.sr ?_
  refine WR.seg hE 2 [] [4, 5] (Lo := [(4, .int .i64 (-1)), (5, .int .i64 (-1))]) (obs := []) rfl (by kernel_rfl) trivial fun a hE => ?_
  refine WR.done rfl ?_
  refine Runs.ret hE Tryz.func168 rfl rfl ?_
  cases hm
  exact ⟨al_a_.free_b, al_a_.free_c, rfl, H⟩
 ·replace hm := cond_f c hm
  refine Runs.skip ?_
  refine Runs.sr ?_
  refine WR.seg hE 2 [] [0, 15, 16] (Lo := [(0, .pointer (some ⟨p_a_, 0, none⟩)), (15, .pointer (some ⟨p_a_, 0, none⟩)), (16, .int .i64 r)]) (obs := []) rfl (by kernel_rfl) trivial fun a hE => ?_
  obtain ⟨t_1, et_1, hm⟩ := bind_some hm
  refine WR.eff hE rfl rfl rfl rfl (OpTo.fn hE rfl rfl Tryz.call219 (trees_List_ok et_1 H)) ?_
  rintro _ w ⟨sb, sc, rfl, H⟩ a hE
  refine WR.e0 hE [(6, .slice sb t_1.1.length sc)] fun a hE => ?_
  refine Runs.sr ?_
  refine WR.d0 hE 4 [(18, .pointer (some ⟨p_a_, 0, none⟩)), (19, .slice sb t_1.1.length sc), (20, .pointer (some ⟨p_a_, 0, none⟩)), (21, .slice sb t_1.1.length sc)] fun a hE => ?_
  obtain ⟨t_2, et_2, hm⟩ := bind_some hm
  replace H := H.t1
  refine WR.eff hE rfl rfl rfl rfl (OpTo.fn hE rfl rfl Tryz.call226 (trees_Best_ok (hX_l := (sl_rd 3 ecI 1 _ _ _)) (hC_l := (H.slCap 1 rfl).1) et_2 H)) ?_
  rintro _ w ⟨rfl, H⟩ a hE
  obtain ⟨t_3, et_3, hm⟩ := bind_some hm
  refine WR.eff hE rfl rfl rfl rfl (OpTo.fn hE rfl rfl Tryz.call231 (skew_without_ok et_3 H.t1.t1)) ?_
  rintro _ w ⟨z, z1, rfl, H⟩ a hE
  refine WR.e0 hE [(4, .int .i64 t_3.1), (5, .int .i64 t_3.2.1)] fun a hE => ?_
  refine Runs.ret hE Tryz.func168 rfl rfl ?_
  cases hm
  exact ⟨z, z1, rfl, H⟩

theorem fib_Pop_ok {w0 w : World} {As : List HP} {p_a_ : Nat} {al_a_ : arena_Arena.A} {a_ : arena_Arena} {r : Int} {t : Int × Int}  (hm : fib_Pop a_ r = some t) (H : St w0 (arena_Arena.R p_a_ al_a_ a_ :: As) w) :
    CallsR Tryz.prog 169 #[.pointer (some ⟨p_a_, 0, none⟩), .int .i64 r] w fun v w' => v = .tuple #[.int .i64 t.1, .int .i64 t.2] ∧ St w0 (arena_Arena.R p_a_ al_a_ a_ :: As) w' := by
  rw [fib_Pop] at hm
  cases hm

theorem pairing_Pop_ok {w0 w : World} {As : List HP} {p_a_ : Nat} {al_a_ : arena_Arena.A} {a_ : arena_Arena} {r : Int} {t : Int × Int}  (hm : pairing_Pop a_ r = some t) (H : St w0 (arena_Arena.R p_a_ al_a_ a_ :: As) w) :
    CallsR Tryz.prog 170 #[.pointer (some ⟨p_a_, 0, none⟩), .int .i64 r] w fun v w' => v = .tuple #[.int .i64 t.1, .int .i64 t.2] ∧ St w0 (arena_Arena.R p_a_ al_a_ a_ :: As) w' := by
  rw [pairing_Pop] at hm
  cases hm

theorem kind_Pop_ok {w0 w : World} {As : List HP} {k : Nat} {k_ : Int} {p_a_ : Nat} {al_a_ : arena_Arena.A} {a_ : arena_Arena} {r : Int} {t : Int × Int × arena_Arena}  (hm : kind_Pop k k_ a_ r = some t) (H : St w0 (arena_Arena.R p_a_ al_a_ a_ :: As) w) :
    CallsR Tryz.prog 111 #[.int .i64 k_, .pointer (some ⟨p_a_, 0, none⟩), .int .i64 r] w fun v w' => ∃ (z_a__free_b : Option Addr), ∃ (z_a__free_c : Nat), v = .tuple #[.int .i64 t.1, .int .i64 t.2.1] ∧ St w0 (arena_Arena.R p_a_ (arena_Arena.A.mk al_a_.l_b al_a_.l_c z_a__free_b z_a__free_c al_a_.m__p) t.2.2 :: As) w' := by
 rw [kind_Pop] at hm
 refine enter (args := [.int .i64 k_, .pointer (some ⟨p_a_, 0, none⟩), .int .i64 r]) Tryz.func111 rfl rfl rfl fun a hE => ?_
 refine Runs.sr ?_
 refine WR.seg hE 2 [] [0, 1, 2] (Lo := [(0, .int .i64 k_), (1, .pointer (some ⟨p_a_, 0, none⟩)), (2, .int .i64 r)]) (obs := []) rfl (by kernel_rfl) trivial fun a hE => ?_
 refine WR.done rfl ?_
 refine Runs.seq ?_
 refine Runs.sr ?_
 refine WR.e0 hE [(8, .int .i64 k_)] fun a hE => ?_
 refine Runs.block ?_
 refine Runs.sr ?_
 refine WR.e0 hE [(9, .bool (k_ == 1))] fun a hE => ?_
 refine Runs.cond hE rfl (fun c => ?_) (fun c => ?_)
 ·replace hm := cond_t c hm
  refine Runs.sr ?_
  refine WR.d0 hE 2 [(11, .pointer (some ⟨p_a_, 0, none⟩)), (12, .int .i64 r)] fun a hE => ?_
  obtain ⟨t_, et_, hm⟩ := bind_some hm
  refine WR.eff hE rfl rfl rfl rfl (OpTo.fn hE rfl rfl Tryz.call166 (leftist_Pop_ok et_ H)) ?_
  rintro _ w ⟨rfl, H⟩ a hE
  refine WR.e0 hE [(6, .int .i64 t_.1), (7, .int .i64 t_.2)] fun a hE => ?_
  refine Runs.ret hE Tryz.func111 rfl rfl ?_
  cases hm
  exact ⟨al_a_.free_b, al_a_.free_c, rfl, H⟩
 ·replace hm := cond_f c hm
  refine Runs.sr ?_
  refine WR.e0 hE [(16, .bool (k_ == 2))] fun a hE => ?_
  refine Runs.cond hE rfl (fun c => ?_) (fun c => ?_)
  ·replace hm := cond_t c hm
   refine Runs.sr ?_
   refine WR.d0 hE 2 [(18, .pointer (some ⟨p_a_, 0, none⟩)), (19, .int .i64 r)] fun a hE => ?_
   obtain ⟨t_1, et_1, hm⟩ := bind_some hm
   refine WR.eff hE rfl rfl rfl rfl (OpTo.fn hE rfl rfl Tryz.call167 (binomial_Pop_ok et_1 H)) ?_
   rintro _ w ⟨rfl, H⟩ a hE
   refine WR.e0 hE [(6, .int .i64 t_1.1), (7, .int .i64 t_1.2)] fun a hE => ?_
   refine Runs.ret hE Tryz.func111 rfl rfl ?_
   cases hm
   exact ⟨al_a_.free_b, al_a_.free_c, rfl, H⟩
  ·replace hm := cond_f c hm
   refine Runs.sr ?_
   refine WR.e0 hE [(23, .bool (k_ == 3))] fun a hE => ?_
   refine Runs.cond hE rfl (fun c => ?_) (fun c => ?_)
   ·replace hm := cond_t c hm
    refine Runs.sr ?_
    refine WR.d0 hE 2 [(25, .pointer (some ⟨p_a_, 0, none⟩)), (26, .int .i64 r)] fun a hE => ?_
    obtain ⟨t_2, et_2, hm⟩ := bind_some hm
    refine WR.eff hE rfl rfl rfl rfl (OpTo.fn hE rfl rfl Tryz.call168 (skew_Pop_ok et_2 H)) ?_
    rintro _ w ⟨z, z1, rfl, H⟩ a hE
    refine WR.e0 hE [(6, .int .i64 t_2.1), (7, .int .i64 t_2.2.1)] fun a hE => ?_
    refine Runs.ret hE Tryz.func111 rfl rfl ?_
    cases hm
    exact ⟨z, z1, rfl, H⟩
   ·replace hm := cond_f c hm
    refine Runs.sr ?_
    refine WR.e0 hE [(30, .bool (k_ == 4))] fun a hE => ?_
    refine Runs.cond hE rfl (fun c => ?_) (fun c => ?_)
    ·replace hm := cond_t c hm
     refine Runs.sr ?_
     refine WR.d0 hE 2 [(32, .pointer (some ⟨p_a_, 0, none⟩)), (33, .int .i64 r)] fun a hE => ?_
     obtain ⟨t_3, et_3, hm⟩ := bind_some hm
     refine WR.eff hE rfl rfl rfl rfl (OpTo.fn hE rfl rfl Tryz.call169 (fib_Pop_ok et_3 H)) ?_
     rintro _ w ⟨rfl, H⟩ a hE
     refine WR.e0 hE [(6, .int .i64 t_3.1), (7, .int .i64 t_3.2)] fun a hE => ?_
     refine Runs.ret hE Tryz.func111 rfl rfl ?_
     cases hm
     exact ⟨al_a_.free_b, al_a_.free_c, rfl, H⟩
    ·replace hm := cond_f c hm
     refine Runs.sr ?_
     refine WR.e0 hE [(37, .bool (k_ == 5))] fun a hE => ?_
     refine Runs.cond hE rfl (fun c => ?_) (fun c => ?_)
     ·replace hm := cond_t c hm
      refine Runs.sr ?_
      refine WR.d0 hE 2 [(39, .pointer (some ⟨p_a_, 0, none⟩)), (40, .int .i64 r)] fun a hE => ?_
      obtain ⟨t_4, et_4, hm⟩ := bind_some hm
      refine WR.eff hE rfl rfl rfl rfl (OpTo.fn hE rfl rfl Tryz.call170 (pairing_Pop_ok et_4 H)) ?_
      rintro _ w ⟨rfl, H⟩ a hE
      refine WR.e0 hE [(6, .int .i64 t_4.1), (7, .int .i64 t_4.2)] fun a hE => ?_
      refine Runs.ret hE Tryz.func111 rfl rfl ?_
      cases hm
      exact ⟨al_a_.free_b, al_a_.free_c, rfl, H⟩
     ·replace hm := cond_f c hm
      refine Runs.skip ?_
      refine Runs.inBlock ?_
      refine Runs.sr ?_
      refine WR.e0 hE [(6, .int .i64 (-1)), (7, .int .i64 (-1))] fun a hE => ?_
      refine Runs.ret hE Tryz.func111 rfl rfl ?_
      cases hm
      exact ⟨al_a_.free_b, al_a_.free_c, rfl, H⟩

theorem pool_Pool_slots_thing_find_ok {w0 w : World} {As : List HP} {p_p : Nat} {al_p : pool_Pool_slots_thing.A} {p : pool_Pool_slots_thing} {r : api_Ref} {t : (Option Int) × Int}  (hm : pool_Pool_slots_thing_find p r = some t) (H : St w0 (pool_Pool_slots_thing.R p_p al_p p :: As) w) :
    CallsR Tryz.prog 235 #[.pointer (some ⟨p_p, 0, none⟩), .agg #[.int .i64 r.At, .int .i64 r.Gen]] w fun v w' => v = .tuple #[elemV al_p.l_b 5 t.1, .int .i64 t.2] ∧ St w0 (pool_Pool_slots_thing.R p_p al_p p :: As) w' := by
 rw [pool_Pool_slots_thing_find] at hm
 refine enter (args := [.pointer (some ⟨p_p, 0, none⟩), .agg #[.int .i64 r.At, .int .i64 r.Gen]]) Tryz.func235 rfl rfl rfl fun a hE => ?_
 refine Runs.sr ?_
 refine WR.eff hE rfl rfl rfl rfl (OpTo.new hE H [] (.cells #[.int .i64 r.At, .int .i64 r.Gen] 26 (0, 0)) (fun r => .pointer (some ⟨r, 0, none⟩)) (obs := []) rfl (fun _ => by kernel_rfl) trivial) ?_
 rintro _ w ⟨r1, rfl, H⟩ a hE
 refine WR.seg hE 3 [] [0, 3] (Lo := [(0, .pointer (some ⟨p_p, 0, none⟩)), (3, .pointer (some ⟨r1, 0, none⟩))]) (obs := []) rfl (by kernel_rfl) trivial fun a hE => ?_
 refine WR.done rfl ?_
 refine Runs.seq ?_
 refine Runs.seq ?_
 obtain ⟨s, es, hm⟩ := bind_some hm
 refine Runs.join (fun a w => EnvOk 61 a [(0, .pointer (some ⟨p_p, 0, none⟩)), (3, .pointer (some ⟨r1, 0, none⟩)), (38, .bool s)] ∧ St w0 (Blk r1 26 [.int .i64 r.At, .int .i64 r.Gen] :: pool_Pool_slots_thing.R p_p al_p p :: As) w) (fun hk => ?_) ?_
 ·replace hm := es; clear es
  refine Runs.drawn mixed (by kernel_rfl) ?_
  replace H := H.drew
  refine WQ.d hE [0, 1, 2, 3] [.int .i64 r.At] [(10, .bool (decide (r.At < 0)))] (obs := [.cell ⟨r1, 0, none⟩ (.int .i64 r.At)]) ⟨H.cell 0 rfl rfl, trivial⟩ fun a hE => ?_
  rcases Bool.eq_false_or_eq_true (decide (r.At < 0)) with c | c
  ·replace hE := hE.dec 10 c (by kernel_rfl)
   replace hm := cond_t c hm
   have c_ := c
   refine WQ.d0 hE [4, 5, 6, 7, 8, 9, 10, 11, 12, 13, 14, 15, 16, 17, 18, 19, 20, 21, 22, 23, 24, 25, 26, 27, 28, 29, 30, 31] [(38, .bool true)] fun a hE => ?_
   refine WQ.done (by kernel_rfl) ?_
   cases hm
   exact hk _ _ ⟨hE.sel [0, 3, 38] (by kernel_rfl), H.t1.t1⟩
  ·replace hE := hE.dec 10 c (by kernel_rfl)
   replace hm := cond_f c hm
   have c_1 := c
   replace H := pool_Pool_slots_thing.open H.t1
   refine WQ.d hE [4, 5, 6, 7, 8, 9, 10, 11, 12, 13] [.int .i64 r.At, .slice al_p.l_b p.l.length al_p.l_c] [(20, .bool (decide (r.At ≥ (p.l.length : Int))))] (obs := [.cell ⟨r1, 0, none⟩ (.int .i64 r.At), .cell ⟨p_p, 1, none⟩ (.slice al_p.l_b p.l.length al_p.l_c)]) ⟨H.cell 3 rfl rfl, H.cell 0 rfl rfl, trivial⟩ fun a hE => ?_
   rcases Bool.eq_false_or_eq_true (decide (r.At ≥ (p.l.length : Int))) with c | c
   ·replace hE := hE.dec 20 c (by kernel_rfl)
    replace hm := cond_t c hm
    have c_2 := c
    refine WQ.d0 hE [14, 15, 16, 17, 18, 19, 20, 21, 22, 23, 24, 25, 26, 27, 28, 29, 30, 31] [(38, .bool true)] fun a hE => ?_
    refine WQ.done (by kernel_rfl) ?_
    replace H := pool_Pool_slots_thing.shut al_p (p) H.t2.t2.t2
    cases hm
    exact hk _ _ ⟨hE.sel [0, 3, 38] (by kernel_rfl), H.t1⟩
   ·replace hE := hE.dec 20 c (by kernel_rfl)
    replace hm := cond_f c hm
    have c_3 := c
    refine WQ.d hE [14, 15, 16, 17, 18] [.int .i64 r.Gen] [(25, .bool (decide (r.Gen < 1)))] (obs := [.cell ⟨r1, 1, none⟩ (.int .i64 r.Gen)]) ⟨H.cell 3 rfl rfl, trivial⟩ fun a hE => ?_
    rcases Bool.eq_false_or_eq_true (decide (r.Gen < 1)) with c | c
    ·replace hE := hE.dec 25 c (by kernel_rfl)
     replace hm := cond_t c hm
     have c_4 := c
     refine WQ.d0 hE [19, 20, 21, 22, 23, 24, 25, 26, 27, 28, 29, 30, 31] [(38, .bool true)] fun a hE => ?_
     refine WQ.done (by kernel_rfl) ?_
     replace H := pool_Pool_slots_thing.shut al_p (p) H.t2.t2.t2
     cases hm
     exact hk _ _ ⟨hE.sel [0, 3, 38] (by kernel_rfl), H.t1⟩
    ·replace hE := hE.dec 25 c (by kernel_rfl)
     replace hm := cond_f c hm
     have c_5 := c
     obtain ⟨x1, ex1, hm⟩ := bind_some hm
     obtain ⟨b1, o1, hs1, hb1⟩ := SlRd.base (sl_rd 287 pool_place_slots_thing.enc 5 _ _ _) pool_place_slots_thing.enc_ok H 1 rfl ex1
     refine WQ.d hE [19, 20, 21, 22, 23, 24, 25, 26, 27, 28, 29, 30, 31] [.int .i64 r.Gen, .slice al_p.l_b p.l.length al_p.l_c, .int .i64 r.At, .pointer (some ⟨b1, o1, none⟩), .int .i64 x1.gen] [(38, .bool (decide (r.Gen > x1.gen)))] (obs := [.cell ⟨r1, 1, none⟩ (.int .i64 r.Gen), .cell ⟨p_p, 1, none⟩ (.slice al_p.l_b p.l.length al_p.l_c), .cell ⟨r1, 0, none⟩ (.int .i64 r.At), .p ((al_p.l_b : Option Addr) = some ⟨b1, o1, none⟩), .p (0 ≤ (r.At : Int) ∧ (r.At : Int) < ((p.l.length : Nat) : Int)), .cell ⟨b1, o1 + (Int.toNat r.At) * 5, none⟩ (.int .i64 x1.gen)]) ⟨H.cell 3 rfl rfl, H.cell 0 rfl rfl, H.cell 3 rfl rfl, hs1, hb1, SlRd.cells (sl_rd 287 pool_place_slots_thing.enc 5 _ _ _) pool_place_slots_thing.enc_ok H 1 rfl hs1 ex1 0 _ rfl, trivial⟩ fun a hE => ?_
     refine WQ.done (by kernel_rfl) ?_
     replace H := pool_Pool_slots_thing.shut al_p (p) H.t2.t2.t2
     cases hm
     exact hk _ _ ⟨hE.sel [0, 3, 38] (by kernel_rfl), H.t1⟩
 rintro a w ⟨hE, H⟩
 refine Runs.cond hE rfl (fun c => ?_) (fun c => ?_)
 ·replace hm := cond_t c hm
  refine Runs.sr ?_
  refine WR.seg hE 2 [] [4, 5] (Lo := [(4, .pointer none), (5, .int .i64 22)]) (obs := []) rfl (by kernel_rfl) trivial fun a hE => ?_
  refine WR.done rfl ?_
  refine Runs.ret hE Tryz.func235 rfl rfl ?_
  cases hm
  exact ⟨rfl, H.x0⟩
 ·replace hm := cond_f c hm
  refine Runs.skip ?_
  refine Runs.seq ?_
  refine Runs.drawn mixed (by kernel_rfl) ?_
  replace H := H.drew
  replace H := pool_Pool_slots_thing.open H.t1
  obtain ⟨x2, ex2, hm⟩ := bind_some hm
  obtain ⟨b2, o2, hs2, hb2⟩ := SlRd.base (sl_rd 287 pool_place_slots_thing.enc 5 _ _ _) pool_place_slots_thing.enc_ok H 1 rfl ex2
  refine WQ.seg hE [0, 1, 2, 3, 4, 5, 6, 7] [.slice al_p.l_b p.l.length al_p.l_c, .int .i64 r.At, .pointer (some ⟨b2, o2, none⟩)] [3, 6] (Lo := [(3, .pointer (some ⟨r1, 0, none⟩)), (6, .pointer (some ⟨b2, o2 + (Int.toNat r.At) * 5, none⟩))]) (obs := [.cell ⟨p_p, 1, none⟩ (.slice al_p.l_b p.l.length al_p.l_c), .cell ⟨r1, 0, none⟩ (.int .i64 r.At), .p ((al_p.l_b : Option Addr) = some ⟨b2, o2, none⟩), .p (0 ≤ (r.At : Int) ∧ (r.At : Int) < ((p.l.length : Nat) : Int))]) (by kernel_rfl) (by kernel_rfl) ⟨H.cell 0 rfl rfl, H.cell 3 rfl rfl, hs2, hb2, trivial⟩ fun a hE => ?_
  refine WQ.done (by kernel_rfl) ?_
  refine Runs.seq ?_
  refine Runs.seq ?_
  refine Runs.join (fun a w => EnvOk 61 a [(6, .pointer (some ⟨b2, o2 + (Int.toNat r.At) * 5, none⟩)), (59, .bool ((decide (r.Gen < x2.gen)) || (!x2.taken)))] ∧ St w0 (Blk p_p 235 [.int .i64 p.most, .slice al_p.l_b p.l.length al_p.l_c, .slice al_p.free_b p.free.length al_p.free_c] :: Sl 287 pool_place_slots_thing.enc 5 al_p.l_b al_p.l_c p.l :: Sl 3 ecI 1 al_p.free_b al_p.free_c p.free :: Blk r1 26 [.int .i64 r.At, .int .i64 r.Gen] :: As) w) (fun hk => ?_) ?_
  ·clear hm
   refine Runs.drawn mixed (by kernel_rfl) ?_
   replace H := H.drew
   refine WQ.d hE [0, 1, 2, 3, 4, 5, 6, 7] [.int .i64 r.Gen, .int .i64 x2.gen] [(53, .bool (decide (r.Gen < x2.gen)))] (obs := [.cell ⟨r1, 1, none⟩ (.int .i64 r.Gen), .cell ⟨b2, o2 + (Int.toNat r.At) * 5, none⟩ (.int .i64 x2.gen)]) ⟨H.cell 3 rfl rfl, SlRd.cells (sl_rd 287 pool_place_slots_thing.enc 5 _ _ _) pool_place_slots_thing.enc_ok H 1 rfl hs2 ex2 0 _ rfl, trivial⟩ fun a hE => ?_
   rcases Bool.eq_false_or_eq_true (decide (r.Gen < x2.gen)) with c | c
   ·replace hE := hE.dec 53 c (by kernel_rfl)
    have c_6 := c
    refine WQ.d0 hE [8, 9, 10, 11, 12, 13] [(59, .bool true)] fun a hE => ?_
    refine WQ.done (by kernel_rfl) ?_
    refine hk _ _ ⟨?_, H.t3.t3.t3.t3⟩
    try rw [c_6] at hE
    try rw [c_6]
    exact hE.sel [6, 59] (by kernel_rfl)
   ·replace hE := hE.dec 53 c (by kernel_rfl)
    have c_7 := c
    refine WQ.d hE [8, 9, 10, 11, 12, 13] [.bool x2.taken] [(59, .bool (!x2.taken))] (obs := [.cell ⟨b2, o2 + (Int.toNat r.At) * 5 + 1, none⟩ (.bool x2.taken)]) ⟨SlRd.cells (sl_rd 287 pool_place_slots_thing.enc 5 _ _ _) pool_place_slots_thing.enc_ok H 1 rfl hs2 ex2 1 _ rfl, trivial⟩ fun a hE => ?_
    refine WQ.done (by kernel_rfl) ?_
    refine hk _ _ ⟨?_, H.t3.t3.t3.t3⟩
    try rw [c_7] at hE
    try rw [c_7]
    exact hE.sel [6, 59] (by kernel_rfl)
  rintro a w ⟨hE, H⟩
  refine Runs.cond hE rfl (fun c => ?_) (fun c => ?_)
  ·replace hm := cond_t c hm
   refine Runs.sr ?_
   refine WR.seg hE 2 [] [4, 5] (Lo := [(4, .pointer none), (5, .int .i64 23)]) (obs := []) rfl (by kernel_rfl) trivial fun a hE => ?_
   refine WR.done rfl ?_
   replace H := pool_Pool_slots_thing.shut al_p (p) H.t2.t2.t2
   refine Runs.ret hE Tryz.func235 rfl rfl ?_
   cases hm
   exact ⟨rfl, H.x1⟩
  ·replace hm := cond_f c hm
   refine Runs.skip ?_
   refine Runs.sr ?_
   refine WR.seg hE 3 [] [4, 5] (Lo := [(4, .pointer (some ⟨b2, o2 + (Int.toNat r.At) * 5, none⟩)), (5, .int .i64 0)]) (obs := []) rfl (by kernel_rfl) trivial fun a hE => ?_
   refine WR.done rfl ?_
   replace H := pool_Pool_slots_thing.shut al_p (p) H.t2.t2.t2
   refine Runs.ret hE Tryz.func235 rfl rfl ?_
   cases hm
   exact ⟨(by simp only [elemV_some hs2]; try rfl), H.x1⟩

theorem pool_Pool_slots_thing_Give_ok {w0 w : World} {As : List HP} {p_p : Nat} {al_p : pool_Pool_slots_thing.A} {p : pool_Pool_slots_thing} {r : api_Ref} {t : slots_thing × Int × pool_Pool_slots_thing}  (hm : pool_Pool_slots_thing_Give p r = some t) (H : St w0 (pool_Pool_slots_thing.R p_p al_p p :: As) w) :
    CallsR Tryz.prog 234 #[.pointer (some ⟨p_p, 0, none⟩), .agg #[.int .i64 r.At, .int .i64 r.Gen]] w fun v w' => ∃ (z_p_free_b : Option Addr), ∃ (z_p_free_c : Nat), v = .tuple #[.agg #[.int .i64 t.1.cell, .int .i64 t.1.heap.At, .int .i64 t.1.heap.Gen], .int .i64 t.2.1] ∧ St w0 (pool_Pool_slots_thing.R p_p (pool_Pool_slots_thing.A.mk al_p.l_b al_p.l_c z_p_free_b z_p_free_c) t.2.2 :: As) w' := by
 rw [pool_Pool_slots_thing_Give] at hm
 refine enter (args := [.pointer (some ⟨p_p, 0, none⟩), .agg #[.int .i64 r.At, .int .i64 r.Gen]]) Tryz.func234 rfl rfl rfl fun a hE => ?_
 refine Runs.sr ?_
 refine WR.eff hE rfl rfl rfl rfl (OpTo.new hE H [] (.cells #[.int .i64 r.At, .int .i64 r.Gen] 26 (0, 0)) (fun r => .pointer (some ⟨r, 0, none⟩)) (obs := []) rfl (fun _ => by kernel_rfl) trivial) ?_
 rintro _ w ⟨r1, rfl, H⟩ a hE
 refine WR.eff hE rfl rfl rfl rfl (OpTo.new hE H [] (.cells #[.int .i64 0, .int .i64 0, .int .i64 0] 177 (0, 0)) (fun r => .pointer (some ⟨r, 0, none⟩)) (obs := []) rfl (fun _ => by kernel_rfl) trivial) ?_
 rintro _ w ⟨r2, rfl, H⟩ a hE
 refine WR.seg hE 3 [] [0, 3, 4] (Lo := [(0, .pointer (some ⟨p_p, 0, none⟩)), (3, .pointer (some ⟨r1, 0, none⟩)), (4, .pointer (some ⟨r2, 0, none⟩))]) (obs := []) rfl (by kernel_rfl) trivial fun a hE => ?_
 refine WR.done rfl ?_
 refine Runs.sr ?_
 refine WR.eff hE rfl rfl rfl rfl (OpTo.new hE H [] (.cells #[.int .i64 0, .int .i64 0, .int .i64 0] 177 (0, 0)) (fun r => .pointer (some ⟨r, 0, none⟩)) (obs := []) rfl (fun _ => by kernel_rfl) trivial) ?_
 rintro _ w ⟨r3, rfl, H⟩ a hE
 refine WR.done rfl ?_
 refine Runs.sr ?_
 refine WR.d hE 2 [.int .i64 r.At, .int .i64 r.Gen] [(11, .pointer (some ⟨p_p, 0, none⟩)), (12, .agg #[.int .i64 r.At, .int .i64 r.Gen])] (obs := [.cell ⟨r1, 0, none⟩ (.int .i64 r.At), .cell ⟨r1, 1, none⟩ (.int .i64 r.Gen)]) ⟨H.cell 2 rfl rfl, H.cell 2 rfl rfl, trivial⟩ fun a hE => ?_
 obtain ⟨t_, et_, hm⟩ := bind_some hm
 refine WR.eff hE rfl rfl rfl rfl (OpTo.fn hE rfl rfl Tryz.call235 (pool_Pool_slots_thing_find_ok et_ H.t3)) ?_
 rintro _ w ⟨rfl, H⟩ a hE
 rcases ho : t_.1 with _ | i
 ·replace hm := case_n ho hm
  rw [ho] at hE
  refine WR.seg hE 8 [] [0, 3, 4, 6, 7, 8] (Lo := [(0, .pointer (some ⟨p_p, 0, none⟩)), (3, .pointer (some ⟨r1, 0, none⟩)), (4, .pointer (some ⟨r2, 0, none⟩)), (6, .pointer (some ⟨r3, 0, none⟩)), (7, .pointer none), (8, .int .i64 t_.2)]) (obs := []) rfl (by kernel_rfl) trivial fun a hE => ?_
  refine WR.done rfl ?_
  refine Runs.seq ?_
  refine Runs.sr ?_
  refine WR.e0 hE [(17, .bool (t_.2 != 0))] fun a hE => ?_
  refine Runs.cond hE rfl (fun c => ?_) (fun c => ?_)
  ·replace hm := cond_t c hm
   refine Runs.sr ?_
   refine WR.d hE 2 [.int .i64 0, .int .i64 0, .int .i64 0] [(18, .agg #[.int .i64 0, .int .i64 0, .int .i64 0]), (19, .int .i64 t_.2)] (obs := [.cell ⟨r3, 0, none⟩ (.int .i64 0), .cell ⟨r3, 1, none⟩ (.int .i64 0), .cell ⟨r3, 2, none⟩ (.int .i64 0)]) ⟨H.cell 1 rfl rfl, H.cell 1 rfl rfl, H.cell 1 rfl rfl, trivial⟩ fun a hE => ?_
   refine WR.eff0 hE rfl rfl rfl (OpTo.store hE H.t2 rfl rfl rfl rfl rfl rfl (Nat.le_of_ble_eq_true rfl)) ?_
   rintro _ w H a hE
   refine WR.e0 hE [(5, .int .i64 t_.2)] fun a hE => ?_
   refine Runs.retO (vs := [.agg #[.int .i64 0, .int .i64 0, .int .i64 0], .int .i64 t_.2]) (obs := [.cell ⟨r2, 0, none⟩ (.int .i64 0), .cell ⟨r2, 1, none⟩ (.int .i64 0), .cell ⟨r2, 2, none⟩ (.int .i64 0)]) hE Tryz.func234 rfl [.int .i64 0, .int .i64 0, .int .i64 0] (by kernel_rfl) ⟨H.cell 0 rfl rfl, H.cell 0 rfl rfl, H.cell 0 rfl rfl, trivial⟩ ?_
   cases hm
   exact ⟨al_p.free_b, al_p.free_c, rfl, H.x3.x2.x0⟩
  ·replace hm := cond_f c hm
   refine Runs.skip ?_
   refine Runs.sr ?_
   cases hm
 ·replace hm := case_s ho hm
  replace H := pool_Pool_slots_thing.open H
  obtain ⟨x, ex, hm⟩ := bind_some hm
  obtain ⟨b, o, hs, hb⟩ := SlRd.base (sl_rd 287 pool_place_slots_thing.enc 5 _ _ _) pool_place_slots_thing.enc_ok H 1 rfl ex
  rw [ho, elemV_some hs] at hE
  refine WR.seg hE 8 [] [0, 3, 4, 6, 7, 8] (Lo := [(0, .pointer (some ⟨p_p, 0, none⟩)), (3, .pointer (some ⟨r1, 0, none⟩)), (4, .pointer (some ⟨r2, 0, none⟩)), (6, .pointer (some ⟨r3, 0, none⟩)), (7, .pointer (some ⟨b, o + (Int.toNat i) * 5, none⟩)), (8, .int .i64 t_.2)]) (obs := []) rfl (by kernel_rfl) trivial fun a hE => ?_
  refine WR.done rfl ?_
  refine Runs.seq ?_
  refine Runs.sr ?_
  refine WR.e0 hE [(17, .bool (t_.2 != 0))] fun a hE => ?_
  refine Runs.cond hE rfl (fun c => ?_) (fun c => ?_)
  ·replace hm := cond_t c hm
   refine Runs.sr ?_
   refine WR.d hE 2 [.int .i64 0, .int .i64 0, .int .i64 0] [(18, .agg #[.int .i64 0, .int .i64 0, .int .i64 0]), (19, .int .i64 t_.2)] (obs := [.cell ⟨r3, 0, none⟩ (.int .i64 0), .cell ⟨r3, 1, none⟩ (.int .i64 0), .cell ⟨r3, 2, none⟩ (.int .i64 0)]) ⟨H.cell 3 rfl rfl, H.cell 3 rfl rfl, H.cell 3 rfl rfl, trivial⟩ fun a hE => ?_
   refine WR.eff0 hE rfl rfl rfl (OpTo.store hE H.t4 rfl rfl rfl rfl rfl rfl (Nat.le_of_ble_eq_true rfl)) ?_
   rintro _ w H a hE
   refine WR.e0 hE [(5, .int .i64 t_.2)] fun a hE => ?_
   refine Runs.retO (vs := [.agg #[.int .i64 0, .int .i64 0, .int .i64 0], .int .i64 t_.2]) (obs := [.cell ⟨r2, 0, none⟩ (.int .i64 0), .cell ⟨r2, 1, none⟩ (.int .i64 0), .cell ⟨r2, 2, none⟩ (.int .i64 0)]) hE Tryz.func234 rfl [.int .i64 0, .int .i64 0, .int .i64 0] (by kernel_rfl) ⟨H.cell 0 rfl rfl, H.cell 0 rfl rfl, H.cell 0 rfl rfl, trivial⟩ ?_
   replace H := pool_Pool_slots_thing.shut al_p (p) H.t3.t3.t3
   cases hm
   exact ⟨al_p.free_b, al_p.free_c, rfl, H.x3.x2.x1⟩
  ·replace hm := cond_f c hm
   refine Runs.skip ?_
   refine Runs.sr ?_
   refine WR.d hE 4 [.int .i64 x.v_.cell, .int .i64 x.v_.heap.At, .int .i64 x.v_.heap.Gen] [(23, .agg #[.int .i64 x.v_.cell, .int .i64 x.v_.heap.At, .int .i64 x.v_.heap.Gen])] (obs := [.cell ⟨b, o + (Int.toNat i) * 5 + 2, none⟩ (.int .i64 x.v_.cell), .cell ⟨b, o + (Int.toNat i) * 5 + 3, none⟩ (.int .i64 x.v_.heap.At), .cell ⟨b, o + (Int.toNat i) * 5 + 4, none⟩ (.int .i64 x.v_.heap.Gen)]) ⟨SlRd.cells (sl_rd 287 pool_place_slots_thing.enc 5 _ _ _) pool_place_slots_thing.enc_ok H 1 rfl hs ex 2 _ rfl, SlRd.cells (sl_rd 287 pool_place_slots_thing.enc 5 _ _ _) pool_place_slots_thing.enc_ok H 1 rfl hs ex 3 _ rfl, SlRd.cells (sl_rd 287 pool_place_slots_thing.enc 5 _ _ _) pool_place_slots_thing.enc_ok H 1 rfl hs ex 4 _ rfl, trivial⟩ fun a hE => ?_
   refine WR.eff hE rfl rfl rfl rfl (OpTo.new hE H [] (.cells #[.int .i64 0, .int .i64 0, .int .i64 0] 177 (0, 0)) (fun r => .pointer (some ⟨r, 0, none⟩)) (obs := []) rfl (fun _ => by kernel_rfl) trivial) ?_
   rintro _ w ⟨r4, rfl, H⟩ a hE
   refine WR.eff0 hE rfl rfl rfl (OpTo.store hE H rfl rfl rfl rfl rfl rfl (Nat.le_of_ble_eq_true rfl)) ?_
   rintro _ w H a hE
   refine WR.done rfl ?_
   refine Runs.seq ?_
   refine Runs.drawn mixed (by kernel_rfl) ?_
   replace H := H.drew
   refine WQ.d hE [0, 1, 2, 3, 4] [.int .i64 0, .int .i64 0, .int .i64 0] [(25, .pointer (some ⟨b, o + (Int.toNat i) * 5, none⟩)), (26, .agg #[.int .i64 0, .int .i64 0, .int .i64 0]), (28, .pointer (some ⟨b, o + (Int.toNat i) * 5 + 1, none⟩))] (obs := [.cell ⟨r3, 0, none⟩ (.int .i64 0), .cell ⟨r3, 1, none⟩ (.int .i64 0), .cell ⟨r3, 2, none⟩ (.int .i64 0)]) ⟨H.cell 4 rfl rfl, H.cell 4 rfl rfl, H.cell 4 rfl rfl, trivial⟩ fun a hE => ?_
   refine WQ.eff0 (j := 5) (obs := [.cell ⟨r3, 0, none⟩ (.int .i64 0), .cell ⟨r3, 1, none⟩ (.int .i64 0), .cell ⟨r3, 2, none⟩ (.int .i64 0)]) hE (by kernel_rfl) rfl rfl rfl (by kernel_rfl) (OpTo.storeSl (q := 1) (x' := (pool_place_slots_thing.mk x.gen false x.v_)) hE H.t2 pool_place_slots_thing.enc_ok rfl hs ex rfl rfl rfl rfl rfl (Nat.le_of_ble_eq_true rfl) rfl) ?_
   rintro _ w H
   rw [← mSet_len p.l i (pool_place_slots_thing.mk x.gen false x.v_)] at H
   refine ⟨⟨H.cell 4 rfl rfl, H.cell 4 rfl rfl, H.cell 4 rfl rfl, trivial⟩, fun a hE => ?_⟩
   refine WQ.d0 hE [6, 7] [(30, .pointer (some ⟨b, o + (Int.toNat i) * 5 + 2, none⟩))] fun a hE => ?_
   refine WQ.eff0 (j := 8) (obs := []) hE (by kernel_rfl) rfl rfl rfl (by kernel_rfl) (OpTo.storeSl (q := 2) (x' := (pool_place_slots_thing.mk x.gen false (slots_thing.mk 0 (api_Ref.mk 0 0)))) hE H pool_place_slots_thing.enc_ok rfl hs (mSet_at ex) rfl rfl rfl rfl rfl (Nat.le_of_ble_eq_true rfl) rfl) ?_
   rintro _ w H
   rw [← mSet_len (mSet p.l i (pool_place_slots_thing.mk x.gen false x.v_)) i (pool_place_slots_thing.mk x.gen false (slots_thing.mk 0 (api_Ref.mk 0 0)))] at H
   refine ⟨trivial, fun a hE => ?_⟩
   refine WQ.done (by kernel_rfl) ?_
   refine Runs.seq ?_
   refine Runs.drawn mixed (by kernel_rfl) ?_
   replace H := H.drew
   refine WQ.d hE [0, 1, 2, 3, 4, 5, 6] [.slice al_p.free_b p.free.length al_p.free_c, .int .i64 r.At] [(31, .pointer (some ⟨p_p, 0, none⟩)), (35, .slice al_p.free_b p.free.length al_p.free_c), (37, .int .i64 r.At)] (obs := [.cell ⟨p_p, 2, none⟩ (.slice al_p.free_b p.free.length al_p.free_c), .cell ⟨r1, 0, none⟩ (.int .i64 r.At)]) ⟨H.cell 2 rfl rfl, H.cell 6 rfl rfl, trivial⟩ fun a hE => ?_
   refine WQ.eff (j := 7) (obs := [.cell ⟨p_p, 2, none⟩ (.slice al_p.free_b p.free.length al_p.free_c)]) hE (by kernel_rfl) rfl rfl rfl rfl (by kernel_rfl) (OpTo.buildSl (T := 3) hE H ecI_ok ([r.At] : List Int) rfl (fun _ => by kernel_rfl) rfl rfl rfl) ?_
   rintro _ w ⟨r5, rfl, H⟩
   refine ⟨⟨H.cell 3 rfl rfl, trivial⟩, fun a hE => ?_⟩
   obtain ⟨l, el, hm⟩ := bind_some hm
   replace H := H.t4
   refine WQ.eff (j := 8) (obs := []) hE (by kernel_rfl) rfl rfl rfl rfl (by kernel_rfl) (OpTo.appendM el hE H ecI_ok rfl rfl rfl rfl rfl rfl rfl rfl rfl rfl (SlRd.all (sl_rd 3 ecI 1 _ _ _) ecI_ok H 1 rfl) rfl) ?_
   rintro _ w ⟨sb, sc, rfl, H⟩
   refine ⟨trivial, fun a hE => ?_⟩
   refine WQ.d0 hE [9, 10] [(41, .pointer (some ⟨p_p, 2, none⟩))] fun a hE => ?_
   refine WQ.eff0 (j := 11) (obs := []) hE (by kernel_rfl) rfl rfl rfl (by kernel_rfl) (OpTo.store hE H.t4 rfl rfl rfl rfl rfl rfl (Nat.le_of_ble_eq_true rfl)) ?_
   rintro _ w H
   refine ⟨trivial, fun a hE => ?_⟩
   refine WQ.done (by kernel_rfl) ?_
   refine Runs.sr ?_
   refine WR.d hE 1 [.int .i64 x.v_.cell, .int .i64 x.v_.heap.At, .int .i64 x.v_.heap.Gen] [(42, .agg #[.int .i64 x.v_.cell, .int .i64 x.v_.heap.At, .int .i64 x.v_.heap.Gen])] (obs := [.cell ⟨r4, 0, none⟩ (.int .i64 x.v_.cell), .cell ⟨r4, 1, none⟩ (.int .i64 x.v_.heap.At), .cell ⟨r4, 2, none⟩ (.int .i64 x.v_.heap.Gen)]) ⟨H.cell 4 rfl rfl, H.cell 4 rfl rfl, H.cell 4 rfl rfl, trivial⟩ fun a hE => ?_
   refine WR.eff0 hE rfl rfl rfl (OpTo.store hE H.t6 rfl rfl rfl rfl rfl rfl (Nat.le_of_ble_eq_true rfl)) ?_
   rintro _ w H a hE
   refine WR.e0 hE [(5, .int .i64 0)] fun a hE => ?_
   refine Runs.retO (vs := [.agg #[.int .i64 x.v_.cell, .int .i64 x.v_.heap.At, .int .i64 x.v_.heap.Gen], .int .i64 0]) (obs := [.cell ⟨r2, 0, none⟩ (.int .i64 x.v_.cell), .cell ⟨r2, 1, none⟩ (.int .i64 x.v_.heap.At), .cell ⟨r2, 2, none⟩ (.int .i64 x.v_.heap.Gen)]) hE Tryz.func234 rfl [.int .i64 x.v_.cell, .int .i64 x.v_.heap.At, .int .i64 x.v_.heap.Gen] (by kernel_rfl) ⟨H.cell 0 rfl rfl, H.cell 0 rfl rfl, H.cell 0 rfl rfl, trivial⟩ ?_
   replace H := pool_Pool_slots_thing.shut (pool_Pool_slots_thing.A.mk al_p.l_b al_p.l_c sb sc) (pool_Pool_slots_thing.mk p.most (mSet (mSet p.l i (pool_place_slots_thing.mk x.gen false x.v_)) i (pool_place_slots_thing.mk x.gen false (slots_thing.mk 0 (api_Ref.mk 0 0)))) l) H.t2.t4.t3
   cases hm
   exact ⟨sb, sc, rfl, H.x5.x4.x3.x2.x1⟩

theorem slots_Table_Take_ok {w0 w : World} {As : List HP} {p_t_ : Nat} {al_t_ : slots_Table.A} {t_ : slots_Table} {i : api_Ref} {t : Int × Int × slots_Table}  (hm : slots_Table_Take t_ i = some t) (H : St w0 (slots_Table.R p_t_ al_t_ t_ :: As) w) :
    CallsR Tryz.prog 171 #[.pointer (some ⟨p_t_, 0, none⟩), .agg #[.int .i64 i.At, .int .i64 i.Gen]] w fun v w' => ∃ (z_t__items_a : pool_Pool_slots_thing.A), v = .tuple #[.int .i64 t.1, .int .i64 t.2.1] ∧ St w0 (slots_Table.R p_t_ (slots_Table.A.mk al_t_.heaps_p al_t_.heaps_a al_t_.items_p z_t__items_a al_t_.at__p) t.2.2 :: As) w' := by
 rw [slots_Table_Take] at hm
 refine enter (args := [.pointer (some ⟨p_t_, 0, none⟩), .agg #[.int .i64 i.At, .int .i64 i.Gen]]) Tryz.func171 rfl rfl rfl fun a hE => ?_
 refine Runs.sr ?_
 refine WR.eff hE rfl rfl rfl rfl (OpTo.new hE H [] (.cells #[.int .i64 i.At, .int .i64 i.Gen] 26 (0, 0)) (fun r => .pointer (some ⟨r, 0, none⟩)) (obs := []) rfl (fun _ => by kernel_rfl) trivial) ?_
 rintro _ w ⟨r, rfl, H⟩ a hE
 refine WR.seg hE 3 [] [0, 3] (Lo := [(0, .pointer (some ⟨p_t_, 0, none⟩)), (3, .pointer (some ⟨r, 0, none⟩))]) (obs := []) rfl (by kernel_rfl) trivial fun a hE => ?_
 refine WR.done rfl ?_
 refine Runs.seq ?_
 obtain ⟨t_1, et_1, hm⟩ := bind_some hm
 refine Runs.join (fun a w => ∃ (r2 : Nat), ∃ (z2 : pool_Pool_slots_thing.A), EnvOk 28 a [(0, .pointer (some ⟨p_t_, 0, none⟩)), (6, .pointer (some ⟨r2, 0, none⟩)), (7, .int .i64 t_1.2.1)] ∧ St w0 (Blk r2 177 [.int .i64 t_1.1.cell, .int .i64 t_1.1.heap.At, .int .i64 t_1.1.heap.Gen] :: slots_Table.R p_t_ (slots_Table.A.mk al_t_.heaps_p al_t_.heaps_a al_t_.items_p z2 al_t_.at__p) (slots_Table.mk t_.heaps t_1.2.2 t_.at_) :: As) w) (fun hk => ?_) ?_
 ·refine Runs.drawn mixed (by kernel_rfl) ?_
  replace H := H.drew
  replace H := slots_Table.open H.t1
  refine WQ.d hE [0, 1, 2, 3, 4] [.pointer (some ⟨al_t_.items_p, 0, none⟩), .int .i64 i.At, .int .i64 i.Gen] [(12, .pointer (some ⟨al_t_.items_p, 0, none⟩)), (13, .agg #[.int .i64 i.At, .int .i64 i.Gen])] (obs := [.cell ⟨p_t_, 1, none⟩ (.pointer (some ⟨al_t_.items_p, 0, none⟩)), .cell ⟨r, 0, none⟩ (.int .i64 i.At), .cell ⟨r, 1, none⟩ (.int .i64 i.Gen)]) ⟨H.cell 0 rfl rfl, H.cell 4 rfl rfl, H.cell 4 rfl rfl, trivial⟩ fun a hE => ?_
  refine WQ.act2 5 9 (by kernel_rfl) ?_ ?_
  ·refine AQ.eff (j := 5) (obs := []) hE rfl rfl rfl rfl (by kernel_rfl) (OpTo.fn hE rfl rfl Tryz.call234 (pool_Pool_slots_thing_Give_ok et_1 H.t2)) ?_
   rintro _ w ⟨z3, z4, rfl, H⟩
   refine ⟨trivial, fun a hE => ?_⟩
   refine WQ.d0 hE [6, 7, 8] [(15, .agg #[.int .i64 t_1.1.cell, .int .i64 t_1.1.heap.At, .int .i64 t_1.1.heap.Gen]), (16, .int .i64 t_1.2.1)] fun a hE => ?_
   refine WQ.eff (j := 9) (obs := []) hE (by kernel_rfl) rfl rfl rfl rfl (by kernel_rfl) (OpTo.new hE H [] (.cells #[.int .i64 0, .int .i64 0, .int .i64 0] 177 (0, 0)) (fun r => .pointer (some ⟨r, 0, none⟩)) (obs := []) rfl (fun _ => by kernel_rfl) trivial) ?_
   rintro _ w ⟨r3, rfl, H⟩
   refine ⟨trivial, fun a hE => ?_⟩
   refine WQ.eff0 (j := 10) (obs := []) hE (by kernel_rfl) rfl rfl rfl (by kernel_rfl) (OpTo.store hE H rfl rfl rfl rfl rfl rfl (Nat.le_of_ble_eq_true rfl)) ?_
   rintro _ w H
   refine ⟨trivial, fun a hE => ?_⟩
   refine WQ.d0 hE [11] [(7, .int .i64 t_1.2.1)] fun a hE => ?_
   refine WQ.done (by kernel_rfl) ?_
   replace H := slots_Table.shut (slots_Table.A.mk al_t_.heaps_p al_t_.heaps_a al_t_.items_p (pool_Pool_slots_thing.A.mk al_t_.items_a.l_b al_t_.items_a.l_c z3 z4) al_t_.at__p) (slots_Table.mk t_.heaps t_1.2.2 t_.at_) H.t4.t2.t4.t4
   exact hk _ _ ⟨r3, pool_Pool_slots_thing.A.mk al_t_.items_a.l_b al_t_.items_a.l_c z3 z4, hE.sel [0, 6, 7] (by kernel_rfl), H.x2.t1⟩
  ·refine AQ.eff (j := 9) (obs := [.cell ⟨r, 0, none⟩ (.int .i64 i.At), .cell ⟨r, 1, none⟩ (.int .i64 i.Gen), .cell ⟨p_t_, 1, none⟩ (.pointer (some ⟨al_t_.items_p, 0, none⟩))]) hE rfl rfl rfl rfl (by kernel_rfl) (OpTo.new hE H [] (.cells #[.int .i64 0, .int .i64 0, .int .i64 0] 177 (0, 0)) (fun r => .pointer (some ⟨r, 0, none⟩)) (obs := []) rfl (fun _ => by kernel_rfl) trivial) ?_
   rintro _ w ⟨r4, rfl, H⟩
   refine ⟨⟨H.cell 5 rfl rfl, H.cell 5 rfl rfl, H.cell 1 rfl rfl, trivial⟩, fun a hE => ?_⟩
   refine WQ.eff (j := 5) (obs := []) hE (by kernel_rfl) rfl rfl rfl rfl (by kernel_rfl) (OpTo.fn hE rfl rfl Tryz.call234 (pool_Pool_slots_thing_Give_ok et_1 H.t3)) ?_
   rintro _ w ⟨z5, z6, rfl, H⟩
   refine ⟨trivial, fun a hE => ?_⟩
   refine WQ.d0 hE [6, 7, 8] [(15, .agg #[.int .i64 t_1.1.cell, .int .i64 t_1.1.heap.At, .int .i64 t_1.1.heap.Gen]), (16, .int .i64 t_1.2.1)] fun a hE => ?_
   refine WQ.eff0 (j := 10) (obs := []) hE (by kernel_rfl) rfl rfl rfl (by kernel_rfl) (OpTo.store hE H.t1 rfl rfl rfl rfl rfl rfl (Nat.le_of_ble_eq_true rfl)) ?_
   rintro _ w H
   refine ⟨trivial, fun a hE => ?_⟩
   refine WQ.d0 hE [11] [(7, .int .i64 t_1.2.1)] fun a hE => ?_
   refine WQ.done (by kernel_rfl) ?_
   replace H := slots_Table.shut (slots_Table.A.mk al_t_.heaps_p al_t_.heaps_a al_t_.items_p (pool_Pool_slots_thing.A.mk al_t_.items_a.l_b al_t_.items_a.l_c z5 z6) al_t_.at__p) (slots_Table.mk t_.heaps t_1.2.2 t_.at_) H.t4.t2.t4.t4
   exact hk _ _ ⟨r4, pool_Pool_slots_thing.A.mk al_t_.items_a.l_b al_t_.items_a.l_c z5 z6, hE.sel [0, 6, 7] (by kernel_rfl), H.x2.t1⟩
 rintro a w ⟨r2, z2, hE, H⟩
 refine Runs.seq ?_
 refine Runs.sr ?_
 refine WR.seg hE 2 [] [0, 6, 7, 18] (Lo := [(0, .pointer (some ⟨p_t_, 0, none⟩)), (6, .pointer (some ⟨r2, 0, none⟩)), (7, .int .i64 t_1.2.1), (18, .bool (t_1.2.1 == 0))]) (obs := []) rfl (by kernel_rfl) trivial fun a hE => ?_
 refine WR.done rfl ?_
 obtain ⟨s, es, hm⟩ := bind_some hm
 refine Runs.join (fun a w => EnvOk 28 a [(6, .pointer (some ⟨r2, 0, none⟩)), (7, .int .i64 t_1.2.1)] ∧ St w0 (Blk r2 177 [.int .i64 t_1.1.cell, .int .i64 t_1.1.heap.At, .int .i64 t_1.1.heap.Gen] :: slots_Table.R p_t_ (slots_Table.A.mk al_t_.heaps_p al_t_.heaps_a al_t_.items_p z2 al_t_.at__p) s :: As) w) (fun hk => ?_) ?_
 ·replace hm := es; clear es
  refine Runs.cond hE rfl (fun c => ?_) (fun c => ?_)
  ·replace hm := cond_t c hm
   refine Runs.drawn mixed (by kernel_rfl) ?_
   replace H := H.drew
   replace H := slots_Table.open H.t1
   try dsimp only at H
   refine WQ.d hE [0, 1, 2, 3, 4, 5] [.map (some al_t_.at__p), .int .i64 t_1.1.cell] [(22, .map (some al_t_.at__p)), (24, .int .i64 t_1.1.cell)] (obs := [.cell ⟨p_t_, 2, none⟩ (.map (some al_t_.at__p)), .cell ⟨r2, 0, none⟩ (.int .i64 t_1.1.cell)]) ⟨H.cell 0 rfl rfl, H.cell 4 rfl rfl, trivial⟩ fun a hE => ?_
   refine WQ.eff0 (j := 6) (obs := []) hE (by kernel_rfl) rfl rfl rfl (by kernel_rfl) (OpTo.mpDel (k := t_1.1.cell) hE H.t3 (KeyOk.int rfl) rfl rfl rfl rfl rfl) ?_
   rintro _ w ⟨rfl, H⟩
   refine ⟨trivial, fun a hE => ?_⟩
   refine WQ.done (by kernel_rfl) ?_
   replace H := slots_Table.shut (slots_Table.A.mk al_t_.heaps_p al_t_.heaps_a al_t_.items_p z2 al_t_.at__p) (slots_Table.mk ((slots_Table.mk t_.heaps t_1.2.2 t_.at_).heaps) ((slots_Table.mk t_.heaps t_1.2.2 t_.at_).items) (mDel kI t_1.1.cell ((slots_Table.mk t_.heaps t_1.2.2 t_.at_).at_))) H.t3.t3.t3
   cases hm
   exact hk _ _ ⟨hE.sel [6, 7] (by kernel_rfl), H.t1⟩
  ·replace hm := cond_f c hm
   refine Runs.skip ?_
   cases hm
   exact hk _ _ ⟨hE.sel [6, 7] (by kernel_rfl), H.t1.t1⟩
 rintro a w ⟨hE, H⟩
 refine Runs.sr ?_
 refine WR.seg hE 5 [.int .i64 t_1.1.cell] [4, 5] (Lo := [(4, .int .i64 t_1.1.cell), (5, .int .i64 t_1.2.1)]) (obs := [.cell ⟨r2, 0, none⟩ (.int .i64 t_1.1.cell)]) rfl (by kernel_rfl) ⟨H.cell 0 rfl rfl, trivial⟩ fun a hE => ?_
 refine WR.done rfl ?_
 refine Runs.ret hE Tryz.func171 rfl rfl ?_
 cases hm
 exact ⟨z2, rfl, H.x0⟩

theorem pq_Queues_gone_ok {w0 w : World} {As : List HP} {p_q : Nat} {al_q : pq_Queues.A} {q : pq_Queues} {i : api_Ref} {t : api_Entry × pq_Queues}  (hm : pq_Queues_gone q i = some t) (H : St w0 (pq_Queues.R p_q al_q q :: As) w) :
    CallsR Tryz.prog 112 #[.pointer (some ⟨p_q, 0, none⟩), .agg #[.int .i64 i.At, .int .i64 i.Gen]] w fun v w' => ∃ (z_q_a__a : arena_Arena.A), ∃ (z_q_t__a : slots_Table.A), v = .agg #[.int .i64 t.1.Key, .int .i64 t.1.Serial] ∧ St w0 (pq_Queues.R p_q (pq_Queues.A.mk al_q.a__p z_q_a__a al_q.t__p z_q_t__a al_q.entries_p) t.2 :: As) w' := by
 rw [pq_Queues_gone] at hm
 refine enter (args := [.pointer (some ⟨p_q, 0, none⟩), .agg #[.int .i64 i.At, .int .i64 i.Gen]]) Tryz.func112 rfl rfl rfl fun a hE => ?_
 refine Runs.sr ?_
 refine WR.eff hE rfl rfl rfl rfl (OpTo.new hE H [] (.cells #[.int .i64 i.At, .int .i64 i.Gen] 26 (0, 0)) (fun r => .pointer (some ⟨r, 0, none⟩)) (obs := []) rfl (fun _ => by kernel_rfl) trivial) ?_
 rintro _ w ⟨r, rfl, H⟩ a hE
 refine WR.eff hE rfl rfl rfl rfl (OpTo.new hE H [] (.cells #[.int .i64 0, .int .i64 0] 84 (0, 0)) (fun r => .pointer (some ⟨r, 0, none⟩)) (obs := []) rfl (fun _ => by kernel_rfl) trivial) ?_
 rintro _ w ⟨r1, rfl, H⟩ a hE
 refine WR.done rfl ?_
 refine Runs.seq ?_
 refine Runs.drawn mixed (by kernel_rfl) ?_
 replace H := H.drew
 replace H := pq_Queues.open H.t2
 refine WQ.seg hE [0, 1, 2, 3, 4] [.pointer (some ⟨al_q.t__p, 0, none⟩), .int .i64 i.At, .int .i64 i.Gen] [0, 3, 4, 12, 13] (Lo := [(0, .pointer (some ⟨p_q, 0, none⟩)), (3, .pointer (some ⟨r, 0, none⟩)), (4, .pointer (some ⟨r1, 0, none⟩)), (12, .pointer (some ⟨al_q.t__p, 0, none⟩)), (13, .agg #[.int .i64 i.At, .int .i64 i.Gen])]) (obs := [.cell ⟨p_q, 2, none⟩ (.pointer (some ⟨al_q.t__p, 0, none⟩)), .cell ⟨r, 0, none⟩ (.int .i64 i.At), .cell ⟨r, 1, none⟩ (.int .i64 i.Gen)]) (by kernel_rfl) (by kernel_rfl) ⟨H.cell 0 rfl rfl, H.cell 5 rfl rfl, H.cell 5 rfl rfl, trivial⟩ fun a hE => ?_
 obtain ⟨t_, et_, hm⟩ := bind_some hm
 refine WQ.eff (j := 5) (obs := []) hE (by kernel_rfl) rfl rfl rfl rfl (by kernel_rfl) (OpTo.fn hE rfl rfl Tryz.call171 (slots_Table_Take_ok et_ H.t2)) ?_
 rintro _ w ⟨z, rfl, H⟩
 refine ⟨trivial, fun a hE => ?_⟩
 refine WQ.d0 hE [6, 7, 8, 9, 10] [(5, .int .i64 t_.1)] fun a hE => ?_
 refine WQ.done (by kernel_rfl) ?_
 refine Runs.sr ?_
 refine WR.d hE 5 [.pointer (some ⟨al_q.a__p, 0, none⟩)] [(20, .pointer (some ⟨al_q.a__p, 0, none⟩)), (21, .int .i64 t_.1)] (obs := [.cell ⟨p_q, 1, none⟩ (.pointer (some ⟨al_q.a__p, 0, none⟩))]) ⟨H.cell 1 rfl rfl, trivial⟩ fun a hE => ?_
 obtain ⟨t_1, et_1, hm⟩ := bind_some hm
 refine WR.eff hE rfl rfl rfl rfl (OpTo.fn hE rfl rfl Tryz.call172 (arena_Arena_Give_ok et_1 H.t2)) ?_
 rintro _ w ⟨z1, z2, rfl, H⟩ a hE
 refine WR.done rfl ?_
 refine Runs.seq ?_
 replace H := pq_Queues.shut (pq_Queues.A.mk al_q.a__p (arena_Arena.A.mk al_q.a__a.l_b al_q.a__a.l_c z1 z2 al_q.a__a.m__p) al_q.t__p (slots_Table.A.mk al_q.t__a.heaps_p al_q.t__a.heaps_a al_q.t__a.items_p z al_q.t__a.at__p) al_q.entries_p) (pq_Queues.mk q.items t_1.2 t_.2.2 q.entries q.serial) H.t3.t2.t2.t3
 obtain ⟨x, ex, hm⟩ := bind_some hm
 refine Runs.join (fun a w => ∃ (r3 : Nat), EnvOk 35 a [(0, .pointer (some ⟨p_q, 0, none⟩)), (3, .pointer (some ⟨r, 0, none⟩)), (4, .pointer (some ⟨r1, 0, none⟩)), (7, .pointer (some ⟨r3, 0, none⟩))] ∧ St w0 (Blk r3 84 [.int .i64 x.1.Key, .int .i64 x.1.Serial] :: pq_Queues.R p_q (pq_Queues.A.mk al_q.a__p (arena_Arena.A.mk al_q.a__a.l_b al_q.a__a.l_c z1 z2 al_q.a__a.m__p) al_q.t__p (slots_Table.A.mk al_q.t__a.heaps_p al_q.t__a.heaps_a al_q.t__a.items_p z al_q.t__a.at__p) al_q.entries_p) (pq_Queues.mk q.items t_1.2 t_.2.2 q.entries q.serial) :: Blk r1 84 [.int .i64 0, .int .i64 0] :: Blk r 26 [.int .i64 i.At, .int .i64 i.Gen] :: As) w) (fun hk => ?_) ?_
 ·refine Runs.drawn mixed (by kernel_rfl) ?_
  replace H := H.drew
  replace H := pq_Queues.open H
  try dsimp only at H
  refine WQ.d hE [0, 1, 2, 3, 4] [.map (some al_q.entries_p), .int .i64 i.At, .int .i64 i.Gen] [(26, .map (some al_q.entries_p)), (27, .agg #[.int .i64 i.At, .int .i64 i.Gen])] (obs := [.cell ⟨p_q, 3, none⟩ (.map (some al_q.entries_p)), .cell ⟨r, 0, none⟩ (.int .i64 i.At), .cell ⟨r, 1, none⟩ (.int .i64 i.Gen)]) ⟨H.cell 0 rfl rfl, H.cell 5 rfl rfl, H.cell 5 rfl rfl, trivial⟩ fun a hE => ?_
  refine WQ.act2 5 6 (by kernel_rfl) ?_ ?_
  ·refine AQ.eff (j := 5) (obs := []) hE rfl rfl rfl rfl (by kernel_rfl) (OpTo.mpGet 3 hE H rfl api_Ref.key_ok ex rfl rfl rfl rfl rfl rfl) ?_
   rintro _ _ ⟨rfl, rfl⟩
   refine ⟨trivial, fun a hE => ?_⟩
   refine WQ.eff (j := 6) (obs := []) hE (by kernel_rfl) rfl rfl rfl rfl (by kernel_rfl) (OpTo.new hE H [] (.cells #[.int .i64 0, .int .i64 0] 84 (0, 0)) (fun r => .pointer (some ⟨r, 0, none⟩)) (obs := []) rfl (fun _ => by kernel_rfl) trivial) ?_
   rintro _ w ⟨r4, rfl, H⟩
   refine ⟨trivial, fun a hE => ?_⟩
   refine WQ.eff0 (j := 7) (obs := []) hE (by kernel_rfl) rfl rfl rfl (by kernel_rfl) (OpTo.store hE H rfl rfl rfl rfl rfl rfl (Nat.le_of_ble_eq_true rfl)) ?_
   rintro _ w H
   refine ⟨trivial, fun a hE => ?_⟩
   refine WQ.done (by kernel_rfl) ?_
   replace H := pq_Queues.shut (pq_Queues.A.mk al_q.a__p (arena_Arena.A.mk al_q.a__a.l_b al_q.a__a.l_c z1 z2 al_q.a__a.m__p) al_q.t__p (slots_Table.A.mk al_q.t__a.heaps_p al_q.t__a.heaps_a al_q.t__a.items_p z al_q.t__a.at__p) al_q.entries_p) (pq_Queues.mk q.items t_1.2 t_.2.2 q.entries q.serial) H.t4.t4.t4.t4
   exact hk _ _ ⟨r4, hE.sel [0, 3, 4, 7] (by kernel_rfl), H.t3.t3.t2.t3⟩
  ·refine AQ.eff (j := 6) (obs := [.cell ⟨r, 0, none⟩ (.int .i64 i.At), .cell ⟨r, 1, none⟩ (.int .i64 i.Gen), .cell ⟨p_q, 3, none⟩ (.map (some al_q.entries_p))]) hE rfl rfl rfl rfl (by kernel_rfl) (OpTo.new hE H [] (.cells #[.int .i64 0, .int .i64 0] 84 (0, 0)) (fun r => .pointer (some ⟨r, 0, none⟩)) (obs := []) rfl (fun _ => by kernel_rfl) trivial) ?_
   rintro _ w ⟨r5, rfl, H⟩
   refine ⟨⟨H.cell 6 rfl rfl, H.cell 6 rfl rfl, H.cell 1 rfl rfl, trivial⟩, fun a hE => ?_⟩
   refine WQ.eff (j := 5) (obs := []) hE (by kernel_rfl) rfl rfl rfl rfl (by kernel_rfl) (OpTo.mpGet 4 hE H rfl api_Ref.key_ok ex rfl rfl rfl rfl rfl rfl) ?_
   rintro _ _ ⟨rfl, rfl⟩
   refine ⟨trivial, fun a hE => ?_⟩
   refine WQ.eff0 (j := 7) (obs := []) hE (by kernel_rfl) rfl rfl rfl (by kernel_rfl) (OpTo.store hE H rfl rfl rfl rfl rfl rfl (Nat.le_of_ble_eq_true rfl)) ?_
   rintro _ w H
   refine ⟨trivial, fun a hE => ?_⟩
   refine WQ.done (by kernel_rfl) ?_
   replace H := pq_Queues.shut (pq_Queues.A.mk al_q.a__p (arena_Arena.A.mk al_q.a__a.l_b al_q.a__a.l_c z1 z2 al_q.a__a.m__p) al_q.t__p (slots_Table.A.mk al_q.t__a.heaps_p al_q.t__a.heaps_a al_q.t__a.items_p z al_q.t__a.at__p) al_q.entries_p) (pq_Queues.mk q.items t_1.2 t_.2.2 q.entries q.serial) H.t4.t4.t4.t4
   exact hk _ _ ⟨r5, hE.sel [0, 3, 4, 7] (by kernel_rfl), H.t3.t3.t2.t3⟩
 rintro a w ⟨r3, hE, H⟩
 refine Runs.seq ?_
 refine Runs.drawn mixed (by kernel_rfl) ?_
 replace H := H.drew
 replace H := pq_Queues.open H.t1
 try dsimp only at H
 refine WQ.seg hE [0, 1, 2, 3, 4] [.map (some al_q.entries_p), .int .i64 i.At, .int .i64 i.Gen] [4, 7, 32, 33] (Lo := [(4, .pointer (some ⟨r1, 0, none⟩)), (7, .pointer (some ⟨r3, 0, none⟩)), (32, .map (some al_q.entries_p)), (33, .agg #[.int .i64 i.At, .int .i64 i.Gen])]) (obs := [.cell ⟨p_q, 3, none⟩ (.map (some al_q.entries_p)), .cell ⟨r, 0, none⟩ (.int .i64 i.At), .cell ⟨r, 1, none⟩ (.int .i64 i.Gen)]) (by kernel_rfl) (by kernel_rfl) ⟨H.cell 0 rfl rfl, H.cell 6 rfl rfl, H.cell 6 rfl rfl, trivial⟩ fun a hE => ?_
 refine WQ.eff0 (j := 5) (obs := []) hE (by kernel_rfl) rfl rfl rfl (by kernel_rfl) (OpTo.mpDel (k := i) hE H.t3 api_Ref.key_ok rfl rfl rfl rfl rfl) ?_
 rintro _ w ⟨rfl, H⟩
 refine ⟨trivial, fun a hE => ?_⟩
 refine WQ.done (by kernel_rfl) ?_
 refine Runs.sr ?_
 refine WR.d hE 1 [.int .i64 x.1.Key, .int .i64 x.1.Serial] [(34, .agg #[.int .i64 x.1.Key, .int .i64 x.1.Serial])] (obs := [.cell ⟨r3, 0, none⟩ (.int .i64 x.1.Key), .cell ⟨r3, 1, none⟩ (.int .i64 x.1.Serial)]) ⟨H.cell 4 rfl rfl, H.cell 4 rfl rfl, trivial⟩ fun a hE => ?_
 refine WR.eff0 hE rfl rfl rfl (OpTo.store hE H.t5 rfl rfl rfl rfl rfl rfl (Nat.le_of_ble_eq_true rfl)) ?_
 rintro _ w H a hE
 refine WR.done rfl ?_
 refine Runs.retO (vs := [.agg #[.int .i64 x.1.Key, .int .i64 x.1.Serial]]) (obs := [.cell ⟨r1, 0, none⟩ (.int .i64 x.1.Key), .cell ⟨r1, 1, none⟩ (.int .i64 x.1.Serial)]) hE Tryz.func112 rfl [.int .i64 x.1.Key, .int .i64 x.1.Serial] (by kernel_rfl) ⟨H.cell 0 rfl rfl, H.cell 0 rfl rfl, trivial⟩ ?_
 replace H := pq_Queues.shut (pq_Queues.A.mk al_q.a__p (arena_Arena.A.mk al_q.a__a.l_b al_q.a__a.l_c z1 z2 al_q.a__a.m__p) al_q.t__p (slots_Table.A.mk al_q.t__a.heaps_p al_q.t__a.heaps_a al_q.t__a.items_p z al_q.t__a.at__p) al_q.entries_p) (pq_Queues.mk q.items t_1.2 t_.2.2 (mDel api_Ref.eq i q.entries) q.serial) H.t1.t4.t4.t4
 cases hm
 exact ⟨arena_Arena.A.mk al_q.a__a.l_b al_q.a__a.l_c z1 z2 al_q.a__a.m__p, slots_Table.A.mk al_q.t__a.heaps_p al_q.t__a.heaps_a al_q.t__a.items_p z al_q.t__a.at__p, rfl, H.x3.x2.x1⟩

theorem pq_Queues_min_ok {w0 w : World} {As : List HP} {k : Nat} {p_q : Nat} {al_q : pq_Queues.A} {q : pq_Queues} {h_ : api_Ref} {out : Bool} {t : api_Answer × pq_Queues}  (hm : pq_Queues_min k q h_ out = some t) (H : St w0 (pq_Queues.R p_q al_q q :: As) w) :
    CallsR Tryz.prog 63 #[.pointer (some ⟨p_q, 0, none⟩), .agg #[.int .i64 h_.At, .int .i64 h_.Gen], .bool out] w fun v w' => ∃ (z_q_a__a : arena_Arena.A), ∃ (z_q_t__a : slots_Table.A), v = .agg #[.int .i64 t.1.Why, .int .i64 t.1.Heap.At, .int .i64 t.1.Heap.Gen, .int .i64 t.1.Item.At, .int .i64 t.1.Item.Gen, .int .i64 t.1.Entry.Key, .int .i64 t.1.Entry.Serial, .int .i64 t.1.N] ∧ St w0 (pq_Queues.R p_q (pq_Queues.A.mk al_q.a__p z_q_a__a al_q.t__p z_q_t__a al_q.entries_p) t.2 :: As) w' := by
 rw [pq_Queues_min] at hm
 refine enter (args := [.pointer (some ⟨p_q, 0, none⟩), .agg #[.int .i64 h_.At, .int .i64 h_.Gen], .bool out]) Tryz.func63 rfl rfl rfl fun a hE => ?_
 refine Runs.sr ?_
 refine WR.eff hE rfl rfl rfl rfl (OpTo.new hE H [] (.cells #[.int .i64 h_.At, .int .i64 h_.Gen] 26 (0, 0)) (fun r => .pointer (some ⟨r, 0, none⟩)) (obs := []) rfl (fun _ => by kernel_rfl) trivial) ?_
 rintro _ w ⟨r, rfl, H⟩ a hE
 refine WR.eff hE rfl rfl rfl rfl (OpTo.new hE H [] (.cells #[.int .i64 0, .int .i64 0, .int .i64 0, .int .i64 0, .int .i64 0, .int .i64 0, .int .i64 0, .int .i64 0] 86 (0, 0)) (fun r => .pointer (some ⟨r, 0, none⟩)) (obs := []) rfl (fun _ => by kernel_rfl) trivial) ?_
 rintro _ w ⟨r1, rfl, H⟩ a hE
 refine WR.done rfl ?_
 refine Runs.seq ?_
 refine Runs.drawn mixed (by kernel_rfl) ?_
 replace H := H.drew
 replace H := pq_Queues.open H.t2
 refine WQ.seg hE [0, 1, 2, 3, 4] [.pointer (some ⟨al_q.t__p, 0, none⟩), .int .i64 h_.At, .int .i64 h_.Gen] [0, 2, 4, 6, 20, 21] (Lo := [(0, .pointer (some ⟨p_q, 0, none⟩)), (2, .bool out), (4, .pointer (some ⟨r, 0, none⟩)), (6, .pointer (some ⟨r1, 0, none⟩)), (20, .pointer (some ⟨al_q.t__p, 0, none⟩)), (21, .agg #[.int .i64 h_.At, .int .i64 h_.Gen])]) (obs := [.cell ⟨p_q, 2, none⟩ (.pointer (some ⟨al_q.t__p, 0, none⟩)), .cell ⟨r, 0, none⟩ (.int .i64 h_.At), .cell ⟨r, 1, none⟩ (.int .i64 h_.Gen)]) (by kernel_rfl) (by kernel_rfl) ⟨H.cell 0 rfl rfl, H.cell 5 rfl rfl, H.cell 5 rfl rfl, trivial⟩ fun a hE => ?_
 obtain ⟨t_, et_, hm⟩ := bind_some hm
 refine WQ.eff (j := 5) (obs := []) hE (by kernel_rfl) rfl rfl rfl rfl (by kernel_rfl) (OpTo.fn hE rfl rfl Tryz.call67 (slots_Table_Heap_ok et_ H.t2)) ?_
 rintro _ w ⟨rfl, H⟩
 refine ⟨trivial, fun a hE => ?_⟩
 refine WQ.d0 hE [6, 7, 8, 9, 10, 11, 12, 13, 14] [(7, .int .i64 t_.1), (8, .int .i64 t_.2.1), (9, .int .i64 t_.2.2.1), (10, .int .i64 t_.2.2.2)] fun a hE => ?_
 refine WQ.done (by kernel_rfl) ?_
 refine Runs.seq ?_
 refine Runs.block ?_
 refine Runs.sr ?_
 refine WR.e0 hE [(27, .bool (t_.2.2.2 != 0))] fun a hE => ?_
 refine Runs.cond hE rfl (fun c => ?_) (fun c => ?_)
 ·replace hm := cond_t c hm
  refine Runs.sr ?_
  refine WR.d0 hE 1 [(30, .int .i64 t_.2.2.2)] fun a hE => ?_
  obtain ⟨t_1, et_1, hm⟩ := bind_some hm
  refine WR.eff hE rfl rfl rfl rfl (OpTo.fn hE rfl rfl Tryz.call69 (pq_refused_ok et_1 H)) ?_
  rintro _ w ⟨rfl, H⟩ a hE
  refine WR.eff0 hE rfl rfl rfl (OpTo.store hE H.t4 rfl rfl rfl rfl rfl rfl (Nat.le_of_ble_eq_true rfl)) ?_
  rintro _ w H a hE
  refine WR.done rfl ?_
  refine Runs.retO (vs := [.agg #[.int .i64 t_1.Why, .int .i64 t_1.Heap.At, .int .i64 t_1.Heap.Gen, .int .i64 t_1.Item.At, .int .i64 t_1.Item.Gen, .int .i64 t_1.Entry.Key, .int .i64 t_1.Entry.Serial, .int .i64 t_1.N]]) (obs := [.cell ⟨r1, 0, none⟩ (.int .i64 t_1.Why), .cell ⟨r1, 1, none⟩ (.int .i64 t_1.Heap.At), .cell ⟨r1, 2, none⟩ (.int .i64 t_1.Heap.Gen), .cell ⟨r1, 3, none⟩ (.int .i64 t_1.Item.At), .cell ⟨r1, 4, none⟩ (.int .i64 t_1.Item.Gen), .cell ⟨r1, 5, none⟩ (.int .i64 t_1.Entry.Key), .cell ⟨r1, 6, none⟩ (.int .i64 t_1.Entry.Serial), .cell ⟨r1, 7, none⟩ (.int .i64 t_1.N)]) hE Tryz.func63 rfl [.int .i64 t_1.Why, .int .i64 t_1.Heap.At, .int .i64 t_1.Heap.Gen, .int .i64 t_1.Item.At, .int .i64 t_1.Item.Gen, .int .i64 t_1.Entry.Key, .int .i64 t_1.Entry.Serial, .int .i64 t_1.N] (by kernel_rfl) ⟨H.cell 0 rfl rfl, H.cell 0 rfl rfl, H.cell 0 rfl rfl, H.cell 0 rfl rfl, H.cell 0 rfl rfl, H.cell 0 rfl rfl, H.cell 0 rfl rfl, H.cell 0 rfl rfl, trivial⟩ ?_
  replace H := pq_Queues.shut al_q (q) H.t4.t2.t4.t4
  cases hm
  exact ⟨al_q.a__a, al_q.t__a, rfl, H.x2.x1⟩
 ·replace hm := cond_f c hm
  refine Runs.sr ?_
  refine WR.e0 hE [(32, .bool (t_.2.2.1 == 0))] fun a hE => ?_
  refine Runs.cond hE rfl (fun c => ?_) (fun c => ?_)
  ·replace hm := cond_t c hm
   refine Runs.sr ?_
   obtain ⟨t_2, et_2, hm⟩ := bind_some hm
   refine WR.eff hE rfl rfl rfl rfl (OpTo.fn hE rfl rfl Tryz.call69 (pq_refused_ok et_2 H)) ?_
   rintro _ w ⟨rfl, H⟩ a hE
   refine WR.eff0 hE rfl rfl rfl (OpTo.store hE H.t4 rfl rfl rfl rfl rfl rfl (Nat.le_of_ble_eq_true rfl)) ?_
   rintro _ w H a hE
   refine WR.done rfl ?_
   refine Runs.retO (vs := [.agg #[.int .i64 t_2.Why, .int .i64 t_2.Heap.At, .int .i64 t_2.Heap.Gen, .int .i64 t_2.Item.At, .int .i64 t_2.Item.Gen, .int .i64 t_2.Entry.Key, .int .i64 t_2.Entry.Serial, .int .i64 t_2.N]]) (obs := [.cell ⟨r1, 0, none⟩ (.int .i64 t_2.Why), .cell ⟨r1, 1, none⟩ (.int .i64 t_2.Heap.At), .cell ⟨r1, 2, none⟩ (.int .i64 t_2.Heap.Gen), .cell ⟨r1, 3, none⟩ (.int .i64 t_2.Item.At), .cell ⟨r1, 4, none⟩ (.int .i64 t_2.Item.Gen), .cell ⟨r1, 5, none⟩ (.int .i64 t_2.Entry.Key), .cell ⟨r1, 6, none⟩ (.int .i64 t_2.Entry.Serial), .cell ⟨r1, 7, none⟩ (.int .i64 t_2.N)]) hE Tryz.func63 rfl [.int .i64 t_2.Why, .int .i64 t_2.Heap.At, .int .i64 t_2.Heap.Gen, .int .i64 t_2.Item.At, .int .i64 t_2.Item.Gen, .int .i64 t_2.Entry.Key, .int .i64 t_2.Entry.Serial, .int .i64 t_2.N] (by kernel_rfl) ⟨H.cell 0 rfl rfl, H.cell 0 rfl rfl, H.cell 0 rfl rfl, H.cell 0 rfl rfl, H.cell 0 rfl rfl, H.cell 0 rfl rfl, H.cell 0 rfl rfl, H.cell 0 rfl rfl, trivial⟩ ?_
   replace H := pq_Queues.shut al_q (q) H.t4.t2.t4.t4
   cases hm
   exact ⟨al_q.a__a, al_q.t__a, rfl, H.x2.x1⟩
  ·replace hm := cond_f c hm
   refine Runs.skip ?_
   refine Runs.inBlock ?_
   refine Runs.seq ?_
   refine Runs.sr ?_
   refine WR.e0 hE [(37, .bool (!out))] fun a hE => ?_
   refine Runs.cond hE rfl (fun c => ?_) (fun c => ?_)
   ·replace hm := cond_t c hm
    refine Runs.seq ?_
    replace H := pq_Queues.shut al_q (q) H.t3.t1.t3.t3
    obtain ⟨t_3, et_3, hm⟩ := bind_some hm
    obtain ⟨t_4, et_4, hm⟩ := bind_some hm
    refine Runs.join (fun a w => ∃ (r3 : Nat), EnvOk 94 a [(0, .pointer (some ⟨p_q, 0, none⟩)), (6, .pointer (some ⟨r1, 0, none⟩)), (11, .pointer (some ⟨r3, 0, none⟩))] ∧ St w0 (Blk r3 26 [.int .i64 t_4.1.At, .int .i64 t_4.1.Gen] :: pq_Queues.R p_q al_q (pq_Queues.mk q.items t_3.2 q.t_ q.entries q.serial) :: Blk r1 86 [.int .i64 0, .int .i64 0, .int .i64 0, .int .i64 0, .int .i64 0, .int .i64 0, .int .i64 0, .int .i64 0] :: As) w) (fun hk => ?_) ?_
    ·refine Runs.drawn mixed (by kernel_rfl) ?_
     replace H := H.drew
     replace H := pq_Queues.open H
     refine WQ.d hE [0, 1, 2, 3, 4, 5, 6, 7, 8, 9] [.pointer (some ⟨al_q.t__p, 0, none⟩), .pointer (some ⟨al_q.a__p, 0, none⟩)] [(42, .pointer (some ⟨al_q.t__p, 0, none⟩)), (43, .int .i64 t_.1), (47, .pointer (some ⟨al_q.a__p, 0, none⟩)), (48, .int .i64 t_.2.1)] (obs := [.cell ⟨p_q, 2, none⟩ (.pointer (some ⟨al_q.t__p, 0, none⟩)), .cell ⟨p_q, 1, none⟩ (.pointer (some ⟨al_q.a__p, 0, none⟩))]) ⟨H.cell 0 rfl rfl, H.cell 0 rfl rfl, trivial⟩ fun a hE => ?_
     refine WQ.act2 10 15 (by kernel_rfl) ?_ ?_
     ·refine AQ.eff (j := 10) (obs := [.cell ⟨p_q, 2, none⟩ (.pointer (some ⟨al_q.t__p, 0, none⟩))]) hE rfl rfl rfl rfl (by kernel_rfl) (OpTo.fn hE rfl rfl Tryz.call110 (kind_Min_ok et_3 H.t1)) ?_
      rintro _ w ⟨rfl, H⟩
      refine ⟨⟨H.cell 1 rfl rfl, trivial⟩, fun a hE => ?_⟩
      refine WQ.act2 11 15 (by kernel_rfl) ?_ ?_
      ·refine AQ.eff (j := 11) (obs := []) hE rfl rfl rfl rfl (by kernel_rfl) (OpTo.fn hE rfl rfl Tryz.call109 (slots_Table_At_ok et_4 H.t2)) ?_
       rintro _ w ⟨rfl, H⟩
       refine ⟨trivial, fun a hE => ?_⟩
       refine WQ.d0 hE [12, 13, 14] [(51, .agg #[.int .i64 t_4.1.At, .int .i64 t_4.1.Gen]), (52, .bool t_4.2)] fun a hE => ?_
       refine WQ.eff (j := 15) (obs := []) hE (by kernel_rfl) rfl rfl rfl rfl (by kernel_rfl) (OpTo.new hE H [] (.cells #[.int .i64 0, .int .i64 0] 26 (0, 0)) (fun r => .pointer (some ⟨r, 0, none⟩)) (obs := []) rfl (fun _ => by kernel_rfl) trivial) ?_
       rintro _ w ⟨r4, rfl, H⟩
       refine ⟨trivial, fun a hE => ?_⟩
       refine WQ.eff0 (j := 16) (obs := []) hE (by kernel_rfl) rfl rfl rfl (by kernel_rfl) (OpTo.store hE H rfl rfl rfl rfl rfl rfl (Nat.le_of_ble_eq_true rfl)) ?_
       rintro _ w H
       refine ⟨trivial, fun a hE => ?_⟩
       refine WQ.d0 hE [17] [] fun a hE => ?_
       refine WQ.done (by kernel_rfl) ?_
       replace H := pq_Queues.shut al_q (pq_Queues.mk q.items t_3.2 q.t_ q.entries q.serial) H.t4.t2.t3.t4
       exact hk _ _ ⟨r4, hE.sel [0, 6, 11] (by kernel_rfl), H.x3.t2.t1.t2⟩
      ·refine AQ.eff (j := 15) (obs := [.cell ⟨p_q, 2, none⟩ (.pointer (some ⟨al_q.t__p, 0, none⟩))]) hE rfl rfl rfl rfl (by kernel_rfl) (OpTo.new hE H [] (.cells #[.int .i64 0, .int .i64 0] 26 (0, 0)) (fun r => .pointer (some ⟨r, 0, none⟩)) (obs := []) rfl (fun _ => by kernel_rfl) trivial) ?_
       rintro _ w ⟨r5, rfl, H⟩
       refine ⟨⟨H.cell 2 rfl rfl, trivial⟩, fun a hE => ?_⟩
       refine WQ.eff (j := 11) (obs := []) hE (by kernel_rfl) rfl rfl rfl rfl (by kernel_rfl) (OpTo.fn hE rfl rfl Tryz.call109 (slots_Table_At_ok et_4 H.t3)) ?_
       rintro _ w ⟨rfl, H⟩
       refine ⟨trivial, fun a hE => ?_⟩
       refine WQ.d0 hE [12, 13, 14] [(51, .agg #[.int .i64 t_4.1.At, .int .i64 t_4.1.Gen]), (52, .bool t_4.2)] fun a hE => ?_
       refine WQ.eff0 (j := 16) (obs := []) hE (by kernel_rfl) rfl rfl rfl (by kernel_rfl) (OpTo.store hE H.t1 rfl rfl rfl rfl rfl rfl (Nat.le_of_ble_eq_true rfl)) ?_
       rintro _ w H
       refine ⟨trivial, fun a hE => ?_⟩
       refine WQ.d0 hE [17] [] fun a hE => ?_
       refine WQ.done (by kernel_rfl) ?_
       replace H := pq_Queues.shut al_q (pq_Queues.mk q.items t_3.2 q.t_ q.entries q.serial) H.t4.t2.t3.t4
       exact hk _ _ ⟨r5, hE.sel [0, 6, 11] (by kernel_rfl), H.x3.t2.t1.t2⟩
     ·refine AQ.eff (j := 15) (obs := [.cell ⟨p_q, 1, none⟩ (.pointer (some ⟨al_q.a__p, 0, none⟩)), .cell ⟨p_q, 2, none⟩ (.pointer (some ⟨al_q.t__p, 0, none⟩))]) hE rfl rfl rfl rfl (by kernel_rfl) (OpTo.new hE H [] (.cells #[.int .i64 0, .int .i64 0] 26 (0, 0)) (fun r => .pointer (some ⟨r, 0, none⟩)) (obs := []) rfl (fun _ => by kernel_rfl) trivial) ?_
      rintro _ w ⟨r6, rfl, H⟩
      refine ⟨⟨H.cell 1 rfl rfl, H.cell 1 rfl rfl, trivial⟩, fun a hE => ?_⟩
      refine WQ.eff (j := 10) (obs := [.cell ⟨p_q, 2, none⟩ (.pointer (some ⟨al_q.t__p, 0, none⟩))]) hE (by kernel_rfl) rfl rfl rfl rfl (by kernel_rfl) (OpTo.fn hE rfl rfl Tryz.call110 (kind_Min_ok et_3 H.t2)) ?_
      rintro _ w ⟨rfl, H⟩
      refine ⟨⟨H.cell 2 rfl rfl, trivial⟩, fun a hE => ?_⟩
      refine WQ.eff (j := 11) (obs := []) hE (by kernel_rfl) rfl rfl rfl rfl (by kernel_rfl) (OpTo.fn hE rfl rfl Tryz.call109 (slots_Table_At_ok et_4 H.t3)) ?_
      rintro _ w ⟨rfl, H⟩
      refine ⟨trivial, fun a hE => ?_⟩
      refine WQ.d0 hE [12, 13, 14] [(51, .agg #[.int .i64 t_4.1.At, .int .i64 t_4.1.Gen]), (52, .bool t_4.2)] fun a hE => ?_
      refine WQ.eff0 (j := 16) (obs := []) hE (by kernel_rfl) rfl rfl rfl (by kernel_rfl) (OpTo.store hE H.t2 rfl rfl rfl rfl rfl rfl (Nat.le_of_ble_eq_true rfl)) ?_
      rintro _ w H
      refine ⟨trivial, fun a hE => ?_⟩
      refine WQ.d0 hE [17] [] fun a hE => ?_
      refine WQ.done (by kernel_rfl) ?_
      replace H := pq_Queues.shut al_q (pq_Queues.mk q.items t_3.2 q.t_ q.entries q.serial) H.t4.t2.t3.t4
      exact hk _ _ ⟨r6, hE.sel [0, 6, 11] (by kernel_rfl), H.x3.t2.t1.t2⟩
    rintro a w ⟨r3, hE, H⟩
    refine Runs.seq ?_
    refine Runs.drawn mixed (by kernel_rfl) ?_
    replace H := H.drew
    replace H := pq_Queues.open H.t1
    refine WQ.seg hE [0, 1, 2, 3, 4, 5] [.int .i64 t_4.1.At, .int .i64 t_4.1.Gen, .map (some al_q.entries_p), .int .i64 t_4.1.At, .int .i64 t_4.1.Gen] [6, 53, 57, 58] (Lo := [(6, .pointer (some ⟨r1, 0, none⟩)), (53, .agg #[.int .i64 t_4.1.At, .int .i64 t_4.1.Gen]), (57, .map (some al_q.entries_p)), (58, .agg #[.int .i64 t_4.1.At, .int .i64 t_4.1.Gen])]) (obs := [.cell ⟨r3, 0, none⟩ (.int .i64 t_4.1.At), .cell ⟨r3, 1, none⟩ (.int .i64 t_4.1.Gen), .cell ⟨p_q, 3, none⟩ (.map (some al_q.entries_p)), .cell ⟨r3, 0, none⟩ (.int .i64 t_4.1.At), .cell ⟨r3, 1, none⟩ (.int .i64 t_4.1.Gen)]) (by kernel_rfl) (by kernel_rfl) ⟨H.cell 4 rfl rfl, H.cell 4 rfl rfl, H.cell 0 rfl rfl, H.cell 4 rfl rfl, H.cell 4 rfl rfl, trivial⟩ fun a hE => ?_
    obtain ⟨x, ex, hm⟩ := bind_some hm
    refine WQ.eff (j := 6) (obs := [.cell ⟨r3, 0, none⟩ (.int .i64 t_4.1.At), .cell ⟨r3, 1, none⟩ (.int .i64 t_4.1.Gen)]) hE (by kernel_rfl) rfl rfl rfl rfl (by kernel_rfl) (OpTo.mpGet 3 hE H rfl api_Ref.key_ok ex rfl rfl rfl rfl rfl rfl) ?_
    rintro _ _ ⟨rfl, rfl⟩
    refine ⟨⟨H.cell 4 rfl rfl, H.cell 4 rfl rfl, trivial⟩, fun a hE => ?_⟩
    refine WQ.d0 hE [7] [(60, .agg #[.int .i64 0, .int .i64 0, .int .i64 0, .int .i64 t_4.1.At, .int .i64 t_4.1.Gen, .int .i64 x.1.Key, .int .i64 x.1.Serial, .int .i64 0])] fun a hE => ?_
    refine WQ.eff0 (j := 8) (obs := []) hE (by kernel_rfl) rfl rfl rfl (by kernel_rfl) (OpTo.store hE H.t5 rfl rfl rfl rfl rfl rfl (Nat.le_of_ble_eq_true rfl)) ?_
    rintro _ w H
    refine ⟨trivial, fun a hE => ?_⟩
    refine WQ.done (by kernel_rfl) ?_
    refine Runs.retO (vs := [.agg #[.int .i64 0, .int .i64 0, .int .i64 0, .int .i64 t_4.1.At, .int .i64 t_4.1.Gen, .int .i64 x.1.Key, .int .i64 x.1.Serial, .int .i64 0]]) (obs := [.cell ⟨r1, 0, none⟩ (.int .i64 0), .cell ⟨r1, 1, none⟩ (.int .i64 0), .cell ⟨r1, 2, none⟩ (.int .i64 0), .cell ⟨r1, 3, none⟩ (.int .i64 t_4.1.At), .cell ⟨r1, 4, none⟩ (.int .i64 t_4.1.Gen), .cell ⟨r1, 5, none⟩ (.int .i64 x.1.Key), .cell ⟨r1, 6, none⟩ (.int .i64 x.1.Serial), .cell ⟨r1, 7, none⟩ (.int .i64 0)]) hE Tryz.func63 rfl [.int .i64 0, .int .i64 0, .int .i64 0, .int .i64 t_4.1.At, .int .i64 t_4.1.Gen, .int .i64 x.1.Key, .int .i64 x.1.Serial, .int .i64 0] (by kernel_rfl) ⟨H.cell 0 rfl rfl, H.cell 0 rfl rfl, H.cell 0 rfl rfl, H.cell 0 rfl rfl, H.cell 0 rfl rfl, H.cell 0 rfl rfl, H.cell 0 rfl rfl, H.cell 0 rfl rfl, trivial⟩ ?_
    replace H := pq_Queues.shut al_q ((pq_Queues.mk q.items t_3.2 q.t_ q.entries q.serial)) H.t4.t4.t4.t4
    cases hm
    exact ⟨al_q.a__a, al_q.t__a, rfl, H.x2.x1⟩
   ·replace hm := cond_f c hm
    refine Runs.skip ?_
    refine Runs.sr ?_
    refine WR.d hE 6 [.pointer (some ⟨al_q.a__p, 0, none⟩)] [(62, .int .i64 t_.1), (66, .pointer (some ⟨al_q.a__p, 0, none⟩)), (67, .int .i64 t_.2.1)] (obs := [.cell ⟨p_q, 1, none⟩ (.pointer (some ⟨al_q.a__p, 0, none⟩))]) ⟨H.cell 1 rfl rfl, trivial⟩ fun a hE => ?_
    obtain ⟨t_5, et_5, hm⟩ := bind_some hm
    refine WR.eff hE rfl rfl rfl rfl (OpTo.fn hE rfl rfl Tryz.call111 (kind_Pop_ok et_5 H.t2)) ?_
    rintro _ w ⟨z, z1, rfl, H⟩ a hE
    refine WR.e0 hE [(8, .int .i64 t_5.1), (13, .int .i64 t_5.2.1)] fun a hE => ?_
    refine Runs.sr ?_
    refine WR.d hE 5 [.pointer (some ⟨al_q.t__p, 0, none⟩)] [(75, .pointer (some ⟨al_q.t__p, 0, none⟩)), (76, .int .i64 t_5.2.1)] (obs := [.cell ⟨p_q, 2, none⟩ (.pointer (some ⟨al_q.t__p, 0, none⟩))]) ⟨H.cell 2 rfl rfl, trivial⟩ fun a hE => ?_
    obtain ⟨t_6, et_6, hm⟩ := bind_some hm
    refine WR.eff hE rfl rfl rfl rfl (OpTo.fn hE rfl rfl Tryz.call109 (slots_Table_At_ok et_6 H.t1)) ?_
    rintro _ w ⟨rfl, H⟩ a hE
    refine WR.d0 hE 9 [(78, .agg #[.int .i64 t_6.1.At, .int .i64 t_6.1.Gen]), (79, .bool t_6.2)] fun a hE => ?_
    refine WR.eff hE rfl rfl rfl rfl (OpTo.new hE H [] (.cells #[.int .i64 0, .int .i64 0] 26 (0, 0)) (fun r => .pointer (some ⟨r, 0, none⟩)) (obs := []) rfl (fun _ => by kernel_rfl) trivial) ?_
    rintro _ w ⟨r7, rfl, H⟩ a hE
    refine WR.eff0 hE rfl rfl rfl (OpTo.store hE H rfl rfl rfl rfl rfl rfl (Nat.le_of_ble_eq_true rfl)) ?_
    rintro _ w H a hE
    refine WR.e0 hE [] fun a hE => ?_
    refine Runs.seq ?_
    refine Runs.drawn mixed (by kernel_rfl) ?_
    replace H := H.drew
    refine WQ.d hE [0, 1, 2, 3, 4, 5, 6, 7] [.pointer (some ⟨al_q.t__p, 0, none⟩), .int .i64 h_.At, .int .i64 h_.Gen] [(83, .pointer (some ⟨al_q.t__p, 0, none⟩)), (84, .agg #[.int .i64 h_.At, .int .i64 h_.Gen]), (85, .int .i64 t_5.1), (87, .int .i64 (w64 (t_.2.2.1 - 1)))] (obs := [.cell ⟨p_q, 2, none⟩ (.pointer (some ⟨al_q.t__p, 0, none⟩)), .cell ⟨r, 0, none⟩ (.int .i64 h_.At), .cell ⟨r, 1, none⟩ (.int .i64 h_.Gen)]) ⟨H.cell 3 rfl rfl, H.cell 6 rfl rfl, H.cell 6 rfl rfl, trivial⟩ fun a hE => ?_
    obtain ⟨t_7, et_7, hm⟩ := bind_some hm
    refine WQ.eff (j := 8) (obs := []) hE (by kernel_rfl) rfl rfl rfl rfl (by kernel_rfl) (OpTo.fn hE rfl rfl Tryz.call108 (slots_Table_Root_ok et_7 H.t1)) ?_
    rintro _ w ⟨rfl, H⟩
    refine ⟨trivial, fun a hE => ?_⟩
    refine WQ.done (by kernel_rfl) ?_
    refine Runs.seq ?_
    refine Runs.drawn mixed (by kernel_rfl) ?_
    replace H := H.drew
    refine WQ.d hE [0, 1, 2] [.int .i64 t_6.1.At, .int .i64 t_6.1.Gen, .int .i64 t_6.1.At, .int .i64 t_6.1.Gen] [(89, .agg #[.int .i64 t_6.1.At, .int .i64 t_6.1.Gen]), (90, .pointer (some ⟨p_q, 0, none⟩)), (91, .agg #[.int .i64 t_6.1.At, .int .i64 t_6.1.Gen])] (obs := [.cell ⟨r7, 0, none⟩ (.int .i64 t_6.1.At), .cell ⟨r7, 1, none⟩ (.int .i64 t_6.1.Gen), .cell ⟨r7, 0, none⟩ (.int .i64 t_6.1.At), .cell ⟨r7, 1, none⟩ (.int .i64 t_6.1.Gen)]) ⟨H.cell 1 rfl rfl, H.cell 1 rfl rfl, H.cell 1 rfl rfl, H.cell 1 rfl rfl, trivial⟩ fun a hE => ?_
    replace H := pq_Queues.shut (pq_Queues.A.mk al_q.a__p (arena_Arena.A.mk al_q.a__a.l_b al_q.a__a.l_c z z1 al_q.a__a.m__p) al_q.t__p al_q.t__a al_q.entries_p) (pq_Queues.mk q.items t_5.2.2 t_7.2 q.entries q.serial) H.t4.t1.t3.t4
    obtain ⟨t_8, et_8, hm⟩ := bind_some hm
    refine WQ.eff (j := 3) (obs := [.cell ⟨r7, 0, none⟩ (.int .i64 t_6.1.At), .cell ⟨r7, 1, none⟩ (.int .i64 t_6.1.Gen)]) hE (by kernel_rfl) rfl rfl rfl rfl (by kernel_rfl) (OpTo.fn hE rfl rfl Tryz.call112 (pq_Queues_gone_ok et_8 H)) ?_
    rintro _ w ⟨z2, z3, rfl, H⟩
    refine ⟨⟨H.cell 1 rfl rfl, H.cell 1 rfl rfl, trivial⟩, fun a hE => ?_⟩
    refine WQ.d0 hE [4] [(93, .agg #[.int .i64 0, .int .i64 0, .int .i64 0, .int .i64 t_6.1.At, .int .i64 t_6.1.Gen, .int .i64 t_8.1.Key, .int .i64 t_8.1.Serial, .int .i64 0])] fun a hE => ?_
    refine WQ.eff0 (j := 5) (obs := []) hE (by kernel_rfl) rfl rfl rfl (by kernel_rfl) (OpTo.store hE H.t2 rfl rfl rfl rfl rfl rfl (Nat.le_of_ble_eq_true rfl)) ?_
    rintro _ w H
    refine ⟨trivial, fun a hE => ?_⟩
    refine WQ.done (by kernel_rfl) ?_
    refine Runs.retO (vs := [.agg #[.int .i64 0, .int .i64 0, .int .i64 0, .int .i64 t_6.1.At, .int .i64 t_6.1.Gen, .int .i64 t_8.1.Key, .int .i64 t_8.1.Serial, .int .i64 0]]) (obs := [.cell ⟨r1, 0, none⟩ (.int .i64 0), .cell ⟨r1, 1, none⟩ (.int .i64 0), .cell ⟨r1, 2, none⟩ (.int .i64 0), .cell ⟨r1, 3, none⟩ (.int .i64 t_6.1.At), .cell ⟨r1, 4, none⟩ (.int .i64 t_6.1.Gen), .cell ⟨r1, 5, none⟩ (.int .i64 t_8.1.Key), .cell ⟨r1, 6, none⟩ (.int .i64 t_8.1.Serial), .cell ⟨r1, 7, none⟩ (.int .i64 0)]) hE Tryz.func63 rfl [.int .i64 0, .int .i64 0, .int .i64 0, .int .i64 t_6.1.At, .int .i64 t_6.1.Gen, .int .i64 t_8.1.Key, .int .i64 t_8.1.Serial, .int .i64 0] (by kernel_rfl) ⟨H.cell 0 rfl rfl, H.cell 0 rfl rfl, H.cell 0 rfl rfl, H.cell 0 rfl rfl, H.cell 0 rfl rfl, H.cell 0 rfl rfl, H.cell 0 rfl rfl, H.cell 0 rfl rfl, trivial⟩ ?_
    cases hm
    exact ⟨z2, z3, rfl, H.x3.x2.x0⟩

theorem pq_Queues_decrease_ok {w0 w : World} {As : List HP} {p_q : Nat} {al_q : pq_Queues.A} {q : pq_Queues} {c_ : api_Call} {t : api_Answer}  (hm : pq_Queues_decrease q c_ = some t) (H : St w0 (pq_Queues.R p_q al_q q :: As) w) :
    CallsR Tryz.prog 64 #[.pointer (some ⟨p_q, 0, none⟩), .agg #[.int .i64 c_.Op, .int .i64 c_.Kind, .int .i64 c_.Heap.At, .int .i64 c_.Heap.Gen, .int .i64 c_.Other.At, .int .i64 c_.Other.Gen, .int .i64 c_.Item.At, .int .i64 c_.Item.Gen, .int .i64 c_.Key]] w fun v w' => v = .agg #[.int .i64 t.Why, .int .i64 t.Heap.At, .int .i64 t.Heap.Gen, .int .i64 t.Item.At, .int .i64 t.Item.Gen, .int .i64 t.Entry.Key, .int .i64 t.Entry.Serial, .int .i64 t.N] ∧ St w0 (pq_Queues.R p_q al_q q :: As) w' := by
  rw [pq_Queues_decrease] at hm
  cases hm

theorem pq_Queues_remove_ok {w0 w : World} {As : List HP} {p_q : Nat} {al_q : pq_Queues.A} {q : pq_Queues} {i : api_Ref} {t : api_Answer}  (hm : pq_Queues_remove q i = some t) (H : St w0 (pq_Queues.R p_q al_q q :: As) w) :
    CallsR Tryz.prog 65 #[.pointer (some ⟨p_q, 0, none⟩), .agg #[.int .i64 i.At, .int .i64 i.Gen]] w fun v w' => v = .agg #[.int .i64 t.Why, .int .i64 t.Heap.At, .int .i64 t.Heap.Gen, .int .i64 t.Item.At, .int .i64 t.Item.Gen, .int .i64 t.Entry.Key, .int .i64 t.Entry.Serial, .int .i64 t.N] ∧ St w0 (pq_Queues.R p_q al_q q :: As) w' := by
  rw [pq_Queues_remove] at hm
  cases hm

theorem pq_Queues_meld_ok {w0 w : World} {As : List HP} {p_q : Nat} {al_q : pq_Queues.A} {q : pq_Queues} {h_ : api_Ref} {o : api_Ref} {t : api_Answer}  (hm : pq_Queues_meld q h_ o = some t) (H : St w0 (pq_Queues.R p_q al_q q :: As) w) :
    CallsR Tryz.prog 66 #[.pointer (some ⟨p_q, 0, none⟩), .agg #[.int .i64 h_.At, .int .i64 h_.Gen], .agg #[.int .i64 o.At, .int .i64 o.Gen]] w fun v w' => v = .agg #[.int .i64 t.Why, .int .i64 t.Heap.At, .int .i64 t.Heap.Gen, .int .i64 t.Item.At, .int .i64 t.Item.Gen, .int .i64 t.Entry.Key, .int .i64 t.Entry.Serial, .int .i64 t.N] ∧ St w0 (pq_Queues.R p_q al_q q :: As) w' := by
  rw [pq_Queues_meld] at hm
  cases hm

theorem pq_Queues_destroy_ok {w0 w : World} {As : List HP} {p_q : Nat} {al_q : pq_Queues.A} {q : pq_Queues} {h_ : api_Ref} {t : api_Answer}  (hm : pq_Queues_destroy q h_ = some t) (H : St w0 (pq_Queues.R p_q al_q q :: As) w) :
    CallsR Tryz.prog 68 #[.pointer (some ⟨p_q, 0, none⟩), .agg #[.int .i64 h_.At, .int .i64 h_.Gen]] w fun v w' => v = .agg #[.int .i64 t.Why, .int .i64 t.Heap.At, .int .i64 t.Heap.Gen, .int .i64 t.Item.At, .int .i64 t.Item.Gen, .int .i64 t.Entry.Key, .int .i64 t.Entry.Serial, .int .i64 t.N] ∧ St w0 (pq_Queues.R p_q al_q q :: As) w' := by
  rw [pq_Queues_destroy] at hm
  cases hm

theorem pq_Queues_Do_ok {w0 w : World} {As : List HP} {k : Nat} {p_q : Nat} {al_q : pq_Queues.A} {q : pq_Queues} {c_ : api_Call} {t : api_Answer × pq_Queues}  (hm : pq_Queues_Do k q c_ = some t) (H : St w0 (pq_Queues.R p_q al_q q :: As) w) :
    CallsR Tryz.prog 30 #[.pointer (some ⟨p_q, 0, none⟩), .agg #[.int .i64 c_.Op, .int .i64 c_.Kind, .int .i64 c_.Heap.At, .int .i64 c_.Heap.Gen, .int .i64 c_.Other.At, .int .i64 c_.Other.Gen, .int .i64 c_.Item.At, .int .i64 c_.Item.Gen, .int .i64 c_.Key]] w fun v w' => ∃ (z_q_a__a : arena_Arena.A), ∃ (z_q_t__a : slots_Table.A), v = .agg #[.int .i64 t.1.Why, .int .i64 t.1.Heap.At, .int .i64 t.1.Heap.Gen, .int .i64 t.1.Item.At, .int .i64 t.1.Item.Gen, .int .i64 t.1.Entry.Key, .int .i64 t.1.Entry.Serial, .int .i64 t.1.N] ∧ St w0 (pq_Queues.R p_q (pq_Queues.A.mk al_q.a__p z_q_a__a al_q.t__p z_q_t__a al_q.entries_p) t.2 :: As) w' := by
 rw [pq_Queues_Do] at hm
 refine enter (args := [.pointer (some ⟨p_q, 0, none⟩), .agg #[.int .i64 c_.Op, .int .i64 c_.Kind, .int .i64 c_.Heap.At, .int .i64 c_.Heap.Gen, .int .i64 c_.Other.At, .int .i64 c_.Other.Gen, .int .i64 c_.Item.At, .int .i64 c_.Item.Gen, .int .i64 c_.Key]]) Tryz.func30 rfl rfl rfl fun a hE => ?_
 refine Runs.sr ?_
 refine WR.eff hE rfl rfl rfl rfl (OpTo.new hE H [] (.cells #[.int .i64 c_.Op, .int .i64 c_.Kind, .int .i64 c_.Heap.At, .int .i64 c_.Heap.Gen, .int .i64 c_.Other.At, .int .i64 c_.Other.Gen, .int .i64 c_.Item.At, .int .i64 c_.Item.Gen, .int .i64 c_.Key] 89 (0, 0)) (fun r => .pointer (some ⟨r, 0, none⟩)) (obs := []) rfl (fun _ => by kernel_rfl) trivial) ?_
 rintro _ w ⟨r, rfl, H⟩ a hE
 refine WR.eff hE rfl rfl rfl rfl (OpTo.new hE H [] (.cells #[.int .i64 0, .int .i64 0, .int .i64 0, .int .i64 0, .int .i64 0, .int .i64 0, .int .i64 0, .int .i64 0] 86 (0, 0)) (fun r => .pointer (some ⟨r, 0, none⟩)) (obs := []) rfl (fun _ => by kernel_rfl) trivial) ?_
 rintro _ w ⟨r1, rfl, H⟩ a hE
 refine WR.done rfl ?_
 refine Runs.sr ?_
 replace H := pq_Queues.open H.t2
 refine WR.seg hE 4 [.pointer (some ⟨al_q.a__p, 0, none⟩)] [0, 3, 4, 14] (Lo := [(0, .pointer (some ⟨p_q, 0, none⟩)), (3, .pointer (some ⟨r, 0, none⟩)), (4, .pointer (some ⟨r1, 0, none⟩)), (14, .pointer (some ⟨al_q.a__p, 0, none⟩))]) (obs := [.cell ⟨p_q, 1, none⟩ (.pointer (some ⟨al_q.a__p, 0, none⟩))]) rfl (by kernel_rfl) ⟨H.cell 0 rfl rfl, trivial⟩ fun a hE => ?_
 obtain ⟨t_, et_, hm⟩ := bind_some hm
 refine WR.eff hE rfl rfl rfl rfl (OpTo.fn hE rfl rfl Tryz.call59 (arena_Arena_Meter_ok et_ H.t1)) ?_
 rintro _ w ⟨rfl, H⟩ a hE
 replace H := arena_Arena.open H
 obtain ⟨t_1, et_1, hm⟩ := bind_some hm
 refine WR.eff hE rfl rfl rfl rfl (OpTo.fn hE rfl rfl Tryz.call60 (meter_Meter_Begin_ok et_1 H.t3)) ?_
 rintro _ w ⟨rfl, H⟩ a hE
 refine WR.done rfl ?_
 refine Runs.seq ?_
 refine Runs.sr ?_
 refine WR.e hE [.int .i64 c_.Op] [(18, .int .i64 c_.Op)] (obs := [.cell ⟨r, 0, none⟩ (.int .i64 c_.Op)]) ⟨H.cell 8 rfl rfl, trivial⟩ fun a hE => ?_
 refine Runs.block ?_
 refine Runs.sr ?_
 refine WR.e0 hE [(19, .bool (c_.Op == 1))] fun a hE => ?_
 refine Runs.cond hE rfl (fun c => ?_) (fun c => ?_)
 ·replace hm := cond_t c hm
  refine Runs.seq ?_
  replace H := arena_Arena.shut al_q.a__a (arena_Arena.mk q.a_.l q.a_.never q.a_.free t_1) H.t3.t3.t3
  replace H := pq_Queues.shut al_q (pq_Queues.mk q.items (arena_Arena.mk q.a_.l q.a_.never q.a_.free t_1) q.t_ q.entries q.serial) H.t3.t3.t2.t3
  obtain ⟨t_2, et_2, hm⟩ := bind_some hm
  refine Runs.join (fun a w => ∃ (r3 : Nat), ∃ (z1 : slots_Table.A), EnvOk 94 a [(4, .pointer (some ⟨r1, 0, none⟩)), (5, .pointer (some ⟨r3, 0, none⟩)), (6, .int .i64 t_2.2.1)] ∧ St w0 (Blk r3 26 [.int .i64 t_2.1.At, .int .i64 t_2.1.Gen] :: pq_Queues.R p_q (pq_Queues.A.mk al_q.a__p al_q.a__a al_q.t__p z1 al_q.entries_p) (pq_Queues.mk q.items (arena_Arena.mk q.a_.l q.a_.never q.a_.free t_1) t_2.2.2 q.entries q.serial) :: Blk r1 86 [.int .i64 0, .int .i64 0, .int .i64 0, .int .i64 0, .int .i64 0, .int .i64 0, .int .i64 0, .int .i64 0] :: As) w) (fun hk => ?_) ?_
  ·refine Runs.drawn mixed (by kernel_rfl) ?_
   replace H := H.drew
   replace H := pq_Queues.open H
   try dsimp only at H
   refine WQ.d hE [0, 1, 2, 3, 4, 5] [.pointer (some ⟨al_q.t__p, 0, none⟩), .int .i64 c_.Kind] [(25, .pointer (some ⟨al_q.t__p, 0, none⟩)), (27, .int .i64 c_.Kind)] (obs := [.cell ⟨p_q, 2, none⟩ (.pointer (some ⟨al_q.t__p, 0, none⟩)), .cell ⟨r, 1, none⟩ (.int .i64 c_.Kind)]) ⟨H.cell 0 rfl rfl, H.cell 5 rfl rfl, trivial⟩ fun a hE => ?_
   refine WQ.act2 6 10 (by kernel_rfl) ?_ ?_
   ·refine AQ.eff (j := 6) (obs := []) hE rfl rfl rfl rfl (by kernel_rfl) (OpTo.fn hE rfl rfl Tryz.call61 (slots_Table_Make_ok et_2 H.t2)) ?_
    rintro _ w ⟨z2, rfl, H⟩
    refine ⟨trivial, fun a hE => ?_⟩
    refine WQ.d0 hE [7, 8, 9] [(29, .agg #[.int .i64 t_2.1.At, .int .i64 t_2.1.Gen]), (30, .int .i64 t_2.2.1)] fun a hE => ?_
    refine WQ.eff (j := 10) (obs := []) hE (by kernel_rfl) rfl rfl rfl rfl (by kernel_rfl) (OpTo.new hE H [] (.cells #[.int .i64 0, .int .i64 0] 26 (0, 0)) (fun r => .pointer (some ⟨r, 0, none⟩)) (obs := []) rfl (fun _ => by kernel_rfl) trivial) ?_
    rintro _ w ⟨r4, rfl, H⟩
    refine ⟨trivial, fun a hE => ?_⟩
    refine WQ.eff0 (j := 11) (obs := []) hE (by kernel_rfl) rfl rfl rfl (by kernel_rfl) (OpTo.store hE H rfl rfl rfl rfl rfl rfl (Nat.le_of_ble_eq_true rfl)) ?_
    rintro _ w H
    refine ⟨trivial, fun a hE => ?_⟩
    refine WQ.d0 hE [12] [(6, .int .i64 t_2.2.1)] fun a hE => ?_
    refine WQ.done (by kernel_rfl) ?_
    replace H := pq_Queues.shut (pq_Queues.A.mk al_q.a__p al_q.a__a al_q.t__p (slots_Table.A.mk al_q.t__a.heaps_p z2 al_q.t__a.items_p al_q.t__a.items_a al_q.t__a.at__p) al_q.entries_p) (pq_Queues.mk q.items (arena_Arena.mk q.a_.l q.a_.never q.a_.free t_1) t_2.2.2 q.entries q.serial) H.t4.t2.t4.t4
    exact hk _ _ ⟨r4, slots_Table.A.mk al_q.t__a.heaps_p z2 al_q.t__a.items_p al_q.t__a.items_a al_q.t__a.at__p, hE.sel [4, 5, 6] (by kernel_rfl), H.x3.t2.t1.t2⟩
   ·refine AQ.eff (j := 10) (obs := [.cell ⟨r, 1, none⟩ (.int .i64 c_.Kind), .cell ⟨p_q, 2, none⟩ (.pointer (some ⟨al_q.t__p, 0, none⟩))]) hE rfl rfl rfl rfl (by kernel_rfl) (OpTo.new hE H [] (.cells #[.int .i64 0, .int .i64 0] 26 (0, 0)) (fun r => .pointer (some ⟨r, 0, none⟩)) (obs := []) rfl (fun _ => by kernel_rfl) trivial) ?_
    rintro _ w ⟨r5, rfl, H⟩
    refine ⟨⟨H.cell 6 rfl rfl, H.cell 1 rfl rfl, trivial⟩, fun a hE => ?_⟩
    refine WQ.eff (j := 6) (obs := []) hE (by kernel_rfl) rfl rfl rfl rfl (by kernel_rfl) (OpTo.fn hE rfl rfl Tryz.call61 (slots_Table_Make_ok et_2 H.t3)) ?_
    rintro _ w ⟨z3, rfl, H⟩
    refine ⟨trivial, fun a hE => ?_⟩
    refine WQ.d0 hE [7, 8, 9] [(29, .agg #[.int .i64 t_2.1.At, .int .i64 t_2.1.Gen]), (30, .int .i64 t_2.2.1)] fun a hE => ?_
    refine WQ.eff0 (j := 11) (obs := []) hE (by kernel_rfl) rfl rfl rfl (by kernel_rfl) (OpTo.store hE H.t1 rfl rfl rfl rfl rfl rfl (Nat.le_of_ble_eq_true rfl)) ?_
    rintro _ w H
    refine ⟨trivial, fun a hE => ?_⟩
    refine WQ.d0 hE [12] [(6, .int .i64 t_2.2.1)] fun a hE => ?_
    refine WQ.done (by kernel_rfl) ?_
    replace H := pq_Queues.shut (pq_Queues.A.mk al_q.a__p al_q.a__a al_q.t__p (slots_Table.A.mk al_q.t__a.heaps_p z3 al_q.t__a.items_p al_q.t__a.items_a al_q.t__a.at__p) al_q.entries_p) (pq_Queues.mk q.items (arena_Arena.mk q.a_.l q.a_.never q.a_.free t_1) t_2.2.2 q.entries q.serial) H.t4.t2.t4.t4
    exact hk _ _ ⟨r5, slots_Table.A.mk al_q.t__a.heaps_p z3 al_q.t__a.items_p al_q.t__a.items_a al_q.t__a.at__p, hE.sel [4, 5, 6] (by kernel_rfl), H.x3.t2.t1.t2⟩
  rintro a w ⟨r3, z1, hE, H⟩
  refine Runs.sr ?_
  refine WR.seg hE 3 [.int .i64 t_2.1.At, .int .i64 t_2.1.Gen] [4, 33] (Lo := [(4, .pointer (some ⟨r1, 0, none⟩)), (33, .agg #[.int .i64 t_2.2.1, .int .i64 t_2.1.At, .int .i64 t_2.1.Gen, .int .i64 0, .int .i64 0, .int .i64 0, .int .i64 0, .int .i64 0])]) (obs := [.cell ⟨r3, 0, none⟩ (.int .i64 t_2.1.At), .cell ⟨r3, 1, none⟩ (.int .i64 t_2.1.Gen)]) rfl (by kernel_rfl) ⟨H.cell 0 rfl rfl, H.cell 0 rfl rfl, trivial⟩ fun a hE => ?_
  refine WR.eff0 hE rfl rfl rfl (OpTo.store hE H.t2 rfl rfl rfl rfl rfl rfl (Nat.le_of_ble_eq_true rfl)) ?_
  rintro _ w H a hE
  refine WR.done rfl ?_
  refine Runs.retO (vs := [.agg #[.int .i64 t_2.2.1, .int .i64 t_2.1.At, .int .i64 t_2.1.Gen, .int .i64 0, .int .i64 0, .int .i64 0, .int .i64 0, .int .i64 0]]) (obs := [.cell ⟨r1, 0, none⟩ (.int .i64 t_2.2.1), .cell ⟨r1, 1, none⟩ (.int .i64 t_2.1.At), .cell ⟨r1, 2, none⟩ (.int .i64 t_2.1.Gen), .cell ⟨r1, 3, none⟩ (.int .i64 0), .cell ⟨r1, 4, none⟩ (.int .i64 0), .cell ⟨r1, 5, none⟩ (.int .i64 0), .cell ⟨r1, 6, none⟩ (.int .i64 0), .cell ⟨r1, 7, none⟩ (.int .i64 0)]) hE Tryz.func30 rfl [.int .i64 t_2.2.1, .int .i64 t_2.1.At, .int .i64 t_2.1.Gen, .int .i64 0, .int .i64 0, .int .i64 0, .int .i64 0, .int .i64 0] (by kernel_rfl) ⟨H.cell 0 rfl rfl, H.cell 0 rfl rfl, H.cell 0 rfl rfl, H.cell 0 rfl rfl, H.cell 0 rfl rfl, H.cell 0 rfl rfl, H.cell 0 rfl rfl, H.cell 0 rfl rfl, trivial⟩ ?_
  cases hm
  exact ⟨al_q.a__a, z1, rfl, H.x1.x0⟩
 ·replace hm := cond_f c hm
  refine Runs.sr ?_
  refine WR.e0 hE [(34, .bool (c_.Op == 2))] fun a hE => ?_
  refine Runs.cond hE rfl (fun c => ?_) (fun c => ?_)
  ·replace hm := cond_t c hm
   refine Runs.sr ?_
   refine WR.d hE 2 [.int .i64 c_.Op, .int .i64 c_.Kind, .int .i64 c_.Heap.At, .int .i64 c_.Heap.Gen, .int .i64 c_.Other.At, .int .i64 c_.Other.Gen, .int .i64 c_.Item.At, .int .i64 c_.Item.Gen, .int .i64 c_.Key] [(36, .pointer (some ⟨p_q, 0, none⟩)), (37, .agg #[.int .i64 c_.Op, .int .i64 c_.Kind, .int .i64 c_.Heap.At, .int .i64 c_.Heap.Gen, .int .i64 c_.Other.At, .int .i64 c_.Other.Gen, .int .i64 c_.Item.At, .int .i64 c_.Item.Gen, .int .i64 c_.Key])] (obs := [.cell ⟨r, 0, none⟩ (.int .i64 c_.Op), .cell ⟨r, 1, none⟩ (.int .i64 c_.Kind), .cell ⟨r, 2, none⟩ (.int .i64 c_.Heap.At), .cell ⟨r, 3, none⟩ (.int .i64 c_.Heap.Gen), .cell ⟨r, 4, none⟩ (.int .i64 c_.Other.At), .cell ⟨r, 5, none⟩ (.int .i64 c_.Other.Gen), .cell ⟨r, 6, none⟩ (.int .i64 c_.Item.At), .cell ⟨r, 7, none⟩ (.int .i64 c_.Item.Gen), .cell ⟨r, 8, none⟩ (.int .i64 c_.Key)]) ⟨H.cell 8 rfl rfl, H.cell 8 rfl rfl, H.cell 8 rfl rfl, H.cell 8 rfl rfl, H.cell 8 rfl rfl, H.cell 8 rfl rfl, H.cell 8 rfl rfl, H.cell 8 rfl rfl, H.cell 8 rfl rfl, trivial⟩ fun a hE => ?_
   replace H := arena_Arena.shut al_q.a__a (arena_Arena.mk q.a_.l q.a_.never q.a_.free t_1) H.t3.t3.t3
   replace H := pq_Queues.shut al_q (pq_Queues.mk q.items (arena_Arena.mk q.a_.l q.a_.never q.a_.free t_1) q.t_ q.entries q.serial) H.t3.t3.t2.t3
   obtain ⟨t_3, et_3, hm⟩ := bind_some hm
   refine WR.eff hE rfl rfl rfl rfl (OpTo.fn hE rfl rfl Tryz.call62 (pq_Queues_insert_ok et_3 H)) ?_
   rintro _ w ⟨z4, z5, rfl, H⟩ a hE
   refine WR.eff0 hE rfl rfl rfl (OpTo.store hE H.t1 rfl rfl rfl rfl rfl rfl (Nat.le_of_ble_eq_true rfl)) ?_
   rintro _ w H a hE
   refine WR.done rfl ?_
   refine Runs.retO (vs := [.agg #[.int .i64 t_3.1.Why, .int .i64 t_3.1.Heap.At, .int .i64 t_3.1.Heap.Gen, .int .i64 t_3.1.Item.At, .int .i64 t_3.1.Item.Gen, .int .i64 t_3.1.Entry.Key, .int .i64 t_3.1.Entry.Serial, .int .i64 t_3.1.N]]) (obs := [.cell ⟨r1, 0, none⟩ (.int .i64 t_3.1.Why), .cell ⟨r1, 1, none⟩ (.int .i64 t_3.1.Heap.At), .cell ⟨r1, 2, none⟩ (.int .i64 t_3.1.Heap.Gen), .cell ⟨r1, 3, none⟩ (.int .i64 t_3.1.Item.At), .cell ⟨r1, 4, none⟩ (.int .i64 t_3.1.Item.Gen), .cell ⟨r1, 5, none⟩ (.int .i64 t_3.1.Entry.Key), .cell ⟨r1, 6, none⟩ (.int .i64 t_3.1.Entry.Serial), .cell ⟨r1, 7, none⟩ (.int .i64 t_3.1.N)]) hE Tryz.func30 rfl [.int .i64 t_3.1.Why, .int .i64 t_3.1.Heap.At, .int .i64 t_3.1.Heap.Gen, .int .i64 t_3.1.Item.At, .int .i64 t_3.1.Item.Gen, .int .i64 t_3.1.Entry.Key, .int .i64 t_3.1.Entry.Serial, .int .i64 t_3.1.N] (by kernel_rfl) ⟨H.cell 0 rfl rfl, H.cell 0 rfl rfl, H.cell 0 rfl rfl, H.cell 0 rfl rfl, H.cell 0 rfl rfl, H.cell 0 rfl rfl, H.cell 0 rfl rfl, H.cell 0 rfl rfl, trivial⟩ ?_
   cases hm
   exact ⟨z4, z5, rfl, H.x2.x0⟩
  ·replace hm := cond_f c hm
   refine Runs.sr ?_
   refine WR.e0 hE [(39, .bool (c_.Op == 3))] fun a hE => ?_
   refine Runs.cond hE rfl (fun c => ?_) (fun c => ?_)
   ·replace hm := cond_t c hm
    refine Runs.sr ?_
    refine WR.d hE 3 [.int .i64 c_.Heap.At, .int .i64 c_.Heap.Gen] [(41, .pointer (some ⟨p_q, 0, none⟩)), (43, .agg #[.int .i64 c_.Heap.At, .int .i64 c_.Heap.Gen])] (obs := [.cell ⟨r, 2, none⟩ (.int .i64 c_.Heap.At), .cell ⟨r, 3, none⟩ (.int .i64 c_.Heap.Gen)]) ⟨H.cell 8 rfl rfl, H.cell 8 rfl rfl, trivial⟩ fun a hE => ?_
    replace H := arena_Arena.shut al_q.a__a (arena_Arena.mk q.a_.l q.a_.never q.a_.free t_1) H.t3.t3.t3
    replace H := pq_Queues.shut al_q (pq_Queues.mk q.items (arena_Arena.mk q.a_.l q.a_.never q.a_.free t_1) q.t_ q.entries q.serial) H.t3.t3.t2.t3
    obtain ⟨t_4, et_4, hm⟩ := bind_some hm
    refine WR.eff hE rfl rfl rfl rfl (OpTo.fn hE rfl rfl Tryz.call63 (pq_Queues_min_ok et_4 H)) ?_
    rintro _ w ⟨z6, z7, rfl, H⟩ a hE
    refine WR.eff0 hE rfl rfl rfl (OpTo.store hE H.t1 rfl rfl rfl rfl rfl rfl (Nat.le_of_ble_eq_true rfl)) ?_
    rintro _ w H a hE
    refine WR.done rfl ?_
    refine Runs.retO (vs := [.agg #[.int .i64 t_4.1.Why, .int .i64 t_4.1.Heap.At, .int .i64 t_4.1.Heap.Gen, .int .i64 t_4.1.Item.At, .int .i64 t_4.1.Item.Gen, .int .i64 t_4.1.Entry.Key, .int .i64 t_4.1.Entry.Serial, .int .i64 t_4.1.N]]) (obs := [.cell ⟨r1, 0, none⟩ (.int .i64 t_4.1.Why), .cell ⟨r1, 1, none⟩ (.int .i64 t_4.1.Heap.At), .cell ⟨r1, 2, none⟩ (.int .i64 t_4.1.Heap.Gen), .cell ⟨r1, 3, none⟩ (.int .i64 t_4.1.Item.At), .cell ⟨r1, 4, none⟩ (.int .i64 t_4.1.Item.Gen), .cell ⟨r1, 5, none⟩ (.int .i64 t_4.1.Entry.Key), .cell ⟨r1, 6, none⟩ (.int .i64 t_4.1.Entry.Serial), .cell ⟨r1, 7, none⟩ (.int .i64 t_4.1.N)]) hE Tryz.func30 rfl [.int .i64 t_4.1.Why, .int .i64 t_4.1.Heap.At, .int .i64 t_4.1.Heap.Gen, .int .i64 t_4.1.Item.At, .int .i64 t_4.1.Item.Gen, .int .i64 t_4.1.Entry.Key, .int .i64 t_4.1.Entry.Serial, .int .i64 t_4.1.N] (by kernel_rfl) ⟨H.cell 0 rfl rfl, H.cell 0 rfl rfl, H.cell 0 rfl rfl, H.cell 0 rfl rfl, H.cell 0 rfl rfl, H.cell 0 rfl rfl, H.cell 0 rfl rfl, H.cell 0 rfl rfl, trivial⟩ ?_
    cases hm
    exact ⟨z6, z7, rfl, H.x2.x0⟩
   ·replace hm := cond_f c hm
    refine Runs.sr ?_
    refine WR.e0 hE [(45, .bool (c_.Op == 4))] fun a hE => ?_
    refine Runs.cond hE rfl (fun c => ?_) (fun c => ?_)
    ·replace hm := cond_t c hm
     refine Runs.sr ?_
     refine WR.d hE 3 [.int .i64 c_.Heap.At, .int .i64 c_.Heap.Gen] [(47, .pointer (some ⟨p_q, 0, none⟩)), (49, .agg #[.int .i64 c_.Heap.At, .int .i64 c_.Heap.Gen])] (obs := [.cell ⟨r, 2, none⟩ (.int .i64 c_.Heap.At), .cell ⟨r, 3, none⟩ (.int .i64 c_.Heap.Gen)]) ⟨H.cell 8 rfl rfl, H.cell 8 rfl rfl, trivial⟩ fun a hE => ?_
     replace H := arena_Arena.shut al_q.a__a (arena_Arena.mk q.a_.l q.a_.never q.a_.free t_1) H.t3.t3.t3
     replace H := pq_Queues.shut al_q (pq_Queues.mk q.items (arena_Arena.mk q.a_.l q.a_.never q.a_.free t_1) q.t_ q.entries q.serial) H.t3.t3.t2.t3
     obtain ⟨t_5, et_5, hm⟩ := bind_some hm
     refine WR.eff hE rfl rfl rfl rfl (OpTo.fn hE rfl rfl Tryz.call63 (pq_Queues_min_ok et_5 H)) ?_
     rintro _ w ⟨z8, z9, rfl, H⟩ a hE
     refine WR.eff0 hE rfl rfl rfl (OpTo.store hE H.t1 rfl rfl rfl rfl rfl rfl (Nat.le_of_ble_eq_true rfl)) ?_
     rintro _ w H a hE
     refine WR.done rfl ?_
     refine Runs.retO (vs := [.agg #[.int .i64 t_5.1.Why, .int .i64 t_5.1.Heap.At, .int .i64 t_5.1.Heap.Gen, .int .i64 t_5.1.Item.At, .int .i64 t_5.1.Item.Gen, .int .i64 t_5.1.Entry.Key, .int .i64 t_5.1.Entry.Serial, .int .i64 t_5.1.N]]) (obs := [.cell ⟨r1, 0, none⟩ (.int .i64 t_5.1.Why), .cell ⟨r1, 1, none⟩ (.int .i64 t_5.1.Heap.At), .cell ⟨r1, 2, none⟩ (.int .i64 t_5.1.Heap.Gen), .cell ⟨r1, 3, none⟩ (.int .i64 t_5.1.Item.At), .cell ⟨r1, 4, none⟩ (.int .i64 t_5.1.Item.Gen), .cell ⟨r1, 5, none⟩ (.int .i64 t_5.1.Entry.Key), .cell ⟨r1, 6, none⟩ (.int .i64 t_5.1.Entry.Serial), .cell ⟨r1, 7, none⟩ (.int .i64 t_5.1.N)]) hE Tryz.func30 rfl [.int .i64 t_5.1.Why, .int .i64 t_5.1.Heap.At, .int .i64 t_5.1.Heap.Gen, .int .i64 t_5.1.Item.At, .int .i64 t_5.1.Item.Gen, .int .i64 t_5.1.Entry.Key, .int .i64 t_5.1.Entry.Serial, .int .i64 t_5.1.N] (by kernel_rfl) ⟨H.cell 0 rfl rfl, H.cell 0 rfl rfl, H.cell 0 rfl rfl, H.cell 0 rfl rfl, H.cell 0 rfl rfl, H.cell 0 rfl rfl, H.cell 0 rfl rfl, H.cell 0 rfl rfl, trivial⟩ ?_
     cases hm
     exact ⟨z8, z9, rfl, H.x2.x0⟩
    ·replace hm := cond_f c hm
     refine Runs.sr ?_
     refine WR.e0 hE [(51, .bool (c_.Op == 5))] fun a hE => ?_
     refine Runs.cond hE rfl (fun c => ?_) (fun c => ?_)
     ·replace hm := cond_t c hm
      refine Runs.sr ?_
      refine WR.d hE 2 [.int .i64 c_.Op, .int .i64 c_.Kind, .int .i64 c_.Heap.At, .int .i64 c_.Heap.Gen, .int .i64 c_.Other.At, .int .i64 c_.Other.Gen, .int .i64 c_.Item.At, .int .i64 c_.Item.Gen, .int .i64 c_.Key] [(53, .pointer (some ⟨p_q, 0, none⟩)), (54, .agg #[.int .i64 c_.Op, .int .i64 c_.Kind, .int .i64 c_.Heap.At, .int .i64 c_.Heap.Gen, .int .i64 c_.Other.At, .int .i64 c_.Other.Gen, .int .i64 c_.Item.At, .int .i64 c_.Item.Gen, .int .i64 c_.Key])] (obs := [.cell ⟨r, 0, none⟩ (.int .i64 c_.Op), .cell ⟨r, 1, none⟩ (.int .i64 c_.Kind), .cell ⟨r, 2, none⟩ (.int .i64 c_.Heap.At), .cell ⟨r, 3, none⟩ (.int .i64 c_.Heap.Gen), .cell ⟨r, 4, none⟩ (.int .i64 c_.Other.At), .cell ⟨r, 5, none⟩ (.int .i64 c_.Other.Gen), .cell ⟨r, 6, none⟩ (.int .i64 c_.Item.At), .cell ⟨r, 7, none⟩ (.int .i64 c_.Item.Gen), .cell ⟨r, 8, none⟩ (.int .i64 c_.Key)]) ⟨H.cell 8 rfl rfl, H.cell 8 rfl rfl, H.cell 8 rfl rfl, H.cell 8 rfl rfl, H.cell 8 rfl rfl, H.cell 8 rfl rfl, H.cell 8 rfl rfl, H.cell 8 rfl rfl, H.cell 8 rfl rfl, trivial⟩ fun a hE => ?_
      replace H := arena_Arena.shut al_q.a__a (arena_Arena.mk q.a_.l q.a_.never q.a_.free t_1) H.t3.t3.t3
      replace H := pq_Queues.shut al_q (pq_Queues.mk q.items (arena_Arena.mk q.a_.l q.a_.never q.a_.free t_1) q.t_ q.entries q.serial) H.t3.t3.t2.t3
      obtain ⟨t_6, et_6, hm⟩ := bind_some hm
      refine WR.eff hE rfl rfl rfl rfl (OpTo.fn hE rfl rfl Tryz.call64 (pq_Queues_decrease_ok et_6 H)) ?_
      rintro _ w ⟨rfl, H⟩ a hE
      refine WR.eff0 hE rfl rfl rfl (OpTo.store hE H.t1 rfl rfl rfl rfl rfl rfl (Nat.le_of_ble_eq_true rfl)) ?_
      rintro _ w H a hE
      refine WR.done rfl ?_
      refine Runs.retO (vs := [.agg #[.int .i64 t_6.Why, .int .i64 t_6.Heap.At, .int .i64 t_6.Heap.Gen, .int .i64 t_6.Item.At, .int .i64 t_6.Item.Gen, .int .i64 t_6.Entry.Key, .int .i64 t_6.Entry.Serial, .int .i64 t_6.N]]) (obs := [.cell ⟨r1, 0, none⟩ (.int .i64 t_6.Why), .cell ⟨r1, 1, none⟩ (.int .i64 t_6.Heap.At), .cell ⟨r1, 2, none⟩ (.int .i64 t_6.Heap.Gen), .cell ⟨r1, 3, none⟩ (.int .i64 t_6.Item.At), .cell ⟨r1, 4, none⟩ (.int .i64 t_6.Item.Gen), .cell ⟨r1, 5, none⟩ (.int .i64 t_6.Entry.Key), .cell ⟨r1, 6, none⟩ (.int .i64 t_6.Entry.Serial), .cell ⟨r1, 7, none⟩ (.int .i64 t_6.N)]) hE Tryz.func30 rfl [.int .i64 t_6.Why, .int .i64 t_6.Heap.At, .int .i64 t_6.Heap.Gen, .int .i64 t_6.Item.At, .int .i64 t_6.Item.Gen, .int .i64 t_6.Entry.Key, .int .i64 t_6.Entry.Serial, .int .i64 t_6.N] (by kernel_rfl) ⟨H.cell 0 rfl rfl, H.cell 0 rfl rfl, H.cell 0 rfl rfl, H.cell 0 rfl rfl, H.cell 0 rfl rfl, H.cell 0 rfl rfl, H.cell 0 rfl rfl, H.cell 0 rfl rfl, trivial⟩ ?_
      cases hm
      exact ⟨al_q.a__a, al_q.t__a, rfl, H.x2.x0⟩
     ·replace hm := cond_f c hm
      refine Runs.sr ?_
      refine WR.e0 hE [(56, .bool (c_.Op == 6))] fun a hE => ?_
      refine Runs.cond hE rfl (fun c => ?_) (fun c => ?_)
      ·replace hm := cond_t c hm
       refine Runs.sr ?_
       refine WR.d hE 3 [.int .i64 c_.Item.At, .int .i64 c_.Item.Gen] [(58, .pointer (some ⟨p_q, 0, none⟩)), (60, .agg #[.int .i64 c_.Item.At, .int .i64 c_.Item.Gen])] (obs := [.cell ⟨r, 6, none⟩ (.int .i64 c_.Item.At), .cell ⟨r, 7, none⟩ (.int .i64 c_.Item.Gen)]) ⟨H.cell 8 rfl rfl, H.cell 8 rfl rfl, trivial⟩ fun a hE => ?_
       replace H := arena_Arena.shut al_q.a__a (arena_Arena.mk q.a_.l q.a_.never q.a_.free t_1) H.t3.t3.t3
       replace H := pq_Queues.shut al_q (pq_Queues.mk q.items (arena_Arena.mk q.a_.l q.a_.never q.a_.free t_1) q.t_ q.entries q.serial) H.t3.t3.t2.t3
       obtain ⟨t_7, et_7, hm⟩ := bind_some hm
       refine WR.eff hE rfl rfl rfl rfl (OpTo.fn hE rfl rfl Tryz.call65 (pq_Queues_remove_ok et_7 H)) ?_
       rintro _ w ⟨rfl, H⟩ a hE
       refine WR.eff0 hE rfl rfl rfl (OpTo.store hE H.t1 rfl rfl rfl rfl rfl rfl (Nat.le_of_ble_eq_true rfl)) ?_
       rintro _ w H a hE
       refine WR.done rfl ?_
       refine Runs.retO (vs := [.agg #[.int .i64 t_7.Why, .int .i64 t_7.Heap.At, .int .i64 t_7.Heap.Gen, .int .i64 t_7.Item.At, .int .i64 t_7.Item.Gen, .int .i64 t_7.Entry.Key, .int .i64 t_7.Entry.Serial, .int .i64 t_7.N]]) (obs := [.cell ⟨r1, 0, none⟩ (.int .i64 t_7.Why), .cell ⟨r1, 1, none⟩ (.int .i64 t_7.Heap.At), .cell ⟨r1, 2, none⟩ (.int .i64 t_7.Heap.Gen), .cell ⟨r1, 3, none⟩ (.int .i64 t_7.Item.At), .cell ⟨r1, 4, none⟩ (.int .i64 t_7.Item.Gen), .cell ⟨r1, 5, none⟩ (.int .i64 t_7.Entry.Key), .cell ⟨r1, 6, none⟩ (.int .i64 t_7.Entry.Serial), .cell ⟨r1, 7, none⟩ (.int .i64 t_7.N)]) hE Tryz.func30 rfl [.int .i64 t_7.Why, .int .i64 t_7.Heap.At, .int .i64 t_7.Heap.Gen, .int .i64 t_7.Item.At, .int .i64 t_7.Item.Gen, .int .i64 t_7.Entry.Key, .int .i64 t_7.Entry.Serial, .int .i64 t_7.N] (by kernel_rfl) ⟨H.cell 0 rfl rfl, H.cell 0 rfl rfl, H.cell 0 rfl rfl, H.cell 0 rfl rfl, H.cell 0 rfl rfl, H.cell 0 rfl rfl, H.cell 0 rfl rfl, H.cell 0 rfl rfl, trivial⟩ ?_
       cases hm
       exact ⟨al_q.a__a, al_q.t__a, rfl, H.x2.x0⟩
      ·replace hm := cond_f c hm
       refine Runs.sr ?_
       refine WR.e0 hE [(62, .bool (c_.Op == 7))] fun a hE => ?_
       refine Runs.cond hE rfl (fun c => ?_) (fun c => ?_)
       ·replace hm := cond_t c hm
        refine Runs.sr ?_
        refine WR.d hE 5 [.int .i64 c_.Heap.At, .int .i64 c_.Heap.Gen, .int .i64 c_.Other.At, .int .i64 c_.Other.Gen] [(64, .pointer (some ⟨p_q, 0, none⟩)), (66, .agg #[.int .i64 c_.Heap.At, .int .i64 c_.Heap.Gen]), (68, .agg #[.int .i64 c_.Other.At, .int .i64 c_.Other.Gen])] (obs := [.cell ⟨r, 2, none⟩ (.int .i64 c_.Heap.At), .cell ⟨r, 3, none⟩ (.int .i64 c_.Heap.Gen), .cell ⟨r, 4, none⟩ (.int .i64 c_.Other.At), .cell ⟨r, 5, none⟩ (.int .i64 c_.Other.Gen)]) ⟨H.cell 8 rfl rfl, H.cell 8 rfl rfl, H.cell 8 rfl rfl, H.cell 8 rfl rfl, trivial⟩ fun a hE => ?_
        replace H := arena_Arena.shut al_q.a__a (arena_Arena.mk q.a_.l q.a_.never q.a_.free t_1) H.t3.t3.t3
        replace H := pq_Queues.shut al_q (pq_Queues.mk q.items (arena_Arena.mk q.a_.l q.a_.never q.a_.free t_1) q.t_ q.entries q.serial) H.t3.t3.t2.t3
        obtain ⟨t_8, et_8, hm⟩ := bind_some hm
        refine WR.eff hE rfl rfl rfl rfl (OpTo.fn hE rfl rfl Tryz.call66 (pq_Queues_meld_ok et_8 H)) ?_
        rintro _ w ⟨rfl, H⟩ a hE
        refine WR.eff0 hE rfl rfl rfl (OpTo.store hE H.t1 rfl rfl rfl rfl rfl rfl (Nat.le_of_ble_eq_true rfl)) ?_
        rintro _ w H a hE
        refine WR.done rfl ?_
        refine Runs.retO (vs := [.agg #[.int .i64 t_8.Why, .int .i64 t_8.Heap.At, .int .i64 t_8.Heap.Gen, .int .i64 t_8.Item.At, .int .i64 t_8.Item.Gen, .int .i64 t_8.Entry.Key, .int .i64 t_8.Entry.Serial, .int .i64 t_8.N]]) (obs := [.cell ⟨r1, 0, none⟩ (.int .i64 t_8.Why), .cell ⟨r1, 1, none⟩ (.int .i64 t_8.Heap.At), .cell ⟨r1, 2, none⟩ (.int .i64 t_8.Heap.Gen), .cell ⟨r1, 3, none⟩ (.int .i64 t_8.Item.At), .cell ⟨r1, 4, none⟩ (.int .i64 t_8.Item.Gen), .cell ⟨r1, 5, none⟩ (.int .i64 t_8.Entry.Key), .cell ⟨r1, 6, none⟩ (.int .i64 t_8.Entry.Serial), .cell ⟨r1, 7, none⟩ (.int .i64 t_8.N)]) hE Tryz.func30 rfl [.int .i64 t_8.Why, .int .i64 t_8.Heap.At, .int .i64 t_8.Heap.Gen, .int .i64 t_8.Item.At, .int .i64 t_8.Item.Gen, .int .i64 t_8.Entry.Key, .int .i64 t_8.Entry.Serial, .int .i64 t_8.N] (by kernel_rfl) ⟨H.cell 0 rfl rfl, H.cell 0 rfl rfl, H.cell 0 rfl rfl, H.cell 0 rfl rfl, H.cell 0 rfl rfl, H.cell 0 rfl rfl, H.cell 0 rfl rfl, H.cell 0 rfl rfl, trivial⟩ ?_
        cases hm
        exact ⟨al_q.a__a, al_q.t__a, rfl, H.x2.x0⟩
       ·replace hm := cond_f c hm
        refine Runs.sr ?_
        refine WR.e0 hE [(70, .bool (c_.Op == 8))] fun a hE => ?_
        refine Runs.cond hE rfl (fun c => ?_) (fun c => ?_)
        ·replace hm := cond_t c hm
         refine Runs.seq ?_
         refine Runs.drawn mixed (by kernel_rfl) ?_
         replace H := H.drew
         refine WQ.d hE [0, 1, 2, 3, 4, 5] [.pointer (some ⟨al_q.t__p, 0, none⟩), .int .i64 c_.Heap.At, .int .i64 c_.Heap.Gen] [(76, .pointer (some ⟨al_q.t__p, 0, none⟩)), (78, .agg #[.int .i64 c_.Heap.At, .int .i64 c_.Heap.Gen])] (obs := [.cell ⟨p_q, 2, none⟩ (.pointer (some ⟨al_q.t__p, 0, none⟩)), .cell ⟨r, 2, none⟩ (.int .i64 c_.Heap.At), .cell ⟨r, 3, none⟩ (.int .i64 c_.Heap.Gen)]) ⟨H.cell 4 rfl rfl, H.cell 8 rfl rfl, H.cell 8 rfl rfl, trivial⟩ fun a hE => ?_
         obtain ⟨t_9, et_9, hm⟩ := bind_some hm
         refine WQ.eff (j := 6) (obs := []) hE (by kernel_rfl) rfl rfl rfl rfl (by kernel_rfl) (OpTo.fn hE rfl rfl Tryz.call67 (slots_Table_Heap_ok et_9 H.t5)) ?_
         rintro _ w ⟨rfl, H⟩
         refine ⟨trivial, fun a hE => ?_⟩
         refine WQ.d0 hE [7, 8, 9, 10, 11, 12, 13, 14, 15] [(9, .int .i64 t_9.2.2.1), (10, .int .i64 t_9.2.2.2)] fun a hE => ?_
         refine WQ.done (by kernel_rfl) ?_
         refine Runs.sr ?_
         refine WR.d0 hE 3 [(86, .agg #[.int .i64 t_9.2.2.2, .int .i64 0, .int .i64 0, .int .i64 0, .int .i64 0, .int .i64 0, .int .i64 0, .int .i64 t_9.2.2.1])] fun a hE => ?_
         refine WR.eff0 hE rfl rfl rfl (OpTo.store hE H.t7 rfl rfl rfl rfl rfl rfl (Nat.le_of_ble_eq_true rfl)) ?_
         rintro _ w H a hE
         refine WR.done rfl ?_
         refine Runs.retO (vs := [.agg #[.int .i64 t_9.2.2.2, .int .i64 0, .int .i64 0, .int .i64 0, .int .i64 0, .int .i64 0, .int .i64 0, .int .i64 t_9.2.2.1]]) (obs := [.cell ⟨r1, 0, none⟩ (.int .i64 t_9.2.2.2), .cell ⟨r1, 1, none⟩ (.int .i64 0), .cell ⟨r1, 2, none⟩ (.int .i64 0), .cell ⟨r1, 3, none⟩ (.int .i64 0), .cell ⟨r1, 4, none⟩ (.int .i64 0), .cell ⟨r1, 5, none⟩ (.int .i64 0), .cell ⟨r1, 6, none⟩ (.int .i64 0), .cell ⟨r1, 7, none⟩ (.int .i64 t_9.2.2.1)]) hE Tryz.func30 rfl [.int .i64 t_9.2.2.2, .int .i64 0, .int .i64 0, .int .i64 0, .int .i64 0, .int .i64 0, .int .i64 0, .int .i64 t_9.2.2.1] (by kernel_rfl) ⟨H.cell 0 rfl rfl, H.cell 0 rfl rfl, H.cell 0 rfl rfl, H.cell 0 rfl rfl, H.cell 0 rfl rfl, H.cell 0 rfl rfl, H.cell 0 rfl rfl, H.cell 0 rfl rfl, trivial⟩ ?_
         replace H := arena_Arena.shut al_q.a__a (arena_Arena.mk q.a_.l q.a_.never q.a_.free t_1) H.t2.t5.t5.t5
         replace H := pq_Queues.shut al_q (pq_Queues.mk q.items (arena_Arena.mk q.a_.l q.a_.never q.a_.free t_1) q.t_ q.entries q.serial) H.t4.t3.t2.t4
         cases hm
         exact ⟨al_q.a__a, al_q.t__a, rfl, H.x2.x1⟩
        ·replace hm := cond_f c hm
         refine Runs.sr ?_
         refine WR.e0 hE [(87, .bool (c_.Op == 9))] fun a hE => ?_
         refine Runs.cond hE rfl (fun c => ?_) (fun c => ?_)
         ·replace hm := cond_t c hm
          refine Runs.sr ?_
          refine WR.d hE 3 [.int .i64 c_.Heap.At, .int .i64 c_.Heap.Gen] [(89, .pointer (some ⟨p_q, 0, none⟩)), (91, .agg #[.int .i64 c_.Heap.At, .int .i64 c_.Heap.Gen])] (obs := [.cell ⟨r, 2, none⟩ (.int .i64 c_.Heap.At), .cell ⟨r, 3, none⟩ (.int .i64 c_.Heap.Gen)]) ⟨H.cell 8 rfl rfl, H.cell 8 rfl rfl, trivial⟩ fun a hE => ?_
          replace H := arena_Arena.shut al_q.a__a (arena_Arena.mk q.a_.l q.a_.never q.a_.free t_1) H.t3.t3.t3
          replace H := pq_Queues.shut al_q (pq_Queues.mk q.items (arena_Arena.mk q.a_.l q.a_.never q.a_.free t_1) q.t_ q.entries q.serial) H.t3.t3.t2.t3
          obtain ⟨t_10, et_10, hm⟩ := bind_some hm
          refine WR.eff hE rfl rfl rfl rfl (OpTo.fn hE rfl rfl Tryz.call68 (pq_Queues_destroy_ok et_10 H)) ?_
          rintro _ w ⟨rfl, H⟩ a hE
          refine WR.eff0 hE rfl rfl rfl (OpTo.store hE H.t1 rfl rfl rfl rfl rfl rfl (Nat.le_of_ble_eq_true rfl)) ?_
          rintro _ w H a hE
          refine WR.done rfl ?_
          refine Runs.retO (vs := [.agg #[.int .i64 t_10.Why, .int .i64 t_10.Heap.At, .int .i64 t_10.Heap.Gen, .int .i64 t_10.Item.At, .int .i64 t_10.Item.Gen, .int .i64 t_10.Entry.Key, .int .i64 t_10.Entry.Serial, .int .i64 t_10.N]]) (obs := [.cell ⟨r1, 0, none⟩ (.int .i64 t_10.Why), .cell ⟨r1, 1, none⟩ (.int .i64 t_10.Heap.At), .cell ⟨r1, 2, none⟩ (.int .i64 t_10.Heap.Gen), .cell ⟨r1, 3, none⟩ (.int .i64 t_10.Item.At), .cell ⟨r1, 4, none⟩ (.int .i64 t_10.Item.Gen), .cell ⟨r1, 5, none⟩ (.int .i64 t_10.Entry.Key), .cell ⟨r1, 6, none⟩ (.int .i64 t_10.Entry.Serial), .cell ⟨r1, 7, none⟩ (.int .i64 t_10.N)]) hE Tryz.func30 rfl [.int .i64 t_10.Why, .int .i64 t_10.Heap.At, .int .i64 t_10.Heap.Gen, .int .i64 t_10.Item.At, .int .i64 t_10.Item.Gen, .int .i64 t_10.Entry.Key, .int .i64 t_10.Entry.Serial, .int .i64 t_10.N] (by kernel_rfl) ⟨H.cell 0 rfl rfl, H.cell 0 rfl rfl, H.cell 0 rfl rfl, H.cell 0 rfl rfl, H.cell 0 rfl rfl, H.cell 0 rfl rfl, H.cell 0 rfl rfl, H.cell 0 rfl rfl, trivial⟩ ?_
          cases hm
          exact ⟨al_q.a__a, al_q.t__a, rfl, H.x2.x0⟩
         ·replace hm := cond_f c hm
          refine Runs.skip ?_
          refine Runs.inBlock ?_
          refine Runs.sr ?_
          obtain ⟨t_11, et_11, hm⟩ := bind_some hm
          refine WR.eff hE rfl rfl rfl rfl (OpTo.fn hE rfl rfl Tryz.call69 (pq_refused_ok et_11 H)) ?_
          rintro _ w ⟨rfl, H⟩ a hE
          refine WR.eff0 hE rfl rfl rfl (OpTo.store hE H.t7 rfl rfl rfl rfl rfl rfl (Nat.le_of_ble_eq_true rfl)) ?_
          rintro _ w H a hE
          refine WR.done rfl ?_
          refine Runs.retO (vs := [.agg #[.int .i64 t_11.Why, .int .i64 t_11.Heap.At, .int .i64 t_11.Heap.Gen, .int .i64 t_11.Item.At, .int .i64 t_11.Item.Gen, .int .i64 t_11.Entry.Key, .int .i64 t_11.Entry.Serial, .int .i64 t_11.N]]) (obs := [.cell ⟨r1, 0, none⟩ (.int .i64 t_11.Why), .cell ⟨r1, 1, none⟩ (.int .i64 t_11.Heap.At), .cell ⟨r1, 2, none⟩ (.int .i64 t_11.Heap.Gen), .cell ⟨r1, 3, none⟩ (.int .i64 t_11.Item.At), .cell ⟨r1, 4, none⟩ (.int .i64 t_11.Item.Gen), .cell ⟨r1, 5, none⟩ (.int .i64 t_11.Entry.Key), .cell ⟨r1, 6, none⟩ (.int .i64 t_11.Entry.Serial), .cell ⟨r1, 7, none⟩ (.int .i64 t_11.N)]) hE Tryz.func30 rfl [.int .i64 t_11.Why, .int .i64 t_11.Heap.At, .int .i64 t_11.Heap.Gen, .int .i64 t_11.Item.At, .int .i64 t_11.Item.Gen, .int .i64 t_11.Entry.Key, .int .i64 t_11.Entry.Serial, .int .i64 t_11.N] (by kernel_rfl) ⟨H.cell 0 rfl rfl, H.cell 0 rfl rfl, H.cell 0 rfl rfl, H.cell 0 rfl rfl, H.cell 0 rfl rfl, H.cell 0 rfl rfl, H.cell 0 rfl rfl, H.cell 0 rfl rfl, trivial⟩ ?_
          replace H := arena_Arena.shut al_q.a__a (arena_Arena.mk q.a_.l q.a_.never q.a_.free t_1) H.t1.t4.t4.t4
          replace H := pq_Queues.shut al_q (pq_Queues.mk q.items (arena_Arena.mk q.a_.l q.a_.never q.a_.free t_1) q.t_ q.entries q.serial) H.t4.t4.t2.t4
          cases hm
          exact ⟨al_q.a__a, al_q.t__a, rfl, H.x2.x1⟩

end Go.Proofs.YtbpkejhpmakmbaaGreat
