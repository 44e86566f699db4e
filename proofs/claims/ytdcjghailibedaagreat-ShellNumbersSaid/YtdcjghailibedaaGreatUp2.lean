import Derived.Test.YtdcjghailibedaaGreatUp1
set_option linter.unusedVariables false
set_option linter.unusedSimpArgs false
set_option maxRecDepth 10000
set_option maxHeartbeats 4000000
namespace Go.Proofs.YtdcjghailibedaaGreat
open Go.Th

theorem meter_New_ok {w0 w : World} {As : List HP}  {t : meter_Meter}  (hm : meter_New = some t) (H : St w0 (As) w) :
    CallsR Tryz.prog 100 #[] w fun v w' => ∃ (q0 : Nat), v = .pointer (some ⟨q0, 0, none⟩) ∧ St w0 (meter_Meter.R q0 t :: As) w' := by
 rw [meter_New] at hm
 refine enter (args := []) Tryz.func100 rfl rfl rfl fun a hE => ?_
 refine Runs.sr ?_
 refine WR.seg hE 1 [] [] (Lo := []) (obs := []) rfl (by kernel_rfl) trivial fun a hE => ?_
 refine WR.done rfl ?_
 refine Runs.sr ?_
 refine WR.d0 hE 1 [(1, .agg #[.int .i64 0, .int .i64 0, .int .i64 0])] fun a hE => ?_
 refine WR.eff hE rfl rfl rfl rfl (OpTo.new hE H [] (.cells #[.int .i64 0, .int .i64 0, .int .i64 0] 203 (0, 0)) (fun r => .pointer (some ⟨r, 0, none⟩)) (obs := []) rfl (fun _ => by kernel_rfl) trivial) ?_
 rintro _ w ⟨r, rfl, H⟩ a hE
 refine WR.e0 hE [(0, .pointer (some ⟨r, 0, none⟩))] fun a hE => ?_
 replace H := meter_Meter.shut (meter_Meter.mk 0 0 0) H
 refine Runs.ret hE Tryz.func100 rfl rfl ?_
 cases hm
 exact ⟨r, rfl, H⟩

theorem arena_New_ok {w0 w : World} {As : List HP} {cells : Int} {t : arena_Arena}  (hm : arena_New cells = some t) (H : St w0 (As) w) :
    CallsR Tryz.prog 71 #[.int .i64 cells] w fun v w' => ∃ (q0 : Nat), ∃ (al0 : arena_Arena.A), v = .pointer (some ⟨q0, 0, none⟩) ∧ St w0 (arena_Arena.R q0 al0 t :: As) w' := by
 rw [arena_New] at hm
 refine enter (args := [.int .i64 cells]) Tryz.func71 rfl rfl rfl fun a hE => ?_
 refine Runs.sr ?_
 refine WR.seg hE 1 [] [0] (Lo := [(0, .int .i64 cells)]) (obs := []) rfl (by kernel_rfl) trivial fun a hE => ?_
 refine WR.done rfl ?_
 refine Runs.seq ?_
 obtain ⟨l, el, hm⟩ := bind_some hm
 obtain ⟨t_, et_, hm⟩ := bind_some hm
 refine Runs.join (fun a w => ∃ (p1 : Nat), ∃ (al : arena_Arena.A), EnvOk 10 a [(2, .pointer (some ⟨p1, 0, none⟩))] ∧ St w0 (arena_Arena.R p1 al (arena_Arena.mk l 0 ([] : List Int) t_) :: As) w) (fun hk => ?_) ?_
 ·refine Runs.drawn mixed (by kernel_rfl) ?_
  replace H := H.drew
  refine WQ.d0 hE [0, 1, 2] [(5, .int .i64 (if (if 65536 < cells then 65536 else cells) > 0 then (if 65536 < cells then 65536 else cells) else 0))] fun a hE => ?_
  refine WQ.act2 3 4 (by kernel_rfl) ?_ ?_
  ·refine AQ.eff (j := 3) (obs := []) hE rfl rfl rfl rfl (by kernel_rfl) (OpTo.make el hE H arena_cell.enc_ok rfl rfl rfl rfl rfl rfl rfl rfl) ?_
   rintro _ w ⟨r2, rfl, H⟩
   refine ⟨trivial, fun a hE => ?_⟩
   refine WQ.eff (j := 4) (obs := []) hE (by kernel_rfl) rfl rfl rfl rfl (by kernel_rfl) (OpTo.fn hE rfl rfl Tryz.call100 (meter_New_ok et_ H)) ?_
   rintro _ w ⟨p2, rfl, H⟩
   refine ⟨trivial, fun a hE => ?_⟩
   refine WQ.d0 hE [5] [(8, .agg #[.slice (some ⟨r2, 0, none⟩) l.length l.length, .int .i64 0, .slice none 0 0, .pointer (some ⟨p2, 0, none⟩)])] fun a hE => ?_
   refine WQ.eff (j := 6) (obs := []) hE (by kernel_rfl) rfl rfl rfl rfl (by kernel_rfl) (OpTo.new hE H [] (.cells #[.slice (some ⟨r2, 0, none⟩) l.length l.length, .int .i64 0, .slice none 0 0, .pointer (some ⟨p2, 0, none⟩)] 187 (0, 0)) (fun r => .pointer (some ⟨r, 0, none⟩)) (obs := []) rfl (fun _ => by kernel_rfl) trivial) ?_
   rintro _ w ⟨r3, rfl, H⟩
   refine ⟨trivial, fun a hE => ?_⟩
   refine WQ.d0 hE [7] [(2, .pointer (some ⟨r3, 0, none⟩))] fun a hE => ?_
   refine WQ.done (by kernel_rfl) ?_
   replace H := H.slNil 3 ecI 1
   replace H := arena_Arena.shut (arena_Arena.A.mk (some ⟨r2, 0, none⟩) l.length none 0 p2) (arena_Arena.mk l 0 ([] : List Int) t_) H.t2.t1.t3.t3
   exact hk _ _ ⟨r3, arena_Arena.A.mk (some ⟨r2, 0, none⟩) l.length none 0 p2, hE.sel [2] (by kernel_rfl), H⟩
  ·refine AQ.eff (j := 4) (obs := []) hE rfl rfl rfl rfl (by kernel_rfl) (OpTo.fn hE rfl rfl Tryz.call100 (meter_New_ok et_ H)) ?_
   rintro _ w ⟨p3, rfl, H⟩
   refine ⟨trivial, fun a hE => ?_⟩
   refine WQ.eff (j := 3) (obs := []) hE (by kernel_rfl) rfl rfl rfl rfl (by kernel_rfl) (OpTo.make el hE H arena_cell.enc_ok rfl rfl rfl rfl rfl rfl rfl rfl) ?_
   rintro _ w ⟨r4, rfl, H⟩
   refine ⟨trivial, fun a hE => ?_⟩
   refine WQ.d0 hE [5] [(8, .agg #[.slice (some ⟨r4, 0, none⟩) l.length l.length, .int .i64 0, .slice none 0 0, .pointer (some ⟨p3, 0, none⟩)])] fun a hE => ?_
   refine WQ.eff (j := 6) (obs := []) hE (by kernel_rfl) rfl rfl rfl rfl (by kernel_rfl) (OpTo.new hE H [] (.cells #[.slice (some ⟨r4, 0, none⟩) l.length l.length, .int .i64 0, .slice none 0 0, .pointer (some ⟨p3, 0, none⟩)] 187 (0, 0)) (fun r => .pointer (some ⟨r, 0, none⟩)) (obs := []) rfl (fun _ => by kernel_rfl) trivial) ?_
   rintro _ w ⟨r5, rfl, H⟩
   refine ⟨trivial, fun a hE => ?_⟩
   refine WQ.d0 hE [7] [(2, .pointer (some ⟨r5, 0, none⟩))] fun a hE => ?_
   refine WQ.done (by kernel_rfl) ?_
   replace H := H.slNil 3 ecI 1
   replace H := arena_Arena.shut (arena_Arena.A.mk (some ⟨r4, 0, none⟩) l.length none 0 p3) (arena_Arena.mk l 0 ([] : List Int) t_) H.t3.t1.t3.t3
   exact hk _ _ ⟨r5, arena_Arena.A.mk (some ⟨r4, 0, none⟩) l.length none 0 p3, hE.sel [2] (by kernel_rfl), H⟩
 rintro a w ⟨p1, al, hE, H⟩
 refine Runs.ret hE Tryz.func71 rfl rfl ?_
 cases hm
 exact ⟨p1, al, rfl, H⟩

theorem pool_New_slots_heap_ok {w0 w : World} {As : List HP} {places : Int} {t : pool_Pool_slots_heap}  (hm : pool_New_slots_heap places = some t) (H : St w0 (As) w) :
    CallsR Tryz.prog 101 #[.int .i64 places] w fun v w' => ∃ (q0 : Nat), ∃ (al0 : pool_Pool_slots_heap.A), v = .pointer (some ⟨q0, 0, none⟩) ∧ St w0 (pool_Pool_slots_heap.R q0 al0 t :: As) w' := by
 rw [pool_New_slots_heap] at hm
 refine enter (args := [.int .i64 places]) Tryz.func101 rfl rfl rfl fun a hE => ?_
 refine Runs.sr ?_
 refine WR.seg hE 1 [] [0] (Lo := [(0, .int .i64 places)]) (obs := []) rfl (by kernel_rfl) trivial fun a hE => ?_
 refine WR.done rfl ?_
 refine Runs.sr ?_
 refine WR.d0 hE 4 [(6, .agg #[.int .i64 (if (if 65536 < places then 65536 else places) > 0 then (if 65536 < places then 65536 else places) else 0), .slice none 0 0, .slice none 0 0])] fun a hE => ?_
 refine WR.eff hE rfl rfl rfl rfl (OpTo.new hE H [] (.cells #[.int .i64 (if (if 65536 < places then 65536 else places) > 0 then (if 65536 < places then 65536 else places) else 0), .slice none 0 0, .slice none 0 0] 239 (0, 0)) (fun r => .pointer (some ⟨r, 0, none⟩)) (obs := []) rfl (fun _ => by kernel_rfl) trivial) ?_
 rintro _ w ⟨r, rfl, H⟩ a hE
 refine WR.e0 hE [(2, .pointer (some ⟨r, 0, none⟩))] fun a hE => ?_
 replace H := H.slNil 244 pool_place_slots_heap.enc 5
 replace H := H.slNil 3 ecI 1
 replace H := pool_Pool_slots_heap.shut (pool_Pool_slots_heap.A.mk none 0 none 0) (pool_Pool_slots_heap.mk (if (if 65536 < places then 65536 else places) > 0 then (if 65536 < places then 65536 else places) else 0) ([] : List pool_place_slots_heap) ([] : List Int)) H.t1.t2
 refine Runs.ret hE Tryz.func101 rfl rfl ?_
 cases hm
 exact ⟨r, pool_Pool_slots_heap.A.mk none 0 none 0, rfl, H⟩

theorem pool_New_slots_thing_ok {w0 w : World} {As : List HP} {places : Int} {t : pool_Pool_slots_thing}  (hm : pool_New_slots_thing places = some t) (H : St w0 (As) w) :
    CallsR Tryz.prog 102 #[.int .i64 places] w fun v w' => ∃ (q0 : Nat), ∃ (al0 : pool_Pool_slots_thing.A), v = .pointer (some ⟨q0, 0, none⟩) ∧ St w0 (pool_Pool_slots_thing.R q0 al0 t :: As) w' := by
 rw [pool_New_slots_thing] at hm
 refine enter (args := [.int .i64 places]) Tryz.func102 rfl rfl rfl fun a hE => ?_
 refine Runs.sr ?_
 refine WR.seg hE 1 [] [0] (Lo := [(0, .int .i64 places)]) (obs := []) rfl (by kernel_rfl) trivial fun a hE => ?_
 refine WR.done rfl ?_
 refine Runs.sr ?_
 refine WR.d0 hE 4 [(6, .agg #[.int .i64 (if (if 65536 < places then 65536 else places) > 0 then (if 65536 < places then 65536 else places) else 0), .slice none 0 0, .slice none 0 0])] fun a hE => ?_
 refine WR.eff hE rfl rfl rfl rfl (OpTo.new hE H [] (.cells #[.int .i64 (if (if 65536 < places then 65536 else places) > 0 then (if 65536 < places then 65536 else places) else 0), .slice none 0 0, .slice none 0 0] 242 (0, 0)) (fun r => .pointer (some ⟨r, 0, none⟩)) (obs := []) rfl (fun _ => by kernel_rfl) trivial) ?_
 rintro _ w ⟨r, rfl, H⟩ a hE
 refine WR.e0 hE [(2, .pointer (some ⟨r, 0, none⟩))] fun a hE => ?_
 replace H := H.slNil 280 pool_place_slots_thing.enc 5
 replace H := H.slNil 3 ecI 1
 replace H := pool_Pool_slots_thing.shut (pool_Pool_slots_thing.A.mk none 0 none 0) (pool_Pool_slots_thing.mk (if (if 65536 < places then 65536 else places) > 0 then (if 65536 < places then 65536 else places) else 0) ([] : List pool_place_slots_thing) ([] : List Int)) H.t1.t2
 refine Runs.ret hE Tryz.func102 rfl rfl ?_
 cases hm
 exact ⟨r, pool_Pool_slots_thing.A.mk none 0 none 0, rfl, H⟩

theorem slots_New_ok {w0 w : World} {As : List HP} {items : Int} {t : slots_Table}  (hm : slots_New items = some t) (H : St w0 (As) w) :
    CallsR Tryz.prog 72 #[.int .i64 items] w fun v w' => ∃ (q0 : Nat), ∃ (al0 : slots_Table.A), v = .pointer (some ⟨q0, 0, none⟩) ∧ St w0 (slots_Table.R q0 al0 t :: As) w' := by
 rw [slots_New] at hm
 refine enter (args := [.int .i64 items]) Tryz.func72 rfl rfl rfl fun a hE => ?_
 refine Runs.sr ?_
 refine WR.seg hE 1 [] [0] (Lo := [(0, .int .i64 items)]) (obs := []) rfl (by kernel_rfl) trivial fun a hE => ?_
 refine WR.done rfl ?_
 refine Runs.sr ?_
 obtain ⟨t_, et_, hm⟩ := bind_some hm
 refine WR.eff hE rfl rfl rfl rfl (OpTo.fn hE rfl rfl Tryz.call101 (pool_New_slots_heap_ok et_ H)) ?_
 rintro _ w ⟨p, al, rfl, H⟩ a hE
 refine WR.d0 hE 4 [(6, .int .i64 (if (if 16384 < items then 16384 else items) > 1 then (if 16384 < items then 16384 else items) else 1))] fun a hE => ?_
 obtain ⟨t_1, et_1, hm⟩ := bind_some hm
 refine WR.eff hE rfl rfl rfl rfl (OpTo.fn hE rfl rfl Tryz.call102 (pool_New_slots_thing_ok et_1 H)) ?_
 rintro _ w ⟨p1, al1, rfl, H⟩ a hE
 refine WR.eff hE rfl rfl rfl rfl (OpTo.mpNew vI api_Ref.val hE H rfl) ?_
 rintro _ w ⟨r, rfl, H⟩ a hE
 refine WR.d0 hE 7 [(9, .agg #[.pointer (some ⟨p, 0, none⟩), .pointer (some ⟨p1, 0, none⟩), .map (some r)])] fun a hE => ?_
 refine WR.eff hE rfl rfl rfl rfl (OpTo.new hE H [] (.cells #[.pointer (some ⟨p, 0, none⟩), .pointer (some ⟨p1, 0, none⟩), .map (some r)] 198 (0, 0)) (fun r => .pointer (some ⟨r, 0, none⟩)) (obs := []) rfl (fun _ => by kernel_rfl) trivial) ?_
 rintro _ w ⟨r1, rfl, H⟩ a hE
 refine WR.e0 hE [(2, .pointer (some ⟨r1, 0, none⟩))] fun a hE => ?_
 replace H := slots_Table.shut (slots_Table.A.mk p al p1 al1 r) (slots_Table.mk t_ t_1 ([] : List (Int × api_Ref))) H.t1.t2.t3.t3
 refine Runs.ret hE Tryz.func72 rfl rfl ?_
 cases hm
 exact ⟨r1, slots_Table.A.mk p al p1 al1 r, rfl, H⟩

theorem pq_New_ok {w0 w : World} {As : List HP} {items : Int} {t : (Option pq_Queues) × Int}  (hm : pq_New items = some t) (H : St w0 (As) w) :
    CallsR Tryz.prog 53 #[.int .i64 items] w fun v w' => ∃ (q0 : Nat), ∃ (al0 : pq_Queues.A), v = .tuple #[optV q0 t.1, .int .i64 t.2] ∧ St w0 (OptR (pq_Queues.R q0 al0) t.1 :: As) w' := by
 rw [pq_New] at hm
 refine enter (args := [.int .i64 items]) Tryz.func53 rfl rfl rfl fun a hE => ?_
 refine Runs.sr ?_
 refine WR.seg hE 2 [] [0] (Lo := [(0, .int .i64 items)]) (obs := []) rfl (by kernel_rfl) trivial fun a hE => ?_
 refine WR.done rfl ?_
 refine Runs.seq ?_
 refine Runs.seq ?_
 refine Runs.join (fun a w => EnvOk 19 a [(0, .int .i64 items), (9, .bool ((decide (items < 1)) || (decide (items > 16384))))] ∧ St w0 (As) w) (fun hk => ?_) ?_
 ·clear hm
  refine Runs.region ?_
  refine WR.d0 hE 3 [(6, .bool (decide (items < 1)))] fun a hE => ?_
  rcases Bool.eq_false_or_eq_true (decide (items < 1)) with c | c
  ·replace hE := hE.dec 6 c (by kernel_rfl)
   have c_ := c
   refine WR.e0 hE [(9, .bool true)] fun a hE => ?_
   refine hk _ _ ⟨?_, H⟩
   try rw [c_] at hE
   try rw [c_]
   exact hE.sel [0, 9] (by kernel_rfl)
  ·replace hE := hE.dec 6 c (by kernel_rfl)
   have c_1 := c
   refine WR.e0 hE [(9, .bool (decide (items > 16384)))] fun a hE => ?_
   refine hk _ _ ⟨?_, H⟩
   try rw [c_1] at hE
   try rw [c_1]
   exact hE.sel [0, 9] (by kernel_rfl)
 rintro a w ⟨hE, H⟩
 refine Runs.cond hE rfl (fun c => ?_) (fun c => ?_)
 ·replace hm := cond_t c hm
  refine Runs.sr ?_
  refine WR.seg hE 2 [] [2, 3] (Lo := [(2, .pointer none), (3, .int .i64 1)]) (obs := []) rfl (by kernel_rfl) trivial fun a hE => ?_
  refine WR.done rfl ?_
  refine Runs.ret hE Tryz.func53 rfl rfl ?_
  cases hm
  exact ⟨0, default, rfl, (St.optN H)⟩
 ·replace hm := cond_f c hm
  refine Runs.skip ?_
  refine Runs.sr ?_
  refine WR.seg hE 3 [] [0, 10, 12] (Lo := [(0, .int .i64 items), (10, .int .i64 items), (12, .int .i64 (w64 (2 * items)))]) (obs := []) rfl (by kernel_rfl) trivial fun a hE => ?_
  obtain ⟨t_, et_, hm⟩ := bind_some hm
  refine WR.eff hE rfl rfl rfl rfl (OpTo.fn hE rfl rfl Tryz.call71 (arena_New_ok et_ H)) ?_
  rintro _ w ⟨p, al, rfl, H⟩ a hE
  refine WR.d0 hE 5 [(14, .int .i64 items)] fun a hE => ?_
  obtain ⟨t_1, et_1, hm⟩ := bind_some hm
  refine WR.eff hE rfl rfl rfl rfl (OpTo.fn hE rfl rfl Tryz.call72 (slots_New_ok et_1 H)) ?_
  rintro _ w ⟨p1, al1, rfl, H⟩ a hE
  refine WR.eff hE rfl rfl rfl rfl (OpTo.mpNew api_Ref.val api_Entry.val hE H rfl) ?_
  rintro _ w ⟨r, rfl, H⟩ a hE
  refine WR.d0 hE 8 [(17, .agg #[.int .i64 items, .pointer (some ⟨p, 0, none⟩), .pointer (some ⟨p1, 0, none⟩), .map (some r), .int .i64 0])] fun a hE => ?_
  refine WR.eff hE rfl rfl rfl rfl (OpTo.new hE H [] (.cells #[.int .i64 items, .pointer (some ⟨p, 0, none⟩), .pointer (some ⟨p1, 0, none⟩), .map (some r), .int .i64 0] 156 (0, 0)) (fun r => .pointer (some ⟨r, 0, none⟩)) (obs := []) rfl (fun _ => by kernel_rfl) trivial) ?_
  rintro _ w ⟨r1, rfl, H⟩ a hE
  refine WR.e0 hE [(2, .pointer (some ⟨r1, 0, none⟩)), (3, .int .i64 0)] fun a hE => ?_
  replace H := pq_Queues.shut (pq_Queues.A.mk p al p1 al1 r) (pq_Queues.mk items t_ t_1 ([] : List (api_Ref × api_Entry)) 0) H.t1.t2.t3.t3
  refine Runs.ret hE Tryz.func53 rfl rfl ?_
  cases hm
  exact ⟨r1, pq_Queues.A.mk p al p1 al1 r, rfl, H⟩

theorem pool_New_jobs_Job_ok {w0 w : World} {As : List HP} {places : Int} {t : pool_Pool_jobs_Job}  (hm : pool_New_jobs_Job places = some t) (H : St w0 (As) w) :
    CallsR Tryz.prog 73 #[.int .i64 places] w fun v w' => ∃ (q0 : Nat), ∃ (al0 : pool_Pool_jobs_Job.A), v = .pointer (some ⟨q0, 0, none⟩) ∧ St w0 (pool_Pool_jobs_Job.R q0 al0 t :: As) w' := by
 rw [pool_New_jobs_Job] at hm
 refine enter (args := [.int .i64 places]) Tryz.func73 rfl rfl rfl fun a hE => ?_
 refine Runs.sr ?_
 refine WR.seg hE 1 [] [0] (Lo := [(0, .int .i64 places)]) (obs := []) rfl (by kernel_rfl) trivial fun a hE => ?_
 refine WR.done rfl ?_
 refine Runs.sr ?_
 refine WR.d0 hE 4 [(6, .agg #[.int .i64 (if (if 65536 < places then 65536 else places) > 0 then (if 65536 < places then 65536 else places) else 0), .slice none 0 0, .slice none 0 0])] fun a hE => ?_
 refine WR.eff hE rfl rfl rfl rfl (OpTo.new hE H [] (.cells #[.int .i64 (if (if 65536 < places then 65536 else places) > 0 then (if 65536 < places then 65536 else places) else 0), .slice none 0 0, .slice none 0 0] 201 (0, 0)) (fun r => .pointer (some ⟨r, 0, none⟩)) (obs := []) rfl (fun _ => by kernel_rfl) trivial) ?_
 rintro _ w ⟨r, rfl, H⟩ a hE
 refine WR.e0 hE [(2, .pointer (some ⟨r, 0, none⟩))] fun a hE => ?_
 replace H := H.slNil 263 pool_place_jobs_Job.enc 7
 replace H := H.slNil 3 ecI 1
 replace H := pool_Pool_jobs_Job.shut (pool_Pool_jobs_Job.A.mk none 0 none 0) (pool_Pool_jobs_Job.mk (if (if 65536 < places then 65536 else places) > 0 then (if 65536 < places then 65536 else places) else 0) ([] : List pool_place_jobs_Job) ([] : List Int)) H.t1.t2
 refine Runs.ret hE Tryz.func73 rfl rfl ?_
 cases hm
 exact ⟨r, pool_Pool_jobs_Job.A.mk none 0 none 0, rfl, H⟩

theorem jobs_New_ok {w0 w : World} {As : List HP} {jobs : Int} {t : jobs_Table}  (hm : jobs_New jobs = some t) (H : St w0 (As) w) :
    CallsR Tryz.prog 54 #[.int .i64 jobs] w fun v w' => ∃ (q0 : Nat), ∃ (al0 : jobs_Table.A), v = .pointer (some ⟨q0, 0, none⟩) ∧ St w0 (jobs_Table.R q0 al0 t :: As) w' := by
 rw [jobs_New] at hm
 refine enter (args := [.int .i64 jobs]) Tryz.func54 rfl rfl rfl fun a hE => ?_
 refine Runs.sr ?_
 refine WR.seg hE 1 [] [0] (Lo := [(0, .int .i64 jobs)]) (obs := []) rfl (by kernel_rfl) trivial fun a hE => ?_
 refine WR.done rfl ?_
 refine Runs.sr ?_
 refine WR.d0 hE 3 [(5, .int .i64 (if (if 4096 < jobs then 4096 else jobs) > 1 then (if 4096 < jobs then 4096 else jobs) else 1))] fun a hE => ?_
 obtain ⟨t_, et_, hm⟩ := bind_some hm
 refine WR.eff hE rfl rfl rfl rfl (OpTo.fn hE rfl rfl Tryz.call73 (pool_New_jobs_Job_ok et_ H)) ?_
 rintro _ w ⟨p, al, rfl, H⟩ a hE
 refine WR.eff hE rfl rfl rfl rfl (OpTo.mpNew api_Ref.val api_Ref.val hE H rfl) ?_
 rintro _ w ⟨r, rfl, H⟩ a hE
 refine WR.d0 hE 6 [(8, .agg #[.pointer (some ⟨p, 0, none⟩), .map (some r)])] fun a hE => ?_
 refine WR.eff hE rfl rfl rfl rfl (OpTo.new hE H [] (.cells #[.pointer (some ⟨p, 0, none⟩), .map (some r)] 163 (0, 0)) (fun r => .pointer (some ⟨r, 0, none⟩)) (obs := []) rfl (fun _ => by kernel_rfl) trivial) ?_
 rintro _ w ⟨r1, rfl, H⟩ a hE
 refine WR.e0 hE [(2, .pointer (some ⟨r1, 0, none⟩))] fun a hE => ?_
 replace H := jobs_Table.shut (jobs_Table.A.mk p al r) (jobs_Table.mk t_ ([] : List (api_Ref × api_Ref))) H.t1.t2.t2
 refine Runs.ret hE Tryz.func54 rfl rfl ?_
 cases hm
 exact ⟨r1, jobs_Table.A.mk p al r, rfl, H⟩

theorem clock_New_ok {w0 w : World} {As : List HP}  {t : clock_Clock}  (hm : clock_New = some t) (H : St w0 (As) w) :
    CallsR Tryz.prog 55 #[] w fun v w' => ∃ (q0 : Nat), v = .pointer (some ⟨q0, 0, none⟩) ∧ St w0 (clock_Clock.R q0 t :: As) w' := by
 rw [clock_New] at hm
 refine enter (args := []) Tryz.func55 rfl rfl rfl fun a hE => ?_
 refine Runs.sr ?_
 refine WR.seg hE 1 [] [] (Lo := []) (obs := []) rfl (by kernel_rfl) trivial fun a hE => ?_
 refine WR.done rfl ?_
 refine Runs.sr ?_
 refine WR.d0 hE 1 [(1, .agg #[.int .i64 0])] fun a hE => ?_
 refine WR.eff hE rfl rfl rfl rfl (OpTo.new hE H [] (.cells #[.int .i64 0] 165 (0, 0)) (fun r => .pointer (some ⟨r, 0, none⟩)) (obs := []) rfl (fun _ => by kernel_rfl) trivial) ?_
 rintro _ w ⟨r, rfl, H⟩ a hE
 refine WR.e0 hE [(0, .pointer (some ⟨r, 0, none⟩))] fun a hE => ?_
 replace H := clock_Clock.shut (clock_Clock.mk 0) H
 refine Runs.ret hE Tryz.func55 rfl rfl ?_
 cases hm
 exact ⟨r, rfl, H⟩

theorem pq_Queues_Do_nil0_ok {w0 w : World} {As : List HP} {c_ : api_Call} {t : api_Answer}  (hm : pq_Queues_Do_nil0 c_ = some t) (H : St w0 (As) w) :
    CallsR Tryz.prog 56 #[.pointer none, .agg #[.int .i64 c_.Op, .int .i64 c_.Kind, .int .i64 c_.Heap.At, .int .i64 c_.Heap.Gen, .int .i64 c_.Other.At, .int .i64 c_.Other.Gen, .int .i64 c_.Item.At, .int .i64 c_.Item.Gen, .int .i64 c_.Key]] w fun v w' => v = .agg #[.int .i64 t.Why, .int .i64 t.Heap.At, .int .i64 t.Heap.Gen, .int .i64 t.Item.At, .int .i64 t.Item.Gen, .int .i64 t.Entry.Key, .int .i64 t.Entry.Serial, .int .i64 t.N] ∧ St w0 (As) w' := by
 rw [pq_Queues_Do_nil0] at hm
 refine enter (args := [.pointer none, .agg #[.int .i64 c_.Op, .int .i64 c_.Kind, .int .i64 c_.Heap.At, .int .i64 c_.Heap.Gen, .int .i64 c_.Other.At, .int .i64 c_.Other.Gen, .int .i64 c_.Item.At, .int .i64 c_.Item.Gen, .int .i64 c_.Key]]) Tryz.func56 rfl rfl rfl fun a hE => ?_
 refine Runs.sr ?_
 refine WR.eff hE rfl rfl rfl rfl (OpTo.new hE H [] (.cells #[.int .i64 c_.Op, .int .i64 c_.Kind, .int .i64 c_.Heap.At, .int .i64 c_.Heap.Gen, .int .i64 c_.Other.At, .int .i64 c_.Other.Gen, .int .i64 c_.Item.At, .int .i64 c_.Item.Gen, .int .i64 c_.Key] 130 (0, 0)) (fun r => .pointer (some ⟨r, 0, none⟩)) (obs := []) rfl (fun _ => by kernel_rfl) trivial) ?_
 rintro _ w ⟨r, rfl, H⟩ a hE
 refine WR.eff hE rfl rfl rfl rfl (OpTo.new hE H [] (.cells #[.int .i64 0, .int .i64 0, .int .i64 0, .int .i64 0, .int .i64 0, .int .i64 0, .int .i64 0, .int .i64 0] 127 (0, 0)) (fun r => .pointer (some ⟨r, 0, none⟩)) (obs := []) rfl (fun _ => by kernel_rfl) trivial) ?_
 rintro _ w ⟨r1, rfl, H⟩ a hE
 refine WR.done rfl ?_
 refine Runs.sr ?_
 cases hm

theorem arena_Arena_Meter_ok {w0 w : World} {As : List HP} {p_a_ : Nat} {al_a_ : arena_Arena.A} {a_ : arena_Arena} {t : Unit}  (hm : arena_Arena_Meter a_ = some t) (H : St w0 (arena_Arena.R p_a_ al_a_ a_ :: As) w) :
    CallsR Tryz.prog 74 #[.pointer (some ⟨p_a_, 0, none⟩)] w fun v w' => v = .pointer (some ⟨al_a_.m__p, 0, none⟩) ∧ St w0 (arena_Arena.R p_a_ al_a_ a_ :: As) w' := by
 rw [arena_Arena_Meter] at hm
 refine enter (args := [.pointer (some ⟨p_a_, 0, none⟩)]) Tryz.func74 rfl rfl rfl fun a hE => ?_
 refine Runs.sr ?_
 refine WR.seg hE 1 [] [0] (Lo := [(0, .pointer (some ⟨p_a_, 0, none⟩))]) (obs := []) rfl (by kernel_rfl) trivial fun a hE => ?_
 refine WR.done rfl ?_
 refine Runs.sr ?_
 replace H := arena_Arena.open H
 refine WR.e hE [.pointer (some ⟨al_a_.m__p, 0, none⟩)] [(2, .pointer (some ⟨al_a_.m__p, 0, none⟩))] (obs := [.cell ⟨p_a_, 3, none⟩ (.pointer (some ⟨al_a_.m__p, 0, none⟩))]) ⟨H.cell 0 rfl rfl, trivial⟩ fun a hE => ?_
 replace H := arena_Arena.shut al_a_ (a_) H.t3.t3.t3.t3
 refine Runs.ret hE Tryz.func74 rfl rfl ?_
 cases hm
 exact ⟨rfl, H⟩

theorem meter_Meter_Spent_ok {w0 w : World} {As : List HP} {p_m_ : Nat} {m_ : meter_Meter} {t : Int}  (hm : meter_Meter_Spent m_ = some t) (H : St w0 (meter_Meter.R p_m_ m_ :: As) w) :
    CallsR Tryz.prog 139 #[.pointer (some ⟨p_m_, 0, none⟩)] w fun v w' => v = .int .i64 t ∧ St w0 (meter_Meter.R p_m_ m_ :: As) w' := by
 rw [meter_Meter_Spent] at hm
 refine enter (args := [.pointer (some ⟨p_m_, 0, none⟩)]) Tryz.func139 rfl rfl rfl fun a hE => ?_
 refine Runs.sr ?_
 refine WR.seg hE 1 [] [0] (Lo := [(0, .pointer (some ⟨p_m_, 0, none⟩))]) (obs := []) rfl (by kernel_rfl) trivial fun a hE => ?_
 refine WR.done rfl ?_
 refine Runs.seq ?_
 refine Runs.drawn mixed (by kernel_rfl) ?_
 replace H := H.drew
 replace H := meter_Meter.open H
 refine WQ.d hE [0, 1, 2, 3, 4, 5, 6, 7, 8, 9] [.int .i64 m_.steps, .int .i64 m_.begun] [(2, .int .i64 (w64 (m_.steps - m_.begun)))] (obs := [.cell ⟨p_m_, 0, none⟩ (.int .i64 m_.steps), .cell ⟨p_m_, 1, none⟩ (.int .i64 m_.begun)]) ⟨H.cell 0 rfl rfl, H.cell 0 rfl rfl, trivial⟩ fun a hE => ?_
 refine WQ.done (by kernel_rfl) ?_
 replace H := meter_Meter.shut (m_) H
 refine Runs.ret hE Tryz.func139 rfl rfl ?_
 cases hm
 exact ⟨rfl, H⟩

theorem meter_Meter_Most_ok {w0 w : World} {As : List HP} {p_m_ : Nat} {m_ : meter_Meter} {t : Int}  (hm : meter_Meter_Most m_ = some t) (H : St w0 (meter_Meter.R p_m_ m_ :: As) w) :
    CallsR Tryz.prog 103 #[.pointer (some ⟨p_m_, 0, none⟩)] w fun v w' => v = .int .i64 t ∧ St w0 (meter_Meter.R p_m_ m_ :: As) w' := by
 rw [meter_Meter_Most] at hm
 refine enter (args := [.pointer (some ⟨p_m_, 0, none⟩)]) Tryz.func103 rfl rfl rfl fun a hE => ?_
 refine Runs.sr ?_
 refine WR.seg hE 1 [] [0] (Lo := [(0, .pointer (some ⟨p_m_, 0, none⟩))]) (obs := []) rfl (by kernel_rfl) trivial fun a hE => ?_
 refine WR.done rfl ?_
 refine Runs.seq ?_
 refine Runs.drawn mixed (by kernel_rfl) ?_
 replace H := H.drew
 replace H := meter_Meter.open H
 refine WQ.d hE [0, 1, 2, 3, 4] [.int .i64 m_.most] [(6, .int .i64 m_.most), (7, .pointer (some ⟨p_m_, 0, none⟩))] (obs := [.cell ⟨p_m_, 2, none⟩ (.int .i64 m_.most)]) ⟨H.cell 0 rfl rfl, trivial⟩ fun a hE => ?_
 replace H := meter_Meter.shut (m_) H
 obtain ⟨t_, et_, hm⟩ := bind_some hm
 refine WQ.eff (j := 5) (obs := [.cell ⟨p_m_, 2, none⟩ (.int .i64 m_.most)]) hE (by kernel_rfl) rfl rfl rfl rfl (by kernel_rfl) (OpTo.fn hE rfl rfl Tryz.call139 (meter_Meter_Spent_ok et_ H)) ?_
 rintro _ w ⟨rfl, H⟩
 replace H := meter_Meter.open H
 refine ⟨⟨H.cell 0 rfl rfl, trivial⟩, fun a hE => ?_⟩
 refine WQ.d0 hE [6, 7] [(2, .int .i64 (if t_ > m_.most then t_ else m_.most))] fun a hE => ?_
 refine WQ.done (by kernel_rfl) ?_
 replace H := meter_Meter.shut (m_) H
 refine Runs.ret hE Tryz.func103 rfl rfl ?_
 cases hm
 exact ⟨rfl, H⟩

theorem meter_Meter_Begin_ok {w0 w : World} {As : List HP} {p_m_ : Nat} {m_ : meter_Meter} {t : meter_Meter}  (hm : meter_Meter_Begin m_ = some t) (H : St w0 (meter_Meter.R p_m_ m_ :: As) w) :
    CallsR Tryz.prog 75 #[.pointer (some ⟨p_m_, 0, none⟩)] w fun v w' => v = .tuple #[] ∧ St w0 (meter_Meter.R p_m_ t :: As) w' := by
 rw [meter_Meter_Begin] at hm
 refine enter (args := [.pointer (some ⟨p_m_, 0, none⟩)]) Tryz.func75 rfl rfl rfl fun a hE => ?_
 refine Runs.drawn mixed (by kernel_rfl) ?_
 replace H := H.drew
 replace H := meter_Meter.open H
 refine WQ.seg hE [0, 1, 2, 4, 5, 6, 7] [.int .i64 m_.steps] [2, 3, 4, 9] (Lo := [(2, .pointer (some ⟨p_m_, 0, none⟩)), (3, .pointer (some ⟨p_m_, 0, none⟩)), (4, .pointer (some ⟨p_m_, 0, none⟩)), (9, .int .i64 m_.steps)]) (obs := [.cell ⟨p_m_, 0, none⟩ (.int .i64 m_.steps)]) (by kernel_rfl) (by kernel_rfl) ⟨H.cell 0 rfl rfl, trivial⟩ fun a hE => ?_
 replace H := meter_Meter.shut (m_) H
 obtain ⟨t_, et_, hm⟩ := bind_some hm
 refine WQ.eff (j := 3) (obs := [.cell ⟨p_m_, 0, none⟩ (.int .i64 m_.steps)]) hE (by kernel_rfl) rfl rfl rfl rfl (by kernel_rfl) (OpTo.fn hE rfl rfl Tryz.call103 (meter_Meter_Most_ok et_ H)) ?_
 rintro _ w ⟨rfl, H⟩
 replace H := meter_Meter.open H
 refine ⟨⟨H.cell 0 rfl rfl, trivial⟩, fun a hE => ?_⟩
 refine WQ.d0 hE [8, 9] [(11, .pointer (some ⟨p_m_, 2, none⟩))] fun a hE => ?_
 refine WQ.eff0 (j := 10) (obs := []) hE (by kernel_rfl) rfl rfl rfl (by kernel_rfl) (OpTo.store hE H rfl rfl rfl rfl rfl rfl (Nat.le_of_ble_eq_true rfl)) ?_
 rintro _ w H
 refine ⟨trivial, fun a hE => ?_⟩
 refine WQ.d0 hE [11, 12] [(13, .pointer (some ⟨p_m_, 1, none⟩))] fun a hE => ?_
 refine WQ.eff0 (j := 13) (obs := []) hE (by kernel_rfl) rfl rfl rfl (by kernel_rfl) (OpTo.store hE H rfl rfl rfl rfl rfl rfl (Nat.le_of_ble_eq_true rfl)) ?_
 rintro _ w H
 refine ⟨trivial, fun a hE => ?_⟩
 refine WQ.done (by kernel_rfl) ?_
 replace H := meter_Meter.shut (meter_Meter.mk m_.steps m_.steps t_) H
 refine Runs.fin hE Tryz.func75 rfl rfl ?_
 cases hm
 exact ⟨rfl, H⟩

theorem kind_Right_ok {w0 w : World} {As : List HP} {k_ : Int} {t : Bool}  (hm : kind_Right k_ = some t) (H : St w0 (As) w) :
    CallsR Tryz.prog 104 #[.int .i64 k_] w fun v w' => v = .bool t ∧ St w0 (As) w' := by
 rw [kind_Right] at hm
 refine enter (args := [.int .i64 k_]) Tryz.func104 rfl rfl rfl fun a hE => ?_
 refine Runs.sr ?_
 refine WR.seg hE 1 [] [0] (Lo := [(0, .int .i64 k_)]) (obs := []) rfl (by kernel_rfl) trivial fun a hE => ?_
 refine WR.done rfl ?_
 refine Runs.seq ?_
 refine Runs.join (fun a w => EnvOk 9 a [(2, .bool ((decide (k_ ≥ 1)) && (decide (k_ ≤ 5))))] ∧ St w0 (As) w) (fun hk => ?_) ?_
 ·clear hm
  refine Runs.region ?_
  refine WR.d0 hE 3 [(5, .bool (decide (k_ ≥ 1)))] fun a hE => ?_
  rcases Bool.eq_false_or_eq_true (decide (k_ ≥ 1)) with c | c
  ·replace hE := hE.dec 5 c (by kernel_rfl)
   have c_ := c
   refine WR.e0 hE [(2, .bool (decide (k_ ≤ 5)))] fun a hE => ?_
   refine hk _ _ ⟨?_, H⟩
   try rw [c_] at hE
   try rw [c_]
   exact hE.sel [2] (by kernel_rfl)
  ·replace hE := hE.dec 5 c (by kernel_rfl)
   have c_1 := c
   refine WR.e0 hE [(2, .bool false)] fun a hE => ?_
   refine hk _ _ ⟨?_, H⟩
   try rw [c_1] at hE
   try rw [c_1]
   exact hE.sel [2] (by kernel_rfl)
 rintro a w ⟨hE, H⟩
 refine Runs.ret hE Tryz.func104 rfl rfl ?_
 cases hm
 exact ⟨rfl, H⟩

theorem pool_Pool_slots_heap_Take_ok {w0 w : World} {As : List HP} {p_p : Nat} {al_p : pool_Pool_slots_heap.A} {p : pool_Pool_slots_heap} {v_ : slots_heap} {t : api_Ref × Bool × pool_Pool_slots_heap}  (hm : pool_Pool_slots_heap_Take p v_ = some t) (H : St w0 (pool_Pool_slots_heap.R p_p al_p p :: As) w) :
    CallsR Tryz.prog 105 #[.pointer (some ⟨p_p, 0, none⟩), .agg #[.int .i64 v_.kind, .int .i64 v_.root, .int .i64 v_.n]] w fun v w' => ∃ (z_p_l_b : Option Addr), ∃ (z_p_l_c : Nat), ∃ (z_p_free_b : Option Addr), ∃ (z_p_free_c : Nat), v = .tuple #[.agg #[.int .i64 t.1.At, .int .i64 t.1.Gen], .bool t.2.1] ∧ St w0 (pool_Pool_slots_heap.R p_p (pool_Pool_slots_heap.A.mk z_p_l_b z_p_l_c z_p_free_b z_p_free_c) t.2.2 :: As) w' := by
 rw [pool_Pool_slots_heap_Take] at hm
 refine enter (args := [.pointer (some ⟨p_p, 0, none⟩), .agg #[.int .i64 v_.kind, .int .i64 v_.root, .int .i64 v_.n]]) Tryz.func105 rfl rfl rfl fun a hE => ?_
 refine Runs.sr ?_
 refine WR.eff hE rfl rfl rfl rfl (OpTo.new hE H [] (.cells #[.int .i64 v_.kind, .int .i64 v_.root, .int .i64 v_.n] 191 (0, 0)) (fun r => .pointer (some ⟨r, 0, none⟩)) (obs := []) rfl (fun _ => by kernel_rfl) trivial) ?_
 rintro _ w ⟨r, rfl, H⟩ a hE
 refine WR.eff hE rfl rfl rfl rfl (OpTo.new hE H [] (.cells #[.int .i64 0, .int .i64 0] 31 (0, 0)) (fun r => .pointer (some ⟨r, 0, none⟩)) (obs := []) rfl (fun _ => by kernel_rfl) trivial) ?_
 rintro _ w ⟨r1, rfl, H⟩ a hE
 refine WR.seg hE 3 [] [0, 3, 4] (Lo := [(0, .pointer (some ⟨p_p, 0, none⟩)), (3, .pointer (some ⟨r, 0, none⟩)), (4, .pointer (some ⟨r1, 0, none⟩))]) (obs := []) rfl (by kernel_rfl) trivial fun a hE => ?_
 refine WR.done rfl ?_
 refine Runs.sr ?_
 replace H := pool_Pool_slots_heap.open H.t2
 refine WR.e hE [.slice al_p.l_b p.l.length al_p.l_c] [(6, .int .i64 (p.l.length : Int))] (obs := [.cell ⟨p_p, 1, none⟩ (.slice al_p.l_b p.l.length al_p.l_c)]) ⟨H.cell 0 rfl rfl, trivial⟩ fun a hE => ?_
 refine Runs.seq ?_
 refine Runs.sr ?_
 refine WR.e hE [.slice al_p.free_b p.free.length al_p.free_c] [(7, .int .i64 (w64 ((p.free.length : Int) - 1)))] (obs := [.cell ⟨p_p, 2, none⟩ (.slice al_p.free_b p.free.length al_p.free_c)]) ⟨H.cell 0 rfl rfl, trivial⟩ fun a hE => ?_
 refine Runs.sr ?_
 refine WR.e0 hE [(21, .bool (decide (w64 ((p.free.length : Int) - 1) ≥ 0)))] fun a hE => ?_
 replace H := pool_Pool_slots_heap.shut al_p (p) H.t2.t2.t2
 obtain ⟨s, es, hR⟩ := bind_some hm
 refine Runs.join (fun a w => ∃ s1, s = Sum.inr s1 ∧ ∃ (z : Option Addr), ∃ (z1 : Nat), ∃ (z2 : Option Addr), ∃ (z3 : Nat), EnvOk 81 a [(0, .pointer (some ⟨p_p, 0, none⟩)), (3, .pointer (some ⟨r, 0, none⟩)), (4, .pointer (some ⟨r1, 0, none⟩)), (6, .int .i64 s1.1)] ∧ St w0 (pool_Pool_slots_heap.R p_p (pool_Pool_slots_heap.A.mk z z1 z2 z3) s1.2 :: Blk r1 31 [.int .i64 0, .int .i64 0] :: Blk r 191 [.int .i64 v_.kind, .int .i64 v_.root, .int .i64 v_.n] :: As) w) (fun hk => ?_) ?_
 ·replace hm := es; clear es
  refine Runs.cond hE rfl (fun c => ?_) (fun c => ?_)
  ·replace hm := cond_t c hm
   refine Runs.sr ?_
   replace H := pool_Pool_slots_heap.open H
   obtain ⟨x, ex, hm⟩ := bind_some hm
   obtain ⟨b, o, hs, hb⟩ := SlRd.base (sl_rd 3 ecI 1 _ _ _) ecI_ok H 2 rfl ex
   refine WR.e hE [.slice al_p.free_b p.free.length al_p.free_c, .pointer (some ⟨b, o, none⟩), .int .i64 x] [(6, .int .i64 x)] (obs := [.cell ⟨p_p, 2, none⟩ (.slice al_p.free_b p.free.length al_p.free_c), .p ((al_p.free_b : Option Addr) = some ⟨b, o, none⟩), .p (0 ≤ ((w64 ((p.free.length : Int) - 1)) : Int) ∧ ((w64 ((p.free.length : Int) - 1)) : Int) < ((p.free.length : Nat) : Int)), .cell ⟨b, o + (Int.toNat (w64 ((p.free.length : Int) - 1))) * 1, none⟩ (.int .i64 x)]) ⟨H.cell 0 rfl rfl, hs, hb, SlRd.cells (sl_rd 3 ecI 1 _ _ _) ecI_ok H 2 rfl hs ex 0 _ rfl, trivial⟩ fun a hE => ?_
   refine Runs.region ?_
   obtain ⟨l, el, hm⟩ := bind_some hm
   obtain ⟨sb, q⟩ : ∃ z, rebase al_p.free_b al_p.free_c (Int.toNat 0) 1 = z := ⟨_, rfl⟩
   obtain ⟨sc, q1⟩ : ∃ z, al_p.free_c - (Int.toNat 0) = z := ⟨_, rfl⟩
   refine WR.d hE 9 [.slice al_p.free_b p.free.length al_p.free_c, .slice sb l.length sc] [(35, .slice sb l.length sc), (37, .pointer (some ⟨p_p, 2, none⟩))] (obs := [.cell ⟨p_p, 2, none⟩ (.slice al_p.free_b p.free.length al_p.free_c), .p (rebase al_p.free_b al_p.free_c 0 1 = sb), .p ((Int.toNat (w64 ((p.free.length : Int) - 1))) - 0 = l.length), .p (al_p.free_c - 0 = sc), .p (0 ≤ ((w64 ((p.free.length : Int) - 1)) : Int) ∧ ((w64 ((p.free.length : Int) - 1)) : Int) ≤ ((al_p.free_c : Nat) : Int))]) ⟨H.cell 0 rfl rfl, q, cut_len el, q1, cut_cap el (H.slCap 2 rfl).1, trivial⟩ fun a hE => ?_
   refine WR.eff0 hE rfl rfl rfl (OpTo.store hE H rfl rfl rfl rfl rfl rfl (Nat.le_of_ble_eq_true rfl)) ?_
   rintro _ w H a hE
   refine WR.done rfl ?_
   replace H := H.t2.slCut' ecI_ok el q q1
   replace H := pool_Pool_slots_heap.shut (pool_Pool_slots_heap.A.mk al_p.l_b al_p.l_c sb sc) (pool_Pool_slots_heap.mk p.most p.l l) H.t2.t2
   cases hm
   exact hk _ _ ⟨_, rfl, al_p.l_b, al_p.l_c, sb, sc, hE.sel [0, 3, 4, 6] (by kernel_rfl), H.t2.t2.t2⟩
  ·replace hm := cond_f c hm
   refine Runs.sr ?_
   replace H := pool_Pool_slots_heap.open H
   refine WR.e hE [.int .i64 p.most] [(43, .bool (decide ((p.l.length : Int) ≥ p.most)))] (obs := [.cell ⟨p_p, 0, none⟩ (.int .i64 p.most)]) ⟨H.cell 0 rfl rfl, trivial⟩ fun a hE => ?_
   refine Runs.cond hE rfl (fun c => ?_) (fun c => ?_)
   ·replace hm := cond_t c hm
    refine Runs.sr ?_
    refine WR.d0 hE 1 [(44, .agg #[.int .i64 0, .int .i64 0])] fun a hE => ?_
    refine WR.eff0 hE rfl rfl rfl (OpTo.store hE H.t3 rfl rfl rfl rfl rfl rfl (Nat.le_of_ble_eq_true rfl)) ?_
    rintro _ w H a hE
    refine WR.e0 hE [(5, .bool false)] fun a hE => ?_
    refine Runs.retO (vs := [.agg #[.int .i64 0, .int .i64 0], .bool false]) (obs := [.cell ⟨r1, 0, none⟩ (.int .i64 0), .cell ⟨r1, 1, none⟩ (.int .i64 0)]) hE Tryz.func105 rfl [.int .i64 0, .int .i64 0] (by kernel_rfl) ⟨H.cell 0 rfl rfl, H.cell 0 rfl rfl, trivial⟩ ?_
    replace H := pool_Pool_slots_heap.shut al_p (p) H.t3.t3.t3
    cases hm
    dsimp only at hR; cases hR
    exact ⟨al_p.l_b, al_p.l_c, al_p.free_b, al_p.free_c, rfl, H.x2.x1⟩
   ·replace hm := cond_f c hm
    refine Runs.region ?_
    refine WR.d hE 6 [.slice al_p.l_b p.l.length al_p.l_c] [(45, .pointer (some ⟨p_p, 0, none⟩)), (49, .slice al_p.l_b p.l.length al_p.l_c), (50, .agg #[.int .i64 0, .bool false, .int .i64 0, .int .i64 0, .int .i64 0])] (obs := [.cell ⟨p_p, 1, none⟩ (.slice al_p.l_b p.l.length al_p.l_c)]) ⟨H.cell 0 rfl rfl, trivial⟩ fun a hE => ?_
    refine WR.eff hE rfl rfl rfl rfl (OpTo.buildSl (T := 244) hE H pool_place_slots_heap.enc_ok ([pool_place_slots_heap.mk 0 false (slots_heap.mk 0 0 0)] : List pool_place_slots_heap) rfl (fun _ => by kernel_rfl) rfl rfl rfl) ?_
    rintro _ w ⟨r2, rfl, H⟩ a hE
    obtain ⟨l1, el1, hm⟩ := bind_some hm
    replace H := H.t2
    refine WR.eff hE rfl rfl rfl rfl (OpTo.appendM el1 hE H pool_place_slots_heap.enc_ok rfl rfl rfl rfl rfl rfl rfl rfl rfl rfl (SlRd.all (sl_rd 244 pool_place_slots_heap.enc 5 _ _ _) pool_place_slots_heap.enc_ok H 1 rfl) rfl) ?_
    rintro _ w ⟨sb1, sc1, rfl, H⟩ a hE
    refine WR.d0 hE 10 [(54, .pointer (some ⟨p_p, 1, none⟩))] fun a hE => ?_
    refine WR.eff0 hE rfl rfl rfl (OpTo.store hE H.t2 rfl rfl rfl rfl rfl rfl (Nat.le_of_ble_eq_true rfl)) ?_
    rintro _ w H a hE
    refine WR.done rfl ?_
    replace H := pool_Pool_slots_heap.shut (pool_Pool_slots_heap.A.mk sb1 sc1 al_p.free_b al_p.free_c) (pool_Pool_slots_heap.mk p.most l1 p.free) H.t3.t2.t2
    cases hm
    exact hk _ _ ⟨_, rfl, sb1, sc1, al_p.free_b, al_p.free_c, hE.sel [0, 3, 4, 6] (by kernel_rfl), H.x1.t2.t2.t2⟩
 rintro a w ⟨s1, rfl, z, z1, z2, z3, hE, H⟩
 replace hm := hR; dsimp only at hm
 refine Runs.sr ?_
 replace H := pool_Pool_slots_heap.open H
 try dsimp only at H
 obtain ⟨x1, ex1, hm⟩ := bind_some hm
 obtain ⟨b1, o1, hs1, hb1⟩ := SlRd.base (sl_rd 244 pool_place_slots_heap.enc 5 _ _ _) pool_place_slots_heap.enc_ok H 1 rfl ex1
 refine WR.seg hE 7 [.slice z s1.2.l.length z1, .pointer (some ⟨b1, o1, none⟩)] [3, 4, 6, 8] (Lo := [(3, .pointer (some ⟨r, 0, none⟩)), (4, .pointer (some ⟨r1, 0, none⟩)), (6, .int .i64 s1.1), (8, .pointer (some ⟨b1, o1 + (Int.toNat s1.1) * 5, none⟩))]) (obs := [.cell ⟨p_p, 1, none⟩ (.slice z s1.2.l.length z1), .p ((z : Option Addr) = some ⟨b1, o1, none⟩), .p (0 ≤ (s1.1 : Int) ∧ (s1.1 : Int) < ((s1.2.l.length : Nat) : Int))]) rfl (by kernel_rfl) ⟨H.cell 0 rfl rfl, hs1, hb1, trivial⟩ fun a hE => ?_
 refine WR.done rfl ?_
 refine Runs.sr ?_
 refine WR.d hE 7 [.int .i64 x1.gen] [(65, .int .i64 (w64 (x1.gen + 1))), (67, .pointer (some ⟨b1, o1 + (Int.toNat s1.1) * 5, none⟩))] (obs := [.cell ⟨b1, o1 + (Int.toNat s1.1) * 5, none⟩ (.int .i64 x1.gen)]) ⟨SlRd.cells (sl_rd 244 pool_place_slots_heap.enc 5 _ _ _) pool_place_slots_heap.enc_ok H 1 rfl hs1 ex1 0 _ rfl, trivial⟩ fun a hE => ?_
 refine WR.eff0 hE rfl rfl rfl (OpTo.storeSl (q := 0) (x' := (pool_place_slots_heap.mk (w64 (x1.gen + 1)) x1.taken x1.v_)) hE H.t1 pool_place_slots_heap.enc_ok rfl hs1 ex1 rfl rfl rfl rfl rfl (Nat.le_of_ble_eq_true rfl) rfl) ?_
 rintro _ w H a hE
 rw [← mSet_len s1.2.l s1.1 (pool_place_slots_heap.mk (w64 (x1.gen + 1)) x1.taken x1.v_)] at H
 refine WR.done rfl ?_
 refine Runs.seq ?_
 refine Runs.drawn mixed (by kernel_rfl) ?_
 replace H := H.drew
 refine WQ.d hE [0, 1, 2, 3, 4] [.int .i64 v_.kind, .int .i64 v_.root, .int .i64 v_.n] [(69, .pointer (some ⟨b1, o1 + (Int.toNat s1.1) * 5, none⟩)), (70, .agg #[.int .i64 v_.kind, .int .i64 v_.root, .int .i64 v_.n]), (72, .pointer (some ⟨b1, o1 + (Int.toNat s1.1) * 5 + 1, none⟩))] (obs := [.cell ⟨r, 0, none⟩ (.int .i64 v_.kind), .cell ⟨r, 1, none⟩ (.int .i64 v_.root), .cell ⟨r, 2, none⟩ (.int .i64 v_.n)]) ⟨H.cell 4 rfl rfl, H.cell 4 rfl rfl, H.cell 4 rfl rfl, trivial⟩ fun a hE => ?_
 refine WQ.eff0 (j := 5) (obs := [.cell ⟨r, 0, none⟩ (.int .i64 v_.kind), .cell ⟨r, 1, none⟩ (.int .i64 v_.root), .cell ⟨r, 2, none⟩ (.int .i64 v_.n)]) hE (by kernel_rfl) rfl rfl rfl (by kernel_rfl) (OpTo.storeSl (q := 1) (x' := (pool_place_slots_heap.mk (w64 (x1.gen + 1)) true x1.v_)) hE H pool_place_slots_heap.enc_ok rfl hs1 (mSet_at ex1) rfl rfl rfl rfl rfl (Nat.le_of_ble_eq_true rfl) rfl) ?_
 rintro _ w H
 rw [← mSet_len (mSet s1.2.l s1.1 (pool_place_slots_heap.mk (w64 (x1.gen + 1)) x1.taken x1.v_)) s1.1 (pool_place_slots_heap.mk (w64 (x1.gen + 1)) true x1.v_)] at H
 refine ⟨⟨H.cell 4 rfl rfl, H.cell 4 rfl rfl, H.cell 4 rfl rfl, trivial⟩, fun a hE => ?_⟩
 refine WQ.d0 hE [6, 7] [(74, .pointer (some ⟨b1, o1 + (Int.toNat s1.1) * 5 + 2, none⟩))] fun a hE => ?_
 refine WQ.eff0 (j := 8) (obs := []) hE (by kernel_rfl) rfl rfl rfl (by kernel_rfl) (OpTo.storeSl (q := 2) (x' := (pool_place_slots_heap.mk (w64 (x1.gen + 1)) true v_)) hE H pool_place_slots_heap.enc_ok rfl hs1 (mSet_at (mSet_at ex1)) rfl rfl rfl rfl rfl (Nat.le_of_ble_eq_true rfl) rfl) ?_
 rintro _ w H
 rw [← mSet_len (mSet (mSet s1.2.l s1.1 (pool_place_slots_heap.mk (w64 (x1.gen + 1)) x1.taken x1.v_)) s1.1 (pool_place_slots_heap.mk (w64 (x1.gen + 1)) true x1.v_)) s1.1 (pool_place_slots_heap.mk (w64 (x1.gen + 1)) true v_)] at H
 refine ⟨trivial, fun a hE => ?_⟩
 refine WQ.done (by kernel_rfl) ?_
 refine Runs.sr ?_
 refine WR.d hE 6 [.int .i64 (w64 (x1.gen + 1))] [(80, .agg #[.int .i64 s1.1, .int .i64 (w64 (x1.gen + 1))])] (obs := [.cell ⟨b1, o1 + (Int.toNat s1.1) * 5, none⟩ (.int .i64 (w64 (x1.gen + 1)))]) ⟨SlRd.cells (sl_rd 244 pool_place_slots_heap.enc 5 _ _ _) pool_place_slots_heap.enc_ok H 0 rfl hs1 (mSet_at (mSet_at (mSet_at ex1))) 0 _ rfl, trivial⟩ fun a hE => ?_
 refine WR.eff0 hE rfl rfl rfl (OpTo.store hE H.t3 rfl rfl rfl rfl rfl rfl (Nat.le_of_ble_eq_true rfl)) ?_
 rintro _ w H a hE
 refine WR.e0 hE [(5, .bool true)] fun a hE => ?_
 refine Runs.retO (vs := [.agg #[.int .i64 s1.1, .int .i64 (w64 (x1.gen + 1))], .bool true]) (obs := [.cell ⟨r1, 0, none⟩ (.int .i64 s1.1), .cell ⟨r1, 1, none⟩ (.int .i64 (w64 (x1.gen + 1)))]) hE Tryz.func105 rfl [.int .i64 s1.1, .int .i64 (w64 (x1.gen + 1))] (by kernel_rfl) ⟨H.cell 0 rfl rfl, H.cell 0 rfl rfl, trivial⟩ ?_
 replace H := pool_Pool_slots_heap.shut (pool_Pool_slots_heap.A.mk z z1 z2 z3) (pool_Pool_slots_heap.mk s1.2.most (mSet (mSet (mSet s1.2.l s1.1 (pool_place_slots_heap.mk (w64 (x1.gen + 1)) x1.taken x1.v_)) s1.1 (pool_place_slots_heap.mk (w64 (x1.gen + 1)) true x1.v_)) s1.1 (pool_place_slots_heap.mk (w64 (x1.gen + 1)) true v_)) s1.2.free) H.t3.t2.t3
 cases hm
 exact ⟨z, z1, z2, z3, rfl, H.x2.x1⟩

theorem slots_Table_Make_ok {w0 w : World} {As : List HP} {p_t_ : Nat} {al_t_ : slots_Table.A} {t_ : slots_Table} {k_ : Int} {t : api_Ref × Int × slots_Table}  (hm : slots_Table_Make t_ k_ = some t) (H : St w0 (slots_Table.R p_t_ al_t_ t_ :: As) w) :
    CallsR Tryz.prog 76 #[.pointer (some ⟨p_t_, 0, none⟩), .int .i64 k_] w fun v w' => ∃ (z_t__heaps_a : pool_Pool_slots_heap.A), v = .tuple #[.agg #[.int .i64 t.1.At, .int .i64 t.1.Gen], .int .i64 t.2.1] ∧ St w0 (slots_Table.R p_t_ (slots_Table.A.mk al_t_.heaps_p z_t__heaps_a al_t_.items_p al_t_.items_a al_t_.at__p) t.2.2 :: As) w' := by
 rw [slots_Table_Make] at hm
 refine enter (args := [.pointer (some ⟨p_t_, 0, none⟩), .int .i64 k_]) Tryz.func76 rfl rfl rfl fun a hE => ?_
 refine Runs.sr ?_
 refine WR.eff hE rfl rfl rfl rfl (OpTo.new hE H [] (.cells #[.int .i64 0, .int .i64 0] 31 (0, 0)) (fun r => .pointer (some ⟨r, 0, none⟩)) (obs := []) rfl (fun _ => by kernel_rfl) trivial) ?_
 rintro _ w ⟨r, rfl, H⟩ a hE
 refine WR.seg hE 2 [] [0, 1, 4] (Lo := [(0, .pointer (some ⟨p_t_, 0, none⟩)), (1, .int .i64 k_), (4, .pointer (some ⟨r, 0, none⟩))]) (obs := []) rfl (by kernel_rfl) trivial fun a hE => ?_
 refine WR.done rfl ?_
 refine Runs.seq ?_
 refine Runs.sr ?_
 refine WR.d0 hE 1 [(8, .int .i64 k_)] fun a hE => ?_
 obtain ⟨t_1, et_1, hm⟩ := bind_some hm
 refine WR.eff hE rfl rfl rfl rfl (OpTo.fn hE rfl rfl Tryz.call104 (kind_Right_ok et_1 H)) ?_
 rintro _ w ⟨rfl, H⟩ a hE
 refine WR.e0 hE [(10, .bool (!t_1))] fun a hE => ?_
 refine Runs.cond hE rfl (fun c => ?_) (fun c => ?_)
 ·replace hm := cond_t c hm
  refine Runs.sr ?_
  refine WR.d0 hE 1 [(11, .agg #[.int .i64 0, .int .i64 0])] fun a hE => ?_
  refine WR.eff0 hE rfl rfl rfl (OpTo.store hE H rfl rfl rfl rfl rfl rfl (Nat.le_of_ble_eq_true rfl)) ?_
  rintro _ w H a hE
  refine WR.e0 hE [(5, .int .i64 24)] fun a hE => ?_
  refine Runs.retO (vs := [.agg #[.int .i64 0, .int .i64 0], .int .i64 24]) (obs := [.cell ⟨r, 0, none⟩ (.int .i64 0), .cell ⟨r, 1, none⟩ (.int .i64 0)]) hE Tryz.func76 rfl [.int .i64 0, .int .i64 0] (by kernel_rfl) ⟨H.cell 0 rfl rfl, H.cell 0 rfl rfl, trivial⟩ ?_
  cases hm
  exact ⟨al_t_.heaps_a, rfl, H.x0⟩
 ·replace hm := cond_f c hm
  refine Runs.skip ?_
  refine Runs.sr ?_
  replace H := slots_Table.open H.t1
  refine WR.d hE 6 [.pointer (some ⟨al_t_.heaps_p, 0, none⟩)] [(16, .pointer (some ⟨al_t_.heaps_p, 0, none⟩)), (18, .agg #[.int .i64 k_, .int .i64 (-1), .int .i64 0])] (obs := [.cell ⟨p_t_, 0, none⟩ (.pointer (some ⟨al_t_.heaps_p, 0, none⟩))]) ⟨H.cell 0 rfl rfl, trivial⟩ fun a hE => ?_
  obtain ⟨t_2, et_2, hm⟩ := bind_some hm
  have hC_ := pool_Pool_slots_heap_Take_ok et_2 H.t1
  try dsimp only at hC_
  refine WR.eff hE rfl rfl rfl rfl (OpTo.fn hE rfl rfl Tryz.call105 hC_) ?_
  rintro _ w ⟨z, z1, z2, z3, rfl, H⟩ a hE
  refine WR.d0 hE 10 [(20, .agg #[.int .i64 t_2.1.At, .int .i64 t_2.1.Gen]), (21, .bool t_2.2.1)] fun a hE => ?_
  refine WR.eff hE rfl rfl rfl rfl (OpTo.new hE H [] (.cells #[.int .i64 0, .int .i64 0] 31 (0, 0)) (fun r => .pointer (some ⟨r, 0, none⟩)) (obs := []) rfl (fun _ => by kernel_rfl) trivial) ?_
  rintro _ w ⟨r1, rfl, H⟩ a hE
  refine WR.eff0 hE rfl rfl rfl (OpTo.store hE H rfl rfl rfl rfl rfl rfl (Nat.le_of_ble_eq_true rfl)) ?_
  rintro _ w H a hE
  refine WR.e0 hE [(7, .bool t_2.2.1)] fun a hE => ?_
  refine Runs.seq ?_
  refine Runs.sr ?_
  refine WR.e0 hE [(23, .bool (!t_2.2.1))] fun a hE => ?_
  refine Runs.cond hE rfl (fun c => ?_) (fun c => ?_)
  ·replace hm := cond_t c hm
   refine Runs.sr ?_
   refine WR.d0 hE 1 [(24, .agg #[.int .i64 0, .int .i64 0])] fun a hE => ?_
   refine WR.eff0 hE rfl rfl rfl (OpTo.store hE H.t5 rfl rfl rfl rfl rfl rfl (Nat.le_of_ble_eq_true rfl)) ?_
   rintro _ w H a hE
   refine WR.e0 hE [(5, .int .i64 13)] fun a hE => ?_
   refine Runs.retO (vs := [.agg #[.int .i64 0, .int .i64 0], .int .i64 13]) (obs := [.cell ⟨r, 0, none⟩ (.int .i64 0), .cell ⟨r, 1, none⟩ (.int .i64 0)]) hE Tryz.func76 rfl [.int .i64 0, .int .i64 0] (by kernel_rfl) ⟨H.cell 0 rfl rfl, H.cell 0 rfl rfl, trivial⟩ ?_
   replace H := slots_Table.shut (slots_Table.A.mk al_t_.heaps_p (pool_Pool_slots_heap.A.mk z z1 z2 z3) al_t_.items_p al_t_.items_a al_t_.at__p) (slots_Table.mk t_2.2.2 t_.items t_.at_) H.t5.t5.t4.t5
   cases hm
   exact ⟨pool_Pool_slots_heap.A.mk z z1 z2 z3, rfl, H.x2.x1⟩
  ·replace hm := cond_f c hm
   refine Runs.skip ?_
   refine Runs.sr ?_
   refine WR.d hE 1 [.int .i64 t_2.1.At, .int .i64 t_2.1.Gen] [(25, .agg #[.int .i64 t_2.1.At, .int .i64 t_2.1.Gen])] (obs := [.cell ⟨r1, 0, none⟩ (.int .i64 t_2.1.At), .cell ⟨r1, 1, none⟩ (.int .i64 t_2.1.Gen)]) ⟨H.cell 0 rfl rfl, H.cell 0 rfl rfl, trivial⟩ fun a hE => ?_
   refine WR.eff0 hE rfl rfl rfl (OpTo.store hE H.t5 rfl rfl rfl rfl rfl rfl (Nat.le_of_ble_eq_true rfl)) ?_
   rintro _ w H a hE
   refine WR.e0 hE [(5, .int .i64 0)] fun a hE => ?_
   refine Runs.retO (vs := [.agg #[.int .i64 t_2.1.At, .int .i64 t_2.1.Gen], .int .i64 0]) (obs := [.cell ⟨r, 0, none⟩ (.int .i64 t_2.1.At), .cell ⟨r, 1, none⟩ (.int .i64 t_2.1.Gen)]) hE Tryz.func76 rfl [.int .i64 t_2.1.At, .int .i64 t_2.1.Gen] (by kernel_rfl) ⟨H.cell 0 rfl rfl, H.cell 0 rfl rfl, trivial⟩ ?_
   replace H := slots_Table.shut (slots_Table.A.mk al_t_.heaps_p (pool_Pool_slots_heap.A.mk z z1 z2 z3) al_t_.items_p al_t_.items_a al_t_.at__p) (slots_Table.mk t_2.2.2 t_.items t_.at_) H.t5.t5.t4.t5
   cases hm
   exact ⟨pool_Pool_slots_heap.A.mk z z1 z2 z3, rfl, H.x2.x1⟩

theorem pq_Queues_insert_ok {w0 w : World} {As : List HP} {p_q : Nat} {al_q : pq_Queues.A} {q : pq_Queues} {c_ : api_Call} {t : api_Answer}  (hm : pq_Queues_insert q c_ = some t) (H : St w0 (pq_Queues.R p_q al_q q :: As) w) :
    CallsR Tryz.prog 77 #[.pointer (some ⟨p_q, 0, none⟩), .agg #[.int .i64 c_.Op, .int .i64 c_.Kind, .int .i64 c_.Heap.At, .int .i64 c_.Heap.Gen, .int .i64 c_.Other.At, .int .i64 c_.Other.Gen, .int .i64 c_.Item.At, .int .i64 c_.Item.Gen, .int .i64 c_.Key]] w fun v w' => v = .agg #[.int .i64 t.Why, .int .i64 t.Heap.At, .int .i64 t.Heap.Gen, .int .i64 t.Item.At, .int .i64 t.Item.Gen, .int .i64 t.Entry.Key, .int .i64 t.Entry.Serial, .int .i64 t.N] ∧ St w0 (pq_Queues.R p_q al_q q :: As) w' := by
  rw [pq_Queues_insert] at hm
  cases hm

theorem pool_Pool_slots_heap_find_ok {w0 w : World} {As : List HP} {p_p : Nat} {al_p : pool_Pool_slots_heap.A} {p : pool_Pool_slots_heap} {r : api_Ref} {t : (Option Int) × Int}  (hm : pool_Pool_slots_heap_find p r = some t) (H : St w0 (pool_Pool_slots_heap.R p_p al_p p :: As) w) :
    CallsR Tryz.prog 182 #[.pointer (some ⟨p_p, 0, none⟩), .agg #[.int .i64 r.At, .int .i64 r.Gen]] w fun v w' => v = .tuple #[elemV al_p.l_b 5 t.1, .int .i64 t.2] ∧ St w0 (pool_Pool_slots_heap.R p_p al_p p :: As) w' := by
 rw [pool_Pool_slots_heap_find] at hm
 refine enter (args := [.pointer (some ⟨p_p, 0, none⟩), .agg #[.int .i64 r.At, .int .i64 r.Gen]]) Tryz.func182 rfl rfl rfl fun a hE => ?_
 refine Runs.sr ?_
 refine WR.eff hE rfl rfl rfl rfl (OpTo.new hE H [] (.cells #[.int .i64 r.At, .int .i64 r.Gen] 31 (0, 0)) (fun r => .pointer (some ⟨r, 0, none⟩)) (obs := []) rfl (fun _ => by kernel_rfl) trivial) ?_
 rintro _ w ⟨r1, rfl, H⟩ a hE
 refine WR.seg hE 3 [] [0, 3] (Lo := [(0, .pointer (some ⟨p_p, 0, none⟩)), (3, .pointer (some ⟨r1, 0, none⟩))]) (obs := []) rfl (by kernel_rfl) trivial fun a hE => ?_
 refine WR.done rfl ?_
 refine Runs.seq ?_
 refine Runs.seq ?_
 obtain ⟨s, es, hm⟩ := bind_some hm
 refine Runs.join (fun a w => EnvOk 61 a [(0, .pointer (some ⟨p_p, 0, none⟩)), (3, .pointer (some ⟨r1, 0, none⟩)), (38, .bool s)] ∧ St w0 (Blk r1 31 [.int .i64 r.At, .int .i64 r.Gen] :: pool_Pool_slots_heap.R p_p al_p p :: As) w) (fun hk => ?_) ?_
 ·replace hm := es; clear es
  refine Runs.drawn mixed (by kernel_rfl) ?_
  replace H := H.drew
  refine WQ.d hE [0, 1, 2, 3] [.int .i64 r.At] [(10, .bool (decide (r.At < 0)))] (obs := [.cell ⟨r1, 0, none⟩ (.int .i64 r.At)]) ⟨H.cell 0 rfl rfl, trivial⟩ fun a hE => ?_
  rcases Bool.eq_false_or_eq_true (decide (r.At < 0)) with c | c
  ·replace hE := hE.dec 10 c (by kernel_rfl)
   replace hm := cond_t c hm
   have c_ := c
   refine WQ.d0 hE [4, 5, 6, 7, 8, 9, 10, 11, 12, 13, 14, 15, 16, 17, 18, 19, 20, 21, 22, 23, 24, 25, 26, 27, 28, 29, 30, 31] [(38, .bool true)] fun a hE => ?_
   refine WQ.done (by kernel_rfl) ?_
   cases hm
   exact hk _ _ ⟨hE.sel [0, 3, 38] (by kernel_rfl), H.t1.t1⟩
  ·replace hE := hE.dec 10 c (by kernel_rfl)
   replace hm := cond_f c hm
   have c_1 := c
   replace H := pool_Pool_slots_heap.open H.t1
   refine WQ.d hE [4, 5, 6, 7, 8, 9, 10, 11, 12, 13] [.int .i64 r.At, .slice al_p.l_b p.l.length al_p.l_c] [(20, .bool (decide (r.At ≥ (p.l.length : Int))))] (obs := [.cell ⟨r1, 0, none⟩ (.int .i64 r.At), .cell ⟨p_p, 1, none⟩ (.slice al_p.l_b p.l.length al_p.l_c)]) ⟨H.cell 3 rfl rfl, H.cell 0 rfl rfl, trivial⟩ fun a hE => ?_
   rcases Bool.eq_false_or_eq_true (decide (r.At ≥ (p.l.length : Int))) with c | c
   ·replace hE := hE.dec 20 c (by kernel_rfl)
    replace hm := cond_t c hm
    have c_2 := c
    refine WQ.d0 hE [14, 15, 16, 17, 18, 19, 20, 21, 22, 23, 24, 25, 26, 27, 28, 29, 30, 31] [(38, .bool true)] fun a hE => ?_
    refine WQ.done (by kernel_rfl) ?_
    replace H := pool_Pool_slots_heap.shut al_p (p) H.t2.t2.t2
    cases hm
    exact hk _ _ ⟨hE.sel [0, 3, 38] (by kernel_rfl), H.t1⟩
   ·replace hE := hE.dec 20 c (by kernel_rfl)
    replace hm := cond_f c hm
    have c_3 := c
    refine WQ.d hE [14, 15, 16, 17, 18] [.int .i64 r.Gen] [(25, .bool (decide (r.Gen < 1)))] (obs := [.cell ⟨r1, 1, none⟩ (.int .i64 r.Gen)]) ⟨H.cell 3 rfl rfl, trivial⟩ fun a hE => ?_
    rcases Bool.eq_false_or_eq_true (decide (r.Gen < 1)) with c | c
    ·replace hE := hE.dec 25 c (by kernel_rfl)
     replace hm := cond_t c hm
     have c_4 := c
     refine WQ.d0 hE [19, 20, 21, 22, 23, 24, 25, 26, 27, 28, 29, 30, 31] [(38, .bool true)] fun a hE => ?_
     refine WQ.done (by kernel_rfl) ?_
     replace H := pool_Pool_slots_heap.shut al_p (p) H.t2.t2.t2
     cases hm
     exact hk _ _ ⟨hE.sel [0, 3, 38] (by kernel_rfl), H.t1⟩
    ·replace hE := hE.dec 25 c (by kernel_rfl)
     replace hm := cond_f c hm
     have c_5 := c
     obtain ⟨x1, ex1, hm⟩ := bind_some hm
     obtain ⟨b1, o1, hs1, hb1⟩ := SlRd.base (sl_rd 244 pool_place_slots_heap.enc 5 _ _ _) pool_place_slots_heap.enc_ok H 1 rfl ex1
     refine WQ.d hE [19, 20, 21, 22, 23, 24, 25, 26, 27, 28, 29, 30, 31] [.int .i64 r.Gen, .slice al_p.l_b p.l.length al_p.l_c, .int .i64 r.At, .pointer (some ⟨b1, o1, none⟩), .int .i64 x1.gen] [(38, .bool (decide (r.Gen > x1.gen)))] (obs := [.cell ⟨r1, 1, none⟩ (.int .i64 r.Gen), .cell ⟨p_p, 1, none⟩ (.slice al_p.l_b p.l.length al_p.l_c), .cell ⟨r1, 0, none⟩ (.int .i64 r.At), .p ((al_p.l_b : Option Addr) = some ⟨b1, o1, none⟩), .p (0 ≤ (r.At : Int) ∧ (r.At : Int) < ((p.l.length : Nat) : Int)), .cell ⟨b1, o1 + (Int.toNat r.At) * 5, none⟩ (.int .i64 x1.gen)]) ⟨H.cell 3 rfl rfl, H.cell 0 rfl rfl, H.cell 3 rfl rfl, hs1, hb1, SlRd.cells (sl_rd 244 pool_place_slots_heap.enc 5 _ _ _) pool_place_slots_heap.enc_ok H 1 rfl hs1 ex1 0 _ rfl, trivial⟩ fun a hE => ?_
     refine WQ.done (by kernel_rfl) ?_
     replace H := pool_Pool_slots_heap.shut al_p (p) H.t2.t2.t2
     cases hm
     exact hk _ _ ⟨hE.sel [0, 3, 38] (by kernel_rfl), H.t1⟩
 rintro a w ⟨hE, H⟩
 refine Runs.cond hE rfl (fun c => ?_) (fun c => ?_)
 ·replace hm := cond_t c hm
  refine Runs.sr ?_
  refine WR.seg hE 2 [] [4, 5] (Lo := [(4, .pointer none), (5, .int .i64 22)]) (obs := []) rfl (by kernel_rfl) trivial fun a hE => ?_
  refine WR.done rfl ?_
  refine Runs.ret hE Tryz.func182 rfl rfl ?_
  cases hm
  exact ⟨rfl, H.x0⟩
 ·replace hm := cond_f c hm
  refine Runs.skip ?_
  refine Runs.seq ?_
  refine Runs.drawn mixed (by kernel_rfl) ?_
  replace H := H.drew
  replace H := pool_Pool_slots_heap.open H.t1
  obtain ⟨x2, ex2, hm⟩ := bind_some hm
  obtain ⟨b2, o2, hs2, hb2⟩ := SlRd.base (sl_rd 244 pool_place_slots_heap.enc 5 _ _ _) pool_place_slots_heap.enc_ok H 1 rfl ex2
  refine WQ.seg hE [0, 1, 2, 3, 4, 5, 6, 7] [.slice al_p.l_b p.l.length al_p.l_c, .int .i64 r.At, .pointer (some ⟨b2, o2, none⟩)] [3, 6] (Lo := [(3, .pointer (some ⟨r1, 0, none⟩)), (6, .pointer (some ⟨b2, o2 + (Int.toNat r.At) * 5, none⟩))]) (obs := [.cell ⟨p_p, 1, none⟩ (.slice al_p.l_b p.l.length al_p.l_c), .cell ⟨r1, 0, none⟩ (.int .i64 r.At), .p ((al_p.l_b : Option Addr) = some ⟨b2, o2, none⟩), .p (0 ≤ (r.At : Int) ∧ (r.At : Int) < ((p.l.length : Nat) : Int))]) (by kernel_rfl) (by kernel_rfl) ⟨H.cell 0 rfl rfl, H.cell 3 rfl rfl, hs2, hb2, trivial⟩ fun a hE => ?_
  refine WQ.done (by kernel_rfl) ?_
  refine Runs.seq ?_
  refine Runs.seq ?_
  refine Runs.join (fun a w => EnvOk 61 a [(6, .pointer (some ⟨b2, o2 + (Int.toNat r.At) * 5, none⟩)), (59, .bool ((decide (r.Gen < x2.gen)) || (!x2.taken)))] ∧ St w0 (Blk p_p 239 [.int .i64 p.most, .slice al_p.l_b p.l.length al_p.l_c, .slice al_p.free_b p.free.length al_p.free_c] :: Sl 244 pool_place_slots_heap.enc 5 al_p.l_b al_p.l_c p.l :: Sl 3 ecI 1 al_p.free_b al_p.free_c p.free :: Blk r1 31 [.int .i64 r.At, .int .i64 r.Gen] :: As) w) (fun hk => ?_) ?_
  ·clear hm
   refine Runs.drawn mixed (by kernel_rfl) ?_
   replace H := H.drew
   refine WQ.d hE [0, 1, 2, 3, 4, 5, 6, 7] [.int .i64 r.Gen, .int .i64 x2.gen] [(53, .bool (decide (r.Gen < x2.gen)))] (obs := [.cell ⟨r1, 1, none⟩ (.int .i64 r.Gen), .cell ⟨b2, o2 + (Int.toNat r.At) * 5, none⟩ (.int .i64 x2.gen)]) ⟨H.cell 3 rfl rfl, SlRd.cells (sl_rd 244 pool_place_slots_heap.enc 5 _ _ _) pool_place_slots_heap.enc_ok H 1 rfl hs2 ex2 0 _ rfl, trivial⟩ fun a hE => ?_
   rcases Bool.eq_false_or_eq_true (decide (r.Gen < x2.gen)) with c | c
   ·replace hE := hE.dec 53 c (by kernel_rfl)
    have c_6 := c
    refine WQ.d0 hE [8, 9, 10, 11, 12, 13] [(59, .bool true)] fun a hE => ?_
    refine WQ.done (by kernel_rfl) ?_
    refine hk _ _ ⟨?_, H.t3.t3.t3.t3⟩
    try rw [c_6] at hE
    try rw [c_6]
    exact hE.sel [6, 59] (by kernel_rfl)
   ·replace hE := hE.dec 53 c (by kernel_rfl)
    have c_7 := c
    refine WQ.d hE [8, 9, 10, 11, 12, 13] [.bool x2.taken] [(59, .bool (!x2.taken))] (obs := [.cell ⟨b2, o2 + (Int.toNat r.At) * 5 + 1, none⟩ (.bool x2.taken)]) ⟨SlRd.cells (sl_rd 244 pool_place_slots_heap.enc 5 _ _ _) pool_place_slots_heap.enc_ok H 1 rfl hs2 ex2 1 _ rfl, trivial⟩ fun a hE => ?_
    refine WQ.done (by kernel_rfl) ?_
    refine hk _ _ ⟨?_, H.t3.t3.t3.t3⟩
    try rw [c_7] at hE
    try rw [c_7]
    exact hE.sel [6, 59] (by kernel_rfl)
  rintro a w ⟨hE, H⟩
  refine Runs.cond hE rfl (fun c => ?_) (fun c => ?_)
  ·replace hm := cond_t c hm
   refine Runs.sr ?_
   refine WR.seg hE 2 [] [4, 5] (Lo := [(4, .pointer none), (5, .int .i64 23)]) (obs := []) rfl (by kernel_rfl) trivial fun a hE => ?_
   refine WR.done rfl ?_
   replace H := pool_Pool_slots_heap.shut al_p (p) H.t2.t2.t2
   refine Runs.ret hE Tryz.func182 rfl rfl ?_
   cases hm
   exact ⟨rfl, H.x1⟩
  ·replace hm := cond_f c hm
   refine Runs.skip ?_
   refine Runs.sr ?_
   refine WR.seg hE 3 [] [4, 5] (Lo := [(4, .pointer (some ⟨b2, o2 + (Int.toNat r.At) * 5, none⟩)), (5, .int .i64 0)]) (obs := []) rfl (by kernel_rfl) trivial fun a hE => ?_
   refine WR.done rfl ?_
   replace H := pool_Pool_slots_heap.shut al_p (p) H.t2.t2.t2
   refine Runs.ret hE Tryz.func182 rfl rfl ?_
   cases hm
   exact ⟨(by simp only [elemV_some hs2]; try rfl), H.x1⟩

theorem pool_Pool_slots_heap_Get_ok {w0 w : World} {As : List HP} {p_p : Nat} {al_p : pool_Pool_slots_heap.A} {p : pool_Pool_slots_heap} {r : api_Ref} {t : slots_heap × Int}  (hm : pool_Pool_slots_heap_Get p r = some t) (H : St w0 (pool_Pool_slots_heap.R p_p al_p p :: As) w) :
    CallsR Tryz.prog 122 #[.pointer (some ⟨p_p, 0, none⟩), .agg #[.int .i64 r.At, .int .i64 r.Gen]] w fun v w' => v = .tuple #[.agg #[.int .i64 t.1.kind, .int .i64 t.1.root, .int .i64 t.1.n], .int .i64 t.2] ∧ St w0 (pool_Pool_slots_heap.R p_p al_p p :: As) w' := by
 rw [pool_Pool_slots_heap_Get] at hm
 refine enter (args := [.pointer (some ⟨p_p, 0, none⟩), .agg #[.int .i64 r.At, .int .i64 r.Gen]]) Tryz.func122 rfl rfl rfl fun a hE => ?_
 refine Runs.sr ?_
 refine WR.eff hE rfl rfl rfl rfl (OpTo.new hE H [] (.cells #[.int .i64 r.At, .int .i64 r.Gen] 31 (0, 0)) (fun r => .pointer (some ⟨r, 0, none⟩)) (obs := []) rfl (fun _ => by kernel_rfl) trivial) ?_
 rintro _ w ⟨r1, rfl, H⟩ a hE
 refine WR.eff hE rfl rfl rfl rfl (OpTo.new hE H [] (.cells #[.int .i64 0, .int .i64 0, .int .i64 0] 191 (0, 0)) (fun r => .pointer (some ⟨r, 0, none⟩)) (obs := []) rfl (fun _ => by kernel_rfl) trivial) ?_
 rintro _ w ⟨r2, rfl, H⟩ a hE
 refine WR.seg hE 3 [] [0, 3, 4] (Lo := [(0, .pointer (some ⟨p_p, 0, none⟩)), (3, .pointer (some ⟨r1, 0, none⟩)), (4, .pointer (some ⟨r2, 0, none⟩))]) (obs := []) rfl (by kernel_rfl) trivial fun a hE => ?_
 refine WR.done rfl ?_
 refine Runs.sr ?_
 refine WR.d hE 2 [.int .i64 r.At, .int .i64 r.Gen] [(10, .pointer (some ⟨p_p, 0, none⟩)), (11, .agg #[.int .i64 r.At, .int .i64 r.Gen])] (obs := [.cell ⟨r1, 0, none⟩ (.int .i64 r.At), .cell ⟨r1, 1, none⟩ (.int .i64 r.Gen)]) ⟨H.cell 1 rfl rfl, H.cell 1 rfl rfl, trivial⟩ fun a hE => ?_
 obtain ⟨t_, et_, hm⟩ := bind_some hm
 refine WR.eff hE rfl rfl rfl rfl (OpTo.fn hE rfl rfl Tryz.call182 (pool_Pool_slots_heap_find_ok et_ H.t2)) ?_
 rintro _ w ⟨rfl, H⟩ a hE
 rcases ho : t_.1 with _ | i
 ·replace hm := case_n ho hm
  rw [ho] at hE
  refine WR.seg hE 8 [] [4, 6, 7] (Lo := [(4, .pointer (some ⟨r2, 0, none⟩)), (6, .pointer none), (7, .int .i64 t_.2)]) (obs := []) rfl (by kernel_rfl) trivial fun a hE => ?_
  refine WR.done rfl ?_
  refine Runs.seq ?_
  refine Runs.sr ?_
  refine WR.e0 hE [(16, .bool (t_.2 != 0))] fun a hE => ?_
  refine Runs.cond hE rfl (fun c => ?_) (fun c => ?_)
  ·replace hm := cond_t c hm
   refine Runs.sr ?_
   refine WR.eff hE rfl rfl rfl rfl (OpTo.new hE H [] (.cells #[.int .i64 0, .int .i64 0, .int .i64 0] 191 (0, 0)) (fun r => .pointer (some ⟨r, 0, none⟩)) (obs := []) rfl (fun _ => by kernel_rfl) trivial) ?_
   rintro _ w ⟨r3, rfl, H⟩ a hE
   refine WR.done rfl ?_
   refine Runs.sr ?_
   refine WR.d hE 2 [.int .i64 0, .int .i64 0, .int .i64 0] [(17, .agg #[.int .i64 0, .int .i64 0, .int .i64 0]), (18, .int .i64 t_.2)] (obs := [.cell ⟨r3, 0, none⟩ (.int .i64 0), .cell ⟨r3, 1, none⟩ (.int .i64 0), .cell ⟨r3, 2, none⟩ (.int .i64 0)]) ⟨H.cell 0 rfl rfl, H.cell 0 rfl rfl, H.cell 0 rfl rfl, trivial⟩ fun a hE => ?_
   refine WR.eff0 hE rfl rfl rfl (OpTo.store hE H.t2 rfl rfl rfl rfl rfl rfl (Nat.le_of_ble_eq_true rfl)) ?_
   rintro _ w H a hE
   refine WR.e0 hE [(5, .int .i64 t_.2)] fun a hE => ?_
   refine Runs.retO (vs := [.agg #[.int .i64 0, .int .i64 0, .int .i64 0], .int .i64 t_.2]) (obs := [.cell ⟨r2, 0, none⟩ (.int .i64 0), .cell ⟨r2, 1, none⟩ (.int .i64 0), .cell ⟨r2, 2, none⟩ (.int .i64 0)]) hE Tryz.func122 rfl [.int .i64 0, .int .i64 0, .int .i64 0] (by kernel_rfl) ⟨H.cell 0 rfl rfl, H.cell 0 rfl rfl, H.cell 0 rfl rfl, trivial⟩ ?_
   cases hm
   exact ⟨rfl, H.x3.x1.x0⟩
  ·replace hm := cond_f c hm
   refine Runs.skip ?_
   refine Runs.sr ?_
   cases hm
 ·replace hm := case_s ho hm
  replace H := pool_Pool_slots_heap.open H
  obtain ⟨x, ex, hm⟩ := bind_some hm
  obtain ⟨b, o, hs, hb⟩ := SlRd.base (sl_rd 244 pool_place_slots_heap.enc 5 _ _ _) pool_place_slots_heap.enc_ok H 1 rfl ex
  rw [ho, elemV_some hs] at hE
  refine WR.seg hE 8 [] [4, 6, 7] (Lo := [(4, .pointer (some ⟨r2, 0, none⟩)), (6, .pointer (some ⟨b, o + (Int.toNat i) * 5, none⟩)), (7, .int .i64 t_.2)]) (obs := []) rfl (by kernel_rfl) trivial fun a hE => ?_
  refine WR.done rfl ?_
  refine Runs.seq ?_
  refine Runs.sr ?_
  refine WR.e0 hE [(16, .bool (t_.2 != 0))] fun a hE => ?_
  refine Runs.cond hE rfl (fun c => ?_) (fun c => ?_)
  ·replace hm := cond_t c hm
   refine Runs.sr ?_
   refine WR.eff hE rfl rfl rfl rfl (OpTo.new hE H [] (.cells #[.int .i64 0, .int .i64 0, .int .i64 0] 191 (0, 0)) (fun r => .pointer (some ⟨r, 0, none⟩)) (obs := []) rfl (fun _ => by kernel_rfl) trivial) ?_
   rintro _ w ⟨r4, rfl, H⟩ a hE
   refine WR.done rfl ?_
   refine Runs.sr ?_
   refine WR.d hE 2 [.int .i64 0, .int .i64 0, .int .i64 0] [(17, .agg #[.int .i64 0, .int .i64 0, .int .i64 0]), (18, .int .i64 t_.2)] (obs := [.cell ⟨r4, 0, none⟩ (.int .i64 0), .cell ⟨r4, 1, none⟩ (.int .i64 0), .cell ⟨r4, 2, none⟩ (.int .i64 0)]) ⟨H.cell 0 rfl rfl, H.cell 0 rfl rfl, H.cell 0 rfl rfl, trivial⟩ fun a hE => ?_
   refine WR.eff0 hE rfl rfl rfl (OpTo.store hE H.t4 rfl rfl rfl rfl rfl rfl (Nat.le_of_ble_eq_true rfl)) ?_
   rintro _ w H a hE
   refine WR.e0 hE [(5, .int .i64 t_.2)] fun a hE => ?_
   refine Runs.retO (vs := [.agg #[.int .i64 0, .int .i64 0, .int .i64 0], .int .i64 t_.2]) (obs := [.cell ⟨r2, 0, none⟩ (.int .i64 0), .cell ⟨r2, 1, none⟩ (.int .i64 0), .cell ⟨r2, 2, none⟩ (.int .i64 0)]) hE Tryz.func122 rfl [.int .i64 0, .int .i64 0, .int .i64 0] (by kernel_rfl) ⟨H.cell 0 rfl rfl, H.cell 0 rfl rfl, H.cell 0 rfl rfl, trivial⟩ ?_
   replace H := pool_Pool_slots_heap.shut al_p (p) H.t4.t4.t4
   cases hm
   exact ⟨rfl, H.x3.x2.x1⟩
  ·replace hm := cond_f c hm
   refine Runs.skip ?_
   refine Runs.sr ?_
   refine WR.d hE 4 [.int .i64 x.v_.kind, .int .i64 x.v_.root, .int .i64 x.v_.n] [(22, .agg #[.int .i64 x.v_.kind, .int .i64 x.v_.root, .int .i64 x.v_.n])] (obs := [.cell ⟨b, o + (Int.toNat i) * 5 + 2, none⟩ (.int .i64 x.v_.kind), .cell ⟨b, o + (Int.toNat i) * 5 + 3, none⟩ (.int .i64 x.v_.root), .cell ⟨b, o + (Int.toNat i) * 5 + 4, none⟩ (.int .i64 x.v_.n)]) ⟨SlRd.cells (sl_rd 244 pool_place_slots_heap.enc 5 _ _ _) pool_place_slots_heap.enc_ok H 1 rfl hs ex 2 _ rfl, SlRd.cells (sl_rd 244 pool_place_slots_heap.enc 5 _ _ _) pool_place_slots_heap.enc_ok H 1 rfl hs ex 3 _ rfl, SlRd.cells (sl_rd 244 pool_place_slots_heap.enc 5 _ _ _) pool_place_slots_heap.enc_ok H 1 rfl hs ex 4 _ rfl, trivial⟩ fun a hE => ?_
   refine WR.eff0 hE rfl rfl rfl (OpTo.store hE H.t3 rfl rfl rfl rfl rfl rfl (Nat.le_of_ble_eq_true rfl)) ?_
   rintro _ w H a hE
   refine WR.e0 hE [(5, .int .i64 0)] fun a hE => ?_
   refine Runs.retO (vs := [.agg #[.int .i64 x.v_.kind, .int .i64 x.v_.root, .int .i64 x.v_.n], .int .i64 0]) (obs := [.cell ⟨r2, 0, none⟩ (.int .i64 x.v_.kind), .cell ⟨r2, 1, none⟩ (.int .i64 x.v_.root), .cell ⟨r2, 2, none⟩ (.int .i64 x.v_.n)]) hE Tryz.func122 rfl [.int .i64 x.v_.kind, .int .i64 x.v_.root, .int .i64 x.v_.n] (by kernel_rfl) ⟨H.cell 0 rfl rfl, H.cell 0 rfl rfl, H.cell 0 rfl rfl, trivial⟩ ?_
   replace H := pool_Pool_slots_heap.shut al_p (p) H.t3.t3.t3
   cases hm
   exact ⟨rfl, H.x2.x1⟩

theorem slots_Table_Heap_ok {w0 w : World} {As : List HP} {p_t_ : Nat} {al_t_ : slots_Table.A} {t_ : slots_Table} {h_ : api_Ref} {t : Int × Int × Int × Int}  (hm : slots_Table_Heap t_ h_ = some t) (H : St w0 (slots_Table.R p_t_ al_t_ t_ :: As) w) :
    CallsR Tryz.prog 82 #[.pointer (some ⟨p_t_, 0, none⟩), .agg #[.int .i64 h_.At, .int .i64 h_.Gen]] w fun v w' => v = .tuple #[.int .i64 t.1, .int .i64 t.2.1, .int .i64 t.2.2.1, .int .i64 t.2.2.2] ∧ St w0 (slots_Table.R p_t_ al_t_ t_ :: As) w' := by
 rw [slots_Table_Heap] at hm
 refine enter (args := [.pointer (some ⟨p_t_, 0, none⟩), .agg #[.int .i64 h_.At, .int .i64 h_.Gen]]) Tryz.func82 rfl rfl rfl fun a hE => ?_
 refine Runs.sr ?_
 refine WR.eff hE rfl rfl rfl rfl (OpTo.new hE H [] (.cells #[.int .i64 h_.At, .int .i64 h_.Gen] 31 (0, 0)) (fun r => .pointer (some ⟨r, 0, none⟩)) (obs := []) rfl (fun _ => by kernel_rfl) trivial) ?_
 rintro _ w ⟨r, rfl, H⟩ a hE
 refine WR.seg hE 5 [] [0, 3] (Lo := [(0, .pointer (some ⟨p_t_, 0, none⟩)), (3, .pointer (some ⟨r, 0, none⟩))]) (obs := []) rfl (by kernel_rfl) trivial fun a hE => ?_
 refine WR.done rfl ?_
 refine Runs.seq ?_
 obtain ⟨t_1, et_1, hm⟩ := bind_some hm
 refine Runs.join (fun a w => ∃ (r2 : Nat), EnvOk 26 a [(8, .pointer (some ⟨r2, 0, none⟩)), (9, .int .i64 t_1.2)] ∧ St w0 (Blk r2 191 [.int .i64 t_1.1.kind, .int .i64 t_1.1.root, .int .i64 t_1.1.n] :: slots_Table.R p_t_ al_t_ t_ :: As) w) (fun hk => ?_) ?_
 ·refine Runs.drawn mixed (by kernel_rfl) ?_
  replace H := H.drew
  replace H := slots_Table.open H.t1
  refine WQ.d hE [0, 1, 2, 3, 4] [.pointer (some ⟨al_t_.heaps_p, 0, none⟩), .int .i64 h_.At, .int .i64 h_.Gen] [(14, .pointer (some ⟨al_t_.heaps_p, 0, none⟩)), (15, .agg #[.int .i64 h_.At, .int .i64 h_.Gen])] (obs := [.cell ⟨p_t_, 0, none⟩ (.pointer (some ⟨al_t_.heaps_p, 0, none⟩)), .cell ⟨r, 0, none⟩ (.int .i64 h_.At), .cell ⟨r, 1, none⟩ (.int .i64 h_.Gen)]) ⟨H.cell 0 rfl rfl, H.cell 4 rfl rfl, H.cell 4 rfl rfl, trivial⟩ fun a hE => ?_
  refine WQ.act2 5 9 (by kernel_rfl) ?_ ?_
  ·refine AQ.eff (j := 5) (obs := []) hE rfl rfl rfl rfl (by kernel_rfl) (OpTo.fn hE rfl rfl Tryz.call122 (pool_Pool_slots_heap_Get_ok et_1 H.t1)) ?_
   rintro _ w ⟨rfl, H⟩
   refine ⟨trivial, fun a hE => ?_⟩
   refine WQ.d0 hE [6, 7, 8] [(17, .agg #[.int .i64 t_1.1.kind, .int .i64 t_1.1.root, .int .i64 t_1.1.n]), (18, .int .i64 t_1.2)] fun a hE => ?_
   refine WQ.eff (j := 9) (obs := []) hE (by kernel_rfl) rfl rfl rfl rfl (by kernel_rfl) (OpTo.new hE H [] (.cells #[.int .i64 0, .int .i64 0, .int .i64 0] 191 (0, 0)) (fun r => .pointer (some ⟨r, 0, none⟩)) (obs := []) rfl (fun _ => by kernel_rfl) trivial) ?_
   rintro _ w ⟨r3, rfl, H⟩
   refine ⟨trivial, fun a hE => ?_⟩
   refine WQ.eff0 (j := 10) (obs := []) hE (by kernel_rfl) rfl rfl rfl (by kernel_rfl) (OpTo.store hE H rfl rfl rfl rfl rfl rfl (Nat.le_of_ble_eq_true rfl)) ?_
   rintro _ w H
   refine ⟨trivial, fun a hE => ?_⟩
   refine WQ.d0 hE [11] [(9, .int .i64 t_1.2)] fun a hE => ?_
   refine WQ.done (by kernel_rfl) ?_
   replace H := slots_Table.shut al_t_ (t_) H.t4.t4.t3.t4
   exact hk _ _ ⟨r3, hE.sel [8, 9] (by kernel_rfl), H.x2.t1⟩
  ·refine AQ.eff (j := 9) (obs := [.cell ⟨r, 0, none⟩ (.int .i64 h_.At), .cell ⟨r, 1, none⟩ (.int .i64 h_.Gen), .cell ⟨p_t_, 0, none⟩ (.pointer (some ⟨al_t_.heaps_p, 0, none⟩))]) hE rfl rfl rfl rfl (by kernel_rfl) (OpTo.new hE H [] (.cells #[.int .i64 0, .int .i64 0, .int .i64 0] 191 (0, 0)) (fun r => .pointer (some ⟨r, 0, none⟩)) (obs := []) rfl (fun _ => by kernel_rfl) trivial) ?_
   rintro _ w ⟨r4, rfl, H⟩
   refine ⟨⟨H.cell 5 rfl rfl, H.cell 5 rfl rfl, H.cell 1 rfl rfl, trivial⟩, fun a hE => ?_⟩
   refine WQ.eff (j := 5) (obs := []) hE (by kernel_rfl) rfl rfl rfl rfl (by kernel_rfl) (OpTo.fn hE rfl rfl Tryz.call122 (pool_Pool_slots_heap_Get_ok et_1 H.t2)) ?_
   rintro _ w ⟨rfl, H⟩
   refine ⟨trivial, fun a hE => ?_⟩
   refine WQ.d0 hE [6, 7, 8] [(17, .agg #[.int .i64 t_1.1.kind, .int .i64 t_1.1.root, .int .i64 t_1.1.n]), (18, .int .i64 t_1.2)] fun a hE => ?_
   refine WQ.eff0 (j := 10) (obs := []) hE (by kernel_rfl) rfl rfl rfl (by kernel_rfl) (OpTo.store hE H.t1 rfl rfl rfl rfl rfl rfl (Nat.le_of_ble_eq_true rfl)) ?_
   rintro _ w H
   refine ⟨trivial, fun a hE => ?_⟩
   refine WQ.d0 hE [11] [(9, .int .i64 t_1.2)] fun a hE => ?_
   refine WQ.done (by kernel_rfl) ?_
   replace H := slots_Table.shut al_t_ (t_) H.t4.t4.t3.t4
   exact hk _ _ ⟨r4, hE.sel [8, 9] (by kernel_rfl), H.x2.t1⟩
 rintro a w ⟨r2, hE, H⟩
 refine Runs.seq ?_
 refine Runs.drawn mixed (by kernel_rfl) ?_
 replace H := H.drew
 refine WQ.seg hE [0, 1, 2, 3, 4, 5, 6, 7, 8, 9, 10] [.int .i64 t_1.1.kind, .int .i64 t_1.1.root, .int .i64 t_1.1.n] [4, 5, 6, 7] (Lo := [(4, .int .i64 t_1.1.kind), (5, .int .i64 t_1.1.root), (6, .int .i64 t_1.1.n), (7, .int .i64 t_1.2)]) (obs := [.cell ⟨r2, 0, none⟩ (.int .i64 t_1.1.kind), .cell ⟨r2, 1, none⟩ (.int .i64 t_1.1.root), .cell ⟨r2, 2, none⟩ (.int .i64 t_1.1.n)]) (by kernel_rfl) (by kernel_rfl) ⟨H.cell 0 rfl rfl, H.cell 0 rfl rfl, H.cell 0 rfl rfl, trivial⟩ fun a hE => ?_
 refine WQ.done (by kernel_rfl) ?_
 refine Runs.ret hE Tryz.func82 rfl rfl ?_
 cases hm
 exact ⟨rfl, H.x0⟩

theorem pq_refused_ok {w0 w : World} {As : List HP} {why : Int} {t : api_Answer}  (hm : pq_refused why = some t) (H : St w0 (As) w) :
    CallsR Tryz.prog 84 #[.int .i64 why] w fun v w' => v = .agg #[.int .i64 t.Why, .int .i64 t.Heap.At, .int .i64 t.Heap.Gen, .int .i64 t.Item.At, .int .i64 t.Item.Gen, .int .i64 t.Entry.Key, .int .i64 t.Entry.Serial, .int .i64 t.N] ∧ St w0 (As) w' := by
 rw [pq_refused] at hm
 refine enter (args := [.int .i64 why]) Tryz.func84 rfl rfl rfl fun a hE => ?_
 refine Runs.sr ?_
 refine WR.eff hE rfl rfl rfl rfl (OpTo.new hE H [] (.cells #[.int .i64 0, .int .i64 0, .int .i64 0, .int .i64 0, .int .i64 0, .int .i64 0, .int .i64 0, .int .i64 0] 127 (0, 0)) (fun r => .pointer (some ⟨r, 0, none⟩)) (obs := []) rfl (fun _ => by kernel_rfl) trivial) ?_
 rintro _ w ⟨r, rfl, H⟩ a hE
 refine WR.done rfl ?_
 refine Runs.sr ?_
 refine WR.seg hE 2 [] [2, 4] (Lo := [(2, .pointer (some ⟨r, 0, none⟩)), (4, .agg #[.int .i64 why, .int .i64 0, .int .i64 0, .int .i64 0, .int .i64 0, .int .i64 0, .int .i64 0, .int .i64 0])]) (obs := []) rfl (by kernel_rfl) trivial fun a hE => ?_
 refine WR.eff0 hE rfl rfl rfl (OpTo.store hE H rfl rfl rfl rfl rfl rfl (Nat.le_of_ble_eq_true rfl)) ?_
 rintro _ w H a hE
 refine WR.done rfl ?_
 refine Runs.retO (vs := [.agg #[.int .i64 why, .int .i64 0, .int .i64 0, .int .i64 0, .int .i64 0, .int .i64 0, .int .i64 0, .int .i64 0]]) (obs := [.cell ⟨r, 0, none⟩ (.int .i64 why), .cell ⟨r, 1, none⟩ (.int .i64 0), .cell ⟨r, 2, none⟩ (.int .i64 0), .cell ⟨r, 3, none⟩ (.int .i64 0), .cell ⟨r, 4, none⟩ (.int .i64 0), .cell ⟨r, 5, none⟩ (.int .i64 0), .cell ⟨r, 6, none⟩ (.int .i64 0), .cell ⟨r, 7, none⟩ (.int .i64 0)]) hE Tryz.func84 rfl [.int .i64 why, .int .i64 0, .int .i64 0, .int .i64 0, .int .i64 0, .int .i64 0, .int .i64 0, .int .i64 0] (by kernel_rfl) ⟨H.cell 0 rfl rfl, H.cell 0 rfl rfl, H.cell 0 rfl rfl, H.cell 0 rfl rfl, H.cell 0 rfl rfl, H.cell 0 rfl rfl, H.cell 0 rfl rfl, H.cell 0 rfl rfl, trivial⟩ ?_
 cases hm
 exact ⟨rfl, H.x0⟩

theorem kind_Min_ok {w0 w : World} {As : List HP} {k_ : Int} {p_a_ : Nat} {al_a_ : arena_Arena.A} {a_ : arena_Arena} {r : Int} {t : Int}  (hm : kind_Min k_ a_ r = some t) (H : St w0 (arena_Arena.R p_a_ al_a_ a_ :: As) w) :
    CallsR Tryz.prog 112 #[.int .i64 k_, .pointer (some ⟨p_a_, 0, none⟩), .int .i64 r] w fun v w' => v = .int .i64 t ∧ St w0 (arena_Arena.R p_a_ al_a_ a_ :: As) w' := by
  rw [kind_Min] at hm
  cases hm

theorem slots_Table_At_ok {w0 w : World} {As : List HP} {p_t_ : Nat} {al_t_ : slots_Table.A} {t_ : slots_Table} {cell : Int} {t : api_Ref × Bool}  (hm : slots_Table_At t_ cell = some t) (H : St w0 (slots_Table.R p_t_ al_t_ t_ :: As) w) :
    CallsR Tryz.prog 111 #[.pointer (some ⟨p_t_, 0, none⟩), .int .i64 cell] w fun v w' => v = .tuple #[.agg #[.int .i64 t.1.At, .int .i64 t.1.Gen], .bool t.2] ∧ St w0 (slots_Table.R p_t_ al_t_ t_ :: As) w' := by
 rw [slots_Table_At] at hm
 refine enter (args := [.pointer (some ⟨p_t_, 0, none⟩), .int .i64 cell]) Tryz.func111 rfl rfl rfl fun a hE => ?_
 refine Runs.sr ?_
 refine WR.eff hE rfl rfl rfl rfl (OpTo.new hE H [] (.cells #[.int .i64 0, .int .i64 0] 31 (0, 0)) (fun r => .pointer (some ⟨r, 0, none⟩)) (obs := []) rfl (fun _ => by kernel_rfl) trivial) ?_
 rintro _ w ⟨r, rfl, H⟩ a hE
 refine WR.seg hE 2 [] [0, 1, 4] (Lo := [(0, .pointer (some ⟨p_t_, 0, none⟩)), (1, .int .i64 cell), (4, .pointer (some ⟨r, 0, none⟩))]) (obs := []) rfl (by kernel_rfl) trivial fun a hE => ?_
 refine WR.done rfl ?_
 refine Runs.sr ?_
 replace H := slots_Table.open H.t1
 refine WR.d hE 5 [.map (some al_t_.at__p)] [(12, .map (some al_t_.at__p)), (13, .int .i64 cell)] (obs := [.cell ⟨p_t_, 2, none⟩ (.map (some al_t_.at__p))]) ⟨H.cell 0 rfl rfl, trivial⟩ fun a hE => ?_
 obtain ⟨x, ex, hm⟩ := bind_some hm
 refine WR.eff hE rfl rfl rfl rfl (OpTo.mpGet2 3 hE H rfl (KeyOk.int rfl) ex rfl rfl rfl rfl rfl rfl) ?_
 rintro _ _ ⟨rfl, rfl⟩ a hE
 refine WR.d0 hE 9 [(15, .agg #[.int .i64 x.1.At, .int .i64 x.1.Gen]), (16, .bool x.2)] fun a hE => ?_
 refine WR.eff hE rfl rfl rfl rfl (OpTo.new hE H [] (.cells #[.int .i64 0, .int .i64 0] 31 (0, 0)) (fun r => .pointer (some ⟨r, 0, none⟩)) (obs := []) rfl (fun _ => by kernel_rfl) trivial) ?_
 rintro _ w ⟨r1, rfl, H⟩ a hE
 refine WR.eff0 hE rfl rfl rfl (OpTo.store hE H rfl rfl rfl rfl rfl rfl (Nat.le_of_ble_eq_true rfl)) ?_
 rintro _ w H a hE
 refine WR.e0 hE [(7, .bool x.2)] fun a hE => ?_
 refine Runs.sr ?_
 refine WR.d hE 2 [.int .i64 x.1.At, .int .i64 x.1.Gen] [(17, .agg #[.int .i64 x.1.At, .int .i64 x.1.Gen]), (18, .bool x.2)] (obs := [.cell ⟨r1, 0, none⟩ (.int .i64 x.1.At), .cell ⟨r1, 1, none⟩ (.int .i64 x.1.Gen)]) ⟨H.cell 0 rfl rfl, H.cell 0 rfl rfl, trivial⟩ fun a hE => ?_
 refine WR.eff0 hE rfl rfl rfl (OpTo.store hE H.t5 rfl rfl rfl rfl rfl rfl (Nat.le_of_ble_eq_true rfl)) ?_
 rintro _ w H a hE
 refine WR.e0 hE [(5, .bool x.2)] fun a hE => ?_
 refine Runs.retO (vs := [.agg #[.int .i64 x.1.At, .int .i64 x.1.Gen], .bool x.2]) (obs := [.cell ⟨r, 0, none⟩ (.int .i64 x.1.At), .cell ⟨r, 1, none⟩ (.int .i64 x.1.Gen)]) hE Tryz.func111 rfl [.int .i64 x.1.At, .int .i64 x.1.Gen] (by kernel_rfl) ⟨H.cell 0 rfl rfl, H.cell 0 rfl rfl, trivial⟩ ?_
 replace H := slots_Table.shut al_t_ (t_) H.t5.t5.t5.t5
 cases hm
 exact ⟨rfl, H.x2.x1⟩

theorem kind_Pop_ok {w0 w : World} {As : List HP} {k_ : Int} {p_a_ : Nat} {al_a_ : arena_Arena.A} {a_ : arena_Arena} {r : Int} {t : Int × Int}  (hm : kind_Pop k_ a_ r = some t) (H : St w0 (arena_Arena.R p_a_ al_a_ a_ :: As) w) :
    CallsR Tryz.prog 113 #[.int .i64 k_, .pointer (some ⟨p_a_, 0, none⟩), .int .i64 r] w fun v w' => v = .tuple #[.int .i64 t.1, .int .i64 t.2] ∧ St w0 (arena_Arena.R p_a_ al_a_ a_ :: As) w' := by
  rw [kind_Pop] at hm
  cases hm

theorem pool_Pool_slots_heap_Set_ok {w0 w : World} {As : List HP} {p_p : Nat} {al_p : pool_Pool_slots_heap.A} {p : pool_Pool_slots_heap} {r : api_Ref} {v_ : slots_heap} {t : Int × pool_Pool_slots_heap}  (hm : pool_Pool_slots_heap_Set p r v_ = some t) (H : St w0 (pool_Pool_slots_heap.R p_p al_p p :: As) w) :
    CallsR Tryz.prog 150 #[.pointer (some ⟨p_p, 0, none⟩), .agg #[.int .i64 r.At, .int .i64 r.Gen], .agg #[.int .i64 v_.kind, .int .i64 v_.root, .int .i64 v_.n]] w fun v w' => v = .int .i64 t.1 ∧ St w0 (pool_Pool_slots_heap.R p_p al_p t.2 :: As) w' := by
 rw [pool_Pool_slots_heap_Set] at hm
 refine enter (args := [.pointer (some ⟨p_p, 0, none⟩), .agg #[.int .i64 r.At, .int .i64 r.Gen], .agg #[.int .i64 v_.kind, .int .i64 v_.root, .int .i64 v_.n]]) Tryz.func150 rfl rfl rfl fun a hE => ?_
 refine Runs.sr ?_
 refine WR.eff hE rfl rfl rfl rfl (OpTo.new hE H [] (.cells #[.int .i64 r.At, .int .i64 r.Gen] 31 (0, 0)) (fun r => .pointer (some ⟨r, 0, none⟩)) (obs := []) rfl (fun _ => by kernel_rfl) trivial) ?_
 rintro _ w ⟨r1, rfl, H⟩ a hE
 refine WR.eff hE rfl rfl rfl rfl (OpTo.new hE H [] (.cells #[.int .i64 v_.kind, .int .i64 v_.root, .int .i64 v_.n] 191 (0, 0)) (fun r => .pointer (some ⟨r, 0, none⟩)) (obs := []) rfl (fun _ => by kernel_rfl) trivial) ?_
 rintro _ w ⟨r2, rfl, H⟩ a hE
 refine WR.seg hE 3 [] [0, 4, 5] (Lo := [(0, .pointer (some ⟨p_p, 0, none⟩)), (4, .pointer (some ⟨r1, 0, none⟩)), (5, .pointer (some ⟨r2, 0, none⟩))]) (obs := []) rfl (by kernel_rfl) trivial fun a hE => ?_
 refine WR.done rfl ?_
 refine Runs.sr ?_
 refine WR.d hE 2 [.int .i64 r.At, .int .i64 r.Gen] [(10, .pointer (some ⟨p_p, 0, none⟩)), (11, .agg #[.int .i64 r.At, .int .i64 r.Gen])] (obs := [.cell ⟨r1, 0, none⟩ (.int .i64 r.At), .cell ⟨r1, 1, none⟩ (.int .i64 r.Gen)]) ⟨H.cell 1 rfl rfl, H.cell 1 rfl rfl, trivial⟩ fun a hE => ?_
 obtain ⟨t_, et_, hm⟩ := bind_some hm
 refine WR.eff hE rfl rfl rfl rfl (OpTo.fn hE rfl rfl Tryz.call182 (pool_Pool_slots_heap_find_ok et_ H.t2)) ?_
 rintro _ w ⟨rfl, H⟩ a hE
 rcases ho : t_.1 with _ | i
 ·replace hm := case_n ho hm
  rw [ho] at hE
  refine WR.seg hE 8 [] [5, 7, 8] (Lo := [(5, .pointer (some ⟨r2, 0, none⟩)), (7, .pointer none), (8, .int .i64 t_.2)]) (obs := []) rfl (by kernel_rfl) trivial fun a hE => ?_
  refine WR.done rfl ?_
  refine Runs.seq ?_
  refine Runs.sr ?_
  refine WR.e0 hE [(16, .bool (t_.2 == 0))] fun a hE => ?_
  obtain ⟨s, es, hm⟩ := bind_some hm
  refine Runs.join (fun a w => EnvOk 22 a [(8, .int .i64 t_.2)] ∧ St w0 (pool_Pool_slots_heap.R p_p al_p p :: As) w) (fun hk => ?_) ?_
  ·replace hm := es; clear es
   refine Runs.cond hE rfl (fun c => ?_) (fun c => ?_)
   ·replace hm := cond_t c hm
    refine Runs.region ?_
    cases hm
   ·replace hm := cond_f c hm
    refine Runs.skip ?_
    cases hm
    exact hk _ _ ⟨hE.sel [8] (by kernel_rfl), H.x2.x1⟩
  rintro a w ⟨hE, H⟩
  refine Runs.sr ?_
  refine WR.seg hE 2 [] [6] (Lo := [(6, .int .i64 t_.2)]) (obs := []) rfl (by kernel_rfl) trivial fun a hE => ?_
  refine WR.done rfl ?_
  refine Runs.ret hE Tryz.func150 rfl rfl ?_
  cases hm
  exact ⟨rfl, H⟩
 ·replace hm := case_s ho hm
  replace H := pool_Pool_slots_heap.open H
  obtain ⟨x, ex, hm⟩ := bind_some hm
  obtain ⟨b, o, hs, hb⟩ := SlRd.base (sl_rd 244 pool_place_slots_heap.enc 5 _ _ _) pool_place_slots_heap.enc_ok H 1 rfl ex
  rw [ho, elemV_some hs] at hE
  refine WR.seg hE 8 [] [5, 7, 8] (Lo := [(5, .pointer (some ⟨r2, 0, none⟩)), (7, .pointer (some ⟨b, o + (Int.toNat i) * 5, none⟩)), (8, .int .i64 t_.2)]) (obs := []) rfl (by kernel_rfl) trivial fun a hE => ?_
  refine WR.done rfl ?_
  refine Runs.seq ?_
  refine Runs.sr ?_
  refine WR.e0 hE [(16, .bool (t_.2 == 0))] fun a hE => ?_
  replace H := pool_Pool_slots_heap.shut al_p (p) H.t2.t2.t2
  obtain ⟨s1, es1, hm⟩ := bind_some hm
  refine Runs.join (fun a w => EnvOk 22 a [(8, .int .i64 t_.2)] ∧ St w0 (pool_Pool_slots_heap.R p_p al_p s1 :: As) w) (fun hk => ?_) ?_
  ·replace hm := es1; clear es1
   refine Runs.cond hE rfl (fun c => ?_) (fun c => ?_)
   ·replace hm := cond_t c hm
    refine Runs.region ?_
    replace H := pool_Pool_slots_heap.open H
    refine WR.d hE 4 [.int .i64 v_.kind, .int .i64 v_.root, .int .i64 v_.n] [(18, .agg #[.int .i64 v_.kind, .int .i64 v_.root, .int .i64 v_.n]), (20, .pointer (some ⟨b, o + (Int.toNat i) * 5 + 2, none⟩))] (obs := [.cell ⟨r2, 0, none⟩ (.int .i64 v_.kind), .cell ⟨r2, 1, none⟩ (.int .i64 v_.root), .cell ⟨r2, 2, none⟩ (.int .i64 v_.n)]) ⟨H.cell 3 rfl rfl, H.cell 3 rfl rfl, H.cell 3 rfl rfl, trivial⟩ fun a hE => ?_
    refine WR.eff0 hE rfl rfl rfl (OpTo.storeSl (q := 2) (x' := (pool_place_slots_heap.mk x.gen x.taken v_)) hE H.t1 pool_place_slots_heap.enc_ok rfl hs ex rfl rfl rfl rfl rfl (Nat.le_of_ble_eq_true rfl) rfl) ?_
    rintro _ w H a hE
    rw [← mSet_len p.l i (pool_place_slots_heap.mk x.gen x.taken v_)] at H
    refine WR.done rfl ?_
    replace H := pool_Pool_slots_heap.shut al_p (pool_Pool_slots_heap.mk p.most (mSet p.l i (pool_place_slots_heap.mk x.gen x.taken v_)) p.free) H.t2.t1.t2
    cases hm
    exact hk _ _ ⟨hE.sel [8] (by kernel_rfl), H.x2.x1⟩
   ·replace hm := cond_f c hm
    refine Runs.skip ?_
    cases hm
    exact hk _ _ ⟨hE.sel [8] (by kernel_rfl), H.x2.x1⟩
  rintro a w ⟨hE, H⟩
  refine Runs.sr ?_
  refine WR.seg hE 2 [] [6] (Lo := [(6, .int .i64 t_.2)]) (obs := []) rfl (by kernel_rfl) trivial fun a hE => ?_
  refine WR.done rfl ?_
  refine Runs.ret hE Tryz.func150 rfl rfl ?_
  cases hm
  exact ⟨rfl, H⟩

theorem slots_Table_Root_ok {w0 w : World} {As : List HP} {p_t_ : Nat} {al_t_ : slots_Table.A} {t_ : slots_Table} {h_ : api_Ref} {r : Int} {n : Int} {t : Int × slots_Table}  (hm : slots_Table_Root t_ h_ r n = some t) (H : St w0 (slots_Table.R p_t_ al_t_ t_ :: As) w) :
    CallsR Tryz.prog 110 #[.pointer (some ⟨p_t_, 0, none⟩), .agg #[.int .i64 h_.At, .int .i64 h_.Gen], .int .i64 r, .int .i64 n] w fun v w' => v = .int .i64 t.1 ∧ St w0 (slots_Table.R p_t_ al_t_ t.2 :: As) w' := by
 rw [slots_Table_Root] at hm
 refine enter (args := [.pointer (some ⟨p_t_, 0, none⟩), .agg #[.int .i64 h_.At, .int .i64 h_.Gen], .int .i64 r, .int .i64 n]) Tryz.func110 rfl rfl rfl fun a hE => ?_
 refine Runs.sr ?_
 refine WR.eff hE rfl rfl rfl rfl (OpTo.new hE H [] (.cells #[.int .i64 h_.At, .int .i64 h_.Gen] 31 (0, 0)) (fun r => .pointer (some ⟨r, 0, none⟩)) (obs := []) rfl (fun _ => by kernel_rfl) trivial) ?_
 rintro _ w ⟨r1, rfl, H⟩ a hE
 refine WR.seg hE 2 [] [0, 2, 3, 5] (Lo := [(0, .pointer (some ⟨p_t_, 0, none⟩)), (2, .int .i64 r), (3, .int .i64 n), (5, .pointer (some ⟨r1, 0, none⟩))]) (obs := []) rfl (by kernel_rfl) trivial fun a hE => ?_
 refine WR.done rfl ?_
 refine Runs.seq ?_
 obtain ⟨t_1, et_1, hm⟩ := bind_some hm
 refine Runs.join (fun a w => ∃ (r3 : Nat), EnvOk 34 a [(0, .pointer (some ⟨p_t_, 0, none⟩)), (2, .int .i64 r), (3, .int .i64 n), (5, .pointer (some ⟨r1, 0, none⟩)), (9, .pointer (some ⟨r3, 0, none⟩)), (10, .int .i64 t_1.2)] ∧ St w0 (Blk r3 191 [.int .i64 t_1.1.kind, .int .i64 t_1.1.root, .int .i64 t_1.1.n] :: Blk r1 31 [.int .i64 h_.At, .int .i64 h_.Gen] :: slots_Table.R p_t_ al_t_ t_ :: As) w) (fun hk => ?_) ?_
 ·refine Runs.drawn mixed (by kernel_rfl) ?_
  replace H := H.drew
  replace H := slots_Table.open H.t1
  refine WQ.d hE [0, 1, 2, 3, 4] [.pointer (some ⟨al_t_.heaps_p, 0, none⟩), .int .i64 h_.At, .int .i64 h_.Gen] [(15, .pointer (some ⟨al_t_.heaps_p, 0, none⟩)), (16, .agg #[.int .i64 h_.At, .int .i64 h_.Gen])] (obs := [.cell ⟨p_t_, 0, none⟩ (.pointer (some ⟨al_t_.heaps_p, 0, none⟩)), .cell ⟨r1, 0, none⟩ (.int .i64 h_.At), .cell ⟨r1, 1, none⟩ (.int .i64 h_.Gen)]) ⟨H.cell 0 rfl rfl, H.cell 4 rfl rfl, H.cell 4 rfl rfl, trivial⟩ fun a hE => ?_
  refine WQ.act2 5 9 (by kernel_rfl) ?_ ?_
  ·refine AQ.eff (j := 5) (obs := []) hE rfl rfl rfl rfl (by kernel_rfl) (OpTo.fn hE rfl rfl Tryz.call122 (pool_Pool_slots_heap_Get_ok et_1 H.t1)) ?_
   rintro _ w ⟨rfl, H⟩
   refine ⟨trivial, fun a hE => ?_⟩
   refine WQ.d0 hE [6, 7, 8] [(18, .agg #[.int .i64 t_1.1.kind, .int .i64 t_1.1.root, .int .i64 t_1.1.n]), (19, .int .i64 t_1.2)] fun a hE => ?_
   refine WQ.eff (j := 9) (obs := []) hE (by kernel_rfl) rfl rfl rfl rfl (by kernel_rfl) (OpTo.new hE H [] (.cells #[.int .i64 0, .int .i64 0, .int .i64 0] 191 (0, 0)) (fun r => .pointer (some ⟨r, 0, none⟩)) (obs := []) rfl (fun _ => by kernel_rfl) trivial) ?_
   rintro _ w ⟨r4, rfl, H⟩
   refine ⟨trivial, fun a hE => ?_⟩
   refine WQ.eff0 (j := 10) (obs := []) hE (by kernel_rfl) rfl rfl rfl (by kernel_rfl) (OpTo.store hE H rfl rfl rfl rfl rfl rfl (Nat.le_of_ble_eq_true rfl)) ?_
   rintro _ w H
   refine ⟨trivial, fun a hE => ?_⟩
   refine WQ.d0 hE [11] [(10, .int .i64 t_1.2)] fun a hE => ?_
   refine WQ.done (by kernel_rfl) ?_
   replace H := slots_Table.shut al_t_ (t_) H.t4.t4.t3.t4
   exact hk _ _ ⟨r4, hE.sel [0, 2, 3, 5, 9, 10] (by kernel_rfl), H.t2.t2⟩
  ·refine AQ.eff (j := 9) (obs := [.cell ⟨r1, 0, none⟩ (.int .i64 h_.At), .cell ⟨r1, 1, none⟩ (.int .i64 h_.Gen), .cell ⟨p_t_, 0, none⟩ (.pointer (some ⟨al_t_.heaps_p, 0, none⟩))]) hE rfl rfl rfl rfl (by kernel_rfl) (OpTo.new hE H [] (.cells #[.int .i64 0, .int .i64 0, .int .i64 0] 191 (0, 0)) (fun r => .pointer (some ⟨r, 0, none⟩)) (obs := []) rfl (fun _ => by kernel_rfl) trivial) ?_
   rintro _ w ⟨r5, rfl, H⟩
   refine ⟨⟨H.cell 5 rfl rfl, H.cell 5 rfl rfl, H.cell 1 rfl rfl, trivial⟩, fun a hE => ?_⟩
   refine WQ.eff (j := 5) (obs := []) hE (by kernel_rfl) rfl rfl rfl rfl (by kernel_rfl) (OpTo.fn hE rfl rfl Tryz.call122 (pool_Pool_slots_heap_Get_ok et_1 H.t2)) ?_
   rintro _ w ⟨rfl, H⟩
   refine ⟨trivial, fun a hE => ?_⟩
   refine WQ.d0 hE [6, 7, 8] [(18, .agg #[.int .i64 t_1.1.kind, .int .i64 t_1.1.root, .int .i64 t_1.1.n]), (19, .int .i64 t_1.2)] fun a hE => ?_
   refine WQ.eff0 (j := 10) (obs := []) hE (by kernel_rfl) rfl rfl rfl (by kernel_rfl) (OpTo.store hE H.t1 rfl rfl rfl rfl rfl rfl (Nat.le_of_ble_eq_true rfl)) ?_
   rintro _ w H
   refine ⟨trivial, fun a hE => ?_⟩
   refine WQ.d0 hE [11] [(10, .int .i64 t_1.2)] fun a hE => ?_
   refine WQ.done (by kernel_rfl) ?_
   replace H := slots_Table.shut al_t_ (t_) H.t4.t4.t3.t4
   exact hk _ _ ⟨r5, hE.sel [0, 2, 3, 5, 9, 10] (by kernel_rfl), H.t2.t2⟩
 rintro a w ⟨r3, hE, H⟩
 refine Runs.seq ?_
 refine Runs.sr ?_
 refine WR.seg hE 2 [] [0, 2, 3, 5, 9, 10, 21] (Lo := [(0, .pointer (some ⟨p_t_, 0, none⟩)), (2, .int .i64 r), (3, .int .i64 n), (5, .pointer (some ⟨r1, 0, none⟩)), (9, .pointer (some ⟨r3, 0, none⟩)), (10, .int .i64 t_1.2), (21, .bool (t_1.2 == 0))]) (obs := []) rfl (by kernel_rfl) trivial fun a hE => ?_
 refine WR.done rfl ?_
 obtain ⟨s, es, hm⟩ := bind_some hm
 refine Runs.join (fun a w => EnvOk 34 a [(10, .int .i64 t_1.2)] ∧ St w0 (slots_Table.R p_t_ al_t_ s :: As) w) (fun hk => ?_) ?_
 ·replace hm := es; clear es
  refine Runs.cond hE rfl (fun c => ?_) (fun c => ?_)
  ·replace hm := cond_t c hm
   refine Runs.sr ?_
   refine WR.d0 hE 3 [(22, .int .i64 r), (23, .int .i64 n), (24, .pointer (some ⟨r3, 1, none⟩))] fun a hE => ?_
   refine WR.eff0 hE rfl rfl rfl (OpTo.store hE H rfl rfl rfl rfl rfl rfl (Nat.le_of_ble_eq_true rfl)) ?_
   rintro _ w H a hE
   refine WR.d0 hE 5 [(25, .pointer (some ⟨r3, 2, none⟩))] fun a hE => ?_
   refine WR.eff0 hE rfl rfl rfl (OpTo.store hE H rfl rfl rfl rfl rfl rfl (Nat.le_of_ble_eq_true rfl)) ?_
   rintro _ w H a hE
   refine WR.done rfl ?_
   refine Runs.drawn mixed (by kernel_rfl) ?_
   replace H := H.drew
   replace H := slots_Table.open H.t2
   refine WQ.d hE [0, 1, 2, 3, 4, 5] [.pointer (some ⟨al_t_.heaps_p, 0, none⟩), .int .i64 h_.At, .int .i64 h_.Gen, .int .i64 t_1.1.kind, .int .i64 r, .int .i64 n] [(29, .pointer (some ⟨al_t_.heaps_p, 0, none⟩)), (30, .agg #[.int .i64 h_.At, .int .i64 h_.Gen]), (31, .agg #[.int .i64 t_1.1.kind, .int .i64 r, .int .i64 n])] (obs := [.cell ⟨p_t_, 0, none⟩ (.pointer (some ⟨al_t_.heaps_p, 0, none⟩)), .cell ⟨r1, 0, none⟩ (.int .i64 h_.At), .cell ⟨r1, 1, none⟩ (.int .i64 h_.Gen), .cell ⟨r3, 0, none⟩ (.int .i64 t_1.1.kind), .cell ⟨r3, 1, none⟩ (.int .i64 r), .cell ⟨r3, 2, none⟩ (.int .i64 n)]) ⟨H.cell 0 rfl rfl, H.cell 5 rfl rfl, H.cell 5 rfl rfl, H.cell 4 rfl rfl, H.cell 4 rfl rfl, H.cell 4 rfl rfl, trivial⟩ fun a hE => ?_
   obtain ⟨t_2, et_2, hm⟩ := bind_some hm
   have hC_ := pool_Pool_slots_heap_Set_ok et_2 H.t1
   try dsimp only at hC_
   refine WQ.eff (j := 6) (obs := []) hE (by kernel_rfl) rfl rfl rfl rfl (by kernel_rfl) (OpTo.fn hE rfl rfl Tryz.call150 hC_) ?_
   rintro _ w ⟨rfl, H⟩
   refine ⟨trivial, fun a hE => ?_⟩
   refine WQ.done (by kernel_rfl) ?_
   replace H := slots_Table.shut al_t_ (slots_Table.mk t_2.2 t_.items t_.at_) H.t3.t3.t2.t3
   cases hm
   exact hk _ _ ⟨hE.sel [10] (by kernel_rfl), H.x2.x1⟩
  ·replace hm := cond_f c hm
   refine Runs.skip ?_
   cases hm
   exact hk _ _ ⟨hE.sel [10] (by kernel_rfl), H.x1.x0⟩
 rintro a w ⟨hE, H⟩
 refine Runs.sr ?_
 refine WR.seg hE 2 [] [8] (Lo := [(8, .int .i64 t_1.2)]) (obs := []) rfl (by kernel_rfl) trivial fun a hE => ?_
 refine WR.done rfl ?_
 refine Runs.ret hE Tryz.func110 rfl rfl ?_
 cases hm
 exact ⟨rfl, H⟩

theorem pq_Queues_gone_ok {w0 w : World} {As : List HP} {p_q : Nat} {al_q : pq_Queues.A} {q : pq_Queues} {i : api_Ref} {t : api_Entry}  (hm : pq_Queues_gone q i = some t) (H : St w0 (pq_Queues.R p_q al_q q :: As) w) :
    CallsR Tryz.prog 114 #[.pointer (some ⟨p_q, 0, none⟩), .agg #[.int .i64 i.At, .int .i64 i.Gen]] w fun v w' => v = .agg #[.int .i64 t.Key, .int .i64 t.Serial] ∧ St w0 (pq_Queues.R p_q al_q q :: As) w' := by
  rw [pq_Queues_gone] at hm
  cases hm

theorem pq_Queues_min_ok {w0 w : World} {As : List HP} {p_q : Nat} {al_q : pq_Queues.A} {q : pq_Queues} {h_ : api_Ref} {out : Bool} {t : api_Answer × pq_Queues}  (hm : pq_Queues_min q h_ out = some t) (H : St w0 (pq_Queues.R p_q al_q q :: As) w) :
    CallsR Tryz.prog 78 #[.pointer (some ⟨p_q, 0, none⟩), .agg #[.int .i64 h_.At, .int .i64 h_.Gen], .bool out] w fun v w' => v = .agg #[.int .i64 t.1.Why, .int .i64 t.1.Heap.At, .int .i64 t.1.Heap.Gen, .int .i64 t.1.Item.At, .int .i64 t.1.Item.Gen, .int .i64 t.1.Entry.Key, .int .i64 t.1.Entry.Serial, .int .i64 t.1.N] ∧ St w0 (pq_Queues.R p_q al_q t.2 :: As) w' := by
 rw [pq_Queues_min] at hm
 refine enter (args := [.pointer (some ⟨p_q, 0, none⟩), .agg #[.int .i64 h_.At, .int .i64 h_.Gen], .bool out]) Tryz.func78 rfl rfl rfl fun a hE => ?_
 refine Runs.sr ?_
 refine WR.eff hE rfl rfl rfl rfl (OpTo.new hE H [] (.cells #[.int .i64 h_.At, .int .i64 h_.Gen] 31 (0, 0)) (fun r => .pointer (some ⟨r, 0, none⟩)) (obs := []) rfl (fun _ => by kernel_rfl) trivial) ?_
 rintro _ w ⟨r, rfl, H⟩ a hE
 refine WR.eff hE rfl rfl rfl rfl (OpTo.new hE H [] (.cells #[.int .i64 0, .int .i64 0, .int .i64 0, .int .i64 0, .int .i64 0, .int .i64 0, .int .i64 0, .int .i64 0] 127 (0, 0)) (fun r => .pointer (some ⟨r, 0, none⟩)) (obs := []) rfl (fun _ => by kernel_rfl) trivial) ?_
 rintro _ w ⟨r1, rfl, H⟩ a hE
 refine WR.done rfl ?_
 refine Runs.seq ?_
 refine Runs.drawn mixed (by kernel_rfl) ?_
 replace H := H.drew
 replace H := pq_Queues.open H.t2
 refine WQ.seg hE [0, 1, 2, 3, 4] [.pointer (some ⟨al_q.t__p, 0, none⟩), .int .i64 h_.At, .int .i64 h_.Gen] [0, 2, 4, 6, 20, 21] (Lo := [(0, .pointer (some ⟨p_q, 0, none⟩)), (2, .bool out), (4, .pointer (some ⟨r, 0, none⟩)), (6, .pointer (some ⟨r1, 0, none⟩)), (20, .pointer (some ⟨al_q.t__p, 0, none⟩)), (21, .agg #[.int .i64 h_.At, .int .i64 h_.Gen])]) (obs := [.cell ⟨p_q, 2, none⟩ (.pointer (some ⟨al_q.t__p, 0, none⟩)), .cell ⟨r, 0, none⟩ (.int .i64 h_.At), .cell ⟨r, 1, none⟩ (.int .i64 h_.Gen)]) (by kernel_rfl) (by kernel_rfl) ⟨H.cell 0 rfl rfl, H.cell 5 rfl rfl, H.cell 5 rfl rfl, trivial⟩ fun a hE => ?_
 obtain ⟨t_, et_, hm⟩ := bind_some hm
 refine WQ.eff (j := 5) (obs := []) hE (by kernel_rfl) rfl rfl rfl rfl (by kernel_rfl) (OpTo.fn hE rfl rfl Tryz.call82 (slots_Table_Heap_ok et_ H.t2)) ?_
 rintro _ w ⟨rfl, H⟩
 refine ⟨trivial, fun a hE => ?_⟩
 refine WQ.d0 hE [6, 7, 8, 9, 10, 11, 12, 13, 14] [(7, .int .i64 t_.1), (8, .int .i64 t_.2.1), (9, .int .i64 t_.2.2.1), (10, .int .i64 t_.2.2.2)] fun a hE => ?_
 refine WQ.done (by kernel_rfl) ?_
 refine Runs.seq ?_
 refine Runs.block ?_
 refine Runs.sr ?_
 refine WR.e0 hE [(27, .bool (t_.2.2.2 != 0))] fun a hE => ?_
 refine Runs.cond hE rfl (fun c => ?_) (fun c => ?_)
 ·replace hm := cond_t c hm
  refine Runs.sr ?_
  refine WR.d0 hE 1 [(30, .int .i64 t_.2.2.2)] fun a hE => ?_
  obtain ⟨t_1, et_1, hm⟩ := bind_some hm
  refine WR.eff hE rfl rfl rfl rfl (OpTo.fn hE rfl rfl Tryz.call84 (pq_refused_ok et_1 H)) ?_
  rintro _ w ⟨rfl, H⟩ a hE
  refine WR.eff0 hE rfl rfl rfl (OpTo.store hE H.t4 rfl rfl rfl rfl rfl rfl (Nat.le_of_ble_eq_true rfl)) ?_
  rintro _ w H a hE
  refine WR.done rfl ?_
  refine Runs.retO (vs := [.agg #[.int .i64 t_1.Why, .int .i64 t_1.Heap.At, .int .i64 t_1.Heap.Gen, .int .i64 t_1.Item.At, .int .i64 t_1.Item.Gen, .int .i64 t_1.Entry.Key, .int .i64 t_1.Entry.Serial, .int .i64 t_1.N]]) (obs := [.cell ⟨r1, 0, none⟩ (.int .i64 t_1.Why), .cell ⟨r1, 1, none⟩ (.int .i64 t_1.Heap.At), .cell ⟨r1, 2, none⟩ (.int .i64 t_1.Heap.Gen), .cell ⟨r1, 3, none⟩ (.int .i64 t_1.Item.At), .cell ⟨r1, 4, none⟩ (.int .i64 t_1.Item.Gen), .cell ⟨r1, 5, none⟩ (.int .i64 t_1.Entry.Key), .cell ⟨r1, 6, none⟩ (.int .i64 t_1.Entry.Serial), .cell ⟨r1, 7, none⟩ (.int .i64 t_1.N)]) hE Tryz.func78 rfl [.int .i64 t_1.Why, .int .i64 t_1.Heap.At, .int .i64 t_1.Heap.Gen, .int .i64 t_1.Item.At, .int .i64 t_1.Item.Gen, .int .i64 t_1.Entry.Key, .int .i64 t_1.Entry.Serial, .int .i64 t_1.N] (by kernel_rfl) ⟨H.cell 0 rfl rfl, H.cell 0 rfl rfl, H.cell 0 rfl rfl, H.cell 0 rfl rfl, H.cell 0 rfl rfl, H.cell 0 rfl rfl, H.cell 0 rfl rfl, H.cell 0 rfl rfl, trivial⟩ ?_
  replace H := pq_Queues.shut al_q (q) H.t4.t2.t4.t4
  cases hm
  exact ⟨rfl, H.x2.x1⟩
 ·replace hm := cond_f c hm
  refine Runs.sr ?_
  refine WR.e0 hE [(32, .bool (t_.2.2.1 == 0))] fun a hE => ?_
  refine Runs.cond hE rfl (fun c => ?_) (fun c => ?_)
  ·replace hm := cond_t c hm
   refine Runs.sr ?_
   obtain ⟨t_2, et_2, hm⟩ := bind_some hm
   refine WR.eff hE rfl rfl rfl rfl (OpTo.fn hE rfl rfl Tryz.call84 (pq_refused_ok et_2 H)) ?_
   rintro _ w ⟨rfl, H⟩ a hE
   refine WR.eff0 hE rfl rfl rfl (OpTo.store hE H.t4 rfl rfl rfl rfl rfl rfl (Nat.le_of_ble_eq_true rfl)) ?_
   rintro _ w H a hE
   refine WR.done rfl ?_
   refine Runs.retO (vs := [.agg #[.int .i64 t_2.Why, .int .i64 t_2.Heap.At, .int .i64 t_2.Heap.Gen, .int .i64 t_2.Item.At, .int .i64 t_2.Item.Gen, .int .i64 t_2.Entry.Key, .int .i64 t_2.Entry.Serial, .int .i64 t_2.N]]) (obs := [.cell ⟨r1, 0, none⟩ (.int .i64 t_2.Why), .cell ⟨r1, 1, none⟩ (.int .i64 t_2.Heap.At), .cell ⟨r1, 2, none⟩ (.int .i64 t_2.Heap.Gen), .cell ⟨r1, 3, none⟩ (.int .i64 t_2.Item.At), .cell ⟨r1, 4, none⟩ (.int .i64 t_2.Item.Gen), .cell ⟨r1, 5, none⟩ (.int .i64 t_2.Entry.Key), .cell ⟨r1, 6, none⟩ (.int .i64 t_2.Entry.Serial), .cell ⟨r1, 7, none⟩ (.int .i64 t_2.N)]) hE Tryz.func78 rfl [.int .i64 t_2.Why, .int .i64 t_2.Heap.At, .int .i64 t_2.Heap.Gen, .int .i64 t_2.Item.At, .int .i64 t_2.Item.Gen, .int .i64 t_2.Entry.Key, .int .i64 t_2.Entry.Serial, .int .i64 t_2.N] (by kernel_rfl) ⟨H.cell 0 rfl rfl, H.cell 0 rfl rfl, H.cell 0 rfl rfl, H.cell 0 rfl rfl, H.cell 0 rfl rfl, H.cell 0 rfl rfl, H.cell 0 rfl rfl, H.cell 0 rfl rfl, trivial⟩ ?_
   replace H := pq_Queues.shut al_q (q) H.t4.t2.t4.t4
   cases hm
   exact ⟨rfl, H.x2.x1⟩
  ·replace hm := cond_f c hm
   refine Runs.skip ?_
   refine Runs.inBlock ?_
   refine Runs.seq ?_
   refine Runs.sr ?_
   refine WR.e0 hE [(37, .bool (!out))] fun a hE => ?_
   refine Runs.cond hE rfl (fun c => ?_) (fun c => ?_)
   ·replace hm := cond_t c hm
    refine Runs.seq ?_
    replace H := pq_Queues.shut al_q (q) H.t3.t1.t3.t3
    obtain ⟨t_3, et_3, hm⟩ := bind_some hm
    obtain ⟨t_4, et_4, hm⟩ := bind_some hm
    refine Runs.join (fun a w => ∃ (r3 : Nat), EnvOk 94 a [(0, .pointer (some ⟨p_q, 0, none⟩)), (6, .pointer (some ⟨r1, 0, none⟩)), (11, .pointer (some ⟨r3, 0, none⟩))] ∧ St w0 (Blk r3 31 [.int .i64 t_4.1.At, .int .i64 t_4.1.Gen] :: pq_Queues.R p_q al_q q :: Blk r1 127 [.int .i64 0, .int .i64 0, .int .i64 0, .int .i64 0, .int .i64 0, .int .i64 0, .int .i64 0, .int .i64 0] :: As) w) (fun hk => ?_) ?_
    ·refine Runs.drawn mixed (by kernel_rfl) ?_
     replace H := H.drew
     replace H := pq_Queues.open H
     refine WQ.d hE [0, 1, 2, 3, 4, 5, 6, 7, 8, 9] [.pointer (some ⟨al_q.t__p, 0, none⟩), .pointer (some ⟨al_q.a__p, 0, none⟩)] [(42, .pointer (some ⟨al_q.t__p, 0, none⟩)), (43, .int .i64 t_.1), (47, .pointer (some ⟨al_q.a__p, 0, none⟩)), (48, .int .i64 t_.2.1)] (obs := [.cell ⟨p_q, 2, none⟩ (.pointer (some ⟨al_q.t__p, 0, none⟩)), .cell ⟨p_q, 1, none⟩ (.pointer (some ⟨al_q.a__p, 0, none⟩))]) ⟨H.cell 0 rfl rfl, H.cell 0 rfl rfl, trivial⟩ fun a hE => ?_
     refine WQ.act2 10 15 (by kernel_rfl) ?_ ?_
     ·refine AQ.eff (j := 10) (obs := [.cell ⟨p_q, 2, none⟩ (.pointer (some ⟨al_q.t__p, 0, none⟩))]) hE rfl rfl rfl rfl (by kernel_rfl) (OpTo.fn hE rfl rfl Tryz.call112 (kind_Min_ok et_3 H.t1)) ?_
      rintro _ w ⟨rfl, H⟩
      refine ⟨⟨H.cell 1 rfl rfl, trivial⟩, fun a hE => ?_⟩
      refine WQ.act2 11 15 (by kernel_rfl) ?_ ?_
      ·refine AQ.eff (j := 11) (obs := []) hE rfl rfl rfl rfl (by kernel_rfl) (OpTo.fn hE rfl rfl Tryz.call111 (slots_Table_At_ok et_4 H.t2)) ?_
       rintro _ w ⟨rfl, H⟩
       refine ⟨trivial, fun a hE => ?_⟩
       refine WQ.d0 hE [12, 13, 14] [(51, .agg #[.int .i64 t_4.1.At, .int .i64 t_4.1.Gen]), (52, .bool t_4.2)] fun a hE => ?_
       refine WQ.eff (j := 15) (obs := []) hE (by kernel_rfl) rfl rfl rfl rfl (by kernel_rfl) (OpTo.new hE H [] (.cells #[.int .i64 0, .int .i64 0] 31 (0, 0)) (fun r => .pointer (some ⟨r, 0, none⟩)) (obs := []) rfl (fun _ => by kernel_rfl) trivial) ?_
       rintro _ w ⟨r4, rfl, H⟩
       refine ⟨trivial, fun a hE => ?_⟩
       refine WQ.eff0 (j := 16) (obs := []) hE (by kernel_rfl) rfl rfl rfl (by kernel_rfl) (OpTo.store hE H rfl rfl rfl rfl rfl rfl (Nat.le_of_ble_eq_true rfl)) ?_
       rintro _ w H
       refine ⟨trivial, fun a hE => ?_⟩
       refine WQ.d0 hE [17] [] fun a hE => ?_
       refine WQ.done (by kernel_rfl) ?_
       replace H := pq_Queues.shut al_q (q) H.t4.t2.t3.t4
       exact hk _ _ ⟨r4, hE.sel [0, 6, 11] (by kernel_rfl), H.x3.t2.t1.t2⟩
      ·refine AQ.eff (j := 15) (obs := [.cell ⟨p_q, 2, none⟩ (.pointer (some ⟨al_q.t__p, 0, none⟩))]) hE rfl rfl rfl rfl (by kernel_rfl) (OpTo.new hE H [] (.cells #[.int .i64 0, .int .i64 0] 31 (0, 0)) (fun r => .pointer (some ⟨r, 0, none⟩)) (obs := []) rfl (fun _ => by kernel_rfl) trivial) ?_
       rintro _ w ⟨r5, rfl, H⟩
       refine ⟨⟨H.cell 2 rfl rfl, trivial⟩, fun a hE => ?_⟩
       refine WQ.eff (j := 11) (obs := []) hE (by kernel_rfl) rfl rfl rfl rfl (by kernel_rfl) (OpTo.fn hE rfl rfl Tryz.call111 (slots_Table_At_ok et_4 H.t3)) ?_
       rintro _ w ⟨rfl, H⟩
       refine ⟨trivial, fun a hE => ?_⟩
       refine WQ.d0 hE [12, 13, 14] [(51, .agg #[.int .i64 t_4.1.At, .int .i64 t_4.1.Gen]), (52, .bool t_4.2)] fun a hE => ?_
       refine WQ.eff0 (j := 16) (obs := []) hE (by kernel_rfl) rfl rfl rfl (by kernel_rfl) (OpTo.store hE H.t1 rfl rfl rfl rfl rfl rfl (Nat.le_of_ble_eq_true rfl)) ?_
       rintro _ w H
       refine ⟨trivial, fun a hE => ?_⟩
       refine WQ.d0 hE [17] [] fun a hE => ?_
       refine WQ.done (by kernel_rfl) ?_
       replace H := pq_Queues.shut al_q (q) H.t4.t2.t3.t4
       exact hk _ _ ⟨r5, hE.sel [0, 6, 11] (by kernel_rfl), H.x3.t2.t1.t2⟩
     ·refine AQ.eff (j := 15) (obs := [.cell ⟨p_q, 1, none⟩ (.pointer (some ⟨al_q.a__p, 0, none⟩)), .cell ⟨p_q, 2, none⟩ (.pointer (some ⟨al_q.t__p, 0, none⟩))]) hE rfl rfl rfl rfl (by kernel_rfl) (OpTo.new hE H [] (.cells #[.int .i64 0, .int .i64 0] 31 (0, 0)) (fun r => .pointer (some ⟨r, 0, none⟩)) (obs := []) rfl (fun _ => by kernel_rfl) trivial) ?_
      rintro _ w ⟨r6, rfl, H⟩
      refine ⟨⟨H.cell 1 rfl rfl, H.cell 1 rfl rfl, trivial⟩, fun a hE => ?_⟩
      refine WQ.eff (j := 10) (obs := [.cell ⟨p_q, 2, none⟩ (.pointer (some ⟨al_q.t__p, 0, none⟩))]) hE (by kernel_rfl) rfl rfl rfl rfl (by kernel_rfl) (OpTo.fn hE rfl rfl Tryz.call112 (kind_Min_ok et_3 H.t2)) ?_
      rintro _ w ⟨rfl, H⟩
      refine ⟨⟨H.cell 2 rfl rfl, trivial⟩, fun a hE => ?_⟩
      refine WQ.eff (j := 11) (obs := []) hE (by kernel_rfl) rfl rfl rfl rfl (by kernel_rfl) (OpTo.fn hE rfl rfl Tryz.call111 (slots_Table_At_ok et_4 H.t3)) ?_
      rintro _ w ⟨rfl, H⟩
      refine ⟨trivial, fun a hE => ?_⟩
      refine WQ.d0 hE [12, 13, 14] [(51, .agg #[.int .i64 t_4.1.At, .int .i64 t_4.1.Gen]), (52, .bool t_4.2)] fun a hE => ?_
      refine WQ.eff0 (j := 16) (obs := []) hE (by kernel_rfl) rfl rfl rfl (by kernel_rfl) (OpTo.store hE H.t2 rfl rfl rfl rfl rfl rfl (Nat.le_of_ble_eq_true rfl)) ?_
      rintro _ w H
      refine ⟨trivial, fun a hE => ?_⟩
      refine WQ.d0 hE [17] [] fun a hE => ?_
      refine WQ.done (by kernel_rfl) ?_
      replace H := pq_Queues.shut al_q (q) H.t4.t2.t3.t4
      exact hk _ _ ⟨r6, hE.sel [0, 6, 11] (by kernel_rfl), H.x3.t2.t1.t2⟩
    rintro a w ⟨r3, hE, H⟩
    refine Runs.seq ?_
    refine Runs.drawn mixed (by kernel_rfl) ?_
    replace H := H.drew
    replace H := pq_Queues.open H.t1
    refine WQ.seg hE [0, 1, 2, 3, 4, 5] [.int .i64 t_4.1.At, .int .i64 t_4.1.Gen, .map (some al_q.entries_p), .int .i64 t_4.1.At, .int .i64 t_4.1.Gen] [6, 53, 57, 58] (Lo := [(6, .pointer (some ⟨r1, 0, none⟩)), (53, .agg #[.int .i64 t_4.1.At, .int .i64 t_4.1.Gen]), (57, .map (some al_q.entries_p)), (58, .agg #[.int .i64 t_4.1.At, .int .i64 t_4.1.Gen])]) (obs := [.cell ⟨r3, 0, none⟩ (.int .i64 t_4.1.At), .cell ⟨r3, 1, none⟩ (.int .i64 t_4.1.Gen), .cell ⟨p_q, 3, none⟩ (.map (some al_q.entries_p)), .cell ⟨r3, 0, none⟩ (.int .i64 t_4.1.At), .cell ⟨r3, 1, none⟩ (.int .i64 t_4.1.Gen)]) (by kernel_rfl) (by kernel_rfl) ⟨H.cell 4 rfl rfl, H.cell 4 rfl rfl, H.cell 0 rfl rfl, H.cell 4 rfl rfl, H.cell 4 rfl rfl, trivial⟩ fun a hE => ?_
    obtain ⟨x, ex, hm⟩ := bind_some hm
    refine WQ.eff (j := 6) (obs := [.cell ⟨r3, 0, none⟩ (.int .i64 t_4.1.At), .cell ⟨r3, 1, none⟩ (.int .i64 t_4.1.Gen)]) hE (by kernel_rfl) rfl rfl rfl rfl (by kernel_rfl) (OpTo.mpGet 3 hE H rfl api_Ref.key_ok ex rfl rfl rfl rfl rfl rfl) ?_
    rintro _ _ ⟨rfl, rfl⟩
    refine ⟨⟨H.cell 4 rfl rfl, H.cell 4 rfl rfl, trivial⟩, fun a hE => ?_⟩
    refine WQ.d0 hE [7] [(60, .agg #[.int .i64 0, .int .i64 0, .int .i64 0, .int .i64 t_4.1.At, .int .i64 t_4.1.Gen, .int .i64 x.1.Key, .int .i64 x.1.Serial, .int .i64 0])] fun a hE => ?_
    refine WQ.eff0 (j := 8) (obs := []) hE (by kernel_rfl) rfl rfl rfl (by kernel_rfl) (OpTo.store hE H.t5 rfl rfl rfl rfl rfl rfl (Nat.le_of_ble_eq_true rfl)) ?_
    rintro _ w H
    refine ⟨trivial, fun a hE => ?_⟩
    refine WQ.done (by kernel_rfl) ?_
    refine Runs.retO (vs := [.agg #[.int .i64 0, .int .i64 0, .int .i64 0, .int .i64 t_4.1.At, .int .i64 t_4.1.Gen, .int .i64 x.1.Key, .int .i64 x.1.Serial, .int .i64 0]]) (obs := [.cell ⟨r1, 0, none⟩ (.int .i64 0), .cell ⟨r1, 1, none⟩ (.int .i64 0), .cell ⟨r1, 2, none⟩ (.int .i64 0), .cell ⟨r1, 3, none⟩ (.int .i64 t_4.1.At), .cell ⟨r1, 4, none⟩ (.int .i64 t_4.1.Gen), .cell ⟨r1, 5, none⟩ (.int .i64 x.1.Key), .cell ⟨r1, 6, none⟩ (.int .i64 x.1.Serial), .cell ⟨r1, 7, none⟩ (.int .i64 0)]) hE Tryz.func78 rfl [.int .i64 0, .int .i64 0, .int .i64 0, .int .i64 t_4.1.At, .int .i64 t_4.1.Gen, .int .i64 x.1.Key, .int .i64 x.1.Serial, .int .i64 0] (by kernel_rfl) ⟨H.cell 0 rfl rfl, H.cell 0 rfl rfl, H.cell 0 rfl rfl, H.cell 0 rfl rfl, H.cell 0 rfl rfl, H.cell 0 rfl rfl, H.cell 0 rfl rfl, H.cell 0 rfl rfl, trivial⟩ ?_
    replace H := pq_Queues.shut al_q (q) H.t4.t4.t4.t4
    cases hm
    exact ⟨rfl, H.x2.x1⟩
   ·replace hm := cond_f c hm
    refine Runs.skip ?_
    refine Runs.sr ?_
    refine WR.d hE 6 [.pointer (some ⟨al_q.a__p, 0, none⟩)] [(62, .int .i64 t_.1), (66, .pointer (some ⟨al_q.a__p, 0, none⟩)), (67, .int .i64 t_.2.1)] (obs := [.cell ⟨p_q, 1, none⟩ (.pointer (some ⟨al_q.a__p, 0, none⟩))]) ⟨H.cell 1 rfl rfl, trivial⟩ fun a hE => ?_
    obtain ⟨t_5, et_5, hm⟩ := bind_some hm
    refine WR.eff hE rfl rfl rfl rfl (OpTo.fn hE rfl rfl Tryz.call113 (kind_Pop_ok et_5 H.t2)) ?_
    rintro _ w ⟨rfl, H⟩ a hE
    refine WR.e0 hE [(8, .int .i64 t_5.1), (13, .int .i64 t_5.2)] fun a hE => ?_
    refine Runs.sr ?_
    refine WR.d hE 5 [.pointer (some ⟨al_q.t__p, 0, none⟩)] [(75, .pointer (some ⟨al_q.t__p, 0, none⟩)), (76, .int .i64 t_5.2)] (obs := [.cell ⟨p_q, 2, none⟩ (.pointer (some ⟨al_q.t__p, 0, none⟩))]) ⟨H.cell 2 rfl rfl, trivial⟩ fun a hE => ?_
    obtain ⟨t_6, et_6, hm⟩ := bind_some hm
    refine WR.eff hE rfl rfl rfl rfl (OpTo.fn hE rfl rfl Tryz.call111 (slots_Table_At_ok et_6 H.t1)) ?_
    rintro _ w ⟨rfl, H⟩ a hE
    refine WR.d0 hE 9 [(78, .agg #[.int .i64 t_6.1.At, .int .i64 t_6.1.Gen]), (79, .bool t_6.2)] fun a hE => ?_
    refine WR.eff hE rfl rfl rfl rfl (OpTo.new hE H [] (.cells #[.int .i64 0, .int .i64 0] 31 (0, 0)) (fun r => .pointer (some ⟨r, 0, none⟩)) (obs := []) rfl (fun _ => by kernel_rfl) trivial) ?_
    rintro _ w ⟨r7, rfl, H⟩ a hE
    refine WR.eff0 hE rfl rfl rfl (OpTo.store hE H rfl rfl rfl rfl rfl rfl (Nat.le_of_ble_eq_true rfl)) ?_
    rintro _ w H a hE
    refine WR.e0 hE [] fun a hE => ?_
    refine Runs.seq ?_
    refine Runs.drawn mixed (by kernel_rfl) ?_
    replace H := H.drew
    refine WQ.d hE [0, 1, 2, 3, 4, 5, 6, 7] [.pointer (some ⟨al_q.t__p, 0, none⟩), .int .i64 h_.At, .int .i64 h_.Gen] [(83, .pointer (some ⟨al_q.t__p, 0, none⟩)), (84, .agg #[.int .i64 h_.At, .int .i64 h_.Gen]), (85, .int .i64 t_5.1), (87, .int .i64 (w64 (t_.2.2.1 - 1)))] (obs := [.cell ⟨p_q, 2, none⟩ (.pointer (some ⟨al_q.t__p, 0, none⟩)), .cell ⟨r, 0, none⟩ (.int .i64 h_.At), .cell ⟨r, 1, none⟩ (.int .i64 h_.Gen)]) ⟨H.cell 3 rfl rfl, H.cell 6 rfl rfl, H.cell 6 rfl rfl, trivial⟩ fun a hE => ?_
    obtain ⟨t_7, et_7, hm⟩ := bind_some hm
    refine WQ.eff (j := 8) (obs := []) hE (by kernel_rfl) rfl rfl rfl rfl (by kernel_rfl) (OpTo.fn hE rfl rfl Tryz.call110 (slots_Table_Root_ok et_7 H.t1)) ?_
    rintro _ w ⟨rfl, H⟩
    refine ⟨trivial, fun a hE => ?_⟩
    refine WQ.done (by kernel_rfl) ?_
    refine Runs.seq ?_
    refine Runs.drawn mixed (by kernel_rfl) ?_
    replace H := H.drew
    refine WQ.d hE [0, 1, 2] [.int .i64 t_6.1.At, .int .i64 t_6.1.Gen, .int .i64 t_6.1.At, .int .i64 t_6.1.Gen] [(89, .agg #[.int .i64 t_6.1.At, .int .i64 t_6.1.Gen]), (90, .pointer (some ⟨p_q, 0, none⟩)), (91, .agg #[.int .i64 t_6.1.At, .int .i64 t_6.1.Gen])] (obs := [.cell ⟨r7, 0, none⟩ (.int .i64 t_6.1.At), .cell ⟨r7, 1, none⟩ (.int .i64 t_6.1.Gen), .cell ⟨r7, 0, none⟩ (.int .i64 t_6.1.At), .cell ⟨r7, 1, none⟩ (.int .i64 t_6.1.Gen)]) ⟨H.cell 1 rfl rfl, H.cell 1 rfl rfl, H.cell 1 rfl rfl, H.cell 1 rfl rfl, trivial⟩ fun a hE => ?_
    replace H := pq_Queues.shut al_q (pq_Queues.mk q.items q.a_ t_7.2 q.entries q.serial) H.t4.t1.t3.t4
    obtain ⟨t_8, et_8, hm⟩ := bind_some hm
    refine WQ.eff (j := 3) (obs := [.cell ⟨r7, 0, none⟩ (.int .i64 t_6.1.At), .cell ⟨r7, 1, none⟩ (.int .i64 t_6.1.Gen)]) hE (by kernel_rfl) rfl rfl rfl rfl (by kernel_rfl) (OpTo.fn hE rfl rfl Tryz.call114 (pq_Queues_gone_ok et_8 H)) ?_
    rintro _ w ⟨rfl, H⟩
    refine ⟨⟨H.cell 1 rfl rfl, H.cell 1 rfl rfl, trivial⟩, fun a hE => ?_⟩
    refine WQ.d0 hE [4] [(93, .agg #[.int .i64 0, .int .i64 0, .int .i64 0, .int .i64 t_6.1.At, .int .i64 t_6.1.Gen, .int .i64 t_8.Key, .int .i64 t_8.Serial, .int .i64 0])] fun a hE => ?_
    refine WQ.eff0 (j := 5) (obs := []) hE (by kernel_rfl) rfl rfl rfl (by kernel_rfl) (OpTo.store hE H.t2 rfl rfl rfl rfl rfl rfl (Nat.le_of_ble_eq_true rfl)) ?_
    rintro _ w H
    refine ⟨trivial, fun a hE => ?_⟩
    refine WQ.done (by kernel_rfl) ?_
    refine Runs.retO (vs := [.agg #[.int .i64 0, .int .i64 0, .int .i64 0, .int .i64 t_6.1.At, .int .i64 t_6.1.Gen, .int .i64 t_8.Key, .int .i64 t_8.Serial, .int .i64 0]]) (obs := [.cell ⟨r1, 0, none⟩ (.int .i64 0), .cell ⟨r1, 1, none⟩ (.int .i64 0), .cell ⟨r1, 2, none⟩ (.int .i64 0), .cell ⟨r1, 3, none⟩ (.int .i64 t_6.1.At), .cell ⟨r1, 4, none⟩ (.int .i64 t_6.1.Gen), .cell ⟨r1, 5, none⟩ (.int .i64 t_8.Key), .cell ⟨r1, 6, none⟩ (.int .i64 t_8.Serial), .cell ⟨r1, 7, none⟩ (.int .i64 0)]) hE Tryz.func78 rfl [.int .i64 0, .int .i64 0, .int .i64 0, .int .i64 t_6.1.At, .int .i64 t_6.1.Gen, .int .i64 t_8.Key, .int .i64 t_8.Serial, .int .i64 0] (by kernel_rfl) ⟨H.cell 0 rfl rfl, H.cell 0 rfl rfl, H.cell 0 rfl rfl, H.cell 0 rfl rfl, H.cell 0 rfl rfl, H.cell 0 rfl rfl, H.cell 0 rfl rfl, H.cell 0 rfl rfl, trivial⟩ ?_
    cases hm
    exact ⟨rfl, H.x3.x2.x0⟩

theorem pq_Queues_decrease_ok {w0 w : World} {As : List HP} {p_q : Nat} {al_q : pq_Queues.A} {q : pq_Queues} {c_ : api_Call} {t : api_Answer}  (hm : pq_Queues_decrease q c_ = some t) (H : St w0 (pq_Queues.R p_q al_q q :: As) w) :
    CallsR Tryz.prog 79 #[.pointer (some ⟨p_q, 0, none⟩), .agg #[.int .i64 c_.Op, .int .i64 c_.Kind, .int .i64 c_.Heap.At, .int .i64 c_.Heap.Gen, .int .i64 c_.Other.At, .int .i64 c_.Other.Gen, .int .i64 c_.Item.At, .int .i64 c_.Item.Gen, .int .i64 c_.Key]] w fun v w' => v = .agg #[.int .i64 t.Why, .int .i64 t.Heap.At, .int .i64 t.Heap.Gen, .int .i64 t.Item.At, .int .i64 t.Item.Gen, .int .i64 t.Entry.Key, .int .i64 t.Entry.Serial, .int .i64 t.N] ∧ St w0 (pq_Queues.R p_q al_q q :: As) w' := by
  rw [pq_Queues_decrease] at hm
  cases hm

theorem pq_Queues_remove_ok {w0 w : World} {As : List HP} {p_q : Nat} {al_q : pq_Queues.A} {q : pq_Queues} {i : api_Ref} {t : api_Answer}  (hm : pq_Queues_remove q i = some t) (H : St w0 (pq_Queues.R p_q al_q q :: As) w) :
    CallsR Tryz.prog 80 #[.pointer (some ⟨p_q, 0, none⟩), .agg #[.int .i64 i.At, .int .i64 i.Gen]] w fun v w' => v = .agg #[.int .i64 t.Why, .int .i64 t.Heap.At, .int .i64 t.Heap.Gen, .int .i64 t.Item.At, .int .i64 t.Item.Gen, .int .i64 t.Entry.Key, .int .i64 t.Entry.Serial, .int .i64 t.N] ∧ St w0 (pq_Queues.R p_q al_q q :: As) w' := by
  rw [pq_Queues_remove] at hm
  cases hm

theorem pq_Queues_meld_ok {w0 w : World} {As : List HP} {p_q : Nat} {al_q : pq_Queues.A} {q : pq_Queues} {h_ : api_Ref} {o : api_Ref} {t : api_Answer}  (hm : pq_Queues_meld q h_ o = some t) (H : St w0 (pq_Queues.R p_q al_q q :: As) w) :
    CallsR Tryz.prog 81 #[.pointer (some ⟨p_q, 0, none⟩), .agg #[.int .i64 h_.At, .int .i64 h_.Gen], .agg #[.int .i64 o.At, .int .i64 o.Gen]] w fun v w' => v = .agg #[.int .i64 t.Why, .int .i64 t.Heap.At, .int .i64 t.Heap.Gen, .int .i64 t.Item.At, .int .i64 t.Item.Gen, .int .i64 t.Entry.Key, .int .i64 t.Entry.Serial, .int .i64 t.N] ∧ St w0 (pq_Queues.R p_q al_q q :: As) w' := by
  rw [pq_Queues_meld] at hm
  cases hm

theorem pq_Queues_destroy_ok {w0 w : World} {As : List HP} {p_q : Nat} {al_q : pq_Queues.A} {q : pq_Queues} {h_ : api_Ref} {t : api_Answer}  (hm : pq_Queues_destroy q h_ = some t) (H : St w0 (pq_Queues.R p_q al_q q :: As) w) :
    CallsR Tryz.prog 83 #[.pointer (some ⟨p_q, 0, none⟩), .agg #[.int .i64 h_.At, .int .i64 h_.Gen]] w fun v w' => v = .agg #[.int .i64 t.Why, .int .i64 t.Heap.At, .int .i64 t.Heap.Gen, .int .i64 t.Item.At, .int .i64 t.Item.Gen, .int .i64 t.Entry.Key, .int .i64 t.Entry.Serial, .int .i64 t.N] ∧ St w0 (pq_Queues.R p_q al_q q :: As) w' := by
  rw [pq_Queues_destroy] at hm
  cases hm

theorem pq_Queues_Do_ok {w0 w : World} {As : List HP} {p_q : Nat} {al_q : pq_Queues.A} {q : pq_Queues} {c_ : api_Call} {t : api_Answer × pq_Queues}  (hm : pq_Queues_Do q c_ = some t) (H : St w0 (pq_Queues.R p_q al_q q :: As) w) :
    CallsR Tryz.prog 56 #[.pointer (some ⟨p_q, 0, none⟩), .agg #[.int .i64 c_.Op, .int .i64 c_.Kind, .int .i64 c_.Heap.At, .int .i64 c_.Heap.Gen, .int .i64 c_.Other.At, .int .i64 c_.Other.Gen, .int .i64 c_.Item.At, .int .i64 c_.Item.Gen, .int .i64 c_.Key]] w fun v w' => ∃ (z_q_t__a : slots_Table.A), v = .agg #[.int .i64 t.1.Why, .int .i64 t.1.Heap.At, .int .i64 t.1.Heap.Gen, .int .i64 t.1.Item.At, .int .i64 t.1.Item.Gen, .int .i64 t.1.Entry.Key, .int .i64 t.1.Entry.Serial, .int .i64 t.1.N] ∧ St w0 (pq_Queues.R p_q (pq_Queues.A.mk al_q.a__p al_q.a__a al_q.t__p z_q_t__a al_q.entries_p) t.2 :: As) w' := by
 rw [pq_Queues_Do] at hm
 refine enter (args := [.pointer (some ⟨p_q, 0, none⟩), .agg #[.int .i64 c_.Op, .int .i64 c_.Kind, .int .i64 c_.Heap.At, .int .i64 c_.Heap.Gen, .int .i64 c_.Other.At, .int .i64 c_.Other.Gen, .int .i64 c_.Item.At, .int .i64 c_.Item.Gen, .int .i64 c_.Key]]) Tryz.func56 rfl rfl rfl fun a hE => ?_
 refine Runs.sr ?_
 refine WR.eff hE rfl rfl rfl rfl (OpTo.new hE H [] (.cells #[.int .i64 c_.Op, .int .i64 c_.Kind, .int .i64 c_.Heap.At, .int .i64 c_.Heap.Gen, .int .i64 c_.Other.At, .int .i64 c_.Other.Gen, .int .i64 c_.Item.At, .int .i64 c_.Item.Gen, .int .i64 c_.Key] 130 (0, 0)) (fun r => .pointer (some ⟨r, 0, none⟩)) (obs := []) rfl (fun _ => by kernel_rfl) trivial) ?_
 rintro _ w ⟨r, rfl, H⟩ a hE
 refine WR.eff hE rfl rfl rfl rfl (OpTo.new hE H [] (.cells #[.int .i64 0, .int .i64 0, .int .i64 0, .int .i64 0, .int .i64 0, .int .i64 0, .int .i64 0, .int .i64 0] 127 (0, 0)) (fun r => .pointer (some ⟨r, 0, none⟩)) (obs := []) rfl (fun _ => by kernel_rfl) trivial) ?_
 rintro _ w ⟨r1, rfl, H⟩ a hE
 refine WR.done rfl ?_
 refine Runs.sr ?_
 replace H := pq_Queues.open H.t2
 refine WR.seg hE 4 [.pointer (some ⟨al_q.a__p, 0, none⟩)] [0, 3, 4, 14] (Lo := [(0, .pointer (some ⟨p_q, 0, none⟩)), (3, .pointer (some ⟨r, 0, none⟩)), (4, .pointer (some ⟨r1, 0, none⟩)), (14, .pointer (some ⟨al_q.a__p, 0, none⟩))]) (obs := [.cell ⟨p_q, 1, none⟩ (.pointer (some ⟨al_q.a__p, 0, none⟩))]) rfl (by kernel_rfl) ⟨H.cell 0 rfl rfl, trivial⟩ fun a hE => ?_
 obtain ⟨t_, et_, hm⟩ := bind_some hm
 refine WR.eff hE rfl rfl rfl rfl (OpTo.fn hE rfl rfl Tryz.call74 (arena_Arena_Meter_ok et_ H.t1)) ?_
 rintro _ w ⟨rfl, H⟩ a hE
 replace H := arena_Arena.open H
 obtain ⟨t_1, et_1, hm⟩ := bind_some hm
 refine WR.eff hE rfl rfl rfl rfl (OpTo.fn hE rfl rfl Tryz.call75 (meter_Meter_Begin_ok et_1 H.t3)) ?_
 rintro _ w ⟨rfl, H⟩ a hE
 refine WR.done rfl ?_
 refine Runs.seq ?_
 refine Runs.sr ?_
 refine WR.e hE [.int .i64 c_.Op] [(18, .int .i64 c_.Op)] (obs := [.cell ⟨r, 0, none⟩ (.int .i64 c_.Op)]) ⟨H.cell 8 rfl rfl, trivial⟩ fun a hE => ?_
 refine Runs.block ?_
 refine Runs.sr ?_
 refine WR.e0 hE [(19, .bool (c_.Op == 1))] fun a hE => ?_
 refine Runs.cond hE rfl (fun c => ?_) (fun c => ?_)
 ·replace hm := cond_t c hm
  refine Runs.seq ?_
  replace H := arena_Arena.shut al_q.a__a (arena_Arena.mk q.a_.l q.a_.never q.a_.free t_1) H.t3.t3.t3
  replace H := pq_Queues.shut al_q (pq_Queues.mk q.items (arena_Arena.mk q.a_.l q.a_.never q.a_.free t_1) q.t_ q.entries q.serial) H.t3.t3.t2.t3
  obtain ⟨t_2, et_2, hm⟩ := bind_some hm
  refine Runs.join (fun a w => ∃ (r3 : Nat), ∃ (z1 : slots_Table.A), EnvOk 94 a [(4, .pointer (some ⟨r1, 0, none⟩)), (5, .pointer (some ⟨r3, 0, none⟩)), (6, .int .i64 t_2.2.1)] ∧ St w0 (Blk r3 31 [.int .i64 t_2.1.At, .int .i64 t_2.1.Gen] :: pq_Queues.R p_q (pq_Queues.A.mk al_q.a__p al_q.a__a al_q.t__p z1 al_q.entries_p) (pq_Queues.mk q.items (arena_Arena.mk q.a_.l q.a_.never q.a_.free t_1) t_2.2.2 q.entries q.serial) :: Blk r1 127 [.int .i64 0, .int .i64 0, .int .i64 0, .int .i64 0, .int .i64 0, .int .i64 0, .int .i64 0, .int .i64 0] :: As) w) (fun hk => ?_) ?_
  ·refine Runs.drawn mixed (by kernel_rfl) ?_
   replace H := H.drew
   replace H := pq_Queues.open H
   try dsimp only at H
   refine WQ.d hE [0, 1, 2, 3, 4, 5] [.pointer (some ⟨al_q.t__p, 0, none⟩), .int .i64 c_.Kind] [(25, .pointer (some ⟨al_q.t__p, 0, none⟩)), (27, .int .i64 c_.Kind)] (obs := [.cell ⟨p_q, 2, none⟩ (.pointer (some ⟨al_q.t__p, 0, none⟩)), .cell ⟨r, 1, none⟩ (.int .i64 c_.Kind)]) ⟨H.cell 0 rfl rfl, H.cell 5 rfl rfl, trivial⟩ fun a hE => ?_
   refine WQ.act2 6 10 (by kernel_rfl) ?_ ?_
   ·refine AQ.eff (j := 6) (obs := []) hE rfl rfl rfl rfl (by kernel_rfl) (OpTo.fn hE rfl rfl Tryz.call76 (slots_Table_Make_ok et_2 H.t2)) ?_
    rintro _ w ⟨z2, rfl, H⟩
    refine ⟨trivial, fun a hE => ?_⟩
    refine WQ.d0 hE [7, 8, 9] [(29, .agg #[.int .i64 t_2.1.At, .int .i64 t_2.1.Gen]), (30, .int .i64 t_2.2.1)] fun a hE => ?_
    refine WQ.eff (j := 10) (obs := []) hE (by kernel_rfl) rfl rfl rfl rfl (by kernel_rfl) (OpTo.new hE H [] (.cells #[.int .i64 0, .int .i64 0] 31 (0, 0)) (fun r => .pointer (some ⟨r, 0, none⟩)) (obs := []) rfl (fun _ => by kernel_rfl) trivial) ?_
    rintro _ w ⟨r4, rfl, H⟩
    refine ⟨trivial, fun a hE => ?_⟩
    refine WQ.eff0 (j := 11) (obs := []) hE (by kernel_rfl) rfl rfl rfl (by kernel_rfl) (OpTo.store hE H rfl rfl rfl rfl rfl rfl (Nat.le_of_ble_eq_true rfl)) ?_
    rintro _ w H
    refine ⟨trivial, fun a hE => ?_⟩
    refine WQ.d0 hE [12] [(6, .int .i64 t_2.2.1)] fun a hE => ?_
    refine WQ.done (by kernel_rfl) ?_
    replace H := pq_Queues.shut (pq_Queues.A.mk al_q.a__p al_q.a__a al_q.t__p (slots_Table.A.mk al_q.t__a.heaps_p z2 al_q.t__a.items_p al_q.t__a.items_a al_q.t__a.at__p) al_q.entries_p) (pq_Queues.mk q.items (arena_Arena.mk q.a_.l q.a_.never q.a_.free t_1) t_2.2.2 q.entries q.serial) H.t4.t2.t4.t4
    exact hk _ _ ⟨r4, slots_Table.A.mk al_q.t__a.heaps_p z2 al_q.t__a.items_p al_q.t__a.items_a al_q.t__a.at__p, hE.sel [4, 5, 6] (by kernel_rfl), H.x3.t2.t1.t2⟩
   ·refine AQ.eff (j := 10) (obs := [.cell ⟨r, 1, none⟩ (.int .i64 c_.Kind), .cell ⟨p_q, 2, none⟩ (.pointer (some ⟨al_q.t__p, 0, none⟩))]) hE rfl rfl rfl rfl (by kernel_rfl) (OpTo.new hE H [] (.cells #[.int .i64 0, .int .i64 0] 31 (0, 0)) (fun r => .pointer (some ⟨r, 0, none⟩)) (obs := []) rfl (fun _ => by kernel_rfl) trivial) ?_
    rintro _ w ⟨r5, rfl, H⟩
    refine ⟨⟨H.cell 6 rfl rfl, H.cell 1 rfl rfl, trivial⟩, fun a hE => ?_⟩
    refine WQ.eff (j := 6) (obs := []) hE (by kernel_rfl) rfl rfl rfl rfl (by kernel_rfl) (OpTo.fn hE rfl rfl Tryz.call76 (slots_Table_Make_ok et_2 H.t3)) ?_
    rintro _ w ⟨z3, rfl, H⟩
    refine ⟨trivial, fun a hE => ?_⟩
    refine WQ.d0 hE [7, 8, 9] [(29, .agg #[.int .i64 t_2.1.At, .int .i64 t_2.1.Gen]), (30, .int .i64 t_2.2.1)] fun a hE => ?_
    refine WQ.eff0 (j := 11) (obs := []) hE (by kernel_rfl) rfl rfl rfl (by kernel_rfl) (OpTo.store hE H.t1 rfl rfl rfl rfl rfl rfl (Nat.le_of_ble_eq_true rfl)) ?_
    rintro _ w H
    refine ⟨trivial, fun a hE => ?_⟩
    refine WQ.d0 hE [12] [(6, .int .i64 t_2.2.1)] fun a hE => ?_
    refine WQ.done (by kernel_rfl) ?_
    replace H := pq_Queues.shut (pq_Queues.A.mk al_q.a__p al_q.a__a al_q.t__p (slots_Table.A.mk al_q.t__a.heaps_p z3 al_q.t__a.items_p al_q.t__a.items_a al_q.t__a.at__p) al_q.entries_p) (pq_Queues.mk q.items (arena_Arena.mk q.a_.l q.a_.never q.a_.free t_1) t_2.2.2 q.entries q.serial) H.t4.t2.t4.t4
    exact hk _ _ ⟨r5, slots_Table.A.mk al_q.t__a.heaps_p z3 al_q.t__a.items_p al_q.t__a.items_a al_q.t__a.at__p, hE.sel [4, 5, 6] (by kernel_rfl), H.x3.t2.t1.t2⟩
  rintro a w ⟨r3, z1, hE, H⟩
  refine Runs.sr ?_
  refine WR.seg hE 3 [.int .i64 t_2.1.At, .int .i64 t_2.1.Gen] [4, 33] (Lo := [(4, .pointer (some ⟨r1, 0, none⟩)), (33, .agg #[.int .i64 t_2.2.1, .int .i64 t_2.1.At, .int .i64 t_2.1.Gen, .int .i64 0, .int .i64 0, .int .i64 0, .int .i64 0, .int .i64 0])]) (obs := [.cell ⟨r3, 0, none⟩ (.int .i64 t_2.1.At), .cell ⟨r3, 1, none⟩ (.int .i64 t_2.1.Gen)]) rfl (by kernel_rfl) ⟨H.cell 0 rfl rfl, H.cell 0 rfl rfl, trivial⟩ fun a hE => ?_
  refine WR.eff0 hE rfl rfl rfl (OpTo.store hE H.t2 rfl rfl rfl rfl rfl rfl (Nat.le_of_ble_eq_true rfl)) ?_
  rintro _ w H a hE
  refine WR.done rfl ?_
  refine Runs.retO (vs := [.agg #[.int .i64 t_2.2.1, .int .i64 t_2.1.At, .int .i64 t_2.1.Gen, .int .i64 0, .int .i64 0, .int .i64 0, .int .i64 0, .int .i64 0]]) (obs := [.cell ⟨r1, 0, none⟩ (.int .i64 t_2.2.1), .cell ⟨r1, 1, none⟩ (.int .i64 t_2.1.At), .cell ⟨r1, 2, none⟩ (.int .i64 t_2.1.Gen), .cell ⟨r1, 3, none⟩ (.int .i64 0), .cell ⟨r1, 4, none⟩ (.int .i64 0), .cell ⟨r1, 5, none⟩ (.int .i64 0), .cell ⟨r1, 6, none⟩ (.int .i64 0), .cell ⟨r1, 7, none⟩ (.int .i64 0)]) hE Tryz.func56 rfl [.int .i64 t_2.2.1, .int .i64 t_2.1.At, .int .i64 t_2.1.Gen, .int .i64 0, .int .i64 0, .int .i64 0, .int .i64 0, .int .i64 0] (by kernel_rfl) ⟨H.cell 0 rfl rfl, H.cell 0 rfl rfl, H.cell 0 rfl rfl, H.cell 0 rfl rfl, H.cell 0 rfl rfl, H.cell 0 rfl rfl, H.cell 0 rfl rfl, H.cell 0 rfl rfl, trivial⟩ ?_
  cases hm
  exact ⟨z1, rfl, H.x1.x0⟩
 ·replace hm := cond_f c hm
  refine Runs.sr ?_
  refine WR.e0 hE [(34, .bool (c_.Op == 2))] fun a hE => ?_
  refine Runs.cond hE rfl (fun c => ?_) (fun c => ?_)
  ·replace hm := cond_t c hm
   refine Runs.sr ?_
   refine WR.d hE 2 [.int .i64 c_.Op, .int .i64 c_.Kind, .int .i64 c_.Heap.At, .int .i64 c_.Heap.Gen, .int .i64 c_.Other.At, .int .i64 c_.Other.Gen, .int .i64 c_.Item.At, .int .i64 c_.Item.Gen, .int .i64 c_.Key] [(36, .pointer (some ⟨p_q, 0, none⟩)), (37, .agg #[.int .i64 c_.Op, .int .i64 c_.Kind, .int .i64 c_.Heap.At, .int .i64 c_.Heap.Gen, .int .i64 c_.Other.At, .int .i64 c_.Other.Gen, .int .i64 c_.Item.At, .int .i64 c_.Item.Gen, .int .i64 c_.Key])] (obs := [.cell ⟨r, 0, none⟩ (.int .i64 c_.Op), .cell ⟨r, 1, none⟩ (.int .i64 c_.Kind), .cell ⟨r, 2, none⟩ (.int .i64 c_.Heap.At), .cell ⟨r, 3, none⟩ (.int .i64 c_.Heap.Gen), .cell ⟨r, 4, none⟩ (.int .i64 c_.Other.At), .cell ⟨r, 5, none⟩ (.int .i64 c_.Other.Gen), .cell ⟨r, 6, none⟩ (.int .i64 c_.Item.At), .cell ⟨r, 7, none⟩ (.int .i64 c_.Item.Gen), .cell ⟨r, 8, none⟩ (.int .i64 c_.Key)]) ⟨H.cell 8 rfl rfl, H.cell 8 rfl rfl, H.cell 8 rfl rfl, H.cell 8 rfl rfl, H.cell 8 rfl rfl, H.cell 8 rfl rfl, H.cell 8 rfl rfl, H.cell 8 rfl rfl, H.cell 8 rfl rfl, trivial⟩ fun a hE => ?_
   replace H := arena_Arena.shut al_q.a__a (arena_Arena.mk q.a_.l q.a_.never q.a_.free t_1) H.t3.t3.t3
   replace H := pq_Queues.shut al_q (pq_Queues.mk q.items (arena_Arena.mk q.a_.l q.a_.never q.a_.free t_1) q.t_ q.entries q.serial) H.t3.t3.t2.t3
   obtain ⟨t_3, et_3, hm⟩ := bind_some hm
   refine WR.eff hE rfl rfl rfl rfl (OpTo.fn hE rfl rfl Tryz.call77 (pq_Queues_insert_ok et_3 H)) ?_
   rintro _ w ⟨rfl, H⟩ a hE
   refine WR.eff0 hE rfl rfl rfl (OpTo.store hE H.t1 rfl rfl rfl rfl rfl rfl (Nat.le_of_ble_eq_true rfl)) ?_
   rintro _ w H a hE
   refine WR.done rfl ?_
   refine Runs.retO (vs := [.agg #[.int .i64 t_3.Why, .int .i64 t_3.Heap.At, .int .i64 t_3.Heap.Gen, .int .i64 t_3.Item.At, .int .i64 t_3.Item.Gen, .int .i64 t_3.Entry.Key, .int .i64 t_3.Entry.Serial, .int .i64 t_3.N]]) (obs := [.cell ⟨r1, 0, none⟩ (.int .i64 t_3.Why), .cell ⟨r1, 1, none⟩ (.int .i64 t_3.Heap.At), .cell ⟨r1, 2, none⟩ (.int .i64 t_3.Heap.Gen), .cell ⟨r1, 3, none⟩ (.int .i64 t_3.Item.At), .cell ⟨r1, 4, none⟩ (.int .i64 t_3.Item.Gen), .cell ⟨r1, 5, none⟩ (.int .i64 t_3.Entry.Key), .cell ⟨r1, 6, none⟩ (.int .i64 t_3.Entry.Serial), .cell ⟨r1, 7, none⟩ (.int .i64 t_3.N)]) hE Tryz.func56 rfl [.int .i64 t_3.Why, .int .i64 t_3.Heap.At, .int .i64 t_3.Heap.Gen, .int .i64 t_3.Item.At, .int .i64 t_3.Item.Gen, .int .i64 t_3.Entry.Key, .int .i64 t_3.Entry.Serial, .int .i64 t_3.N] (by kernel_rfl) ⟨H.cell 0 rfl rfl, H.cell 0 rfl rfl, H.cell 0 rfl rfl, H.cell 0 rfl rfl, H.cell 0 rfl rfl, H.cell 0 rfl rfl, H.cell 0 rfl rfl, H.cell 0 rfl rfl, trivial⟩ ?_
   cases hm
   exact ⟨al_q.t__a, rfl, H.x2.x0⟩
  ·replace hm := cond_f c hm
   refine Runs.sr ?_
   refine WR.e0 hE [(39, .bool (c_.Op == 3))] fun a hE => ?_
   refine Runs.cond hE rfl (fun c => ?_) (fun c => ?_)
   ·replace hm := cond_t c hm
    refine Runs.sr ?_
    refine WR.d hE 3 [.int .i64 c_.Heap.At, .int .i64 c_.Heap.Gen] [(41, .pointer (some ⟨p_q, 0, none⟩)), (43, .agg #[.int .i64 c_.Heap.At, .int .i64 c_.Heap.Gen])] (obs := [.cell ⟨r, 2, none⟩ (.int .i64 c_.Heap.At), .cell ⟨r, 3, none⟩ (.int .i64 c_.Heap.Gen)]) ⟨H.cell 8 rfl rfl, H.cell 8 rfl rfl, trivial⟩ fun a hE => ?_
    replace H := arena_Arena.shut al_q.a__a (arena_Arena.mk q.a_.l q.a_.never q.a_.free t_1) H.t3.t3.t3
    replace H := pq_Queues.shut al_q (pq_Queues.mk q.items (arena_Arena.mk q.a_.l q.a_.never q.a_.free t_1) q.t_ q.entries q.serial) H.t3.t3.t2.t3
    obtain ⟨t_4, et_4, hm⟩ := bind_some hm
    refine WR.eff hE rfl rfl rfl rfl (OpTo.fn hE rfl rfl Tryz.call78 (pq_Queues_min_ok et_4 H)) ?_
    rintro _ w ⟨rfl, H⟩ a hE
    refine WR.eff0 hE rfl rfl rfl (OpTo.store hE H.t1 rfl rfl rfl rfl rfl rfl (Nat.le_of_ble_eq_true rfl)) ?_
    rintro _ w H a hE
    refine WR.done rfl ?_
    refine Runs.retO (vs := [.agg #[.int .i64 t_4.1.Why, .int .i64 t_4.1.Heap.At, .int .i64 t_4.1.Heap.Gen, .int .i64 t_4.1.Item.At, .int .i64 t_4.1.Item.Gen, .int .i64 t_4.1.Entry.Key, .int .i64 t_4.1.Entry.Serial, .int .i64 t_4.1.N]]) (obs := [.cell ⟨r1, 0, none⟩ (.int .i64 t_4.1.Why), .cell ⟨r1, 1, none⟩ (.int .i64 t_4.1.Heap.At), .cell ⟨r1, 2, none⟩ (.int .i64 t_4.1.Heap.Gen), .cell ⟨r1, 3, none⟩ (.int .i64 t_4.1.Item.At), .cell ⟨r1, 4, none⟩ (.int .i64 t_4.1.Item.Gen), .cell ⟨r1, 5, none⟩ (.int .i64 t_4.1.Entry.Key), .cell ⟨r1, 6, none⟩ (.int .i64 t_4.1.Entry.Serial), .cell ⟨r1, 7, none⟩ (.int .i64 t_4.1.N)]) hE Tryz.func56 rfl [.int .i64 t_4.1.Why, .int .i64 t_4.1.Heap.At, .int .i64 t_4.1.Heap.Gen, .int .i64 t_4.1.Item.At, .int .i64 t_4.1.Item.Gen, .int .i64 t_4.1.Entry.Key, .int .i64 t_4.1.Entry.Serial, .int .i64 t_4.1.N] (by kernel_rfl) ⟨H.cell 0 rfl rfl, H.cell 0 rfl rfl, H.cell 0 rfl rfl, H.cell 0 rfl rfl, H.cell 0 rfl rfl, H.cell 0 rfl rfl, H.cell 0 rfl rfl, H.cell 0 rfl rfl, trivial⟩ ?_
    cases hm
    exact ⟨al_q.t__a, rfl, H.x2.x0⟩
   ·replace hm := cond_f c hm
    refine Runs.sr ?_
    refine WR.e0 hE [(45, .bool (c_.Op == 4))] fun a hE => ?_
    refine Runs.cond hE rfl (fun c => ?_) (fun c => ?_)
    ·replace hm := cond_t c hm
     refine Runs.sr ?_
     refine WR.d hE 3 [.int .i64 c_.Heap.At, .int .i64 c_.Heap.Gen] [(47, .pointer (some ⟨p_q, 0, none⟩)), (49, .agg #[.int .i64 c_.Heap.At, .int .i64 c_.Heap.Gen])] (obs := [.cell ⟨r, 2, none⟩ (.int .i64 c_.Heap.At), .cell ⟨r, 3, none⟩ (.int .i64 c_.Heap.Gen)]) ⟨H.cell 8 rfl rfl, H.cell 8 rfl rfl, trivial⟩ fun a hE => ?_
     replace H := arena_Arena.shut al_q.a__a (arena_Arena.mk q.a_.l q.a_.never q.a_.free t_1) H.t3.t3.t3
     replace H := pq_Queues.shut al_q (pq_Queues.mk q.items (arena_Arena.mk q.a_.l q.a_.never q.a_.free t_1) q.t_ q.entries q.serial) H.t3.t3.t2.t3
     obtain ⟨t_5, et_5, hm⟩ := bind_some hm
     refine WR.eff hE rfl rfl rfl rfl (OpTo.fn hE rfl rfl Tryz.call78 (pq_Queues_min_ok et_5 H)) ?_
     rintro _ w ⟨rfl, H⟩ a hE
     refine WR.eff0 hE rfl rfl rfl (OpTo.store hE H.t1 rfl rfl rfl rfl rfl rfl (Nat.le_of_ble_eq_true rfl)) ?_
     rintro _ w H a hE
     refine WR.done rfl ?_
     refine Runs.retO (vs := [.agg #[.int .i64 t_5.1.Why, .int .i64 t_5.1.Heap.At, .int .i64 t_5.1.Heap.Gen, .int .i64 t_5.1.Item.At, .int .i64 t_5.1.Item.Gen, .int .i64 t_5.1.Entry.Key, .int .i64 t_5.1.Entry.Serial, .int .i64 t_5.1.N]]) (obs := [.cell ⟨r1, 0, none⟩ (.int .i64 t_5.1.Why), .cell ⟨r1, 1, none⟩ (.int .i64 t_5.1.Heap.At), .cell ⟨r1, 2, none⟩ (.int .i64 t_5.1.Heap.Gen), .cell ⟨r1, 3, none⟩ (.int .i64 t_5.1.Item.At), .cell ⟨r1, 4, none⟩ (.int .i64 t_5.1.Item.Gen), .cell ⟨r1, 5, none⟩ (.int .i64 t_5.1.Entry.Key), .cell ⟨r1, 6, none⟩ (.int .i64 t_5.1.Entry.Serial), .cell ⟨r1, 7, none⟩ (.int .i64 t_5.1.N)]) hE Tryz.func56 rfl [.int .i64 t_5.1.Why, .int .i64 t_5.1.Heap.At, .int .i64 t_5.1.Heap.Gen, .int .i64 t_5.1.Item.At, .int .i64 t_5.1.Item.Gen, .int .i64 t_5.1.Entry.Key, .int .i64 t_5.1.Entry.Serial, .int .i64 t_5.1.N] (by kernel_rfl) ⟨H.cell 0 rfl rfl, H.cell 0 rfl rfl, H.cell 0 rfl rfl, H.cell 0 rfl rfl, H.cell 0 rfl rfl, H.cell 0 rfl rfl, H.cell 0 rfl rfl, H.cell 0 rfl rfl, trivial⟩ ?_
     cases hm
     exact ⟨al_q.t__a, rfl, H.x2.x0⟩
    ·replace hm := cond_f c hm
     refine Runs.sr ?_
     refine WR.e0 hE [(51, .bool (c_.Op == 5))] fun a hE => ?_
     refine Runs.cond hE rfl (fun c => ?_) (fun c => ?_)
     ·replace hm := cond_t c hm
      refine Runs.sr ?_
      refine WR.d hE 2 [.int .i64 c_.Op, .int .i64 c_.Kind, .int .i64 c_.Heap.At, .int .i64 c_.Heap.Gen, .int .i64 c_.Other.At, .int .i64 c_.Other.Gen, .int .i64 c_.Item.At, .int .i64 c_.Item.Gen, .int .i64 c_.Key] [(53, .pointer (some ⟨p_q, 0, none⟩)), (54, .agg #[.int .i64 c_.Op, .int .i64 c_.Kind, .int .i64 c_.Heap.At, .int .i64 c_.Heap.Gen, .int .i64 c_.Other.At, .int .i64 c_.Other.Gen, .int .i64 c_.Item.At, .int .i64 c_.Item.Gen, .int .i64 c_.Key])] (obs := [.cell ⟨r, 0, none⟩ (.int .i64 c_.Op), .cell ⟨r, 1, none⟩ (.int .i64 c_.Kind), .cell ⟨r, 2, none⟩ (.int .i64 c_.Heap.At), .cell ⟨r, 3, none⟩ (.int .i64 c_.Heap.Gen), .cell ⟨r, 4, none⟩ (.int .i64 c_.Other.At), .cell ⟨r, 5, none⟩ (.int .i64 c_.Other.Gen), .cell ⟨r, 6, none⟩ (.int .i64 c_.Item.At), .cell ⟨r, 7, none⟩ (.int .i64 c_.Item.Gen), .cell ⟨r, 8, none⟩ (.int .i64 c_.Key)]) ⟨H.cell 8 rfl rfl, H.cell 8 rfl rfl, H.cell 8 rfl rfl, H.cell 8 rfl rfl, H.cell 8 rfl rfl, H.cell 8 rfl rfl, H.cell 8 rfl rfl, H.cell 8 rfl rfl, H.cell 8 rfl rfl, trivial⟩ fun a hE => ?_
      replace H := arena_Arena.shut al_q.a__a (arena_Arena.mk q.a_.l q.a_.never q.a_.free t_1) H.t3.t3.t3
      replace H := pq_Queues.shut al_q (pq_Queues.mk q.items (arena_Arena.mk q.a_.l q.a_.never q.a_.free t_1) q.t_ q.entries q.serial) H.t3.t3.t2.t3
      obtain ⟨t_6, et_6, hm⟩ := bind_some hm
      refine WR.eff hE rfl rfl rfl rfl (OpTo.fn hE rfl rfl Tryz.call79 (pq_Queues_decrease_ok et_6 H)) ?_
      rintro _ w ⟨rfl, H⟩ a hE
      refine WR.eff0 hE rfl rfl rfl (OpTo.store hE H.t1 rfl rfl rfl rfl rfl rfl (Nat.le_of_ble_eq_true rfl)) ?_
      rintro _ w H a hE
      refine WR.done rfl ?_
      refine Runs.retO (vs := [.agg #[.int .i64 t_6.Why, .int .i64 t_6.Heap.At, .int .i64 t_6.Heap.Gen, .int .i64 t_6.Item.At, .int .i64 t_6.Item.Gen, .int .i64 t_6.Entry.Key, .int .i64 t_6.Entry.Serial, .int .i64 t_6.N]]) (obs := [.cell ⟨r1, 0, none⟩ (.int .i64 t_6.Why), .cell ⟨r1, 1, none⟩ (.int .i64 t_6.Heap.At), .cell ⟨r1, 2, none⟩ (.int .i64 t_6.Heap.Gen), .cell ⟨r1, 3, none⟩ (.int .i64 t_6.Item.At), .cell ⟨r1, 4, none⟩ (.int .i64 t_6.Item.Gen), .cell ⟨r1, 5, none⟩ (.int .i64 t_6.Entry.Key), .cell ⟨r1, 6, none⟩ (.int .i64 t_6.Entry.Serial), .cell ⟨r1, 7, none⟩ (.int .i64 t_6.N)]) hE Tryz.func56 rfl [.int .i64 t_6.Why, .int .i64 t_6.Heap.At, .int .i64 t_6.Heap.Gen, .int .i64 t_6.Item.At, .int .i64 t_6.Item.Gen, .int .i64 t_6.Entry.Key, .int .i64 t_6.Entry.Serial, .int .i64 t_6.N] (by kernel_rfl) ⟨H.cell 0 rfl rfl, H.cell 0 rfl rfl, H.cell 0 rfl rfl, H.cell 0 rfl rfl, H.cell 0 rfl rfl, H.cell 0 rfl rfl, H.cell 0 rfl rfl, H.cell 0 rfl rfl, trivial⟩ ?_
      cases hm
      exact ⟨al_q.t__a, rfl, H.x2.x0⟩
     ·replace hm := cond_f c hm
      refine Runs.sr ?_
      refine WR.e0 hE [(56, .bool (c_.Op == 6))] fun a hE => ?_
      refine Runs.cond hE rfl (fun c => ?_) (fun c => ?_)
      ·replace hm := cond_t c hm
       refine Runs.sr ?_
       refine WR.d hE 3 [.int .i64 c_.Item.At, .int .i64 c_.Item.Gen] [(58, .pointer (some ⟨p_q, 0, none⟩)), (60, .agg #[.int .i64 c_.Item.At, .int .i64 c_.Item.Gen])] (obs := [.cell ⟨r, 6, none⟩ (.int .i64 c_.Item.At), .cell ⟨r, 7, none⟩ (.int .i64 c_.Item.Gen)]) ⟨H.cell 8 rfl rfl, H.cell 8 rfl rfl, trivial⟩ fun a hE => ?_
       replace H := arena_Arena.shut al_q.a__a (arena_Arena.mk q.a_.l q.a_.never q.a_.free t_1) H.t3.t3.t3
       replace H := pq_Queues.shut al_q (pq_Queues.mk q.items (arena_Arena.mk q.a_.l q.a_.never q.a_.free t_1) q.t_ q.entries q.serial) H.t3.t3.t2.t3
       obtain ⟨t_7, et_7, hm⟩ := bind_some hm
       refine WR.eff hE rfl rfl rfl rfl (OpTo.fn hE rfl rfl Tryz.call80 (pq_Queues_remove_ok et_7 H)) ?_
       rintro _ w ⟨rfl, H⟩ a hE
       refine WR.eff0 hE rfl rfl rfl (OpTo.store hE H.t1 rfl rfl rfl rfl rfl rfl (Nat.le_of_ble_eq_true rfl)) ?_
       rintro _ w H a hE
       refine WR.done rfl ?_
       refine Runs.retO (vs := [.agg #[.int .i64 t_7.Why, .int .i64 t_7.Heap.At, .int .i64 t_7.Heap.Gen, .int .i64 t_7.Item.At, .int .i64 t_7.Item.Gen, .int .i64 t_7.Entry.Key, .int .i64 t_7.Entry.Serial, .int .i64 t_7.N]]) (obs := [.cell ⟨r1, 0, none⟩ (.int .i64 t_7.Why), .cell ⟨r1, 1, none⟩ (.int .i64 t_7.Heap.At), .cell ⟨r1, 2, none⟩ (.int .i64 t_7.Heap.Gen), .cell ⟨r1, 3, none⟩ (.int .i64 t_7.Item.At), .cell ⟨r1, 4, none⟩ (.int .i64 t_7.Item.Gen), .cell ⟨r1, 5, none⟩ (.int .i64 t_7.Entry.Key), .cell ⟨r1, 6, none⟩ (.int .i64 t_7.Entry.Serial), .cell ⟨r1, 7, none⟩ (.int .i64 t_7.N)]) hE Tryz.func56 rfl [.int .i64 t_7.Why, .int .i64 t_7.Heap.At, .int .i64 t_7.Heap.Gen, .int .i64 t_7.Item.At, .int .i64 t_7.Item.Gen, .int .i64 t_7.Entry.Key, .int .i64 t_7.Entry.Serial, .int .i64 t_7.N] (by kernel_rfl) ⟨H.cell 0 rfl rfl, H.cell 0 rfl rfl, H.cell 0 rfl rfl, H.cell 0 rfl rfl, H.cell 0 rfl rfl, H.cell 0 rfl rfl, H.cell 0 rfl rfl, H.cell 0 rfl rfl, trivial⟩ ?_
       cases hm
       exact ⟨al_q.t__a, rfl, H.x2.x0⟩
      ·replace hm := cond_f c hm
       refine Runs.sr ?_
       refine WR.e0 hE [(62, .bool (c_.Op == 7))] fun a hE => ?_
       refine Runs.cond hE rfl (fun c => ?_) (fun c => ?_)
       ·replace hm := cond_t c hm
        refine Runs.sr ?_
        refine WR.d hE 5 [.int .i64 c_.Heap.At, .int .i64 c_.Heap.Gen, .int .i64 c_.Other.At, .int .i64 c_.Other.Gen] [(64, .pointer (some ⟨p_q, 0, none⟩)), (66, .agg #[.int .i64 c_.Heap.At, .int .i64 c_.Heap.Gen]), (68, .agg #[.int .i64 c_.Other.At, .int .i64 c_.Other.Gen])] (obs := [.cell ⟨r, 2, none⟩ (.int .i64 c_.Heap.At), .cell ⟨r, 3, none⟩ (.int .i64 c_.Heap.Gen), .cell ⟨r, 4, none⟩ (.int .i64 c_.Other.At), .cell ⟨r, 5, none⟩ (.int .i64 c_.Other.Gen)]) ⟨H.cell 8 rfl rfl, H.cell 8 rfl rfl, H.cell 8 rfl rfl, H.cell 8 rfl rfl, trivial⟩ fun a hE => ?_
        replace H := arena_Arena.shut al_q.a__a (arena_Arena.mk q.a_.l q.a_.never q.a_.free t_1) H.t3.t3.t3
        replace H := pq_Queues.shut al_q (pq_Queues.mk q.items (arena_Arena.mk q.a_.l q.a_.never q.a_.free t_1) q.t_ q.entries q.serial) H.t3.t3.t2.t3
        obtain ⟨t_8, et_8, hm⟩ := bind_some hm
        refine WR.eff hE rfl rfl rfl rfl (OpTo.fn hE rfl rfl Tryz.call81 (pq_Queues_meld_ok et_8 H)) ?_
        rintro _ w ⟨rfl, H⟩ a hE
        refine WR.eff0 hE rfl rfl rfl (OpTo.store hE H.t1 rfl rfl rfl rfl rfl rfl (Nat.le_of_ble_eq_true rfl)) ?_
        rintro _ w H a hE
        refine WR.done rfl ?_
        refine Runs.retO (vs := [.agg #[.int .i64 t_8.Why, .int .i64 t_8.Heap.At, .int .i64 t_8.Heap.Gen, .int .i64 t_8.Item.At, .int .i64 t_8.Item.Gen, .int .i64 t_8.Entry.Key, .int .i64 t_8.Entry.Serial, .int .i64 t_8.N]]) (obs := [.cell ⟨r1, 0, none⟩ (.int .i64 t_8.Why), .cell ⟨r1, 1, none⟩ (.int .i64 t_8.Heap.At), .cell ⟨r1, 2, none⟩ (.int .i64 t_8.Heap.Gen), .cell ⟨r1, 3, none⟩ (.int .i64 t_8.Item.At), .cell ⟨r1, 4, none⟩ (.int .i64 t_8.Item.Gen), .cell ⟨r1, 5, none⟩ (.int .i64 t_8.Entry.Key), .cell ⟨r1, 6, none⟩ (.int .i64 t_8.Entry.Serial), .cell ⟨r1, 7, none⟩ (.int .i64 t_8.N)]) hE Tryz.func56 rfl [.int .i64 t_8.Why, .int .i64 t_8.Heap.At, .int .i64 t_8.Heap.Gen, .int .i64 t_8.Item.At, .int .i64 t_8.Item.Gen, .int .i64 t_8.Entry.Key, .int .i64 t_8.Entry.Serial, .int .i64 t_8.N] (by kernel_rfl) ⟨H.cell 0 rfl rfl, H.cell 0 rfl rfl, H.cell 0 rfl rfl, H.cell 0 rfl rfl, H.cell 0 rfl rfl, H.cell 0 rfl rfl, H.cell 0 rfl rfl, H.cell 0 rfl rfl, trivial⟩ ?_
        cases hm
        exact ⟨al_q.t__a, rfl, H.x2.x0⟩
       ·replace hm := cond_f c hm
        refine Runs.sr ?_
        refine WR.e0 hE [(70, .bool (c_.Op == 8))] fun a hE => ?_
        refine Runs.cond hE rfl (fun c => ?_) (fun c => ?_)
        ·replace hm := cond_t c hm
         refine Runs.seq ?_
         refine Runs.drawn mixed (by kernel_rfl) ?_
         replace H := H.drew
         refine WQ.d hE [0, 1, 2, 3, 4, 5] [.pointer (some ⟨al_q.t__p, 0, none⟩), .int .i64 c_.Heap.At, .int .i64 c_.Heap.Gen] [(76, .pointer (some ⟨al_q.t__p, 0, none⟩)), (78, .agg #[.int .i64 c_.Heap.At, .int .i64 c_.Heap.Gen])] (obs := [.cell ⟨p_q, 2, none⟩ (.pointer (some ⟨al_q.t__p, 0, none⟩)), .cell ⟨r, 2, none⟩ (.int .i64 c_.Heap.At), .cell ⟨r, 3, none⟩ (.int .i64 c_.Heap.Gen)]) ⟨H.cell 4 rfl rfl, H.cell 8 rfl rfl, H.cell 8 rfl rfl, trivial⟩ fun a hE => ?_
         obtain ⟨t_9, et_9, hm⟩ := bind_some hm
         refine WQ.eff (j := 6) (obs := []) hE (by kernel_rfl) rfl rfl rfl rfl (by kernel_rfl) (OpTo.fn hE rfl rfl Tryz.call82 (slots_Table_Heap_ok et_9 H.t5)) ?_
         rintro _ w ⟨rfl, H⟩
         refine ⟨trivial, fun a hE => ?_⟩
         refine WQ.d0 hE [7, 8, 9, 10, 11, 12, 13, 14, 15] [(9, .int .i64 t_9.2.2.1), (10, .int .i64 t_9.2.2.2)] fun a hE => ?_
         refine WQ.done (by kernel_rfl) ?_
         refine Runs.sr ?_
         refine WR.d0 hE 3 [(86, .agg #[.int .i64 t_9.2.2.2, .int .i64 0, .int .i64 0, .int .i64 0, .int .i64 0, .int .i64 0, .int .i64 0, .int .i64 t_9.2.2.1])] fun a hE => ?_
         refine WR.eff0 hE rfl rfl rfl (OpTo.store hE H.t7 rfl rfl rfl rfl rfl rfl (Nat.le_of_ble_eq_true rfl)) ?_
         rintro _ w H a hE
         refine WR.done rfl ?_
         refine Runs.retO (vs := [.agg #[.int .i64 t_9.2.2.2, .int .i64 0, .int .i64 0, .int .i64 0, .int .i64 0, .int .i64 0, .int .i64 0, .int .i64 t_9.2.2.1]]) (obs := [.cell ⟨r1, 0, none⟩ (.int .i64 t_9.2.2.2), .cell ⟨r1, 1, none⟩ (.int .i64 0), .cell ⟨r1, 2, none⟩ (.int .i64 0), .cell ⟨r1, 3, none⟩ (.int .i64 0), .cell ⟨r1, 4, none⟩ (.int .i64 0), .cell ⟨r1, 5, none⟩ (.int .i64 0), .cell ⟨r1, 6, none⟩ (.int .i64 0), .cell ⟨r1, 7, none⟩ (.int .i64 t_9.2.2.1)]) hE Tryz.func56 rfl [.int .i64 t_9.2.2.2, .int .i64 0, .int .i64 0, .int .i64 0, .int .i64 0, .int .i64 0, .int .i64 0, .int .i64 t_9.2.2.1] (by kernel_rfl) ⟨H.cell 0 rfl rfl, H.cell 0 rfl rfl, H.cell 0 rfl rfl, H.cell 0 rfl rfl, H.cell 0 rfl rfl, H.cell 0 rfl rfl, H.cell 0 rfl rfl, H.cell 0 rfl rfl, trivial⟩ ?_
         replace H := arena_Arena.shut al_q.a__a (arena_Arena.mk q.a_.l q.a_.never q.a_.free t_1) H.t2.t5.t5.t5
         replace H := pq_Queues.shut al_q (pq_Queues.mk q.items (arena_Arena.mk q.a_.l q.a_.never q.a_.free t_1) q.t_ q.entries q.serial) H.t4.t3.t2.t4
         cases hm
         exact ⟨al_q.t__a, rfl, H.x2.x1⟩
        ·replace hm := cond_f c hm
         refine Runs.sr ?_
         refine WR.e0 hE [(87, .bool (c_.Op == 9))] fun a hE => ?_
         refine Runs.cond hE rfl (fun c => ?_) (fun c => ?_)
         ·replace hm := cond_t c hm
          refine Runs.sr ?_
          refine WR.d hE 3 [.int .i64 c_.Heap.At, .int .i64 c_.Heap.Gen] [(89, .pointer (some ⟨p_q, 0, none⟩)), (91, .agg #[.int .i64 c_.Heap.At, .int .i64 c_.Heap.Gen])] (obs := [.cell ⟨r, 2, none⟩ (.int .i64 c_.Heap.At), .cell ⟨r, 3, none⟩ (.int .i64 c_.Heap.Gen)]) ⟨H.cell 8 rfl rfl, H.cell 8 rfl rfl, trivial⟩ fun a hE => ?_
          replace H := arena_Arena.shut al_q.a__a (arena_Arena.mk q.a_.l q.a_.never q.a_.free t_1) H.t3.t3.t3
          replace H := pq_Queues.shut al_q (pq_Queues.mk q.items (arena_Arena.mk q.a_.l q.a_.never q.a_.free t_1) q.t_ q.entries q.serial) H.t3.t3.t2.t3
          obtain ⟨t_10, et_10, hm⟩ := bind_some hm
          refine WR.eff hE rfl rfl rfl rfl (OpTo.fn hE rfl rfl Tryz.call83 (pq_Queues_destroy_ok et_10 H)) ?_
          rintro _ w ⟨rfl, H⟩ a hE
          refine WR.eff0 hE rfl rfl rfl (OpTo.store hE H.t1 rfl rfl rfl rfl rfl rfl (Nat.le_of_ble_eq_true rfl)) ?_
          rintro _ w H a hE
          refine WR.done rfl ?_
          refine Runs.retO (vs := [.agg #[.int .i64 t_10.Why, .int .i64 t_10.Heap.At, .int .i64 t_10.Heap.Gen, .int .i64 t_10.Item.At, .int .i64 t_10.Item.Gen, .int .i64 t_10.Entry.Key, .int .i64 t_10.Entry.Serial, .int .i64 t_10.N]]) (obs := [.cell ⟨r1, 0, none⟩ (.int .i64 t_10.Why), .cell ⟨r1, 1, none⟩ (.int .i64 t_10.Heap.At), .cell ⟨r1, 2, none⟩ (.int .i64 t_10.Heap.Gen), .cell ⟨r1, 3, none⟩ (.int .i64 t_10.Item.At), .cell ⟨r1, 4, none⟩ (.int .i64 t_10.Item.Gen), .cell ⟨r1, 5, none⟩ (.int .i64 t_10.Entry.Key), .cell ⟨r1, 6, none⟩ (.int .i64 t_10.Entry.Serial), .cell ⟨r1, 7, none⟩ (.int .i64 t_10.N)]) hE Tryz.func56 rfl [.int .i64 t_10.Why, .int .i64 t_10.Heap.At, .int .i64 t_10.Heap.Gen, .int .i64 t_10.Item.At, .int .i64 t_10.Item.Gen, .int .i64 t_10.Entry.Key, .int .i64 t_10.Entry.Serial, .int .i64 t_10.N] (by kernel_rfl) ⟨H.cell 0 rfl rfl, H.cell 0 rfl rfl, H.cell 0 rfl rfl, H.cell 0 rfl rfl, H.cell 0 rfl rfl, H.cell 0 rfl rfl, H.cell 0 rfl rfl, H.cell 0 rfl rfl, trivial⟩ ?_
          cases hm
          exact ⟨al_q.t__a, rfl, H.x2.x0⟩
         ·replace hm := cond_f c hm
          refine Runs.skip ?_
          refine Runs.inBlock ?_
          refine Runs.sr ?_
          obtain ⟨t_11, et_11, hm⟩ := bind_some hm
          refine WR.eff hE rfl rfl rfl rfl (OpTo.fn hE rfl rfl Tryz.call84 (pq_refused_ok et_11 H)) ?_
          rintro _ w ⟨rfl, H⟩ a hE
          refine WR.eff0 hE rfl rfl rfl (OpTo.store hE H.t7 rfl rfl rfl rfl rfl rfl (Nat.le_of_ble_eq_true rfl)) ?_
          rintro _ w H a hE
          refine WR.done rfl ?_
          refine Runs.retO (vs := [.agg #[.int .i64 t_11.Why, .int .i64 t_11.Heap.At, .int .i64 t_11.Heap.Gen, .int .i64 t_11.Item.At, .int .i64 t_11.Item.Gen, .int .i64 t_11.Entry.Key, .int .i64 t_11.Entry.Serial, .int .i64 t_11.N]]) (obs := [.cell ⟨r1, 0, none⟩ (.int .i64 t_11.Why), .cell ⟨r1, 1, none⟩ (.int .i64 t_11.Heap.At), .cell ⟨r1, 2, none⟩ (.int .i64 t_11.Heap.Gen), .cell ⟨r1, 3, none⟩ (.int .i64 t_11.Item.At), .cell ⟨r1, 4, none⟩ (.int .i64 t_11.Item.Gen), .cell ⟨r1, 5, none⟩ (.int .i64 t_11.Entry.Key), .cell ⟨r1, 6, none⟩ (.int .i64 t_11.Entry.Serial), .cell ⟨r1, 7, none⟩ (.int .i64 t_11.N)]) hE Tryz.func56 rfl [.int .i64 t_11.Why, .int .i64 t_11.Heap.At, .int .i64 t_11.Heap.Gen, .int .i64 t_11.Item.At, .int .i64 t_11.Item.Gen, .int .i64 t_11.Entry.Key, .int .i64 t_11.Entry.Serial, .int .i64 t_11.N] (by kernel_rfl) ⟨H.cell 0 rfl rfl, H.cell 0 rfl rfl, H.cell 0 rfl rfl, H.cell 0 rfl rfl, H.cell 0 rfl rfl, H.cell 0 rfl rfl, H.cell 0 rfl rfl, H.cell 0 rfl rfl, trivial⟩ ?_
          replace H := arena_Arena.shut al_q.a__a (arena_Arena.mk q.a_.l q.a_.never q.a_.free t_1) H.t1.t4.t4.t4
          replace H := pq_Queues.shut al_q (pq_Queues.mk q.items (arena_Arena.mk q.a_.l q.a_.never q.a_.free t_1) q.t_ q.entries q.serial) H.t4.t4.t2.t4
          cases hm
          exact ⟨al_q.t__a, rfl, H.x2.x1⟩

theorem dispatch_New_ok {w0 w : World} {As : List HP} {k : Nat} {k_ : Int} {most : Int} {t : (Option dispatch_Dispatcher) × Int}  (hm : dispatch_New k k_ most = some t) (H : St w0 (As) w) :
    CallsR Tryz.prog 26 #[.int .i64 k_, .int .i64 most] w fun v w' => ∃ (q0 : Nat), ∃ (al0 : dispatch_Dispatcher.A), v = .tuple #[optV q0 t.1, .int .i64 t.2] ∧ St w0 (OptR (dispatch_Dispatcher.R q0 al0) t.1 :: As) w' := by
 rw [dispatch_New] at hm
 refine enter (args := [.int .i64 k_, .int .i64 most]) Tryz.func26 rfl rfl rfl fun a hE => ?_
 refine Runs.sr ?_
 refine WR.seg hE 2 [] [0, 1] (Lo := [(0, .int .i64 k_), (1, .int .i64 most)]) (obs := []) rfl (by kernel_rfl) trivial fun a hE => ?_
 refine WR.done rfl ?_
 refine Runs.seq ?_
 refine Runs.sr ?_
 refine WR.d0 hE 1 [(12, .int .i64 k_)] fun a hE => ?_
 obtain ⟨t_, et_, hm⟩ := bind_some hm
 refine WR.eff hE rfl rfl rfl rfl (OpTo.fn hE rfl rfl Tryz.call51 (kind_Worst_ok et_ H)) ?_
 rintro _ w ⟨rfl, H⟩ a hE
 refine WR.e0 hE [(14, .bool (!t_))] fun a hE => ?_
 refine Runs.cond hE rfl (fun c => ?_) (fun c => ?_)
 ·replace hm := cond_t c hm
  refine Runs.sr ?_
  refine WR.e0 hE [(4, .pointer none), (5, .int .i64 24)] fun a hE => ?_
  refine Runs.ret hE Tryz.func26 rfl rfl ?_
  cases hm
  exact ⟨0, default, rfl, (St.optN H)⟩
 ·replace hm := cond_f c hm
  refine Runs.skip ?_
  refine Runs.sr ?_
  refine WR.d0 hE 2 [(16, .int .i64 k_), (17, .int .i64 most)] fun a hE => ?_
  obtain ⟨t_1, et_1, hm⟩ := bind_some hm
  refine WR.eff hE rfl rfl rfl rfl (OpTo.fn hE rfl rfl Tryz.call52 (bound_Budget_ok et_1 H)) ?_
  rintro _ w ⟨rfl, H⟩ a hE
  refine WR.e0 hE [(6, .int .i64 t_1.1), (7, .bool t_1.2)] fun a hE => ?_
  refine Runs.seq ?_
  refine Runs.sr ?_
  refine WR.e0 hE [(22, .bool (!t_1.2))] fun a hE => ?_
  refine Runs.cond hE rfl (fun c => ?_) (fun c => ?_)
  ·replace hm := cond_t c hm
   refine Runs.sr ?_
   refine WR.e0 hE [(4, .pointer none), (5, .int .i64 1)] fun a hE => ?_
   refine Runs.ret hE Tryz.func26 rfl rfl ?_
   cases hm
   exact ⟨0, default, rfl, (St.optN H)⟩
  ·replace hm := cond_f c hm
   refine Runs.skip ?_
   refine Runs.sr ?_
   refine WR.d0 hE 1 [(24, .int .i64 most)] fun a hE => ?_
   obtain ⟨t_2, et_2, hm⟩ := bind_some hm
   refine WR.eff hE rfl rfl rfl rfl (OpTo.fn hE rfl rfl Tryz.call53 (pq_New_ok et_2 H)) ?_
   rintro _ w ⟨p, al, rfl, H⟩ a hE
   rcases ho : t_2.1 with _ | m_
   ·replace hm := case_n ho hm
    rw [ho] at hE H
    replace H := H.x0
    refine WR.seg hE 7 [] [0, 1, 6, 8] (Lo := [(0, .int .i64 k_), (1, .int .i64 most), (6, .int .i64 t_1.1), (8, .pointer none)]) (obs := []) rfl (by kernel_rfl) trivial fun a hE => ?_
    refine WR.done rfl ?_
    refine Runs.sr ?_
    refine WR.d0 hE 4 [(28, .int .i64 k_), (29, .int .i64 most), (30, .pointer none), (31, .int .i64 most)] fun a hE => ?_
    obtain ⟨t_3, et_3, hm⟩ := bind_some hm
    refine WR.eff hE rfl rfl rfl rfl (OpTo.fn hE rfl rfl Tryz.call54 (jobs_New_ok et_3 H)) ?_
    rintro _ w ⟨p1, al1, rfl, H⟩ a hE
    refine WR.eff hE rfl rfl rfl rfl (OpTo.mpNew api_Ref.val vI hE H rfl) ?_
    rintro _ w ⟨r, rfl, H⟩ a hE
    obtain ⟨t_4, et_4, hm⟩ := bind_some hm
    refine WR.eff hE rfl rfl rfl rfl (OpTo.fn hE rfl rfl Tryz.call55 (clock_New_ok et_4 H)) ?_
    rintro _ w ⟨p2, rfl, H⟩ a hE
    refine WR.d0 hE 9 [(36, .agg #[.int .i64 k_, .int .i64 most, .pointer none, .int .i64 0, .int .i64 0, .int .i64 0, .int .i64 0, .pointer (some ⟨p1, 0, none⟩), .map (some r), .pointer (some ⟨p2, 0, none⟩), .int .i64 t_1.1, .int .i64 0, .int .i64 0])] fun a hE => ?_
    refine WR.eff hE rfl rfl rfl rfl (OpTo.new hE H [] (.cells #[.int .i64 k_, .int .i64 most, .pointer none, .int .i64 0, .int .i64 0, .int .i64 0, .int .i64 0, .pointer (some ⟨p1, 0, none⟩), .map (some r), .pointer (some ⟨p2, 0, none⟩), .int .i64 t_1.1, .int .i64 0, .int .i64 0] 123 (0, 0)) (fun r => .pointer (some ⟨r, 0, none⟩)) (obs := []) rfl (fun _ => by kernel_rfl) trivial) ?_
    rintro _ w ⟨r1, rfl, H⟩ a hE
    refine WR.e0 hE [(10, .pointer (some ⟨r1, 0, none⟩))] fun a hE => ?_
    refine Runs.seq ?_
    refine Runs.sr ?_
    refine WR.e0 hE [(38, .int .i64 0)] fun a hE => ?_
    refine Runs.block ?_
    refine Runs.unroll ?_
    refine Runs.sr ?_
    refine WR.e0 hE [(39, .bool true)] fun a hE => ?_
    refine Runs.seq ?_
    refine Runs.condT hE rfl ?_
    refine Runs.skip ?_
    refine Runs.seq ?_
    refine Runs.block ?_
    refine Runs.sr ?_
    refine WR.e0 hE [(11, .int .i64 0)] fun a hE => ?_
    refine Runs.drawn mixed (by kernel_rfl) ?_
    replace H := H.drew
    refine WQ.d0 hE [0, 1, 2, 3, 4, 7, 8] [(42, .int .i64 0), (43, .pointer none), (45, .agg #[.int .i64 1, .int .i64 k_, .int .i64 0, .int .i64 0, .int .i64 0, .int .i64 0, .int .i64 0, .int .i64 0, .int .i64 0]), (49, .pointer (some ⟨r1, 3, none⟩))] fun a hE => ?_
    obtain ⟨t_5, et_5, hm⟩ := bind_some hm
    have hC_ := pq_Queues_Do_nil0_ok et_5 H
    try dsimp only at hC_
    refine WQ.eff (j := 5) (obs := []) hE (by kernel_rfl) rfl rfl rfl rfl (by kernel_rfl) (OpTo.fn hE rfl rfl Tryz.call56 hC_) ?_
    rintro _ w ⟨rfl, H⟩
    refine ⟨trivial, fun a hE => ?_⟩
    refine WQ.d hE [6, 9] [] [(47, .agg #[.int .i64 t_5.Heap.At, .int .i64 t_5.Heap.Gen]), (50, .pointer (some ⟨r1, 3, none⟩))] (obs := [.p (0 ≤ (0 : Int) ∧ (0 : Int) < ((2 : Nat) : Int))]) ⟨⟨by decide, by decide⟩, trivial⟩ fun a hE => ?_
    refine WQ.eff0 (j := 10) (obs := []) hE (by kernel_rfl) rfl rfl rfl (by kernel_rfl) (OpTo.store hE H rfl rfl rfl rfl rfl rfl (Nat.le_of_ble_eq_true rfl)) ?_
    rintro _ w H
    refine ⟨trivial, fun a hE => ?_⟩
    refine WQ.done (by kernel_rfl) ?_
    refine Runs.inBlock ?_
    refine Runs.region ?_
    refine WR.e0 hE [(38, .int .i64 1)] fun a hE => ?_
    refine Runs.inLoop ?_
    refine Runs.sr ?_
    refine WR.e0 hE [(39, .bool true)] fun a hE => ?_
    refine Runs.seq ?_
    refine Runs.condT hE rfl ?_
    refine Runs.skip ?_
    refine Runs.seq ?_
    refine Runs.block ?_
    refine Runs.sr ?_
    refine WR.e0 hE [(11, .int .i64 1)] fun a hE => ?_
    refine Runs.drawn mixed (by kernel_rfl) ?_
    replace H := H.drew
    refine WQ.d0 hE [0, 1, 2, 3, 4, 7, 8] [(42, .int .i64 1), (43, .pointer none), (45, .agg #[.int .i64 1, .int .i64 k_, .int .i64 0, .int .i64 0, .int .i64 0, .int .i64 0, .int .i64 0, .int .i64 0, .int .i64 0]), (49, .pointer (some ⟨r1, 3, none⟩))] fun a hE => ?_
    obtain ⟨t_6, et_6, hm⟩ := bind_some hm
    have hC_ := pq_Queues_Do_nil0_ok et_6 H
    try dsimp only at hC_
    refine WQ.eff (j := 5) (obs := []) hE (by kernel_rfl) rfl rfl rfl rfl (by kernel_rfl) (OpTo.fn hE rfl rfl Tryz.call56 hC_) ?_
    rintro _ w ⟨rfl, H⟩
    refine ⟨trivial, fun a hE => ?_⟩
    refine WQ.d hE [6, 9] [] [(47, .agg #[.int .i64 t_6.Heap.At, .int .i64 t_6.Heap.Gen]), (50, .pointer (some ⟨r1, 5, none⟩))] (obs := [.p (0 ≤ (1 : Int) ∧ (1 : Int) < ((2 : Nat) : Int))]) ⟨⟨by decide, by decide⟩, trivial⟩ fun a hE => ?_
    refine WQ.eff0 (j := 10) (obs := []) hE (by kernel_rfl) rfl rfl rfl (by kernel_rfl) (OpTo.store hE H rfl rfl rfl rfl rfl rfl (Nat.le_of_ble_eq_true rfl)) ?_
    rintro _ w H
    refine ⟨trivial, fun a hE => ?_⟩
    refine WQ.done (by kernel_rfl) ?_
    refine Runs.inBlock ?_
    refine Runs.region ?_
    refine WR.e0 hE [(38, .int .i64 2)] fun a hE => ?_
    refine Runs.inLoop ?_
    refine Runs.sr ?_
    refine WR.e0 hE [(39, .bool false)] fun a hE => ?_
    refine Runs.seq ?_
    refine Runs.condF hE rfl ?_
    refine Runs.exit rfl ?_
    refine Runs.sr ?_
    refine WR.e0 hE [(4, .pointer (some ⟨r1, 0, none⟩)), (5, .int .i64 0)] fun a hE => ?_
    cases hm
   ·replace hm := case_s ho hm
    rw [ho] at hE H
    replace H : St w0 (pq_Queues.R p al m_ :: _) _ := H
    refine WR.seg hE 7 [] [0, 1, 6, 8] (Lo := [(0, .int .i64 k_), (1, .int .i64 most), (6, .int .i64 t_1.1), (8, .pointer (some ⟨p, 0, none⟩))]) (obs := []) rfl (by kernel_rfl) trivial fun a hE => ?_
    refine WR.done rfl ?_
    refine Runs.sr ?_
    refine WR.d0 hE 4 [(28, .int .i64 k_), (29, .int .i64 most), (30, .pointer (some ⟨p, 0, none⟩)), (31, .int .i64 most)] fun a hE => ?_
    obtain ⟨t_7, et_7, hm⟩ := bind_some hm
    refine WR.eff hE rfl rfl rfl rfl (OpTo.fn hE rfl rfl Tryz.call54 (jobs_New_ok et_7 H)) ?_
    rintro _ w ⟨p3, al2, rfl, H⟩ a hE
    refine WR.eff hE rfl rfl rfl rfl (OpTo.mpNew api_Ref.val vI hE H rfl) ?_
    rintro _ w ⟨r2, rfl, H⟩ a hE
    obtain ⟨t_8, et_8, hm⟩ := bind_some hm
    refine WR.eff hE rfl rfl rfl rfl (OpTo.fn hE rfl rfl Tryz.call55 (clock_New_ok et_8 H)) ?_
    rintro _ w ⟨p4, rfl, H⟩ a hE
    refine WR.d0 hE 9 [(36, .agg #[.int .i64 k_, .int .i64 most, .pointer (some ⟨p, 0, none⟩), .int .i64 0, .int .i64 0, .int .i64 0, .int .i64 0, .pointer (some ⟨p3, 0, none⟩), .map (some r2), .pointer (some ⟨p4, 0, none⟩), .int .i64 t_1.1, .int .i64 0, .int .i64 0])] fun a hE => ?_
    refine WR.eff hE rfl rfl rfl rfl (OpTo.new hE H [] (.cells #[.int .i64 k_, .int .i64 most, .pointer (some ⟨p, 0, none⟩), .int .i64 0, .int .i64 0, .int .i64 0, .int .i64 0, .pointer (some ⟨p3, 0, none⟩), .map (some r2), .pointer (some ⟨p4, 0, none⟩), .int .i64 t_1.1, .int .i64 0, .int .i64 0] 123 (0, 0)) (fun r => .pointer (some ⟨r, 0, none⟩)) (obs := []) rfl (fun _ => by kernel_rfl) trivial) ?_
    rintro _ w ⟨r3, rfl, H⟩ a hE
    refine WR.e0 hE [(10, .pointer (some ⟨r3, 0, none⟩))] fun a hE => ?_
    refine Runs.seq ?_
    refine Runs.sr ?_
    refine WR.e0 hE [(38, .int .i64 0)] fun a hE => ?_
    refine Runs.block ?_
    refine Runs.unroll ?_
    refine Runs.sr ?_
    refine WR.e0 hE [(39, .bool true)] fun a hE => ?_
    refine Runs.seq ?_
    refine Runs.condT hE rfl ?_
    refine Runs.skip ?_
    refine Runs.seq ?_
    refine Runs.block ?_
    refine Runs.sr ?_
    refine WR.e0 hE [(11, .int .i64 0)] fun a hE => ?_
    refine Runs.drawn mixed (by kernel_rfl) ?_
    replace H := H.drew
    refine WQ.d0 hE [0, 1, 2, 3, 4, 7, 8] [(42, .int .i64 0), (43, .pointer (some ⟨p, 0, none⟩)), (45, .agg #[.int .i64 1, .int .i64 k_, .int .i64 0, .int .i64 0, .int .i64 0, .int .i64 0, .int .i64 0, .int .i64 0, .int .i64 0]), (49, .pointer (some ⟨r3, 3, none⟩))] fun a hE => ?_
    obtain ⟨t_9, et_9, hm⟩ := bind_some hm
    have hC_ := pq_Queues_Do_ok et_9 H.t4
    try dsimp only at hC_
    refine WQ.eff (j := 5) (obs := []) hE (by kernel_rfl) rfl rfl rfl rfl (by kernel_rfl) (OpTo.fn hE rfl rfl Tryz.call56 hC_) ?_
    rintro _ w ⟨z, rfl, H⟩
    refine ⟨trivial, fun a hE => ?_⟩
    refine WQ.d hE [6, 9] [] [(47, .agg #[.int .i64 t_9.1.Heap.At, .int .i64 t_9.1.Heap.Gen]), (50, .pointer (some ⟨r3, 3, none⟩))] (obs := [.p (0 ≤ (0 : Int) ∧ (0 : Int) < ((2 : Nat) : Int))]) ⟨⟨by decide, by decide⟩, trivial⟩ fun a hE => ?_
    refine WQ.eff0 (j := 10) (obs := []) hE (by kernel_rfl) rfl rfl rfl (by kernel_rfl) (OpTo.store hE H.t1 rfl rfl rfl rfl rfl rfl (Nat.le_of_ble_eq_true rfl)) ?_
    rintro _ w H
    refine ⟨trivial, fun a hE => ?_⟩
    refine WQ.done (by kernel_rfl) ?_
    refine Runs.inBlock ?_
    refine Runs.region ?_
    refine WR.e0 hE [(38, .int .i64 1)] fun a hE => ?_
    refine Runs.inLoop ?_
    refine Runs.sr ?_
    refine WR.e0 hE [(39, .bool true)] fun a hE => ?_
    refine Runs.seq ?_
    refine Runs.condT hE rfl ?_
    refine Runs.skip ?_
    refine Runs.seq ?_
    refine Runs.block ?_
    refine Runs.sr ?_
    refine WR.e0 hE [(11, .int .i64 1)] fun a hE => ?_
    refine Runs.drawn mixed (by kernel_rfl) ?_
    replace H := H.drew
    refine WQ.d0 hE [0, 1, 2, 3, 4, 7, 8] [(42, .int .i64 1), (43, .pointer (some ⟨p, 0, none⟩)), (45, .agg #[.int .i64 1, .int .i64 k_, .int .i64 0, .int .i64 0, .int .i64 0, .int .i64 0, .int .i64 0, .int .i64 0, .int .i64 0]), (49, .pointer (some ⟨r3, 3, none⟩))] fun a hE => ?_
    obtain ⟨t_10, et_10, hm⟩ := bind_some hm
    have hC_ := pq_Queues_Do_ok et_10 H.t1
    try dsimp only at hC_
    refine WQ.eff (j := 5) (obs := []) hE (by kernel_rfl) rfl rfl rfl rfl (by kernel_rfl) (OpTo.fn hE rfl rfl Tryz.call56 hC_) ?_
    rintro _ w ⟨z1, rfl, H⟩
    refine ⟨trivial, fun a hE => ?_⟩
    refine WQ.d hE [6, 9] [] [(47, .agg #[.int .i64 t_10.1.Heap.At, .int .i64 t_10.1.Heap.Gen]), (50, .pointer (some ⟨r3, 5, none⟩))] (obs := [.p (0 ≤ (1 : Int) ∧ (1 : Int) < ((2 : Nat) : Int))]) ⟨⟨by decide, by decide⟩, trivial⟩ fun a hE => ?_
    refine WQ.eff0 (j := 10) (obs := []) hE (by kernel_rfl) rfl rfl rfl (by kernel_rfl) (OpTo.store hE H.t1 rfl rfl rfl rfl rfl rfl (Nat.le_of_ble_eq_true rfl)) ?_
    rintro _ w H
    refine ⟨trivial, fun a hE => ?_⟩
    refine WQ.done (by kernel_rfl) ?_
    refine Runs.inBlock ?_
    refine Runs.region ?_
    refine WR.e0 hE [(38, .int .i64 2)] fun a hE => ?_
    refine Runs.inLoop ?_
    refine Runs.sr ?_
    refine WR.e0 hE [(39, .bool false)] fun a hE => ?_
    refine Runs.seq ?_
    refine Runs.condF hE rfl ?_
    refine Runs.exit rfl ?_
    refine Runs.sr ?_
    refine WR.e0 hE [(4, .pointer (some ⟨r3, 0, none⟩)), (5, .int .i64 0)] fun a hE => ?_
    replace H := dispatch_Dispatcher.shut (dispatch_Dispatcher.A.mk p (pq_Queues.A.mk al.a__p al.a__a al.t__p z1 al.entries_p) p3 al2 r2 p4) (dispatch_Dispatcher.mk k_ most t_10.2 t_9.1.Heap t_10.1.Heap t_7 ([] : List (api_Ref × Int)) t_8 t_1.1 0 0) H.t2.t3.t4.t4.t4
    refine Runs.ret hE Tryz.func26 rfl rfl ?_
    cases hm
    exact ⟨r3, dispatch_Dispatcher.A.mk p (pq_Queues.A.mk al.a__p al.a__a al.t__p z1 al.entries_p) p3 al2 r2 p4, rfl, H⟩

theorem mail_NewBox_api_Command_ok {w0 w : World} {As : List HP} {room : Int} {t : mail_Box_api_Command}  (hm : mail_NewBox_api_Command room = some t) (H : St w0 (As) w) :
    CallsR Tryz.prog 57 #[.int .i64 room] w fun v w' => ∃ (q0 : Nat), ∃ (al0 : mail_Box_api_Command.A), v = .pointer (some ⟨q0, 0, none⟩) ∧ St w0 (mail_Box_api_Command.R q0 al0 t :: As) w' := by
 rw [mail_NewBox_api_Command] at hm
 refine enter (args := [.int .i64 room]) Tryz.func57 rfl rfl rfl fun a hE => ?_
 refine Runs.sr ?_
 refine WR.seg hE 1 [] [0] (Lo := [(0, .int .i64 room)]) (obs := []) rfl (by kernel_rfl) trivial fun a hE => ?_
 refine WR.done rfl ?_
 refine Runs.sr ?_
 refine WR.d0 hE 3 [(5, .int .i64 (if (if 4096 < room then 4096 else room) > 1 then (if 4096 < room then 4096 else room) else 1))] fun a hE => ?_
 obtain ⟨m_, em_, hm⟩ := bind_some hm
 refine WR.eff hE rfl rfl rfl rfl (OpTo.makeCh api_Command.val em_ hE H rfl rfl rfl rfl rfl) ?_
 rintro _ w ⟨r, rfl, H⟩ a hE
 refine WR.d0 hE 5 [(7, .agg #[.chan (some r)])] fun a hE => ?_
 refine WR.eff hE rfl rfl rfl rfl (OpTo.new hE H [] (.cells #[.chan (some r)] 178 (0, 0)) (fun r => .pointer (some ⟨r, 0, none⟩)) (obs := []) rfl (fun _ => by kernel_rfl) trivial) ?_
 rintro _ w ⟨r1, rfl, H⟩ a hE
 refine WR.e0 hE [(2, .pointer (some ⟨r1, 0, none⟩))] fun a hE => ?_
 replace H := mail_Box_api_Command.shut (mail_Box_api_Command.A.mk r) (mail_Box_api_Command.mk m_) H.t1.t1
 refine Runs.ret hE Tryz.func57 rfl rfl ?_
 cases hm
 exact ⟨r1, mail_Box_api_Command.A.mk r, rfl, H⟩

theorem mail_NewDesk_api_Command_ok {w0 w : World} {As : List HP} {k : Nat} {boxes : Int} {room : Int} {t : mail_Desk_api_Command}  (hm : mail_NewDesk_api_Command k boxes room = some t) (H : St w0 (As) w) :
    CallsR Tryz.prog 27 #[.int .i64 boxes, .int .i64 room] w fun v w' => ∃ (q0 : Nat), ∃ (al0 : mail_Desk_api_Command.A), v = .pointer (some ⟨q0, 0, none⟩) ∧ St w0 (mail_Desk_api_Command.R q0 al0 t :: As) w' := by
 rw [mail_NewDesk_api_Command] at hm
 refine enter (args := [.int .i64 boxes, .int .i64 room]) Tryz.func27 rfl rfl rfl fun a hE => ?_
 refine Runs.sr ?_
 refine WR.seg hE 1 [] [0, 1] (Lo := [(0, .int .i64 boxes), (1, .int .i64 room)]) (obs := []) rfl (by kernel_rfl) trivial fun a hE => ?_
 refine WR.done rfl ?_
 refine Runs.sr ?_
 refine WR.d0 hE 1 [(6, .agg #[.slice none 0 0])] fun a hE => ?_
 refine WR.eff hE rfl rfl rfl rfl (OpTo.new hE H [] (.cells #[.slice none 0 0] 133 (0, 0)) (fun r => .pointer (some ⟨r, 0, none⟩)) (obs := []) rfl (fun _ => by kernel_rfl) trivial) ?_
 rintro _ w ⟨r, rfl, H⟩ a hE
 refine WR.e0 hE [(5, .pointer (some ⟨r, 0, none⟩))] fun a hE => ?_
 refine Runs.seq ?_
 refine Runs.sr ?_
 refine WR.e0 hE [(10, .int .i64 (if (if 4 < boxes then 4 else boxes) > 1 then (if 4 < boxes then 4 else boxes) else 1)), (11, .int .i64 0)] fun a hE => ?_
 replace H := H.slxNil 134 mail_Box_api_Command.encX mail_Box_api_Command.RX
 replace H := mail_Desk_api_Command.shut (mail_Desk_api_Command.A.mk none 0) (mail_Desk_api_Command.mk ([] : List mail_Box_api_Command)) H.t1
 obtain ⟨s, es, hm⟩ := bind_some hm
 refine Runs.join (fun a w => ∃ (z2 : Option Addr), ∃ (z3 : Nat), EnvOk 26 a [(5, .pointer (some ⟨r, 0, none⟩))] ∧ St w0 (mail_Desk_api_Command.R r (mail_Desk_api_Command.A.mk z2 z3) s :: As) w) (fun hk => ?_) ?_
 ·replace hm := es; clear es
  refine Runs.block ?_
  refine Runs.loop (fun m a w => ∃ (x : Int), ∃ (m_ : mail_Desk_api_Command), ∃ (z4 : Option Addr), ∃ (z5 : Nat), EnvOk 26 a [(1, .int .i64 room), (5, .pointer (some ⟨r, 0, none⟩)), (10, .int .i64 (if (if 4 < boxes then 4 else boxes) > 1 then (if 4 < boxes then 4 else boxes) else 1)), (11, .int .i64 x)] ∧ St w0 (mail_Desk_api_Command.R r (mail_Desk_api_Command.A.mk z4 z5) m_ :: As) w ∧ mail_NewDesk_api_Command_l0 room (if (if 4 < boxes then 4 else boxes) > 1 then (if 4 < boxes then 4 else boxes) else 1) m x m_ = some s) k ⟨0, mail_Desk_api_Command.mk ([] : List mail_Box_api_Command), none, 0, hE.sel [1, 5, 10, 11] (by kernel_rfl), H, hm⟩ ?_
  rintro m ih a w ⟨x, m_, z4, z5, hE, H, hm⟩
  cases m with
  | zero => simp [mail_NewDesk_api_Command_l0] at hm
  | succ m =>
   rw [mail_NewDesk_api_Command_l0] at hm
   refine Runs.sr ?_
   refine WR.seg hE 1 [] [1, 5, 10, 11, 12] (Lo := [(1, .int .i64 room), (5, .pointer (some ⟨r, 0, none⟩)), (10, .int .i64 (if (if 4 < boxes then 4 else boxes) > 1 then (if 4 < boxes then 4 else boxes) else 1)), (11, .int .i64 x), (12, .bool (decide (x < (if (if 4 < boxes then 4 else boxes) > 1 then (if 4 < boxes then 4 else boxes) else 1))))]) (obs := []) rfl (by kernel_rfl) trivial fun a hE => ?_
   refine WR.done rfl ?_
   refine Runs.seq ?_
   refine Runs.cond hE rfl (fun c => ?_) (fun c => ?_)
   ·replace hm := cond_t c hm
    refine Runs.skip ?_
    refine Runs.seq ?_
    refine Runs.block ?_
    refine Runs.drawn mixed (by kernel_rfl) ?_
    replace H := H.drew
    replace H := mail_Desk_api_Command.open H
    try dsimp only at H
    refine WQ.d hE [0, 1, 2, 3, 4, 5] [.slice z4 m_.l.length z5] [(13, .pointer (some ⟨r, 0, none⟩)), (17, .slice z4 m_.l.length z5), (18, .int .i64 room)] (obs := [.cell ⟨r, 0, none⟩ (.slice z4 m_.l.length z5)]) ⟨H.cell 0 rfl rfl, trivial⟩ fun a hE => ?_
    obtain ⟨t_, et_, hm⟩ := bind_some hm
    refine WQ.eff (j := 6) (obs := [.cell ⟨r, 0, none⟩ (.slice z4 m_.l.length z5)]) hE (by kernel_rfl) rfl rfl rfl rfl (by kernel_rfl) (OpTo.fn hE rfl rfl Tryz.call57 (mail_NewBox_api_Command_ok et_ H)) ?_
    rintro _ w ⟨p, al, rfl, H⟩
    refine ⟨⟨H.cell 1 rfl rfl, trivial⟩, fun a hE => ?_⟩
    refine WQ.eff (j := 7) (obs := [.cell ⟨r, 0, none⟩ (.slice z4 m_.l.length z5)]) hE (by kernel_rfl) rfl rfl rfl rfl (by kernel_rfl) (OpTo.buildSl (T := 134) hE H mail_Box_api_Command.encX_ok ([(p, al)] : List (Nat × mail_Box_api_Command.A)) rfl (fun _ => by kernel_rfl) rfl rfl rfl) ?_
    rintro _ w ⟨r1, rfl, H⟩
    replace H := St.slxOf (R := mail_Box_api_Command.RX) ([(p, al)] : List (Nat × mail_Box_api_Command.A)) ([t_] : List mail_Box_api_Command) rfl H.t1.t1 rfl
    refine ⟨⟨H.cell 1 rfl rfl, trivial⟩, fun a hE => ?_⟩
    obtain ⟨l, el, hm⟩ := bind_some hm
    refine WQ.eff (j := 8) (obs := []) hE (by kernel_rfl) rfl rfl rfl rfl (by kernel_rfl) (OpTo.appendX el hE H.t2 mail_Box_api_Command.encX_ok rfl rfl rfl rfl rfl rfl rfl rfl rfl rfl) ?_
    rintro _ w ⟨sb, sc, rfl, H⟩
    refine ⟨trivial, fun a hE => ?_⟩
    refine WQ.d0 hE [9, 10] [(23, .pointer (some ⟨r, 0, none⟩))] fun a hE => ?_
    refine WQ.eff0 (j := 11) (obs := []) hE (by kernel_rfl) rfl rfl rfl (by kernel_rfl) (OpTo.store hE H.t1 rfl rfl rfl rfl rfl rfl (Nat.le_of_ble_eq_true rfl)) ?_
    rintro _ w H
    refine ⟨trivial, fun a hE => ?_⟩
    refine WQ.done (by kernel_rfl) ?_
    refine Runs.inBlock ?_
    refine Runs.region ?_
    refine WR.e0 hE [(11, .int .i64 (w64 (x + 1)))] fun a hE => ?_
    replace H := mail_Desk_api_Command.shut (mail_Desk_api_Command.A.mk sb sc) (mail_Desk_api_Command.mk l) H.t1.t1
    exact ih m (Nat.lt_succ_self m) _ _ ⟨w64 (x + 1), mail_Desk_api_Command.mk l, sb, sc, hE.sel [1, 5, 10, 11] (by kernel_rfl), H, hm⟩
   ·replace hm := cond_f c hm
    refine Runs.exit rfl ?_
    cases hm
    exact hk _ _ ⟨z4, z5, hE.sel [5] (by kernel_rfl), H⟩
 rintro a w ⟨z2, z3, hE, H⟩
 refine Runs.sr ?_
 refine WR.seg hE 2 [] [4] (Lo := [(4, .pointer (some ⟨r, 0, none⟩))]) (obs := []) rfl (by kernel_rfl) trivial fun a hE => ?_
 refine WR.done rfl ?_
 refine Runs.ret hE Tryz.func27 rfl rfl ?_
 cases hm
 exact ⟨r, mail_Desk_api_Command.A.mk z2 z3, rfl, H⟩

theorem server_New_ok {w0 w : World} {As : List HP} {k : Nat} {k_ : Int} {jobs : Int} {boxes : Int} {room : Int} {t : (Option server_Server) × Int}  (hm : server_New k k_ jobs boxes room = some t) (H : St w0 (As) w) :
    CallsR Tryz.prog 9 #[.int .i64 k_, .int .i64 jobs, .int .i64 boxes, .int .i64 room] w fun v w' => ∃ (q0 : Nat), ∃ (al0 : server_Server.A), v = .tuple #[optV q0 t.1, .int .i64 t.2] ∧ St w0 (OptR (server_Server.R q0 al0) t.1 :: As) w' := by
 rw [server_New] at hm
 refine enter (args := [.int .i64 k_, .int .i64 jobs, .int .i64 boxes, .int .i64 room]) Tryz.func9 rfl rfl rfl fun a hE => ?_
 refine Runs.sr ?_
 refine WR.seg hE 2 [] [0, 1, 2, 3] (Lo := [(0, .int .i64 k_), (1, .int .i64 jobs), (2, .int .i64 boxes), (3, .int .i64 room)]) (obs := []) rfl (by kernel_rfl) trivial fun a hE => ?_
 refine WR.done rfl ?_
 refine Runs.sr ?_
 refine WR.d0 hE 2 [(13, .int .i64 k_), (14, .int .i64 jobs)] fun a hE => ?_
 obtain ⟨t_, et_, hm⟩ := bind_some hm
 refine WR.eff hE rfl rfl rfl rfl (OpTo.fn hE rfl rfl Tryz.call26 (dispatch_New_ok et_ H)) ?_
 rintro _ w ⟨p, al, rfl, H⟩ a hE
 rcases ho : t_.1 with _ | m_
 ·replace hm := case_n ho hm
  rw [ho] at hE H
  replace H := H.x0
  refine WR.seg hE 8 [] [2, 3, 10, 11] (Lo := [(2, .int .i64 boxes), (3, .int .i64 room), (10, .pointer none), (11, .int .i64 t_.2)]) (obs := []) rfl (by kernel_rfl) trivial fun a hE => ?_
  refine WR.done rfl ?_
  refine Runs.seq ?_
  refine Runs.sr ?_
  refine WR.e0 hE [(19, .bool (t_.2 != 0))] fun a hE => ?_
  refine Runs.cond hE rfl (fun c => ?_) (fun c => ?_)
  ·replace hm := cond_t c hm
   refine Runs.sr ?_
   refine WR.e0 hE [(8, .pointer none), (9, .int .i64 t_.2)] fun a hE => ?_
   refine Runs.ret hE Tryz.func9 rfl rfl ?_
   cases hm
   exact ⟨0, default, rfl, (St.optN H)⟩
  ·replace hm := cond_f c hm
   refine Runs.skip ?_
   refine Runs.sr ?_
   refine WR.d0 hE 3 [(21, .pointer none), (22, .int .i64 boxes), (23, .int .i64 room)] fun a hE => ?_
   obtain ⟨t_1, et_1, hm⟩ := bind_some hm
   refine WR.eff hE rfl rfl rfl rfl (OpTo.fn hE rfl rfl Tryz.call27 (mail_NewDesk_api_Command_ok et_1 H)) ?_
   rintro _ w ⟨p1, al1, rfl, H⟩ a hE
   refine WR.d0 hE 5 [(25, .agg #[.pointer none, .pointer (some ⟨p1, 0, none⟩)])] fun a hE => ?_
   refine WR.eff hE rfl rfl rfl rfl (OpTo.new hE H [] (.cells #[.pointer none, .pointer (some ⟨p1, 0, none⟩)] 77 (0, 0)) (fun r => .pointer (some ⟨r, 0, none⟩)) (obs := []) rfl (fun _ => by kernel_rfl) trivial) ?_
   rintro _ w ⟨r, rfl, H⟩ a hE
   refine WR.e0 hE [(8, .pointer (some ⟨r, 0, none⟩)), (9, .int .i64 0)] fun a hE => ?_
   cases hm
 ·replace hm := case_s ho hm
  rw [ho] at hE H
  replace H : St w0 (dispatch_Dispatcher.R p al m_ :: _) _ := H
  refine WR.seg hE 8 [] [2, 3, 10, 11] (Lo := [(2, .int .i64 boxes), (3, .int .i64 room), (10, .pointer (some ⟨p, 0, none⟩)), (11, .int .i64 t_.2)]) (obs := []) rfl (by kernel_rfl) trivial fun a hE => ?_
  refine WR.done rfl ?_
  refine Runs.seq ?_
  refine Runs.sr ?_
  refine WR.e0 hE [(19, .bool (t_.2 != 0))] fun a hE => ?_
  refine Runs.cond hE rfl (fun c => ?_) (fun c => ?_)
  ·replace hm := cond_t c hm
   refine Runs.sr ?_
   refine WR.e0 hE [(8, .pointer none), (9, .int .i64 t_.2)] fun a hE => ?_
   refine Runs.ret hE Tryz.func9 rfl rfl ?_
   cases hm
   exact ⟨0, default, rfl, (St.optN H.x0)⟩
  ·replace hm := cond_f c hm
   refine Runs.skip ?_
   refine Runs.sr ?_
   refine WR.d0 hE 3 [(21, .pointer (some ⟨p, 0, none⟩)), (22, .int .i64 boxes), (23, .int .i64 room)] fun a hE => ?_
   obtain ⟨t_2, et_2, hm⟩ := bind_some hm
   refine WR.eff hE rfl rfl rfl rfl (OpTo.fn hE rfl rfl Tryz.call27 (mail_NewDesk_api_Command_ok et_2 H)) ?_
   rintro _ w ⟨p2, al2, rfl, H⟩ a hE
   refine WR.d0 hE 5 [(25, .agg #[.pointer (some ⟨p, 0, none⟩), .pointer (some ⟨p2, 0, none⟩)])] fun a hE => ?_
   refine WR.eff hE rfl rfl rfl rfl (OpTo.new hE H [] (.cells #[.pointer (some ⟨p, 0, none⟩), .pointer (some ⟨p2, 0, none⟩)] 77 (0, 0)) (fun r => .pointer (some ⟨r, 0, none⟩)) (obs := []) rfl (fun _ => by kernel_rfl) trivial) ?_
   rintro _ w ⟨r1, rfl, H⟩ a hE
   refine WR.e0 hE [(8, .pointer (some ⟨r1, 0, none⟩)), (9, .int .i64 0)] fun a hE => ?_
   replace H := server_Server.shut (server_Server.A.mk p al p2 al2) (server_Server.mk m_ t_2) H.t1.t2.t2
   refine Runs.ret hE Tryz.func9 rfl rfl ?_
   cases hm
   exact ⟨r1, server_Server.A.mk p al p2 al2, rfl, H⟩

theorem trace_New_ok {w0 w : World} {As : List HP} {k : Nat} {k_ : Int} {jobs : Int} {boxes : Int} {room : Int} {t : (Option trace_Book) × Int}  (hm : trace_New k k_ jobs boxes room = some t) (H : St w0 (As) w) :
    CallsR Tryz.prog 42 #[.int .i64 k_, .int .i64 jobs, .int .i64 boxes, .int .i64 room] w fun v w' => ∃ (q0 : Nat), ∃ (al0 : trace_Book.A), v = .tuple #[optV q0 t.1, .int .i64 t.2] ∧ St w0 (OptR (trace_Book.R q0 al0) t.1 :: As) w' := by
 rw [trace_New] at hm
 refine enter (args := [.int .i64 k_, .int .i64 jobs, .int .i64 boxes, .int .i64 room]) Tryz.func42 rfl rfl rfl fun a hE => ?_
 refine Runs.sr ?_
 refine WR.seg hE 2 [] [0, 1, 2, 3] (Lo := [(0, .int .i64 k_), (1, .int .i64 jobs), (2, .int .i64 boxes), (3, .int .i64 room)]) (obs := []) rfl (by kernel_rfl) trivial fun a hE => ?_
 refine WR.done rfl ?_
 refine Runs.sr ?_
 refine WR.d0 hE 4 [(13, .int .i64 k_), (14, .int .i64 jobs), (15, .int .i64 boxes), (16, .int .i64 room)] fun a hE => ?_
 obtain ⟨t_, et_, hm⟩ := bind_some hm
 refine WR.eff hE rfl rfl rfl rfl (OpTo.fn hE rfl rfl Tryz.call9 (server_New_ok et_ H)) ?_
 rintro _ w ⟨p, al, rfl, H⟩ a hE
 rcases ho : t_.1 with _ | m_
 ·replace hm := case_n ho hm
  rw [ho] at hE H
  replace H := H.x0
  refine WR.seg hE 10 [] [10, 11] (Lo := [(10, .pointer none), (11, .int .i64 t_.2)]) (obs := []) rfl (by kernel_rfl) trivial fun a hE => ?_
  refine WR.done rfl ?_
  refine Runs.seq ?_
  refine Runs.sr ?_
  refine WR.e0 hE [(21, .bool (t_.2 != 0))] fun a hE => ?_
  refine Runs.cond hE rfl (fun c => ?_) (fun c => ?_)
  ·replace hm := cond_t c hm
   refine Runs.sr ?_
   refine WR.e0 hE [(8, .pointer none), (9, .int .i64 t_.2)] fun a hE => ?_
   refine Runs.ret hE Tryz.func42 rfl rfl ?_
   cases hm
   exact ⟨0, default, rfl, (St.optN H)⟩
  ·replace hm := cond_f c hm
   refine Runs.skip ?_
   refine Runs.sr ?_
   refine WR.d0 hE 2 [(24, .agg #[.pointer none, .slice none 0 0])] fun a hE => ?_
   refine WR.eff hE rfl rfl rfl rfl (OpTo.new hE H [] (.cells #[.pointer none, .slice none 0 0] 143 (0, 0)) (fun r => .pointer (some ⟨r, 0, none⟩)) (obs := []) rfl (fun _ => by kernel_rfl) trivial) ?_
   rintro _ w ⟨r, rfl, H⟩ a hE
   refine WR.e0 hE [(8, .pointer (some ⟨r, 0, none⟩)), (9, .int .i64 0)] fun a hE => ?_
   cases hm
 ·replace hm := case_s ho hm
  rw [ho] at hE H
  replace H : St w0 (server_Server.R p al m_ :: _) _ := H
  refine WR.seg hE 10 [] [10, 11] (Lo := [(10, .pointer (some ⟨p, 0, none⟩)), (11, .int .i64 t_.2)]) (obs := []) rfl (by kernel_rfl) trivial fun a hE => ?_
  refine WR.done rfl ?_
  refine Runs.seq ?_
  refine Runs.sr ?_
  refine WR.e0 hE [(21, .bool (t_.2 != 0))] fun a hE => ?_
  refine Runs.cond hE rfl (fun c => ?_) (fun c => ?_)
  ·replace hm := cond_t c hm
   refine Runs.sr ?_
   refine WR.e0 hE [(8, .pointer none), (9, .int .i64 t_.2)] fun a hE => ?_
   refine Runs.ret hE Tryz.func42 rfl rfl ?_
   cases hm
   exact ⟨0, default, rfl, (St.optN H.x0)⟩
  ·replace hm := cond_f c hm
   refine Runs.skip ?_
   refine Runs.sr ?_
   refine WR.d0 hE 2 [(24, .agg #[.pointer (some ⟨p, 0, none⟩), .slice none 0 0])] fun a hE => ?_
   refine WR.eff hE rfl rfl rfl rfl (OpTo.new hE H [] (.cells #[.pointer (some ⟨p, 0, none⟩), .slice none 0 0] 143 (0, 0)) (fun r => .pointer (some ⟨r, 0, none⟩)) (obs := []) rfl (fun _ => by kernel_rfl) trivial) ?_
   rintro _ w ⟨r1, rfl, H⟩ a hE
   refine WR.e0 hE [(8, .pointer (some ⟨r1, 0, none⟩)), (9, .int .i64 0)] fun a hE => ?_
   replace H := H.slNil 147 trace_Event.enc 14
   replace H := trace_Book.shut (trace_Book.A.mk p al none 0) (trace_Book.mk m_ ([] : List trace_Event)) H.t2.t2
   refine Runs.ret hE Tryz.func42 rfl rfl ?_
   cases hm
   exact ⟨r1, trace_Book.A.mk p al none 0, rfl, H⟩

theorem trace_Book_drain_nil0_ok {w0 w : World} {As : List HP} {k : Nat}  {t : Int}  (hm : trace_Book_drain_nil0 k = some t) (H : St w0 (As) w) :
    CallsR Tryz.prog 97 #[.pointer none] w fun v w' => v = .int .i64 t ∧ St w0 (As) w' := by
 rw [trace_Book_drain_nil0] at hm
 refine enter (args := [.pointer none]) Tryz.func97 rfl rfl rfl fun a hE => ?_
 refine Runs.sr ?_
 refine WR.seg hE 1 [] [0] (Lo := [(0, .pointer none)]) (obs := []) rfl (by kernel_rfl) trivial fun a hE => ?_
 refine WR.done rfl ?_
 refine Runs.sr ?_
 refine WR.d0 hE 1 [(5, .agg #[.int .i64 5, .int .i64 0, .int .i64 0, .int .i64 0, .int .i64 0, .int .i64 0])] fun a hE => ?_
 refine WR.eff hE rfl rfl rfl rfl (OpTo.new hE H [] (.cells #[.int .i64 0, .int .i64 0, .int .i64 0, .int .i64 0, .int .i64 0, .int .i64 0] 33 (0, 0)) (fun r => .pointer (some ⟨r, 0, none⟩)) (obs := []) rfl (fun _ => by kernel_rfl) trivial) ?_
 rintro _ w ⟨r, rfl, H⟩ a hE
 refine WR.eff0 hE rfl rfl rfl (OpTo.store hE H rfl rfl rfl rfl rfl rfl (Nat.le_of_ble_eq_true rfl)) ?_
 rintro _ w H a hE
 refine WR.done rfl ?_
 refine Runs.sr ?_
 refine WR.e0 hE [(4, .int .i64 0)] fun a hE => ?_
 refine Runs.seq ?_
 refine Runs.sr ?_
 refine WR.e0 hE [(6, .int .i64 0)] fun a hE => ?_
 obtain ⟨s, es, hm⟩ := bind_some hm
 refine Runs.join (fun a w => EnvOk 23 a [(4, .int .i64 s)] ∧ St w0 (As) w) (fun hk => ?_) ?_
 ·replace hm := es; clear es
  refine Runs.block ?_
  refine Runs.loop (fun m a w => ∃ (n : Int), ∃ (x : Int), EnvOk 23 a [(0, .pointer none), (3, .pointer (some ⟨r, 0, none⟩)), (4, .int .i64 n), (6, .int .i64 x)] ∧ St w0 (Blk r 33 [.int .i64 5, .int .i64 0, .int .i64 0, .int .i64 0, .int .i64 0, .int .i64 0] :: As) w ∧ trace_Book_drain_nil0_l0 m n x = some s) k ⟨0, 0, hE.sel [0, 3, 4, 6] (by kernel_rfl), H, hm⟩ ?_
  rintro m ih a w ⟨n, x, hE, H, hm⟩
  cases m with
  | zero => simp [trace_Book_drain_nil0_l0] at hm
  | succ m =>
   rw [trace_Book_drain_nil0_l0] at hm
   refine Runs.sr ?_
   refine WR.seg hE 1 [] [0, 3, 4, 6, 7] (Lo := [(0, .pointer none), (3, .pointer (some ⟨r, 0, none⟩)), (4, .int .i64 n), (6, .int .i64 x), (7, .bool (decide (x < 4097)))]) (obs := []) rfl (by kernel_rfl) trivial fun a hE => ?_
   refine WR.done rfl ?_
   refine Runs.seq ?_
   refine Runs.cond hE rfl (fun c => ?_) (fun c => ?_)
   ·replace hm := cond_t c hm
    refine Runs.skip ?_
    refine Runs.seq ?_
    refine Runs.block ?_
    refine Runs.seq ?_
    refine Runs.seq ?_
    refine Runs.drawn mixed (by kernel_rfl) ?_
    replace H := H.drew
    cases hm
   ·replace hm := cond_f c hm
    refine Runs.exit rfl ?_
    cases hm
    exact hk _ _ ⟨hE.sel [4] (by kernel_rfl), H.x0⟩
 rintro a w ⟨hE, H⟩
 refine Runs.sr ?_
 refine WR.seg hE 2 [] [2] (Lo := [(2, .int .i64 s)]) (obs := []) rfl (by kernel_rfl) trivial fun a hE => ?_
 refine WR.done rfl ?_
 refine Runs.ret hE Tryz.func97 rfl rfl ?_
 cases hm
 exact ⟨rfl, H⟩

theorem trace_Book_Act_nil0_ok {w0 w : World} {As : List HP} {k : Nat} {x : api_Act} {t : api_Reply}  (hm : trace_Book_Act_nil0 k x = some t) (H : St w0 (As) w) :
    CallsR Tryz.prog 67 #[.pointer none, .agg #[.int .i64 x.Kind, .int .i64 x.Box, .int .i64 x.Command.Kind, .int .i64 x.Command.Queue, .int .i64 x.Command.Job.At, .int .i64 x.Command.Job.Gen, .int .i64 x.Command.Time, .int .i64 x.Command.Data]] w fun v w' => v = .agg #[.int .i64 t.Why, .int .i64 t.Job.At, .int .i64 t.Job.Gen, .int .i64 t.Time, .int .i64 t.Data, .int .i64 t.N] ∧ St w0 (As) w' := by
 rw [trace_Book_Act_nil0] at hm
 refine enter (args := [.pointer none, .agg #[.int .i64 x.Kind, .int .i64 x.Box, .int .i64 x.Command.Kind, .int .i64 x.Command.Queue, .int .i64 x.Command.Job.At, .int .i64 x.Command.Job.Gen, .int .i64 x.Command.Time, .int .i64 x.Command.Data]]) Tryz.func67 rfl rfl rfl fun a hE => ?_
 refine Runs.sr ?_
 refine WR.eff hE rfl rfl rfl rfl (OpTo.new hE H [] (.cells #[.int .i64 x.Kind, .int .i64 x.Box, .int .i64 x.Command.Kind, .int .i64 x.Command.Queue, .int .i64 x.Command.Job.At, .int .i64 x.Command.Job.Gen, .int .i64 x.Command.Time, .int .i64 x.Command.Data] 42 (0, 0)) (fun r => .pointer (some ⟨r, 0, none⟩)) (obs := []) rfl (fun _ => by kernel_rfl) trivial) ?_
 rintro _ w ⟨r, rfl, H⟩ a hE
 refine WR.eff hE rfl rfl rfl rfl (OpTo.new hE H [] (.cells #[.int .i64 0, .int .i64 0, .int .i64 0, .int .i64 0, .int .i64 0, .int .i64 0] 35 (0, 0)) (fun r => .pointer (some ⟨r, 0, none⟩)) (obs := []) rfl (fun _ => by kernel_rfl) trivial) ?_
 rintro _ w ⟨r1, rfl, H⟩ a hE
 refine WR.done rfl ?_
 refine Runs.seq ?_
 refine Runs.sr ?_
 refine WR.seg hE 2 [.int .i64 x.Kind] [0, 3, 4, 9] (Lo := [(0, .pointer none), (3, .pointer (some ⟨r, 0, none⟩)), (4, .pointer (some ⟨r1, 0, none⟩)), (9, .int .i64 x.Kind)]) (obs := [.cell ⟨r, 0, none⟩ (.int .i64 x.Kind)]) rfl (by kernel_rfl) ⟨H.cell 1 rfl rfl, trivial⟩ fun a hE => ?_
 refine WR.done rfl ?_
 refine Runs.block ?_
 refine Runs.sr ?_
 refine WR.e0 hE [(10, .bool (x.Kind == 1))] fun a hE => ?_
 refine Runs.cond hE rfl (fun c => ?_) (fun c => ?_)
 ·replace hm := cond_t c hm
  refine Runs.seq ?_
  refine Runs.drawn mixed (by kernel_rfl) ?_
  replace H := H.drew
  cases hm
 ·replace hm := cond_f c hm
  refine Runs.sr ?_
  refine WR.e0 hE [(22, .bool (x.Kind == 2))] fun a hE => ?_
  refine Runs.cond hE rfl (fun c => ?_) (fun c => ?_)
  ·replace hm := cond_t c hm
   refine Runs.sr ?_
   cases hm
  ·replace hm := cond_f c hm
   refine Runs.sr ?_
   refine WR.e0 hE [(40, .bool (x.Kind == 3))] fun a hE => ?_
   refine Runs.cond hE rfl (fun c => ?_) (fun c => ?_)
   ·replace hm := cond_t c hm
    refine Runs.seq ?_
    refine Runs.drawn mixed (by kernel_rfl) ?_
    replace H := H.drew
    cases hm
   ·replace hm := cond_f c hm
    refine Runs.sr ?_
    refine WR.e0 hE [(53, .bool (x.Kind == 4))] fun a hE => ?_
    refine Runs.cond hE rfl (fun c => ?_) (fun c => ?_)
    ·replace hm := cond_t c hm
     refine Runs.sr ?_
     refine WR.d0 hE 1 [(55, .pointer none)] fun a hE => ?_
     obtain ⟨t_, et_, hm⟩ := bind_some hm
     refine WR.eff hE rfl rfl rfl rfl (OpTo.fn hE rfl rfl Tryz.call97 (trace_Book_drain_nil0_ok et_ H)) ?_
     rintro _ w ⟨rfl, H⟩ a hE
     refine WR.d0 hE 3 [(57, .agg #[.int .i64 0, .int .i64 0, .int .i64 0, .int .i64 0, .int .i64 0, .int .i64 t_])] fun a hE => ?_
     refine WR.eff0 hE rfl rfl rfl (OpTo.store hE H rfl rfl rfl rfl rfl rfl (Nat.le_of_ble_eq_true rfl)) ?_
     rintro _ w H a hE
     refine WR.done rfl ?_
     refine Runs.retO (vs := [.agg #[.int .i64 0, .int .i64 0, .int .i64 0, .int .i64 0, .int .i64 0, .int .i64 t_]]) (obs := [.cell ⟨r1, 0, none⟩ (.int .i64 0), .cell ⟨r1, 1, none⟩ (.int .i64 0), .cell ⟨r1, 2, none⟩ (.int .i64 0), .cell ⟨r1, 3, none⟩ (.int .i64 0), .cell ⟨r1, 4, none⟩ (.int .i64 0), .cell ⟨r1, 5, none⟩ (.int .i64 t_)]) hE Tryz.func67 rfl [.int .i64 0, .int .i64 0, .int .i64 0, .int .i64 0, .int .i64 0, .int .i64 t_] (by kernel_rfl) ⟨H.cell 0 rfl rfl, H.cell 0 rfl rfl, H.cell 0 rfl rfl, H.cell 0 rfl rfl, H.cell 0 rfl rfl, H.cell 0 rfl rfl, trivial⟩ ?_
     cases hm
     exact ⟨rfl, H.x1.x0⟩
    ·replace hm := cond_f c hm
     refine Runs.skip ?_
     refine Runs.inBlock ?_
     refine Runs.sr ?_
     refine WR.d0 hE 1 [(58, .agg #[.int .i64 12, .int .i64 0, .int .i64 0, .int .i64 0, .int .i64 0, .int .i64 0])] fun a hE => ?_
     refine WR.eff0 hE rfl rfl rfl (OpTo.store hE H rfl rfl rfl rfl rfl rfl (Nat.le_of_ble_eq_true rfl)) ?_
     rintro _ w H a hE
     refine WR.done rfl ?_
     refine Runs.retO (vs := [.agg #[.int .i64 12, .int .i64 0, .int .i64 0, .int .i64 0, .int .i64 0, .int .i64 0]]) (obs := [.cell ⟨r1, 0, none⟩ (.int .i64 12), .cell ⟨r1, 1, none⟩ (.int .i64 0), .cell ⟨r1, 2, none⟩ (.int .i64 0), .cell ⟨r1, 3, none⟩ (.int .i64 0), .cell ⟨r1, 4, none⟩ (.int .i64 0), .cell ⟨r1, 5, none⟩ (.int .i64 0)]) hE Tryz.func67 rfl [.int .i64 12, .int .i64 0, .int .i64 0, .int .i64 0, .int .i64 0, .int .i64 0] (by kernel_rfl) ⟨H.cell 0 rfl rfl, H.cell 0 rfl rfl, H.cell 0 rfl rfl, H.cell 0 rfl rfl, H.cell 0 rfl rfl, H.cell 0 rfl rfl, trivial⟩ ?_
     cases hm
     exact ⟨rfl, H.x1.x0⟩

theorem trace_Book_Run_nil0_ok {w0 w : World} {As : List HP} {k : Nat} {sb_l : Option Addr} {sc_l : Nat} {l : List api_Act} {X_l : HP} {t : (List api_Reply)} (hX_l : SlRd X_l api_Act.enc 8 sb_l l) (hC_l : l.length ≤ sc_l) (hm : trace_Book_Run_nil0 k l = some t) (H : St w0 (X_l :: As) w) :
    CallsR Tryz.prog 43 #[.pointer none, .slice sb_l l.length sc_l] w fun v w' => ∃ (sb0 : Option Addr), ∃ (sc0 : Nat), v = .slice sb0 t.length sc0 ∧ St w0 (Sl 35 api_Reply.enc 6 sb0 sc0 t :: X_l :: As) w' := by
 rw [trace_Book_Run_nil0] at hm
 refine enter (args := [.pointer none, .slice sb_l l.length sc_l]) Tryz.func43 rfl rfl rfl fun a hE => ?_
 refine Runs.sr ?_
 refine WR.seg hE 1 [] [0, 1] (Lo := [(0, .pointer none), (1, .slice sb_l l.length sc_l)]) (obs := []) rfl (by kernel_rfl) trivial fun a hE => ?_
 refine WR.done rfl ?_
 refine Runs.sr ?_
 refine WR.e0 hE [(5, .slice none 0 0)] fun a hE => ?_
 refine Runs.seq ?_
 refine Runs.sr ?_
 refine WR.e0 hE [(8, .slice sb_l l.length sc_l), (9, .int .i64 (l.length : Int)), (10, .int .i64 0)] fun a hE => ?_
 obtain ⟨s, es, hm⟩ := bind_some hm
 refine Runs.join (fun a w => ∃ (sb1 : Option Addr), ∃ (sc1 : Nat), EnvOk 22 a [(5, .slice sb1 s.length sc1)] ∧ St w0 (Sl 35 api_Reply.enc 6 sb1 sc1 s :: X_l :: As) w) (fun hk => ?_) ?_
 ·replace hm := es; clear es
  replace H := H.slNil 35 api_Reply.enc 6
  refine Runs.block ?_
  refine Runs.loop (fun m a w => ∃ (out : List api_Reply), ∃ (x : Int), ∃ (sb2 : Option Addr), ∃ (sc2 : Nat), EnvOk 22 a [(0, .pointer none), (5, .slice sb2 out.length sc2), (8, .slice sb_l l.length sc_l), (9, .int .i64 (l.length : Int)), (10, .int .i64 x)] ∧ St w0 (Sl 35 api_Reply.enc 6 sb2 sc2 out :: X_l :: As) w ∧ trace_Book_Run_nil0_l0 (l.length : Int) l m out x = some s) k ⟨([] : List api_Reply), 0, none, 0, hE.sel [0, 5, 8, 9, 10] (by kernel_rfl), H.t1.t1, hm⟩ ?_
  rintro m ih a w ⟨out, x, sb2, sc2, hE, H, hm⟩
  cases m with
  | zero => simp [trace_Book_Run_nil0_l0] at hm
  | succ m =>
   rw [trace_Book_Run_nil0_l0] at hm
   refine Runs.sr ?_
   refine WR.seg hE 1 [] [0, 5, 8, 9, 10, 11] (Lo := [(0, .pointer none), (5, .slice sb2 out.length sc2), (8, .slice sb_l l.length sc_l), (9, .int .i64 (l.length : Int)), (10, .int .i64 x), (11, .bool (decide (x < (l.length : Int))))]) (obs := []) rfl (by kernel_rfl) trivial fun a hE => ?_
   refine WR.done rfl ?_
   refine Runs.seq ?_
   refine Runs.cond hE rfl (fun c => ?_) (fun c => ?_)
   ·replace hm := cond_t c hm
    refine Runs.skip ?_
    refine Runs.seq ?_
    refine Runs.block ?_
    refine Runs.sr ?_
    obtain ⟨x2, ex2, hm⟩ := bind_some hm
    obtain ⟨b1, o, hs, hb⟩ := SlRd.base hX_l api_Act.enc_ok H 1 rfl ex2
    refine WR.d hE 2 [.pointer (some ⟨b1, o, none⟩), .int .i64 x2.Kind, .int .i64 x2.Box, .int .i64 x2.Command.Kind, .int .i64 x2.Command.Queue, .int .i64 x2.Command.Job.At, .int .i64 x2.Command.Job.Gen, .int .i64 x2.Command.Time, .int .i64 x2.Command.Data] [(13, .agg #[.int .i64 x2.Kind, .int .i64 x2.Box, .int .i64 x2.Command.Kind, .int .i64 x2.Command.Queue, .int .i64 x2.Command.Job.At, .int .i64 x2.Command.Job.Gen, .int .i64 x2.Command.Time, .int .i64 x2.Command.Data])] (obs := [.p ((sb_l : Option Addr) = some ⟨b1, o, none⟩), .p (0 ≤ (x : Int) ∧ (x : Int) < ((l.length : Nat) : Int)), .cell ⟨b1, o + (Int.toNat x) * 8, none⟩ (.int .i64 x2.Kind), .cell ⟨b1, o + (Int.toNat x) * 8 + 1, none⟩ (.int .i64 x2.Box), .cell ⟨b1, o + (Int.toNat x) * 8 + 2, none⟩ (.int .i64 x2.Command.Kind), .cell ⟨b1, o + (Int.toNat x) * 8 + 3, none⟩ (.int .i64 x2.Command.Queue), .cell ⟨b1, o + (Int.toNat x) * 8 + 4, none⟩ (.int .i64 x2.Command.Job.At), .cell ⟨b1, o + (Int.toNat x) * 8 + 5, none⟩ (.int .i64 x2.Command.Job.Gen), .cell ⟨b1, o + (Int.toNat x) * 8 + 6, none⟩ (.int .i64 x2.Command.Time), .cell ⟨b1, o + (Int.toNat x) * 8 + 7, none⟩ (.int .i64 x2.Command.Data)]) ⟨hs, hb, SlRd.cells hX_l api_Act.enc_ok H 1 rfl hs ex2 0 _ rfl, SlRd.cells hX_l api_Act.enc_ok H 1 rfl hs ex2 1 _ rfl, SlRd.cells hX_l api_Act.enc_ok H 1 rfl hs ex2 2 _ rfl, SlRd.cells hX_l api_Act.enc_ok H 1 rfl hs ex2 3 _ rfl, SlRd.cells hX_l api_Act.enc_ok H 1 rfl hs ex2 4 _ rfl, SlRd.cells hX_l api_Act.enc_ok H 1 rfl hs ex2 5 _ rfl, SlRd.cells hX_l api_Act.enc_ok H 1 rfl hs ex2 6 _ rfl, SlRd.cells hX_l api_Act.enc_ok H 1 rfl hs ex2 7 _ rfl, trivial⟩ fun a hE => ?_
    refine WR.eff hE rfl rfl rfl rfl (OpTo.new hE H [] (.cells #[.int .i64 0, .int .i64 0, .int .i64 0, .int .i64 0, .int .i64 0, .int .i64 0, .int .i64 0, .int .i64 0] 42 (0, 0)) (fun r => .pointer (some ⟨r, 0, none⟩)) (obs := []) rfl (fun _ => by kernel_rfl) trivial) ?_
    rintro _ w ⟨r, rfl, H⟩ a hE
    refine WR.eff0 hE rfl rfl rfl (OpTo.store hE H rfl rfl rfl rfl rfl rfl (Nat.le_of_ble_eq_true rfl)) ?_
    rintro _ w H a hE
    refine WR.done rfl ?_
    refine Runs.region ?_
    refine WR.d hE 3 [.int .i64 x2.Kind, .int .i64 x2.Box, .int .i64 x2.Command.Kind, .int .i64 x2.Command.Queue, .int .i64 x2.Command.Job.At, .int .i64 x2.Command.Job.Gen, .int .i64 x2.Command.Time, .int .i64 x2.Command.Data] [(14, .slice sb2 out.length sc2), (15, .pointer none), (16, .agg #[.int .i64 x2.Kind, .int .i64 x2.Box, .int .i64 x2.Command.Kind, .int .i64 x2.Command.Queue, .int .i64 x2.Command.Job.At, .int .i64 x2.Command.Job.Gen, .int .i64 x2.Command.Time, .int .i64 x2.Command.Data])] (obs := [.cell ⟨r, 0, none⟩ (.int .i64 x2.Kind), .cell ⟨r, 1, none⟩ (.int .i64 x2.Box), .cell ⟨r, 2, none⟩ (.int .i64 x2.Command.Kind), .cell ⟨r, 3, none⟩ (.int .i64 x2.Command.Queue), .cell ⟨r, 4, none⟩ (.int .i64 x2.Command.Job.At), .cell ⟨r, 5, none⟩ (.int .i64 x2.Command.Job.Gen), .cell ⟨r, 6, none⟩ (.int .i64 x2.Command.Time), .cell ⟨r, 7, none⟩ (.int .i64 x2.Command.Data)]) ⟨H.cell 0 rfl rfl, H.cell 0 rfl rfl, H.cell 0 rfl rfl, H.cell 0 rfl rfl, H.cell 0 rfl rfl, H.cell 0 rfl rfl, H.cell 0 rfl rfl, H.cell 0 rfl rfl, trivial⟩ fun a hE => ?_
    obtain ⟨t_, et_, hm⟩ := bind_some hm
    refine WR.eff hE rfl rfl rfl rfl (OpTo.fn hE rfl rfl Tryz.call67 (trace_Book_Act_nil0_ok et_ H)) ?_
    rintro _ w ⟨rfl, H⟩ a hE
    refine WR.eff hE rfl rfl rfl rfl (OpTo.buildSl (T := 35) hE H api_Reply.enc_ok ([t_] : List api_Reply) rfl (fun _ => by kernel_rfl) rfl rfl rfl) ?_
    rintro _ w ⟨r1, rfl, H⟩ a hE
    obtain ⟨l2, el2, hm⟩ := bind_some hm
    replace H := H.t2
    refine WR.eff hE rfl rfl rfl rfl (OpTo.appendM el2 hE H api_Reply.enc_ok rfl rfl rfl rfl rfl rfl rfl rfl rfl rfl (SlRd.all (sl_rd 35 api_Reply.enc 6 _ _ _) api_Reply.enc_ok H 1 rfl) rfl) ?_
    rintro _ w ⟨sb3, sc3, rfl, H⟩ a hE
    refine WR.e0 hE [(5, .slice sb3 l2.length sc3)] fun a hE => ?_
    refine Runs.inBlock ?_
    refine Runs.region ?_
    refine WR.e0 hE [(10, .int .i64 (w64 (x + 1)))] fun a hE => ?_
    exact ih m (Nat.lt_succ_self m) _ _ ⟨l2, w64 (x + 1), sb3, sc3, hE.sel [0, 5, 8, 9, 10] (by kernel_rfl), H.x2.x1.t1.t1, hm⟩
   ·replace hm := cond_f c hm
    refine Runs.exit rfl ?_
    cases hm
    exact hk _ _ ⟨sb2, sc2, hE.sel [5] (by kernel_rfl), H.t1.t1⟩
 rintro a w ⟨sb1, sc1, hE, H⟩
 refine Runs.sr ?_
 refine WR.seg hE 2 [] [4] (Lo := [(4, .slice sb1 s.length sc1)]) (obs := []) rfl (by kernel_rfl) trivial fun a hE => ?_
 refine WR.done rfl ?_
 refine Runs.ret hE Tryz.func43 rfl rfl ?_
 cases hm
 exact ⟨sb1, sc1, rfl, H.t1.t1⟩

theorem trace_Book_Events_nil0_ok {w0 w : World} {As : List HP}  {t : (List trace_Event)}  (hm : trace_Book_Events_nil0 = some t) (H : St w0 (As) w) :
    CallsR Tryz.prog 44 #[.pointer none] w fun v w' => ∃ (sb0 : Option Addr), ∃ (sc0 : Nat), v = .slice sb0 t.length sc0 ∧ St w0 (Sl 147 trace_Event.enc 14 sb0 sc0 t :: As) w' := by
 rw [trace_Book_Events_nil0] at hm
 refine enter (args := [.pointer none]) Tryz.func44 rfl rfl rfl fun a hE => ?_
 refine Runs.sr ?_
 refine WR.seg hE 1 [] [0] (Lo := [(0, .pointer none)]) (obs := []) rfl (by kernel_rfl) trivial fun a hE => ?_
 refine WR.done rfl ?_
 refine Runs.sr ?_
 cases hm

theorem mail_Box_api_Command_Post_ok {w0 w : World} {As : List HP} {p_b : Nat} {al_b : mail_Box_api_Command.A} {b : mail_Box_api_Command} {v_ : api_Command} {t : Bool × mail_Box_api_Command}  (hm : mail_Box_api_Command_Post b v_ = some t) (H : St w0 (mail_Box_api_Command.R p_b al_b b :: As) w) :
    CallsR Tryz.prog 58 #[.pointer (some ⟨p_b, 0, none⟩), .agg #[.int .i64 v_.Kind, .int .i64 v_.Queue, .int .i64 v_.Job.At, .int .i64 v_.Job.Gen, .int .i64 v_.Time, .int .i64 v_.Data]] w fun v w' => v = .bool t.1 ∧ St w0 (mail_Box_api_Command.R p_b al_b t.2 :: As) w' := by
 rw [mail_Box_api_Command_Post] at hm
 refine enter (args := [.pointer (some ⟨p_b, 0, none⟩), .agg #[.int .i64 v_.Kind, .int .i64 v_.Queue, .int .i64 v_.Job.At, .int .i64 v_.Job.Gen, .int .i64 v_.Time, .int .i64 v_.Data]]) Tryz.func58 rfl rfl rfl fun a hE => ?_
 refine Runs.sr ?_
 refine WR.eff hE rfl rfl rfl rfl (OpTo.new hE H [] (.cells #[.int .i64 v_.Kind, .int .i64 v_.Queue, .int .i64 v_.Job.At, .int .i64 v_.Job.Gen, .int .i64 v_.Time, .int .i64 v_.Data] 33 (0, 0)) (fun r => .pointer (some ⟨r, 0, none⟩)) (obs := []) rfl (fun _ => by kernel_rfl) trivial) ?_
 rintro _ w ⟨r, rfl, H⟩ a hE
 refine WR.seg hE 2 [] [0, 3] (Lo := [(0, .pointer (some ⟨p_b, 0, none⟩)), (3, .pointer (some ⟨r, 0, none⟩))]) (obs := []) rfl (by kernel_rfl) trivial fun a hE => ?_
 refine WR.done rfl ?_
 refine Runs.seq ?_
 refine Runs.sr ?_
 replace H := mail_Box_api_Command.open H.t1
 refine WR.e hE [.chan (some al_b.c__p)] [(8, .chan (some al_b.c__p))] (obs := [.cell ⟨p_b, 0, none⟩ (.chan (some al_b.c__p))]) ⟨H.cell 0 rfl rfl, trivial⟩ fun a hE => ?_
 refine Runs.region ?_
 refine WR.e hE [.int .i64 v_.Kind, .int .i64 v_.Queue, .int .i64 v_.Job.At, .int .i64 v_.Job.Gen, .int .i64 v_.Time, .int .i64 v_.Data] [(9, .agg #[.int .i64 v_.Kind, .int .i64 v_.Queue, .int .i64 v_.Job.At, .int .i64 v_.Job.Gen, .int .i64 v_.Time, .int .i64 v_.Data])] (obs := [.cell ⟨r, 0, none⟩ (.int .i64 v_.Kind), .cell ⟨r, 1, none⟩ (.int .i64 v_.Queue), .cell ⟨r, 2, none⟩ (.int .i64 v_.Job.At), .cell ⟨r, 3, none⟩ (.int .i64 v_.Job.Gen), .cell ⟨r, 4, none⟩ (.int .i64 v_.Time), .cell ⟨r, 5, none⟩ (.int .i64 v_.Data)]) ⟨H.cell 2 rfl rfl, H.cell 2 rfl rfl, H.cell 2 rfl rfl, H.cell 2 rfl rfl, H.cell 2 rfl rfl, H.cell 2 rfl rfl, trivial⟩ fun a hE => ?_
 refine Runs.seq ?_
 rcases Bool.eq_false_or_eq_true (MCh.room b.c_) with c | c
 ·replace hm := cond_t c hm
  refine Runs.selSendT (u := v_) hE H.t1 rfl rfl rfl rfl rfl rfl rfl rfl rfl c fun a w hE H => ?_
  refine WR.e0 hE [(12, .bool true)] fun a hE => ?_
  refine Runs.block ?_
  refine Runs.condT hE rfl ?_
  refine Runs.sr ?_
  refine WR.e0 hE [(4, .bool true)] fun a hE => ?_
  replace H := mail_Box_api_Command.shut al_b (mail_Box_api_Command.mk (MCh.push b.c_ v_)) H.t1
  refine Runs.ret hE Tryz.func58 rfl rfl ?_
  cases hm
  exact ⟨rfl, H.x1⟩
 ·replace hm := cond_f c hm
  replace H := H.t1
  refine Runs.selSendF (u := v_) hE H rfl rfl rfl rfl rfl rfl rfl rfl rfl c fun a hE => ?_
  refine WR.e0 hE [(12, .bool false)] fun a hE => ?_
  refine Runs.block ?_
  refine Runs.condF hE rfl ?_
  refine Runs.sr ?_
  refine WR.e0 hE [(4, .bool false)] fun a hE => ?_
  replace H := mail_Box_api_Command.shut al_b (b) H.t1
  refine Runs.ret hE Tryz.func58 rfl rfl ?_
  cases hm
  exact ⟨rfl, H.x1⟩

theorem mail_Desk_api_Command_Post_ok {w0 w : World} {As : List HP} {p_d : Nat} {al_d : mail_Desk_api_Command.A} {d : mail_Desk_api_Command} {box : Int} {v_ : api_Command} {t : Int × mail_Desk_api_Command}  (hm : mail_Desk_api_Command_Post d box v_ = some t) (H : St w0 (mail_Desk_api_Command.R p_d al_d d :: As) w) :
    CallsR Tryz.prog 28 #[.pointer (some ⟨p_d, 0, none⟩), .int .i64 box, .agg #[.int .i64 v_.Kind, .int .i64 v_.Queue, .int .i64 v_.Job.At, .int .i64 v_.Job.Gen, .int .i64 v_.Time, .int .i64 v_.Data]] w fun v w' => v = .int .i64 t.1 ∧ St w0 (mail_Desk_api_Command.R p_d al_d t.2 :: As) w' := by
 rw [mail_Desk_api_Command_Post] at hm
 refine enter (args := [.pointer (some ⟨p_d, 0, none⟩), .int .i64 box, .agg #[.int .i64 v_.Kind, .int .i64 v_.Queue, .int .i64 v_.Job.At, .int .i64 v_.Job.Gen, .int .i64 v_.Time, .int .i64 v_.Data]]) Tryz.func28 rfl rfl rfl fun a hE => ?_
 refine Runs.sr ?_
 refine WR.eff hE rfl rfl rfl rfl (OpTo.new hE H [] (.cells #[.int .i64 v_.Kind, .int .i64 v_.Queue, .int .i64 v_.Job.At, .int .i64 v_.Job.Gen, .int .i64 v_.Time, .int .i64 v_.Data] 33 (0, 0)) (fun r => .pointer (some ⟨r, 0, none⟩)) (obs := []) rfl (fun _ => by kernel_rfl) trivial) ?_
 rintro _ w ⟨r, rfl, H⟩ a hE
 refine WR.seg hE 2 [] [0, 1, 5] (Lo := [(0, .pointer (some ⟨p_d, 0, none⟩)), (1, .int .i64 box), (5, .pointer (some ⟨r, 0, none⟩))]) (obs := []) rfl (by kernel_rfl) trivial fun a hE => ?_
 refine WR.done rfl ?_
 refine Runs.seq ?_
 refine Runs.block ?_
 refine Runs.seq ?_
 obtain ⟨s, es, hm⟩ := bind_some hm
 refine Runs.join (fun a w => EnvOk 30 a [(0, .pointer (some ⟨p_d, 0, none⟩)), (1, .int .i64 box), (5, .pointer (some ⟨r, 0, none⟩)), (7, .bool s)] ∧ St w0 (Blk r 33 [.int .i64 v_.Kind, .int .i64 v_.Queue, .int .i64 v_.Job.At, .int .i64 v_.Job.Gen, .int .i64 v_.Time, .int .i64 v_.Data] :: mail_Desk_api_Command.R p_d al_d d :: As) w) (fun hk => ?_) ?_
 ·replace hm := es; clear es
  refine Runs.region ?_
  refine WR.d0 hE 3 [(10, .bool (decide (box < 0)))] fun a hE => ?_
  rcases Bool.eq_false_or_eq_true (decide (box < 0)) with c | c
  ·replace hE := hE.dec 10 c (by kernel_rfl)
   replace hm := cond_t c hm
   have c_ := c
   refine WR.e0 hE [(7, .bool true)] fun a hE => ?_
   cases hm
   exact hk _ _ ⟨hE.sel [0, 1, 5, 7] (by kernel_rfl), H.t1.t1⟩
  ·replace hE := hE.dec 10 c (by kernel_rfl)
   replace hm := cond_f c hm
   have c_1 := c
   replace H := mail_Desk_api_Command.open H.t1
   refine WR.e hE [.slice al_d.l_b d.l.length al_d.l_c] [(7, .bool (decide (box ≥ (d.l.length : Int))))] (obs := [.cell ⟨p_d, 0, none⟩ (.slice al_d.l_b d.l.length al_d.l_c)]) ⟨H.cell 0 rfl rfl, trivial⟩ fun a hE => ?_
   replace H := mail_Desk_api_Command.shut al_d (d) H.t1.t1
   cases hm
   exact hk _ _ ⟨hE.sel [0, 1, 5, 7] (by kernel_rfl), H.t1⟩
 rintro a w ⟨hE, H⟩
 refine Runs.cond hE rfl (fun c => ?_) (fun c => ?_)
 ·replace hm := cond_t c hm
  refine Runs.sr ?_
  refine WR.seg hE 1 [] [6] (Lo := [(6, .int .i64 30)]) (obs := []) rfl (by kernel_rfl) trivial fun a hE => ?_
  refine WR.done rfl ?_
  refine Runs.ret hE Tryz.func28 rfl rfl ?_
  cases hm
  exact ⟨rfl, H.x0⟩
 ·replace hm := cond_f c hm
  refine Runs.seq ?_
  refine Runs.drawn mixed (by kernel_rfl) ?_
  replace H := H.drew
  replace H := mail_Desk_api_Command.open H.t1
  obtain ⟨x, ex, hm⟩ := bind_some hm
  obtain ⟨gs, ⟨p, al⟩, hgl, hg, H⟩ := St.slxTake (R := mail_Box_api_Command.RX) H.t1 ex
  replace H : St w0 (mail_Box_api_Command.R p al x :: Sl 134 mail_Box_api_Command.encX 1 al_d.l_b al_d.l_c gs :: But mail_Box_api_Command.RX gs d.l box :: _) _ := H
  obtain ⟨b, o, hs, hb⟩ := SlRd.base (sl_rd 134 mail_Box_api_Command.encX 1 _ _ _) mail_Box_api_Command.encX_ok H 1 rfl hg
  refine WQ.seg hE [0, 1, 2, 3, 4, 5, 6, 7] [.slice al_d.l_b d.l.length al_d.l_c, .pointer (some ⟨b, o, none⟩), .pointer (some ⟨p, 0, none⟩), .int .i64 v_.Kind, .int .i64 v_.Queue, .int .i64 v_.Job.At, .int .i64 v_.Job.Gen, .int .i64 v_.Time, .int .i64 v_.Data] [26, 27] (Lo := [(26, .pointer (some ⟨p, 0, none⟩)), (27, .agg #[.int .i64 v_.Kind, .int .i64 v_.Queue, .int .i64 v_.Job.At, .int .i64 v_.Job.Gen, .int .i64 v_.Time, .int .i64 v_.Data])]) (obs := [.cell ⟨p_d, 0, none⟩ (.slice al_d.l_b d.l.length al_d.l_c), .p ((al_d.l_b : Option Addr) = some ⟨b, o, none⟩), .p (0 ≤ (box : Int) ∧ (box : Int) < ((d.l.length : Nat) : Int)), .cell ⟨b, o + (Int.toNat box) * 1, none⟩ (.pointer (some ⟨p, 0, none⟩)), .cell ⟨r, 0, none⟩ (.int .i64 v_.Kind), .cell ⟨r, 1, none⟩ (.int .i64 v_.Queue), .cell ⟨r, 2, none⟩ (.int .i64 v_.Job.At), .cell ⟨r, 3, none⟩ (.int .i64 v_.Job.Gen), .cell ⟨r, 4, none⟩ (.int .i64 v_.Time), .cell ⟨r, 5, none⟩ (.int .i64 v_.Data)]) (by kernel_rfl) (by kernel_rfl) ⟨H.cell 3 rfl rfl, hs, (by have h_ := hb; rw [hgl] at h_; exact h_), SlRd.cells (sl_rd 134 mail_Box_api_Command.encX 1 _ _ _) mail_Box_api_Command.encX_ok H 1 rfl hs hg 0 _ rfl, H.cell 4 rfl rfl, H.cell 4 rfl rfl, H.cell 4 rfl rfl, H.cell 4 rfl rfl, H.cell 4 rfl rfl, H.cell 4 rfl rfl, trivial⟩ fun a hE => ?_
  obtain ⟨t_, et_, hm⟩ := bind_some hm
  refine WQ.eff (j := 8) (obs := []) hE (by kernel_rfl) rfl rfl rfl rfl (by kernel_rfl) (OpTo.fn hE rfl rfl Tryz.call58 (mail_Box_api_Command_Post_ok et_ H)) ?_
  rintro _ w ⟨rfl, H⟩
  refine ⟨trivial, fun a hE => ?_⟩
  refine WQ.d0 hE [9, 10] [(19, .bool (!t_.1))] fun a hE => ?_
  refine WQ.done (by kernel_rfl) ?_
  refine Runs.cond hE rfl (fun c => ?_) (fun c => ?_)
  ·replace hm := cond_t c hm
   refine Runs.sr ?_
   refine WR.e0 hE [(6, .int .i64 13)] fun a hE => ?_
   replace H := St.slxPut (R := mail_Box_api_Command.RX) (g' := (p, al)) (x' := t_.2) H.t2.t2.t2 ex hgl hg rfl
   rw [← mSet_len d.l box t_.2] at H
   replace H := mail_Desk_api_Command.shut al_d (mail_Desk_api_Command.mk (mSet d.l box t_.2)) H.t1
   refine Runs.ret hE Tryz.func28 rfl rfl ?_
   cases hm
   exact ⟨rfl, H.x1⟩
  ·replace hm := cond_f c hm
   refine Runs.skip ?_
   refine Runs.inBlock ?_
   refine Runs.sr ?_
   refine WR.e0 hE [(6, .int .i64 0)] fun a hE => ?_
   replace H := St.slxPut (R := mail_Box_api_Command.RX) (g' := (p, al)) (x' := t_.2) H.t2.t2.t2 ex hgl hg rfl
   rw [← mSet_len d.l box t_.2] at H
   replace H := mail_Desk_api_Command.shut al_d (mail_Desk_api_Command.mk (mSet d.l box t_.2)) H.t1
   refine Runs.ret hE Tryz.func28 rfl rfl ?_
   cases hm
   exact ⟨rfl, H.x1⟩

theorem server_Server_Post_ok {w0 w : World} {As : List HP} {p_s : Nat} {al_s : server_Server.A} {s : server_Server} {box : Int} {c_ : api_Command} {t : Int × server_Server}  (hm : server_Server_Post s box c_ = some t) (H : St w0 (server_Server.R p_s al_s s :: As) w) :
    CallsR Tryz.prog 11 #[.pointer (some ⟨p_s, 0, none⟩), .int .i64 box, .agg #[.int .i64 c_.Kind, .int .i64 c_.Queue, .int .i64 c_.Job.At, .int .i64 c_.Job.Gen, .int .i64 c_.Time, .int .i64 c_.Data]] w fun v w' => v = .int .i64 t.1 ∧ St w0 (server_Server.R p_s al_s t.2 :: As) w' := by
 rw [server_Server_Post] at hm
 refine enter (args := [.pointer (some ⟨p_s, 0, none⟩), .int .i64 box, .agg #[.int .i64 c_.Kind, .int .i64 c_.Queue, .int .i64 c_.Job.At, .int .i64 c_.Job.Gen, .int .i64 c_.Time, .int .i64 c_.Data]]) Tryz.func11 rfl rfl rfl fun a hE => ?_
 refine Runs.sr ?_
 refine WR.eff hE rfl rfl rfl rfl (OpTo.new hE H [] (.cells #[.int .i64 c_.Kind, .int .i64 c_.Queue, .int .i64 c_.Job.At, .int .i64 c_.Job.Gen, .int .i64 c_.Time, .int .i64 c_.Data] 33 (0, 0)) (fun r => .pointer (some ⟨r, 0, none⟩)) (obs := []) rfl (fun _ => by kernel_rfl) trivial) ?_
 rintro _ w ⟨r, rfl, H⟩ a hE
 refine WR.seg hE 2 [] [0, 1, 5] (Lo := [(0, .pointer (some ⟨p_s, 0, none⟩)), (1, .int .i64 box), (5, .pointer (some ⟨r, 0, none⟩))]) (obs := []) rfl (by kernel_rfl) trivial fun a hE => ?_
 refine WR.done rfl ?_
 refine Runs.seq ?_
 refine Runs.drawn mixed (by kernel_rfl) ?_
 replace H := H.drew
 replace H := server_Server.open H.t1
 refine WQ.d hE [0, 1, 2, 3, 4, 5] [.pointer (some ⟨al_s.desk_p, 0, none⟩), .int .i64 c_.Kind, .int .i64 c_.Queue, .int .i64 c_.Job.At, .int .i64 c_.Job.Gen, .int .i64 c_.Time, .int .i64 c_.Data] [(10, .pointer (some ⟨al_s.desk_p, 0, none⟩)), (11, .int .i64 box), (12, .agg #[.int .i64 c_.Kind, .int .i64 c_.Queue, .int .i64 c_.Job.At, .int .i64 c_.Job.Gen, .int .i64 c_.Time, .int .i64 c_.Data])] (obs := [.cell ⟨p_s, 1, none⟩ (.pointer (some ⟨al_s.desk_p, 0, none⟩)), .cell ⟨r, 0, none⟩ (.int .i64 c_.Kind), .cell ⟨r, 1, none⟩ (.int .i64 c_.Queue), .cell ⟨r, 2, none⟩ (.int .i64 c_.Job.At), .cell ⟨r, 3, none⟩ (.int .i64 c_.Job.Gen), .cell ⟨r, 4, none⟩ (.int .i64 c_.Time), .cell ⟨r, 5, none⟩ (.int .i64 c_.Data)]) ⟨H.cell 0 rfl rfl, H.cell 3 rfl rfl, H.cell 3 rfl rfl, H.cell 3 rfl rfl, H.cell 3 rfl rfl, H.cell 3 rfl rfl, H.cell 3 rfl rfl, trivial⟩ fun a hE => ?_
 obtain ⟨t_, et_, hm⟩ := bind_some hm
 refine WQ.eff (j := 6) (obs := []) hE (by kernel_rfl) rfl rfl rfl rfl (by kernel_rfl) (OpTo.fn hE rfl rfl Tryz.call28 (mail_Desk_api_Command_Post_ok et_ H.t2)) ?_
 rintro _ w ⟨rfl, H⟩
 refine ⟨trivial, fun a hE => ?_⟩
 refine WQ.d0 hE [7] [(6, .int .i64 t_.1)] fun a hE => ?_
 refine WQ.done (by kernel_rfl) ?_
 replace H := server_Server.shut al_s (server_Server.mk s.d t_.2) H.t2.t2
 refine Runs.ret hE Tryz.func11 rfl rfl ?_
 cases hm
 exact ⟨rfl, H.x1⟩

theorem mail_Box_api_Command_Take_ok {w0 w : World} {As : List HP} {p_b : Nat} {al_b : mail_Box_api_Command.A} {b : mail_Box_api_Command} {t : api_Command × Bool × mail_Box_api_Command}  (hm : mail_Box_api_Command_Take b = some t) (H : St w0 (mail_Box_api_Command.R p_b al_b b :: As) w) :
    CallsR Tryz.prog 59 #[.pointer (some ⟨p_b, 0, none⟩)] w fun v w' => v = .tuple #[.agg #[.int .i64 t.1.Kind, .int .i64 t.1.Queue, .int .i64 t.1.Job.At, .int .i64 t.1.Job.Gen, .int .i64 t.1.Time, .int .i64 t.1.Data], .bool t.2.1] ∧ St w0 (mail_Box_api_Command.R p_b al_b t.2.2 :: As) w' := by
 rw [mail_Box_api_Command_Take] at hm
 refine enter (args := [.pointer (some ⟨p_b, 0, none⟩)]) Tryz.func59 rfl rfl rfl fun a hE => ?_
 refine Runs.sr ?_
 refine WR.eff hE rfl rfl rfl rfl (OpTo.new hE H [] (.cells #[.int .i64 0, .int .i64 0, .int .i64 0, .int .i64 0, .int .i64 0, .int .i64 0] 33 (0, 0)) (fun r => .pointer (some ⟨r, 0, none⟩)) (obs := []) rfl (fun _ => by kernel_rfl) trivial) ?_
 rintro _ w ⟨r, rfl, H⟩ a hE
 refine WR.seg hE 2 [] [0, 2] (Lo := [(0, .pointer (some ⟨p_b, 0, none⟩)), (2, .pointer (some ⟨r, 0, none⟩))]) (obs := []) rfl (by kernel_rfl) trivial fun a hE => ?_
 refine WR.done rfl ?_
 refine Runs.sr ?_
 replace H := mail_Box_api_Command.open H.t1
 refine WR.e hE [.chan (some al_b.c__p)] [(9, .chan (some al_b.c__p))] (obs := [.cell ⟨p_b, 0, none⟩ (.chan (some al_b.c__p))]) ⟨H.cell 0 rfl rfl, trivial⟩ fun a hE => ?_
 refine Runs.seq ?_
 rcases hb : MCh.buf b.c_ with _ | ⟨u, r1⟩
 ·rw [hb] at hm; dsimp only at hm
  replace H := H.t1
  refine Runs.selRecvF hb hE H rfl rfl rfl rfl rfl rfl rfl rfl fun a hE => ?_
  refine WR.e0 hE [(10, .tuple #[.int .i64 (-1), .bool false, .agg #[.int .i64 0, .int .i64 0, .int .i64 0, .int .i64 0, .int .i64 0, .int .i64 0]]), (12, .bool false)] fun a hE => ?_
  refine Runs.block ?_
  refine Runs.condF hE rfl ?_
  refine Runs.sr ?_
  refine WR.eff hE rfl rfl rfl rfl (OpTo.new hE H [] (.cells #[.int .i64 0, .int .i64 0, .int .i64 0, .int .i64 0, .int .i64 0, .int .i64 0] 33 (0, 0)) (fun r => .pointer (some ⟨r, 0, none⟩)) (obs := []) rfl (fun _ => by kernel_rfl) trivial) ?_
  rintro _ w ⟨r2, rfl, H⟩ a hE
  refine WR.done rfl ?_
  refine Runs.sr ?_
  refine WR.d hE 1 [.int .i64 0, .int .i64 0, .int .i64 0, .int .i64 0, .int .i64 0, .int .i64 0] [(13, .agg #[.int .i64 0, .int .i64 0, .int .i64 0, .int .i64 0, .int .i64 0, .int .i64 0])] (obs := [.cell ⟨r2, 0, none⟩ (.int .i64 0), .cell ⟨r2, 1, none⟩ (.int .i64 0), .cell ⟨r2, 2, none⟩ (.int .i64 0), .cell ⟨r2, 3, none⟩ (.int .i64 0), .cell ⟨r2, 4, none⟩ (.int .i64 0), .cell ⟨r2, 5, none⟩ (.int .i64 0)]) ⟨H.cell 0 rfl rfl, H.cell 0 rfl rfl, H.cell 0 rfl rfl, H.cell 0 rfl rfl, H.cell 0 rfl rfl, H.cell 0 rfl rfl, trivial⟩ fun a hE => ?_
  refine WR.eff0 hE rfl rfl rfl (OpTo.store hE H.t3 rfl rfl rfl rfl rfl rfl (Nat.le_of_ble_eq_true rfl)) ?_
  rintro _ w H a hE
  refine WR.e0 hE [(3, .bool false)] fun a hE => ?_
  refine Runs.retO (vs := [.agg #[.int .i64 0, .int .i64 0, .int .i64 0, .int .i64 0, .int .i64 0, .int .i64 0], .bool false]) (obs := [.cell ⟨r, 0, none⟩ (.int .i64 0), .cell ⟨r, 1, none⟩ (.int .i64 0), .cell ⟨r, 2, none⟩ (.int .i64 0), .cell ⟨r, 3, none⟩ (.int .i64 0), .cell ⟨r, 4, none⟩ (.int .i64 0), .cell ⟨r, 5, none⟩ (.int .i64 0)]) hE Tryz.func59 rfl [.int .i64 0, .int .i64 0, .int .i64 0, .int .i64 0, .int .i64 0, .int .i64 0] (by kernel_rfl) ⟨H.cell 0 rfl rfl, H.cell 0 rfl rfl, H.cell 0 rfl rfl, H.cell 0 rfl rfl, H.cell 0 rfl rfl, H.cell 0 rfl rfl, trivial⟩ ?_
  replace H := mail_Box_api_Command.shut al_b (b) H.t2.t3
  cases hm
  exact ⟨rfl, H.x2.x1⟩
 ·rw [hb] at hm; dsimp only at hm
  replace H := H.t1
  refine Runs.selRecvT hb hE H rfl rfl rfl rfl rfl rfl rfl rfl fun a w hE H => ?_
  refine WR.e0 hE [(10, .tuple #[.int .i64 0, .bool true, .agg #[.int .i64 u.Kind, .int .i64 u.Queue, .int .i64 u.Job.At, .int .i64 u.Job.Gen, .int .i64 u.Time, .int .i64 u.Data]]), (12, .bool true)] fun a hE => ?_
  refine Runs.block ?_
  refine Runs.condT hE rfl ?_
  refine Runs.sr ?_
  refine WR.d0 hE 1 [(14, .agg #[.int .i64 u.Kind, .int .i64 u.Queue, .int .i64 u.Job.At, .int .i64 u.Job.Gen, .int .i64 u.Time, .int .i64 u.Data])] fun a hE => ?_
  refine WR.eff hE rfl rfl rfl rfl (OpTo.new hE H [] (.cells #[.int .i64 0, .int .i64 0, .int .i64 0, .int .i64 0, .int .i64 0, .int .i64 0] 33 (0, 0)) (fun r => .pointer (some ⟨r, 0, none⟩)) (obs := []) rfl (fun _ => by kernel_rfl) trivial) ?_
  rintro _ w ⟨r3, rfl, H⟩ a hE
  refine WR.eff0 hE rfl rfl rfl (OpTo.store hE H rfl rfl rfl rfl rfl rfl (Nat.le_of_ble_eq_true rfl)) ?_
  rintro _ w H a hE
  refine WR.done rfl ?_
  refine Runs.sr ?_
  refine WR.d hE 1 [.int .i64 u.Kind, .int .i64 u.Queue, .int .i64 u.Job.At, .int .i64 u.Job.Gen, .int .i64 u.Time, .int .i64 u.Data] [(15, .agg #[.int .i64 u.Kind, .int .i64 u.Queue, .int .i64 u.Job.At, .int .i64 u.Job.Gen, .int .i64 u.Time, .int .i64 u.Data])] (obs := [.cell ⟨r3, 0, none⟩ (.int .i64 u.Kind), .cell ⟨r3, 1, none⟩ (.int .i64 u.Queue), .cell ⟨r3, 2, none⟩ (.int .i64 u.Job.At), .cell ⟨r3, 3, none⟩ (.int .i64 u.Job.Gen), .cell ⟨r3, 4, none⟩ (.int .i64 u.Time), .cell ⟨r3, 5, none⟩ (.int .i64 u.Data)]) ⟨H.cell 0 rfl rfl, H.cell 0 rfl rfl, H.cell 0 rfl rfl, H.cell 0 rfl rfl, H.cell 0 rfl rfl, H.cell 0 rfl rfl, trivial⟩ fun a hE => ?_
  refine WR.eff0 hE rfl rfl rfl (OpTo.store hE H.t3 rfl rfl rfl rfl rfl rfl (Nat.le_of_ble_eq_true rfl)) ?_
  rintro _ w H a hE
  refine WR.e0 hE [(3, .bool true)] fun a hE => ?_
  refine Runs.retO (vs := [.agg #[.int .i64 u.Kind, .int .i64 u.Queue, .int .i64 u.Job.At, .int .i64 u.Job.Gen, .int .i64 u.Time, .int .i64 u.Data], .bool true]) (obs := [.cell ⟨r, 0, none⟩ (.int .i64 u.Kind), .cell ⟨r, 1, none⟩ (.int .i64 u.Queue), .cell ⟨r, 2, none⟩ (.int .i64 u.Job.At), .cell ⟨r, 3, none⟩ (.int .i64 u.Job.Gen), .cell ⟨r, 4, none⟩ (.int .i64 u.Time), .cell ⟨r, 5, none⟩ (.int .i64 u.Data)]) hE Tryz.func59 rfl [.int .i64 u.Kind, .int .i64 u.Queue, .int .i64 u.Job.At, .int .i64 u.Job.Gen, .int .i64 u.Time, .int .i64 u.Data] (by kernel_rfl) ⟨H.cell 0 rfl rfl, H.cell 0 rfl rfl, H.cell 0 rfl rfl, H.cell 0 rfl rfl, H.cell 0 rfl rfl, H.cell 0 rfl rfl, trivial⟩ ?_
  replace H := mail_Box_api_Command.shut al_b (mail_Box_api_Command.mk (MCh.rest b.c_ r1)) H.t2.t3
  cases hm
  exact ⟨rfl, H.x2.x1⟩

theorem mail_Desk_api_Command_Next_ok {w0 w : World} {As : List HP} {k : Nat} {p_d : Nat} {al_d : mail_Desk_api_Command.A} {d : mail_Desk_api_Command} {t : api_Command × Int × Bool × mail_Desk_api_Command}  (hm : mail_Desk_api_Command_Next k d = some t) (H : St w0 (mail_Desk_api_Command.R p_d al_d d :: As) w) :
    CallsR Tryz.prog 29 #[.pointer (some ⟨p_d, 0, none⟩)] w fun v w' => v = .tuple #[.agg #[.int .i64 t.1.Kind, .int .i64 t.1.Queue, .int .i64 t.1.Job.At, .int .i64 t.1.Job.Gen, .int .i64 t.1.Time, .int .i64 t.1.Data], .int .i64 t.2.1, .bool t.2.2.1] ∧ St w0 (mail_Desk_api_Command.R p_d al_d t.2.2.2 :: As) w' := by
 rw [mail_Desk_api_Command_Next] at hm
 refine enter (args := [.pointer (some ⟨p_d, 0, none⟩)]) Tryz.func29 rfl rfl rfl fun a hE => ?_
 refine Runs.sr ?_
 refine WR.eff hE rfl rfl rfl rfl (OpTo.new hE H [] (.cells #[.int .i64 0, .int .i64 0, .int .i64 0, .int .i64 0, .int .i64 0, .int .i64 0] 33 (0, 0)) (fun r => .pointer (some ⟨r, 0, none⟩)) (obs := []) rfl (fun _ => by kernel_rfl) trivial) ?_
 rintro _ w ⟨r, rfl, H⟩ a hE
 refine WR.seg hE 3 [] [0, 2] (Lo := [(0, .pointer (some ⟨p_d, 0, none⟩)), (2, .pointer (some ⟨r, 0, none⟩))]) (obs := []) rfl (by kernel_rfl) trivial fun a hE => ?_
 refine WR.done rfl ?_
 refine Runs.seq ?_
 refine Runs.sr ?_
 replace H := mail_Desk_api_Command.open H.t1
 refine WR.e hE [.slice al_d.l_b d.l.length al_d.l_c] [(13, .slice al_d.l_b d.l.length al_d.l_c), (14, .int .i64 (d.l.length : Int)), (15, .int .i64 0)] (obs := [.cell ⟨p_d, 0, none⟩ (.slice al_d.l_b d.l.length al_d.l_c)]) ⟨H.cell 0 rfl rfl, trivial⟩ fun a hE => ?_
 replace H := mail_Desk_api_Command.shut al_d (d) H.t1.t1
 obtain ⟨s, es, hR⟩ := bind_some hm
 refine Runs.join (fun a w => ∃ s1, s = Sum.inr s1 ∧ EnvOk 30 a [(2, .pointer (some ⟨r, 0, none⟩))] ∧ St w0 (mail_Desk_api_Command.R p_d al_d s1 :: Blk r 33 [.int .i64 0, .int .i64 0, .int .i64 0, .int .i64 0, .int .i64 0, .int .i64 0] :: As) w) (fun hk => ?_) ?_
 ·replace hm := es; clear es
  refine Runs.block ?_
  refine Runs.loop (fun m a w => ∃ (x : Int), ∃ (m_ : mail_Desk_api_Command), EnvOk 30 a [(2, .pointer (some ⟨r, 0, none⟩)), (13, .slice al_d.l_b m_.l.length al_d.l_c), (14, .int .i64 (d.l.length : Int)), (15, .int .i64 x)] ∧ St w0 (mail_Desk_api_Command.R p_d al_d m_ :: Blk r 33 [.int .i64 0, .int .i64 0, .int .i64 0, .int .i64 0, .int .i64 0, .int .i64 0] :: As) w ∧ mail_Desk_api_Command_Next_l0 (d.l.length : Int) m x m_ = some s) k ⟨0, d, hE.sel [2, 13, 14, 15] (by kernel_rfl), H.t1.t1, hm⟩ ?_
  rintro m ih a w ⟨x, m_, hE, H, hm⟩
  cases m with
  | zero => simp [mail_Desk_api_Command_Next_l0] at hm
  | succ m =>
   rw [mail_Desk_api_Command_Next_l0] at hm
   refine Runs.sr ?_
   refine WR.seg hE 1 [] [2, 13, 14, 15, 16] (Lo := [(2, .pointer (some ⟨r, 0, none⟩)), (13, .slice al_d.l_b m_.l.length al_d.l_c), (14, .int .i64 (d.l.length : Int)), (15, .int .i64 x), (16, .bool (decide (x < (d.l.length : Int))))]) (obs := []) rfl (by kernel_rfl) trivial fun a hE => ?_
   refine WR.done rfl ?_
   refine Runs.seq ?_
   refine Runs.cond hE rfl (fun c => ?_) (fun c => ?_)
   ·replace hm := cond_t c hm
    refine Runs.skip ?_
    refine Runs.seq ?_
    refine Runs.block ?_
    refine Runs.sr ?_
    replace H := mail_Desk_api_Command.open H
    obtain ⟨x2, ex2, hm⟩ := bind_some hm
    obtain ⟨gs, ⟨p, al⟩, hgl, hg, H⟩ := St.slxTake (R := mail_Box_api_Command.RX) H.t1 ex2
    replace H : St w0 (mail_Box_api_Command.R p al x2 :: Sl 134 mail_Box_api_Command.encX 1 al_d.l_b al_d.l_c gs :: But mail_Box_api_Command.RX gs m_.l x :: _) _ := H
    obtain ⟨b, o, hs, hb⟩ := SlRd.base (sl_rd 134 mail_Box_api_Command.encX 1 _ _ _) mail_Box_api_Command.encX_ok H 1 rfl hg
    refine WR.e hE [.pointer (some ⟨b, o, none⟩), .pointer (some ⟨p, 0, none⟩)] [(5, .int .i64 x), (6, .pointer (some ⟨p, 0, none⟩))] (obs := [.p ((al_d.l_b : Option Addr) = some ⟨b, o, none⟩), .p (0 ≤ (x : Int) ∧ (x : Int) < ((m_.l.length : Nat) : Int)), .cell ⟨b, o + (Int.toNat x) * 1, none⟩ (.pointer (some ⟨p, 0, none⟩))]) ⟨hs, (by have h_ := hb; rw [hgl] at h_; exact h_), SlRd.cells (sl_rd 134 mail_Box_api_Command.encX 1 _ _ _) mail_Box_api_Command.encX_ok H 1 rfl hs hg 0 _ rfl, trivial⟩ fun a hE => ?_
    refine Runs.sr ?_
    refine WR.d0 hE 1 [(21, .pointer (some ⟨p, 0, none⟩))] fun a hE => ?_
    obtain ⟨t_, et_, hm⟩ := bind_some hm
    refine WR.eff hE rfl rfl rfl rfl (OpTo.fn hE rfl rfl Tryz.call59 (mail_Box_api_Command_Take_ok et_ H)) ?_
    rintro _ w ⟨rfl, H⟩ a hE
    refine WR.d0 hE 5 [(23, .agg #[.int .i64 t_.1.Kind, .int .i64 t_.1.Queue, .int .i64 t_.1.Job.At, .int .i64 t_.1.Job.Gen, .int .i64 t_.1.Time, .int .i64 t_.1.Data]), (24, .bool t_.2.1)] fun a hE => ?_
    refine WR.eff hE rfl rfl rfl rfl (OpTo.new hE H [] (.cells #[.int .i64 0, .int .i64 0, .int .i64 0, .int .i64 0, .int .i64 0, .int .i64 0] 33 (0, 0)) (fun r => .pointer (some ⟨r, 0, none⟩)) (obs := []) rfl (fun _ => by kernel_rfl) trivial) ?_
    rintro _ w ⟨r1, rfl, H⟩ a hE
    refine WR.eff0 hE rfl rfl rfl (OpTo.store hE H rfl rfl rfl rfl rfl rfl (Nat.le_of_ble_eq_true rfl)) ?_
    rintro _ w H a hE
    refine WR.e0 hE [(8, .bool t_.2.1)] fun a hE => ?_
    refine Runs.sr ?_
    refine WR.e0 hE [(25, .bool t_.2.1)] fun a hE => ?_
    refine Runs.cond hE rfl (fun c => ?_) (fun c => ?_)
    ·replace hm := cond_t c hm
     refine Runs.sr ?_
     refine WR.d hE 2 [.int .i64 t_.1.Kind, .int .i64 t_.1.Queue, .int .i64 t_.1.Job.At, .int .i64 t_.1.Job.Gen, .int .i64 t_.1.Time, .int .i64 t_.1.Data] [(26, .agg #[.int .i64 t_.1.Kind, .int .i64 t_.1.Queue, .int .i64 t_.1.Job.At, .int .i64 t_.1.Job.Gen, .int .i64 t_.1.Time, .int .i64 t_.1.Data]), (27, .int .i64 x)] (obs := [.cell ⟨r1, 0, none⟩ (.int .i64 t_.1.Kind), .cell ⟨r1, 1, none⟩ (.int .i64 t_.1.Queue), .cell ⟨r1, 2, none⟩ (.int .i64 t_.1.Job.At), .cell ⟨r1, 3, none⟩ (.int .i64 t_.1.Job.Gen), .cell ⟨r1, 4, none⟩ (.int .i64 t_.1.Time), .cell ⟨r1, 5, none⟩ (.int .i64 t_.1.Data)]) ⟨H.cell 0 rfl rfl, H.cell 0 rfl rfl, H.cell 0 rfl rfl, H.cell 0 rfl rfl, H.cell 0 rfl rfl, H.cell 0 rfl rfl, trivial⟩ fun a hE => ?_
     refine WR.eff0 hE rfl rfl rfl (OpTo.store hE H.t5 rfl rfl rfl rfl rfl rfl (Nat.le_of_ble_eq_true rfl)) ?_
     rintro _ w H a hE
     refine WR.e0 hE [(3, .int .i64 x), (4, .bool true)] fun a hE => ?_
     refine Runs.retO (vs := [.agg #[.int .i64 t_.1.Kind, .int .i64 t_.1.Queue, .int .i64 t_.1.Job.At, .int .i64 t_.1.Job.Gen, .int .i64 t_.1.Time, .int .i64 t_.1.Data], .int .i64 x, .bool true]) (obs := [.cell ⟨r, 0, none⟩ (.int .i64 t_.1.Kind), .cell ⟨r, 1, none⟩ (.int .i64 t_.1.Queue), .cell ⟨r, 2, none⟩ (.int .i64 t_.1.Job.At), .cell ⟨r, 3, none⟩ (.int .i64 t_.1.Job.Gen), .cell ⟨r, 4, none⟩ (.int .i64 t_.1.Time), .cell ⟨r, 5, none⟩ (.int .i64 t_.1.Data)]) hE Tryz.func29 rfl [.int .i64 t_.1.Kind, .int .i64 t_.1.Queue, .int .i64 t_.1.Job.At, .int .i64 t_.1.Job.Gen, .int .i64 t_.1.Time, .int .i64 t_.1.Data] (by kernel_rfl) ⟨H.cell 0 rfl rfl, H.cell 0 rfl rfl, H.cell 0 rfl rfl, H.cell 0 rfl rfl, H.cell 0 rfl rfl, H.cell 0 rfl rfl, trivial⟩ ?_
     replace H := St.slxPut (R := mail_Box_api_Command.RX) (g' := (p, al)) (x' := t_.2.2) H.t4.t4.t4 ex2 hgl hg rfl
     rw [← mSet_len m_.l x t_.2.2] at H
     replace H := mail_Desk_api_Command.shut al_d (mail_Desk_api_Command.mk (mSet m_.l x t_.2.2)) H.t3
     cases hm
     dsimp only at hR; cases hR
     exact ⟨rfl, H.x2.x1⟩
    ·replace hm := cond_f c hm
     refine Runs.skip ?_
     refine Runs.inBlock ?_
     refine Runs.region ?_
     refine WR.e0 hE [(15, .int .i64 (w64 (x + 1)))] fun a hE => ?_
     replace H := St.slxPut (R := mail_Box_api_Command.RX) (g' := (p, al)) (x' := t_.2.2) H.t3.t3.t3 ex2 hgl hg rfl
     rw [← mSet_len m_.l x t_.2.2] at H
     try rw [← mSet_len m_.l x t_.2.2] at hE
     replace H := mail_Desk_api_Command.shut al_d (mail_Desk_api_Command.mk (mSet m_.l x t_.2.2)) H.t2
     exact ih m (Nat.lt_succ_self m) _ _ ⟨w64 (x + 1), mail_Desk_api_Command.mk (mSet m_.l x t_.2.2), hE.sel [2, 13, 14, 15] (by kernel_rfl), H.x1.t1.t1, hm⟩
   ·replace hm := cond_f c hm
    refine Runs.exit rfl ?_
    cases hm
    exact hk _ _ ⟨_, rfl, hE.sel [2] (by kernel_rfl), H.t1.t1⟩
 rintro a w ⟨s1, rfl, hE, H⟩
 replace hm := hR; dsimp only at hm
 refine Runs.sr ?_
 refine WR.eff hE rfl rfl rfl rfl (OpTo.new hE H [] (.cells #[.int .i64 0, .int .i64 0, .int .i64 0, .int .i64 0, .int .i64 0, .int .i64 0] 33 (0, 0)) (fun r => .pointer (some ⟨r, 0, none⟩)) (obs := []) rfl (fun _ => by kernel_rfl) trivial) ?_
 rintro _ w ⟨r2, rfl, H⟩ a hE
 refine WR.done rfl ?_
 refine Runs.sr ?_
 refine WR.seg hE 1 [.int .i64 0, .int .i64 0, .int .i64 0, .int .i64 0, .int .i64 0, .int .i64 0] [2, 29] (Lo := [(2, .pointer (some ⟨r, 0, none⟩)), (29, .agg #[.int .i64 0, .int .i64 0, .int .i64 0, .int .i64 0, .int .i64 0, .int .i64 0])]) (obs := [.cell ⟨r2, 0, none⟩ (.int .i64 0), .cell ⟨r2, 1, none⟩ (.int .i64 0), .cell ⟨r2, 2, none⟩ (.int .i64 0), .cell ⟨r2, 3, none⟩ (.int .i64 0), .cell ⟨r2, 4, none⟩ (.int .i64 0), .cell ⟨r2, 5, none⟩ (.int .i64 0)]) rfl (by kernel_rfl) ⟨H.cell 0 rfl rfl, H.cell 0 rfl rfl, H.cell 0 rfl rfl, H.cell 0 rfl rfl, H.cell 0 rfl rfl, H.cell 0 rfl rfl, trivial⟩ fun a hE => ?_
 refine WR.eff0 hE rfl rfl rfl (OpTo.store hE H.t2 rfl rfl rfl rfl rfl rfl (Nat.le_of_ble_eq_true rfl)) ?_
 rintro _ w H a hE
 refine WR.e0 hE [(3, .int .i64 0), (4, .bool false)] fun a hE => ?_
 refine Runs.retO (vs := [.agg #[.int .i64 0, .int .i64 0, .int .i64 0, .int .i64 0, .int .i64 0, .int .i64 0], .int .i64 0, .bool false]) (obs := [.cell ⟨r, 0, none⟩ (.int .i64 0), .cell ⟨r, 1, none⟩ (.int .i64 0), .cell ⟨r, 2, none⟩ (.int .i64 0), .cell ⟨r, 3, none⟩ (.int .i64 0), .cell ⟨r, 4, none⟩ (.int .i64 0), .cell ⟨r, 5, none⟩ (.int .i64 0)]) hE Tryz.func29 rfl [.int .i64 0, .int .i64 0, .int .i64 0, .int .i64 0, .int .i64 0, .int .i64 0] (by kernel_rfl) ⟨H.cell 0 rfl rfl, H.cell 0 rfl rfl, H.cell 0 rfl rfl, H.cell 0 rfl rfl, H.cell 0 rfl rfl, H.cell 0 rfl rfl, trivial⟩ ?_
 cases hm
 exact ⟨rfl, H.x1.x0⟩

theorem meter_Meter_Steps_ok {w0 w : World} {As : List HP} {p_m_ : Nat} {m_ : meter_Meter} {t : Int}  (hm : meter_Meter_Steps m_ = some t) (H : St w0 (meter_Meter.R p_m_ m_ :: As) w) :
    CallsR Tryz.prog 85 #[.pointer (some ⟨p_m_, 0, none⟩)] w fun v w' => v = .int .i64 t ∧ St w0 (meter_Meter.R p_m_ m_ :: As) w' := by
 rw [meter_Meter_Steps] at hm
 refine enter (args := [.pointer (some ⟨p_m_, 0, none⟩)]) Tryz.func85 rfl rfl rfl fun a hE => ?_
 refine Runs.sr ?_
 refine WR.seg hE 1 [] [0] (Lo := [(0, .pointer (some ⟨p_m_, 0, none⟩))]) (obs := []) rfl (by kernel_rfl) trivial fun a hE => ?_
 refine WR.done rfl ?_
 refine Runs.sr ?_
 replace H := meter_Meter.open H
 refine WR.e hE [.int .i64 m_.steps] [(2, .int .i64 m_.steps)] (obs := [.cell ⟨p_m_, 0, none⟩ (.int .i64 m_.steps)]) ⟨H.cell 0 rfl rfl, trivial⟩ fun a hE => ?_
 replace H := meter_Meter.shut (m_) H
 refine Runs.ret hE Tryz.func85 rfl rfl ?_
 cases hm
 exact ⟨rfl, H⟩

theorem pq_Queues_Steps_ok {w0 w : World} {As : List HP} {p_q : Nat} {al_q : pq_Queues.A} {q : pq_Queues} {t : Int}  (hm : pq_Queues_Steps q = some t) (H : St w0 (pq_Queues.R p_q al_q q :: As) w) :
    CallsR Tryz.prog 60 #[.pointer (some ⟨p_q, 0, none⟩)] w fun v w' => v = .int .i64 t ∧ St w0 (pq_Queues.R p_q al_q q :: As) w' := by
 rw [pq_Queues_Steps] at hm
 refine enter (args := [.pointer (some ⟨p_q, 0, none⟩)]) Tryz.func60 rfl rfl rfl fun a hE => ?_
 refine Runs.sr ?_
 refine WR.seg hE 1 [] [0] (Lo := [(0, .pointer (some ⟨p_q, 0, none⟩))]) (obs := []) rfl (by kernel_rfl) trivial fun a hE => ?_
 refine WR.done rfl ?_
 refine Runs.sr ?_
 replace H := pq_Queues.open H
 refine WR.d hE 4 [.pointer (some ⟨al_q.a__p, 0, none⟩)] [(6, .pointer (some ⟨al_q.a__p, 0, none⟩))] (obs := [.cell ⟨p_q, 1, none⟩ (.pointer (some ⟨al_q.a__p, 0, none⟩))]) ⟨H.cell 0 rfl rfl, trivial⟩ fun a hE => ?_
 obtain ⟨t_, et_, hm⟩ := bind_some hm
 refine WR.eff hE rfl rfl rfl rfl (OpTo.fn hE rfl rfl Tryz.call74 (arena_Arena_Meter_ok et_ H.t1)) ?_
 rintro _ w ⟨rfl, H⟩ a hE
 replace H := arena_Arena.open H
 obtain ⟨t_1, et_1, hm⟩ := bind_some hm
 refine WR.eff hE rfl rfl rfl rfl (OpTo.fn hE rfl rfl Tryz.call85 (meter_Meter_Steps_ok et_1 H.t3)) ?_
 rintro _ w ⟨rfl, H⟩ a hE
 refine WR.e0 hE [(2, .int .i64 t_1)] fun a hE => ?_
 replace H := arena_Arena.shut al_q.a__a (q.a_) H.t3.t3.t3
 replace H := pq_Queues.shut al_q (q) H.t3.t3.t2.t3
 refine Runs.ret hE Tryz.func60 rfl rfl ?_
 cases hm
 exact ⟨rfl, H⟩

theorem dispatch_refused_ok {w0 w : World} {As : List HP} {why : Int} {t : api_Reply}  (hm : dispatch_refused why = some t) (H : St w0 (As) w) :
    CallsR Tryz.prog 62 #[.int .i64 why] w fun v w' => v = .agg #[.int .i64 t.Why, .int .i64 t.Job.At, .int .i64 t.Job.Gen, .int .i64 t.Time, .int .i64 t.Data, .int .i64 t.N] ∧ St w0 (As) w' := by
 rw [dispatch_refused] at hm
 refine enter (args := [.int .i64 why]) Tryz.func62 rfl rfl rfl fun a hE => ?_
 refine Runs.sr ?_
 refine WR.eff hE rfl rfl rfl rfl (OpTo.new hE H [] (.cells #[.int .i64 0, .int .i64 0, .int .i64 0, .int .i64 0, .int .i64 0, .int .i64 0] 35 (0, 0)) (fun r => .pointer (some ⟨r, 0, none⟩)) (obs := []) rfl (fun _ => by kernel_rfl) trivial) ?_
 rintro _ w ⟨r, rfl, H⟩ a hE
 refine WR.done rfl ?_
 refine Runs.sr ?_
 refine WR.seg hE 2 [] [2, 4] (Lo := [(2, .pointer (some ⟨r, 0, none⟩)), (4, .agg #[.int .i64 why, .int .i64 0, .int .i64 0, .int .i64 0, .int .i64 0, .int .i64 0])]) (obs := []) rfl (by kernel_rfl) trivial fun a hE => ?_
 refine WR.eff0 hE rfl rfl rfl (OpTo.store hE H rfl rfl rfl rfl rfl rfl (Nat.le_of_ble_eq_true rfl)) ?_
 rintro _ w H a hE
 refine WR.done rfl ?_
 refine Runs.retO (vs := [.agg #[.int .i64 why, .int .i64 0, .int .i64 0, .int .i64 0, .int .i64 0, .int .i64 0]]) (obs := [.cell ⟨r, 0, none⟩ (.int .i64 why), .cell ⟨r, 1, none⟩ (.int .i64 0), .cell ⟨r, 2, none⟩ (.int .i64 0), .cell ⟨r, 3, none⟩ (.int .i64 0), .cell ⟨r, 4, none⟩ (.int .i64 0), .cell ⟨r, 5, none⟩ (.int .i64 0)]) hE Tryz.func62 rfl [.int .i64 why, .int .i64 0, .int .i64 0, .int .i64 0, .int .i64 0, .int .i64 0] (by kernel_rfl) ⟨H.cell 0 rfl rfl, H.cell 0 rfl rfl, H.cell 0 rfl rfl, H.cell 0 rfl rfl, H.cell 0 rfl rfl, H.cell 0 rfl rfl, trivial⟩ ?_
 cases hm
 exact ⟨rfl, H.x0⟩

theorem pool_Pool_jobs_Job_Len_ok {w0 w : World} {As : List HP} {p_p : Nat} {al_p : pool_Pool_jobs_Job.A} {p : pool_Pool_jobs_Job} {t : Int}  (hm : pool_Pool_jobs_Job_Len p = some t) (H : St w0 (pool_Pool_jobs_Job.R p_p al_p p :: As) w) :
    CallsR Tryz.prog 94 #[.pointer (some ⟨p_p, 0, none⟩)] w fun v w' => v = .int .i64 t ∧ St w0 (pool_Pool_jobs_Job.R p_p al_p p :: As) w' := by
 rw [pool_Pool_jobs_Job_Len] at hm
 refine enter (args := [.pointer (some ⟨p_p, 0, none⟩)]) Tryz.func94 rfl rfl rfl fun a hE => ?_
 refine Runs.sr ?_
 refine WR.seg hE 1 [] [0] (Lo := [(0, .pointer (some ⟨p_p, 0, none⟩))]) (obs := []) rfl (by kernel_rfl) trivial fun a hE => ?_
 refine WR.done rfl ?_
 refine Runs.seq ?_
 refine Runs.drawn mixed (by kernel_rfl) ?_
 replace H := H.drew
 replace H := pool_Pool_jobs_Job.open H
 refine WQ.d hE [0, 1, 2, 3, 4, 5, 6, 7, 8, 9, 10, 11] [.slice al_p.l_b p.l.length al_p.l_c, .slice al_p.free_b p.free.length al_p.free_c] [(2, .int .i64 (w64 ((p.l.length : Int) - (p.free.length : Int))))] (obs := [.cell ⟨p_p, 1, none⟩ (.slice al_p.l_b p.l.length al_p.l_c), .cell ⟨p_p, 2, none⟩ (.slice al_p.free_b p.free.length al_p.free_c)]) ⟨H.cell 0 rfl rfl, H.cell 0 rfl rfl, trivial⟩ fun a hE => ?_
 refine WQ.done (by kernel_rfl) ?_
 replace H := pool_Pool_jobs_Job.shut al_p (p) H.t2.t2.t2
 refine Runs.ret hE Tryz.func94 rfl rfl ?_
 cases hm
 exact ⟨rfl, H⟩

theorem jobs_Table_Len_ok {w0 w : World} {As : List HP} {p_t_ : Nat} {al_t_ : jobs_Table.A} {t_ : jobs_Table} {t : Int}  (hm : jobs_Table_Len t_ = some t) (H : St w0 (jobs_Table.R p_t_ al_t_ t_ :: As) w) :
    CallsR Tryz.prog 64 #[.pointer (some ⟨p_t_, 0, none⟩)] w fun v w' => v = .int .i64 t ∧ St w0 (jobs_Table.R p_t_ al_t_ t_ :: As) w' := by
 rw [jobs_Table_Len] at hm
 refine enter (args := [.pointer (some ⟨p_t_, 0, none⟩)]) Tryz.func64 rfl rfl rfl fun a hE => ?_
 refine Runs.sr ?_
 refine WR.seg hE 1 [] [0] (Lo := [(0, .pointer (some ⟨p_t_, 0, none⟩))]) (obs := []) rfl (by kernel_rfl) trivial fun a hE => ?_
 refine WR.done rfl ?_
 refine Runs.sr ?_
 replace H := jobs_Table.open H
 refine WR.d hE 4 [.pointer (some ⟨al_t_.p_p, 0, none⟩)] [(6, .pointer (some ⟨al_t_.p_p, 0, none⟩))] (obs := [.cell ⟨p_t_, 0, none⟩ (.pointer (some ⟨al_t_.p_p, 0, none⟩))]) ⟨H.cell 0 rfl rfl, trivial⟩ fun a hE => ?_
 obtain ⟨t_1, et_1, hm⟩ := bind_some hm
 refine WR.eff hE rfl rfl rfl rfl (OpTo.fn hE rfl rfl Tryz.call94 (pool_Pool_jobs_Job_Len_ok et_1 H.t1)) ?_
 rintro _ w ⟨rfl, H⟩ a hE
 refine WR.e0 hE [(2, .int .i64 t_1)] fun a hE => ?_
 replace H := jobs_Table.shut al_t_ (t_) H.t2.t1.t2
 refine Runs.ret hE Tryz.func64 rfl rfl ?_
 cases hm
 exact ⟨rfl, H⟩

theorem pool_Pool_jobs_Job_Places_ok {w0 w : World} {As : List HP} {p_p : Nat} {al_p : pool_Pool_jobs_Job.A} {p : pool_Pool_jobs_Job} {t : Int}  (hm : pool_Pool_jobs_Job_Places p = some t) (H : St w0 (pool_Pool_jobs_Job.R p_p al_p p :: As) w) :
    CallsR Tryz.prog 189 #[.pointer (some ⟨p_p, 0, none⟩)] w fun v w' => v = .int .i64 t ∧ St w0 (pool_Pool_jobs_Job.R p_p al_p p :: As) w' := by
 rw [pool_Pool_jobs_Job_Places] at hm
 refine enter (args := [.pointer (some ⟨p_p, 0, none⟩)]) Tryz.func189 rfl rfl rfl fun a hE => ?_
 refine Runs.sr ?_
 refine WR.seg hE 1 [] [0] (Lo := [(0, .pointer (some ⟨p_p, 0, none⟩))]) (obs := []) rfl (by kernel_rfl) trivial fun a hE => ?_
 refine WR.done rfl ?_
 refine Runs.sr ?_
 replace H := pool_Pool_jobs_Job.open H
 refine WR.e hE [.int .i64 p.most] [(2, .int .i64 p.most)] (obs := [.cell ⟨p_p, 0, none⟩ (.int .i64 p.most)]) ⟨H.cell 0 rfl rfl, trivial⟩ fun a hE => ?_
 replace H := pool_Pool_jobs_Job.shut al_p (p) H.t2.t2.t2
 refine Runs.ret hE Tryz.func189 rfl rfl ?_
 cases hm
 exact ⟨rfl, H⟩

theorem pool_Pool_jobs_Job_Take_ok {w0 w : World} {As : List HP} {p_p : Nat} {al_p : pool_Pool_jobs_Job.A} {p : pool_Pool_jobs_Job} {v_ : jobs_Job} {t : api_Ref × Bool × pool_Pool_jobs_Job}  (hm : pool_Pool_jobs_Job_Take p v_ = some t) (H : St w0 (pool_Pool_jobs_Job.R p_p al_p p :: As) w) :
    CallsR Tryz.prog 190 #[.pointer (some ⟨p_p, 0, none⟩), .agg #[.int .i64 v_.Queue, .int .i64 v_.Time, .int .i64 v_.Data, .int .i64 v_.Item.At, .int .i64 v_.Item.Gen]] w fun v w' => ∃ (z_p_l_b : Option Addr), ∃ (z_p_l_c : Nat), ∃ (z_p_free_b : Option Addr), ∃ (z_p_free_c : Nat), v = .tuple #[.agg #[.int .i64 t.1.At, .int .i64 t.1.Gen], .bool t.2.1] ∧ St w0 (pool_Pool_jobs_Job.R p_p (pool_Pool_jobs_Job.A.mk z_p_l_b z_p_l_c z_p_free_b z_p_free_c) t.2.2 :: As) w' := by
 rw [pool_Pool_jobs_Job_Take] at hm
 refine enter (args := [.pointer (some ⟨p_p, 0, none⟩), .agg #[.int .i64 v_.Queue, .int .i64 v_.Time, .int .i64 v_.Data, .int .i64 v_.Item.At, .int .i64 v_.Item.Gen]]) Tryz.func190 rfl rfl rfl fun a hE => ?_
 refine Runs.sr ?_
 refine WR.eff hE rfl rfl rfl rfl (OpTo.new hE H [] (.cells #[.int .i64 v_.Queue, .int .i64 v_.Time, .int .i64 v_.Data, .int .i64 v_.Item.At, .int .i64 v_.Item.Gen] 160 (0, 0)) (fun r => .pointer (some ⟨r, 0, none⟩)) (obs := []) rfl (fun _ => by kernel_rfl) trivial) ?_
 rintro _ w ⟨r, rfl, H⟩ a hE
 refine WR.eff hE rfl rfl rfl rfl (OpTo.new hE H [] (.cells #[.int .i64 0, .int .i64 0] 31 (0, 0)) (fun r => .pointer (some ⟨r, 0, none⟩)) (obs := []) rfl (fun _ => by kernel_rfl) trivial) ?_
 rintro _ w ⟨r1, rfl, H⟩ a hE
 refine WR.seg hE 3 [] [0, 3, 4] (Lo := [(0, .pointer (some ⟨p_p, 0, none⟩)), (3, .pointer (some ⟨r, 0, none⟩)), (4, .pointer (some ⟨r1, 0, none⟩))]) (obs := []) rfl (by kernel_rfl) trivial fun a hE => ?_
 refine WR.done rfl ?_
 refine Runs.sr ?_
 replace H := pool_Pool_jobs_Job.open H.t2
 refine WR.e hE [.slice al_p.l_b p.l.length al_p.l_c] [(6, .int .i64 (p.l.length : Int))] (obs := [.cell ⟨p_p, 1, none⟩ (.slice al_p.l_b p.l.length al_p.l_c)]) ⟨H.cell 0 rfl rfl, trivial⟩ fun a hE => ?_
 refine Runs.seq ?_
 refine Runs.sr ?_
 refine WR.e hE [.slice al_p.free_b p.free.length al_p.free_c] [(7, .int .i64 (w64 ((p.free.length : Int) - 1)))] (obs := [.cell ⟨p_p, 2, none⟩ (.slice al_p.free_b p.free.length al_p.free_c)]) ⟨H.cell 0 rfl rfl, trivial⟩ fun a hE => ?_
 refine Runs.sr ?_
 refine WR.e0 hE [(21, .bool (decide (w64 ((p.free.length : Int) - 1) ≥ 0)))] fun a hE => ?_
 replace H := pool_Pool_jobs_Job.shut al_p (p) H.t2.t2.t2
 obtain ⟨s, es, hR⟩ := bind_some hm
 refine Runs.join (fun a w => ∃ s1, s = Sum.inr s1 ∧ ∃ (z : Option Addr), ∃ (z1 : Nat), ∃ (z2 : Option Addr), ∃ (z3 : Nat), EnvOk 81 a [(0, .pointer (some ⟨p_p, 0, none⟩)), (3, .pointer (some ⟨r, 0, none⟩)), (4, .pointer (some ⟨r1, 0, none⟩)), (6, .int .i64 s1.1)] ∧ St w0 (pool_Pool_jobs_Job.R p_p (pool_Pool_jobs_Job.A.mk z z1 z2 z3) s1.2 :: Blk r1 31 [.int .i64 0, .int .i64 0] :: Blk r 160 [.int .i64 v_.Queue, .int .i64 v_.Time, .int .i64 v_.Data, .int .i64 v_.Item.At, .int .i64 v_.Item.Gen] :: As) w) (fun hk => ?_) ?_
 ·replace hm := es; clear es
  refine Runs.cond hE rfl (fun c => ?_) (fun c => ?_)
  ·replace hm := cond_t c hm
   refine Runs.sr ?_
   replace H := pool_Pool_jobs_Job.open H
   obtain ⟨x, ex, hm⟩ := bind_some hm
   obtain ⟨b, o, hs, hb⟩ := SlRd.base (sl_rd 3 ecI 1 _ _ _) ecI_ok H 2 rfl ex
   refine WR.e hE [.slice al_p.free_b p.free.length al_p.free_c, .pointer (some ⟨b, o, none⟩), .int .i64 x] [(6, .int .i64 x)] (obs := [.cell ⟨p_p, 2, none⟩ (.slice al_p.free_b p.free.length al_p.free_c), .p ((al_p.free_b : Option Addr) = some ⟨b, o, none⟩), .p (0 ≤ ((w64 ((p.free.length : Int) - 1)) : Int) ∧ ((w64 ((p.free.length : Int) - 1)) : Int) < ((p.free.length : Nat) : Int)), .cell ⟨b, o + (Int.toNat (w64 ((p.free.length : Int) - 1))) * 1, none⟩ (.int .i64 x)]) ⟨H.cell 0 rfl rfl, hs, hb, SlRd.cells (sl_rd 3 ecI 1 _ _ _) ecI_ok H 2 rfl hs ex 0 _ rfl, trivial⟩ fun a hE => ?_
   refine Runs.region ?_
   obtain ⟨l, el, hm⟩ := bind_some hm
   obtain ⟨sb, q⟩ : ∃ z, rebase al_p.free_b al_p.free_c (Int.toNat 0) 1 = z := ⟨_, rfl⟩
   obtain ⟨sc, q1⟩ : ∃ z, al_p.free_c - (Int.toNat 0) = z := ⟨_, rfl⟩
   refine WR.d hE 9 [.slice al_p.free_b p.free.length al_p.free_c, .slice sb l.length sc] [(35, .slice sb l.length sc), (37, .pointer (some ⟨p_p, 2, none⟩))] (obs := [.cell ⟨p_p, 2, none⟩ (.slice al_p.free_b p.free.length al_p.free_c), .p (rebase al_p.free_b al_p.free_c 0 1 = sb), .p ((Int.toNat (w64 ((p.free.length : Int) - 1))) - 0 = l.length), .p (al_p.free_c - 0 = sc), .p (0 ≤ ((w64 ((p.free.length : Int) - 1)) : Int) ∧ ((w64 ((p.free.length : Int) - 1)) : Int) ≤ ((al_p.free_c : Nat) : Int))]) ⟨H.cell 0 rfl rfl, q, cut_len el, q1, cut_cap el (H.slCap 2 rfl).1, trivial⟩ fun a hE => ?_
   refine WR.eff0 hE rfl rfl rfl (OpTo.store hE H rfl rfl rfl rfl rfl rfl (Nat.le_of_ble_eq_true rfl)) ?_
   rintro _ w H a hE
   refine WR.done rfl ?_
   replace H := H.t2.slCut' ecI_ok el q q1
   replace H := pool_Pool_jobs_Job.shut (pool_Pool_jobs_Job.A.mk al_p.l_b al_p.l_c sb sc) (pool_Pool_jobs_Job.mk p.most p.l l) H.t2.t2
   cases hm
   exact hk _ _ ⟨_, rfl, al_p.l_b, al_p.l_c, sb, sc, hE.sel [0, 3, 4, 6] (by kernel_rfl), H.t2.t2.t2⟩
  ·replace hm := cond_f c hm
   refine Runs.sr ?_
   replace H := pool_Pool_jobs_Job.open H
   refine WR.e hE [.int .i64 p.most] [(43, .bool (decide ((p.l.length : Int) ≥ p.most)))] (obs := [.cell ⟨p_p, 0, none⟩ (.int .i64 p.most)]) ⟨H.cell 0 rfl rfl, trivial⟩ fun a hE => ?_
   refine Runs.cond hE rfl (fun c => ?_) (fun c => ?_)
   ·replace hm := cond_t c hm
    refine Runs.sr ?_
    refine WR.d0 hE 1 [(44, .agg #[.int .i64 0, .int .i64 0])] fun a hE => ?_
    refine WR.eff0 hE rfl rfl rfl (OpTo.store hE H.t3 rfl rfl rfl rfl rfl rfl (Nat.le_of_ble_eq_true rfl)) ?_
    rintro _ w H a hE
    refine WR.e0 hE [(5, .bool false)] fun a hE => ?_
    refine Runs.retO (vs := [.agg #[.int .i64 0, .int .i64 0], .bool false]) (obs := [.cell ⟨r1, 0, none⟩ (.int .i64 0), .cell ⟨r1, 1, none⟩ (.int .i64 0)]) hE Tryz.func190 rfl [.int .i64 0, .int .i64 0] (by kernel_rfl) ⟨H.cell 0 rfl rfl, H.cell 0 rfl rfl, trivial⟩ ?_
    replace H := pool_Pool_jobs_Job.shut al_p (p) H.t3.t3.t3
    cases hm
    dsimp only at hR; cases hR
    exact ⟨al_p.l_b, al_p.l_c, al_p.free_b, al_p.free_c, rfl, H.x2.x1⟩
   ·replace hm := cond_f c hm
    refine Runs.region ?_
    refine WR.d hE 6 [.slice al_p.l_b p.l.length al_p.l_c] [(45, .pointer (some ⟨p_p, 0, none⟩)), (49, .slice al_p.l_b p.l.length al_p.l_c), (50, .agg #[.int .i64 0, .bool false, .int .i64 0, .int .i64 0, .int .i64 0, .int .i64 0, .int .i64 0])] (obs := [.cell ⟨p_p, 1, none⟩ (.slice al_p.l_b p.l.length al_p.l_c)]) ⟨H.cell 0 rfl rfl, trivial⟩ fun a hE => ?_
    refine WR.eff hE rfl rfl rfl rfl (OpTo.buildSl (T := 263) hE H pool_place_jobs_Job.enc_ok ([pool_place_jobs_Job.mk 0 false (jobs_Job.mk 0 0 0 (api_Ref.mk 0 0))] : List pool_place_jobs_Job) rfl (fun _ => by kernel_rfl) rfl rfl rfl) ?_
    rintro _ w ⟨r2, rfl, H⟩ a hE
    obtain ⟨l1, el1, hm⟩ := bind_some hm
    replace H := H.t2
    refine WR.eff hE rfl rfl rfl rfl (OpTo.appendM el1 hE H pool_place_jobs_Job.enc_ok rfl rfl rfl rfl rfl rfl rfl rfl rfl rfl (SlRd.all (sl_rd 263 pool_place_jobs_Job.enc 7 _ _ _) pool_place_jobs_Job.enc_ok H 1 rfl) rfl) ?_
    rintro _ w ⟨sb1, sc1, rfl, H⟩ a hE
    refine WR.d0 hE 10 [(54, .pointer (some ⟨p_p, 1, none⟩))] fun a hE => ?_
    refine WR.eff0 hE rfl rfl rfl (OpTo.store hE H.t2 rfl rfl rfl rfl rfl rfl (Nat.le_of_ble_eq_true rfl)) ?_
    rintro _ w H a hE
    refine WR.done rfl ?_
    replace H := pool_Pool_jobs_Job.shut (pool_Pool_jobs_Job.A.mk sb1 sc1 al_p.free_b al_p.free_c) (pool_Pool_jobs_Job.mk p.most l1 p.free) H.t3.t2.t2
    cases hm
    exact hk _ _ ⟨_, rfl, sb1, sc1, al_p.free_b, al_p.free_c, hE.sel [0, 3, 4, 6] (by kernel_rfl), H.x1.t2.t2.t2⟩
 rintro a w ⟨s1, rfl, z, z1, z2, z3, hE, H⟩
 replace hm := hR; dsimp only at hm
 refine Runs.sr ?_
 replace H := pool_Pool_jobs_Job.open H
 try dsimp only at H
 obtain ⟨x1, ex1, hm⟩ := bind_some hm
 obtain ⟨b1, o1, hs1, hb1⟩ := SlRd.base (sl_rd 263 pool_place_jobs_Job.enc 7 _ _ _) pool_place_jobs_Job.enc_ok H 1 rfl ex1
 refine WR.seg hE 7 [.slice z s1.2.l.length z1, .pointer (some ⟨b1, o1, none⟩)] [3, 4, 6, 8] (Lo := [(3, .pointer (some ⟨r, 0, none⟩)), (4, .pointer (some ⟨r1, 0, none⟩)), (6, .int .i64 s1.1), (8, .pointer (some ⟨b1, o1 + (Int.toNat s1.1) * 7, none⟩))]) (obs := [.cell ⟨p_p, 1, none⟩ (.slice z s1.2.l.length z1), .p ((z : Option Addr) = some ⟨b1, o1, none⟩), .p (0 ≤ (s1.1 : Int) ∧ (s1.1 : Int) < ((s1.2.l.length : Nat) : Int))]) rfl (by kernel_rfl) ⟨H.cell 0 rfl rfl, hs1, hb1, trivial⟩ fun a hE => ?_
 refine WR.done rfl ?_
 refine Runs.sr ?_
 refine WR.d hE 7 [.int .i64 x1.gen] [(65, .int .i64 (w64 (x1.gen + 1))), (67, .pointer (some ⟨b1, o1 + (Int.toNat s1.1) * 7, none⟩))] (obs := [.cell ⟨b1, o1 + (Int.toNat s1.1) * 7, none⟩ (.int .i64 x1.gen)]) ⟨SlRd.cells (sl_rd 263 pool_place_jobs_Job.enc 7 _ _ _) pool_place_jobs_Job.enc_ok H 1 rfl hs1 ex1 0 _ rfl, trivial⟩ fun a hE => ?_
 refine WR.eff0 hE rfl rfl rfl (OpTo.storeSl (q := 0) (x' := (pool_place_jobs_Job.mk (w64 (x1.gen + 1)) x1.taken x1.v_)) hE H.t1 pool_place_jobs_Job.enc_ok rfl hs1 ex1 rfl rfl rfl rfl rfl (Nat.le_of_ble_eq_true rfl) rfl) ?_
 rintro _ w H a hE
 rw [← mSet_len s1.2.l s1.1 (pool_place_jobs_Job.mk (w64 (x1.gen + 1)) x1.taken x1.v_)] at H
 refine WR.done rfl ?_
 refine Runs.seq ?_
 refine Runs.drawn mixed (by kernel_rfl) ?_
 replace H := H.drew
 refine WQ.d hE [0, 1, 2, 3, 4] [.int .i64 v_.Queue, .int .i64 v_.Time, .int .i64 v_.Data, .int .i64 v_.Item.At, .int .i64 v_.Item.Gen] [(69, .pointer (some ⟨b1, o1 + (Int.toNat s1.1) * 7, none⟩)), (70, .agg #[.int .i64 v_.Queue, .int .i64 v_.Time, .int .i64 v_.Data, .int .i64 v_.Item.At, .int .i64 v_.Item.Gen]), (72, .pointer (some ⟨b1, o1 + (Int.toNat s1.1) * 7 + 1, none⟩))] (obs := [.cell ⟨r, 0, none⟩ (.int .i64 v_.Queue), .cell ⟨r, 1, none⟩ (.int .i64 v_.Time), .cell ⟨r, 2, none⟩ (.int .i64 v_.Data), .cell ⟨r, 3, none⟩ (.int .i64 v_.Item.At), .cell ⟨r, 4, none⟩ (.int .i64 v_.Item.Gen)]) ⟨H.cell 4 rfl rfl, H.cell 4 rfl rfl, H.cell 4 rfl rfl, H.cell 4 rfl rfl, H.cell 4 rfl rfl, trivial⟩ fun a hE => ?_
 refine WQ.eff0 (j := 5) (obs := [.cell ⟨r, 0, none⟩ (.int .i64 v_.Queue), .cell ⟨r, 1, none⟩ (.int .i64 v_.Time), .cell ⟨r, 2, none⟩ (.int .i64 v_.Data), .cell ⟨r, 3, none⟩ (.int .i64 v_.Item.At), .cell ⟨r, 4, none⟩ (.int .i64 v_.Item.Gen)]) hE (by kernel_rfl) rfl rfl rfl (by kernel_rfl) (OpTo.storeSl (q := 1) (x' := (pool_place_jobs_Job.mk (w64 (x1.gen + 1)) true x1.v_)) hE H pool_place_jobs_Job.enc_ok rfl hs1 (mSet_at ex1) rfl rfl rfl rfl rfl (Nat.le_of_ble_eq_true rfl) rfl) ?_
 rintro _ w H
 rw [← mSet_len (mSet s1.2.l s1.1 (pool_place_jobs_Job.mk (w64 (x1.gen + 1)) x1.taken x1.v_)) s1.1 (pool_place_jobs_Job.mk (w64 (x1.gen + 1)) true x1.v_)] at H
 refine ⟨⟨H.cell 4 rfl rfl, H.cell 4 rfl rfl, H.cell 4 rfl rfl, H.cell 4 rfl rfl, H.cell 4 rfl rfl, trivial⟩, fun a hE => ?_⟩
 refine WQ.d0 hE [6, 7] [(74, .pointer (some ⟨b1, o1 + (Int.toNat s1.1) * 7 + 2, none⟩))] fun a hE => ?_
 refine WQ.eff0 (j := 8) (obs := []) hE (by kernel_rfl) rfl rfl rfl (by kernel_rfl) (OpTo.storeSl (q := 2) (x' := (pool_place_jobs_Job.mk (w64 (x1.gen + 1)) true v_)) hE H pool_place_jobs_Job.enc_ok rfl hs1 (mSet_at (mSet_at ex1)) rfl rfl rfl rfl rfl (Nat.le_of_ble_eq_true rfl) rfl) ?_
 rintro _ w H
 rw [← mSet_len (mSet (mSet s1.2.l s1.1 (pool_place_jobs_Job.mk (w64 (x1.gen + 1)) x1.taken x1.v_)) s1.1 (pool_place_jobs_Job.mk (w64 (x1.gen + 1)) true x1.v_)) s1.1 (pool_place_jobs_Job.mk (w64 (x1.gen + 1)) true v_)] at H
 refine ⟨trivial, fun a hE => ?_⟩
 refine WQ.done (by kernel_rfl) ?_
 refine Runs.sr ?_
 refine WR.d hE 6 [.int .i64 (w64 (x1.gen + 1))] [(80, .agg #[.int .i64 s1.1, .int .i64 (w64 (x1.gen + 1))])] (obs := [.cell ⟨b1, o1 + (Int.toNat s1.1) * 7, none⟩ (.int .i64 (w64 (x1.gen + 1)))]) ⟨SlRd.cells (sl_rd 263 pool_place_jobs_Job.enc 7 _ _ _) pool_place_jobs_Job.enc_ok H 0 rfl hs1 (mSet_at (mSet_at (mSet_at ex1))) 0 _ rfl, trivial⟩ fun a hE => ?_
 refine WR.eff0 hE rfl rfl rfl (OpTo.store hE H.t3 rfl rfl rfl rfl rfl rfl (Nat.le_of_ble_eq_true rfl)) ?_
 rintro _ w H a hE
 refine WR.e0 hE [(5, .bool true)] fun a hE => ?_
 refine Runs.retO (vs := [.agg #[.int .i64 s1.1, .int .i64 (w64 (x1.gen + 1))], .bool true]) (obs := [.cell ⟨r1, 0, none⟩ (.int .i64 s1.1), .cell ⟨r1, 1, none⟩ (.int .i64 (w64 (x1.gen + 1)))]) hE Tryz.func190 rfl [.int .i64 s1.1, .int .i64 (w64 (x1.gen + 1))] (by kernel_rfl) ⟨H.cell 0 rfl rfl, H.cell 0 rfl rfl, trivial⟩ ?_
 replace H := pool_Pool_jobs_Job.shut (pool_Pool_jobs_Job.A.mk z z1 z2 z3) (pool_Pool_jobs_Job.mk s1.2.most (mSet (mSet (mSet s1.2.l s1.1 (pool_place_jobs_Job.mk (w64 (x1.gen + 1)) x1.taken x1.v_)) s1.1 (pool_place_jobs_Job.mk (w64 (x1.gen + 1)) true x1.v_)) s1.1 (pool_place_jobs_Job.mk (w64 (x1.gen + 1)) true v_)) s1.2.free) H.t3.t2.t3
 cases hm
 exact ⟨z, z1, z2, z3, rfl, H.x2.x1⟩

theorem jobs_Table_Add_ok {w0 w : World} {As : List HP} {p_t_ : Nat} {al_t_ : jobs_Table.A} {t_ : jobs_Table} {j : jobs_Job} {t : api_Ref × Int × jobs_Table}  (hm : jobs_Table_Add t_ j = some t) (H : St w0 (jobs_Table.R p_t_ al_t_ t_ :: As) w) :
    CallsR Tryz.prog 126 #[.pointer (some ⟨p_t_, 0, none⟩), .agg #[.int .i64 j.Queue, .int .i64 j.Time, .int .i64 j.Data, .int .i64 j.Item.At, .int .i64 j.Item.Gen]] w fun v w' => ∃ (z_t__p_a : pool_Pool_jobs_Job.A), v = .tuple #[.agg #[.int .i64 t.1.At, .int .i64 t.1.Gen], .int .i64 t.2.1] ∧ St w0 (jobs_Table.R p_t_ (jobs_Table.A.mk al_t_.p_p z_t__p_a al_t_.by__p) t.2.2 :: As) w' := by
 rw [jobs_Table_Add] at hm
 refine enter (args := [.pointer (some ⟨p_t_, 0, none⟩), .agg #[.int .i64 j.Queue, .int .i64 j.Time, .int .i64 j.Data, .int .i64 j.Item.At, .int .i64 j.Item.Gen]]) Tryz.func126 rfl rfl rfl fun a hE => ?_
 refine Runs.sr ?_
 refine WR.eff hE rfl rfl rfl rfl (OpTo.new hE H [] (.cells #[.int .i64 j.Queue, .int .i64 j.Time, .int .i64 j.Data, .int .i64 j.Item.At, .int .i64 j.Item.Gen] 160 (0, 0)) (fun r => .pointer (some ⟨r, 0, none⟩)) (obs := []) rfl (fun _ => by kernel_rfl) trivial) ?_
 rintro _ w ⟨r, rfl, H⟩ a hE
 refine WR.eff hE rfl rfl rfl rfl (OpTo.new hE H [] (.cells #[.int .i64 0, .int .i64 0] 31 (0, 0)) (fun r => .pointer (some ⟨r, 0, none⟩)) (obs := []) rfl (fun _ => by kernel_rfl) trivial) ?_
 rintro _ w ⟨r1, rfl, H⟩ a hE
 refine WR.seg hE 3 [] [0, 3, 4] (Lo := [(0, .pointer (some ⟨p_t_, 0, none⟩)), (3, .pointer (some ⟨r, 0, none⟩)), (4, .pointer (some ⟨r1, 0, none⟩))]) (obs := []) rfl (by kernel_rfl) trivial fun a hE => ?_
 refine WR.done rfl ?_
 refine Runs.seq ?_
 obtain ⟨x, ex, hm⟩ := bind_some hm
 refine Runs.join (fun a w => EnvOk 53 a [(0, .pointer (some ⟨p_t_, 0, none⟩)), (3, .pointer (some ⟨r, 0, none⟩)), (4, .pointer (some ⟨r1, 0, none⟩)), (7, .bool x.2)] ∧ St w0 (Blk r1 31 [.int .i64 0, .int .i64 0] :: Blk r 160 [.int .i64 j.Queue, .int .i64 j.Time, .int .i64 j.Data, .int .i64 j.Item.At, .int .i64 j.Item.Gen] :: jobs_Table.R p_t_ al_t_ t_ :: As) w) (fun hk => ?_) ?_
 ·refine Runs.drawn mixed (by kernel_rfl) ?_
  replace H := H.drew
  replace H := jobs_Table.open H.t2
  refine WQ.d hE [0, 1, 2, 3, 4, 5] [.map (some al_t_.by__p), .int .i64 j.Item.At, .int .i64 j.Item.Gen] [(14, .map (some al_t_.by__p)), (16, .agg #[.int .i64 j.Item.At, .int .i64 j.Item.Gen])] (obs := [.cell ⟨p_t_, 1, none⟩ (.map (some al_t_.by__p)), .cell ⟨r, 3, none⟩ (.int .i64 j.Item.At), .cell ⟨r, 4, none⟩ (.int .i64 j.Item.Gen)]) ⟨H.cell 0 rfl rfl, H.cell 4 rfl rfl, H.cell 4 rfl rfl, trivial⟩ fun a hE => ?_
  refine WQ.act2 6 10 (by kernel_rfl) ?_ ?_
  ·refine AQ.eff (j := 6) (obs := []) hE rfl rfl rfl rfl (by kernel_rfl) (OpTo.mpGet2 2 hE H rfl api_Ref.key_ok ex rfl rfl rfl rfl rfl rfl) ?_
   rintro _ _ ⟨rfl, rfl⟩
   refine ⟨trivial, fun a hE => ?_⟩
   refine WQ.d0 hE [7, 8, 9] [(18, .agg #[.int .i64 x.1.At, .int .i64 x.1.Gen]), (19, .bool x.2)] fun a hE => ?_
   refine WQ.eff (j := 10) (obs := []) hE (by kernel_rfl) rfl rfl rfl rfl (by kernel_rfl) (OpTo.new hE H [] (.cells #[.int .i64 0, .int .i64 0] 31 (0, 0)) (fun r => .pointer (some ⟨r, 0, none⟩)) (obs := []) rfl (fun _ => by kernel_rfl) trivial) ?_
   rintro _ w ⟨r3, rfl, H⟩
   refine ⟨trivial, fun a hE => ?_⟩
   refine WQ.eff0 (j := 11) (obs := []) hE (by kernel_rfl) rfl rfl rfl (by kernel_rfl) (OpTo.store hE H rfl rfl rfl rfl rfl rfl (Nat.le_of_ble_eq_true rfl)) ?_
   rintro _ w H
   refine ⟨trivial, fun a hE => ?_⟩
   refine WQ.d0 hE [12] [(7, .bool x.2)] fun a hE => ?_
   refine WQ.done (by kernel_rfl) ?_
   replace H := jobs_Table.shut al_t_ (t_) H.t3.t3.t3
   exact hk _ _ ⟨hE.sel [0, 3, 4, 7] (by kernel_rfl), H.x1.t2.t2⟩
  ·refine AQ.eff (j := 10) (obs := [.cell ⟨r, 3, none⟩ (.int .i64 j.Item.At), .cell ⟨r, 4, none⟩ (.int .i64 j.Item.Gen), .cell ⟨p_t_, 1, none⟩ (.map (some al_t_.by__p))]) hE rfl rfl rfl rfl (by kernel_rfl) (OpTo.new hE H [] (.cells #[.int .i64 0, .int .i64 0] 31 (0, 0)) (fun r => .pointer (some ⟨r, 0, none⟩)) (obs := []) rfl (fun _ => by kernel_rfl) trivial) ?_
   rintro _ w ⟨r4, rfl, H⟩
   refine ⟨⟨H.cell 5 rfl rfl, H.cell 5 rfl rfl, H.cell 1 rfl rfl, trivial⟩, fun a hE => ?_⟩
   refine WQ.eff (j := 6) (obs := []) hE (by kernel_rfl) rfl rfl rfl rfl (by kernel_rfl) (OpTo.mpGet2 3 hE H rfl api_Ref.key_ok ex rfl rfl rfl rfl rfl rfl) ?_
   rintro _ _ ⟨rfl, rfl⟩
   refine ⟨trivial, fun a hE => ?_⟩
   refine WQ.d0 hE [7, 8, 9] [(18, .agg #[.int .i64 x.1.At, .int .i64 x.1.Gen]), (19, .bool x.2)] fun a hE => ?_
   refine WQ.eff0 (j := 11) (obs := []) hE (by kernel_rfl) rfl rfl rfl (by kernel_rfl) (OpTo.store hE H rfl rfl rfl rfl rfl rfl (Nat.le_of_ble_eq_true rfl)) ?_
   rintro _ w H
   refine ⟨trivial, fun a hE => ?_⟩
   refine WQ.d0 hE [12] [(7, .bool x.2)] fun a hE => ?_
   refine WQ.done (by kernel_rfl) ?_
   replace H := jobs_Table.shut al_t_ (t_) H.t3.t3.t3
   exact hk _ _ ⟨hE.sel [0, 3, 4, 7] (by kernel_rfl), H.x1.t2.t2⟩
 rintro a w ⟨hE, H⟩
 refine Runs.seq ?_
 refine Runs.block ?_
 refine Runs.seq ?_
 refine Runs.drawn mixed (by kernel_rfl) ?_
 replace H := H.drew
 replace H := jobs_Table.open H.t2
 refine WQ.seg hE [0, 1, 2, 3, 5, 6, 7, 8] [.pointer (some ⟨al_t_.p_p, 0, none⟩), .pointer (some ⟨al_t_.p_p, 0, none⟩)] [0, 3, 4, 7, 24, 29] (Lo := [(0, .pointer (some ⟨p_t_, 0, none⟩)), (3, .pointer (some ⟨r, 0, none⟩)), (4, .pointer (some ⟨r1, 0, none⟩)), (7, .bool x.2), (24, .pointer (some ⟨al_t_.p_p, 0, none⟩)), (29, .pointer (some ⟨al_t_.p_p, 0, none⟩))]) (obs := [.cell ⟨p_t_, 0, none⟩ (.pointer (some ⟨al_t_.p_p, 0, none⟩)), .cell ⟨p_t_, 0, none⟩ (.pointer (some ⟨al_t_.p_p, 0, none⟩))]) (by kernel_rfl) (by kernel_rfl) ⟨H.cell 0 rfl rfl, H.cell 0 rfl rfl, trivial⟩ fun a hE => ?_
 obtain ⟨t_1, et_1, hm⟩ := bind_some hm
 refine WQ.eff (j := 4) (obs := [.cell ⟨p_t_, 0, none⟩ (.pointer (some ⟨al_t_.p_p, 0, none⟩))]) hE (by kernel_rfl) rfl rfl rfl rfl (by kernel_rfl) (OpTo.fn hE rfl rfl Tryz.call94 (pool_Pool_jobs_Job_Len_ok et_1 H.t1)) ?_
 rintro _ w ⟨rfl, H⟩
 refine ⟨⟨H.cell 1 rfl rfl, trivial⟩, fun a hE => ?_⟩
 obtain ⟨t_2, et_2, hm⟩ := bind_some hm
 refine WQ.eff (j := 9) (obs := []) hE (by kernel_rfl) rfl rfl rfl rfl (by kernel_rfl) (OpTo.fn hE rfl rfl Tryz.call189 (pool_Pool_jobs_Job_Places_ok et_2 H)) ?_
 rintro _ w ⟨rfl, H⟩
 refine ⟨trivial, fun a hE => ?_⟩
 refine WQ.d0 hE [10, 11] [(20, .bool (t_1 == t_2))] fun a hE => ?_
 refine WQ.done (by kernel_rfl) ?_
 refine Runs.cond hE rfl (fun c => ?_) (fun c => ?_)
 ·replace hm := cond_t c hm
  refine Runs.sr ?_
  refine WR.d0 hE 1 [(32, .agg #[.int .i64 0, .int .i64 0])] fun a hE => ?_
  refine WR.eff0 hE rfl rfl rfl (OpTo.store hE H.t3 rfl rfl rfl rfl rfl rfl (Nat.le_of_ble_eq_true rfl)) ?_
  rintro _ w H a hE
  refine WR.e0 hE [(5, .int .i64 13)] fun a hE => ?_
  refine Runs.retO (vs := [.agg #[.int .i64 0, .int .i64 0], .int .i64 13]) (obs := [.cell ⟨r1, 0, none⟩ (.int .i64 0), .cell ⟨r1, 1, none⟩ (.int .i64 0)]) hE Tryz.func126 rfl [.int .i64 0, .int .i64 0] (by kernel_rfl) ⟨H.cell 0 rfl rfl, H.cell 0 rfl rfl, trivial⟩ ?_
  replace H := jobs_Table.shut al_t_ (t_) H.t3.t2.t3
  cases hm
  exact ⟨al_t_.p_a, rfl, H.x2.x1⟩
 ·replace hm := cond_f c hm
  refine Runs.sr ?_
  refine WR.e0 hE [(33, .bool x.2)] fun a hE => ?_
  refine Runs.cond hE rfl (fun c => ?_) (fun c => ?_)
  ·replace hm := cond_t c hm
   refine Runs.sr ?_
   refine WR.d0 hE 1 [(35, .agg #[.int .i64 0, .int .i64 0])] fun a hE => ?_
   refine WR.eff0 hE rfl rfl rfl (OpTo.store hE H.t3 rfl rfl rfl rfl rfl rfl (Nat.le_of_ble_eq_true rfl)) ?_
   rintro _ w H a hE
   refine WR.e0 hE [(5, .int .i64 1)] fun a hE => ?_
   refine Runs.retO (vs := [.agg #[.int .i64 0, .int .i64 0], .int .i64 1]) (obs := [.cell ⟨r1, 0, none⟩ (.int .i64 0), .cell ⟨r1, 1, none⟩ (.int .i64 0)]) hE Tryz.func126 rfl [.int .i64 0, .int .i64 0] (by kernel_rfl) ⟨H.cell 0 rfl rfl, H.cell 0 rfl rfl, trivial⟩ ?_
   replace H := jobs_Table.shut al_t_ (t_) H.t3.t2.t3
   cases hm
   exact ⟨al_t_.p_a, rfl, H.x2.x1⟩
  ·replace hm := cond_f c hm
   refine Runs.skip ?_
   refine Runs.inBlock ?_
   refine Runs.seq ?_
   replace H := jobs_Table.shut al_t_ (t_) H.t2.t1.t2
   obtain ⟨t_3, et_3, hm⟩ := bind_some hm
   refine Runs.join (fun a w => ∃ (r6 : Nat), ∃ (z4 : pool_Pool_jobs_Job.A), EnvOk 53 a [(0, .pointer (some ⟨p_t_, 0, none⟩)), (3, .pointer (some ⟨r, 0, none⟩)), (4, .pointer (some ⟨r1, 0, none⟩)), (8, .pointer (some ⟨r6, 0, none⟩))] ∧ St w0 (Blk r6 31 [.int .i64 t_3.1.At, .int .i64 t_3.1.Gen] :: jobs_Table.R p_t_ (jobs_Table.A.mk al_t_.p_p z4 al_t_.by__p) (jobs_Table.mk t_3.2.2 t_.by_) :: Blk r1 31 [.int .i64 0, .int .i64 0] :: Blk r 160 [.int .i64 j.Queue, .int .i64 j.Time, .int .i64 j.Data, .int .i64 j.Item.At, .int .i64 j.Item.Gen] :: As) w) (fun hk => ?_) ?_
   ·refine Runs.drawn mixed (by kernel_rfl) ?_
    replace H := H.drew
    replace H := jobs_Table.open H
    refine WQ.d hE [0, 1, 2, 3, 4] [.pointer (some ⟨al_t_.p_p, 0, none⟩), .int .i64 j.Queue, .int .i64 j.Time, .int .i64 j.Data, .int .i64 j.Item.At, .int .i64 j.Item.Gen] [(40, .pointer (some ⟨al_t_.p_p, 0, none⟩)), (41, .agg #[.int .i64 j.Queue, .int .i64 j.Time, .int .i64 j.Data, .int .i64 j.Item.At, .int .i64 j.Item.Gen])] (obs := [.cell ⟨p_t_, 0, none⟩ (.pointer (some ⟨al_t_.p_p, 0, none⟩)), .cell ⟨r, 0, none⟩ (.int .i64 j.Queue), .cell ⟨r, 1, none⟩ (.int .i64 j.Time), .cell ⟨r, 2, none⟩ (.int .i64 j.Data), .cell ⟨r, 3, none⟩ (.int .i64 j.Item.At), .cell ⟨r, 4, none⟩ (.int .i64 j.Item.Gen)]) ⟨H.cell 0 rfl rfl, H.cell 4 rfl rfl, H.cell 4 rfl rfl, H.cell 4 rfl rfl, H.cell 4 rfl rfl, H.cell 4 rfl rfl, trivial⟩ fun a hE => ?_
    refine WQ.act2 5 9 (by kernel_rfl) ?_ ?_
    ·refine AQ.eff (j := 5) (obs := []) hE rfl rfl rfl rfl (by kernel_rfl) (OpTo.fn hE rfl rfl Tryz.call190 (pool_Pool_jobs_Job_Take_ok et_3 H.t1)) ?_
     rintro _ w ⟨z5, z6, z7, z8, rfl, H⟩
     refine ⟨trivial, fun a hE => ?_⟩
     refine WQ.d0 hE [6, 7, 8] [(43, .agg #[.int .i64 t_3.1.At, .int .i64 t_3.1.Gen]), (44, .bool t_3.2.1)] fun a hE => ?_
     refine WQ.eff (j := 9) (obs := []) hE (by kernel_rfl) rfl rfl rfl rfl (by kernel_rfl) (OpTo.new hE H [] (.cells #[.int .i64 0, .int .i64 0] 31 (0, 0)) (fun r => .pointer (some ⟨r, 0, none⟩)) (obs := []) rfl (fun _ => by kernel_rfl) trivial) ?_
     rintro _ w ⟨r7, rfl, H⟩
     refine ⟨trivial, fun a hE => ?_⟩
     refine WQ.eff0 (j := 10) (obs := []) hE (by kernel_rfl) rfl rfl rfl (by kernel_rfl) (OpTo.store hE H rfl rfl rfl rfl rfl rfl (Nat.le_of_ble_eq_true rfl)) ?_
     rintro _ w H
     refine ⟨trivial, fun a hE => ?_⟩
     refine WQ.d0 hE [11] [] fun a hE => ?_
     refine WQ.done (by kernel_rfl) ?_
     replace H := jobs_Table.shut (jobs_Table.A.mk al_t_.p_p (pool_Pool_jobs_Job.A.mk z5 z6 z7 z8) al_t_.by__p) (jobs_Table.mk t_3.2.2 t_.by_) H.t3.t2.t3
     exact hk _ _ ⟨r7, pool_Pool_jobs_Job.A.mk z5 z6 z7 z8, hE.sel [0, 3, 4, 8] (by kernel_rfl), H.t3.t3.t2.t3⟩
    ·refine AQ.eff (j := 9) (obs := [.cell ⟨r, 0, none⟩ (.int .i64 j.Queue), .cell ⟨r, 1, none⟩ (.int .i64 j.Time), .cell ⟨r, 2, none⟩ (.int .i64 j.Data), .cell ⟨r, 3, none⟩ (.int .i64 j.Item.At), .cell ⟨r, 4, none⟩ (.int .i64 j.Item.Gen), .cell ⟨p_t_, 0, none⟩ (.pointer (some ⟨al_t_.p_p, 0, none⟩))]) hE rfl rfl rfl rfl (by kernel_rfl) (OpTo.new hE H [] (.cells #[.int .i64 0, .int .i64 0] 31 (0, 0)) (fun r => .pointer (some ⟨r, 0, none⟩)) (obs := []) rfl (fun _ => by kernel_rfl) trivial) ?_
     rintro _ w ⟨r8, rfl, H⟩
     refine ⟨⟨H.cell 5 rfl rfl, H.cell 5 rfl rfl, H.cell 5 rfl rfl, H.cell 5 rfl rfl, H.cell 5 rfl rfl, H.cell 1 rfl rfl, trivial⟩, fun a hE => ?_⟩
     refine WQ.eff (j := 5) (obs := []) hE (by kernel_rfl) rfl rfl rfl rfl (by kernel_rfl) (OpTo.fn hE rfl rfl Tryz.call190 (pool_Pool_jobs_Job_Take_ok et_3 H.t2)) ?_
     rintro _ w ⟨z9, z10, z11, z12, rfl, H⟩
     refine ⟨trivial, fun a hE => ?_⟩
     refine WQ.d0 hE [6, 7, 8] [(43, .agg #[.int .i64 t_3.1.At, .int .i64 t_3.1.Gen]), (44, .bool t_3.2.1)] fun a hE => ?_
     refine WQ.eff0 (j := 10) (obs := []) hE (by kernel_rfl) rfl rfl rfl (by kernel_rfl) (OpTo.store hE H.t1 rfl rfl rfl rfl rfl rfl (Nat.le_of_ble_eq_true rfl)) ?_
     rintro _ w H
     refine ⟨trivial, fun a hE => ?_⟩
     refine WQ.d0 hE [11] [] fun a hE => ?_
     refine WQ.done (by kernel_rfl) ?_
     replace H := jobs_Table.shut (jobs_Table.A.mk al_t_.p_p (pool_Pool_jobs_Job.A.mk z9 z10 z11 z12) al_t_.by__p) (jobs_Table.mk t_3.2.2 t_.by_) H.t3.t2.t3
     exact hk _ _ ⟨r8, pool_Pool_jobs_Job.A.mk z9 z10 z11 z12, hE.sel [0, 3, 4, 8] (by kernel_rfl), H.t3.t3.t2.t3⟩
   rintro a w ⟨r6, z4, hE, H⟩
   refine Runs.seq ?_
   refine Runs.drawn mixed (by kernel_rfl) ?_
   replace H := H.drew
   replace H := jobs_Table.open H.t1
   try dsimp only at H
   refine WQ.seg hE [0, 1, 2, 3, 4, 5, 6] [.map (some al_t_.by__p), .int .i64 j.Item.At, .int .i64 j.Item.Gen, .int .i64 t_3.1.At, .int .i64 t_3.1.Gen] [4, 8, 48, 50, 51] (Lo := [(4, .pointer (some ⟨r1, 0, none⟩)), (8, .pointer (some ⟨r6, 0, none⟩)), (48, .map (some al_t_.by__p)), (50, .agg #[.int .i64 j.Item.At, .int .i64 j.Item.Gen]), (51, .agg #[.int .i64 t_3.1.At, .int .i64 t_3.1.Gen])]) (obs := [.cell ⟨p_t_, 1, none⟩ (.map (some al_t_.by__p)), .cell ⟨r, 3, none⟩ (.int .i64 j.Item.At), .cell ⟨r, 4, none⟩ (.int .i64 j.Item.Gen), .cell ⟨r6, 0, none⟩ (.int .i64 t_3.1.At), .cell ⟨r6, 1, none⟩ (.int .i64 t_3.1.Gen)]) (by kernel_rfl) (by kernel_rfl) ⟨H.cell 0 rfl rfl, H.cell 5 rfl rfl, H.cell 5 rfl rfl, H.cell 3 rfl rfl, H.cell 3 rfl rfl, trivial⟩ fun a hE => ?_
   refine WQ.eff0 (j := 7) (obs := []) hE (by kernel_rfl) rfl rfl rfl (by kernel_rfl) (OpTo.mpPut (k := j.Item) (v := t_3.1) hE H.t2 api_Ref.key_ok rfl rfl rfl rfl rfl) ?_
   rintro _ w H
   refine ⟨trivial, fun a hE => ?_⟩
   refine WQ.done (by kernel_rfl) ?_
   refine Runs.sr ?_
   refine WR.d hE 1 [.int .i64 t_3.1.At, .int .i64 t_3.1.Gen] [(52, .agg #[.int .i64 t_3.1.At, .int .i64 t_3.1.Gen])] (obs := [.cell ⟨r6, 0, none⟩ (.int .i64 t_3.1.At), .cell ⟨r6, 1, none⟩ (.int .i64 t_3.1.Gen)]) ⟨H.cell 3 rfl rfl, H.cell 3 rfl rfl, trivial⟩ fun a hE => ?_
   refine WR.eff0 hE rfl rfl rfl (OpTo.store hE H.t4 rfl rfl rfl rfl rfl rfl (Nat.le_of_ble_eq_true rfl)) ?_
   rintro _ w H a hE
   refine WR.e0 hE [(5, .int .i64 0)] fun a hE => ?_
   refine Runs.retO (vs := [.agg #[.int .i64 t_3.1.At, .int .i64 t_3.1.Gen], .int .i64 0]) (obs := [.cell ⟨r1, 0, none⟩ (.int .i64 t_3.1.At), .cell ⟨r1, 1, none⟩ (.int .i64 t_3.1.Gen)]) hE Tryz.func126 rfl [.int .i64 t_3.1.At, .int .i64 t_3.1.Gen] (by kernel_rfl) ⟨H.cell 0 rfl rfl, H.cell 0 rfl rfl, trivial⟩ ?_
   replace H := jobs_Table.shut (jobs_Table.A.mk al_t_.p_p z4 al_t_.by__p) (jobs_Table.mk ((jobs_Table.mk t_3.2.2 t_.by_).p) (mPut api_Ref.eq j.Item t_3.1 ((jobs_Table.mk t_3.2.2 t_.by_).by_))) H.t1.t3.t3
   cases hm
   exact ⟨z4, rfl, H.x3.x2.x1⟩

theorem dispatch_told_ok {w0 w : World} {As : List HP} {j : jobs_Job} {t : api_Reply}  (hm : dispatch_told j = some t) (H : St w0 (As) w) :
    CallsR Tryz.prog 127 #[.agg #[.int .i64 j.Queue, .int .i64 j.Time, .int .i64 j.Data, .int .i64 j.Item.At, .int .i64 j.Item.Gen]] w fun v w' => v = .agg #[.int .i64 t.Why, .int .i64 t.Job.At, .int .i64 t.Job.Gen, .int .i64 t.Time, .int .i64 t.Data, .int .i64 t.N] ∧ St w0 (As) w' := by
 rw [dispatch_told] at hm
 refine enter (args := [.agg #[.int .i64 j.Queue, .int .i64 j.Time, .int .i64 j.Data, .int .i64 j.Item.At, .int .i64 j.Item.Gen]]) Tryz.func127 rfl rfl rfl fun a hE => ?_
 refine Runs.sr ?_
 refine WR.eff hE rfl rfl rfl rfl (OpTo.new hE H [] (.cells #[.int .i64 j.Queue, .int .i64 j.Time, .int .i64 j.Data, .int .i64 j.Item.At, .int .i64 j.Item.Gen] 160 (0, 0)) (fun r => .pointer (some ⟨r, 0, none⟩)) (obs := []) rfl (fun _ => by kernel_rfl) trivial) ?_
 rintro _ w ⟨r, rfl, H⟩ a hE
 refine WR.eff hE rfl rfl rfl rfl (OpTo.new hE H [] (.cells #[.int .i64 0, .int .i64 0, .int .i64 0, .int .i64 0, .int .i64 0, .int .i64 0] 35 (0, 0)) (fun r => .pointer (some ⟨r, 0, none⟩)) (obs := []) rfl (fun _ => by kernel_rfl) trivial) ?_
 rintro _ w ⟨r1, rfl, H⟩ a hE
 refine WR.done rfl ?_
 refine Runs.sr ?_
 refine WR.seg hE 5 [.int .i64 j.Time, .int .i64 j.Data] [2, 7] (Lo := [(2, .pointer (some ⟨r1, 0, none⟩)), (7, .agg #[.int .i64 0, .int .i64 0, .int .i64 0, .int .i64 j.Time, .int .i64 j.Data, .int .i64 0])]) (obs := [.cell ⟨r, 1, none⟩ (.int .i64 j.Time), .cell ⟨r, 2, none⟩ (.int .i64 j.Data)]) rfl (by kernel_rfl) ⟨H.cell 1 rfl rfl, H.cell 1 rfl rfl, trivial⟩ fun a hE => ?_
 refine WR.eff0 hE rfl rfl rfl (OpTo.store hE H rfl rfl rfl rfl rfl rfl (Nat.le_of_ble_eq_true rfl)) ?_
 rintro _ w H a hE
 refine WR.done rfl ?_
 refine Runs.retO (vs := [.agg #[.int .i64 0, .int .i64 0, .int .i64 0, .int .i64 j.Time, .int .i64 j.Data, .int .i64 0]]) (obs := [.cell ⟨r1, 0, none⟩ (.int .i64 0), .cell ⟨r1, 1, none⟩ (.int .i64 0), .cell ⟨r1, 2, none⟩ (.int .i64 0), .cell ⟨r1, 3, none⟩ (.int .i64 j.Time), .cell ⟨r1, 4, none⟩ (.int .i64 j.Data), .cell ⟨r1, 5, none⟩ (.int .i64 0)]) hE Tryz.func127 rfl [.int .i64 0, .int .i64 0, .int .i64 0, .int .i64 j.Time, .int .i64 j.Data, .int .i64 0] (by kernel_rfl) ⟨H.cell 0 rfl rfl, H.cell 0 rfl rfl, H.cell 0 rfl rfl, H.cell 0 rfl rfl, H.cell 0 rfl rfl, H.cell 0 rfl rfl, trivial⟩ ?_
 cases hm
 exact ⟨rfl, H.x1.x0⟩

end Go.Proofs.YtdcjghailibedaaGreat
