import Derived.Test.YtbpkejhpmakmbaaGreatLd
import Derived.Test.YtbpkejhpmakmbaaGreatProg
import Derived.Test.YtbpkejhpmakmbaaGreatSh
set_option linter.unusedVariables false
set_option linter.unusedSimpArgs false
set_option maxRecDepth 10000
set_option maxHeartbeats 4000000
namespace Go.Proofs.YtbpkejhpmakmbaaGreat
open Go.Th

theorem mixed : Tryz.prog.follows .mixedOrders = true := by kernel_rfl

theorem api_Ref.eq_in (w : World) (d : Nat) (x y : api_Ref) : (Op.equalIn (d + 2) 26 (.agg #[.int .i64 x.At, .int .i64 x.Gen]) (.agg #[.int .i64 y.At, .int .i64 y.Gen])).run Tryz.prog w = .ok (api_Ref.eq x y) w :=
  eqS_top (d + 1) rfl (by kernel_rfl) (eqF_cons (a := .int .i64 x.At) (b := .int .i64 y.At) rfl rfl (by kernel_rfl) (by kernel_rfl) (run_equalIn_int w _ _ _ _ _ _ rfl) (eqF_cons (a := .int .i64 x.Gen) (b := .int .i64 y.Gen) rfl rfl (by kernel_rfl) (by kernel_rfl) (run_equalIn_int w _ _ _ _ _ _ rfl) (eqF_nil rfl)))

theorem api_Ref.eq_run (x y : api_Ref) : EqRuns Tryz.prog 26 #[.int .i64 x.At, .int .i64 x.Gen] #[.int .i64 y.At, .int .i64 y.Gen] (api_Ref.eq x y) := fun w => api_Ref.eq_in w 9998 x y

theorem api_Command.eq_in (w : World) (d : Nat) (x y : api_Command) : (Op.equalIn (d + 3) 28 (.agg #[.int .i64 x.Kind, .int .i64 x.Queue, .int .i64 x.Job.At, .int .i64 x.Job.Gen, .int .i64 x.Time, .int .i64 x.Data]) (.agg #[.int .i64 y.Kind, .int .i64 y.Queue, .int .i64 y.Job.At, .int .i64 y.Job.Gen, .int .i64 y.Time, .int .i64 y.Data])).run Tryz.prog w = .ok (api_Command.eq x y) w :=
  eqS_top (d + 2) rfl (by kernel_rfl) (eqF_cons (a := .int .i64 x.Kind) (b := .int .i64 y.Kind) rfl rfl (by kernel_rfl) (by kernel_rfl) (run_equalIn_int w _ _ _ _ _ _ rfl) (eqF_cons (a := .int .i64 x.Queue) (b := .int .i64 y.Queue) rfl rfl (by kernel_rfl) (by kernel_rfl) (run_equalIn_int w _ _ _ _ _ _ rfl) (eqF_cons (a := .agg #[.int .i64 x.Job.At, .int .i64 x.Job.Gen]) (b := .agg #[.int .i64 y.Job.At, .int .i64 y.Job.Gen]) rfl rfl (by kernel_rfl) (by kernel_rfl) (api_Ref.eq_in w d x.Job y.Job) (eqF_cons (a := .int .i64 x.Time) (b := .int .i64 y.Time) rfl rfl (by kernel_rfl) (by kernel_rfl) (run_equalIn_int w _ _ _ _ _ _ rfl) (eqF_cons (a := .int .i64 x.Data) (b := .int .i64 y.Data) rfl rfl (by kernel_rfl) (by kernel_rfl) (run_equalIn_int w _ _ _ _ _ _ rfl) (eqF_nil rfl))))))

theorem api_Command.eq_run (x y : api_Command) : EqRuns Tryz.prog 28 #[.int .i64 x.Kind, .int .i64 x.Queue, .int .i64 x.Job.At, .int .i64 x.Job.Gen, .int .i64 x.Time, .int .i64 x.Data] #[.int .i64 y.Kind, .int .i64 y.Queue, .int .i64 y.Job.At, .int .i64 y.Job.Gen, .int .i64 y.Time, .int .i64 y.Data] (api_Command.eq x y) := fun w => api_Command.eq_in w 9997 x y

theorem arena_cell.get_f_spec {x : arena_cell} {i v : Int} (h : arena_cell.get_f x i = some v) : (arena_cell.enc x)[i.toNat * 1]? = some (.int .i64 v) := by
  by_cases h0 : i = 0
  · subst h0; simp [arena_cell.get_f] at h; subst h; rfl
  by_cases h1 : i = 1
  · subst h1; simp [arena_cell.get_f] at h; subst h; rfl
  by_cases h2 : i = 2
  · subst h2; simp [arena_cell.get_f] at h; subst h; rfl
  by_cases h3 : i = 3
  · subst h3; simp [arena_cell.get_f] at h; subst h; rfl
  by_cases h4 : i = 4
  · subst h4; simp [arena_cell.get_f] at h; subst h; rfl
  by_cases h5 : i = 5
  · subst h5; simp [arena_cell.get_f] at h; subst h; rfl
  by_cases h6 : i = 6
  · subst h6; simp [arena_cell.get_f] at h; subst h; rfl
  by_cases h7 : i = 7
  · subst h7; simp [arena_cell.get_f] at h; subst h; rfl
  by_cases h8 : i = 8
  · subst h8; simp [arena_cell.get_f] at h; subst h; rfl
  by_cases h9 : i = 9
  · subst h9; simp [arena_cell.get_f] at h; subst h; rfl
  · simp [arena_cell.get_f, h0, h1, h2, h3, h4, h5, h6, h7, h8, h9] at h

theorem arena_cell.set_f_spec {x y : arena_cell} {i v : Int} (h : arena_cell.set_f x i v = some y) : arena_cell.enc y = putAt (arena_cell.enc x) (i.toNat * 1) [.int .i64 v] := by
  by_cases h0 : i = 0
  · subst h0; simp [arena_cell.set_f] at h; subst h; rfl
  by_cases h1 : i = 1
  · subst h1; simp [arena_cell.set_f] at h; subst h; rfl
  by_cases h2 : i = 2
  · subst h2; simp [arena_cell.set_f] at h; subst h; rfl
  by_cases h3 : i = 3
  · subst h3; simp [arena_cell.set_f] at h; subst h; rfl
  by_cases h4 : i = 4
  · subst h4; simp [arena_cell.set_f] at h; subst h; rfl
  by_cases h5 : i = 5
  · subst h5; simp [arena_cell.set_f] at h; subst h; rfl
  by_cases h6 : i = 6
  · subst h6; simp [arena_cell.set_f] at h; subst h; rfl
  by_cases h7 : i = 7
  · subst h7; simp [arena_cell.set_f] at h; subst h; rfl
  by_cases h8 : i = 8
  · subst h8; simp [arena_cell.set_f] at h; subst h; rfl
  by_cases h9 : i = 9
  · subst h9; simp [arena_cell.set_f] at h; subst h; rfl
  · simp [arena_cell.set_f, h0, h1, h2, h3, h4, h5, h6, h7, h8, h9] at h

theorem api_Ref.key_ok : KeyOk Tryz.prog 26 api_Ref.val api_Ref.eq :=
  KeyOk.struct (fs := Tryz.prog.fieldsOf 26) rfl (fun w em x => run_checkKey_struct 9999 (fs := Tryz.prog.fieldsOf 26) rfl w em (ck_cons (v := .int .i64 x.At) rfl rfl (by kernel_rfl) (run_checkKey_int 9998 rfl _ _ _) (ck_cons (v := .int .i64 x.Gen) rfl rfl (by kernel_rfl) (run_checkKey_int 9998 rfl _ _ _) (ck_nil rfl)))) (fun w x y => api_Ref.eq_run x y w) (fun x => by simp [api_Ref.val, Instr.sameBits]) (fun x y h => by cases x; cases y; simpa [api_Ref.eq] using h)

theorem api_Reply.eq_in (w : World) (d : Nat) (x y : api_Reply) : (Op.equalIn (d + 3) 60 (.agg #[.int .i64 x.Why, .int .i64 x.Job.At, .int .i64 x.Job.Gen, .int .i64 x.Time, .int .i64 x.Data, .int .i64 x.N]) (.agg #[.int .i64 y.Why, .int .i64 y.Job.At, .int .i64 y.Job.Gen, .int .i64 y.Time, .int .i64 y.Data, .int .i64 y.N])).run Tryz.prog w = .ok (api_Reply.eq x y) w :=
  eqS_top (d + 2) rfl (by kernel_rfl) (eqF_cons (a := .int .i64 x.Why) (b := .int .i64 y.Why) rfl rfl (by kernel_rfl) (by kernel_rfl) (run_equalIn_int w _ _ _ _ _ _ rfl) (eqF_cons (a := .agg #[.int .i64 x.Job.At, .int .i64 x.Job.Gen]) (b := .agg #[.int .i64 y.Job.At, .int .i64 y.Job.Gen]) rfl rfl (by kernel_rfl) (by kernel_rfl) (api_Ref.eq_in w d x.Job y.Job) (eqF_cons (a := .int .i64 x.Time) (b := .int .i64 y.Time) rfl rfl (by kernel_rfl) (by kernel_rfl) (run_equalIn_int w _ _ _ _ _ _ rfl) (eqF_cons (a := .int .i64 x.Data) (b := .int .i64 y.Data) rfl rfl (by kernel_rfl) (by kernel_rfl) (run_equalIn_int w _ _ _ _ _ _ rfl) (eqF_cons (a := .int .i64 x.N) (b := .int .i64 y.N) rfl rfl (by kernel_rfl) (by kernel_rfl) (run_equalIn_int w _ _ _ _ _ _ rfl) (eqF_nil rfl))))))

theorem api_Reply.eq_run (x y : api_Reply) : EqRuns Tryz.prog 60 #[.int .i64 x.Why, .int .i64 x.Job.At, .int .i64 x.Job.Gen, .int .i64 x.Time, .int .i64 x.Data, .int .i64 x.N] #[.int .i64 y.Why, .int .i64 y.Job.At, .int .i64 y.Job.Gen, .int .i64 y.Time, .int .i64 y.Data, .int .i64 y.N] (api_Reply.eq x y) := fun w => api_Reply.eq_in w 9997 x y

def meter_Meter.R (p : Nat) (m : meter_Meter) : HP := sepL [Blk p 185 [.int .i64 m.steps, .int .i64 m.begun, .int .i64 m.most]]

theorem meter_Meter.open {w0 w : World} {As : List HP} {p : Nat} {m : meter_Meter} (H : St w0 (meter_Meter.R p m :: As) w) : St w0 (Blk p 185 [.int .i64 m.steps, .int .i64 m.begun, .int .i64 m.most] :: As) w := St.flat H

theorem meter_Meter.shut {w0 w : World} {As : List HP} {p : Nat} (m : meter_Meter) (H : St w0 (Blk p 185 [.int .i64 m.steps, .int .i64 m.begun, .int .i64 m.most] :: As) w) : St w0 (meter_Meter.R p m :: As) w := St.group [Blk p 185 [.int .i64 m.steps, .int .i64 m.begun, .int .i64 m.most]] H

structure arena_Arena.A where
  l_b : Option Addr
  l_c : Nat
  free_b : Option Addr
  free_c : Nat
  m__p : Nat
instance : Inhabited arena_Arena.A := ⟨arena_Arena.A.mk default default default default default⟩

def arena_Arena.R (p : Nat) (al : arena_Arena.A) (m : arena_Arena) : HP := sepL [Blk p 169 [.slice al.l_b m.l.length al.l_c, .int .i64 m.never, .slice al.free_b m.free.length al.free_c, .pointer (some ⟨al.m__p, 0, none⟩)], Sl 279 arena_cell.enc 11 al.l_b al.l_c m.l, Sl 3 ecI 1 al.free_b al.free_c m.free, meter_Meter.R al.m__p m.m_]

theorem arena_Arena.open {w0 w : World} {As : List HP} {p : Nat} {al : arena_Arena.A} {m : arena_Arena} (H : St w0 (arena_Arena.R p al m :: As) w) : St w0 (Blk p 169 [.slice al.l_b m.l.length al.l_c, .int .i64 m.never, .slice al.free_b m.free.length al.free_c, .pointer (some ⟨al.m__p, 0, none⟩)] :: Sl 279 arena_cell.enc 11 al.l_b al.l_c m.l :: Sl 3 ecI 1 al.free_b al.free_c m.free :: meter_Meter.R al.m__p m.m_ :: As) w := St.flat H

theorem arena_Arena.shut {w0 w : World} {As : List HP} {p : Nat} (al : arena_Arena.A) (m : arena_Arena) (H : St w0 (Blk p 169 [.slice al.l_b m.l.length al.l_c, .int .i64 m.never, .slice al.free_b m.free.length al.free_c, .pointer (some ⟨al.m__p, 0, none⟩)] :: Sl 279 arena_cell.enc 11 al.l_b al.l_c m.l :: Sl 3 ecI 1 al.free_b al.free_c m.free :: meter_Meter.R al.m__p m.m_ :: As) w) : St w0 (arena_Arena.R p al m :: As) w := St.group [Blk p 169 [.slice al.l_b m.l.length al.l_c, .int .i64 m.never, .slice al.free_b m.free.length al.free_c, .pointer (some ⟨al.m__p, 0, none⟩)], Sl 279 arena_cell.enc 11 al.l_b al.l_c m.l, Sl 3 ecI 1 al.free_b al.free_c m.free, meter_Meter.R al.m__p m.m_] H

structure pool_Pool_slots_heap.A where
  l_b : Option Addr
  l_c : Nat
  free_b : Option Addr
  free_c : Nat
instance : Inhabited pool_Pool_slots_heap.A := ⟨pool_Pool_slots_heap.A.mk default default default default⟩

def pool_Pool_slots_heap.R (p : Nat) (al : pool_Pool_slots_heap.A) (m : pool_Pool_slots_heap) : HP := sepL [Blk p 232 [.int .i64 m.most, .slice al.l_b m.l.length al.l_c, .slice al.free_b m.free.length al.free_c], Sl 237 pool_place_slots_heap.enc 5 al.l_b al.l_c m.l, Sl 3 ecI 1 al.free_b al.free_c m.free]

theorem pool_Pool_slots_heap.open {w0 w : World} {As : List HP} {p : Nat} {al : pool_Pool_slots_heap.A} {m : pool_Pool_slots_heap} (H : St w0 (pool_Pool_slots_heap.R p al m :: As) w) : St w0 (Blk p 232 [.int .i64 m.most, .slice al.l_b m.l.length al.l_c, .slice al.free_b m.free.length al.free_c] :: Sl 237 pool_place_slots_heap.enc 5 al.l_b al.l_c m.l :: Sl 3 ecI 1 al.free_b al.free_c m.free :: As) w := St.flat H

theorem pool_Pool_slots_heap.shut {w0 w : World} {As : List HP} {p : Nat} (al : pool_Pool_slots_heap.A) (m : pool_Pool_slots_heap) (H : St w0 (Blk p 232 [.int .i64 m.most, .slice al.l_b m.l.length al.l_c, .slice al.free_b m.free.length al.free_c] :: Sl 237 pool_place_slots_heap.enc 5 al.l_b al.l_c m.l :: Sl 3 ecI 1 al.free_b al.free_c m.free :: As) w) : St w0 (pool_Pool_slots_heap.R p al m :: As) w := St.group [Blk p 232 [.int .i64 m.most, .slice al.l_b m.l.length al.l_c, .slice al.free_b m.free.length al.free_c], Sl 237 pool_place_slots_heap.enc 5 al.l_b al.l_c m.l, Sl 3 ecI 1 al.free_b al.free_c m.free] H

structure pool_Pool_slots_thing.A where
  l_b : Option Addr
  l_c : Nat
  free_b : Option Addr
  free_c : Nat
instance : Inhabited pool_Pool_slots_thing.A := ⟨pool_Pool_slots_thing.A.mk default default default default⟩

def pool_Pool_slots_thing.R (p : Nat) (al : pool_Pool_slots_thing.A) (m : pool_Pool_slots_thing) : HP := sepL [Blk p 235 [.int .i64 m.most, .slice al.l_b m.l.length al.l_c, .slice al.free_b m.free.length al.free_c], Sl 287 pool_place_slots_thing.enc 5 al.l_b al.l_c m.l, Sl 3 ecI 1 al.free_b al.free_c m.free]

theorem pool_Pool_slots_thing.open {w0 w : World} {As : List HP} {p : Nat} {al : pool_Pool_slots_thing.A} {m : pool_Pool_slots_thing} (H : St w0 (pool_Pool_slots_thing.R p al m :: As) w) : St w0 (Blk p 235 [.int .i64 m.most, .slice al.l_b m.l.length al.l_c, .slice al.free_b m.free.length al.free_c] :: Sl 287 pool_place_slots_thing.enc 5 al.l_b al.l_c m.l :: Sl 3 ecI 1 al.free_b al.free_c m.free :: As) w := St.flat H

theorem pool_Pool_slots_thing.shut {w0 w : World} {As : List HP} {p : Nat} (al : pool_Pool_slots_thing.A) (m : pool_Pool_slots_thing) (H : St w0 (Blk p 235 [.int .i64 m.most, .slice al.l_b m.l.length al.l_c, .slice al.free_b m.free.length al.free_c] :: Sl 287 pool_place_slots_thing.enc 5 al.l_b al.l_c m.l :: Sl 3 ecI 1 al.free_b al.free_c m.free :: As) w) : St w0 (pool_Pool_slots_thing.R p al m :: As) w := St.group [Blk p 235 [.int .i64 m.most, .slice al.l_b m.l.length al.l_c, .slice al.free_b m.free.length al.free_c], Sl 287 pool_place_slots_thing.enc 5 al.l_b al.l_c m.l, Sl 3 ecI 1 al.free_b al.free_c m.free] H

structure slots_Table.A where
  heaps_p : Nat
  heaps_a : pool_Pool_slots_heap.A
  items_p : Nat
  items_a : pool_Pool_slots_thing.A
  at__p : Nat
instance : Inhabited slots_Table.A := ⟨slots_Table.A.mk default default default default default⟩

def slots_Table.R (p : Nat) (al : slots_Table.A) (m : slots_Table) : HP := sepL [Blk p 180 [.pointer (some ⟨al.heaps_p, 0, none⟩), .pointer (some ⟨al.items_p, 0, none⟩), .map (some al.at__p)], pool_Pool_slots_heap.R al.heaps_p al.heaps_a m.heaps, pool_Pool_slots_thing.R al.items_p al.items_a m.items, MpA al.at__p vI api_Ref.val m.at_]

theorem slots_Table.open {w0 w : World} {As : List HP} {p : Nat} {al : slots_Table.A} {m : slots_Table} (H : St w0 (slots_Table.R p al m :: As) w) : St w0 (Blk p 180 [.pointer (some ⟨al.heaps_p, 0, none⟩), .pointer (some ⟨al.items_p, 0, none⟩), .map (some al.at__p)] :: pool_Pool_slots_heap.R al.heaps_p al.heaps_a m.heaps :: pool_Pool_slots_thing.R al.items_p al.items_a m.items :: MpA al.at__p vI api_Ref.val m.at_ :: As) w := St.flat H

theorem slots_Table.shut {w0 w : World} {As : List HP} {p : Nat} (al : slots_Table.A) (m : slots_Table) (H : St w0 (Blk p 180 [.pointer (some ⟨al.heaps_p, 0, none⟩), .pointer (some ⟨al.items_p, 0, none⟩), .map (some al.at__p)] :: pool_Pool_slots_heap.R al.heaps_p al.heaps_a m.heaps :: pool_Pool_slots_thing.R al.items_p al.items_a m.items :: MpA al.at__p vI api_Ref.val m.at_ :: As) w) : St w0 (slots_Table.R p al m :: As) w := St.group [Blk p 180 [.pointer (some ⟨al.heaps_p, 0, none⟩), .pointer (some ⟨al.items_p, 0, none⟩), .map (some al.at__p)], pool_Pool_slots_heap.R al.heaps_p al.heaps_a m.heaps, pool_Pool_slots_thing.R al.items_p al.items_a m.items, MpA al.at__p vI api_Ref.val m.at_] H

structure pq_Queues.A where
  a__p : Nat
  a__a : arena_Arena.A
  t__p : Nat
  t__a : slots_Table.A
  entries_p : Nat
instance : Inhabited pq_Queues.A := ⟨pq_Queues.A.mk default default default default default⟩

def pq_Queues.R (p : Nat) (al : pq_Queues.A) (m : pq_Queues) : HP := sepL [Blk p 123 [.int .i64 m.items, .pointer (some ⟨al.a__p, 0, none⟩), .pointer (some ⟨al.t__p, 0, none⟩), .map (some al.entries_p), .int .i64 m.serial], arena_Arena.R al.a__p al.a__a m.a_, slots_Table.R al.t__p al.t__a m.t_, MpA al.entries_p api_Ref.val api_Entry.val m.entries]

theorem pq_Queues.open {w0 w : World} {As : List HP} {p : Nat} {al : pq_Queues.A} {m : pq_Queues} (H : St w0 (pq_Queues.R p al m :: As) w) : St w0 (Blk p 123 [.int .i64 m.items, .pointer (some ⟨al.a__p, 0, none⟩), .pointer (some ⟨al.t__p, 0, none⟩), .map (some al.entries_p), .int .i64 m.serial] :: arena_Arena.R al.a__p al.a__a m.a_ :: slots_Table.R al.t__p al.t__a m.t_ :: MpA al.entries_p api_Ref.val api_Entry.val m.entries :: As) w := St.flat H

theorem pq_Queues.shut {w0 w : World} {As : List HP} {p : Nat} (al : pq_Queues.A) (m : pq_Queues) (H : St w0 (Blk p 123 [.int .i64 m.items, .pointer (some ⟨al.a__p, 0, none⟩), .pointer (some ⟨al.t__p, 0, none⟩), .map (some al.entries_p), .int .i64 m.serial] :: arena_Arena.R al.a__p al.a__a m.a_ :: slots_Table.R al.t__p al.t__a m.t_ :: MpA al.entries_p api_Ref.val api_Entry.val m.entries :: As) w) : St w0 (pq_Queues.R p al m :: As) w := St.group [Blk p 123 [.int .i64 m.items, .pointer (some ⟨al.a__p, 0, none⟩), .pointer (some ⟨al.t__p, 0, none⟩), .map (some al.entries_p), .int .i64 m.serial], arena_Arena.R al.a__p al.a__a m.a_, slots_Table.R al.t__p al.t__a m.t_, MpA al.entries_p api_Ref.val api_Entry.val m.entries] H

structure pool_Pool_jobs_Job.A where
  l_b : Option Addr
  l_c : Nat
  free_b : Option Addr
  free_c : Nat
instance : Inhabited pool_Pool_jobs_Job.A := ⟨pool_Pool_jobs_Job.A.mk default default default default⟩

def pool_Pool_jobs_Job.R (p : Nat) (al : pool_Pool_jobs_Job.A) (m : pool_Pool_jobs_Job) : HP := sepL [Blk p 183 [.int .i64 m.most, .slice al.l_b m.l.length al.l_c, .slice al.free_b m.free.length al.free_c], Sl 260 pool_place_jobs_Job.enc 7 al.l_b al.l_c m.l, Sl 3 ecI 1 al.free_b al.free_c m.free]

theorem pool_Pool_jobs_Job.open {w0 w : World} {As : List HP} {p : Nat} {al : pool_Pool_jobs_Job.A} {m : pool_Pool_jobs_Job} (H : St w0 (pool_Pool_jobs_Job.R p al m :: As) w) : St w0 (Blk p 183 [.int .i64 m.most, .slice al.l_b m.l.length al.l_c, .slice al.free_b m.free.length al.free_c] :: Sl 260 pool_place_jobs_Job.enc 7 al.l_b al.l_c m.l :: Sl 3 ecI 1 al.free_b al.free_c m.free :: As) w := St.flat H

theorem pool_Pool_jobs_Job.shut {w0 w : World} {As : List HP} {p : Nat} (al : pool_Pool_jobs_Job.A) (m : pool_Pool_jobs_Job) (H : St w0 (Blk p 183 [.int .i64 m.most, .slice al.l_b m.l.length al.l_c, .slice al.free_b m.free.length al.free_c] :: Sl 260 pool_place_jobs_Job.enc 7 al.l_b al.l_c m.l :: Sl 3 ecI 1 al.free_b al.free_c m.free :: As) w) : St w0 (pool_Pool_jobs_Job.R p al m :: As) w := St.group [Blk p 183 [.int .i64 m.most, .slice al.l_b m.l.length al.l_c, .slice al.free_b m.free.length al.free_c], Sl 260 pool_place_jobs_Job.enc 7 al.l_b al.l_c m.l, Sl 3 ecI 1 al.free_b al.free_c m.free] H

structure jobs_Table.A where
  p_p : Nat
  p_a : pool_Pool_jobs_Job.A
  by__p : Nat
instance : Inhabited jobs_Table.A := ⟨jobs_Table.A.mk default default default⟩

def jobs_Table.R (p : Nat) (al : jobs_Table.A) (m : jobs_Table) : HP := sepL [Blk p 130 [.pointer (some ⟨al.p_p, 0, none⟩), .map (some al.by__p)], pool_Pool_jobs_Job.R al.p_p al.p_a m.p, MpA al.by__p api_Ref.val api_Ref.val m.by_]

theorem jobs_Table.open {w0 w : World} {As : List HP} {p : Nat} {al : jobs_Table.A} {m : jobs_Table} (H : St w0 (jobs_Table.R p al m :: As) w) : St w0 (Blk p 130 [.pointer (some ⟨al.p_p, 0, none⟩), .map (some al.by__p)] :: pool_Pool_jobs_Job.R al.p_p al.p_a m.p :: MpA al.by__p api_Ref.val api_Ref.val m.by_ :: As) w := St.flat H

theorem jobs_Table.shut {w0 w : World} {As : List HP} {p : Nat} (al : jobs_Table.A) (m : jobs_Table) (H : St w0 (Blk p 130 [.pointer (some ⟨al.p_p, 0, none⟩), .map (some al.by__p)] :: pool_Pool_jobs_Job.R al.p_p al.p_a m.p :: MpA al.by__p api_Ref.val api_Ref.val m.by_ :: As) w) : St w0 (jobs_Table.R p al m :: As) w := St.group [Blk p 130 [.pointer (some ⟨al.p_p, 0, none⟩), .map (some al.by__p)], pool_Pool_jobs_Job.R al.p_p al.p_a m.p, MpA al.by__p api_Ref.val api_Ref.val m.by_] H

def clock_Clock.R (p : Nat) (m : clock_Clock) : HP := sepL [Blk p 132 [.int .i64 m.now]]

theorem clock_Clock.open {w0 w : World} {As : List HP} {p : Nat} {m : clock_Clock} (H : St w0 (clock_Clock.R p m :: As) w) : St w0 (Blk p 132 [.int .i64 m.now] :: As) w := St.flat H

theorem clock_Clock.shut {w0 w : World} {As : List HP} {p : Nat} (m : clock_Clock) (H : St w0 (Blk p 132 [.int .i64 m.now] :: As) w) : St w0 (clock_Clock.R p m :: As) w := St.group [Blk p 132 [.int .i64 m.now]] H

structure dispatch_Dispatcher.A where
  q_p : Nat
  q_a : pq_Queues.A
  t__p : Nat
  t__a : jobs_Table.A
  when_p : Nat
  clock_p : Nat
instance : Inhabited dispatch_Dispatcher.A := ⟨dispatch_Dispatcher.A.mk default default default default default default⟩

def dispatch_Dispatcher.R (p : Nat) (al : dispatch_Dispatcher.A) (m : dispatch_Dispatcher) : HP := sepL [Blk p 82 [.int .i64 m.kind, .int .i64 m.most, .pointer (some ⟨al.q_p, 0, none⟩), .int .i64 m.heaps0.At, .int .i64 m.heaps0.Gen, .int .i64 m.heaps1.At, .int .i64 m.heaps1.Gen, .pointer (some ⟨al.t__p, 0, none⟩), .map (some al.when_p), .pointer (some ⟨al.clock_p, 0, none⟩), .int .i64 m.budget, .int .i64 m.last, .int .i64 m.top], pq_Queues.R al.q_p al.q_a m.q, jobs_Table.R al.t__p al.t__a m.t_, MpA al.when_p api_Ref.val vI m.when, clock_Clock.R al.clock_p m.clock]

theorem dispatch_Dispatcher.open {w0 w : World} {As : List HP} {p : Nat} {al : dispatch_Dispatcher.A} {m : dispatch_Dispatcher} (H : St w0 (dispatch_Dispatcher.R p al m :: As) w) : St w0 (Blk p 82 [.int .i64 m.kind, .int .i64 m.most, .pointer (some ⟨al.q_p, 0, none⟩), .int .i64 m.heaps0.At, .int .i64 m.heaps0.Gen, .int .i64 m.heaps1.At, .int .i64 m.heaps1.Gen, .pointer (some ⟨al.t__p, 0, none⟩), .map (some al.when_p), .pointer (some ⟨al.clock_p, 0, none⟩), .int .i64 m.budget, .int .i64 m.last, .int .i64 m.top] :: pq_Queues.R al.q_p al.q_a m.q :: jobs_Table.R al.t__p al.t__a m.t_ :: MpA al.when_p api_Ref.val vI m.when :: clock_Clock.R al.clock_p m.clock :: As) w := St.flat H

theorem dispatch_Dispatcher.shut {w0 w : World} {As : List HP} {p : Nat} (al : dispatch_Dispatcher.A) (m : dispatch_Dispatcher) (H : St w0 (Blk p 82 [.int .i64 m.kind, .int .i64 m.most, .pointer (some ⟨al.q_p, 0, none⟩), .int .i64 m.heaps0.At, .int .i64 m.heaps0.Gen, .int .i64 m.heaps1.At, .int .i64 m.heaps1.Gen, .pointer (some ⟨al.t__p, 0, none⟩), .map (some al.when_p), .pointer (some ⟨al.clock_p, 0, none⟩), .int .i64 m.budget, .int .i64 m.last, .int .i64 m.top] :: pq_Queues.R al.q_p al.q_a m.q :: jobs_Table.R al.t__p al.t__a m.t_ :: MpA al.when_p api_Ref.val vI m.when :: clock_Clock.R al.clock_p m.clock :: As) w) : St w0 (dispatch_Dispatcher.R p al m :: As) w := St.group [Blk p 82 [.int .i64 m.kind, .int .i64 m.most, .pointer (some ⟨al.q_p, 0, none⟩), .int .i64 m.heaps0.At, .int .i64 m.heaps0.Gen, .int .i64 m.heaps1.At, .int .i64 m.heaps1.Gen, .pointer (some ⟨al.t__p, 0, none⟩), .map (some al.when_p), .pointer (some ⟨al.clock_p, 0, none⟩), .int .i64 m.budget, .int .i64 m.last, .int .i64 m.top], pq_Queues.R al.q_p al.q_a m.q, jobs_Table.R al.t__p al.t__a m.t_, MpA al.when_p api_Ref.val vI m.when, clock_Clock.R al.clock_p m.clock] H

structure thicketref2_Pool.A where
  Gens_b : Option Addr
  Gens_c : Nat
  In_b : Option Addr
  In_c : Nat
  V_b : Option Addr
  V_c : Nat
  Back_b : Option Addr
  Back_c : Nat
instance : Inhabited thicketref2_Pool.A := ⟨thicketref2_Pool.A.mk default default default default default default default default⟩

def thicketref2_Pool.R (p : Nat) (al : thicketref2_Pool.A) (m : thicketref2_Pool) : HP := sepL [Blk p 210 [.int .i64 m.Most, .slice al.Gens_b m.Gens.length al.Gens_c, .slice al.In_b m.In.length al.In_c, .slice al.V_b m.V.length al.V_c, .slice al.Back_b m.Back.length al.Back_c], Sl 3 ecI 1 al.Gens_b al.Gens_c m.Gens, Sl 4 ecB 1 al.In_b al.In_c m.In, Sl 2 ecI 1 al.V_b al.V_c m.V, Sl 3 ecI 1 al.Back_b al.Back_c m.Back]

theorem thicketref2_Pool.open {w0 w : World} {As : List HP} {p : Nat} {al : thicketref2_Pool.A} {m : thicketref2_Pool} (H : St w0 (thicketref2_Pool.R p al m :: As) w) : St w0 (Blk p 210 [.int .i64 m.Most, .slice al.Gens_b m.Gens.length al.Gens_c, .slice al.In_b m.In.length al.In_c, .slice al.V_b m.V.length al.V_c, .slice al.Back_b m.Back.length al.Back_c] :: Sl 3 ecI 1 al.Gens_b al.Gens_c m.Gens :: Sl 4 ecB 1 al.In_b al.In_c m.In :: Sl 2 ecI 1 al.V_b al.V_c m.V :: Sl 3 ecI 1 al.Back_b al.Back_c m.Back :: As) w := St.flat H

theorem thicketref2_Pool.shut {w0 w : World} {As : List HP} {p : Nat} (al : thicketref2_Pool.A) (m : thicketref2_Pool) (H : St w0 (Blk p 210 [.int .i64 m.Most, .slice al.Gens_b m.Gens.length al.Gens_c, .slice al.In_b m.In.length al.In_c, .slice al.V_b m.V.length al.V_c, .slice al.Back_b m.Back.length al.Back_c] :: Sl 3 ecI 1 al.Gens_b al.Gens_c m.Gens :: Sl 4 ecB 1 al.In_b al.In_c m.In :: Sl 2 ecI 1 al.V_b al.V_c m.V :: Sl 3 ecI 1 al.Back_b al.Back_c m.Back :: As) w) : St w0 (thicketref2_Pool.R p al m :: As) w := St.group [Blk p 210 [.int .i64 m.Most, .slice al.Gens_b m.Gens.length al.Gens_c, .slice al.In_b m.In.length al.In_c, .slice al.V_b m.V.length al.V_c, .slice al.Back_b m.Back.length al.Back_c], Sl 3 ecI 1 al.Gens_b al.Gens_c m.Gens, Sl 4 ecB 1 al.In_b al.In_c m.In, Sl 2 ecI 1 al.V_b al.V_c m.V, Sl 3 ecI 1 al.Back_b al.Back_c m.Back] H

structure thicketref22_Dispatcher.A where
  Pool_p : Nat
  Pool_a : thicketref2_Pool.A
  L_b : Option Addr
  L_c : Nat
instance : Inhabited thicketref22_Dispatcher.A := ⟨thicketref22_Dispatcher.A.mk default default default default⟩

def thicketref22_Dispatcher.R (p : Nat) (al : thicketref22_Dispatcher.A) (m : thicketref22_Dispatcher) : HP := sepL [Blk p 97 [.int .i64 m.Most, .int .i64 m.Now, .int .i64 m.Next, .pointer (some ⟨al.Pool_p, 0, none⟩), .slice al.L_b m.L.length al.L_c], thicketref2_Pool.R al.Pool_p al.Pool_a m.Pool, Sl 148 thicketref22_Job.enc 6 al.L_b al.L_c m.L]

theorem thicketref22_Dispatcher.open {w0 w : World} {As : List HP} {p : Nat} {al : thicketref22_Dispatcher.A} {m : thicketref22_Dispatcher} (H : St w0 (thicketref22_Dispatcher.R p al m :: As) w) : St w0 (Blk p 97 [.int .i64 m.Most, .int .i64 m.Now, .int .i64 m.Next, .pointer (some ⟨al.Pool_p, 0, none⟩), .slice al.L_b m.L.length al.L_c] :: thicketref2_Pool.R al.Pool_p al.Pool_a m.Pool :: Sl 148 thicketref22_Job.enc 6 al.L_b al.L_c m.L :: As) w := St.flat H

theorem thicketref22_Dispatcher.shut {w0 w : World} {As : List HP} {p : Nat} (al : thicketref22_Dispatcher.A) (m : thicketref22_Dispatcher) (H : St w0 (Blk p 97 [.int .i64 m.Most, .int .i64 m.Now, .int .i64 m.Next, .pointer (some ⟨al.Pool_p, 0, none⟩), .slice al.L_b m.L.length al.L_c] :: thicketref2_Pool.R al.Pool_p al.Pool_a m.Pool :: Sl 148 thicketref22_Job.enc 6 al.L_b al.L_c m.L :: As) w) : St w0 (thicketref22_Dispatcher.R p al m :: As) w := St.group [Blk p 97 [.int .i64 m.Most, .int .i64 m.Now, .int .i64 m.Next, .pointer (some ⟨al.Pool_p, 0, none⟩), .slice al.L_b m.L.length al.L_c], thicketref2_Pool.R al.Pool_p al.Pool_a m.Pool, Sl 148 thicketref22_Job.enc 6 al.L_b al.L_c m.L] H

structure thicketlaw27_world.A where
  d_p : Nat
  d_a : dispatch_Dispatcher.A
  m__p : Nat
  m__a : thicketref22_Dispatcher.A
  told_b : Option Addr
  told_c : Nat
instance : Inhabited thicketlaw27_world.A := ⟨thicketlaw27_world.A.mk default default default default default default⟩

def thicketlaw27_world.R (p : Nat) (al : thicketlaw27_world.A) (m : thicketlaw27_world) : HP := sepL [Blk p 68 [.pointer (some ⟨al.d_p, 0, none⟩), .pointer (some ⟨al.m__p, 0, none⟩), .int .i64 m.k_, .slice al.told_b m.told.length al.told_c], dispatch_Dispatcher.R al.d_p al.d_a m.d, thicketref22_Dispatcher.R al.m__p al.m__a m.m_, Sl 26 api_Ref.enc 2 al.told_b al.told_c m.told]

theorem thicketlaw27_world.open {w0 w : World} {As : List HP} {p : Nat} {al : thicketlaw27_world.A} {m : thicketlaw27_world} (H : St w0 (thicketlaw27_world.R p al m :: As) w) : St w0 (Blk p 68 [.pointer (some ⟨al.d_p, 0, none⟩), .pointer (some ⟨al.m__p, 0, none⟩), .int .i64 m.k_, .slice al.told_b m.told.length al.told_c] :: dispatch_Dispatcher.R al.d_p al.d_a m.d :: thicketref22_Dispatcher.R al.m__p al.m__a m.m_ :: Sl 26 api_Ref.enc 2 al.told_b al.told_c m.told :: As) w := St.flat H

theorem thicketlaw27_world.shut {w0 w : World} {As : List HP} {p : Nat} (al : thicketlaw27_world.A) (m : thicketlaw27_world) (H : St w0 (Blk p 68 [.pointer (some ⟨al.d_p, 0, none⟩), .pointer (some ⟨al.m__p, 0, none⟩), .int .i64 m.k_, .slice al.told_b m.told.length al.told_c] :: dispatch_Dispatcher.R al.d_p al.d_a m.d :: thicketref22_Dispatcher.R al.m__p al.m__a m.m_ :: Sl 26 api_Ref.enc 2 al.told_b al.told_c m.told :: As) w) : St w0 (thicketlaw27_world.R p al m :: As) w := St.group [Blk p 68 [.pointer (some ⟨al.d_p, 0, none⟩), .pointer (some ⟨al.m__p, 0, none⟩), .int .i64 m.k_, .slice al.told_b m.told.length al.told_c], dispatch_Dispatcher.R al.d_p al.d_a m.d, thicketref22_Dispatcher.R al.m__p al.m__a m.m_, Sl 26 api_Ref.enc 2 al.told_b al.told_c m.told] H

theorem fair_Fires_ok {w0 w : World} {As : List HP} {k : Nat} {queue : Int} {n : Int} {t : (List api_Command)}  (hm : fair_Fires k queue n = some t) (H : St w0 (As) w) :
    CallsR Tryz.prog 6 #[.int .i64 queue, .int .i64 n] w fun v w' => ∃ (sb0 : Option Addr), ∃ (sc0 : Nat), v = .slice sb0 t.length sc0 ∧ St w0 (Sl 28 api_Command.enc 6 sb0 sc0 t :: As) w' := by
 rw [fair_Fires] at hm
 refine enter (args := [.int .i64 queue, .int .i64 n]) Tryz.func6 rfl rfl rfl fun a hE => ?_
 refine Runs.sr ?_
 refine WR.seg hE 1 [] [0, 1] (Lo := [(0, .int .i64 queue), (1, .int .i64 n)]) (obs := []) rfl (by kernel_rfl) trivial fun a hE => ?_
 refine WR.done rfl ?_
 refine Runs.sr ?_
 refine WR.e0 hE [(5, .slice none 0 0)] fun a hE => ?_
 refine Runs.seq ?_
 refine Runs.sr ?_
 refine WR.e0 hE [(8, .int .i64 (if (if 4096 < n then 4096 else n) > 0 then (if 4096 < n then 4096 else n) else 0)), (9, .int .i64 0)] fun a hE => ?_
 obtain ⟨s, es, hm⟩ := bind_some hm
 refine Runs.join (fun a w => ∃ (sb1 : Option Addr), ∃ (sc1 : Nat), EnvOk 18 a [(5, .slice sb1 s.length sc1)] ∧ St w0 (Sl 28 api_Command.enc 6 sb1 sc1 s :: As) w) (fun hk => ?_) ?_
 ·replace hm := es; clear es
  replace H := H.slNil 28 api_Command.enc 6
  refine Runs.block ?_
  refine Runs.loop (fun m a w => ∃ (out : List api_Command), ∃ (x : Int), ∃ (sb2 : Option Addr), ∃ (sc2 : Nat), EnvOk 18 a [(0, .int .i64 queue), (5, .slice sb2 out.length sc2), (8, .int .i64 (if (if 4096 < n then 4096 else n) > 0 then (if 4096 < n then 4096 else n) else 0)), (9, .int .i64 x)] ∧ St w0 (Sl 28 api_Command.enc 6 sb2 sc2 out :: As) w ∧ fair_Fires_l0 queue (if (if 4096 < n then 4096 else n) > 0 then (if 4096 < n then 4096 else n) else 0) m out x = some s) k ⟨([] : List api_Command), 0, none, 0, hE.sel [0, 5, 8, 9] (by kernel_rfl), H, hm⟩ ?_
  rintro m ih a w ⟨out, x, sb2, sc2, hE, H, hm⟩
  cases m with
  | zero => simp [fair_Fires_l0] at hm
  | succ m =>
   rw [fair_Fires_l0] at hm
   refine Runs.sr ?_
   refine WR.seg hE 1 [] [0, 5, 8, 9, 10] (Lo := [(0, .int .i64 queue), (5, .slice sb2 out.length sc2), (8, .int .i64 (if (if 4096 < n then 4096 else n) > 0 then (if 4096 < n then 4096 else n) else 0)), (9, .int .i64 x), (10, .bool (decide (x < (if (if 4096 < n then 4096 else n) > 0 then (if 4096 < n then 4096 else n) else 0))))]) (obs := []) rfl (by kernel_rfl) trivial fun a hE => ?_
   refine WR.done rfl ?_
   refine Runs.seq ?_
   refine Runs.cond hE rfl (fun c => ?_) (fun c => ?_)
   ·replace hm := cond_t c hm
    refine Runs.skip ?_
    refine Runs.seq ?_
    refine Runs.block ?_
    refine Runs.region ?_
    refine WR.d0 hE 3 [(11, .slice sb2 out.length sc2), (13, .agg #[.int .i64 5, .int .i64 queue, .int .i64 0, .int .i64 0, .int .i64 0, .int .i64 0])] fun a hE => ?_
    refine WR.eff hE rfl rfl rfl rfl (OpTo.buildSl (T := 28) hE H api_Command.enc_ok ([api_Command.mk 5 queue (api_Ref.mk 0 0) 0 0] : List api_Command) rfl (fun _ => by kernel_rfl) rfl rfl rfl) ?_
    rintro _ w ⟨r, rfl, H⟩ a hE
    obtain ⟨l, el, hm⟩ := bind_some hm
    replace H := H.t1
    refine WR.eff hE rfl rfl rfl rfl (OpTo.appendM el hE H api_Command.enc_ok rfl rfl rfl rfl rfl rfl rfl rfl rfl rfl (SlRd.all (sl_rd 28 api_Command.enc 6 _ _ _) api_Command.enc_ok H 1 rfl) rfl) ?_
    rintro _ w ⟨sb3, sc3, rfl, H⟩ a hE
    refine WR.e0 hE [(5, .slice sb3 l.length sc3)] fun a hE => ?_
    refine Runs.inBlock ?_
    refine Runs.region ?_
    refine WR.e0 hE [(9, .int .i64 (w64 (x + 1)))] fun a hE => ?_
    exact ih m (Nat.lt_succ_self m) _ _ ⟨l, w64 (x + 1), sb3, sc3, hE.sel [0, 5, 8, 9] (by kernel_rfl), H.x1, hm⟩
   ·replace hm := cond_f c hm
    refine Runs.exit rfl ?_
    cases hm
    exact hk _ _ ⟨sb2, sc2, hE.sel [5] (by kernel_rfl), H⟩
 rintro a w ⟨sb1, sc1, hE, H⟩
 refine Runs.sr ?_
 refine WR.seg hE 2 [] [4] (Lo := [(4, .slice sb1 s.length sc1)]) (obs := []) rfl (by kernel_rfl) trivial fun a hE => ?_
 refine WR.done rfl ?_
 refine Runs.ret hE Tryz.func6 rfl rfl ?_
 cases hm
 exact ⟨sb1, sc1, rfl, H⟩

theorem thicketlaw27_fires_ok {w0 w : World} {As : List HP} {k : Nat} {n : Int} {t : (List trace_Event)}  (hm : thicketlaw27_fires k n = some t) (H : St w0 (As) w) :
    CallsR Tryz.prog 7 #[.int .i64 n] w fun v w' => ∃ (sb0 : Option Addr), ∃ (sc0 : Nat), v = .slice sb0 t.length sc0 ∧ St w0 (Sl 62 trace_Event.enc 14 sb0 sc0 t :: As) w' := by
 rw [thicketlaw27_fires] at hm
 refine enter (args := [.int .i64 n]) Tryz.func7 rfl rfl rfl fun a hE => ?_
 refine Runs.sr ?_
 refine WR.seg hE 1 [] [0] (Lo := [(0, .int .i64 n)]) (obs := []) rfl (by kernel_rfl) trivial fun a hE => ?_
 refine WR.done rfl ?_
 refine Runs.sr ?_
 refine WR.e0 hE [(3, .slice none 0 0)] fun a hE => ?_
 refine Runs.seq ?_
 refine Runs.sr ?_
 refine WR.e0 hE [(4, .int .i64 0)] fun a hE => ?_
 obtain ⟨s, es, hm⟩ := bind_some hm
 refine Runs.join (fun a w => ∃ (sb1 : Option Addr), ∃ (sc1 : Nat), EnvOk 18 a [(3, .slice sb1 s.length sc1)] ∧ St w0 (Sl 62 trace_Event.enc 14 sb1 sc1 s :: As) w) (fun hk => ?_) ?_
 ·replace hm := es; clear es
  replace H := H.slNil 62 trace_Event.enc 14
  refine Runs.block ?_
  refine Runs.loop (fun m a w => ∃ (out : List trace_Event), ∃ (i : Int), ∃ (sb2 : Option Addr), ∃ (sc2 : Nat), EnvOk 18 a [(0, .int .i64 n), (3, .slice sb2 out.length sc2), (4, .int .i64 i)] ∧ St w0 (Sl 62 trace_Event.enc 14 sb2 sc2 out :: As) w ∧ thicketlaw27_fires_l0 n m out i = some s) k ⟨([] : List trace_Event), 0, none, 0, hE.sel [0, 3, 4] (by kernel_rfl), H, hm⟩ ?_
  rintro m ih a w ⟨out, i, sb2, sc2, hE, H, hm⟩
  cases m with
  | zero => simp [thicketlaw27_fires_l0] at hm
  | succ m =>
   rw [thicketlaw27_fires_l0] at hm
   refine Runs.seq ?_
   refine Runs.sr ?_
   refine WR.seg hE 3 [] [0, 3, 4, 7] (Lo := [(0, .int .i64 n), (3, .slice sb2 out.length sc2), (4, .int .i64 i), (7, .bool (decide (i < n)))]) (obs := []) rfl (by kernel_rfl) trivial fun a hE => ?_
   refine WR.done rfl ?_
   refine Runs.cond hE rfl (fun c => ?_) (fun c => ?_)
   ·replace hm := cond_t c hm
    refine Runs.skip ?_
    refine Runs.seq ?_
    refine Runs.block ?_
    refine Runs.region ?_
    refine WR.d0 hE 5 [(10, .slice sb2 out.length sc2), (14, .agg #[.int .i64 5, .int .i64 0, .int .i64 0, .int .i64 0, .int .i64 0, .int .i64 0, .int .i64 0, .int .i64 0, .int .i64 0, .int .i64 i, .int .i64 0, .int .i64 0, .int .i64 0, .int .i64 0])] fun a hE => ?_
    refine WR.eff hE rfl rfl rfl rfl (OpTo.buildSl (T := 62) hE H trace_Event.enc_ok ([trace_Event.mk (api_Command.mk 5 0 (api_Ref.mk 0 0) 0 0) (api_Reply.mk 0 (api_Ref.mk 0 0) i 0 0) 0 0] : List trace_Event) rfl (fun _ => by kernel_rfl) rfl rfl rfl) ?_
    rintro _ w ⟨r, rfl, H⟩ a hE
    obtain ⟨l, el, hm⟩ := bind_some hm
    replace H := H.t1
    refine WR.eff hE rfl rfl rfl rfl (OpTo.appendM el hE H trace_Event.enc_ok rfl rfl rfl rfl rfl rfl rfl rfl rfl rfl (SlRd.all (sl_rd 62 trace_Event.enc 14 _ _ _) trace_Event.enc_ok H 1 rfl) rfl) ?_
    rintro _ w ⟨sb3, sc3, rfl, H⟩ a hE
    refine WR.e0 hE [(3, .slice sb3 l.length sc3)] fun a hE => ?_
    refine Runs.inBlock ?_
    refine Runs.region ?_
    refine WR.e0 hE [(4, .int .i64 (w64 (i + 1)))] fun a hE => ?_
    exact ih m (Nat.lt_succ_self m) _ _ ⟨l, w64 (i + 1), sb3, sc3, hE.sel [0, 3, 4] (by kernel_rfl), H.x1, hm⟩
   ·replace hm := cond_f c hm
    refine Runs.exit rfl ?_
    cases hm
    exact hk _ _ ⟨sb2, sc2, hE.sel [3] (by kernel_rfl), H⟩
 rintro a w ⟨sb1, sc1, hE, H⟩
 refine Runs.sr ?_
 refine WR.seg hE 2 [] [2] (Lo := [(2, .slice sb1 s.length sc1)]) (obs := []) rfl (by kernel_rfl) trivial fun a hE => ?_
 refine WR.done rfl ?_
 refine Runs.ret hE Tryz.func7 rfl rfl ?_
 cases hm
 exact ⟨sb1, sc1, rfl, H⟩

theorem fair_Order_ok {w0 w : World} {As : List HP} {k : Nat} {sb_l : Option Addr} {sc_l : Nat} {l : List trace_Event} {X_l : HP} {t : Bool} (hX_l : SlRd X_l trace_Event.enc 14 sb_l l) (hC_l : l.length ≤ sc_l) (hm : fair_Order k l = some t) (H : St w0 (X_l :: As) w) :
    CallsR Tryz.prog 8 #[.slice sb_l l.length sc_l] w fun v w' => v = .bool t ∧ St w0 (X_l :: As) w' := by
 rw [fair_Order] at hm
 refine enter (args := [.slice sb_l l.length sc_l]) Tryz.func8 rfl rfl rfl fun a hE => ?_
 refine Runs.sr ?_
 refine WR.seg hE 1 [] [0] (Lo := [(0, .slice sb_l l.length sc_l)]) (obs := []) rfl (by kernel_rfl) trivial fun a hE => ?_
 refine WR.done rfl ?_
 refine Runs.sr ?_
 refine WR.eff hE rfl rfl rfl rfl (OpTo.mpNew vI vI hE H rfl) ?_
 rintro _ w ⟨r, rfl, H⟩ a hE
 refine WR.e0 hE [(3, .map (some r))] fun a hE => ?_
 refine Runs.seq ?_
 refine Runs.sr ?_
 refine WR.e0 hE [(9, .slice sb_l l.length sc_l), (10, .int .i64 (l.length : Int)), (11, .int .i64 0)] fun a hE => ?_
 obtain ⟨s, es, hR⟩ := bind_some hm
 refine Runs.join (fun a w => ∃ s1, s = Sum.inr s1 ∧ EnvOk 48 a [] ∧ St w0 (X_l :: As) w) (fun hk => ?_) ?_
 ·replace hm := es; clear es
  refine Runs.block ?_
  refine Runs.loop (fun m a w => ∃ (x : Int), ∃ (m_ : List (Int × Int)), EnvOk 48 a [(3, .map (some r)), (9, .slice sb_l l.length sc_l), (10, .int .i64 (l.length : Int)), (11, .int .i64 x)] ∧ St w0 (MpA r vI vI m_ :: X_l :: As) w ∧ fair_Order_l0 (l.length : Int) l m x m_ = some s) k ⟨0, ([] : List (Int × Int)), hE.sel [3, 9, 10, 11] (by kernel_rfl), H.t1.t1, hm⟩ ?_
  rintro m ih a w ⟨x, m_, hE, H, hm⟩
  cases m with
  | zero => simp [fair_Order_l0] at hm
  | succ m =>
   rw [fair_Order_l0] at hm
   refine Runs.sr ?_
   refine WR.seg hE 1 [] [3, 9, 10, 11, 12] (Lo := [(3, .map (some r)), (9, .slice sb_l l.length sc_l), (10, .int .i64 (l.length : Int)), (11, .int .i64 x), (12, .bool (decide (x < (l.length : Int))))]) (obs := []) rfl (by kernel_rfl) trivial fun a hE => ?_
   refine WR.done rfl ?_
   refine Runs.seq ?_
   refine Runs.cond hE rfl (fun c => ?_) (fun c => ?_)
   ·replace hm := cond_t c hm
    refine Runs.skip ?_
    refine Runs.seq ?_
    obtain ⟨s2, es2, hR1⟩ := bind_some hm
    refine Runs.join (fun a w => ∃ s3, s2 = Sum.inr s3 ∧ EnvOk 48 a [(3, .map (some r)), (9, .slice sb_l l.length sc_l), (10, .int .i64 (l.length : Int)), (11, .int .i64 x)] ∧ St w0 (MpA r vI vI s3 :: X_l :: As) w) (fun hk => ?_) ?_
    ·replace hm := es2; clear es2
     refine Runs.block ?_
     refine Runs.sr ?_
     obtain ⟨x2, ex2, hm⟩ := bind_some hm
     obtain ⟨b, o, hs, hb⟩ := SlRd.base hX_l trace_Event.enc_ok H 1 rfl ex2
     refine WR.d hE 2 [.pointer (some ⟨b, o, none⟩), .int .i64 x2.Command.Kind, .int .i64 x2.Command.Queue, .int .i64 x2.Command.Job.At, .int .i64 x2.Command.Job.Gen, .int .i64 x2.Command.Time, .int .i64 x2.Command.Data, .int .i64 x2.Reply.Why, .int .i64 x2.Reply.Job.At, .int .i64 x2.Reply.Job.Gen, .int .i64 x2.Reply.Time, .int .i64 x2.Reply.Data, .int .i64 x2.Reply.N, .int .i64 x2.Now, .int .i64 x2.Steps] [(14, .agg #[.int .i64 x2.Command.Kind, .int .i64 x2.Command.Queue, .int .i64 x2.Command.Job.At, .int .i64 x2.Command.Job.Gen, .int .i64 x2.Command.Time, .int .i64 x2.Command.Data, .int .i64 x2.Reply.Why, .int .i64 x2.Reply.Job.At, .int .i64 x2.Reply.Job.Gen, .int .i64 x2.Reply.Time, .int .i64 x2.Reply.Data, .int .i64 x2.Reply.N, .int .i64 x2.Now, .int .i64 x2.Steps])] (obs := [.p ((sb_l : Option Addr) = some ⟨b, o, none⟩), .p (0 ≤ (x : Int) ∧ (x : Int) < ((l.length : Nat) : Int)), .cell ⟨b, o + (Int.toNat x) * 14, none⟩ (.int .i64 x2.Command.Kind), .cell ⟨b, o + (Int.toNat x) * 14 + 1, none⟩ (.int .i64 x2.Command.Queue), .cell ⟨b, o + (Int.toNat x) * 14 + 2, none⟩ (.int .i64 x2.Command.Job.At), .cell ⟨b, o + (Int.toNat x) * 14 + 3, none⟩ (.int .i64 x2.Command.Job.Gen), .cell ⟨b, o + (Int.toNat x) * 14 + 4, none⟩ (.int .i64 x2.Command.Time), .cell ⟨b, o + (Int.toNat x) * 14 + 5, none⟩ (.int .i64 x2.Command.Data), .cell ⟨b, o + (Int.toNat x) * 14 + 6, none⟩ (.int .i64 x2.Reply.Why), .cell ⟨b, o + (Int.toNat x) * 14 + 7, none⟩ (.int .i64 x2.Reply.Job.At), .cell ⟨b, o + (Int.toNat x) * 14 + 8, none⟩ (.int .i64 x2.Reply.Job.Gen), .cell ⟨b, o + (Int.toNat x) * 14 + 9, none⟩ (.int .i64 x2.Reply.Time), .cell ⟨b, o + (Int.toNat x) * 14 + 10, none⟩ (.int .i64 x2.Reply.Data), .cell ⟨b, o + (Int.toNat x) * 14 + 11, none⟩ (.int .i64 x2.Reply.N), .cell ⟨b, o + (Int.toNat x) * 14 + 12, none⟩ (.int .i64 x2.Now), .cell ⟨b, o + (Int.toNat x) * 14 + 13, none⟩ (.int .i64 x2.Steps)]) ⟨hs, hb, SlRd.cells hX_l trace_Event.enc_ok H 1 rfl hs ex2 0 _ rfl, SlRd.cells hX_l trace_Event.enc_ok H 1 rfl hs ex2 1 _ rfl, SlRd.cells hX_l trace_Event.enc_ok H 1 rfl hs ex2 2 _ rfl, SlRd.cells hX_l trace_Event.enc_ok H 1 rfl hs ex2 3 _ rfl, SlRd.cells hX_l trace_Event.enc_ok H 1 rfl hs ex2 4 _ rfl, SlRd.cells hX_l trace_Event.enc_ok H 1 rfl hs ex2 5 _ rfl, SlRd.cells hX_l trace_Event.enc_ok H 1 rfl hs ex2 6 _ rfl, SlRd.cells hX_l trace_Event.enc_ok H 1 rfl hs ex2 7 _ rfl, SlRd.cells hX_l trace_Event.enc_ok H 1 rfl hs ex2 8 _ rfl, SlRd.cells hX_l trace_Event.enc_ok H 1 rfl hs ex2 9 _ rfl, SlRd.cells hX_l trace_Event.enc_ok H 1 rfl hs ex2 10 _ rfl, SlRd.cells hX_l trace_Event.enc_ok H 1 rfl hs ex2 11 _ rfl, SlRd.cells hX_l trace_Event.enc_ok H 1 rfl hs ex2 12 _ rfl, SlRd.cells hX_l trace_Event.enc_ok H 1 rfl hs ex2 13 _ rfl, trivial⟩ fun a hE => ?_
     refine WR.eff hE rfl rfl rfl rfl (OpTo.new hE H [] (.cells #[.int .i64 0, .int .i64 0, .int .i64 0, .int .i64 0, .int .i64 0, .int .i64 0, .int .i64 0, .int .i64 0, .int .i64 0, .int .i64 0, .int .i64 0, .int .i64 0, .int .i64 0, .int .i64 0] 62 (0, 0)) (fun r => .pointer (some ⟨r, 0, none⟩)) (obs := []) rfl (fun _ => by kernel_rfl) trivial) ?_
     rintro _ w ⟨r1, rfl, H⟩ a hE
     refine WR.eff0 hE rfl rfl rfl (OpTo.store hE H rfl rfl rfl rfl rfl rfl (Nat.le_of_ble_eq_true rfl)) ?_
     rintro _ w H a hE
     refine WR.done rfl ?_
     refine Runs.seq ?_
     refine Runs.sr ?_
     refine WR.e hE [.int .i64 x2.Command.Kind] [(18, .bool (x2.Command.Kind != 5))] (obs := [.cell ⟨r1, 0, none⟩ (.int .i64 x2.Command.Kind)]) ⟨H.cell 0 rfl rfl, trivial⟩ fun a hE => ?_
     refine Runs.cond hE rfl (fun c => ?_) (fun c => ?_)
     ·replace hm := cond_t c hm
      refine Runs.sr ?_
      refine WR.d0 hE 1 [(19, .map (some r))] fun a hE => ?_
      refine WR.eff0 hE rfl rfl rfl (OpTo.mpClear hE H.t1 rfl rfl rfl rfl) ?_
      rintro _ w ⟨rfl, H⟩ a hE
      refine WR.done rfl ?_
      refine Runs.exit rfl ?_
      cases hm
      exact hk _ _ ⟨_, rfl, hE.sel [3, 9, 10, 11] (by kernel_rfl), H.x1.t1.t1⟩
     ·replace hm := cond_f c hm
      refine Runs.skip ?_
      refine Runs.seq ?_
      refine Runs.sr ?_
      refine WR.e hE [.int .i64 x2.Reply.Why] [(23, .bool (x2.Reply.Why != 0))] (obs := [.cell ⟨r1, 6, none⟩ (.int .i64 x2.Reply.Why)]) ⟨H.cell 0 rfl rfl, trivial⟩ fun a hE => ?_
      refine Runs.cond hE rfl (fun c => ?_) (fun c => ?_)
      ·replace hm := cond_t c hm
       refine Runs.exit rfl ?_
       cases hm
       exact hk _ _ ⟨_, rfl, hE.sel [3, 9, 10, 11] (by kernel_rfl), H.x0.t1.t1⟩
      ·replace hm := cond_f c hm
       refine Runs.skip ?_
       refine Runs.seq ?_
       refine Runs.sr ?_
       refine WR.d hE 4 [.int .i64 x2.Command.Queue] [(25, .map (some r)), (28, .int .i64 x2.Command.Queue)] (obs := [.cell ⟨r1, 1, none⟩ (.int .i64 x2.Command.Queue)]) ⟨H.cell 0 rfl rfl, trivial⟩ fun a hE => ?_
       obtain ⟨x3, ex3, hm⟩ := bind_some hm
       refine WR.eff hE rfl rfl rfl rfl (OpTo.mpGet2 1 hE H rfl (KeyOk.int rfl) ex3 rfl rfl rfl rfl rfl rfl) ?_
       rintro _ _ ⟨rfl, rfl⟩ a hE
       refine WR.e0 hE [(6, .int .i64 x3.1), (7, .bool x3.2)] fun a hE => ?_
       refine Runs.seq ?_
       refine Runs.join (fun a w => EnvOk 48 a [(3, .map (some r)), (5, .pointer (some ⟨r1, 0, none⟩)), (9, .slice sb_l l.length sc_l), (10, .int .i64 (l.length : Int)), (11, .int .i64 x), (39, .bool (x3.2 && (decide (x2.Reply.Time < x3.1))))] ∧ St w0 (Blk r1 62 [.int .i64 x2.Command.Kind, .int .i64 x2.Command.Queue, .int .i64 x2.Command.Job.At, .int .i64 x2.Command.Job.Gen, .int .i64 x2.Command.Time, .int .i64 x2.Command.Data, .int .i64 x2.Reply.Why, .int .i64 x2.Reply.Job.At, .int .i64 x2.Reply.Job.Gen, .int .i64 x2.Reply.Time, .int .i64 x2.Reply.Data, .int .i64 x2.Reply.N, .int .i64 x2.Now, .int .i64 x2.Steps] :: MpA r vI vI m_ :: X_l :: As) w) (fun hk => ?_) ?_
       ·clear hm
        refine Runs.region ?_
        refine WR.d0 hE 2 [(33, .bool x3.2)] fun a hE => ?_
        rcases Bool.eq_false_or_eq_true x3.2 with c | c
        ·replace hE := hE.dec 33 c (by kernel_rfl)
         have c_ := c
         refine WR.e hE [.int .i64 x2.Reply.Time] [(39, .bool (decide (x2.Reply.Time < x3.1)))] (obs := [.cell ⟨r1, 9, none⟩ (.int .i64 x2.Reply.Time)]) ⟨H.cell 0 rfl rfl, trivial⟩ fun a hE => ?_
         refine hk _ _ ⟨?_, H.t2.t2.t2⟩
         try rw [c_] at hE
         try rw [c_]
         exact hE.sel [3, 5, 9, 10, 11, 39] (by kernel_rfl)
        ·replace hE := hE.dec 33 c (by kernel_rfl)
         have c_1 := c
         refine WR.e0 hE [(39, .bool false)] fun a hE => ?_
         refine hk _ _ ⟨?_, H.t2.t2.t2⟩
         try rw [c_1] at hE
         try rw [c_1]
         exact hE.sel [3, 5, 9, 10, 11, 39] (by kernel_rfl)
       rintro a w ⟨hE, H⟩
       refine Runs.cond hE rfl (fun c => ?_) (fun c => ?_)
       ·replace hm := cond_t c hm
        refine Runs.sr ?_
        refine WR.seg hE 1 [] [2] (Lo := [(2, .bool false)]) (obs := []) rfl (by kernel_rfl) trivial fun a hE => ?_
        refine WR.done rfl ?_
        refine Runs.ret hE Tryz.func8 rfl rfl ?_
        cases hm
        dsimp only at hR1; cases hR1
        dsimp only at hR; cases hR
        exact ⟨rfl, H.x1.x0⟩
       ·replace hm := cond_f c hm
        refine Runs.skip ?_
        refine Runs.region ?_
        refine WR.seg hE 7 [.int .i64 x2.Command.Queue, .int .i64 x2.Reply.Time] [3, 9, 10, 11, 40, 43, 46] (Lo := [(3, .map (some r)), (9, .slice sb_l l.length sc_l), (10, .int .i64 (l.length : Int)), (11, .int .i64 x), (40, .map (some r)), (43, .int .i64 x2.Command.Queue), (46, .int .i64 x2.Reply.Time)]) (obs := [.cell ⟨r1, 1, none⟩ (.int .i64 x2.Command.Queue), .cell ⟨r1, 9, none⟩ (.int .i64 x2.Reply.Time)]) rfl (by kernel_rfl) ⟨H.cell 0 rfl rfl, H.cell 0 rfl rfl, trivial⟩ fun a hE => ?_
        refine WR.eff0 hE rfl rfl rfl (OpTo.mpPut (k := x2.Command.Queue) (v := x2.Reply.Time) hE H.t1 (KeyOk.int rfl) rfl rfl rfl rfl rfl) ?_
        rintro _ w H a hE
        refine WR.done rfl ?_
        refine Runs.inBlock ?_
        cases hm
        exact hk _ _ ⟨_, rfl, hE.sel [3, 9, 10, 11] (by kernel_rfl), H.x1.t1.t1⟩
    rintro a w ⟨s3, rfl, hE, H⟩
    replace hm := hR1; dsimp only at hm
    refine Runs.region ?_
    refine WR.seg hE 2 [] [3, 9, 10, 11] (Lo := [(3, .map (some r)), (9, .slice sb_l l.length sc_l), (10, .int .i64 (l.length : Int)), (11, .int .i64 (w64 (x + 1)))]) (obs := []) rfl (by kernel_rfl) trivial fun a hE => ?_
    refine WR.done rfl ?_
    exact ih m (Nat.lt_succ_self m) _ _ ⟨w64 (x + 1), s3, hE.sel [3, 9, 10, 11] (by kernel_rfl), H.t1.t1, hm⟩
   ·replace hm := cond_f c hm
    refine Runs.exit rfl ?_
    cases hm
    exact hk _ _ ⟨_, rfl, hE.sel [] (by kernel_rfl), H.x0⟩
 rintro a w ⟨s1, rfl, hE, H⟩
 replace hm := hR; dsimp only at hm
 refine Runs.sr ?_
 refine WR.seg hE 1 [] [2] (Lo := [(2, .bool true)]) (obs := []) rfl (by kernel_rfl) trivial fun a hE => ?_
 refine WR.done rfl ?_
 refine Runs.ret hE Tryz.func8 rfl rfl ?_
 cases hm
 exact ⟨rfl, H⟩

theorem thicketlaw27_ordered_ok {w0 w : World} {As : List HP} {k : Nat} {sb_l : Option Addr} {sc_l : Nat} {l : List trace_Event} {X_l : HP} {t : Bool} (hX_l : SlRd X_l trace_Event.enc 14 sb_l l) (hC_l : l.length ≤ sc_l) (hm : thicketlaw27_ordered k l = some t) (H : St w0 (X_l :: As) w) :
    CallsR Tryz.prog 9 #[.slice sb_l l.length sc_l] w fun v w' => v = .bool t ∧ St w0 (X_l :: As) w' := by
 rw [thicketlaw27_ordered] at hm
 refine enter (args := [.slice sb_l l.length sc_l]) Tryz.func9 rfl rfl rfl fun a hE => ?_
 refine Runs.sr ?_
 refine WR.seg hE 1 [] [0] (Lo := [(0, .slice sb_l l.length sc_l)]) (obs := []) rfl (by kernel_rfl) trivial fun a hE => ?_
 refine WR.done rfl ?_
 refine Runs.seq ?_
 refine Runs.sr ?_
 refine WR.e0 hE [(3, .int .i64 0)] fun a hE => ?_
 obtain ⟨s, es, hR⟩ := bind_some hm
 refine Runs.join (fun a w => ∃ s1, s = Sum.inr s1 ∧ EnvOk 81 a [] ∧ St w0 (X_l :: As) w) (fun hk => ?_) ?_
 ·replace hm := es; clear es
  refine Runs.block ?_
  refine Runs.loop (fun m a w => ∃ (i : Int), EnvOk 81 a [(0, .slice sb_l l.length sc_l), (3, .int .i64 i)] ∧ St w0 (X_l :: As) w ∧ thicketlaw27_ordered_l0 l m i = some s) k ⟨0, hE.sel [0, 3] (by kernel_rfl), H, hm⟩ ?_
  rintro m ih a w ⟨i, hE, H, hm⟩
  cases m with
  | zero => simp [thicketlaw27_ordered_l0] at hm
  | succ m =>
   rw [thicketlaw27_ordered_l0] at hm
   refine Runs.seq ?_
   refine Runs.sr ?_
   refine WR.seg hE 4 [] [0, 3, 8] (Lo := [(0, .slice sb_l l.length sc_l), (3, .int .i64 i), (8, .bool (decide (i < (l.length : Int))))]) (obs := []) rfl (by kernel_rfl) trivial fun a hE => ?_
   refine WR.done rfl ?_
   refine Runs.cond hE rfl (fun c => ?_) (fun c => ?_)
   ·replace hm := cond_t c hm
    refine Runs.skip ?_
    refine Runs.seq ?_
    obtain ⟨s2, es2, hR1⟩ := bind_some hm
    refine Runs.join (fun a w => ∃ s3, s2 = Sum.inr s3 ∧ EnvOk 81 a [(0, .slice sb_l l.length sc_l), (3, .int .i64 i)] ∧ St w0 (X_l :: As) w) (fun hk => ?_) ?_
    ·replace hm := es2; clear es2
     refine Runs.block ?_
     refine Runs.seq ?_
     refine Runs.seq ?_
     obtain ⟨s4, es4, hm⟩ := bind_some hm
     refine Runs.join (fun a w => EnvOk 81 a [(0, .slice sb_l l.length sc_l), (3, .int .i64 i), (26, .bool s4)] ∧ St w0 (X_l :: As) w) (fun hk => ?_) ?_
     ·replace hm := es4; clear es4
      refine Runs.region ?_
      obtain ⟨x2, ex2, hm⟩ := bind_some hm
      obtain ⟨b2, o2, hs2, hb2⟩ := SlRd.base hX_l trace_Event.enc_ok H 0 rfl ex2
      refine WR.d hE 8 [.pointer (some ⟨b2, o2, none⟩), .int .i64 x2.Command.Kind] [(18, .bool (x2.Command.Kind != 5))] (obs := [.p ((sb_l : Option Addr) = some ⟨b2, o2, none⟩), .p (0 ≤ (i : Int) ∧ (i : Int) < ((l.length : Nat) : Int)), .cell ⟨b2, o2 + (Int.toNat i) * 14, none⟩ (.int .i64 x2.Command.Kind)]) ⟨hs2, hb2, SlRd.cells hX_l trace_Event.enc_ok H 0 rfl hs2 ex2 0 _ rfl, trivial⟩ fun a hE => ?_
      rcases Bool.eq_false_or_eq_true (x2.Command.Kind != 5) with c | c
      ·replace hE := hE.dec 18 c (by kernel_rfl)
       replace hm := cond_t c hm
       have c_ := c
       refine WR.e0 hE [(26, .bool true)] fun a hE => ?_
       cases hm
       exact hk _ _ ⟨hE.sel [0, 3, 26] (by kernel_rfl), H⟩
      ·replace hE := hE.dec 18 c (by kernel_rfl)
       replace hm := cond_f c hm
       have c_1 := c
       obtain ⟨x3, ex3, hm⟩ := bind_some hm
       obtain ⟨b3, o3, hs3, hb3⟩ := SlRd.base hX_l trace_Event.enc_ok H 0 rfl ex3
       refine WR.e hE [.pointer (some ⟨b3, o3, none⟩), .int .i64 x3.Reply.Why] [(26, .bool (x3.Reply.Why != 0))] (obs := [.p ((sb_l : Option Addr) = some ⟨b3, o3, none⟩), .p (0 ≤ (i : Int) ∧ (i : Int) < ((l.length : Nat) : Int)), .cell ⟨b3, o3 + (Int.toNat i) * 14 + 6, none⟩ (.int .i64 x3.Reply.Why)]) ⟨hs3, hb3, SlRd.cells hX_l trace_Event.enc_ok H 0 rfl hs3 ex3 6 _ rfl, trivial⟩ fun a hE => ?_
       cases hm
       exact hk _ _ ⟨hE.sel [0, 3, 26] (by kernel_rfl), H⟩
     rintro a w ⟨hE, H⟩
     refine Runs.cond hE rfl (fun c => ?_) (fun c => ?_)
     ·replace hm := cond_t c hm
      refine Runs.exit rfl ?_
      cases hm
      exact hk _ _ ⟨_, rfl, hE.sel [0, 3] (by kernel_rfl), H⟩
     ·replace hm := cond_f c hm
      refine Runs.skip ?_
      refine Runs.sr ?_
      refine WR.seg hE 3 [] [0, 3, 4] (Lo := [(0, .slice sb_l l.length sc_l), (3, .int .i64 i), (4, .int .i64 (w64 (i + 1)))]) (obs := []) rfl (by kernel_rfl) trivial fun a hE => ?_
      refine WR.done rfl ?_
      obtain ⟨s5, es5, hR2⟩ := bind_some hm
      refine Runs.join (fun a w => ∃ s6, s5 = Sum.inr s6 ∧ EnvOk 81 a [(0, .slice sb_l l.length sc_l), (3, .int .i64 i)] ∧ St w0 (X_l :: As) w) (fun hk => ?_) ?_
      ·replace hm := es5; clear es5
       refine Runs.block ?_
       refine Runs.loop (fun m a w => ∃ (k_ : Int), EnvOk 81 a [(0, .slice sb_l l.length sc_l), (3, .int .i64 i), (4, .int .i64 k_)] ∧ St w0 (X_l :: As) w ∧ thicketlaw27_ordered_l1 i l m k_ = some s5) m ⟨w64 (i + 1), hE.sel [0, 3, 4] (by kernel_rfl), H, hm⟩ ?_
       rintro m ih a w ⟨k_, hE, H, hm⟩
       cases m with
       | zero => simp [thicketlaw27_ordered_l1] at hm
       | succ m =>
        rw [thicketlaw27_ordered_l1] at hm
        refine Runs.seq ?_
        refine Runs.seq ?_
        obtain ⟨s7, es7, hm⟩ := bind_some hm
        refine Runs.join (fun a w => EnvOk 81 a [(0, .slice sb_l l.length sc_l), (3, .int .i64 i), (4, .int .i64 k_), (41, .bool s7)] ∧ St w0 (X_l :: As) w) (fun hk => ?_) ?_
        ·replace hm := es7; clear es7
         refine Runs.region ?_
         refine WR.seg hE 5 [] [0, 3, 4, 33] (Lo := [(0, .slice sb_l l.length sc_l), (3, .int .i64 i), (4, .int .i64 k_), (33, .bool (decide (k_ < (l.length : Int))))]) (obs := []) rfl (by kernel_rfl) trivial fun a hE => ?_
         rcases Bool.eq_false_or_eq_true (decide (k_ < (l.length : Int))) with c | c
         ·replace hE := hE.dec 33 c (by kernel_rfl)
          replace hm := cond_t c hm
          have c_2 := c
          obtain ⟨x5, ex5, hm⟩ := bind_some hm
          obtain ⟨b5, o5, hs5, hb5⟩ := SlRd.base hX_l trace_Event.enc_ok H 0 rfl ex5
          refine WR.e hE [.pointer (some ⟨b5, o5, none⟩), .int .i64 x5.Command.Kind] [(41, .bool (x5.Command.Kind == 5))] (obs := [.p ((sb_l : Option Addr) = some ⟨b5, o5, none⟩), .p (0 ≤ (k_ : Int) ∧ (k_ : Int) < ((l.length : Nat) : Int)), .cell ⟨b5, o5 + (Int.toNat k_) * 14, none⟩ (.int .i64 x5.Command.Kind)]) ⟨hs5, hb5, SlRd.cells hX_l trace_Event.enc_ok H 0 rfl hs5 ex5 0 _ rfl, trivial⟩ fun a hE => ?_
          cases hm
          exact hk _ _ ⟨hE.sel [0, 3, 4, 41] (by kernel_rfl), H⟩
         ·replace hE := hE.dec 33 c (by kernel_rfl)
          replace hm := cond_f c hm
          have c_3 := c
          refine WR.e0 hE [(41, .bool false)] fun a hE => ?_
          cases hm
          exact hk _ _ ⟨hE.sel [0, 3, 4, 41] (by kernel_rfl), H⟩
        rintro a w ⟨hE, H⟩
        refine Runs.cond hE rfl (fun c => ?_) (fun c => ?_)
        ·replace hm := cond_t c hm
         refine Runs.skip ?_
         refine Runs.seq ?_
         refine Runs.block ?_
         refine Runs.seq ?_
         obtain ⟨s8, es8, hm⟩ := bind_some hm
         refine Runs.join (fun a w => EnvOk 81 a [(0, .slice sb_l l.length sc_l), (3, .int .i64 i), (4, .int .i64 k_), (80, .bool s8)] ∧ St w0 (X_l :: As) w) (fun hk => ?_) ?_
         ·replace hm := es8; clear es8
          refine Runs.drawn mixed (by kernel_rfl) ?_
          replace H := H.drew
          obtain ⟨x8, ex8, hm⟩ := bind_some hm
          obtain ⟨b8, o8, hs8, hb8⟩ := SlRd.base hX_l trace_Event.enc_ok H 0 rfl ex8
          refine WQ.seg hE [0, 1, 2, 3, 4, 5, 6, 7] [.pointer (some ⟨b8, o8, none⟩), .int .i64 x8.Reply.Why] [0, 3, 4, 51] (Lo := [(0, .slice sb_l l.length sc_l), (3, .int .i64 i), (4, .int .i64 k_), (51, .bool (x8.Reply.Why == 0))]) (obs := [.p ((sb_l : Option Addr) = some ⟨b8, o8, none⟩), .p (0 ≤ (k_ : Int) ∧ (k_ : Int) < ((l.length : Nat) : Int)), .cell ⟨b8, o8 + (Int.toNat k_) * 14 + 6, none⟩ (.int .i64 x8.Reply.Why)]) (by kernel_rfl) (by kernel_rfl) ⟨hs8, hb8, SlRd.cells hX_l trace_Event.enc_ok H 0 rfl hs8 ex8 6 _ rfl, trivial⟩ fun a hE => ?_
          rcases Bool.eq_false_or_eq_true (x8.Reply.Why == 0) with c | c
          ·replace hE := hE.dec 51 c (by kernel_rfl)
           replace hm := cond_t c hm
           have c_4 := c
           obtain ⟨x9, ex9, hm⟩ := bind_some hm
           obtain ⟨b9, o9, hs9, hb9⟩ := SlRd.base hX_l trace_Event.enc_ok H 0 rfl ex9
           obtain ⟨x10, ex10, hm⟩ := bind_some hm
           obtain ⟨b10, o10, hs10, hb10⟩ := SlRd.base hX_l trace_Event.enc_ok H 0 rfl ex10
           refine WQ.d hE [8, 9, 10, 11, 12, 13, 14, 15, 16, 17, 18, 19, 20, 21, 22] [.pointer (some ⟨b9, o9, none⟩), .int .i64 x9.Command.Queue, .pointer (some ⟨b10, o10, none⟩), .int .i64 x10.Command.Queue] [(66, .bool (x9.Command.Queue == x10.Command.Queue))] (obs := [.p ((sb_l : Option Addr) = some ⟨b9, o9, none⟩), .p (0 ≤ (k_ : Int) ∧ (k_ : Int) < ((l.length : Nat) : Int)), .cell ⟨b9, o9 + (Int.toNat k_) * 14 + 1, none⟩ (.int .i64 x9.Command.Queue), .p ((sb_l : Option Addr) = some ⟨b10, o10, none⟩), .p (0 ≤ (i : Int) ∧ (i : Int) < ((l.length : Nat) : Int)), .cell ⟨b10, o10 + (Int.toNat i) * 14 + 1, none⟩ (.int .i64 x10.Command.Queue)]) ⟨hs9, hb9, SlRd.cells hX_l trace_Event.enc_ok H 0 rfl hs9 ex9 1 _ rfl, hs10, hb10, SlRd.cells hX_l trace_Event.enc_ok H 0 rfl hs10 ex10 1 _ rfl, trivial⟩ fun a hE => ?_
           rcases Bool.eq_false_or_eq_true (x9.Command.Queue == x10.Command.Queue) with c | c
           ·replace hE := hE.dec 66 c (by kernel_rfl)
            replace hm := cond_t c hm
            have c_5 := c
            obtain ⟨x11, ex11, hm⟩ := bind_some hm
            obtain ⟨b11, o11, hs11, hb11⟩ := SlRd.base hX_l trace_Event.enc_ok H 0 rfl ex11
            obtain ⟨x12, ex12, hm⟩ := bind_some hm
            obtain ⟨b12, o12, hs12, hb12⟩ := SlRd.base hX_l trace_Event.enc_ok H 0 rfl ex12
            refine WQ.d hE [23, 24, 25, 26, 27, 28, 29, 30, 31, 32, 33, 34, 35, 36] [.pointer (some ⟨b11, o11, none⟩), .int .i64 x11.Reply.Time, .pointer (some ⟨b12, o12, none⟩), .int .i64 x12.Reply.Time] [(80, .bool (decide (x11.Reply.Time < x12.Reply.Time)))] (obs := [.p ((sb_l : Option Addr) = some ⟨b11, o11, none⟩), .p (0 ≤ (k_ : Int) ∧ (k_ : Int) < ((l.length : Nat) : Int)), .cell ⟨b11, o11 + (Int.toNat k_) * 14 + 9, none⟩ (.int .i64 x11.Reply.Time), .p ((sb_l : Option Addr) = some ⟨b12, o12, none⟩), .p (0 ≤ (i : Int) ∧ (i : Int) < ((l.length : Nat) : Int)), .cell ⟨b12, o12 + (Int.toNat i) * 14 + 9, none⟩ (.int .i64 x12.Reply.Time)]) ⟨hs11, hb11, SlRd.cells hX_l trace_Event.enc_ok H 0 rfl hs11 ex11 9 _ rfl, hs12, hb12, SlRd.cells hX_l trace_Event.enc_ok H 0 rfl hs12 ex12 9 _ rfl, trivial⟩ fun a hE => ?_
            refine WQ.done (by kernel_rfl) ?_
            cases hm
            exact hk _ _ ⟨hE.sel [0, 3, 4, 80] (by kernel_rfl), H⟩
           ·replace hE := hE.dec 66 c (by kernel_rfl)
            replace hm := cond_f c hm
            have c_6 := c
            refine WQ.d0 hE [23, 24, 25, 26, 27, 28, 29, 30, 31, 32, 33, 34, 35, 36] [(80, .bool false)] fun a hE => ?_
            refine WQ.done (by kernel_rfl) ?_
            cases hm
            exact hk _ _ ⟨hE.sel [0, 3, 4, 80] (by kernel_rfl), H⟩
          ·replace hE := hE.dec 51 c (by kernel_rfl)
           replace hm := cond_f c hm
           have c_7 := c
           refine WQ.d0 hE [8, 9, 10, 11, 12, 13, 14, 15, 16, 17, 18, 19, 20, 21, 22, 23, 24, 25, 26, 27, 28, 29, 30, 31, 32, 33, 34, 35, 36] [(80, .bool false)] fun a hE => ?_
           refine WQ.done (by kernel_rfl) ?_
           cases hm
           exact hk _ _ ⟨hE.sel [0, 3, 4, 80] (by kernel_rfl), H⟩
         rintro a w ⟨hE, H⟩
         refine Runs.cond hE rfl (fun c => ?_) (fun c => ?_)
         ·replace hm := cond_t c hm
          refine Runs.sr ?_
          refine WR.seg hE 1 [] [2] (Lo := [(2, .bool false)]) (obs := []) rfl (by kernel_rfl) trivial fun a hE => ?_
          refine WR.done rfl ?_
          refine Runs.ret hE Tryz.func9 rfl rfl ?_
          cases hm
          dsimp only at hR2; cases hR2
          dsimp only at hR1; cases hR1
          dsimp only at hR; cases hR
          exact ⟨rfl, H⟩
         ·replace hm := cond_f c hm
          refine Runs.skip ?_
          refine Runs.inBlock ?_
          refine Runs.region ?_
          refine WR.seg hE 3 [] [0, 3, 4] (Lo := [(0, .slice sb_l l.length sc_l), (3, .int .i64 i), (4, .int .i64 (w64 (k_ + 1)))]) (obs := []) rfl (by kernel_rfl) trivial fun a hE => ?_
          refine WR.done rfl ?_
          exact ih m (Nat.lt_succ_self m) _ _ ⟨w64 (k_ + 1), hE.sel [0, 3, 4] (by kernel_rfl), H, hm⟩
        ·replace hm := cond_f c hm
         refine Runs.exit rfl ?_
         cases hm
         exact hk _ _ ⟨_, rfl, hE.sel [0, 3] (by kernel_rfl), H⟩
      rintro a w ⟨s6, rfl, hE, H⟩
      replace hm := hR2; dsimp only at hm
      refine Runs.inBlock ?_
      cases hm
      exact hk _ _ ⟨_, rfl, hE.sel [0, 3] (by kernel_rfl), H⟩
    rintro a w ⟨s3, rfl, hE, H⟩
    replace hm := hR1; dsimp only at hm
    refine Runs.region ?_
    refine WR.seg hE 3 [] [0, 3] (Lo := [(0, .slice sb_l l.length sc_l), (3, .int .i64 (w64 (i + 1)))]) (obs := []) rfl (by kernel_rfl) trivial fun a hE => ?_
    refine WR.done rfl ?_
    exact ih m (Nat.lt_succ_self m) _ _ ⟨w64 (i + 1), hE.sel [0, 3] (by kernel_rfl), H, hm⟩
   ·replace hm := cond_f c hm
    refine Runs.exit rfl ?_
    cases hm
    exact hk _ _ ⟨_, rfl, hE.sel [] (by kernel_rfl), H⟩
 rintro a w ⟨s1, rfl, hE, H⟩
 replace hm := hR; dsimp only at hm
 refine Runs.sr ?_
 refine WR.seg hE 1 [] [2] (Lo := [(2, .bool true)]) (obs := []) rfl (by kernel_rfl) trivial fun a hE => ?_
 refine WR.done rfl ?_
 refine Runs.ret hE Tryz.func9 rfl rfl ?_
 cases hm
 exact ⟨rfl, H⟩

theorem thicketbook_Within_ok {w0 w : World} {As : List HP} {n : Int} {lo : Int} {hi : Int} {t : Int}  (hm : thicketbook_Within n lo hi = some t) (H : St w0 (As) w) :
    CallsR Tryz.prog 33 #[.int .i64 n, .int .i64 lo, .int .i64 hi] w fun v w' => v = .int .i64 t ∧ St w0 (As) w' := by
 rw [thicketbook_Within] at hm
 refine enter (args := [.int .i64 n, .int .i64 lo, .int .i64 hi]) Tryz.func33 rfl rfl rfl fun a hE => ?_
 refine Runs.sr ?_
 refine WR.seg hE 1 [] [0, 1, 2] (Lo := [(0, .int .i64 n), (1, .int .i64 lo), (2, .int .i64 hi)]) (obs := []) rfl (by kernel_rfl) trivial fun a hE => ?_
 refine WR.done rfl ?_
 refine Runs.seq ?_
 refine Runs.seq ?_
 refine Runs.join (fun a w => EnvOk 33 a [(0, .int .i64 n), (1, .int .i64 lo), (2, .int .i64 hi), (14, .bool ((decide (n ≥ lo)) && (decide (n ≤ hi))))] ∧ St w0 (As) w) (fun hk => ?_) ?_
 ·clear hm
  refine Runs.region ?_
  refine WR.d0 hE 4 [(10, .bool (decide (n ≥ lo)))] fun a hE => ?_
  rcases Bool.eq_false_or_eq_true (decide (n ≥ lo)) with c | c
  ·replace hE := hE.dec 10 c (by kernel_rfl)
   have c_ := c
   refine WR.e0 hE [(14, .bool (decide (n ≤ hi)))] fun a hE => ?_
   refine hk _ _ ⟨?_, H⟩
   try rw [c_] at hE
   try rw [c_]
   exact hE.sel [0, 1, 2, 14] (by kernel_rfl)
  ·replace hE := hE.dec 10 c (by kernel_rfl)
   have c_1 := c
   refine WR.e0 hE [(14, .bool false)] fun a hE => ?_
   refine hk _ _ ⟨?_, H⟩
   try rw [c_1] at hE
   try rw [c_1]
   exact hE.sel [0, 1, 2, 14] (by kernel_rfl)
 rintro a w ⟨hE, H⟩
 refine Runs.cond hE rfl (fun c => ?_) (fun c => ?_)
 ·replace hm := cond_t c hm
  refine Runs.sr ?_
  refine WR.seg hE 2 [] [6] (Lo := [(6, .int .i64 n)]) (obs := []) rfl (by kernel_rfl) trivial fun a hE => ?_
  refine WR.done rfl ?_
  refine Runs.ret hE Tryz.func33 rfl rfl ?_
  cases hm
  exact ⟨rfl, H⟩
 ·replace hm := cond_f c hm
  refine Runs.skip ?_
  refine Runs.sr ?_
  obtain ⟨u, eu, hm⟩ := bind_some hm
  refine WR.seg hE 7 [] [0, 1, 2] (Lo := [(0, .int .i64 (Int.tmod n (w64 ((w64 (hi - lo)) + 1)))), (1, .int .i64 lo), (2, .int .i64 hi)]) (obs := [.p (w64 ((w64 (hi - lo)) + 1) ≠ 0)]) rfl (by kernel_rfl) ⟨(nz_spec eu), trivial⟩ fun a hE => ?_
  refine WR.done rfl ?_
  refine Runs.seq ?_
  refine Runs.sr ?_
  refine WR.e0 hE [(23, .bool (decide (Int.tmod n (w64 ((w64 (hi - lo)) + 1)) < 0)))] fun a hE => ?_
  obtain ⟨s, es, hm⟩ := bind_some hm
  refine Runs.join (fun a w => EnvOk 33 a [(0, .int .i64 s), (1, .int .i64 lo)] ∧ St w0 (As) w) (fun hk => ?_) ?_
  ·replace hm := es; clear es
   refine Runs.cond hE rfl (fun c => ?_) (fun c => ?_)
   ·replace hm := cond_t c hm
    refine Runs.region ?_
    refine WR.e0 hE [(0, .int .i64 (w64 ((w64 ((w64 ((Int.tmod n (w64 ((w64 (hi - lo)) + 1))) + hi)) - lo)) + 1)))] fun a hE => ?_
    cases hm
    exact hk _ _ ⟨hE.sel [0, 1] (by kernel_rfl), H⟩
   ·replace hm := cond_f c hm
    refine Runs.skip ?_
    cases hm
    exact hk _ _ ⟨hE.sel [0, 1] (by kernel_rfl), H⟩
  rintro a w ⟨hE, H⟩
  refine Runs.sr ?_
  refine WR.seg hE 4 [] [6] (Lo := [(6, .int .i64 (w64 (lo + s)))]) (obs := []) rfl (by kernel_rfl) trivial fun a hE => ?_
  refine WR.done rfl ?_
  refine Runs.ret hE Tryz.func33 rfl rfl ?_
  cases hm
  exact ⟨rfl, H⟩

theorem kind_Worst_ok {w0 w : World} {As : List HP} {k_ : Int} {t : Bool}  (hm : kind_Worst k_ = some t) (H : St w0 (As) w) :
    CallsR Tryz.prog 25 #[.int .i64 k_] w fun v w' => v = .bool t ∧ St w0 (As) w' := by
 rw [kind_Worst] at hm
 refine enter (args := [.int .i64 k_]) Tryz.func25 rfl rfl rfl fun a hE => ?_
 refine Runs.sr ?_
 refine WR.seg hE 1 [] [0] (Lo := [(0, .int .i64 k_)]) (obs := []) rfl (by kernel_rfl) trivial fun a hE => ?_
 refine WR.done rfl ?_
 refine Runs.seq ?_
 refine Runs.join (fun a w => EnvOk 9 a [(2, .bool ((decide (k_ ≥ 1)) && (decide (k_ ≤ 3))))] ∧ St w0 (As) w) (fun hk => ?_) ?_
 ·clear hm
  refine Runs.region ?_
  refine WR.d0 hE 3 [(5, .bool (decide (k_ ≥ 1)))] fun a hE => ?_
  rcases Bool.eq_false_or_eq_true (decide (k_ ≥ 1)) with c | c
  ·replace hE := hE.dec 5 c (by kernel_rfl)
   have c_ := c
   refine WR.e0 hE [(2, .bool (decide (k_ ≤ 3)))] fun a hE => ?_
   refine hk _ _ ⟨?_, H⟩
   try rw [c_] at hE
   try rw [c_]
   exact hE.sel [2] (by kernel_rfl)
  ·replace hE := hE.dec 5 c (by kernel_rfl)
   have c_1 := c
   refine WR.e0 hE [(2, .bool false)] fun a hE => ?_
   refine hk _ _ ⟨?_, H⟩
   try rw [c_1] at hE
   try rw [c_1]
   exact hE.sel [2] (by kernel_rfl)
 rintro a w ⟨hE, H⟩
 refine Runs.ret hE Tryz.func25 rfl rfl ?_
 cases hm
 exact ⟨rfl, H⟩

theorem bits_Len64_ok {w0 w : World} {As : List HP} {x : Int} {t : Int}  (hm : bits_Len64 x = some t) (H : St w0 (As) w) :
    CallsR Tryz.prog 212 #[.int .u64 x] w fun v w' => v = .int .i64 t ∧ St w0 (As) w' := by
 rw [bits_Len64] at hm
 refine enter (args := [.int .u64 x]) Tryz.func212 rfl rfl rfl fun a hE => ?_
 refine Runs.sr ?_
 refine WR.seg hE 1 [] [0, 2] (Lo := [(0, .int .u64 x), (2, .int .i64 0)]) (obs := []) rfl (by kernel_rfl) trivial fun a hE => ?_
 refine WR.done rfl ?_
 refine Runs.seq ?_
 refine Runs.sr ?_
 refine WR.e0 hE [(4, .bool (decide (x ≥ 4294967296)))] fun a hE => ?_
 obtain ⟨s, es, hm⟩ := bind_some hm
 refine Runs.join (fun a w => EnvOk 25 a [(0, .int .u64 s.1), (2, .int .i64 s.2)] ∧ St w0 (As) w) (fun hk => ?_) ?_
 ·replace hm := es; clear es
  refine Runs.cond hE rfl (fun c => ?_) (fun c => ?_)
  ·replace hm := cond_t c hm
   refine Runs.sr ?_
   refine WR.e hE [] [(0, .int .u64 (Int.fdiv x (2 ^ (min (Int.toNat 32) 64))))] (obs := [.p (0 ≤ (32 : Int))]) ⟨(by show _ ≤ _; decide), trivial⟩ fun a hE => ?_
   refine Runs.region ?_
   refine WR.e0 hE [(2, .int .i64 32)] fun a hE => ?_
   cases hm
   exact hk _ _ ⟨hE.sel [0, 2] (by kernel_rfl), H⟩
  ·replace hm := cond_f c hm
   refine Runs.skip ?_
   cases hm
   exact hk _ _ ⟨hE.sel [0, 2] (by kernel_rfl), H⟩
 rintro a w ⟨hE, H⟩
 refine Runs.seq ?_
 refine Runs.sr ?_
 refine WR.seg hE 2 [] [0, 2, 8] (Lo := [(0, .int .u64 s.1), (2, .int .i64 s.2), (8, .bool (decide (s.1 ≥ 65536)))]) (obs := []) rfl (by kernel_rfl) trivial fun a hE => ?_
 refine WR.done rfl ?_
 obtain ⟨s1, es1, hm⟩ := bind_some hm
 refine Runs.join (fun a w => EnvOk 25 a [(0, .int .u64 s1.1), (2, .int .i64 s1.2)] ∧ St w0 (As) w) (fun hk => ?_) ?_
 ·replace hm := es1; clear es1
  refine Runs.cond hE rfl (fun c => ?_) (fun c => ?_)
  ·replace hm := cond_t c hm
   refine Runs.sr ?_
   refine WR.e hE [] [(0, .int .u64 (Int.fdiv s.1 (2 ^ (min (Int.toNat 16) 64))))] (obs := [.p (0 ≤ (16 : Int))]) ⟨(by show _ ≤ _; decide), trivial⟩ fun a hE => ?_
   refine Runs.region ?_
   refine WR.e0 hE [(2, .int .i64 (w64 (s.2 + 16)))] fun a hE => ?_
   cases hm
   exact hk _ _ ⟨hE.sel [0, 2] (by kernel_rfl), H⟩
  ·replace hm := cond_f c hm
   refine Runs.skip ?_
   cases hm
   exact hk _ _ ⟨hE.sel [0, 2] (by kernel_rfl), H⟩
 rintro a w ⟨hE, H⟩
 refine Runs.seq ?_
 refine Runs.sr ?_
 refine WR.seg hE 2 [] [0, 2, 14] (Lo := [(0, .int .u64 s1.1), (2, .int .i64 s1.2), (14, .bool (decide (s1.1 ≥ 256)))]) (obs := []) rfl (by kernel_rfl) trivial fun a hE => ?_
 refine WR.done rfl ?_
 obtain ⟨s2, es2, hm⟩ := bind_some hm
 refine Runs.join (fun a w => EnvOk 25 a [(0, .int .u64 s2.1), (2, .int .i64 s2.2)] ∧ St w0 (As) w) (fun hk => ?_) ?_
 ·replace hm := es2; clear es2
  refine Runs.cond hE rfl (fun c => ?_) (fun c => ?_)
  ·replace hm := cond_t c hm
   refine Runs.sr ?_
   refine WR.e hE [] [(0, .int .u64 (Int.fdiv s1.1 (2 ^ (min (Int.toNat 8) 64))))] (obs := [.p (0 ≤ (8 : Int))]) ⟨(by show _ ≤ _; decide), trivial⟩ fun a hE => ?_
   refine Runs.region ?_
   refine WR.e0 hE [(2, .int .i64 (w64 (s1.2 + 8)))] fun a hE => ?_
   cases hm
   exact hk _ _ ⟨hE.sel [0, 2] (by kernel_rfl), H⟩
  ·replace hm := cond_f c hm
   refine Runs.skip ?_
   cases hm
   exact hk _ _ ⟨hE.sel [0, 2] (by kernel_rfl), H⟩
 rintro a w ⟨hE, H⟩
 refine Runs.sr ?_
 obtain ⟨c_, ec_, hm⟩ := bind_some hm
 refine WR.seg hE 7 [.int .u8 c_] [2] (Lo := [(2, .int .i64 (w64 (s2.2 + (w64 (c_)))))]) (obs := [.p (0 ≤ (IntKind.wrap .u8 (s2.1)) ∧ ∃ u, (ByteArray.mk #[0, 1, 2, 2, 3, 3, 3, 3, 4, 4, 4, 4, 4, 4, 4, 4, 5, 5, 5, 5, 5, 5, 5, 5, 5, 5, 5, 5, 5, 5, 5, 5, 6, 6, 6, 6, 6, 6, 6, 6, 6, 6, 6, 6, 6, 6, 6, 6, 6, 6, 6, 6, 6, 6, 6, 6, 6, 6, 6, 6, 6, 6, 6, 6, 7, 7, 7, 7, 7, 7, 7, 7, 7, 7, 7, 7, 7, 7, 7, 7, 7, 7, 7, 7, 7, 7, 7, 7, 7, 7, 7, 7, 7, 7, 7, 7, 7, 7, 7, 7, 7, 7, 7, 7, 7, 7, 7, 7, 7, 7, 7, 7, 7, 7, 7, 7, 7, 7, 7, 7, 7, 7, 7, 7, 7, 7, 7, 7, 8, 8, 8, 8, 8, 8, 8, 8, 8, 8, 8, 8, 8, 8, 8, 8, 8, 8, 8, 8, 8, 8, 8, 8, 8, 8, 8, 8, 8, 8, 8, 8, 8, 8, 8, 8, 8, 8, 8, 8, 8, 8, 8, 8, 8, 8, 8, 8, 8, 8, 8, 8, 8, 8, 8, 8, 8, 8, 8, 8, 8, 8, 8, 8, 8, 8, 8, 8, 8, 8, 8, 8, 8, 8, 8, 8, 8, 8, 8, 8, 8, 8, 8, 8, 8, 8, 8, 8, 8, 8, 8, 8, 8, 8, 8, 8, 8, 8, 8, 8, 8, 8, 8, 8, 8, 8, 8, 8, 8, 8, 8, 8, 8, 8, 8, 8, 8, 8, 8, 8, 8, 8, 8, 8, 8, 8, 8, 8])[Int.toNat (IntKind.wrap .u8 (s2.1))]? = some u ∧ c_ = (u.toNat : Int))]) rfl (by kernel_rfl) ⟨byte_spec ec_, trivial⟩ fun a hE => ?_
 refine WR.done rfl ?_
 refine Runs.ret hE Tryz.func212 rfl rfl ?_
 cases hm
 exact ⟨rfl, H⟩

theorem bits_Len_ok {w0 w : World} {As : List HP} {x : Int} {t : Int}  (hm : bits_Len x = some t) (H : St w0 (As) w) :
    CallsR Tryz.prog 148 #[.int .u64 x] w fun v w' => v = .int .i64 t ∧ St w0 (As) w' := by
 rw [bits_Len] at hm
 refine enter (args := [.int .u64 x]) Tryz.func148 rfl rfl rfl fun a hE => ?_
 refine Runs.sr ?_
 refine WR.seg hE 1 [] [0] (Lo := [(0, .int .u64 x)]) (obs := []) rfl (by kernel_rfl) trivial fun a hE => ?_
 refine WR.done rfl ?_
 refine Runs.seq ?_
 refine Runs.condF hE rfl ?_
 refine Runs.skip ?_
 refine Runs.sr ?_
 refine WR.d0 hE 1 [(6, .int .u64 x)] fun a hE => ?_
 obtain ⟨t_, et_, hm⟩ := bind_some hm
 refine WR.eff hE rfl rfl rfl rfl (OpTo.fn hE rfl rfl Tryz.call212 (bits_Len64_ok et_ H)) ?_
 rintro _ w ⟨rfl, H⟩ a hE
 refine WR.e0 hE [(2, .int .i64 t_)] fun a hE => ?_
 refine Runs.ret hE Tryz.func148 rfl rfl ?_
 cases hm
 exact ⟨rfl, H⟩

theorem order_Bits_ok {w0 w : World} {As : List HP} {n : Int} {t : Int}  (hm : order_Bits n = some t) (H : St w0 (As) w) :
    CallsR Tryz.prog 96 #[.int .i64 n] w fun v w' => v = .int .i64 t ∧ St w0 (As) w' := by
 rw [order_Bits] at hm
 refine enter (args := [.int .i64 n]) Tryz.func96 rfl rfl rfl fun a hE => ?_
 refine Runs.sr ?_
 refine WR.seg hE 1 [] [0] (Lo := [(0, .int .i64 n)]) (obs := []) rfl (by kernel_rfl) trivial fun a hE => ?_
 refine WR.done rfl ?_
 refine Runs.sr ?_
 refine WR.d0 hE 3 [(5, .int .u64 (IntKind.wrap .u64 ((if n > 0 then n else 0))))] fun a hE => ?_
 obtain ⟨t_, et_, hm⟩ := bind_some hm
 refine WR.eff hE rfl rfl rfl rfl (OpTo.fn hE rfl rfl Tryz.call148 (bits_Len_ok et_ H)) ?_
 rintro _ w ⟨rfl, H⟩ a hE
 refine WR.e0 hE [(2, .int .i64 t_)] fun a hE => ?_
 refine Runs.ret hE Tryz.func96 rfl rfl ?_
 cases hm
 exact ⟨rfl, H⟩

theorem order_Add_ok {w0 w : World} {As : List HP} {a_ : Int} {b : Int} {t : Int}  (hm : order_Add a_ b = some t) (H : St w0 (As) w) :
    CallsR Tryz.prog 97 #[.int .i64 a_, .int .i64 b] w fun v w' => v = .int .i64 t ∧ St w0 (As) w' := by
 rw [order_Add] at hm
 refine enter (args := [.int .i64 a_, .int .i64 b]) Tryz.func97 rfl rfl rfl fun a hE => ?_
 refine Runs.sr ?_
 refine WR.seg hE 1 [] [0, 1] (Lo := [(0, .int .i64 a_), (1, .int .i64 b)]) (obs := []) rfl (by kernel_rfl) trivial fun a hE => ?_
 refine WR.done rfl ?_
 refine Runs.seq ?_
 refine Runs.block ?_
 refine Runs.seq ?_
 refine Runs.join (fun a w => EnvOk 26 a [(0, .int .i64 a_), (1, .int .i64 b), (5, .bool ((decide (b > 0)) && (decide (a_ > w64 (9223372036854775807 - b)))))] ∧ St w0 (As) w) (fun hk => ?_) ?_
 ·clear hm
  refine Runs.region ?_
  refine WR.d0 hE 3 [(8, .bool (decide (b > 0)))] fun a hE => ?_
  rcases Bool.eq_false_or_eq_true (decide (b > 0)) with c | c
  ·replace hE := hE.dec 8 c (by kernel_rfl)
   have c_ := c
   refine WR.e0 hE [(5, .bool (decide (a_ > w64 (9223372036854775807 - b))))] fun a hE => ?_
   refine hk _ _ ⟨?_, H⟩
   try rw [c_] at hE
   try rw [c_]
   exact hE.sel [0, 1, 5] (by kernel_rfl)
  ·replace hE := hE.dec 8 c (by kernel_rfl)
   have c_1 := c
   refine WR.e0 hE [(5, .bool false)] fun a hE => ?_
   refine hk _ _ ⟨?_, H⟩
   try rw [c_1] at hE
   try rw [c_1]
   exact hE.sel [0, 1, 5] (by kernel_rfl)
 rintro a w ⟨hE, H⟩
 refine Runs.cond hE rfl (fun c => ?_) (fun c => ?_)
 ·replace hm := cond_t c hm
  refine Runs.sr ?_
  refine WR.seg hE 1 [] [4] (Lo := [(4, .int .i64 9223372036854775807)]) (obs := []) rfl (by kernel_rfl) trivial fun a hE => ?_
  refine WR.done rfl ?_
  refine Runs.ret hE Tryz.func97 rfl rfl ?_
  cases hm
  exact ⟨rfl, H⟩
 ·replace hm := cond_f c hm
  refine Runs.seq ?_
  refine Runs.join (fun a w => EnvOk 26 a [(0, .int .i64 a_), (1, .int .i64 b), (14, .bool ((decide (b < 0)) && (decide (a_ < w64 ((-9223372036854775808) - b)))))] ∧ St w0 (As) w) (fun hk => ?_) ?_
  ·clear hm
   refine Runs.region ?_
   refine WR.seg hE 3 [] [0, 1, 17] (Lo := [(0, .int .i64 a_), (1, .int .i64 b), (17, .bool (decide (b < 0)))]) (obs := []) rfl (by kernel_rfl) trivial fun a hE => ?_
   rcases Bool.eq_false_or_eq_true (decide (b < 0)) with c | c
   ·replace hE := hE.dec 17 c (by kernel_rfl)
    have c_2 := c
    refine WR.e0 hE [(14, .bool (decide (a_ < w64 ((-9223372036854775808) - b))))] fun a hE => ?_
    refine hk _ _ ⟨?_, H⟩
    try rw [c_2] at hE
    try rw [c_2]
    exact hE.sel [0, 1, 14] (by kernel_rfl)
   ·replace hE := hE.dec 17 c (by kernel_rfl)
    have c_3 := c
    refine WR.e0 hE [(14, .bool false)] fun a hE => ?_
    refine hk _ _ ⟨?_, H⟩
    try rw [c_3] at hE
    try rw [c_3]
    exact hE.sel [0, 1, 14] (by kernel_rfl)
  rintro a w ⟨hE, H⟩
  refine Runs.cond hE rfl (fun c => ?_) (fun c => ?_)
  ·replace hm := cond_t c hm
   refine Runs.sr ?_
   refine WR.seg hE 1 [] [4] (Lo := [(4, .int .i64 (-9223372036854775808))]) (obs := []) rfl (by kernel_rfl) trivial fun a hE => ?_
   refine WR.done rfl ?_
   refine Runs.ret hE Tryz.func97 rfl rfl ?_
   cases hm
   exact ⟨rfl, H⟩
  ·replace hm := cond_f c hm
   refine Runs.skip ?_
   refine Runs.inBlock ?_
   refine Runs.sr ?_
   refine WR.seg hE 4 [] [4] (Lo := [(4, .int .i64 (w64 (a_ + b)))]) (obs := []) rfl (by kernel_rfl) trivial fun a hE => ?_
   refine WR.done rfl ?_
   refine Runs.ret hE Tryz.func97 rfl rfl ?_
   cases hm
   exact ⟨rfl, H⟩

theorem order_Limit_ok {w0 w : World} {As : List HP} {k : Nat} {a_ : Int} {b : Int} {n : Int} {t : Int}  (hm : order_Limit k a_ b n = some t) (H : St w0 (As) w) :
    CallsR Tryz.prog 55 #[.int .i64 a_, .int .i64 b, .int .i64 n] w fun v w' => v = .int .i64 t ∧ St w0 (As) w' := by
 rw [order_Limit] at hm
 refine enter (args := [.int .i64 a_, .int .i64 b, .int .i64 n]) Tryz.func55 rfl rfl rfl fun a hE => ?_
 refine Runs.sr ?_
 refine WR.seg hE 1 [] [0, 1, 2] (Lo := [(0, .int .i64 a_), (1, .int .i64 b), (2, .int .i64 n)]) (obs := []) rfl (by kernel_rfl) trivial fun a hE => ?_
 refine WR.done rfl ?_
 refine Runs.seq ?_
 refine Runs.sr ?_
 refine WR.d0 hE 1 [(7, .int .i64 n)] fun a hE => ?_
 obtain ⟨t_, et_, hm⟩ := bind_some hm
 refine WR.eff hE rfl rfl rfl rfl (OpTo.fn hE rfl rfl Tryz.call96 (order_Bits_ok et_ H)) ?_
 rintro _ w ⟨rfl, H⟩ a hE
 refine WR.e0 hE [(9, .int .i64 0)] fun a hE => ?_
 obtain ⟨s, es, hm⟩ := bind_some hm
 refine Runs.join (fun a w => EnvOk 16 a [(0, .int .i64 s)] ∧ St w0 (As) w) (fun hk => ?_) ?_
 ·replace hm := es; clear es
  refine Runs.block ?_
  refine Runs.loop (fun m a w => ∃ (a_1 : Int), ∃ (x : Int), EnvOk 16 a [(0, .int .i64 a_1), (1, .int .i64 b), (8, .int .i64 t_), (9, .int .i64 x)] ∧ St w0 (As) w ∧ order_Limit_l0 b t_ m a_1 x = some s) k ⟨a_, 0, hE.sel [0, 1, 8, 9] (by kernel_rfl), H, hm⟩ ?_
  rintro m ih a w ⟨a_1, x, hE, H, hm⟩
  cases m with
  | zero => simp [order_Limit_l0] at hm
  | succ m =>
   rw [order_Limit_l0] at hm
   refine Runs.sr ?_
   refine WR.seg hE 1 [] [0, 1, 8, 9, 10] (Lo := [(0, .int .i64 a_1), (1, .int .i64 b), (8, .int .i64 t_), (9, .int .i64 x), (10, .bool (decide (x < t_)))]) (obs := []) rfl (by kernel_rfl) trivial fun a hE => ?_
   refine WR.done rfl ?_
   refine Runs.seq ?_
   refine Runs.cond hE rfl (fun c => ?_) (fun c => ?_)
   ·replace hm := cond_t c hm
    refine Runs.skip ?_
    refine Runs.seq ?_
    refine Runs.block ?_
    refine Runs.region ?_
    refine WR.d0 hE 2 [(11, .int .i64 a_1), (12, .int .i64 b)] fun a hE => ?_
    obtain ⟨t_1, et_1, hm⟩ := bind_some hm
    refine WR.eff hE rfl rfl rfl rfl (OpTo.fn hE rfl rfl Tryz.call97 (order_Add_ok et_1 H)) ?_
    rintro _ w ⟨rfl, H⟩ a hE
    refine WR.e0 hE [(0, .int .i64 t_1)] fun a hE => ?_
    refine Runs.inBlock ?_
    refine Runs.region ?_
    refine WR.e0 hE [(9, .int .i64 (w64 (x + 1)))] fun a hE => ?_
    exact ih m (Nat.lt_succ_self m) _ _ ⟨t_1, w64 (x + 1), hE.sel [0, 1, 8, 9] (by kernel_rfl), H, hm⟩
   ·replace hm := cond_f c hm
    refine Runs.exit rfl ?_
    cases hm
    exact hk _ _ ⟨hE.sel [0] (by kernel_rfl), H⟩
 rintro a w ⟨hE, H⟩
 refine Runs.sr ?_
 refine WR.seg hE 2 [] [6] (Lo := [(6, .int .i64 s)]) (obs := []) rfl (by kernel_rfl) trivial fun a hE => ?_
 refine WR.done rfl ?_
 refine Runs.ret hE Tryz.func55 rfl rfl ?_
 cases hm
 exact ⟨rfl, H⟩

theorem bound_Budget_ok {w0 w : World} {As : List HP} {k : Nat} {k_ : Int} {items : Int} {t : Int × Bool}  (hm : bound_Budget k k_ items = some t) (H : St w0 (As) w) :
    CallsR Tryz.prog 26 #[.int .i64 k_, .int .i64 items] w fun v w' => v = .tuple #[.int .i64 t.1, .bool t.2] ∧ St w0 (As) w' := by
 rw [bound_Budget] at hm
 refine enter (args := [.int .i64 k_, .int .i64 items]) Tryz.func26 rfl rfl rfl fun a hE => ?_
 refine Runs.sr ?_
 refine WR.seg hE 2 [] [0, 1] (Lo := [(0, .int .i64 k_), (1, .int .i64 items)]) (obs := []) rfl (by kernel_rfl) trivial fun a hE => ?_
 refine WR.done rfl ?_
 refine Runs.seq ?_
 refine Runs.seq ?_
 obtain ⟨s, es, hm⟩ := bind_some hm
 refine Runs.join (fun a w => EnvOk 20 a [(1, .int .i64 items), (16, .bool s)] ∧ St w0 (As) w) (fun hk => ?_) ?_
 ·replace hm := es; clear es
  refine Runs.region ?_
  refine WR.d0 hE 1 [(6, .int .i64 k_)] fun a hE => ?_
  obtain ⟨t_, et_, hm⟩ := bind_some hm
  refine WR.eff hE rfl rfl rfl rfl (OpTo.fn hE rfl rfl Tryz.call25 (kind_Worst_ok et_ H)) ?_
  rintro _ w ⟨rfl, H⟩ a hE
  refine WR.d0 hE 4 [(9, .bool (!t_))] fun a hE => ?_
  rcases Bool.eq_false_or_eq_true (!t_) with c | c
  ·replace hE := hE.dec 9 c (by kernel_rfl)
   replace hm := cond_t c hm
   have c_ := c
   refine WR.e0 hE [(16, .bool true)] fun a hE => ?_
   cases hm
   exact hk _ _ ⟨hE.sel [1, 16] (by kernel_rfl), H⟩
  ·replace hE := hE.dec 9 c (by kernel_rfl)
   replace hm := cond_f c hm
   have c_1 := c
   refine WR.d0 hE 8 [(13, .bool (decide (items < 1)))] fun a hE => ?_
   rcases Bool.eq_false_or_eq_true (decide (items < 1)) with c | c
   ·replace hE := hE.dec 13 c (by kernel_rfl)
    replace hm := cond_t c hm
    have c_2 := c
    refine WR.e0 hE [(16, .bool true)] fun a hE => ?_
    cases hm
    exact hk _ _ ⟨hE.sel [1, 16] (by kernel_rfl), H⟩
   ·replace hE := hE.dec 13 c (by kernel_rfl)
    replace hm := cond_f c hm
    have c_3 := c
    refine WR.e0 hE [(16, .bool (decide (items > 4096)))] fun a hE => ?_
    cases hm
    exact hk _ _ ⟨hE.sel [1, 16] (by kernel_rfl), H⟩
 rintro a w ⟨hE, H⟩
 refine Runs.cond hE rfl (fun c => ?_) (fun c => ?_)
 ·replace hm := cond_t c hm
  refine Runs.sr ?_
  refine WR.seg hE 2 [] [4, 5] (Lo := [(4, .int .i64 0), (5, .bool false)]) (obs := []) rfl (by kernel_rfl) trivial fun a hE => ?_
  refine WR.done rfl ?_
  refine Runs.ret hE Tryz.func26 rfl rfl ?_
  cases hm
  exact ⟨rfl, H⟩
 ·replace hm := cond_f c hm
  refine Runs.skip ?_
  refine Runs.sr ?_
  refine WR.seg hE 2 [] [18] (Lo := [(18, .int .i64 (w64 (items + 1)))]) (obs := []) rfl (by kernel_rfl) trivial fun a hE => ?_
  obtain ⟨t_1, et_1, hm⟩ := bind_some hm
  refine WR.eff hE rfl rfl rfl rfl (OpTo.fn hE rfl rfl Tryz.call55 (order_Limit_ok et_1 H)) ?_
  rintro _ w ⟨rfl, H⟩ a hE
  refine WR.e0 hE [(4, .int .i64 t_1), (5, .bool true)] fun a hE => ?_
  refine Runs.ret hE Tryz.func26 rfl rfl ?_
  cases hm
  exact ⟨rfl, H⟩

theorem meter_New_ok {w0 w : World} {As : List HP}  {t : meter_Meter}  (hm : meter_New = some t) (H : St w0 (As) w) :
    CallsR Tryz.prog 98 #[] w fun v w' => ∃ (q0 : Nat), v = .pointer (some ⟨q0, 0, none⟩) ∧ St w0 (meter_Meter.R q0 t :: As) w' := by
 rw [meter_New] at hm
 refine enter (args := []) Tryz.func98 rfl rfl rfl fun a hE => ?_
 refine Runs.sr ?_
 refine WR.seg hE 1 [] [] (Lo := []) (obs := []) rfl (by kernel_rfl) trivial fun a hE => ?_
 refine WR.done rfl ?_
 refine Runs.sr ?_
 refine WR.d0 hE 1 [(1, .agg #[.int .i64 0, .int .i64 0, .int .i64 0])] fun a hE => ?_
 refine WR.eff hE rfl rfl rfl rfl (OpTo.new hE H [] (.cells #[.int .i64 0, .int .i64 0, .int .i64 0] 185 (0, 0)) (fun r => .pointer (some ⟨r, 0, none⟩)) (obs := []) rfl (fun _ => by kernel_rfl) trivial) ?_
 rintro _ w ⟨r, rfl, H⟩ a hE
 refine WR.e0 hE [(0, .pointer (some ⟨r, 0, none⟩))] fun a hE => ?_
 replace H := meter_Meter.shut (meter_Meter.mk 0 0 0) H
 refine Runs.ret hE Tryz.func98 rfl rfl ?_
 cases hm
 exact ⟨r, rfl, H⟩

theorem arena_New_ok {w0 w : World} {As : List HP} {cells : Int} {t : arena_Arena}  (hm : arena_New cells = some t) (H : St w0 (As) w) :
    CallsR Tryz.prog 56 #[.int .i64 cells] w fun v w' => ∃ (q0 : Nat), ∃ (al0 : arena_Arena.A), v = .pointer (some ⟨q0, 0, none⟩) ∧ St w0 (arena_Arena.R q0 al0 t :: As) w' := by
 rw [arena_New] at hm
 refine enter (args := [.int .i64 cells]) Tryz.func56 rfl rfl rfl fun a hE => ?_
 refine Runs.sr ?_
 refine WR.seg hE 1 [] [0] (Lo := [(0, .int .i64 cells)]) (obs := []) rfl (by kernel_rfl) trivial fun a hE => ?_
 refine WR.done rfl ?_
 refine Runs.seq ?_
 obtain ⟨l, el, hm⟩ := bind_some hm
 obtain ⟨t_, et_, hm⟩ := bind_some hm
 refine Runs.join (fun a w => ∃ (p1 : Nat), ∃ (al : arena_Arena.A), EnvOk 10 a [(2, .pointer (some ⟨p1, 0, none⟩))] ∧ St w0 (arena_Arena.R p1 al (arena_Arena.mk l 0 ([] : List Int) t_) :: As) w) (fun hk => ?_) ?_
 ·refine Runs.drawn mixed (by kernel_rfl) ?_
  replace H := H.drew
  refine WQ.d0 hE [0, 1, 2] [(5, .int .i64 (if (if 65536 < cells then 65536 else cells) > 0 then (if 65536 < cells then 65536 else cells) else 0))] fun a hE => ?_
  refine WQ.act2 3 4 (by kernel_rfl) ?_ ?_
  ·refine AQ.eff (j := 3) (obs := []) hE rfl rfl rfl rfl (by kernel_rfl) (OpTo.make el hE H arena_cell.enc_ok rfl rfl rfl rfl rfl rfl rfl rfl) ?_
   rintro _ w ⟨r2, rfl, H⟩
   refine ⟨trivial, fun a hE => ?_⟩
   refine WQ.eff (j := 4) (obs := []) hE (by kernel_rfl) rfl rfl rfl rfl (by kernel_rfl) (OpTo.fn hE rfl rfl Tryz.call98 (meter_New_ok et_ H)) ?_
   rintro _ w ⟨p2, rfl, H⟩
   refine ⟨trivial, fun a hE => ?_⟩
   refine WQ.d0 hE [5] [(8, .agg #[.slice (some ⟨r2, 0, none⟩) l.length l.length, .int .i64 0, .slice none 0 0, .pointer (some ⟨p2, 0, none⟩)])] fun a hE => ?_
   refine WQ.eff (j := 6) (obs := []) hE (by kernel_rfl) rfl rfl rfl rfl (by kernel_rfl) (OpTo.new hE H [] (.cells #[.slice (some ⟨r2, 0, none⟩) l.length l.length, .int .i64 0, .slice none 0 0, .pointer (some ⟨p2, 0, none⟩)] 169 (0, 0)) (fun r => .pointer (some ⟨r, 0, none⟩)) (obs := []) rfl (fun _ => by kernel_rfl) trivial) ?_
   rintro _ w ⟨r3, rfl, H⟩
   refine ⟨trivial, fun a hE => ?_⟩
   refine WQ.d0 hE [7] [(2, .pointer (some ⟨r3, 0, none⟩))] fun a hE => ?_
   refine WQ.done (by kernel_rfl) ?_
   replace H := H.slNil 3 ecI 1
   replace H := arena_Arena.shut (arena_Arena.A.mk (some ⟨r2, 0, none⟩) l.length none 0 p2) (arena_Arena.mk l 0 ([] : List Int) t_) H.t2.t1.t3.t3
   exact hk _ _ ⟨r3, arena_Arena.A.mk (some ⟨r2, 0, none⟩) l.length none 0 p2, hE.sel [2] (by kernel_rfl), H⟩
  ·refine AQ.eff (j := 4) (obs := []) hE rfl rfl rfl rfl (by kernel_rfl) (OpTo.fn hE rfl rfl Tryz.call98 (meter_New_ok et_ H)) ?_
   rintro _ w ⟨p3, rfl, H⟩
   refine ⟨trivial, fun a hE => ?_⟩
   refine WQ.eff (j := 3) (obs := []) hE (by kernel_rfl) rfl rfl rfl rfl (by kernel_rfl) (OpTo.make el hE H arena_cell.enc_ok rfl rfl rfl rfl rfl rfl rfl rfl) ?_
   rintro _ w ⟨r4, rfl, H⟩
   refine ⟨trivial, fun a hE => ?_⟩
   refine WQ.d0 hE [5] [(8, .agg #[.slice (some ⟨r4, 0, none⟩) l.length l.length, .int .i64 0, .slice none 0 0, .pointer (some ⟨p3, 0, none⟩)])] fun a hE => ?_
   refine WQ.eff (j := 6) (obs := []) hE (by kernel_rfl) rfl rfl rfl rfl (by kernel_rfl) (OpTo.new hE H [] (.cells #[.slice (some ⟨r4, 0, none⟩) l.length l.length, .int .i64 0, .slice none 0 0, .pointer (some ⟨p3, 0, none⟩)] 169 (0, 0)) (fun r => .pointer (some ⟨r, 0, none⟩)) (obs := []) rfl (fun _ => by kernel_rfl) trivial) ?_
   rintro _ w ⟨r5, rfl, H⟩
   refine ⟨trivial, fun a hE => ?_⟩
   refine WQ.d0 hE [7] [(2, .pointer (some ⟨r5, 0, none⟩))] fun a hE => ?_
   refine WQ.done (by kernel_rfl) ?_
   replace H := H.slNil 3 ecI 1
   replace H := arena_Arena.shut (arena_Arena.A.mk (some ⟨r4, 0, none⟩) l.length none 0 p3) (arena_Arena.mk l 0 ([] : List Int) t_) H.t3.t1.t3.t3
   exact hk _ _ ⟨r5, arena_Arena.A.mk (some ⟨r4, 0, none⟩) l.length none 0 p3, hE.sel [2] (by kernel_rfl), H⟩
 rintro a w ⟨p1, al, hE, H⟩
 refine Runs.ret hE Tryz.func56 rfl rfl ?_
 cases hm
 exact ⟨p1, al, rfl, H⟩

theorem pool_New_slots_heap_ok {w0 w : World} {As : List HP} {places : Int} {t : pool_Pool_slots_heap}  (hm : pool_New_slots_heap places = some t) (H : St w0 (As) w) :
    CallsR Tryz.prog 99 #[.int .i64 places] w fun v w' => ∃ (q0 : Nat), ∃ (al0 : pool_Pool_slots_heap.A), v = .pointer (some ⟨q0, 0, none⟩) ∧ St w0 (pool_Pool_slots_heap.R q0 al0 t :: As) w' := by
 rw [pool_New_slots_heap] at hm
 refine enter (args := [.int .i64 places]) Tryz.func99 rfl rfl rfl fun a hE => ?_
 refine Runs.sr ?_
 refine WR.seg hE 1 [] [0] (Lo := [(0, .int .i64 places)]) (obs := []) rfl (by kernel_rfl) trivial fun a hE => ?_
 refine WR.done rfl ?_
 refine Runs.sr ?_
 refine WR.d0 hE 4 [(6, .agg #[.int .i64 (if (if 65536 < places then 65536 else places) > 0 then (if 65536 < places then 65536 else places) else 0), .slice none 0 0, .slice none 0 0])] fun a hE => ?_
 refine WR.eff hE rfl rfl rfl rfl (OpTo.new hE H [] (.cells #[.int .i64 (if (if 65536 < places then 65536 else places) > 0 then (if 65536 < places then 65536 else places) else 0), .slice none 0 0, .slice none 0 0] 232 (0, 0)) (fun r => .pointer (some ⟨r, 0, none⟩)) (obs := []) rfl (fun _ => by kernel_rfl) trivial) ?_
 rintro _ w ⟨r, rfl, H⟩ a hE
 refine WR.e0 hE [(2, .pointer (some ⟨r, 0, none⟩))] fun a hE => ?_
 replace H := H.slNil 237 pool_place_slots_heap.enc 5
 replace H := H.slNil 3 ecI 1
 replace H := pool_Pool_slots_heap.shut (pool_Pool_slots_heap.A.mk none 0 none 0) (pool_Pool_slots_heap.mk (if (if 65536 < places then 65536 else places) > 0 then (if 65536 < places then 65536 else places) else 0) ([] : List pool_place_slots_heap) ([] : List Int)) H.t1.t2
 refine Runs.ret hE Tryz.func99 rfl rfl ?_
 cases hm
 exact ⟨r, pool_Pool_slots_heap.A.mk none 0 none 0, rfl, H⟩

theorem pool_New_slots_thing_ok {w0 w : World} {As : List HP} {places : Int} {t : pool_Pool_slots_thing}  (hm : pool_New_slots_thing places = some t) (H : St w0 (As) w) :
    CallsR Tryz.prog 100 #[.int .i64 places] w fun v w' => ∃ (q0 : Nat), ∃ (al0 : pool_Pool_slots_thing.A), v = .pointer (some ⟨q0, 0, none⟩) ∧ St w0 (pool_Pool_slots_thing.R q0 al0 t :: As) w' := by
 rw [pool_New_slots_thing] at hm
 refine enter (args := [.int .i64 places]) Tryz.func100 rfl rfl rfl fun a hE => ?_
 refine Runs.sr ?_
 refine WR.seg hE 1 [] [0] (Lo := [(0, .int .i64 places)]) (obs := []) rfl (by kernel_rfl) trivial fun a hE => ?_
 refine WR.done rfl ?_
 refine Runs.sr ?_
 refine WR.d0 hE 4 [(6, .agg #[.int .i64 (if (if 65536 < places then 65536 else places) > 0 then (if 65536 < places then 65536 else places) else 0), .slice none 0 0, .slice none 0 0])] fun a hE => ?_
 refine WR.eff hE rfl rfl rfl rfl (OpTo.new hE H [] (.cells #[.int .i64 (if (if 65536 < places then 65536 else places) > 0 then (if 65536 < places then 65536 else places) else 0), .slice none 0 0, .slice none 0 0] 235 (0, 0)) (fun r => .pointer (some ⟨r, 0, none⟩)) (obs := []) rfl (fun _ => by kernel_rfl) trivial) ?_
 rintro _ w ⟨r, rfl, H⟩ a hE
 refine WR.e0 hE [(2, .pointer (some ⟨r, 0, none⟩))] fun a hE => ?_
 replace H := H.slNil 287 pool_place_slots_thing.enc 5
 replace H := H.slNil 3 ecI 1
 replace H := pool_Pool_slots_thing.shut (pool_Pool_slots_thing.A.mk none 0 none 0) (pool_Pool_slots_thing.mk (if (if 65536 < places then 65536 else places) > 0 then (if 65536 < places then 65536 else places) else 0) ([] : List pool_place_slots_thing) ([] : List Int)) H.t1.t2
 refine Runs.ret hE Tryz.func100 rfl rfl ?_
 cases hm
 exact ⟨r, pool_Pool_slots_thing.A.mk none 0 none 0, rfl, H⟩

theorem slots_New_ok {w0 w : World} {As : List HP} {items : Int} {t : slots_Table}  (hm : slots_New items = some t) (H : St w0 (As) w) :
    CallsR Tryz.prog 57 #[.int .i64 items] w fun v w' => ∃ (q0 : Nat), ∃ (al0 : slots_Table.A), v = .pointer (some ⟨q0, 0, none⟩) ∧ St w0 (slots_Table.R q0 al0 t :: As) w' := by
 rw [slots_New] at hm
 refine enter (args := [.int .i64 items]) Tryz.func57 rfl rfl rfl fun a hE => ?_
 refine Runs.sr ?_
 refine WR.seg hE 1 [] [0] (Lo := [(0, .int .i64 items)]) (obs := []) rfl (by kernel_rfl) trivial fun a hE => ?_
 refine WR.done rfl ?_
 refine Runs.sr ?_
 obtain ⟨t_, et_, hm⟩ := bind_some hm
 refine WR.eff hE rfl rfl rfl rfl (OpTo.fn hE rfl rfl Tryz.call99 (pool_New_slots_heap_ok et_ H)) ?_
 rintro _ w ⟨p, al, rfl, H⟩ a hE
 refine WR.d0 hE 4 [(6, .int .i64 (if (if 16384 < items then 16384 else items) > 1 then (if 16384 < items then 16384 else items) else 1))] fun a hE => ?_
 obtain ⟨t_1, et_1, hm⟩ := bind_some hm
 refine WR.eff hE rfl rfl rfl rfl (OpTo.fn hE rfl rfl Tryz.call100 (pool_New_slots_thing_ok et_1 H)) ?_
 rintro _ w ⟨p1, al1, rfl, H⟩ a hE
 refine WR.eff hE rfl rfl rfl rfl (OpTo.mpNew vI api_Ref.val hE H rfl) ?_
 rintro _ w ⟨r, rfl, H⟩ a hE
 refine WR.d0 hE 7 [(9, .agg #[.pointer (some ⟨p, 0, none⟩), .pointer (some ⟨p1, 0, none⟩), .map (some r)])] fun a hE => ?_
 refine WR.eff hE rfl rfl rfl rfl (OpTo.new hE H [] (.cells #[.pointer (some ⟨p, 0, none⟩), .pointer (some ⟨p1, 0, none⟩), .map (some r)] 180 (0, 0)) (fun r => .pointer (some ⟨r, 0, none⟩)) (obs := []) rfl (fun _ => by kernel_rfl) trivial) ?_
 rintro _ w ⟨r1, rfl, H⟩ a hE
 refine WR.e0 hE [(2, .pointer (some ⟨r1, 0, none⟩))] fun a hE => ?_
 replace H := slots_Table.shut (slots_Table.A.mk p al p1 al1 r) (slots_Table.mk t_ t_1 ([] : List (Int × api_Ref))) H.t1.t2.t3.t3
 refine Runs.ret hE Tryz.func57 rfl rfl ?_
 cases hm
 exact ⟨r1, slots_Table.A.mk p al p1 al1 r, rfl, H⟩

theorem pq_New_ok {w0 w : World} {As : List HP} {items : Int} {t : (Option pq_Queues) × Int}  (hm : pq_New items = some t) (H : St w0 (As) w) :
    CallsR Tryz.prog 27 #[.int .i64 items] w fun v w' => ∃ (q0 : Nat), ∃ (al0 : pq_Queues.A), v = .tuple #[optV q0 t.1, .int .i64 t.2] ∧ St w0 (OptR (pq_Queues.R q0 al0) t.1 :: As) w' := by
 rw [pq_New] at hm
 refine enter (args := [.int .i64 items]) Tryz.func27 rfl rfl rfl fun a hE => ?_
 refine Runs.sr ?_
 refine WR.seg hE 2 [] [0] (Lo := [(0, .int .i64 items)]) (obs := []) rfl (by kernel_rfl) trivial fun a hE => ?_
 refine WR.done rfl ?_
 refine Runs.seq ?_
 refine Runs.seq ?_
 refine Runs.join (fun a w => EnvOk 19 a [(0, .int .i64 items), (9, .bool ((decide (items < 1)) || (decide (items > 16384))))] ∧ St w0 (As) w) (fun hk => ?_) ?_
 ·clear hm
  refine Runs.region ?_
  refine WR.d0 hE 3 [(6, .bool (decide (items < 1)))] fun a hE => ?_
  rcases Bool.eq_false_or_eq_true (decide (items < 1)) with c | c
  ·replace hE := hE.dec 6 c (by kernel_rfl)
   have c_ := c
   refine WR.e0 hE [(9, .bool true)] fun a hE => ?_
   refine hk _ _ ⟨?_, H⟩
   try rw [c_] at hE
   try rw [c_]
   exact hE.sel [0, 9] (by kernel_rfl)
  ·replace hE := hE.dec 6 c (by kernel_rfl)
   have c_1 := c
   refine WR.e0 hE [(9, .bool (decide (items > 16384)))] fun a hE => ?_
   refine hk _ _ ⟨?_, H⟩
   try rw [c_1] at hE
   try rw [c_1]
   exact hE.sel [0, 9] (by kernel_rfl)
 rintro a w ⟨hE, H⟩
 refine Runs.cond hE rfl (fun c => ?_) (fun c => ?_)
 ·replace hm := cond_t c hm
  refine Runs.sr ?_
  refine WR.seg hE 2 [] [2, 3] (Lo := [(2, .pointer none), (3, .int .i64 1)]) (obs := []) rfl (by kernel_rfl) trivial fun a hE => ?_
  refine WR.done rfl ?_
  refine Runs.ret hE Tryz.func27 rfl rfl ?_
  cases hm
  exact ⟨0, default, rfl, (St.optN H)⟩
 ·replace hm := cond_f c hm
  refine Runs.skip ?_
  refine Runs.sr ?_
  refine WR.seg hE 3 [] [0, 10, 12] (Lo := [(0, .int .i64 items), (10, .int .i64 items), (12, .int .i64 (w64 (2 * items)))]) (obs := []) rfl (by kernel_rfl) trivial fun a hE => ?_
  obtain ⟨t_, et_, hm⟩ := bind_some hm
  refine WR.eff hE rfl rfl rfl rfl (OpTo.fn hE rfl rfl Tryz.call56 (arena_New_ok et_ H)) ?_
  rintro _ w ⟨p, al, rfl, H⟩ a hE
  refine WR.d0 hE 5 [(14, .int .i64 items)] fun a hE => ?_
  obtain ⟨t_1, et_1, hm⟩ := bind_some hm
  refine WR.eff hE rfl rfl rfl rfl (OpTo.fn hE rfl rfl Tryz.call57 (slots_New_ok et_1 H)) ?_
  rintro _ w ⟨p1, al1, rfl, H⟩ a hE
  refine WR.eff hE rfl rfl rfl rfl (OpTo.mpNew api_Ref.val api_Entry.val hE H rfl) ?_
  rintro _ w ⟨r, rfl, H⟩ a hE
  refine WR.d0 hE 8 [(17, .agg #[.int .i64 items, .pointer (some ⟨p, 0, none⟩), .pointer (some ⟨p1, 0, none⟩), .map (some r), .int .i64 0])] fun a hE => ?_
  refine WR.eff hE rfl rfl rfl rfl (OpTo.new hE H [] (.cells #[.int .i64 items, .pointer (some ⟨p, 0, none⟩), .pointer (some ⟨p1, 0, none⟩), .map (some r), .int .i64 0] 123 (0, 0)) (fun r => .pointer (some ⟨r, 0, none⟩)) (obs := []) rfl (fun _ => by kernel_rfl) trivial) ?_
  rintro _ w ⟨r1, rfl, H⟩ a hE
  refine WR.e0 hE [(2, .pointer (some ⟨r1, 0, none⟩)), (3, .int .i64 0)] fun a hE => ?_
  replace H := pq_Queues.shut (pq_Queues.A.mk p al p1 al1 r) (pq_Queues.mk items t_ t_1 ([] : List (api_Ref × api_Entry)) 0) H.t1.t2.t3.t3
  refine Runs.ret hE Tryz.func27 rfl rfl ?_
  cases hm
  exact ⟨r1, pq_Queues.A.mk p al p1 al1 r, rfl, H⟩

theorem pool_New_jobs_Job_ok {w0 w : World} {As : List HP} {places : Int} {t : pool_Pool_jobs_Job}  (hm : pool_New_jobs_Job places = some t) (H : St w0 (As) w) :
    CallsR Tryz.prog 58 #[.int .i64 places] w fun v w' => ∃ (q0 : Nat), ∃ (al0 : pool_Pool_jobs_Job.A), v = .pointer (some ⟨q0, 0, none⟩) ∧ St w0 (pool_Pool_jobs_Job.R q0 al0 t :: As) w' := by
 rw [pool_New_jobs_Job] at hm
 refine enter (args := [.int .i64 places]) Tryz.func58 rfl rfl rfl fun a hE => ?_
 refine Runs.sr ?_
 refine WR.seg hE 1 [] [0] (Lo := [(0, .int .i64 places)]) (obs := []) rfl (by kernel_rfl) trivial fun a hE => ?_
 refine WR.done rfl ?_
 refine Runs.sr ?_
 refine WR.d0 hE 4 [(6, .agg #[.int .i64 (if (if 65536 < places then 65536 else places) > 0 then (if 65536 < places then 65536 else places) else 0), .slice none 0 0, .slice none 0 0])] fun a hE => ?_
 refine WR.eff hE rfl rfl rfl rfl (OpTo.new hE H [] (.cells #[.int .i64 (if (if 65536 < places then 65536 else places) > 0 then (if 65536 < places then 65536 else places) else 0), .slice none 0 0, .slice none 0 0] 183 (0, 0)) (fun r => .pointer (some ⟨r, 0, none⟩)) (obs := []) rfl (fun _ => by kernel_rfl) trivial) ?_
 rintro _ w ⟨r, rfl, H⟩ a hE
 refine WR.e0 hE [(2, .pointer (some ⟨r, 0, none⟩))] fun a hE => ?_
 replace H := H.slNil 260 pool_place_jobs_Job.enc 7
 replace H := H.slNil 3 ecI 1
 replace H := pool_Pool_jobs_Job.shut (pool_Pool_jobs_Job.A.mk none 0 none 0) (pool_Pool_jobs_Job.mk (if (if 65536 < places then 65536 else places) > 0 then (if 65536 < places then 65536 else places) else 0) ([] : List pool_place_jobs_Job) ([] : List Int)) H.t1.t2
 refine Runs.ret hE Tryz.func58 rfl rfl ?_
 cases hm
 exact ⟨r, pool_Pool_jobs_Job.A.mk none 0 none 0, rfl, H⟩

theorem jobs_New_ok {w0 w : World} {As : List HP} {jobs : Int} {t : jobs_Table}  (hm : jobs_New jobs = some t) (H : St w0 (As) w) :
    CallsR Tryz.prog 28 #[.int .i64 jobs] w fun v w' => ∃ (q0 : Nat), ∃ (al0 : jobs_Table.A), v = .pointer (some ⟨q0, 0, none⟩) ∧ St w0 (jobs_Table.R q0 al0 t :: As) w' := by
 rw [jobs_New] at hm
 refine enter (args := [.int .i64 jobs]) Tryz.func28 rfl rfl rfl fun a hE => ?_
 refine Runs.sr ?_
 refine WR.seg hE 1 [] [0] (Lo := [(0, .int .i64 jobs)]) (obs := []) rfl (by kernel_rfl) trivial fun a hE => ?_
 refine WR.done rfl ?_
 refine Runs.sr ?_
 refine WR.d0 hE 3 [(5, .int .i64 (if (if 4096 < jobs then 4096 else jobs) > 1 then (if 4096 < jobs then 4096 else jobs) else 1))] fun a hE => ?_
 obtain ⟨t_, et_, hm⟩ := bind_some hm
 refine WR.eff hE rfl rfl rfl rfl (OpTo.fn hE rfl rfl Tryz.call58 (pool_New_jobs_Job_ok et_ H)) ?_
 rintro _ w ⟨p, al, rfl, H⟩ a hE
 refine WR.eff hE rfl rfl rfl rfl (OpTo.mpNew api_Ref.val api_Ref.val hE H rfl) ?_
 rintro _ w ⟨r, rfl, H⟩ a hE
 refine WR.d0 hE 6 [(8, .agg #[.pointer (some ⟨p, 0, none⟩), .map (some r)])] fun a hE => ?_
 refine WR.eff hE rfl rfl rfl rfl (OpTo.new hE H [] (.cells #[.pointer (some ⟨p, 0, none⟩), .map (some r)] 130 (0, 0)) (fun r => .pointer (some ⟨r, 0, none⟩)) (obs := []) rfl (fun _ => by kernel_rfl) trivial) ?_
 rintro _ w ⟨r1, rfl, H⟩ a hE
 refine WR.e0 hE [(2, .pointer (some ⟨r1, 0, none⟩))] fun a hE => ?_
 replace H := jobs_Table.shut (jobs_Table.A.mk p al r) (jobs_Table.mk t_ ([] : List (api_Ref × api_Ref))) H.t1.t2.t2
 refine Runs.ret hE Tryz.func28 rfl rfl ?_
 cases hm
 exact ⟨r1, jobs_Table.A.mk p al r, rfl, H⟩

theorem clock_New_ok {w0 w : World} {As : List HP}  {t : clock_Clock}  (hm : clock_New = some t) (H : St w0 (As) w) :
    CallsR Tryz.prog 29 #[] w fun v w' => ∃ (q0 : Nat), v = .pointer (some ⟨q0, 0, none⟩) ∧ St w0 (clock_Clock.R q0 t :: As) w' := by
 rw [clock_New] at hm
 refine enter (args := []) Tryz.func29 rfl rfl rfl fun a hE => ?_
 refine Runs.sr ?_
 refine WR.seg hE 1 [] [] (Lo := []) (obs := []) rfl (by kernel_rfl) trivial fun a hE => ?_
 refine WR.done rfl ?_
 refine Runs.sr ?_
 refine WR.d0 hE 1 [(1, .agg #[.int .i64 0])] fun a hE => ?_
 refine WR.eff hE rfl rfl rfl rfl (OpTo.new hE H [] (.cells #[.int .i64 0] 132 (0, 0)) (fun r => .pointer (some ⟨r, 0, none⟩)) (obs := []) rfl (fun _ => by kernel_rfl) trivial) ?_
 rintro _ w ⟨r, rfl, H⟩ a hE
 refine WR.e0 hE [(0, .pointer (some ⟨r, 0, none⟩))] fun a hE => ?_
 replace H := clock_Clock.shut (clock_Clock.mk 0) H
 refine Runs.ret hE Tryz.func29 rfl rfl ?_
 cases hm
 exact ⟨r, rfl, H⟩

theorem pq_Queues_Do_nil0_ok {w0 w : World} {As : List HP} {c_ : api_Call} {t : api_Answer}  (hm : pq_Queues_Do_nil0 c_ = some t) (H : St w0 (As) w) :
    CallsR Tryz.prog 30 #[.pointer none, .agg #[.int .i64 c_.Op, .int .i64 c_.Kind, .int .i64 c_.Heap.At, .int .i64 c_.Heap.Gen, .int .i64 c_.Other.At, .int .i64 c_.Other.Gen, .int .i64 c_.Item.At, .int .i64 c_.Item.Gen, .int .i64 c_.Key]] w fun v w' => v = .agg #[.int .i64 t.Why, .int .i64 t.Heap.At, .int .i64 t.Heap.Gen, .int .i64 t.Item.At, .int .i64 t.Item.Gen, .int .i64 t.Entry.Key, .int .i64 t.Entry.Serial, .int .i64 t.N] ∧ St w0 (As) w' := by
 rw [pq_Queues_Do_nil0] at hm
 refine enter (args := [.pointer none, .agg #[.int .i64 c_.Op, .int .i64 c_.Kind, .int .i64 c_.Heap.At, .int .i64 c_.Heap.Gen, .int .i64 c_.Other.At, .int .i64 c_.Other.Gen, .int .i64 c_.Item.At, .int .i64 c_.Item.Gen, .int .i64 c_.Key]]) Tryz.func30 rfl rfl rfl fun a hE => ?_
 refine Runs.sr ?_
 refine WR.eff hE rfl rfl rfl rfl (OpTo.new hE H [] (.cells #[.int .i64 c_.Op, .int .i64 c_.Kind, .int .i64 c_.Heap.At, .int .i64 c_.Heap.Gen, .int .i64 c_.Other.At, .int .i64 c_.Other.Gen, .int .i64 c_.Item.At, .int .i64 c_.Item.Gen, .int .i64 c_.Key] 89 (0, 0)) (fun r => .pointer (some ⟨r, 0, none⟩)) (obs := []) rfl (fun _ => by kernel_rfl) trivial) ?_
 rintro _ w ⟨r, rfl, H⟩ a hE
 refine WR.eff hE rfl rfl rfl rfl (OpTo.new hE H [] (.cells #[.int .i64 0, .int .i64 0, .int .i64 0, .int .i64 0, .int .i64 0, .int .i64 0, .int .i64 0, .int .i64 0] 86 (0, 0)) (fun r => .pointer (some ⟨r, 0, none⟩)) (obs := []) rfl (fun _ => by kernel_rfl) trivial) ?_
 rintro _ w ⟨r1, rfl, H⟩ a hE
 refine WR.done rfl ?_
 refine Runs.sr ?_
 cases hm

theorem arena_Arena_Meter_ok {w0 w : World} {As : List HP} {p_a_ : Nat} {al_a_ : arena_Arena.A} {a_ : arena_Arena} {t : Unit}  (hm : arena_Arena_Meter a_ = some t) (H : St w0 (arena_Arena.R p_a_ al_a_ a_ :: As) w) :
    CallsR Tryz.prog 59 #[.pointer (some ⟨p_a_, 0, none⟩)] w fun v w' => v = .pointer (some ⟨al_a_.m__p, 0, none⟩) ∧ St w0 (arena_Arena.R p_a_ al_a_ a_ :: As) w' := by
 rw [arena_Arena_Meter] at hm
 refine enter (args := [.pointer (some ⟨p_a_, 0, none⟩)]) Tryz.func59 rfl rfl rfl fun a hE => ?_
 refine Runs.sr ?_
 refine WR.seg hE 1 [] [0] (Lo := [(0, .pointer (some ⟨p_a_, 0, none⟩))]) (obs := []) rfl (by kernel_rfl) trivial fun a hE => ?_
 refine WR.done rfl ?_
 refine Runs.sr ?_
 replace H := arena_Arena.open H
 refine WR.e hE [.pointer (some ⟨al_a_.m__p, 0, none⟩)] [(2, .pointer (some ⟨al_a_.m__p, 0, none⟩))] (obs := [.cell ⟨p_a_, 3, none⟩ (.pointer (some ⟨al_a_.m__p, 0, none⟩))]) ⟨H.cell 0 rfl rfl, trivial⟩ fun a hE => ?_
 replace H := arena_Arena.shut al_a_ (a_) H.t3.t3.t3.t3
 refine Runs.ret hE Tryz.func59 rfl rfl ?_
 cases hm
 exact ⟨rfl, H⟩

theorem meter_Meter_Spent_ok {w0 w : World} {As : List HP} {p_m_ : Nat} {m_ : meter_Meter} {t : Int}  (hm : meter_Meter_Spent m_ = some t) (H : St w0 (meter_Meter.R p_m_ m_ :: As) w) :
    CallsR Tryz.prog 149 #[.pointer (some ⟨p_m_, 0, none⟩)] w fun v w' => v = .int .i64 t ∧ St w0 (meter_Meter.R p_m_ m_ :: As) w' := by
 rw [meter_Meter_Spent] at hm
 refine enter (args := [.pointer (some ⟨p_m_, 0, none⟩)]) Tryz.func149 rfl rfl rfl fun a hE => ?_
 refine Runs.sr ?_
 refine WR.seg hE 1 [] [0] (Lo := [(0, .pointer (some ⟨p_m_, 0, none⟩))]) (obs := []) rfl (by kernel_rfl) trivial fun a hE => ?_
 refine WR.done rfl ?_
 refine Runs.seq ?_
 refine Runs.drawn mixed (by kernel_rfl) ?_
 replace H := H.drew
 replace H := meter_Meter.open H
 refine WQ.d hE [0, 1, 2, 3, 4, 5, 6, 7, 8, 9] [.int .i64 m_.steps, .int .i64 m_.begun] [(2, .int .i64 (w64 (m_.steps - m_.begun)))] (obs := [.cell ⟨p_m_, 0, none⟩ (.int .i64 m_.steps), .cell ⟨p_m_, 1, none⟩ (.int .i64 m_.begun)]) ⟨H.cell 0 rfl rfl, H.cell 0 rfl rfl, trivial⟩ fun a hE => ?_
 refine WQ.done (by kernel_rfl) ?_
 replace H := meter_Meter.shut (m_) H
 refine Runs.ret hE Tryz.func149 rfl rfl ?_
 cases hm
 exact ⟨rfl, H⟩

theorem meter_Meter_Most_ok {w0 w : World} {As : List HP} {p_m_ : Nat} {m_ : meter_Meter} {t : Int}  (hm : meter_Meter_Most m_ = some t) (H : St w0 (meter_Meter.R p_m_ m_ :: As) w) :
    CallsR Tryz.prog 101 #[.pointer (some ⟨p_m_, 0, none⟩)] w fun v w' => v = .int .i64 t ∧ St w0 (meter_Meter.R p_m_ m_ :: As) w' := by
 rw [meter_Meter_Most] at hm
 refine enter (args := [.pointer (some ⟨p_m_, 0, none⟩)]) Tryz.func101 rfl rfl rfl fun a hE => ?_
 refine Runs.sr ?_
 refine WR.seg hE 1 [] [0] (Lo := [(0, .pointer (some ⟨p_m_, 0, none⟩))]) (obs := []) rfl (by kernel_rfl) trivial fun a hE => ?_
 refine WR.done rfl ?_
 refine Runs.seq ?_
 refine Runs.drawn mixed (by kernel_rfl) ?_
 replace H := H.drew
 replace H := meter_Meter.open H
 refine WQ.d hE [0, 1, 2, 3, 4] [.int .i64 m_.most] [(6, .int .i64 m_.most), (7, .pointer (some ⟨p_m_, 0, none⟩))] (obs := [.cell ⟨p_m_, 2, none⟩ (.int .i64 m_.most)]) ⟨H.cell 0 rfl rfl, trivial⟩ fun a hE => ?_
 replace H := meter_Meter.shut (m_) H
 obtain ⟨t_, et_, hm⟩ := bind_some hm
 refine WQ.eff (j := 5) (obs := [.cell ⟨p_m_, 2, none⟩ (.int .i64 m_.most)]) hE (by kernel_rfl) rfl rfl rfl rfl (by kernel_rfl) (OpTo.fn hE rfl rfl Tryz.call149 (meter_Meter_Spent_ok et_ H)) ?_
 rintro _ w ⟨rfl, H⟩
 replace H := meter_Meter.open H
 refine ⟨⟨H.cell 0 rfl rfl, trivial⟩, fun a hE => ?_⟩
 refine WQ.d0 hE [6, 7] [(2, .int .i64 (if t_ > m_.most then t_ else m_.most))] fun a hE => ?_
 refine WQ.done (by kernel_rfl) ?_
 replace H := meter_Meter.shut (m_) H
 refine Runs.ret hE Tryz.func101 rfl rfl ?_
 cases hm
 exact ⟨rfl, H⟩

theorem meter_Meter_Begin_ok {w0 w : World} {As : List HP} {p_m_ : Nat} {m_ : meter_Meter} {t : meter_Meter}  (hm : meter_Meter_Begin m_ = some t) (H : St w0 (meter_Meter.R p_m_ m_ :: As) w) :
    CallsR Tryz.prog 60 #[.pointer (some ⟨p_m_, 0, none⟩)] w fun v w' => v = .tuple #[] ∧ St w0 (meter_Meter.R p_m_ t :: As) w' := by
 rw [meter_Meter_Begin] at hm
 refine enter (args := [.pointer (some ⟨p_m_, 0, none⟩)]) Tryz.func60 rfl rfl rfl fun a hE => ?_
 refine Runs.drawn mixed (by kernel_rfl) ?_
 replace H := H.drew
 replace H := meter_Meter.open H
 refine WQ.seg hE [0, 1, 2, 4, 5, 6, 7] [.int .i64 m_.steps] [2, 3, 4, 9] (Lo := [(2, .pointer (some ⟨p_m_, 0, none⟩)), (3, .pointer (some ⟨p_m_, 0, none⟩)), (4, .pointer (some ⟨p_m_, 0, none⟩)), (9, .int .i64 m_.steps)]) (obs := [.cell ⟨p_m_, 0, none⟩ (.int .i64 m_.steps)]) (by kernel_rfl) (by kernel_rfl) ⟨H.cell 0 rfl rfl, trivial⟩ fun a hE => ?_
 replace H := meter_Meter.shut (m_) H
 obtain ⟨t_, et_, hm⟩ := bind_some hm
 refine WQ.eff (j := 3) (obs := [.cell ⟨p_m_, 0, none⟩ (.int .i64 m_.steps)]) hE (by kernel_rfl) rfl rfl rfl rfl (by kernel_rfl) (OpTo.fn hE rfl rfl Tryz.call101 (meter_Meter_Most_ok et_ H)) ?_
 rintro _ w ⟨rfl, H⟩
 replace H := meter_Meter.open H
 refine ⟨⟨H.cell 0 rfl rfl, trivial⟩, fun a hE => ?_⟩
 refine WQ.d0 hE [8, 9] [(11, .pointer (some ⟨p_m_, 2, none⟩))] fun a hE => ?_
 refine WQ.eff0 (j := 10) (obs := []) hE (by kernel_rfl) rfl rfl rfl (by kernel_rfl) (OpTo.store hE H rfl rfl rfl rfl rfl rfl (Nat.le_of_ble_eq_true rfl)) ?_
 rintro _ w H
 refine ⟨trivial, fun a hE => ?_⟩
 refine WQ.d0 hE [11, 12] [(13, .pointer (some ⟨p_m_, 1, none⟩))] fun a hE => ?_
 refine WQ.eff0 (j := 13) (obs := []) hE (by kernel_rfl) rfl rfl rfl (by kernel_rfl) (OpTo.store hE H rfl rfl rfl rfl rfl rfl (Nat.le_of_ble_eq_true rfl)) ?_
 rintro _ w H
 refine ⟨trivial, fun a hE => ?_⟩
 refine WQ.done (by kernel_rfl) ?_
 replace H := meter_Meter.shut (meter_Meter.mk m_.steps m_.steps t_) H
 refine Runs.fin hE Tryz.func60 rfl rfl ?_
 cases hm
 exact ⟨rfl, H⟩

theorem kind_Right_ok {w0 w : World} {As : List HP} {k_ : Int} {t : Bool}  (hm : kind_Right k_ = some t) (H : St w0 (As) w) :
    CallsR Tryz.prog 102 #[.int .i64 k_] w fun v w' => v = .bool t ∧ St w0 (As) w' := by
 rw [kind_Right] at hm
 refine enter (args := [.int .i64 k_]) Tryz.func102 rfl rfl rfl fun a hE => ?_
 refine Runs.sr ?_
 refine WR.seg hE 1 [] [0] (Lo := [(0, .int .i64 k_)]) (obs := []) rfl (by kernel_rfl) trivial fun a hE => ?_
 refine WR.done rfl ?_
 refine Runs.seq ?_
 refine Runs.join (fun a w => EnvOk 9 a [(2, .bool ((decide (k_ ≥ 1)) && (decide (k_ ≤ 5))))] ∧ St w0 (As) w) (fun hk => ?_) ?_
 ·clear hm
  refine Runs.region ?_
  refine WR.d0 hE 3 [(5, .bool (decide (k_ ≥ 1)))] fun a hE => ?_
  rcases Bool.eq_false_or_eq_true (decide (k_ ≥ 1)) with c | c
  ·replace hE := hE.dec 5 c (by kernel_rfl)
   have c_ := c
   refine WR.e0 hE [(2, .bool (decide (k_ ≤ 5)))] fun a hE => ?_
   refine hk _ _ ⟨?_, H⟩
   try rw [c_] at hE
   try rw [c_]
   exact hE.sel [2] (by kernel_rfl)
  ·replace hE := hE.dec 5 c (by kernel_rfl)
   have c_1 := c
   refine WR.e0 hE [(2, .bool false)] fun a hE => ?_
   refine hk _ _ ⟨?_, H⟩
   try rw [c_1] at hE
   try rw [c_1]
   exact hE.sel [2] (by kernel_rfl)
 rintro a w ⟨hE, H⟩
 refine Runs.ret hE Tryz.func102 rfl rfl ?_
 cases hm
 exact ⟨rfl, H⟩

theorem pool_Pool_slots_heap_Take_ok {w0 w : World} {As : List HP} {p_p : Nat} {al_p : pool_Pool_slots_heap.A} {p : pool_Pool_slots_heap} {v_ : slots_heap} {t : api_Ref × Bool × pool_Pool_slots_heap}  (hm : pool_Pool_slots_heap_Take p v_ = some t) (H : St w0 (pool_Pool_slots_heap.R p_p al_p p :: As) w) :
    CallsR Tryz.prog 103 #[.pointer (some ⟨p_p, 0, none⟩), .agg #[.int .i64 v_.kind, .int .i64 v_.root, .int .i64 v_.n]] w fun v w' => ∃ (z_p_l_b : Option Addr), ∃ (z_p_l_c : Nat), ∃ (z_p_free_b : Option Addr), ∃ (z_p_free_c : Nat), v = .tuple #[.agg #[.int .i64 t.1.At, .int .i64 t.1.Gen], .bool t.2.1] ∧ St w0 (pool_Pool_slots_heap.R p_p (pool_Pool_slots_heap.A.mk z_p_l_b z_p_l_c z_p_free_b z_p_free_c) t.2.2 :: As) w' := by
 rw [pool_Pool_slots_heap_Take] at hm
 refine enter (args := [.pointer (some ⟨p_p, 0, none⟩), .agg #[.int .i64 v_.kind, .int .i64 v_.root, .int .i64 v_.n]]) Tryz.func103 rfl rfl rfl fun a hE => ?_
 refine Runs.sr ?_
 refine WR.eff hE rfl rfl rfl rfl (OpTo.new hE H [] (.cells #[.int .i64 v_.kind, .int .i64 v_.root, .int .i64 v_.n] 173 (0, 0)) (fun r => .pointer (some ⟨r, 0, none⟩)) (obs := []) rfl (fun _ => by kernel_rfl) trivial) ?_
 rintro _ w ⟨r, rfl, H⟩ a hE
 refine WR.eff hE rfl rfl rfl rfl (OpTo.new hE H [] (.cells #[.int .i64 0, .int .i64 0] 26 (0, 0)) (fun r => .pointer (some ⟨r, 0, none⟩)) (obs := []) rfl (fun _ => by kernel_rfl) trivial) ?_
 rintro _ w ⟨r1, rfl, H⟩ a hE
 refine WR.seg hE 3 [] [0, 3, 4] (Lo := [(0, .pointer (some ⟨p_p, 0, none⟩)), (3, .pointer (some ⟨r, 0, none⟩)), (4, .pointer (some ⟨r1, 0, none⟩))]) (obs := []) rfl (by kernel_rfl) trivial fun a hE => ?_
 refine WR.done rfl ?_
 refine Runs.sr ?_
 replace H := pool_Pool_slots_heap.open H.t2
 refine WR.e hE [.slice al_p.l_b p.l.length al_p.l_c] [(6, .int .i64 (p.l.length : Int))] (obs := [.cell ⟨p_p, 1, none⟩ (.slice al_p.l_b p.l.length al_p.l_c)]) ⟨H.cell 0 rfl rfl, trivial⟩ fun a hE => ?_
 refine Runs.seq ?_
 refine Runs.sr ?_
 refine WR.e hE [.slice al_p.free_b p.free.length al_p.free_c] [(7, .int .i64 (w64 ((p.free.length : Int) - 1)))] (obs := [.cell ⟨p_p, 2, none⟩ (.slice al_p.free_b p.free.length al_p.free_c)]) ⟨H.cell 0 rfl rfl, trivial⟩ fun a hE => ?_
 refine Runs.sr ?_
 refine WR.e0 hE [(21, .bool (decide (w64 ((p.free.length : Int) - 1) ≥ 0)))] fun a hE => ?_
 replace H := pool_Pool_slots_heap.shut al_p (p) H.t2.t2.t2
 obtain ⟨s, es, hR⟩ := bind_some hm
 refine Runs.join (fun a w => ∃ s1, s = Sum.inr s1 ∧ ∃ (z : Option Addr), ∃ (z1 : Nat), ∃ (z2 : Option Addr), ∃ (z3 : Nat), EnvOk 81 a [(0, .pointer (some ⟨p_p, 0, none⟩)), (3, .pointer (some ⟨r, 0, none⟩)), (4, .pointer (some ⟨r1, 0, none⟩)), (6, .int .i64 s1.1)] ∧ St w0 (pool_Pool_slots_heap.R p_p (pool_Pool_slots_heap.A.mk z z1 z2 z3) s1.2 :: Blk r1 26 [.int .i64 0, .int .i64 0] :: Blk r 173 [.int .i64 v_.kind, .int .i64 v_.root, .int .i64 v_.n] :: As) w) (fun hk => ?_) ?_
 ·replace hm := es; clear es
  refine Runs.cond hE rfl (fun c => ?_) (fun c => ?_)
  ·replace hm := cond_t c hm
   refine Runs.sr ?_
   replace H := pool_Pool_slots_heap.open H
   obtain ⟨x, ex, hm⟩ := bind_some hm
   obtain ⟨b, o, hs, hb⟩ := SlRd.base (sl_rd 3 ecI 1 _ _ _) ecI_ok H 2 rfl ex
   refine WR.e hE [.slice al_p.free_b p.free.length al_p.free_c, .pointer (some ⟨b, o, none⟩), .int .i64 x] [(6, .int .i64 x)] (obs := [.cell ⟨p_p, 2, none⟩ (.slice al_p.free_b p.free.length al_p.free_c), .p ((al_p.free_b : Option Addr) = some ⟨b, o, none⟩), .p (0 ≤ ((w64 ((p.free.length : Int) - 1)) : Int) ∧ ((w64 ((p.free.length : Int) - 1)) : Int) < ((p.free.length : Nat) : Int)), .cell ⟨b, o + (Int.toNat (w64 ((p.free.length : Int) - 1))) * 1, none⟩ (.int .i64 x)]) ⟨H.cell 0 rfl rfl, hs, hb, SlRd.cells (sl_rd 3 ecI 1 _ _ _) ecI_ok H 2 rfl hs ex 0 _ rfl, trivial⟩ fun a hE => ?_
   refine Runs.region ?_
   obtain ⟨l, el, hm⟩ := bind_some hm
   obtain ⟨sb, q⟩ : ∃ z, rebase al_p.free_b al_p.free_c (Int.toNat 0) 1 = z := ⟨_, rfl⟩
   obtain ⟨sc, q1⟩ : ∃ z, al_p.free_c - (Int.toNat 0) = z := ⟨_, rfl⟩
   refine WR.d hE 9 [.slice al_p.free_b p.free.length al_p.free_c, .slice sb l.length sc] [(35, .slice sb l.length sc), (37, .pointer (some ⟨p_p, 2, none⟩))] (obs := [.cell ⟨p_p, 2, none⟩ (.slice al_p.free_b p.free.length al_p.free_c), .p (rebase al_p.free_b al_p.free_c 0 1 = sb), .p ((Int.toNat (w64 ((p.free.length : Int) - 1))) - 0 = l.length), .p (al_p.free_c - 0 = sc), .p (0 ≤ ((w64 ((p.free.length : Int) - 1)) : Int) ∧ ((w64 ((p.free.length : Int) - 1)) : Int) ≤ ((al_p.free_c : Nat) : Int))]) ⟨H.cell 0 rfl rfl, q, cut_len el, q1, cut_cap el (H.slCap 2 rfl).1, trivial⟩ fun a hE => ?_
   refine WR.eff0 hE rfl rfl rfl (OpTo.store hE H rfl rfl rfl rfl rfl rfl (Nat.le_of_ble_eq_true rfl)) ?_
   rintro _ w H a hE
   refine WR.done rfl ?_
   replace H := H.t2.slCut' ecI_ok el q q1
   replace H := pool_Pool_slots_heap.shut (pool_Pool_slots_heap.A.mk al_p.l_b al_p.l_c sb sc) (pool_Pool_slots_heap.mk p.most p.l l) H.t2.t2
   cases hm
   exact hk _ _ ⟨_, rfl, al_p.l_b, al_p.l_c, sb, sc, hE.sel [0, 3, 4, 6] (by kernel_rfl), H.t2.t2.t2⟩
  ·replace hm := cond_f c hm
   refine Runs.sr ?_
   replace H := pool_Pool_slots_heap.open H
   refine WR.e hE [.int .i64 p.most] [(43, .bool (decide ((p.l.length : Int) ≥ p.most)))] (obs := [.cell ⟨p_p, 0, none⟩ (.int .i64 p.most)]) ⟨H.cell 0 rfl rfl, trivial⟩ fun a hE => ?_
   refine Runs.cond hE rfl (fun c => ?_) (fun c => ?_)
   ·replace hm := cond_t c hm
    refine Runs.sr ?_
    refine WR.d0 hE 1 [(44, .agg #[.int .i64 0, .int .i64 0])] fun a hE => ?_
    refine WR.eff0 hE rfl rfl rfl (OpTo.store hE H.t3 rfl rfl rfl rfl rfl rfl (Nat.le_of_ble_eq_true rfl)) ?_
    rintro _ w H a hE
    refine WR.e0 hE [(5, .bool false)] fun a hE => ?_
    refine Runs.retO (vs := [.agg #[.int .i64 0, .int .i64 0], .bool false]) (obs := [.cell ⟨r1, 0, none⟩ (.int .i64 0), .cell ⟨r1, 1, none⟩ (.int .i64 0)]) hE Tryz.func103 rfl [.int .i64 0, .int .i64 0] (by kernel_rfl) ⟨H.cell 0 rfl rfl, H.cell 0 rfl rfl, trivial⟩ ?_
    replace H := pool_Pool_slots_heap.shut al_p (p) H.t3.t3.t3
    cases hm
    dsimp only at hR; cases hR
    exact ⟨al_p.l_b, al_p.l_c, al_p.free_b, al_p.free_c, rfl, H.x2.x1⟩
   ·replace hm := cond_f c hm
    refine Runs.region ?_
    refine WR.d hE 6 [.slice al_p.l_b p.l.length al_p.l_c] [(45, .pointer (some ⟨p_p, 0, none⟩)), (49, .slice al_p.l_b p.l.length al_p.l_c), (50, .agg #[.int .i64 0, .bool false, .int .i64 0, .int .i64 0, .int .i64 0])] (obs := [.cell ⟨p_p, 1, none⟩ (.slice al_p.l_b p.l.length al_p.l_c)]) ⟨H.cell 0 rfl rfl, trivial⟩ fun a hE => ?_
    refine WR.eff hE rfl rfl rfl rfl (OpTo.buildSl (T := 237) hE H pool_place_slots_heap.enc_ok ([pool_place_slots_heap.mk 0 false (slots_heap.mk 0 0 0)] : List pool_place_slots_heap) rfl (fun _ => by kernel_rfl) rfl rfl rfl) ?_
    rintro _ w ⟨r2, rfl, H⟩ a hE
    obtain ⟨l1, el1, hm⟩ := bind_some hm
    replace H := H.t2
    refine WR.eff hE rfl rfl rfl rfl (OpTo.appendM el1 hE H pool_place_slots_heap.enc_ok rfl rfl rfl rfl rfl rfl rfl rfl rfl rfl (SlRd.all (sl_rd 237 pool_place_slots_heap.enc 5 _ _ _) pool_place_slots_heap.enc_ok H 1 rfl) rfl) ?_
    rintro _ w ⟨sb1, sc1, rfl, H⟩ a hE
    refine WR.d0 hE 10 [(54, .pointer (some ⟨p_p, 1, none⟩))] fun a hE => ?_
    refine WR.eff0 hE rfl rfl rfl (OpTo.store hE H.t2 rfl rfl rfl rfl rfl rfl (Nat.le_of_ble_eq_true rfl)) ?_
    rintro _ w H a hE
    refine WR.done rfl ?_
    replace H := pool_Pool_slots_heap.shut (pool_Pool_slots_heap.A.mk sb1 sc1 al_p.free_b al_p.free_c) (pool_Pool_slots_heap.mk p.most l1 p.free) H.t3.t2.t2
    cases hm
    exact hk _ _ ⟨_, rfl, sb1, sc1, al_p.free_b, al_p.free_c, hE.sel [0, 3, 4, 6] (by kernel_rfl), H.x1.t2.t2.t2⟩
 rintro a w ⟨s1, rfl, z, z1, z2, z3, hE, H⟩
 replace hm := hR; dsimp only at hm
 refine Runs.sr ?_
 replace H := pool_Pool_slots_heap.open H
 try dsimp only at H
 obtain ⟨x1, ex1, hm⟩ := bind_some hm
 obtain ⟨b1, o1, hs1, hb1⟩ := SlRd.base (sl_rd 237 pool_place_slots_heap.enc 5 _ _ _) pool_place_slots_heap.enc_ok H 1 rfl ex1
 refine WR.seg hE 7 [.slice z s1.2.l.length z1, .pointer (some ⟨b1, o1, none⟩)] [3, 4, 6, 8] (Lo := [(3, .pointer (some ⟨r, 0, none⟩)), (4, .pointer (some ⟨r1, 0, none⟩)), (6, .int .i64 s1.1), (8, .pointer (some ⟨b1, o1 + (Int.toNat s1.1) * 5, none⟩))]) (obs := [.cell ⟨p_p, 1, none⟩ (.slice z s1.2.l.length z1), .p ((z : Option Addr) = some ⟨b1, o1, none⟩), .p (0 ≤ (s1.1 : Int) ∧ (s1.1 : Int) < ((s1.2.l.length : Nat) : Int))]) rfl (by kernel_rfl) ⟨H.cell 0 rfl rfl, hs1, hb1, trivial⟩ fun a hE => ?_
 refine WR.done rfl ?_
 refine Runs.sr ?_
 refine WR.d hE 7 [.int .i64 x1.gen] [(65, .int .i64 (w64 (x1.gen + 1))), (67, .pointer (some ⟨b1, o1 + (Int.toNat s1.1) * 5, none⟩))] (obs := [.cell ⟨b1, o1 + (Int.toNat s1.1) * 5, none⟩ (.int .i64 x1.gen)]) ⟨SlRd.cells (sl_rd 237 pool_place_slots_heap.enc 5 _ _ _) pool_place_slots_heap.enc_ok H 1 rfl hs1 ex1 0 _ rfl, trivial⟩ fun a hE => ?_
 refine WR.eff0 hE rfl rfl rfl (OpTo.storeSl (q := 0) (x' := (pool_place_slots_heap.mk (w64 (x1.gen + 1)) x1.taken x1.v_)) hE H.t1 pool_place_slots_heap.enc_ok rfl hs1 ex1 rfl rfl rfl rfl rfl (Nat.le_of_ble_eq_true rfl) rfl) ?_
 rintro _ w H a hE
 rw [← mSet_len s1.2.l s1.1 (pool_place_slots_heap.mk (w64 (x1.gen + 1)) x1.taken x1.v_)] at H
 refine WR.done rfl ?_
 refine Runs.seq ?_
 refine Runs.drawn mixed (by kernel_rfl) ?_
 replace H := H.drew
 refine WQ.d hE [0, 1, 2, 3, 4] [.int .i64 v_.kind, .int .i64 v_.root, .int .i64 v_.n] [(69, .pointer (some ⟨b1, o1 + (Int.toNat s1.1) * 5, none⟩)), (70, .agg #[.int .i64 v_.kind, .int .i64 v_.root, .int .i64 v_.n]), (72, .pointer (some ⟨b1, o1 + (Int.toNat s1.1) * 5 + 1, none⟩))] (obs := [.cell ⟨r, 0, none⟩ (.int .i64 v_.kind), .cell ⟨r, 1, none⟩ (.int .i64 v_.root), .cell ⟨r, 2, none⟩ (.int .i64 v_.n)]) ⟨H.cell 4 rfl rfl, H.cell 4 rfl rfl, H.cell 4 rfl rfl, trivial⟩ fun a hE => ?_
 refine WQ.eff0 (j := 5) (obs := [.cell ⟨r, 0, none⟩ (.int .i64 v_.kind), .cell ⟨r, 1, none⟩ (.int .i64 v_.root), .cell ⟨r, 2, none⟩ (.int .i64 v_.n)]) hE (by kernel_rfl) rfl rfl rfl (by kernel_rfl) (OpTo.storeSl (q := 1) (x' := (pool_place_slots_heap.mk (w64 (x1.gen + 1)) true x1.v_)) hE H pool_place_slots_heap.enc_ok rfl hs1 (mSet_at ex1) rfl rfl rfl rfl rfl (Nat.le_of_ble_eq_true rfl) rfl) ?_
 rintro _ w H
 rw [← mSet_len (mSet s1.2.l s1.1 (pool_place_slots_heap.mk (w64 (x1.gen + 1)) x1.taken x1.v_)) s1.1 (pool_place_slots_heap.mk (w64 (x1.gen + 1)) true x1.v_)] at H
 refine ⟨⟨H.cell 4 rfl rfl, H.cell 4 rfl rfl, H.cell 4 rfl rfl, trivial⟩, fun a hE => ?_⟩
 refine WQ.d0 hE [6, 7] [(74, .pointer (some ⟨b1, o1 + (Int.toNat s1.1) * 5 + 2, none⟩))] fun a hE => ?_
 refine WQ.eff0 (j := 8) (obs := []) hE (by kernel_rfl) rfl rfl rfl (by kernel_rfl) (OpTo.storeSl (q := 2) (x' := (pool_place_slots_heap.mk (w64 (x1.gen + 1)) true v_)) hE H pool_place_slots_heap.enc_ok rfl hs1 (mSet_at (mSet_at ex1)) rfl rfl rfl rfl rfl (Nat.le_of_ble_eq_true rfl) rfl) ?_
 rintro _ w H
 rw [← mSet_len (mSet (mSet s1.2.l s1.1 (pool_place_slots_heap.mk (w64 (x1.gen + 1)) x1.taken x1.v_)) s1.1 (pool_place_slots_heap.mk (w64 (x1.gen + 1)) true x1.v_)) s1.1 (pool_place_slots_heap.mk (w64 (x1.gen + 1)) true v_)] at H
 refine ⟨trivial, fun a hE => ?_⟩
 refine WQ.done (by kernel_rfl) ?_
 refine Runs.sr ?_
 refine WR.d hE 6 [.int .i64 (w64 (x1.gen + 1))] [(80, .agg #[.int .i64 s1.1, .int .i64 (w64 (x1.gen + 1))])] (obs := [.cell ⟨b1, o1 + (Int.toNat s1.1) * 5, none⟩ (.int .i64 (w64 (x1.gen + 1)))]) ⟨SlRd.cells (sl_rd 237 pool_place_slots_heap.enc 5 _ _ _) pool_place_slots_heap.enc_ok H 0 rfl hs1 (mSet_at (mSet_at (mSet_at ex1))) 0 _ rfl, trivial⟩ fun a hE => ?_
 refine WR.eff0 hE rfl rfl rfl (OpTo.store hE H.t3 rfl rfl rfl rfl rfl rfl (Nat.le_of_ble_eq_true rfl)) ?_
 rintro _ w H a hE
 refine WR.e0 hE [(5, .bool true)] fun a hE => ?_
 refine Runs.retO (vs := [.agg #[.int .i64 s1.1, .int .i64 (w64 (x1.gen + 1))], .bool true]) (obs := [.cell ⟨r1, 0, none⟩ (.int .i64 s1.1), .cell ⟨r1, 1, none⟩ (.int .i64 (w64 (x1.gen + 1)))]) hE Tryz.func103 rfl [.int .i64 s1.1, .int .i64 (w64 (x1.gen + 1))] (by kernel_rfl) ⟨H.cell 0 rfl rfl, H.cell 0 rfl rfl, trivial⟩ ?_
 replace H := pool_Pool_slots_heap.shut (pool_Pool_slots_heap.A.mk z z1 z2 z3) (pool_Pool_slots_heap.mk s1.2.most (mSet (mSet (mSet s1.2.l s1.1 (pool_place_slots_heap.mk (w64 (x1.gen + 1)) x1.taken x1.v_)) s1.1 (pool_place_slots_heap.mk (w64 (x1.gen + 1)) true x1.v_)) s1.1 (pool_place_slots_heap.mk (w64 (x1.gen + 1)) true v_)) s1.2.free) H.t3.t2.t3
 cases hm
 exact ⟨z, z1, z2, z3, rfl, H.x2.x1⟩

theorem slots_Table_Make_ok {w0 w : World} {As : List HP} {p_t_ : Nat} {al_t_ : slots_Table.A} {t_ : slots_Table} {k_ : Int} {t : api_Ref × Int × slots_Table}  (hm : slots_Table_Make t_ k_ = some t) (H : St w0 (slots_Table.R p_t_ al_t_ t_ :: As) w) :
    CallsR Tryz.prog 61 #[.pointer (some ⟨p_t_, 0, none⟩), .int .i64 k_] w fun v w' => ∃ (z_t__heaps_a : pool_Pool_slots_heap.A), v = .tuple #[.agg #[.int .i64 t.1.At, .int .i64 t.1.Gen], .int .i64 t.2.1] ∧ St w0 (slots_Table.R p_t_ (slots_Table.A.mk al_t_.heaps_p z_t__heaps_a al_t_.items_p al_t_.items_a al_t_.at__p) t.2.2 :: As) w' := by
 rw [slots_Table_Make] at hm
 refine enter (args := [.pointer (some ⟨p_t_, 0, none⟩), .int .i64 k_]) Tryz.func61 rfl rfl rfl fun a hE => ?_
 refine Runs.sr ?_
 refine WR.eff hE rfl rfl rfl rfl (OpTo.new hE H [] (.cells #[.int .i64 0, .int .i64 0] 26 (0, 0)) (fun r => .pointer (some ⟨r, 0, none⟩)) (obs := []) rfl (fun _ => by kernel_rfl) trivial) ?_
 rintro _ w ⟨r, rfl, H⟩ a hE
 refine WR.seg hE 2 [] [0, 1, 4] (Lo := [(0, .pointer (some ⟨p_t_, 0, none⟩)), (1, .int .i64 k_), (4, .pointer (some ⟨r, 0, none⟩))]) (obs := []) rfl (by kernel_rfl) trivial fun a hE => ?_
 refine WR.done rfl ?_
 refine Runs.seq ?_
 refine Runs.sr ?_
 refine WR.d0 hE 1 [(8, .int .i64 k_)] fun a hE => ?_
 obtain ⟨t_1, et_1, hm⟩ := bind_some hm
 refine WR.eff hE rfl rfl rfl rfl (OpTo.fn hE rfl rfl Tryz.call102 (kind_Right_ok et_1 H)) ?_
 rintro _ w ⟨rfl, H⟩ a hE
 refine WR.e0 hE [(10, .bool (!t_1))] fun a hE => ?_
 refine Runs.cond hE rfl (fun c => ?_) (fun c => ?_)
 ·replace hm := cond_t c hm
  refine Runs.sr ?_
  refine WR.d0 hE 1 [(11, .agg #[.int .i64 0, .int .i64 0])] fun a hE => ?_
  refine WR.eff0 hE rfl rfl rfl (OpTo.store hE H rfl rfl rfl rfl rfl rfl (Nat.le_of_ble_eq_true rfl)) ?_
  rintro _ w H a hE
  refine WR.e0 hE [(5, .int .i64 24)] fun a hE => ?_
  refine Runs.retO (vs := [.agg #[.int .i64 0, .int .i64 0], .int .i64 24]) (obs := [.cell ⟨r, 0, none⟩ (.int .i64 0), .cell ⟨r, 1, none⟩ (.int .i64 0)]) hE Tryz.func61 rfl [.int .i64 0, .int .i64 0] (by kernel_rfl) ⟨H.cell 0 rfl rfl, H.cell 0 rfl rfl, trivial⟩ ?_
  cases hm
  exact ⟨al_t_.heaps_a, rfl, H.x0⟩
 ·replace hm := cond_f c hm
  refine Runs.skip ?_
  refine Runs.sr ?_
  replace H := slots_Table.open H.t1
  refine WR.d hE 6 [.pointer (some ⟨al_t_.heaps_p, 0, none⟩)] [(16, .pointer (some ⟨al_t_.heaps_p, 0, none⟩)), (18, .agg #[.int .i64 k_, .int .i64 (-1), .int .i64 0])] (obs := [.cell ⟨p_t_, 0, none⟩ (.pointer (some ⟨al_t_.heaps_p, 0, none⟩))]) ⟨H.cell 0 rfl rfl, trivial⟩ fun a hE => ?_
  obtain ⟨t_2, et_2, hm⟩ := bind_some hm
  have hC_ := pool_Pool_slots_heap_Take_ok et_2 H.t1
  try dsimp only at hC_
  refine WR.eff hE rfl rfl rfl rfl (OpTo.fn hE rfl rfl Tryz.call103 hC_) ?_
  rintro _ w ⟨z, z1, z2, z3, rfl, H⟩ a hE
  refine WR.d0 hE 10 [(20, .agg #[.int .i64 t_2.1.At, .int .i64 t_2.1.Gen]), (21, .bool t_2.2.1)] fun a hE => ?_
  refine WR.eff hE rfl rfl rfl rfl (OpTo.new hE H [] (.cells #[.int .i64 0, .int .i64 0] 26 (0, 0)) (fun r => .pointer (some ⟨r, 0, none⟩)) (obs := []) rfl (fun _ => by kernel_rfl) trivial) ?_
  rintro _ w ⟨r1, rfl, H⟩ a hE
  refine WR.eff0 hE rfl rfl rfl (OpTo.store hE H rfl rfl rfl rfl rfl rfl (Nat.le_of_ble_eq_true rfl)) ?_
  rintro _ w H a hE
  refine WR.e0 hE [(7, .bool t_2.2.1)] fun a hE => ?_
  refine Runs.seq ?_
  refine Runs.sr ?_
  refine WR.e0 hE [(23, .bool (!t_2.2.1))] fun a hE => ?_
  refine Runs.cond hE rfl (fun c => ?_) (fun c => ?_)
  ·replace hm := cond_t c hm
   refine Runs.sr ?_
   refine WR.d0 hE 1 [(24, .agg #[.int .i64 0, .int .i64 0])] fun a hE => ?_
   refine WR.eff0 hE rfl rfl rfl (OpTo.store hE H.t5 rfl rfl rfl rfl rfl rfl (Nat.le_of_ble_eq_true rfl)) ?_
   rintro _ w H a hE
   refine WR.e0 hE [(5, .int .i64 13)] fun a hE => ?_
   refine Runs.retO (vs := [.agg #[.int .i64 0, .int .i64 0], .int .i64 13]) (obs := [.cell ⟨r, 0, none⟩ (.int .i64 0), .cell ⟨r, 1, none⟩ (.int .i64 0)]) hE Tryz.func61 rfl [.int .i64 0, .int .i64 0] (by kernel_rfl) ⟨H.cell 0 rfl rfl, H.cell 0 rfl rfl, trivial⟩ ?_
   replace H := slots_Table.shut (slots_Table.A.mk al_t_.heaps_p (pool_Pool_slots_heap.A.mk z z1 z2 z3) al_t_.items_p al_t_.items_a al_t_.at__p) (slots_Table.mk t_2.2.2 t_.items t_.at_) H.t5.t5.t4.t5
   cases hm
   exact ⟨pool_Pool_slots_heap.A.mk z z1 z2 z3, rfl, H.x2.x1⟩
  ·replace hm := cond_f c hm
   refine Runs.skip ?_
   refine Runs.sr ?_
   refine WR.d hE 1 [.int .i64 t_2.1.At, .int .i64 t_2.1.Gen] [(25, .agg #[.int .i64 t_2.1.At, .int .i64 t_2.1.Gen])] (obs := [.cell ⟨r1, 0, none⟩ (.int .i64 t_2.1.At), .cell ⟨r1, 1, none⟩ (.int .i64 t_2.1.Gen)]) ⟨H.cell 0 rfl rfl, H.cell 0 rfl rfl, trivial⟩ fun a hE => ?_
   refine WR.eff0 hE rfl rfl rfl (OpTo.store hE H.t5 rfl rfl rfl rfl rfl rfl (Nat.le_of_ble_eq_true rfl)) ?_
   rintro _ w H a hE
   refine WR.e0 hE [(5, .int .i64 0)] fun a hE => ?_
   refine Runs.retO (vs := [.agg #[.int .i64 t_2.1.At, .int .i64 t_2.1.Gen], .int .i64 0]) (obs := [.cell ⟨r, 0, none⟩ (.int .i64 t_2.1.At), .cell ⟨r, 1, none⟩ (.int .i64 t_2.1.Gen)]) hE Tryz.func61 rfl [.int .i64 t_2.1.At, .int .i64 t_2.1.Gen] (by kernel_rfl) ⟨H.cell 0 rfl rfl, H.cell 0 rfl rfl, trivial⟩ ?_
   replace H := slots_Table.shut (slots_Table.A.mk al_t_.heaps_p (pool_Pool_slots_heap.A.mk z z1 z2 z3) al_t_.items_p al_t_.items_a al_t_.at__p) (slots_Table.mk t_2.2.2 t_.items t_.at_) H.t5.t5.t4.t5
   cases hm
   exact ⟨pool_Pool_slots_heap.A.mk z z1 z2 z3, rfl, H.x2.x1⟩

theorem pool_Pool_slots_heap_find_ok {w0 w : World} {As : List HP} {p_p : Nat} {al_p : pool_Pool_slots_heap.A} {p : pool_Pool_slots_heap} {r : api_Ref} {t : (Option Int) × Int}  (hm : pool_Pool_slots_heap_find p r = some t) (H : St w0 (pool_Pool_slots_heap.R p_p al_p p :: As) w) :
    CallsR Tryz.prog 192 #[.pointer (some ⟨p_p, 0, none⟩), .agg #[.int .i64 r.At, .int .i64 r.Gen]] w fun v w' => v = .tuple #[elemV al_p.l_b 5 t.1, .int .i64 t.2] ∧ St w0 (pool_Pool_slots_heap.R p_p al_p p :: As) w' := by
 rw [pool_Pool_slots_heap_find] at hm
 refine enter (args := [.pointer (some ⟨p_p, 0, none⟩), .agg #[.int .i64 r.At, .int .i64 r.Gen]]) Tryz.func192 rfl rfl rfl fun a hE => ?_
 refine Runs.sr ?_
 refine WR.eff hE rfl rfl rfl rfl (OpTo.new hE H [] (.cells #[.int .i64 r.At, .int .i64 r.Gen] 26 (0, 0)) (fun r => .pointer (some ⟨r, 0, none⟩)) (obs := []) rfl (fun _ => by kernel_rfl) trivial) ?_
 rintro _ w ⟨r1, rfl, H⟩ a hE
 refine WR.seg hE 3 [] [0, 3] (Lo := [(0, .pointer (some ⟨p_p, 0, none⟩)), (3, .pointer (some ⟨r1, 0, none⟩))]) (obs := []) rfl (by kernel_rfl) trivial fun a hE => ?_
 refine WR.done rfl ?_
 refine Runs.seq ?_
 refine Runs.seq ?_
 obtain ⟨s, es, hm⟩ := bind_some hm
 refine Runs.join (fun a w => EnvOk 61 a [(0, .pointer (some ⟨p_p, 0, none⟩)), (3, .pointer (some ⟨r1, 0, none⟩)), (38, .bool s)] ∧ St w0 (Blk r1 26 [.int .i64 r.At, .int .i64 r.Gen] :: pool_Pool_slots_heap.R p_p al_p p :: As) w) (fun hk => ?_) ?_
 ·replace hm := es; clear es
  refine Runs.drawn mixed (by kernel_rfl) ?_
  replace H := H.drew
  refine WQ.d hE [0, 1, 2, 3] [.int .i64 r.At] [(10, .bool (decide (r.At < 0)))] (obs := [.cell ⟨r1, 0, none⟩ (.int .i64 r.At)]) ⟨H.cell 0 rfl rfl, trivial⟩ fun a hE => ?_
  rcases Bool.eq_false_or_eq_true (decide (r.At < 0)) with c | c
  ·replace hE := hE.dec 10 c (by kernel_rfl)
   replace hm := cond_t c hm
   have c_ := c
   refine WQ.d0 hE [4, 5, 6, 7, 8, 9, 10, 11, 12, 13, 14, 15, 16, 17, 18, 19, 20, 21, 22, 23, 24, 25, 26, 27, 28, 29, 30, 31] [(38, .bool true)] fun a hE => ?_
   refine WQ.done (by kernel_rfl) ?_
   cases hm
   exact hk _ _ ⟨hE.sel [0, 3, 38] (by kernel_rfl), H.t1.t1⟩
  ·replace hE := hE.dec 10 c (by kernel_rfl)
   replace hm := cond_f c hm
   have c_1 := c
   replace H := pool_Pool_slots_heap.open H.t1
   refine WQ.d hE [4, 5, 6, 7, 8, 9, 10, 11, 12, 13] [.int .i64 r.At, .slice al_p.l_b p.l.length al_p.l_c] [(20, .bool (decide (r.At ≥ (p.l.length : Int))))] (obs := [.cell ⟨r1, 0, none⟩ (.int .i64 r.At), .cell ⟨p_p, 1, none⟩ (.slice al_p.l_b p.l.length al_p.l_c)]) ⟨H.cell 3 rfl rfl, H.cell 0 rfl rfl, trivial⟩ fun a hE => ?_
   rcases Bool.eq_false_or_eq_true (decide (r.At ≥ (p.l.length : Int))) with c | c
   ·replace hE := hE.dec 20 c (by kernel_rfl)
    replace hm := cond_t c hm
    have c_2 := c
    refine WQ.d0 hE [14, 15, 16, 17, 18, 19, 20, 21, 22, 23, 24, 25, 26, 27, 28, 29, 30, 31] [(38, .bool true)] fun a hE => ?_
    refine WQ.done (by kernel_rfl) ?_
    replace H := pool_Pool_slots_heap.shut al_p (p) H.t2.t2.t2
    cases hm
    exact hk _ _ ⟨hE.sel [0, 3, 38] (by kernel_rfl), H.t1⟩
   ·replace hE := hE.dec 20 c (by kernel_rfl)
    replace hm := cond_f c hm
    have c_3 := c
    refine WQ.d hE [14, 15, 16, 17, 18] [.int .i64 r.Gen] [(25, .bool (decide (r.Gen < 1)))] (obs := [.cell ⟨r1, 1, none⟩ (.int .i64 r.Gen)]) ⟨H.cell 3 rfl rfl, trivial⟩ fun a hE => ?_
    rcases Bool.eq_false_or_eq_true (decide (r.Gen < 1)) with c | c
    ·replace hE := hE.dec 25 c (by kernel_rfl)
     replace hm := cond_t c hm
     have c_4 := c
     refine WQ.d0 hE [19, 20, 21, 22, 23, 24, 25, 26, 27, 28, 29, 30, 31] [(38, .bool true)] fun a hE => ?_
     refine WQ.done (by kernel_rfl) ?_
     replace H := pool_Pool_slots_heap.shut al_p (p) H.t2.t2.t2
     cases hm
     exact hk _ _ ⟨hE.sel [0, 3, 38] (by kernel_rfl), H.t1⟩
    ·replace hE := hE.dec 25 c (by kernel_rfl)
     replace hm := cond_f c hm
     have c_5 := c
     obtain ⟨x1, ex1, hm⟩ := bind_some hm
     obtain ⟨b1, o1, hs1, hb1⟩ := SlRd.base (sl_rd 237 pool_place_slots_heap.enc 5 _ _ _) pool_place_slots_heap.enc_ok H 1 rfl ex1
     refine WQ.d hE [19, 20, 21, 22, 23, 24, 25, 26, 27, 28, 29, 30, 31] [.int .i64 r.Gen, .slice al_p.l_b p.l.length al_p.l_c, .int .i64 r.At, .pointer (some ⟨b1, o1, none⟩), .int .i64 x1.gen] [(38, .bool (decide (r.Gen > x1.gen)))] (obs := [.cell ⟨r1, 1, none⟩ (.int .i64 r.Gen), .cell ⟨p_p, 1, none⟩ (.slice al_p.l_b p.l.length al_p.l_c), .cell ⟨r1, 0, none⟩ (.int .i64 r.At), .p ((al_p.l_b : Option Addr) = some ⟨b1, o1, none⟩), .p (0 ≤ (r.At : Int) ∧ (r.At : Int) < ((p.l.length : Nat) : Int)), .cell ⟨b1, o1 + (Int.toNat r.At) * 5, none⟩ (.int .i64 x1.gen)]) ⟨H.cell 3 rfl rfl, H.cell 0 rfl rfl, H.cell 3 rfl rfl, hs1, hb1, SlRd.cells (sl_rd 237 pool_place_slots_heap.enc 5 _ _ _) pool_place_slots_heap.enc_ok H 1 rfl hs1 ex1 0 _ rfl, trivial⟩ fun a hE => ?_
     refine WQ.done (by kernel_rfl) ?_
     replace H := pool_Pool_slots_heap.shut al_p (p) H.t2.t2.t2
     cases hm
     exact hk _ _ ⟨hE.sel [0, 3, 38] (by kernel_rfl), H.t1⟩
 rintro a w ⟨hE, H⟩
 refine Runs.cond hE rfl (fun c => ?_) (fun c => ?_)
 ·replace hm := cond_t c hm
  refine Runs.sr ?_
  refine WR.seg hE 2 [] [4, 5] (Lo := [(4, .pointer none), (5, .int .i64 22)]) (obs := []) rfl (by kernel_rfl) trivial fun a hE => ?_
  refine WR.done rfl ?_
  refine Runs.ret hE Tryz.func192 rfl rfl ?_
  cases hm
  exact ⟨rfl, H.x0⟩
 ·replace hm := cond_f c hm
  refine Runs.skip ?_
  refine Runs.seq ?_
  refine Runs.drawn mixed (by kernel_rfl) ?_
  replace H := H.drew
  replace H := pool_Pool_slots_heap.open H.t1
  obtain ⟨x2, ex2, hm⟩ := bind_some hm
  obtain ⟨b2, o2, hs2, hb2⟩ := SlRd.base (sl_rd 237 pool_place_slots_heap.enc 5 _ _ _) pool_place_slots_heap.enc_ok H 1 rfl ex2
  refine WQ.seg hE [0, 1, 2, 3, 4, 5, 6, 7] [.slice al_p.l_b p.l.length al_p.l_c, .int .i64 r.At, .pointer (some ⟨b2, o2, none⟩)] [3, 6] (Lo := [(3, .pointer (some ⟨r1, 0, none⟩)), (6, .pointer (some ⟨b2, o2 + (Int.toNat r.At) * 5, none⟩))]) (obs := [.cell ⟨p_p, 1, none⟩ (.slice al_p.l_b p.l.length al_p.l_c), .cell ⟨r1, 0, none⟩ (.int .i64 r.At), .p ((al_p.l_b : Option Addr) = some ⟨b2, o2, none⟩), .p (0 ≤ (r.At : Int) ∧ (r.At : Int) < ((p.l.length : Nat) : Int))]) (by kernel_rfl) (by kernel_rfl) ⟨H.cell 0 rfl rfl, H.cell 3 rfl rfl, hs2, hb2, trivial⟩ fun a hE => ?_
  refine WQ.done (by kernel_rfl) ?_
  refine Runs.seq ?_
  refine Runs.seq ?_
  refine Runs.join (fun a w => EnvOk 61 a [(6, .pointer (some ⟨b2, o2 + (Int.toNat r.At) * 5, none⟩)), (59, .bool ((decide (r.Gen < x2.gen)) || (!x2.taken)))] ∧ St w0 (Blk p_p 232 [.int .i64 p.most, .slice al_p.l_b p.l.length al_p.l_c, .slice al_p.free_b p.free.length al_p.free_c] :: Sl 237 pool_place_slots_heap.enc 5 al_p.l_b al_p.l_c p.l :: Sl 3 ecI 1 al_p.free_b al_p.free_c p.free :: Blk r1 26 [.int .i64 r.At, .int .i64 r.Gen] :: As) w) (fun hk => ?_) ?_
  ·clear hm
   refine Runs.drawn mixed (by kernel_rfl) ?_
   replace H := H.drew
   refine WQ.d hE [0, 1, 2, 3, 4, 5, 6, 7] [.int .i64 r.Gen, .int .i64 x2.gen] [(53, .bool (decide (r.Gen < x2.gen)))] (obs := [.cell ⟨r1, 1, none⟩ (.int .i64 r.Gen), .cell ⟨b2, o2 + (Int.toNat r.At) * 5, none⟩ (.int .i64 x2.gen)]) ⟨H.cell 3 rfl rfl, SlRd.cells (sl_rd 237 pool_place_slots_heap.enc 5 _ _ _) pool_place_slots_heap.enc_ok H 1 rfl hs2 ex2 0 _ rfl, trivial⟩ fun a hE => ?_
   rcases Bool.eq_false_or_eq_true (decide (r.Gen < x2.gen)) with c | c
   ·replace hE := hE.dec 53 c (by kernel_rfl)
    have c_6 := c
    refine WQ.d0 hE [8, 9, 10, 11, 12, 13] [(59, .bool true)] fun a hE => ?_
    refine WQ.done (by kernel_rfl) ?_
    refine hk _ _ ⟨?_, H.t3.t3.t3.t3⟩
    try rw [c_6] at hE
    try rw [c_6]
    exact hE.sel [6, 59] (by kernel_rfl)
   ·replace hE := hE.dec 53 c (by kernel_rfl)
    have c_7 := c
    refine WQ.d hE [8, 9, 10, 11, 12, 13] [.bool x2.taken] [(59, .bool (!x2.taken))] (obs := [.cell ⟨b2, o2 + (Int.toNat r.At) * 5 + 1, none⟩ (.bool x2.taken)]) ⟨SlRd.cells (sl_rd 237 pool_place_slots_heap.enc 5 _ _ _) pool_place_slots_heap.enc_ok H 1 rfl hs2 ex2 1 _ rfl, trivial⟩ fun a hE => ?_
    refine WQ.done (by kernel_rfl) ?_
    refine hk _ _ ⟨?_, H.t3.t3.t3.t3⟩
    try rw [c_7] at hE
    try rw [c_7]
    exact hE.sel [6, 59] (by kernel_rfl)
  rintro a w ⟨hE, H⟩
  refine Runs.cond hE rfl (fun c => ?_) (fun c => ?_)
  ·replace hm := cond_t c hm
   refine Runs.sr ?_
   refine WR.seg hE 2 [] [4, 5] (Lo := [(4, .pointer none), (5, .int .i64 23)]) (obs := []) rfl (by kernel_rfl) trivial fun a hE => ?_
   refine WR.done rfl ?_
   replace H := pool_Pool_slots_heap.shut al_p (p) H.t2.t2.t2
   refine Runs.ret hE Tryz.func192 rfl rfl ?_
   cases hm
   exact ⟨rfl, H.x1⟩
  ·replace hm := cond_f c hm
   refine Runs.skip ?_
   refine Runs.sr ?_
   refine WR.seg hE 3 [] [4, 5] (Lo := [(4, .pointer (some ⟨b2, o2 + (Int.toNat r.At) * 5, none⟩)), (5, .int .i64 0)]) (obs := []) rfl (by kernel_rfl) trivial fun a hE => ?_
   refine WR.done rfl ?_
   replace H := pool_Pool_slots_heap.shut al_p (p) H.t2.t2.t2
   refine Runs.ret hE Tryz.func192 rfl rfl ?_
   cases hm
   exact ⟨(by simp only [elemV_some hs2]; try rfl), H.x1⟩

theorem pool_Pool_slots_heap_Get_ok {w0 w : World} {As : List HP} {p_p : Nat} {al_p : pool_Pool_slots_heap.A} {p : pool_Pool_slots_heap} {r : api_Ref} {t : slots_heap × Int}  (hm : pool_Pool_slots_heap_Get p r = some t) (H : St w0 (pool_Pool_slots_heap.R p_p al_p p :: As) w) :
    CallsR Tryz.prog 120 #[.pointer (some ⟨p_p, 0, none⟩), .agg #[.int .i64 r.At, .int .i64 r.Gen]] w fun v w' => v = .tuple #[.agg #[.int .i64 t.1.kind, .int .i64 t.1.root, .int .i64 t.1.n], .int .i64 t.2] ∧ St w0 (pool_Pool_slots_heap.R p_p al_p p :: As) w' := by
 rw [pool_Pool_slots_heap_Get] at hm
 refine enter (args := [.pointer (some ⟨p_p, 0, none⟩), .agg #[.int .i64 r.At, .int .i64 r.Gen]]) Tryz.func120 rfl rfl rfl fun a hE => ?_
 refine Runs.sr ?_
 refine WR.eff hE rfl rfl rfl rfl (OpTo.new hE H [] (.cells #[.int .i64 r.At, .int .i64 r.Gen] 26 (0, 0)) (fun r => .pointer (some ⟨r, 0, none⟩)) (obs := []) rfl (fun _ => by kernel_rfl) trivial) ?_
 rintro _ w ⟨r1, rfl, H⟩ a hE
 refine WR.eff hE rfl rfl rfl rfl (OpTo.new hE H [] (.cells #[.int .i64 0, .int .i64 0, .int .i64 0] 173 (0, 0)) (fun r => .pointer (some ⟨r, 0, none⟩)) (obs := []) rfl (fun _ => by kernel_rfl) trivial) ?_
 rintro _ w ⟨r2, rfl, H⟩ a hE
 refine WR.seg hE 3 [] [0, 3, 4] (Lo := [(0, .pointer (some ⟨p_p, 0, none⟩)), (3, .pointer (some ⟨r1, 0, none⟩)), (4, .pointer (some ⟨r2, 0, none⟩))]) (obs := []) rfl (by kernel_rfl) trivial fun a hE => ?_
 refine WR.done rfl ?_
 refine Runs.sr ?_
 refine WR.d hE 2 [.int .i64 r.At, .int .i64 r.Gen] [(10, .pointer (some ⟨p_p, 0, none⟩)), (11, .agg #[.int .i64 r.At, .int .i64 r.Gen])] (obs := [.cell ⟨r1, 0, none⟩ (.int .i64 r.At), .cell ⟨r1, 1, none⟩ (.int .i64 r.Gen)]) ⟨H.cell 1 rfl rfl, H.cell 1 rfl rfl, trivial⟩ fun a hE => ?_
 obtain ⟨t_, et_, hm⟩ := bind_some hm
 refine WR.eff hE rfl rfl rfl rfl (OpTo.fn hE rfl rfl Tryz.call192 (pool_Pool_slots_heap_find_ok et_ H.t2)) ?_
 rintro _ w ⟨rfl, H⟩ a hE
 rcases ho : t_.1 with _ | i
 ·replace hm := case_n ho hm
  rw [ho] at hE
  refine WR.seg hE 8 [] [4, 6, 7] (Lo := [(4, .pointer (some ⟨r2, 0, none⟩)), (6, .pointer none), (7, .int .i64 t_.2)]) (obs := []) rfl (by kernel_rfl) trivial fun a hE => ?_
  refine WR.done rfl ?_
  refine Runs.seq ?_
  refine Runs.sr ?_
  refine WR.e0 hE [(16, .bool (t_.2 != 0))] fun a hE => ?_
  refine Runs.cond hE rfl (fun c => ?_) (fun c => ?_)
  ·replace hm := cond_t c hm
   refine Runs.sr ?_
   refine WR.eff hE rfl rfl rfl rfl (OpTo.new hE H [] (.cells #[.int .i64 0, .int .i64 0, .int .i64 0] 173 (0, 0)) (fun r => .pointer (some ⟨r, 0, none⟩)) (obs := []) rfl (fun _ => by kernel_rfl) trivial) ?_
   rintro _ w ⟨r3, rfl, H⟩ a hE
   refine WR.done rfl ?_
   refine Runs.sr ?_
   refine WR.d hE 2 [.int .i64 0, .int .i64 0, .int .i64 0] [(17, .agg #[.int .i64 0, .int .i64 0, .int .i64 0]), (18, .int .i64 t_.2)] (obs := [.cell ⟨r3, 0, none⟩ (.int .i64 0), .cell ⟨r3, 1, none⟩ (.int .i64 0), .cell ⟨r3, 2, none⟩ (.int .i64 0)]) ⟨H.cell 0 rfl rfl, H.cell 0 rfl rfl, H.cell 0 rfl rfl, trivial⟩ fun a hE => ?_
   refine WR.eff0 hE rfl rfl rfl (OpTo.store hE H.t2 rfl rfl rfl rfl rfl rfl (Nat.le_of_ble_eq_true rfl)) ?_
   rintro _ w H a hE
   refine WR.e0 hE [(5, .int .i64 t_.2)] fun a hE => ?_
   refine Runs.retO (vs := [.agg #[.int .i64 0, .int .i64 0, .int .i64 0], .int .i64 t_.2]) (obs := [.cell ⟨r2, 0, none⟩ (.int .i64 0), .cell ⟨r2, 1, none⟩ (.int .i64 0), .cell ⟨r2, 2, none⟩ (.int .i64 0)]) hE Tryz.func120 rfl [.int .i64 0, .int .i64 0, .int .i64 0] (by kernel_rfl) ⟨H.cell 0 rfl rfl, H.cell 0 rfl rfl, H.cell 0 rfl rfl, trivial⟩ ?_
   cases hm
   exact ⟨rfl, H.x3.x1.x0⟩
  ·replace hm := cond_f c hm
   refine Runs.skip ?_
   refine Runs.sr ?_
   cases hm
 ·replace hm := case_s ho hm
  replace H := pool_Pool_slots_heap.open H
  obtain ⟨x, ex, hm⟩ := bind_some hm
  obtain ⟨b, o, hs, hb⟩ := SlRd.base (sl_rd 237 pool_place_slots_heap.enc 5 _ _ _) pool_place_slots_heap.enc_ok H 1 rfl ex
  rw [ho, elemV_some hs] at hE
  refine WR.seg hE 8 [] [4, 6, 7] (Lo := [(4, .pointer (some ⟨r2, 0, none⟩)), (6, .pointer (some ⟨b, o + (Int.toNat i) * 5, none⟩)), (7, .int .i64 t_.2)]) (obs := []) rfl (by kernel_rfl) trivial fun a hE => ?_
  refine WR.done rfl ?_
  refine Runs.seq ?_
  refine Runs.sr ?_
  refine WR.e0 hE [(16, .bool (t_.2 != 0))] fun a hE => ?_
  refine Runs.cond hE rfl (fun c => ?_) (fun c => ?_)
  ·replace hm := cond_t c hm
   refine Runs.sr ?_
   refine WR.eff hE rfl rfl rfl rfl (OpTo.new hE H [] (.cells #[.int .i64 0, .int .i64 0, .int .i64 0] 173 (0, 0)) (fun r => .pointer (some ⟨r, 0, none⟩)) (obs := []) rfl (fun _ => by kernel_rfl) trivial) ?_
   rintro _ w ⟨r4, rfl, H⟩ a hE
   refine WR.done rfl ?_
   refine Runs.sr ?_
   refine WR.d hE 2 [.int .i64 0, .int .i64 0, .int .i64 0] [(17, .agg #[.int .i64 0, .int .i64 0, .int .i64 0]), (18, .int .i64 t_.2)] (obs := [.cell ⟨r4, 0, none⟩ (.int .i64 0), .cell ⟨r4, 1, none⟩ (.int .i64 0), .cell ⟨r4, 2, none⟩ (.int .i64 0)]) ⟨H.cell 0 rfl rfl, H.cell 0 rfl rfl, H.cell 0 rfl rfl, trivial⟩ fun a hE => ?_
   refine WR.eff0 hE rfl rfl rfl (OpTo.store hE H.t4 rfl rfl rfl rfl rfl rfl (Nat.le_of_ble_eq_true rfl)) ?_
   rintro _ w H a hE
   refine WR.e0 hE [(5, .int .i64 t_.2)] fun a hE => ?_
   refine Runs.retO (vs := [.agg #[.int .i64 0, .int .i64 0, .int .i64 0], .int .i64 t_.2]) (obs := [.cell ⟨r2, 0, none⟩ (.int .i64 0), .cell ⟨r2, 1, none⟩ (.int .i64 0), .cell ⟨r2, 2, none⟩ (.int .i64 0)]) hE Tryz.func120 rfl [.int .i64 0, .int .i64 0, .int .i64 0] (by kernel_rfl) ⟨H.cell 0 rfl rfl, H.cell 0 rfl rfl, H.cell 0 rfl rfl, trivial⟩ ?_
   replace H := pool_Pool_slots_heap.shut al_p (p) H.t4.t4.t4
   cases hm
   exact ⟨rfl, H.x3.x2.x1⟩
  ·replace hm := cond_f c hm
   refine Runs.skip ?_
   refine Runs.sr ?_
   refine WR.d hE 4 [.int .i64 x.v_.kind, .int .i64 x.v_.root, .int .i64 x.v_.n] [(22, .agg #[.int .i64 x.v_.kind, .int .i64 x.v_.root, .int .i64 x.v_.n])] (obs := [.cell ⟨b, o + (Int.toNat i) * 5 + 2, none⟩ (.int .i64 x.v_.kind), .cell ⟨b, o + (Int.toNat i) * 5 + 3, none⟩ (.int .i64 x.v_.root), .cell ⟨b, o + (Int.toNat i) * 5 + 4, none⟩ (.int .i64 x.v_.n)]) ⟨SlRd.cells (sl_rd 237 pool_place_slots_heap.enc 5 _ _ _) pool_place_slots_heap.enc_ok H 1 rfl hs ex 2 _ rfl, SlRd.cells (sl_rd 237 pool_place_slots_heap.enc 5 _ _ _) pool_place_slots_heap.enc_ok H 1 rfl hs ex 3 _ rfl, SlRd.cells (sl_rd 237 pool_place_slots_heap.enc 5 _ _ _) pool_place_slots_heap.enc_ok H 1 rfl hs ex 4 _ rfl, trivial⟩ fun a hE => ?_
   refine WR.eff0 hE rfl rfl rfl (OpTo.store hE H.t3 rfl rfl rfl rfl rfl rfl (Nat.le_of_ble_eq_true rfl)) ?_
   rintro _ w H a hE
   refine WR.e0 hE [(5, .int .i64 0)] fun a hE => ?_
   refine Runs.retO (vs := [.agg #[.int .i64 x.v_.kind, .int .i64 x.v_.root, .int .i64 x.v_.n], .int .i64 0]) (obs := [.cell ⟨r2, 0, none⟩ (.int .i64 x.v_.kind), .cell ⟨r2, 1, none⟩ (.int .i64 x.v_.root), .cell ⟨r2, 2, none⟩ (.int .i64 x.v_.n)]) hE Tryz.func120 rfl [.int .i64 x.v_.kind, .int .i64 x.v_.root, .int .i64 x.v_.n] (by kernel_rfl) ⟨H.cell 0 rfl rfl, H.cell 0 rfl rfl, H.cell 0 rfl rfl, trivial⟩ ?_
   replace H := pool_Pool_slots_heap.shut al_p (p) H.t3.t3.t3
   cases hm
   exact ⟨rfl, H.x2.x1⟩

theorem slots_Table_Heap_ok {w0 w : World} {As : List HP} {p_t_ : Nat} {al_t_ : slots_Table.A} {t_ : slots_Table} {h_ : api_Ref} {t : Int × Int × Int × Int}  (hm : slots_Table_Heap t_ h_ = some t) (H : St w0 (slots_Table.R p_t_ al_t_ t_ :: As) w) :
    CallsR Tryz.prog 67 #[.pointer (some ⟨p_t_, 0, none⟩), .agg #[.int .i64 h_.At, .int .i64 h_.Gen]] w fun v w' => v = .tuple #[.int .i64 t.1, .int .i64 t.2.1, .int .i64 t.2.2.1, .int .i64 t.2.2.2] ∧ St w0 (slots_Table.R p_t_ al_t_ t_ :: As) w' := by
 rw [slots_Table_Heap] at hm
 refine enter (args := [.pointer (some ⟨p_t_, 0, none⟩), .agg #[.int .i64 h_.At, .int .i64 h_.Gen]]) Tryz.func67 rfl rfl rfl fun a hE => ?_
 refine Runs.sr ?_
 refine WR.eff hE rfl rfl rfl rfl (OpTo.new hE H [] (.cells #[.int .i64 h_.At, .int .i64 h_.Gen] 26 (0, 0)) (fun r => .pointer (some ⟨r, 0, none⟩)) (obs := []) rfl (fun _ => by kernel_rfl) trivial) ?_
 rintro _ w ⟨r, rfl, H⟩ a hE
 refine WR.seg hE 5 [] [0, 3] (Lo := [(0, .pointer (some ⟨p_t_, 0, none⟩)), (3, .pointer (some ⟨r, 0, none⟩))]) (obs := []) rfl (by kernel_rfl) trivial fun a hE => ?_
 refine WR.done rfl ?_
 refine Runs.seq ?_
 obtain ⟨t_1, et_1, hm⟩ := bind_some hm
 refine Runs.join (fun a w => ∃ (r2 : Nat), EnvOk 26 a [(8, .pointer (some ⟨r2, 0, none⟩)), (9, .int .i64 t_1.2)] ∧ St w0 (Blk r2 173 [.int .i64 t_1.1.kind, .int .i64 t_1.1.root, .int .i64 t_1.1.n] :: slots_Table.R p_t_ al_t_ t_ :: As) w) (fun hk => ?_) ?_
 ·refine Runs.drawn mixed (by kernel_rfl) ?_
  replace H := H.drew
  replace H := slots_Table.open H.t1
  refine WQ.d hE [0, 1, 2, 3, 4] [.pointer (some ⟨al_t_.heaps_p, 0, none⟩), .int .i64 h_.At, .int .i64 h_.Gen] [(14, .pointer (some ⟨al_t_.heaps_p, 0, none⟩)), (15, .agg #[.int .i64 h_.At, .int .i64 h_.Gen])] (obs := [.cell ⟨p_t_, 0, none⟩ (.pointer (some ⟨al_t_.heaps_p, 0, none⟩)), .cell ⟨r, 0, none⟩ (.int .i64 h_.At), .cell ⟨r, 1, none⟩ (.int .i64 h_.Gen)]) ⟨H.cell 0 rfl rfl, H.cell 4 rfl rfl, H.cell 4 rfl rfl, trivial⟩ fun a hE => ?_
  refine WQ.act2 5 9 (by kernel_rfl) ?_ ?_
  ·refine AQ.eff (j := 5) (obs := []) hE rfl rfl rfl rfl (by kernel_rfl) (OpTo.fn hE rfl rfl Tryz.call120 (pool_Pool_slots_heap_Get_ok et_1 H.t1)) ?_
   rintro _ w ⟨rfl, H⟩
   refine ⟨trivial, fun a hE => ?_⟩
   refine WQ.d0 hE [6, 7, 8] [(17, .agg #[.int .i64 t_1.1.kind, .int .i64 t_1.1.root, .int .i64 t_1.1.n]), (18, .int .i64 t_1.2)] fun a hE => ?_
   refine WQ.eff (j := 9) (obs := []) hE (by kernel_rfl) rfl rfl rfl rfl (by kernel_rfl) (OpTo.new hE H [] (.cells #[.int .i64 0, .int .i64 0, .int .i64 0] 173 (0, 0)) (fun r => .pointer (some ⟨r, 0, none⟩)) (obs := []) rfl (fun _ => by kernel_rfl) trivial) ?_
   rintro _ w ⟨r3, rfl, H⟩
   refine ⟨trivial, fun a hE => ?_⟩
   refine WQ.eff0 (j := 10) (obs := []) hE (by kernel_rfl) rfl rfl rfl (by kernel_rfl) (OpTo.store hE H rfl rfl rfl rfl rfl rfl (Nat.le_of_ble_eq_true rfl)) ?_
   rintro _ w H
   refine ⟨trivial, fun a hE => ?_⟩
   refine WQ.d0 hE [11] [(9, .int .i64 t_1.2)] fun a hE => ?_
   refine WQ.done (by kernel_rfl) ?_
   replace H := slots_Table.shut al_t_ (t_) H.t4.t4.t3.t4
   exact hk _ _ ⟨r3, hE.sel [8, 9] (by kernel_rfl), H.x2.t1⟩
  ·refine AQ.eff (j := 9) (obs := [.cell ⟨r, 0, none⟩ (.int .i64 h_.At), .cell ⟨r, 1, none⟩ (.int .i64 h_.Gen), .cell ⟨p_t_, 0, none⟩ (.pointer (some ⟨al_t_.heaps_p, 0, none⟩))]) hE rfl rfl rfl rfl (by kernel_rfl) (OpTo.new hE H [] (.cells #[.int .i64 0, .int .i64 0, .int .i64 0] 173 (0, 0)) (fun r => .pointer (some ⟨r, 0, none⟩)) (obs := []) rfl (fun _ => by kernel_rfl) trivial) ?_
   rintro _ w ⟨r4, rfl, H⟩
   refine ⟨⟨H.cell 5 rfl rfl, H.cell 5 rfl rfl, H.cell 1 rfl rfl, trivial⟩, fun a hE => ?_⟩
   refine WQ.eff (j := 5) (obs := []) hE (by kernel_rfl) rfl rfl rfl rfl (by kernel_rfl) (OpTo.fn hE rfl rfl Tryz.call120 (pool_Pool_slots_heap_Get_ok et_1 H.t2)) ?_
   rintro _ w ⟨rfl, H⟩
   refine ⟨trivial, fun a hE => ?_⟩
   refine WQ.d0 hE [6, 7, 8] [(17, .agg #[.int .i64 t_1.1.kind, .int .i64 t_1.1.root, .int .i64 t_1.1.n]), (18, .int .i64 t_1.2)] fun a hE => ?_
   refine WQ.eff0 (j := 10) (obs := []) hE (by kernel_rfl) rfl rfl rfl (by kernel_rfl) (OpTo.store hE H.t1 rfl rfl rfl rfl rfl rfl (Nat.le_of_ble_eq_true rfl)) ?_
   rintro _ w H
   refine ⟨trivial, fun a hE => ?_⟩
   refine WQ.d0 hE [11] [(9, .int .i64 t_1.2)] fun a hE => ?_
   refine WQ.done (by kernel_rfl) ?_
   replace H := slots_Table.shut al_t_ (t_) H.t4.t4.t3.t4
   exact hk _ _ ⟨r4, hE.sel [8, 9] (by kernel_rfl), H.x2.t1⟩
 rintro a w ⟨r2, hE, H⟩
 refine Runs.seq ?_
 refine Runs.drawn mixed (by kernel_rfl) ?_
 replace H := H.drew
 refine WQ.seg hE [0, 1, 2, 3, 4, 5, 6, 7, 8, 9, 10] [.int .i64 t_1.1.kind, .int .i64 t_1.1.root, .int .i64 t_1.1.n] [4, 5, 6, 7] (Lo := [(4, .int .i64 t_1.1.kind), (5, .int .i64 t_1.1.root), (6, .int .i64 t_1.1.n), (7, .int .i64 t_1.2)]) (obs := [.cell ⟨r2, 0, none⟩ (.int .i64 t_1.1.kind), .cell ⟨r2, 1, none⟩ (.int .i64 t_1.1.root), .cell ⟨r2, 2, none⟩ (.int .i64 t_1.1.n)]) (by kernel_rfl) (by kernel_rfl) ⟨H.cell 0 rfl rfl, H.cell 0 rfl rfl, H.cell 0 rfl rfl, trivial⟩ fun a hE => ?_
 refine WQ.done (by kernel_rfl) ?_
 refine Runs.ret hE Tryz.func67 rfl rfl ?_
 cases hm
 exact ⟨rfl, H.x0⟩

theorem pq_refused_ok {w0 w : World} {As : List HP} {why : Int} {t : api_Answer}  (hm : pq_refused why = some t) (H : St w0 (As) w) :
    CallsR Tryz.prog 69 #[.int .i64 why] w fun v w' => v = .agg #[.int .i64 t.Why, .int .i64 t.Heap.At, .int .i64 t.Heap.Gen, .int .i64 t.Item.At, .int .i64 t.Item.Gen, .int .i64 t.Entry.Key, .int .i64 t.Entry.Serial, .int .i64 t.N] ∧ St w0 (As) w' := by
 rw [pq_refused] at hm
 refine enter (args := [.int .i64 why]) Tryz.func69 rfl rfl rfl fun a hE => ?_
 refine Runs.sr ?_
 refine WR.eff hE rfl rfl rfl rfl (OpTo.new hE H [] (.cells #[.int .i64 0, .int .i64 0, .int .i64 0, .int .i64 0, .int .i64 0, .int .i64 0, .int .i64 0, .int .i64 0] 86 (0, 0)) (fun r => .pointer (some ⟨r, 0, none⟩)) (obs := []) rfl (fun _ => by kernel_rfl) trivial) ?_
 rintro _ w ⟨r, rfl, H⟩ a hE
 refine WR.done rfl ?_
 refine Runs.sr ?_
 refine WR.seg hE 2 [] [2, 4] (Lo := [(2, .pointer (some ⟨r, 0, none⟩)), (4, .agg #[.int .i64 why, .int .i64 0, .int .i64 0, .int .i64 0, .int .i64 0, .int .i64 0, .int .i64 0, .int .i64 0])]) (obs := []) rfl (by kernel_rfl) trivial fun a hE => ?_
 refine WR.eff0 hE rfl rfl rfl (OpTo.store hE H rfl rfl rfl rfl rfl rfl (Nat.le_of_ble_eq_true rfl)) ?_
 rintro _ w H a hE
 refine WR.done rfl ?_
 refine Runs.retO (vs := [.agg #[.int .i64 why, .int .i64 0, .int .i64 0, .int .i64 0, .int .i64 0, .int .i64 0, .int .i64 0, .int .i64 0]]) (obs := [.cell ⟨r, 0, none⟩ (.int .i64 why), .cell ⟨r, 1, none⟩ (.int .i64 0), .cell ⟨r, 2, none⟩ (.int .i64 0), .cell ⟨r, 3, none⟩ (.int .i64 0), .cell ⟨r, 4, none⟩ (.int .i64 0), .cell ⟨r, 5, none⟩ (.int .i64 0), .cell ⟨r, 6, none⟩ (.int .i64 0), .cell ⟨r, 7, none⟩ (.int .i64 0)]) hE Tryz.func69 rfl [.int .i64 why, .int .i64 0, .int .i64 0, .int .i64 0, .int .i64 0, .int .i64 0, .int .i64 0, .int .i64 0] (by kernel_rfl) ⟨H.cell 0 rfl rfl, H.cell 0 rfl rfl, H.cell 0 rfl rfl, H.cell 0 rfl rfl, H.cell 0 rfl rfl, H.cell 0 rfl rfl, H.cell 0 rfl rfl, H.cell 0 rfl rfl, trivial⟩ ?_
 cases hm
 exact ⟨rfl, H.x0⟩

theorem pool_Pool_slots_thing_Len_ok {w0 w : World} {As : List HP} {p_p : Nat} {al_p : pool_Pool_slots_thing.A} {p : pool_Pool_slots_thing} {t : Int}  (hm : pool_Pool_slots_thing_Len p = some t) (H : St w0 (pool_Pool_slots_thing.R p_p al_p p :: As) w) :
    CallsR Tryz.prog 150 #[.pointer (some ⟨p_p, 0, none⟩)] w fun v w' => v = .int .i64 t ∧ St w0 (pool_Pool_slots_thing.R p_p al_p p :: As) w' := by
 rw [pool_Pool_slots_thing_Len] at hm
 refine enter (args := [.pointer (some ⟨p_p, 0, none⟩)]) Tryz.func150 rfl rfl rfl fun a hE => ?_
 refine Runs.sr ?_
 refine WR.seg hE 1 [] [0] (Lo := [(0, .pointer (some ⟨p_p, 0, none⟩))]) (obs := []) rfl (by kernel_rfl) trivial fun a hE => ?_
 refine WR.done rfl ?_
 refine Runs.seq ?_
 refine Runs.drawn mixed (by kernel_rfl) ?_
 replace H := H.drew
 replace H := pool_Pool_slots_thing.open H
 refine WQ.d hE [0, 1, 2, 3, 4, 5, 6, 7, 8, 9, 10, 11] [.slice al_p.l_b p.l.length al_p.l_c, .slice al_p.free_b p.free.length al_p.free_c] [(2, .int .i64 (w64 ((p.l.length : Int) - (p.free.length : Int))))] (obs := [.cell ⟨p_p, 1, none⟩ (.slice al_p.l_b p.l.length al_p.l_c), .cell ⟨p_p, 2, none⟩ (.slice al_p.free_b p.free.length al_p.free_c)]) ⟨H.cell 0 rfl rfl, H.cell 0 rfl rfl, trivial⟩ fun a hE => ?_
 refine WQ.done (by kernel_rfl) ?_
 replace H := pool_Pool_slots_thing.shut al_p (p) H.t2.t2.t2
 refine Runs.ret hE Tryz.func150 rfl rfl ?_
 cases hm
 exact ⟨rfl, H⟩

theorem slots_Table_Items_ok {w0 w : World} {As : List HP} {p_t_ : Nat} {al_t_ : slots_Table.A} {t_ : slots_Table} {t : Int}  (hm : slots_Table_Items t_ = some t) (H : St w0 (slots_Table.R p_t_ al_t_ t_ :: As) w) :
    CallsR Tryz.prog 104 #[.pointer (some ⟨p_t_, 0, none⟩)] w fun v w' => v = .int .i64 t ∧ St w0 (slots_Table.R p_t_ al_t_ t_ :: As) w' := by
 rw [slots_Table_Items] at hm
 refine enter (args := [.pointer (some ⟨p_t_, 0, none⟩)]) Tryz.func104 rfl rfl rfl fun a hE => ?_
 refine Runs.sr ?_
 refine WR.seg hE 1 [] [0] (Lo := [(0, .pointer (some ⟨p_t_, 0, none⟩))]) (obs := []) rfl (by kernel_rfl) trivial fun a hE => ?_
 refine WR.done rfl ?_
 refine Runs.sr ?_
 replace H := slots_Table.open H
 refine WR.d hE 4 [.pointer (some ⟨al_t_.items_p, 0, none⟩)] [(6, .pointer (some ⟨al_t_.items_p, 0, none⟩))] (obs := [.cell ⟨p_t_, 1, none⟩ (.pointer (some ⟨al_t_.items_p, 0, none⟩))]) ⟨H.cell 0 rfl rfl, trivial⟩ fun a hE => ?_
 obtain ⟨t_1, et_1, hm⟩ := bind_some hm
 refine WR.eff hE rfl rfl rfl rfl (OpTo.fn hE rfl rfl Tryz.call150 (pool_Pool_slots_thing_Len_ok et_1 H.t2)) ?_
 rintro _ w ⟨rfl, H⟩ a hE
 refine WR.e0 hE [(2, .int .i64 t_1)] fun a hE => ?_
 replace H := slots_Table.shut al_t_ (t_) H.t3.t1.t3.t3
 refine Runs.ret hE Tryz.func104 rfl rfl ?_
 cases hm
 exact ⟨rfl, H⟩

theorem meter_Meter_Tick_ok {w0 w : World} {As : List HP} {p_m_ : Nat} {m_ : meter_Meter} {n : Int} {t : meter_Meter}  (hm : meter_Meter_Tick m_ n = some t) (H : St w0 (meter_Meter.R p_m_ m_ :: As) w) :
    CallsR Tryz.prog 213 #[.pointer (some ⟨p_m_, 0, none⟩), .int .i64 n] w fun v w' => v = .tuple #[] ∧ St w0 (meter_Meter.R p_m_ t :: As) w' := by
 rw [meter_Meter_Tick] at hm
 refine enter (args := [.pointer (some ⟨p_m_, 0, none⟩), .int .i64 n]) Tryz.func213 rfl rfl rfl fun a hE => ?_
 refine Runs.region ?_
 replace H := meter_Meter.open H
 refine WR.seg hE 7 [.int .i64 m_.steps] [4, 8, 10] (Lo := [(4, .pointer (some ⟨p_m_, 0, none⟩)), (8, .int .i64 m_.steps), (10, .int .i64 (if n > 0 then n else 0))]) (obs := [.cell ⟨p_m_, 0, none⟩ (.int .i64 m_.steps)]) rfl (by kernel_rfl) ⟨H.cell 0 rfl rfl, trivial⟩ fun a hE => ?_
 obtain ⟨t_, et_, hm⟩ := bind_some hm
 refine WR.eff hE rfl rfl rfl rfl (OpTo.fn hE rfl rfl Tryz.call97 (order_Add_ok et_ H)) ?_
 rintro _ w ⟨rfl, H⟩ a hE
 refine WR.d0 hE 10 [(13, .pointer (some ⟨p_m_, 0, none⟩))] fun a hE => ?_
 refine WR.eff0 hE rfl rfl rfl (OpTo.store hE H rfl rfl rfl rfl rfl rfl (Nat.le_of_ble_eq_true rfl)) ?_
 rintro _ w H a hE
 refine WR.done rfl ?_
 replace H := meter_Meter.shut (meter_Meter.mk t_ m_.begun m_.most) H
 refine Runs.fin hE Tryz.func213 rfl rfl ?_
 cases hm
 exact ⟨rfl, H⟩

theorem arena_fresh_ok {w0 w : World} {As : List HP}  {t : arena_cell}  (hm : arena_fresh = some t) (H : St w0 (As) w) :
    CallsR Tryz.prog 214 #[] w fun v w' => v = .agg #[.int .i64 t.f0, .int .i64 t.f1, .int .i64 t.f2, .int .i64 t.f3, .int .i64 t.f4, .int .i64 t.f5, .int .i64 t.f6, .int .i64 t.f7, .int .i64 t.f8, .int .i64 t.f9, .bool t.taken] ∧ St w0 (As) w' := by
 rw [arena_fresh] at hm
 refine enter (args := []) Tryz.func214 rfl rfl rfl fun a hE => ?_
 refine Runs.sr ?_
 refine WR.eff hE rfl rfl rfl rfl (OpTo.new hE H [] (.cells #[.int .i64 0, .int .i64 0, .int .i64 0, .int .i64 0, .int .i64 0, .int .i64 0, .int .i64 0, .int .i64 0, .int .i64 0, .int .i64 0, .bool false] 279 (0, 0)) (fun r => .pointer (some ⟨r, 0, none⟩)) (obs := []) rfl (fun _ => by kernel_rfl) trivial) ?_
 rintro _ w ⟨r, rfl, H⟩ a hE
 refine WR.done rfl ?_
 refine Runs.sr ?_
 refine WR.seg hE 1 [] [0, 4] (Lo := [(0, .pointer (some ⟨r, 0, none⟩)), (4, .agg #[.int .i64 0, .int .i64 0, .int .i64 0, .int .i64 0, .int .i64 0, .int .i64 0, .int .i64 0, .int .i64 0, .int .i64 0, .int .i64 0, .bool true])]) (obs := []) rfl (by kernel_rfl) trivial fun a hE => ?_
 refine WR.eff hE rfl rfl rfl rfl (OpTo.new hE H [] (.cells #[.int .i64 0, .int .i64 0, .int .i64 0, .int .i64 0, .int .i64 0, .int .i64 0, .int .i64 0, .int .i64 0, .int .i64 0, .int .i64 0, .bool false] 279 (0, 0)) (fun r => .pointer (some ⟨r, 0, none⟩)) (obs := []) rfl (fun _ => by kernel_rfl) trivial) ?_
 rintro _ w ⟨r1, rfl, H⟩ a hE
 refine WR.eff0 hE rfl rfl rfl (OpTo.store hE H rfl rfl rfl rfl rfl rfl (Nat.le_of_ble_eq_true rfl)) ?_
 rintro _ w H a hE
 refine WR.done rfl ?_
 refine Runs.seq ?_
 refine Runs.sr ?_
 refine WR.eff hE rfl rfl rfl rfl (OpTo.buildSl (T := 3) hE H ecI_ok ([0, 1, 2, 3, 6, 9] : List Int) rfl (fun _ => by kernel_rfl) rfl rfl rfl) ?_
 rintro _ w ⟨r2, rfl, H⟩ a hE
 refine WR.e0 hE [(6, .int .i64 6), (7, .int .i64 0)] fun a hE => ?_
 refine Runs.block ?_
 refine Runs.unroll ?_
 refine Runs.sr ?_
 refine WR.e0 hE [(8, .bool true)] fun a hE => ?_
 refine Runs.seq ?_
 refine Runs.condT hE rfl ?_
 refine Runs.skip ?_
 refine Runs.seq ?_
 refine Runs.block ?_
 refine Runs.sr ?_
 obtain ⟨b, o, hs, hb⟩ := SlRd.base (sl_rd 3 ecI 1 _ _ _) ecI_ok H 0 rfl (rfl : mIdx ([0, 1, 2, 3, 6, 9] : List Int) (0 : Int) = some 0)
 refine WR.e hE [.pointer (some ⟨b, o, none⟩), .int .i64 0] [(3, .int .i64 0)] (obs := [.p (((some ⟨r2, 0, none⟩) : Option Addr) = some ⟨b, o, none⟩), .p (0 ≤ (0 : Int) ∧ (0 : Int) < ((([0, 1, 2, 3, 6, 9] : List Int).length : Nat) : Int)), .cell ⟨b, o + (Int.toNat 0) * 1, none⟩ (.int .i64 0)]) ⟨hs, hb, SlRd.cells (sl_rd 3 ecI 1 _ _ _) ecI_ok H 0 rfl hs (rfl : mIdx ([0, 1, 2, 3, 6, 9] : List Int) (0 : Int) = some 0) 0 _ rfl, trivial⟩ fun a hE => ?_
 refine Runs.region ?_
 refine WR.d hE 3 [] [(13, .pointer (some ⟨r1, 0, none⟩))] (obs := [.p (0 ≤ (0 : Int) ∧ (0 : Int) < ((10 : Nat) : Int))]) ⟨⟨by decide, by decide⟩, trivial⟩ fun a hE => ?_
 refine WR.eff0 hE rfl rfl rfl (OpTo.store hE H.t1 rfl rfl rfl rfl rfl rfl (Nat.le_of_ble_eq_true rfl)) ?_
 rintro _ w H a hE
 refine WR.done rfl ?_
 refine Runs.inBlock ?_
 refine Runs.region ?_
 refine WR.e0 hE [(7, .int .i64 1)] fun a hE => ?_
 refine Runs.inLoop ?_
 refine Runs.sr ?_
 refine WR.e0 hE [(8, .bool true)] fun a hE => ?_
 refine Runs.seq ?_
 refine Runs.condT hE rfl ?_
 refine Runs.skip ?_
 refine Runs.seq ?_
 refine Runs.block ?_
 refine Runs.sr ?_
 obtain ⟨b1, o1, hs1, hb1⟩ := SlRd.base (sl_rd 3 ecI 1 _ _ _) ecI_ok H 1 rfl (rfl : mIdx ([0, 1, 2, 3, 6, 9] : List Int) (1 : Int) = some 1)
 refine WR.e hE [.pointer (some ⟨b1, o1, none⟩), .int .i64 1] [(3, .int .i64 1)] (obs := [.p (((some ⟨r2, 0, none⟩) : Option Addr) = some ⟨b1, o1, none⟩), .p (0 ≤ (1 : Int) ∧ (1 : Int) < ((([0, 1, 2, 3, 6, 9] : List Int).length : Nat) : Int)), .cell ⟨b1, o1 + (Int.toNat 1) * 1, none⟩ (.int .i64 1)]) ⟨hs1, hb1, SlRd.cells (sl_rd 3 ecI 1 _ _ _) ecI_ok H 1 rfl hs1 (rfl : mIdx ([0, 1, 2, 3, 6, 9] : List Int) (1 : Int) = some 1) 0 _ rfl, trivial⟩ fun a hE => ?_
 refine Runs.region ?_
 refine WR.d hE 3 [] [(13, .pointer (some ⟨r1, 1, none⟩))] (obs := [.p (0 ≤ (1 : Int) ∧ (1 : Int) < ((10 : Nat) : Int))]) ⟨⟨by decide, by decide⟩, trivial⟩ fun a hE => ?_
 refine WR.eff0 hE rfl rfl rfl (OpTo.store hE H rfl rfl rfl rfl rfl rfl (Nat.le_of_ble_eq_true rfl)) ?_
 rintro _ w H a hE
 refine WR.done rfl ?_
 refine Runs.inBlock ?_
 refine Runs.region ?_
 refine WR.e0 hE [(7, .int .i64 2)] fun a hE => ?_
 refine Runs.inLoop ?_
 refine Runs.sr ?_
 refine WR.e0 hE [(8, .bool true)] fun a hE => ?_
 refine Runs.seq ?_
 refine Runs.condT hE rfl ?_
 refine Runs.skip ?_
 refine Runs.seq ?_
 refine Runs.block ?_
 refine Runs.sr ?_
 obtain ⟨b2, o2, hs2, hb2⟩ := SlRd.base (sl_rd 3 ecI 1 _ _ _) ecI_ok H 1 rfl (rfl : mIdx ([0, 1, 2, 3, 6, 9] : List Int) (2 : Int) = some 2)
 refine WR.e hE [.pointer (some ⟨b2, o2, none⟩), .int .i64 2] [(3, .int .i64 2)] (obs := [.p (((some ⟨r2, 0, none⟩) : Option Addr) = some ⟨b2, o2, none⟩), .p (0 ≤ (2 : Int) ∧ (2 : Int) < ((([0, 1, 2, 3, 6, 9] : List Int).length : Nat) : Int)), .cell ⟨b2, o2 + (Int.toNat 2) * 1, none⟩ (.int .i64 2)]) ⟨hs2, hb2, SlRd.cells (sl_rd 3 ecI 1 _ _ _) ecI_ok H 1 rfl hs2 (rfl : mIdx ([0, 1, 2, 3, 6, 9] : List Int) (2 : Int) = some 2) 0 _ rfl, trivial⟩ fun a hE => ?_
 refine Runs.region ?_
 refine WR.d hE 3 [] [(13, .pointer (some ⟨r1, 2, none⟩))] (obs := [.p (0 ≤ (2 : Int) ∧ (2 : Int) < ((10 : Nat) : Int))]) ⟨⟨by decide, by decide⟩, trivial⟩ fun a hE => ?_
 refine WR.eff0 hE rfl rfl rfl (OpTo.store hE H rfl rfl rfl rfl rfl rfl (Nat.le_of_ble_eq_true rfl)) ?_
 rintro _ w H a hE
 refine WR.done rfl ?_
 refine Runs.inBlock ?_
 refine Runs.region ?_
 refine WR.e0 hE [(7, .int .i64 3)] fun a hE => ?_
 refine Runs.inLoop ?_
 refine Runs.sr ?_
 refine WR.e0 hE [(8, .bool true)] fun a hE => ?_
 refine Runs.seq ?_
 refine Runs.condT hE rfl ?_
 refine Runs.skip ?_
 refine Runs.seq ?_
 refine Runs.block ?_
 refine Runs.sr ?_
 obtain ⟨b3, o3, hs3, hb3⟩ := SlRd.base (sl_rd 3 ecI 1 _ _ _) ecI_ok H 1 rfl (rfl : mIdx ([0, 1, 2, 3, 6, 9] : List Int) (3 : Int) = some 3)
 refine WR.e hE [.pointer (some ⟨b3, o3, none⟩), .int .i64 3] [(3, .int .i64 3)] (obs := [.p (((some ⟨r2, 0, none⟩) : Option Addr) = some ⟨b3, o3, none⟩), .p (0 ≤ (3 : Int) ∧ (3 : Int) < ((([0, 1, 2, 3, 6, 9] : List Int).length : Nat) : Int)), .cell ⟨b3, o3 + (Int.toNat 3) * 1, none⟩ (.int .i64 3)]) ⟨hs3, hb3, SlRd.cells (sl_rd 3 ecI 1 _ _ _) ecI_ok H 1 rfl hs3 (rfl : mIdx ([0, 1, 2, 3, 6, 9] : List Int) (3 : Int) = some 3) 0 _ rfl, trivial⟩ fun a hE => ?_
 refine Runs.region ?_
 refine WR.d hE 3 [] [(13, .pointer (some ⟨r1, 3, none⟩))] (obs := [.p (0 ≤ (3 : Int) ∧ (3 : Int) < ((10 : Nat) : Int))]) ⟨⟨by decide, by decide⟩, trivial⟩ fun a hE => ?_
 refine WR.eff0 hE rfl rfl rfl (OpTo.store hE H rfl rfl rfl rfl rfl rfl (Nat.le_of_ble_eq_true rfl)) ?_
 rintro _ w H a hE
 refine WR.done rfl ?_
 refine Runs.inBlock ?_
 refine Runs.region ?_
 refine WR.e0 hE [(7, .int .i64 4)] fun a hE => ?_
 refine Runs.inLoop ?_
 refine Runs.sr ?_
 refine WR.e0 hE [(8, .bool true)] fun a hE => ?_
 refine Runs.seq ?_
 refine Runs.condT hE rfl ?_
 refine Runs.skip ?_
 refine Runs.seq ?_
 refine Runs.block ?_
 refine Runs.sr ?_
 obtain ⟨b4, o4, hs4, hb4⟩ := SlRd.base (sl_rd 3 ecI 1 _ _ _) ecI_ok H 1 rfl (rfl : mIdx ([0, 1, 2, 3, 6, 9] : List Int) (4 : Int) = some 6)
 refine WR.e hE [.pointer (some ⟨b4, o4, none⟩), .int .i64 6] [(3, .int .i64 6)] (obs := [.p (((some ⟨r2, 0, none⟩) : Option Addr) = some ⟨b4, o4, none⟩), .p (0 ≤ (4 : Int) ∧ (4 : Int) < ((([0, 1, 2, 3, 6, 9] : List Int).length : Nat) : Int)), .cell ⟨b4, o4 + (Int.toNat 4) * 1, none⟩ (.int .i64 6)]) ⟨hs4, hb4, SlRd.cells (sl_rd 3 ecI 1 _ _ _) ecI_ok H 1 rfl hs4 (rfl : mIdx ([0, 1, 2, 3, 6, 9] : List Int) (4 : Int) = some 6) 0 _ rfl, trivial⟩ fun a hE => ?_
 refine Runs.region ?_
 refine WR.d hE 3 [] [(13, .pointer (some ⟨r1, 6, none⟩))] (obs := [.p (0 ≤ (6 : Int) ∧ (6 : Int) < ((10 : Nat) : Int))]) ⟨⟨by decide, by decide⟩, trivial⟩ fun a hE => ?_
 refine WR.eff0 hE rfl rfl rfl (OpTo.store hE H rfl rfl rfl rfl rfl rfl (Nat.le_of_ble_eq_true rfl)) ?_
 rintro _ w H a hE
 refine WR.done rfl ?_
 refine Runs.inBlock ?_
 refine Runs.region ?_
 refine WR.e0 hE [(7, .int .i64 5)] fun a hE => ?_
 refine Runs.inLoop ?_
 refine Runs.sr ?_
 refine WR.e0 hE [(8, .bool true)] fun a hE => ?_
 refine Runs.seq ?_
 refine Runs.condT hE rfl ?_
 refine Runs.skip ?_
 refine Runs.seq ?_
 refine Runs.block ?_
 refine Runs.sr ?_
 obtain ⟨b5, o5, hs5, hb5⟩ := SlRd.base (sl_rd 3 ecI 1 _ _ _) ecI_ok H 1 rfl (rfl : mIdx ([0, 1, 2, 3, 6, 9] : List Int) (5 : Int) = some 9)
 refine WR.e hE [.pointer (some ⟨b5, o5, none⟩), .int .i64 9] [(3, .int .i64 9)] (obs := [.p (((some ⟨r2, 0, none⟩) : Option Addr) = some ⟨b5, o5, none⟩), .p (0 ≤ (5 : Int) ∧ (5 : Int) < ((([0, 1, 2, 3, 6, 9] : List Int).length : Nat) : Int)), .cell ⟨b5, o5 + (Int.toNat 5) * 1, none⟩ (.int .i64 9)]) ⟨hs5, hb5, SlRd.cells (sl_rd 3 ecI 1 _ _ _) ecI_ok H 1 rfl hs5 (rfl : mIdx ([0, 1, 2, 3, 6, 9] : List Int) (5 : Int) = some 9) 0 _ rfl, trivial⟩ fun a hE => ?_
 refine Runs.region ?_
 refine WR.d hE 3 [] [(13, .pointer (some ⟨r1, 9, none⟩))] (obs := [.p (0 ≤ (9 : Int) ∧ (9 : Int) < ((10 : Nat) : Int))]) ⟨⟨by decide, by decide⟩, trivial⟩ fun a hE => ?_
 refine WR.eff0 hE rfl rfl rfl (OpTo.store hE H rfl rfl rfl rfl rfl rfl (Nat.le_of_ble_eq_true rfl)) ?_
 rintro _ w H a hE
 refine WR.done rfl ?_
 refine Runs.inBlock ?_
 refine Runs.region ?_
 refine WR.e0 hE [(7, .int .i64 6)] fun a hE => ?_
 refine Runs.inLoop ?_
 refine Runs.sr ?_
 refine WR.e0 hE [(8, .bool false)] fun a hE => ?_
 refine Runs.seq ?_
 refine Runs.condF hE rfl ?_
 refine Runs.exit rfl ?_
 refine Runs.sr ?_
 refine WR.d hE 1 [.int .i64 (-1), .int .i64 (-1), .int .i64 (-1), .int .i64 (-1), .int .i64 0, .int .i64 0, .int .i64 (-1), .int .i64 0, .int .i64 0, .int .i64 (-1), .bool true] [(15, .agg #[.int .i64 (-1), .int .i64 (-1), .int .i64 (-1), .int .i64 (-1), .int .i64 0, .int .i64 0, .int .i64 (-1), .int .i64 0, .int .i64 0, .int .i64 (-1), .bool true])] (obs := [.cell ⟨r1, 0, none⟩ (.int .i64 (-1)), .cell ⟨r1, 1, none⟩ (.int .i64 (-1)), .cell ⟨r1, 2, none⟩ (.int .i64 (-1)), .cell ⟨r1, 3, none⟩ (.int .i64 (-1)), .cell ⟨r1, 4, none⟩ (.int .i64 0), .cell ⟨r1, 5, none⟩ (.int .i64 0), .cell ⟨r1, 6, none⟩ (.int .i64 (-1)), .cell ⟨r1, 7, none⟩ (.int .i64 0), .cell ⟨r1, 8, none⟩ (.int .i64 0), .cell ⟨r1, 9, none⟩ (.int .i64 (-1)), .cell ⟨r1, 10, none⟩ (.bool true)]) ⟨H.cell 0 rfl rfl, H.cell 0 rfl rfl, H.cell 0 rfl rfl, H.cell 0 rfl rfl, H.cell 0 rfl rfl, H.cell 0 rfl rfl, H.cell 0 rfl rfl, H.cell 0 rfl rfl, H.cell 0 rfl rfl, H.cell 0 rfl rfl, H.cell 0 rfl rfl, trivial⟩ fun a hE => ?_
 refine WR.eff0 hE rfl rfl rfl (OpTo.store hE H.t2 rfl rfl rfl rfl rfl rfl (Nat.le_of_ble_eq_true rfl)) ?_
 rintro _ w H a hE
 refine WR.done rfl ?_
 refine Runs.retO (vs := [.agg #[.int .i64 (-1), .int .i64 (-1), .int .i64 (-1), .int .i64 (-1), .int .i64 0, .int .i64 0, .int .i64 (-1), .int .i64 0, .int .i64 0, .int .i64 (-1), .bool true]]) (obs := [.cell ⟨r, 0, none⟩ (.int .i64 (-1)), .cell ⟨r, 1, none⟩ (.int .i64 (-1)), .cell ⟨r, 2, none⟩ (.int .i64 (-1)), .cell ⟨r, 3, none⟩ (.int .i64 (-1)), .cell ⟨r, 4, none⟩ (.int .i64 0), .cell ⟨r, 5, none⟩ (.int .i64 0), .cell ⟨r, 6, none⟩ (.int .i64 (-1)), .cell ⟨r, 7, none⟩ (.int .i64 0), .cell ⟨r, 8, none⟩ (.int .i64 0), .cell ⟨r, 9, none⟩ (.int .i64 (-1)), .cell ⟨r, 10, none⟩ (.bool true)]) hE Tryz.func214 rfl [.int .i64 (-1), .int .i64 (-1), .int .i64 (-1), .int .i64 (-1), .int .i64 0, .int .i64 0, .int .i64 (-1), .int .i64 0, .int .i64 0, .int .i64 (-1), .bool true] (by kernel_rfl) ⟨H.cell 0 rfl rfl, H.cell 0 rfl rfl, H.cell 0 rfl rfl, H.cell 0 rfl rfl, H.cell 0 rfl rfl, H.cell 0 rfl rfl, H.cell 0 rfl rfl, H.cell 0 rfl rfl, H.cell 0 rfl rfl, H.cell 0 rfl rfl, H.cell 0 rfl rfl, trivial⟩ ?_
 cases hm
 exact ⟨rfl, H.x2.x1.x0⟩

theorem arena_Arena_Take_ok {w0 w : World} {As : List HP} {p_a_ : Nat} {al_a_ : arena_Arena.A} {a_ : arena_Arena} {t : Int × Bool × arena_Arena}  (hm : arena_Arena_Take a_ = some t) (H : St w0 (arena_Arena.R p_a_ al_a_ a_ :: As) w) :
    CallsR Tryz.prog 151 #[.pointer (some ⟨p_a_, 0, none⟩)] w fun v w' => ∃ (z_a__free_b : Option Addr), ∃ (z_a__free_c : Nat), v = .tuple #[.int .i64 t.1, .bool t.2.1] ∧ St w0 (arena_Arena.R p_a_ (arena_Arena.A.mk al_a_.l_b al_a_.l_c z_a__free_b z_a__free_c al_a_.m__p) t.2.2 :: As) w' := by
 rw [arena_Arena_Take] at hm
 refine enter (args := [.pointer (some ⟨p_a_, 0, none⟩)]) Tryz.func151 rfl rfl rfl fun a hE => ?_
 refine Runs.sr ?_
 refine WR.seg hE 2 [] [0] (Lo := [(0, .pointer (some ⟨p_a_, 0, none⟩))]) (obs := []) rfl (by kernel_rfl) trivial fun a hE => ?_
 refine WR.done rfl ?_
 refine Runs.sr ?_
 replace H := arena_Arena.open H
 refine WR.d hE 4 [.pointer (some ⟨al_a_.m__p, 0, none⟩)] [(9, .pointer (some ⟨al_a_.m__p, 0, none⟩))] (obs := [.cell ⟨p_a_, 3, none⟩ (.pointer (some ⟨al_a_.m__p, 0, none⟩))]) ⟨H.cell 0 rfl rfl, trivial⟩ fun a hE => ?_
 obtain ⟨t_, et_, hm⟩ := bind_some hm
 refine WR.eff hE rfl rfl rfl rfl (OpTo.fn hE rfl rfl Tryz.call213 (meter_Meter_Tick_ok et_ H.t3)) ?_
 rintro _ w ⟨rfl, H⟩ a hE
 refine WR.done rfl ?_
 refine Runs.sr ?_
 refine WR.e hE [.int .i64 a_.never] [(4, .int .i64 a_.never)] (obs := [.cell ⟨p_a_, 1, none⟩ (.int .i64 a_.never)]) ⟨H.cell 1 rfl rfl, trivial⟩ fun a hE => ?_
 refine Runs.seq ?_
 refine Runs.sr ?_
 refine WR.e hE [.slice al_a_.free_b a_.free.length al_a_.free_c] [(5, .int .i64 (w64 ((a_.free.length : Int) - 1)))] (obs := [.cell ⟨p_a_, 2, none⟩ (.slice al_a_.free_b a_.free.length al_a_.free_c)]) ⟨H.cell 1 rfl rfl, trivial⟩ fun a hE => ?_
 refine Runs.sr ?_
 refine WR.e0 hE [(22, .bool (decide (w64 ((a_.free.length : Int) - 1) ≥ 0)))] fun a hE => ?_
 replace H := arena_Arena.shut al_a_ (arena_Arena.mk a_.l a_.never a_.free t_) H.t3.t3.t3
 obtain ⟨s, es, hR⟩ := bind_some hm
 refine Runs.join (fun a w => ∃ s1, s = Sum.inr s1 ∧ ∃ (z : Option Addr), ∃ (z1 : Nat), EnvOk 61 a [(0, .pointer (some ⟨p_a_, 0, none⟩)), (4, .int .i64 s1.1)] ∧ St w0 (arena_Arena.R p_a_ (arena_Arena.A.mk al_a_.l_b al_a_.l_c z z1 al_a_.m__p) s1.2 :: As) w) (fun hk => ?_) ?_
 ·replace hm := es; clear es
  refine Runs.cond hE rfl (fun c => ?_) (fun c => ?_)
  ·replace hm := cond_t c hm
   refine Runs.sr ?_
   replace H := arena_Arena.open H
   try dsimp only at H
   obtain ⟨x, ex, hm⟩ := bind_some hm
   obtain ⟨b, o, hs, hb⟩ := SlRd.base (sl_rd 3 ecI 1 _ _ _) ecI_ok H 2 rfl ex
   refine WR.e hE [.slice al_a_.free_b a_.free.length al_a_.free_c, .pointer (some ⟨b, o, none⟩), .int .i64 x] [(4, .int .i64 x)] (obs := [.cell ⟨p_a_, 2, none⟩ (.slice al_a_.free_b a_.free.length al_a_.free_c), .p ((al_a_.free_b : Option Addr) = some ⟨b, o, none⟩), .p (0 ≤ ((w64 ((a_.free.length : Int) - 1)) : Int) ∧ ((w64 ((a_.free.length : Int) - 1)) : Int) < ((a_.free.length : Nat) : Int)), .cell ⟨b, o + (Int.toNat (w64 ((a_.free.length : Int) - 1))) * 1, none⟩ (.int .i64 x)]) ⟨H.cell 0 rfl rfl, hs, hb, SlRd.cells (sl_rd 3 ecI 1 _ _ _) ecI_ok H 2 rfl hs ex 0 _ rfl, trivial⟩ fun a hE => ?_
   refine Runs.region ?_
   obtain ⟨l, el, hm⟩ := bind_some hm
   obtain ⟨sb, q⟩ : ∃ z, rebase al_a_.free_b al_a_.free_c (Int.toNat 0) 1 = z := ⟨_, rfl⟩
   obtain ⟨sc, q1⟩ : ∃ z, al_a_.free_c - (Int.toNat 0) = z := ⟨_, rfl⟩
   refine WR.d hE 9 [.slice al_a_.free_b a_.free.length al_a_.free_c, .slice sb l.length sc] [(36, .slice sb l.length sc), (38, .pointer (some ⟨p_a_, 2, none⟩))] (obs := [.cell ⟨p_a_, 2, none⟩ (.slice al_a_.free_b a_.free.length al_a_.free_c), .p (rebase al_a_.free_b al_a_.free_c 0 1 = sb), .p ((Int.toNat (w64 ((a_.free.length : Int) - 1))) - 0 = l.length), .p (al_a_.free_c - 0 = sc), .p (0 ≤ ((w64 ((a_.free.length : Int) - 1)) : Int) ∧ ((w64 ((a_.free.length : Int) - 1)) : Int) ≤ ((al_a_.free_c : Nat) : Int))]) ⟨H.cell 0 rfl rfl, q, cut_len el, q1, cut_cap el (H.slCap 2 rfl).1, trivial⟩ fun a hE => ?_
   refine WR.eff0 hE rfl rfl rfl (OpTo.store hE H rfl rfl rfl rfl rfl rfl (Nat.le_of_ble_eq_true rfl)) ?_
   rintro _ w H a hE
   refine WR.done rfl ?_
   replace H := H.t2.slCut' ecI_ok el q q1
   replace H := arena_Arena.shut (arena_Arena.A.mk al_a_.l_b al_a_.l_c sb sc al_a_.m__p) (arena_Arena.mk a_.l a_.never l t_) H.t3.t1.t3.t3
   cases hm
   exact hk _ _ ⟨_, rfl, sb, sc, hE.sel [0, 4] (by kernel_rfl), H⟩
  ·replace hm := cond_f c hm
   refine Runs.sr ?_
   replace H := arena_Arena.open H
   try dsimp only at H
   refine WR.e hE [.slice al_a_.l_b a_.l.length al_a_.l_c] [(45, .bool (decide (a_.never ≥ (a_.l.length : Int))))] (obs := [.cell ⟨p_a_, 0, none⟩ (.slice al_a_.l_b a_.l.length al_a_.l_c)]) ⟨H.cell 0 rfl rfl, trivial⟩ fun a hE => ?_
   refine Runs.cond hE rfl (fun c => ?_) (fun c => ?_)
   ·replace hm := cond_t c hm
    refine Runs.sr ?_
    refine WR.e0 hE [(2, .int .i64 (-1)), (3, .bool false)] fun a hE => ?_
    replace H := arena_Arena.shut al_a_ (arena_Arena.mk a_.l a_.never a_.free t_) H.t3.t3.t3.t3
    refine Runs.ret hE Tryz.func151 rfl rfl ?_
    cases hm
    dsimp only at hR; cases hR
    exact ⟨al_a_.free_b, al_a_.free_c, rfl, H⟩
   ·replace hm := cond_f c hm
    refine Runs.region ?_
    refine WR.d hE 7 [.int .i64 a_.never] [(50, .int .i64 (w64 (a_.never + 1))), (52, .pointer (some ⟨p_a_, 1, none⟩))] (obs := [.cell ⟨p_a_, 1, none⟩ (.int .i64 a_.never)]) ⟨H.cell 0 rfl rfl, trivial⟩ fun a hE => ?_
    refine WR.eff0 hE rfl rfl rfl (OpTo.store hE H rfl rfl rfl rfl rfl rfl (Nat.le_of_ble_eq_true rfl)) ?_
    rintro _ w H a hE
    refine WR.done rfl ?_
    replace H := arena_Arena.shut al_a_ (arena_Arena.mk a_.l (w64 (a_.never + 1)) a_.free t_) H.t3.t3.t3.t3
    cases hm
    exact hk _ _ ⟨_, rfl, al_a_.free_b, al_a_.free_c, hE.sel [0, 4] (by kernel_rfl), H⟩
 rintro a w ⟨s1, rfl, z, z1, hE, H⟩
 replace hm := hR; dsimp only at hm
 refine Runs.seq ?_
 refine Runs.drawn mixed (by kernel_rfl) ?_
 replace H := H.drew
 replace H := arena_Arena.open H
 try dsimp only at H
 refine WQ.seg hE [0, 1, 2, 3, 4] [.slice al_a_.l_b s1.2.l.length al_a_.l_c] [4, 56, 57] (Lo := [(4, .int .i64 s1.1), (56, .slice al_a_.l_b s1.2.l.length al_a_.l_c), (57, .int .i64 s1.1)]) (obs := [.cell ⟨p_a_, 0, none⟩ (.slice al_a_.l_b s1.2.l.length al_a_.l_c)]) (by kernel_rfl) (by kernel_rfl) ⟨H.cell 0 rfl rfl, trivial⟩ fun a hE => ?_
 obtain ⟨t_1, et_1, hm⟩ := bind_some hm
 refine WQ.eff (j := 5) (obs := [.cell ⟨p_a_, 0, none⟩ (.slice al_a_.l_b s1.2.l.length al_a_.l_c)]) hE (by kernel_rfl) rfl rfl rfl rfl (by kernel_rfl) (OpTo.fn hE rfl rfl Tryz.call214 (arena_fresh_ok et_1 H)) ?_
 rintro _ w ⟨rfl, H⟩
 refine ⟨⟨H.cell 0 rfl rfl, trivial⟩, fun a hE => ?_⟩
 obtain ⟨x1, ex1, hm⟩ := bind_some hm
 obtain ⟨b1, o1, hs1, hb1⟩ := SlRd.base (sl_rd 279 arena_cell.enc 11 _ _ _) arena_cell.enc_ok H 1 rfl ex1
 refine WQ.d hE [6] [.pointer (some ⟨b1, o1, none⟩)] [(59, .pointer (some ⟨b1, o1 + (Int.toNat s1.1) * 11, none⟩))] (obs := [.p ((al_a_.l_b : Option Addr) = some ⟨b1, o1, none⟩), .p (0 ≤ (s1.1 : Int) ∧ (s1.1 : Int) < ((s1.2.l.length : Nat) : Int))]) ⟨hs1, hb1, trivial⟩ fun a hE => ?_
 refine WQ.eff0 (j := 7) (obs := []) hE (by kernel_rfl) rfl rfl rfl (by kernel_rfl) (OpTo.storeSl (q := 0) (x' := t_1) hE H.t1 arena_cell.enc_ok rfl hs1 ex1 rfl rfl rfl rfl rfl (Nat.le_of_ble_eq_true rfl) rfl) ?_
 rintro _ w H
 rw [← mSet_len s1.2.l s1.1 t_1] at H
 refine ⟨trivial, fun a hE => ?_⟩
 refine WQ.done (by kernel_rfl) ?_
 refine Runs.sr ?_
 refine WR.e0 hE [(2, .int .i64 s1.1), (3, .bool true)] fun a hE => ?_
 replace H := arena_Arena.shut (arena_Arena.A.mk al_a_.l_b al_a_.l_c z z1 al_a_.m__p) (arena_Arena.mk (mSet s1.2.l s1.1 t_1) s1.2.never s1.2.free s1.2.m_) H.t3.t3.t2.t3
 refine Runs.ret hE Tryz.func151 rfl rfl ?_
 cases hm
 exact ⟨z, z1, rfl, H⟩

theorem arena_Arena_Live_ok {w0 w : World} {As : List HP} {p_a_ : Nat} {al_a_ : arena_Arena.A} {a_ : arena_Arena} {c_ : Int} {t : Bool}  (hm : arena_Arena_Live a_ c_ = some t) (H : St w0 (arena_Arena.R p_a_ al_a_ a_ :: As) w) :
    CallsR Tryz.prog 227 #[.pointer (some ⟨p_a_, 0, none⟩), .int .i64 c_] w fun v w' => v = .bool t ∧ St w0 (arena_Arena.R p_a_ al_a_ a_ :: As) w' := by
 rw [arena_Arena_Live] at hm
 refine enter (args := [.pointer (some ⟨p_a_, 0, none⟩), .int .i64 c_]) Tryz.func227 rfl rfl rfl fun a hE => ?_
 refine Runs.sr ?_
 refine WR.seg hE 1 [] [0, 1] (Lo := [(0, .pointer (some ⟨p_a_, 0, none⟩)), (1, .int .i64 c_)]) (obs := []) rfl (by kernel_rfl) trivial fun a hE => ?_
 refine WR.done rfl ?_
 refine Runs.seq ?_
 obtain ⟨s, es, hm⟩ := bind_some hm
 refine Runs.join (fun a w => EnvOk 26 a [(4, .bool s)] ∧ St w0 (arena_Arena.R p_a_ al_a_ a_ :: As) w) (fun hk => ?_) ?_
 ·replace hm := es; clear es
  refine Runs.region ?_
  refine WR.d0 hE 3 [(7, .bool (decide (c_ ≥ 0)))] fun a hE => ?_
  rcases Bool.eq_false_or_eq_true (decide (c_ ≥ 0)) with c | c
  ·replace hE := hE.dec 7 c (by kernel_rfl)
   replace hm := cond_t c hm
   have c_1 := c
   replace H := arena_Arena.open H
   refine WR.d hE 12 [.slice al_a_.l_b a_.l.length al_a_.l_c] [(16, .bool (decide (c_ < (a_.l.length : Int))))] (obs := [.cell ⟨p_a_, 0, none⟩ (.slice al_a_.l_b a_.l.length al_a_.l_c)]) ⟨H.cell 0 rfl rfl, trivial⟩ fun a hE => ?_
   rcases Bool.eq_false_or_eq_true (decide (c_ < (a_.l.length : Int))) with c | c
   ·replace hE := hE.dec 16 c (by kernel_rfl)
    replace hm := cond_t c hm
    have c_2 := c
    obtain ⟨x1, ex1, hm⟩ := bind_some hm
    obtain ⟨b1, o1, hs1, hb1⟩ := SlRd.base (sl_rd 279 arena_cell.enc 11 _ _ _) arena_cell.enc_ok H 1 rfl ex1
    refine WR.e hE [.slice al_a_.l_b a_.l.length al_a_.l_c, .pointer (some ⟨b1, o1, none⟩), .bool x1.taken] [(4, .bool x1.taken)] (obs := [.cell ⟨p_a_, 0, none⟩ (.slice al_a_.l_b a_.l.length al_a_.l_c), .p ((al_a_.l_b : Option Addr) = some ⟨b1, o1, none⟩), .p (0 ≤ (c_ : Int) ∧ (c_ : Int) < ((a_.l.length : Nat) : Int)), .cell ⟨b1, o1 + (Int.toNat c_) * 11 + 10, none⟩ (.bool x1.taken)]) ⟨H.cell 0 rfl rfl, hs1, hb1, SlRd.cells (sl_rd 279 arena_cell.enc 11 _ _ _) arena_cell.enc_ok H 1 rfl hs1 ex1 10 _ rfl, trivial⟩ fun a hE => ?_
    replace H := arena_Arena.shut al_a_ (a_) H.t3.t3.t3.t3
    cases hm
    exact hk _ _ ⟨hE.sel [4] (by kernel_rfl), H⟩
   ·replace hE := hE.dec 16 c (by kernel_rfl)
    replace hm := cond_f c hm
    have c_3 := c
    refine WR.e0 hE [(4, .bool false)] fun a hE => ?_
    replace H := arena_Arena.shut al_a_ (a_) H.t3.t3.t3.t3
    cases hm
    exact hk _ _ ⟨hE.sel [4] (by kernel_rfl), H⟩
  ·replace hE := hE.dec 7 c (by kernel_rfl)
   replace hm := cond_f c hm
   have c_4 := c
   refine WR.e0 hE [(4, .bool false)] fun a hE => ?_
   cases hm
   exact hk _ _ ⟨hE.sel [4] (by kernel_rfl), H⟩
 rintro a w ⟨hE, H⟩
 refine Runs.ret hE Tryz.func227 rfl rfl ?_
 cases hm
 exact ⟨rfl, H⟩

theorem arena_Arena_has_ok {w0 w : World} {As : List HP} {p_a_ : Nat} {al_a_ : arena_Arena.A} {a_ : arena_Arena} {c_ : Int} {field : Int} {t : Bool}  (hm : arena_Arena_has a_ c_ field = some t) (H : St w0 (arena_Arena.R p_a_ al_a_ a_ :: As) w) :
    CallsR Tryz.prog 215 #[.pointer (some ⟨p_a_, 0, none⟩), .int .i64 c_, .int .i64 field] w fun v w' => v = .bool t ∧ St w0 (arena_Arena.R p_a_ al_a_ a_ :: As) w' := by
 rw [arena_Arena_has] at hm
 refine enter (args := [.pointer (some ⟨p_a_, 0, none⟩), .int .i64 c_, .int .i64 field]) Tryz.func215 rfl rfl rfl fun a hE => ?_
 refine Runs.sr ?_
 refine WR.seg hE 1 [] [0, 1, 2] (Lo := [(0, .pointer (some ⟨p_a_, 0, none⟩)), (1, .int .i64 c_), (2, .int .i64 field)]) (obs := []) rfl (by kernel_rfl) trivial fun a hE => ?_
 refine WR.done rfl ?_
 refine Runs.seq ?_
 obtain ⟨s, es, hm⟩ := bind_some hm
 refine Runs.join (fun a w => EnvOk 18 a [(6, .bool s)] ∧ St w0 (arena_Arena.R p_a_ al_a_ a_ :: As) w) (fun hk => ?_) ?_
 ·replace hm := es; clear es
  refine Runs.region ?_
  refine WR.d0 hE 2 [(7, .pointer (some ⟨p_a_, 0, none⟩)), (8, .int .i64 c_)] fun a hE => ?_
  obtain ⟨t_, et_, hm⟩ := bind_some hm
  refine WR.eff hE rfl rfl rfl rfl (OpTo.fn hE rfl rfl Tryz.call227 (arena_Arena_Live_ok et_ H)) ?_
  rintro _ w ⟨rfl, H⟩ a hE
  refine WR.d0 hE 4 [(10, .bool t_)] fun a hE => ?_
  rcases Bool.eq_false_or_eq_true t_ with c | c
  ·replace hE := hE.dec 10 c (by kernel_rfl)
   replace hm := cond_t c hm
   have c_1 := c
   refine WR.d0 hE 8 [(14, .bool (decide (field ≥ 0)))] fun a hE => ?_
   rcases Bool.eq_false_or_eq_true (decide (field ≥ 0)) with c | c
   ·replace hE := hE.dec 14 c (by kernel_rfl)
    replace hm := cond_t c hm
    have c_2 := c
    refine WR.e0 hE [(6, .bool (decide (field < 10)))] fun a hE => ?_
    cases hm
    exact hk _ _ ⟨hE.sel [6] (by kernel_rfl), H⟩
   ·replace hE := hE.dec 14 c (by kernel_rfl)
    replace hm := cond_f c hm
    have c_3 := c
    refine WR.e0 hE [(6, .bool false)] fun a hE => ?_
    cases hm
    exact hk _ _ ⟨hE.sel [6] (by kernel_rfl), H⟩
  ·replace hE := hE.dec 10 c (by kernel_rfl)
   replace hm := cond_f c hm
   have c_4 := c
   refine WR.e0 hE [(6, .bool false)] fun a hE => ?_
   cases hm
   exact hk _ _ ⟨hE.sel [6] (by kernel_rfl), H⟩
 rintro a w ⟨hE, H⟩
 refine Runs.ret hE Tryz.func215 rfl rfl ?_
 cases hm
 exact ⟨rfl, H⟩

theorem arena_Arena_Set_ok {w0 w : World} {As : List HP} {p_a_ : Nat} {al_a_ : arena_Arena.A} {a_ : arena_Arena} {c_ : Int} {field : Int} {v_ : Int} {t : Bool × arena_Arena}  (hm : arena_Arena_Set a_ c_ field v_ = some t) (H : St w0 (arena_Arena.R p_a_ al_a_ a_ :: As) w) :
    CallsR Tryz.prog 152 #[.pointer (some ⟨p_a_, 0, none⟩), .int .i64 c_, .int .i64 field, .int .i64 v_] w fun v w' => v = .bool t.1 ∧ t.2.free = a_.free ∧ St w0 (arena_Arena.R p_a_ al_a_ t.2 :: As) w' := by
 rw [arena_Arena_Set] at hm
 refine enter (args := [.pointer (some ⟨p_a_, 0, none⟩), .int .i64 c_, .int .i64 field, .int .i64 v_]) Tryz.func152 rfl rfl rfl fun a hE => ?_
 refine Runs.sr ?_
 refine WR.seg hE 1 [] [0, 1, 2, 3] (Lo := [(0, .pointer (some ⟨p_a_, 0, none⟩)), (1, .int .i64 c_), (2, .int .i64 field), (3, .int .i64 v_)]) (obs := []) rfl (by kernel_rfl) trivial fun a hE => ?_
 refine WR.done rfl ?_
 refine Runs.sr ?_
 replace H := arena_Arena.open H
 refine WR.d hE 4 [.pointer (some ⟨al_a_.m__p, 0, none⟩)] [(12, .pointer (some ⟨al_a_.m__p, 0, none⟩))] (obs := [.cell ⟨p_a_, 3, none⟩ (.pointer (some ⟨al_a_.m__p, 0, none⟩))]) ⟨H.cell 0 rfl rfl, trivial⟩ fun a hE => ?_
 obtain ⟨t_, et_, hm⟩ := bind_some hm
 refine WR.eff hE rfl rfl rfl rfl (OpTo.fn hE rfl rfl Tryz.call213 (meter_Meter_Tick_ok et_ H.t3)) ?_
 rintro _ w ⟨rfl, H⟩ a hE
 refine WR.done rfl ?_
 refine Runs.seq ?_
 refine Runs.sr ?_
 refine WR.d0 hE 3 [(14, .pointer (some ⟨p_a_, 0, none⟩)), (15, .int .i64 c_), (16, .int .i64 field)] fun a hE => ?_
 replace H := arena_Arena.shut al_a_ (arena_Arena.mk a_.l a_.never a_.free t_) H.t3.t3.t3
 obtain ⟨t_1, et_1, hm⟩ := bind_some hm
 refine WR.eff hE rfl rfl rfl rfl (OpTo.fn hE rfl rfl Tryz.call215 (arena_Arena_has_ok et_1 H)) ?_
 rintro _ w ⟨rfl, H⟩ a hE
 refine WR.e0 hE [(18, .bool (!t_1))] fun a hE => ?_
 refine Runs.cond hE rfl (fun c => ?_) (fun c => ?_)
 ·replace hm := cond_t c hm
  refine Runs.sr ?_
  refine WR.e0 hE [(8, .bool false)] fun a hE => ?_
  refine Runs.ret hE Tryz.func152 rfl rfl ?_
  cases hm
  exact ⟨rfl, rfl, H⟩
 ·replace hm := cond_f c hm
  refine Runs.skip ?_
  refine Runs.sr ?_
  replace H := arena_Arena.open H
  try dsimp only at H
  obtain ⟨x, ex, hm⟩ := bind_some hm
  obtain ⟨b, o, hs, hb⟩ := SlRd.base (sl_rd 279 arena_cell.enc 11 _ _ _) arena_cell.enc_ok H 1 rfl ex
  obtain ⟨u, eu, hm⟩ := bind_some hm
  refine WR.d hE 10 [.slice al_a_.l_b a_.l.length al_a_.l_c, .pointer (some ⟨b, o, none⟩)] [(25, .int .i64 v_), (28, .pointer (some ⟨b, o + (Int.toNat c_) * 11 + (Int.toNat field) * 1, none⟩))] (obs := [.cell ⟨p_a_, 0, none⟩ (.slice al_a_.l_b a_.l.length al_a_.l_c), .p ((al_a_.l_b : Option Addr) = some ⟨b, o, none⟩), .p (0 ≤ (c_ : Int) ∧ (c_ : Int) < ((a_.l.length : Nat) : Int)), .p (0 ≤ (field : Int) ∧ (field : Int) < ((10 : Nat) : Int))]) ⟨H.cell 0 rfl rfl, hs, hb, in_spec eu, trivial⟩ fun a hE => ?_
  obtain ⟨y, ey, hm⟩ := bind_some hm
  refine WR.eff0 hE rfl rfl rfl (OpTo.storeSl (q := (Int.toNat field) * 1) (x' := y) hE H.t1 arena_cell.enc_ok rfl hs ex rfl rfl rfl rfl rfl (by have := in_spec eu; show (Int.toNat field) * 1 + 1 ≤ 11; omega) (arena_cell.set_f_spec ey)) ?_
  rintro _ w H a hE
  rw [← mSet_len a_.l c_ y] at H
  refine WR.done rfl ?_
  refine Runs.sr ?_
  refine WR.e0 hE [(8, .bool true)] fun a hE => ?_
  replace H := arena_Arena.shut al_a_ (arena_Arena.mk (mSet a_.l c_ y) a_.never a_.free t_) H.t3.t3.t2.t3
  refine Runs.ret hE Tryz.func152 rfl rfl ?_
  cases hm
  exact ⟨rfl, rfl, H⟩

theorem item_New_ok {w0 w : World} {As : List HP} {p_a_ : Nat} {al_a_ : arena_Arena.A} {a_ : arena_Arena} {key : Int} {serial : Int} {t : Int × Bool × arena_Arena}  (hm : item_New a_ key serial = some t) (H : St w0 (arena_Arena.R p_a_ al_a_ a_ :: As) w) :
    CallsR Tryz.prog 105 #[.pointer (some ⟨p_a_, 0, none⟩), .int .i64 key, .int .i64 serial] w fun v w' => ∃ (z_a__free_b : Option Addr), ∃ (z_a__free_c : Nat), v = .tuple #[.int .i64 t.1, .bool t.2.1] ∧ St w0 (arena_Arena.R p_a_ (arena_Arena.A.mk al_a_.l_b al_a_.l_c z_a__free_b z_a__free_c al_a_.m__p) t.2.2 :: As) w' := by
 rw [item_New] at hm
 refine enter (args := [.pointer (some ⟨p_a_, 0, none⟩), .int .i64 key, .int .i64 serial]) Tryz.func105 rfl rfl rfl fun a hE => ?_
 refine Runs.sr ?_
 refine WR.seg hE 2 [] [0, 1, 2] (Lo := [(0, .pointer (some ⟨p_a_, 0, none⟩)), (1, .int .i64 key), (2, .int .i64 serial)]) (obs := []) rfl (by kernel_rfl) trivial fun a hE => ?_
 refine WR.done rfl ?_
 refine Runs.seq ?_
 refine Runs.sr ?_
 refine WR.e0 hE [(11, .bool false)] fun a hE => ?_
 refine Runs.condF hE rfl ?_
 refine Runs.skip ?_
 refine Runs.sr ?_
 refine WR.d0 hE 1 [(13, .pointer (some ⟨p_a_, 0, none⟩))] fun a hE => ?_
 obtain ⟨t_, et_, hm⟩ := bind_some hm
 refine WR.eff hE rfl rfl rfl rfl (OpTo.fn hE rfl rfl Tryz.call151 (arena_Arena_Take_ok et_ H)) ?_
 rintro _ w ⟨z, z1, rfl, H⟩ a hE
 refine WR.e0 hE [(8, .int .i64 t_.1), (9, .bool t_.2.1)] fun a hE => ?_
 refine Runs.seq ?_
 refine Runs.sr ?_
 refine WR.e0 hE [(17, .bool t_.2.1)] fun a hE => ?_
 obtain ⟨s, es, hm⟩ := bind_some hm
 refine Runs.join (fun a w => EnvOk 28 a [(8, .int .i64 t_.1), (9, .bool t_.2.1)] ∧ St w0 (arena_Arena.R p_a_ (arena_Arena.A.mk al_a_.l_b al_a_.l_c z z1 al_a_.m__p) s :: As) w) (fun hk => ?_) ?_
 ·replace hm := es; clear es
  refine Runs.cond hE rfl (fun c => ?_) (fun c => ?_)
  ·replace hm := cond_t c hm
   refine Runs.sr ?_
   refine WR.d0 hE 3 [(18, .pointer (some ⟨p_a_, 0, none⟩)), (19, .int .i64 t_.1), (20, .int .i64 key)] fun a hE => ?_
   obtain ⟨t_1, et_1, hm⟩ := bind_some hm
   refine WR.eff hE rfl rfl rfl rfl (OpTo.fn hE rfl rfl Tryz.call152 (arena_Arena_Set_ok et_1 H)) ?_
   rintro _ w ⟨rfl, hf, H⟩ a hE
   refine WR.done rfl ?_
   refine Runs.region ?_
   refine WR.d0 hE 3 [(22, .pointer (some ⟨p_a_, 0, none⟩)), (23, .int .i64 t_.1), (24, .int .i64 serial)] fun a hE => ?_
   obtain ⟨t_2, et_2, hm⟩ := bind_some hm
   refine WR.eff hE rfl rfl rfl rfl (OpTo.fn hE rfl rfl Tryz.call152 (arena_Arena_Set_ok et_2 H)) ?_
   rintro _ w ⟨rfl, hf1, H⟩ a hE
   refine WR.done rfl ?_
   cases hm
   exact hk _ _ ⟨hE.sel [8, 9] (by kernel_rfl), H⟩
  ·replace hm := cond_f c hm
   refine Runs.skip ?_
   cases hm
   exact hk _ _ ⟨hE.sel [8, 9] (by kernel_rfl), H⟩
 rintro a w ⟨hE, H⟩
 refine Runs.sr ?_
 refine WR.seg hE 4 [] [6, 7] (Lo := [(6, .int .i64 t_.1), (7, .bool t_.2.1)]) (obs := []) rfl (by kernel_rfl) trivial fun a hE => ?_
 refine WR.done rfl ?_
 refine Runs.ret hE Tryz.func105 rfl rfl ?_
 cases hm
 exact ⟨z, z1, rfl, H⟩

theorem leftist_Push_ok {w0 w : World} {As : List HP} {p_a_ : Nat} {al_a_ : arena_Arena.A} {a_ : arena_Arena} {r : Int} {i : Int} {t : Int × Bool}  (hm : leftist_Push a_ r i = some t) (H : St w0 (arena_Arena.R p_a_ al_a_ a_ :: As) w) :
    CallsR Tryz.prog 153 #[.pointer (some ⟨p_a_, 0, none⟩), .int .i64 r, .int .i64 i] w fun v w' => v = .tuple #[.int .i64 t.1, .bool t.2] ∧ St w0 (arena_Arena.R p_a_ al_a_ a_ :: As) w' := by
  rw [leftist_Push] at hm
  cases hm

theorem binomial_Push_ok {w0 w : World} {As : List HP} {p_a_ : Nat} {al_a_ : arena_Arena.A} {a_ : arena_Arena} {r : Int} {i : Int} {t : Int × Bool}  (hm : binomial_Push a_ r i = some t) (H : St w0 (arena_Arena.R p_a_ al_a_ a_ :: As) w) :
    CallsR Tryz.prog 154 #[.pointer (some ⟨p_a_, 0, none⟩), .int .i64 r, .int .i64 i] w fun v w' => v = .tuple #[.int .i64 t.1, .bool t.2] ∧ St w0 (arena_Arena.R p_a_ al_a_ a_ :: As) w' := by
  rw [binomial_Push] at hm
  cases hm

theorem item_Put_ok {w0 w : World} {As : List HP} {p_a_ : Nat} {al_a_ : arena_Arena.A} {a_ : arena_Arena} {n : Int} {i : Int} {t : arena_Arena}  (hm : item_Put a_ n i = some t) (H : St w0 (arena_Arena.R p_a_ al_a_ a_ :: As) w) :
    CallsR Tryz.prog 256 #[.pointer (some ⟨p_a_, 0, none⟩), .int .i64 n, .int .i64 i] w fun v w' => v = .tuple #[] ∧ t.free = a_.free ∧ St w0 (arena_Arena.R p_a_ al_a_ t :: As) w' := by
 rw [item_Put] at hm
 refine enter (args := [.pointer (some ⟨p_a_, 0, none⟩), .int .i64 n, .int .i64 i]) Tryz.func256 rfl rfl rfl fun a hE => ?_
 refine Runs.sr ?_
 refine WR.seg hE 2 [] [0, 1, 2, 7] (Lo := [(0, .pointer (some ⟨p_a_, 0, none⟩)), (1, .int .i64 n), (2, .int .i64 i), (7, .bool true)]) (obs := []) rfl (by kernel_rfl) trivial fun a hE => ?_
 refine WR.done rfl ?_
 refine Runs.condT hE rfl ?_
 refine Runs.sr ?_
 refine WR.d0 hE 3 [(8, .pointer (some ⟨p_a_, 0, none⟩)), (9, .int .i64 n), (10, .int .i64 i)] fun a hE => ?_
 obtain ⟨t_, et_, hm⟩ := bind_some hm
 refine WR.eff hE rfl rfl rfl rfl (OpTo.fn hE rfl rfl Tryz.call152 (arena_Arena_Set_ok et_ H)) ?_
 rintro _ w ⟨rfl, hf, H⟩ a hE
 refine WR.done rfl ?_
 refine Runs.region ?_
 refine WR.d0 hE 3 [(12, .pointer (some ⟨p_a_, 0, none⟩)), (13, .int .i64 i), (14, .int .i64 n)] fun a hE => ?_
 obtain ⟨t_1, et_1, hm⟩ := bind_some hm
 refine WR.eff hE rfl rfl rfl rfl (OpTo.fn hE rfl rfl Tryz.call152 (arena_Arena_Set_ok et_1 H)) ?_
 rintro _ w ⟨rfl, hf1, H⟩ a hE
 refine WR.done rfl ?_
 refine Runs.fin hE Tryz.func256 rfl rfl ?_
 cases hm
 exact ⟨rfl, (by simp only [hf1, hf]), H⟩

theorem node_New_ok {w0 w : World} {As : List HP} {p_a_ : Nat} {al_a_ : arena_Arena.A} {a_ : arena_Arena} {i : Int} {t : Int × Bool × arena_Arena}  (hm : node_New a_ i = some t) (H : St w0 (arena_Arena.R p_a_ al_a_ a_ :: As) w) :
    CallsR Tryz.prog 216 #[.pointer (some ⟨p_a_, 0, none⟩), .int .i64 i] w fun v w' => ∃ (z_a__free_b : Option Addr), ∃ (z_a__free_c : Nat), v = .tuple #[.int .i64 t.1, .bool t.2.1] ∧ St w0 (arena_Arena.R p_a_ (arena_Arena.A.mk al_a_.l_b al_a_.l_c z_a__free_b z_a__free_c al_a_.m__p) t.2.2 :: As) w' := by
 rw [node_New] at hm
 refine enter (args := [.pointer (some ⟨p_a_, 0, none⟩), .int .i64 i]) Tryz.func216 rfl rfl rfl fun a hE => ?_
 refine Runs.sr ?_
 refine WR.seg hE 2 [] [0, 1] (Lo := [(0, .pointer (some ⟨p_a_, 0, none⟩)), (1, .int .i64 i)]) (obs := []) rfl (by kernel_rfl) trivial fun a hE => ?_
 refine WR.done rfl ?_
 refine Runs.sr ?_
 refine WR.d0 hE 1 [(9, .pointer (some ⟨p_a_, 0, none⟩))] fun a hE => ?_
 obtain ⟨t_, et_, hm⟩ := bind_some hm
 refine WR.eff hE rfl rfl rfl rfl (OpTo.fn hE rfl rfl Tryz.call151 (arena_Arena_Take_ok et_ H)) ?_
 rintro _ w ⟨z, z1, rfl, H⟩ a hE
 refine WR.e0 hE [(6, .int .i64 t_.1), (7, .bool t_.2.1)] fun a hE => ?_
 refine Runs.seq ?_
 refine Runs.sr ?_
 refine WR.e0 hE [(13, .bool t_.2.1)] fun a hE => ?_
 obtain ⟨s, es, hm⟩ := bind_some hm
 refine Runs.join (fun a w => EnvOk 20 a [(6, .int .i64 t_.1), (7, .bool t_.2.1)] ∧ St w0 (arena_Arena.R p_a_ (arena_Arena.A.mk al_a_.l_b al_a_.l_c z z1 al_a_.m__p) s :: As) w) (fun hk => ?_) ?_
 ·replace hm := es; clear es
  refine Runs.cond hE rfl (fun c => ?_) (fun c => ?_)
  ·replace hm := cond_t c hm
   refine Runs.region ?_
   refine WR.d0 hE 3 [(14, .pointer (some ⟨p_a_, 0, none⟩)), (15, .int .i64 t_.1), (16, .int .i64 i)] fun a hE => ?_
   obtain ⟨t_1, et_1, hm⟩ := bind_some hm
   refine WR.eff hE rfl rfl rfl rfl (OpTo.fn hE rfl rfl Tryz.call256 (item_Put_ok et_1 H)) ?_
   rintro _ w ⟨rfl, hf, H⟩ a hE
   refine WR.done rfl ?_
   cases hm
   exact hk _ _ ⟨hE.sel [6, 7] (by kernel_rfl), H⟩
  ·replace hm := cond_f c hm
   refine Runs.skip ?_
   cases hm
   exact hk _ _ ⟨hE.sel [6, 7] (by kernel_rfl), H⟩
 rintro a w ⟨hE, H⟩
 refine Runs.sr ?_
 refine WR.seg hE 4 [] [4, 5] (Lo := [(4, .int .i64 t_.1), (5, .bool t_.2.1)]) (obs := []) rfl (by kernel_rfl) trivial fun a hE => ?_
 refine WR.done rfl ?_
 refine Runs.ret hE Tryz.func216 rfl rfl ?_
 cases hm
 exact ⟨z, z1, rfl, H⟩

theorem arena_Arena_Get_ok {w0 w : World} {As : List HP} {p_a_ : Nat} {al_a_ : arena_Arena.A} {a_ : arena_Arena} {c_ : Int} {field : Int} {t : Int × arena_Arena}  (hm : arena_Arena_Get a_ c_ field = some t) (H : St w0 (arena_Arena.R p_a_ al_a_ a_ :: As) w) :
    CallsR Tryz.prog 174 #[.pointer (some ⟨p_a_, 0, none⟩), .int .i64 c_, .int .i64 field] w fun v w' => v = .int .i64 t.1 ∧ t.2.free = a_.free ∧ t.2.l = a_.l ∧ St w0 (arena_Arena.R p_a_ al_a_ t.2 :: As) w' := by
 rw [arena_Arena_Get] at hm
 refine enter (args := [.pointer (some ⟨p_a_, 0, none⟩), .int .i64 c_, .int .i64 field]) Tryz.func174 rfl rfl rfl fun a hE => ?_
 refine Runs.sr ?_
 refine WR.seg hE 1 [] [0, 1, 2] (Lo := [(0, .pointer (some ⟨p_a_, 0, none⟩)), (1, .int .i64 c_), (2, .int .i64 field)]) (obs := []) rfl (by kernel_rfl) trivial fun a hE => ?_
 refine WR.done rfl ?_
 refine Runs.sr ?_
 replace H := arena_Arena.open H
 refine WR.d hE 4 [.pointer (some ⟨al_a_.m__p, 0, none⟩)] [(10, .pointer (some ⟨al_a_.m__p, 0, none⟩))] (obs := [.cell ⟨p_a_, 3, none⟩ (.pointer (some ⟨al_a_.m__p, 0, none⟩))]) ⟨H.cell 0 rfl rfl, trivial⟩ fun a hE => ?_
 obtain ⟨t_, et_, hm⟩ := bind_some hm
 refine WR.eff hE rfl rfl rfl rfl (OpTo.fn hE rfl rfl Tryz.call213 (meter_Meter_Tick_ok et_ H.t3)) ?_
 rintro _ w ⟨rfl, H⟩ a hE
 refine WR.done rfl ?_
 refine Runs.seq ?_
 refine Runs.sr ?_
 refine WR.d0 hE 3 [(12, .pointer (some ⟨p_a_, 0, none⟩)), (13, .int .i64 c_), (14, .int .i64 field)] fun a hE => ?_
 replace H := arena_Arena.shut al_a_ (arena_Arena.mk a_.l a_.never a_.free t_) H.t3.t3.t3
 obtain ⟨t_1, et_1, hm⟩ := bind_some hm
 refine WR.eff hE rfl rfl rfl rfl (OpTo.fn hE rfl rfl Tryz.call215 (arena_Arena_has_ok et_1 H)) ?_
 rintro _ w ⟨rfl, H⟩ a hE
 refine WR.e0 hE [(16, .bool (!t_1))] fun a hE => ?_
 refine Runs.cond hE rfl (fun c => ?_) (fun c => ?_)
 ·replace hm := cond_t c hm
  refine Runs.sr ?_
  refine WR.e0 hE [(6, .int .i64 (-1))] fun a hE => ?_
  refine Runs.ret hE Tryz.func174 rfl rfl ?_
  cases hm
  exact ⟨rfl, rfl, rfl, H⟩
 ·replace hm := cond_f c hm
  refine Runs.skip ?_
  refine Runs.sr ?_
  replace H := arena_Arena.open H
  try dsimp only at H
  obtain ⟨x, ex, hm⟩ := bind_some hm
  obtain ⟨b, o, hs, hb⟩ := SlRd.base (sl_rd 279 arena_cell.enc 11 _ _ _) arena_cell.enc_ok H 1 rfl ex
  obtain ⟨u, eu, hm⟩ := bind_some hm
  obtain ⟨v_, ev_, hm⟩ := bind_some hm
  refine WR.e hE [.slice al_a_.l_b a_.l.length al_a_.l_c, .pointer (some ⟨b, o, none⟩), .int .i64 v_] [(6, .int .i64 v_)] (obs := [.cell ⟨p_a_, 0, none⟩ (.slice al_a_.l_b a_.l.length al_a_.l_c), .p ((al_a_.l_b : Option Addr) = some ⟨b, o, none⟩), .p (0 ≤ (c_ : Int) ∧ (c_ : Int) < ((a_.l.length : Nat) : Int)), .p (0 ≤ (field : Int) ∧ (field : Int) < ((10 : Nat) : Int)), .cell ⟨b, o + (Int.toNat c_) * 11 + (Int.toNat field) * 1, none⟩ (.int .i64 v_)]) ⟨H.cell 0 rfl rfl, hs, hb, in_spec eu, SlRd.cells (sl_rd 279 arena_cell.enc 11 _ _ _) arena_cell.enc_ok H 1 rfl hs ex ((Int.toNat field) * 1) _ (arena_cell.get_f_spec ev_), trivial⟩ fun a hE => ?_
  replace H := arena_Arena.shut al_a_ (arena_Arena.mk a_.l a_.never a_.free t_) H.t3.t3.t3.t3
  refine Runs.ret hE Tryz.func174 rfl rfl ?_
  cases hm
  exact ⟨rfl, rfl, rfl, H⟩

theorem arena_Arena_Cell_ok {w0 w : World} {As : List HP} {p_a_ : Nat} {al_a_ : arena_Arena.A} {a_ : arena_Arena} {c_ : Int} {field : Int} {t : Int × arena_Arena}  (hm : arena_Arena_Cell a_ c_ field = some t) (H : St w0 (arena_Arena.R p_a_ al_a_ a_ :: As) w) :
    CallsR Tryz.prog 225 #[.pointer (some ⟨p_a_, 0, none⟩), .int .i64 c_, .int .i64 field] w fun v w' => v = .int .i64 t.1 ∧ St w0 (arena_Arena.R p_a_ al_a_ t.2 :: As) w' := by
 rw [arena_Arena_Cell] at hm
 refine enter (args := [.pointer (some ⟨p_a_, 0, none⟩), .int .i64 c_, .int .i64 field]) Tryz.func225 rfl rfl rfl fun a hE => ?_
 refine Runs.sr ?_
 refine WR.seg hE 1 [] [0, 1, 2] (Lo := [(0, .pointer (some ⟨p_a_, 0, none⟩)), (1, .int .i64 c_), (2, .int .i64 field)]) (obs := []) rfl (by kernel_rfl) trivial fun a hE => ?_
 refine WR.done rfl ?_
 refine Runs.sr ?_
 refine WR.d0 hE 3 [(8, .pointer (some ⟨p_a_, 0, none⟩)), (9, .int .i64 c_), (10, .int .i64 field)] fun a hE => ?_
 obtain ⟨t_, et_, hm⟩ := bind_some hm
 refine WR.eff hE rfl rfl rfl rfl (OpTo.fn hE rfl rfl Tryz.call174 (arena_Arena_Get_ok et_ H)) ?_
 rintro _ w ⟨rfl, hf1, hf, H⟩ a hE
 refine WR.e0 hE [(7, .int .i64 t_.1)] fun a hE => ?_
 refine Runs.seq ?_
 refine Runs.seq ?_
 obtain ⟨s, es, hm⟩ := bind_some hm
 refine Runs.join (fun a w => EnvOk 24 a [(7, .int .i64 t_.1), (22, .bool s.1)] ∧ St w0 (arena_Arena.R p_a_ al_a_ s.2 :: As) w) (fun hk => ?_) ?_
 ·replace hm := es; clear es
  refine Runs.region ?_
  refine WR.d0 hE 3 [(14, .bool (decide (t_.1 < 0)))] fun a hE => ?_
  rcases Bool.eq_false_or_eq_true (decide (t_.1 < 0)) with c | c
  ·replace hE := hE.dec 14 c (by kernel_rfl)
   replace hm := cond_t c hm
   have c_1 := c
   refine WR.e0 hE [(22, .bool true)] fun a hE => ?_
   cases hm
   exact hk _ _ ⟨hE.sel [7, 22] (by kernel_rfl), H⟩
  ·replace hE := hE.dec 14 c (by kernel_rfl)
   replace hm := cond_f c hm
   have c_2 := c
   replace H := arena_Arena.open H
   try rw [hf] at H
   try rw [hf1] at H
   try dsimp only at H
   refine WR.e hE [.slice al_a_.l_b a_.l.length al_a_.l_c] [(22, .bool (decide (t_.1 ≥ (a_.l.length : Int))))] (obs := [.cell ⟨p_a_, 0, none⟩ (.slice al_a_.l_b a_.l.length al_a_.l_c)]) ⟨H.cell 0 rfl rfl, trivial⟩ fun a hE => ?_
   replace H := arena_Arena.shut al_a_ (arena_Arena.mk a_.l t_.2.never a_.free t_.2.m_) H.t3.t3.t3.t3
   cases hm
   exact hk _ _ ⟨hE.sel [7, 22] (by kernel_rfl), H⟩
 rintro a w ⟨hE, H⟩
 refine Runs.cond hE rfl (fun c => ?_) (fun c => ?_)
 ·replace hm := cond_t c hm
  refine Runs.sr ?_
  refine WR.seg hE 1 [] [6] (Lo := [(6, .int .i64 (-1))]) (obs := []) rfl (by kernel_rfl) trivial fun a hE => ?_
  refine WR.done rfl ?_
  refine Runs.ret hE Tryz.func225 rfl rfl ?_
  cases hm
  exact ⟨rfl, H⟩
 ·replace hm := cond_f c hm
  refine Runs.skip ?_
  refine Runs.sr ?_
  refine WR.seg hE 2 [] [6] (Lo := [(6, .int .i64 t_.1)]) (obs := []) rfl (by kernel_rfl) trivial fun a hE => ?_
  refine WR.done rfl ?_
  refine Runs.ret hE Tryz.func225 rfl rfl ?_
  cases hm
  exact ⟨rfl, H⟩

theorem item_Entry_ok {w0 w : World} {As : List HP} {p_a_ : Nat} {al_a_ : arena_Arena.A} {a_ : arena_Arena} {i : Int} {t : api_Entry × arena_Arena}  (hm : item_Entry a_ i = some t) (H : St w0 (arena_Arena.R p_a_ al_a_ a_ :: As) w) :
    CallsR Tryz.prog 298 #[.pointer (some ⟨p_a_, 0, none⟩), .int .i64 i] w fun v w' => v = .agg #[.int .i64 t.1.Key, .int .i64 t.1.Serial] ∧ t.2.free = a_.free ∧ t.2.l = a_.l ∧ St w0 (arena_Arena.R p_a_ al_a_ t.2 :: As) w' := by
 rw [item_Entry] at hm
 refine enter (args := [.pointer (some ⟨p_a_, 0, none⟩), .int .i64 i]) Tryz.func298 rfl rfl rfl fun a hE => ?_
 refine Runs.sr ?_
 refine WR.eff hE rfl rfl rfl rfl (OpTo.new hE H [] (.cells #[.int .i64 0, .int .i64 0] 84 (0, 0)) (fun r => .pointer (some ⟨r, 0, none⟩)) (obs := []) rfl (fun _ => by kernel_rfl) trivial) ?_
 rintro _ w ⟨r, rfl, H⟩ a hE
 refine WR.done rfl ?_
 refine Runs.seq ?_
 refine Runs.sr ?_
 refine WR.seg hE 2 [] [0, 1, 4, 6] (Lo := [(0, .pointer (some ⟨p_a_, 0, none⟩)), (1, .int .i64 i), (4, .pointer (some ⟨r, 0, none⟩)), (6, .bool false)]) (obs := []) rfl (by kernel_rfl) trivial fun a hE => ?_
 refine WR.done rfl ?_
 refine Runs.condF hE rfl ?_
 refine Runs.skip ?_
 refine Runs.sr ?_
 refine WR.d0 hE 2 [(8, .pointer (some ⟨p_a_, 0, none⟩)), (9, .int .i64 i)] fun a hE => ?_
 obtain ⟨t_, et_, hm⟩ := bind_some hm
 refine WR.eff hE rfl rfl rfl rfl (OpTo.fn hE rfl rfl Tryz.call174 (arena_Arena_Get_ok et_ H.t1)) ?_
 rintro _ w ⟨rfl, hf1, hf, H⟩ a hE
 refine WR.d0 hE 5 [(11, .pointer (some ⟨p_a_, 0, none⟩)), (12, .int .i64 i)] fun a hE => ?_
 obtain ⟨t_1, et_1, hm⟩ := bind_some hm
 refine WR.eff hE rfl rfl rfl rfl (OpTo.fn hE rfl rfl Tryz.call174 (arena_Arena_Get_ok et_1 H)) ?_
 rintro _ w ⟨rfl, hf3, hf2, H⟩ a hE
 refine WR.d0 hE 7 [(14, .agg #[.int .i64 t_.1, .int .i64 t_1.1])] fun a hE => ?_
 refine WR.eff0 hE rfl rfl rfl (OpTo.store hE H.t1 rfl rfl rfl rfl rfl rfl (Nat.le_of_ble_eq_true rfl)) ?_
 rintro _ w H a hE
 refine WR.done rfl ?_
 refine Runs.retO (vs := [.agg #[.int .i64 t_.1, .int .i64 t_1.1]]) (obs := [.cell ⟨r, 0, none⟩ (.int .i64 t_.1), .cell ⟨r, 1, none⟩ (.int .i64 t_1.1)]) hE Tryz.func298 rfl [.int .i64 t_.1, .int .i64 t_1.1] (by kernel_rfl) ⟨H.cell 0 rfl rfl, H.cell 0 rfl rfl, trivial⟩ ?_
 cases hm
 exact ⟨rfl, (by simp only [hf2, hf3, hf, hf1]), (by simp only [hf2, hf3, hf, hf1]), H.x0⟩

theorem cmp_isNaN_int64_ok {w0 w : World} {As : List HP} {x : Int} {t : Bool}  (hm : cmp_isNaN_int64 x = some t) (H : St w0 (As) w) :
    CallsR Tryz.prog 255 #[.int .i64 x] w fun v w' => v = .bool t ∧ St w0 (As) w' := by
 rw [cmp_isNaN_int64] at hm
 refine enter (args := [.int .i64 x]) Tryz.func255 rfl rfl rfl fun a hE => ?_
 refine Runs.sr ?_
 refine WR.seg hE 1 [] [0] (Lo := [(0, .int .i64 x)]) (obs := []) rfl (by kernel_rfl) trivial fun a hE => ?_
 refine WR.done rfl ?_
 refine Runs.sr ?_
 refine WR.e0 hE [(2, .bool (x != x))] fun a hE => ?_
 refine Runs.ret hE Tryz.func255 rfl rfl ?_
 cases hm
 exact ⟨rfl, H⟩

theorem cmp_Compare_int64_ok {w0 w : World} {As : List HP} {x : Int} {y : Int} {t : Int}  (hm : cmp_Compare_int64 x y = some t) (H : St w0 (As) w) :
    CallsR Tryz.prog 208 #[.int .i64 x, .int .i64 y] w fun v w' => v = .int .i64 t ∧ St w0 (As) w' := by
 rw [cmp_Compare_int64] at hm
 refine enter (args := [.int .i64 x, .int .i64 y]) Tryz.func208 rfl rfl rfl fun a hE => ?_
 refine Runs.sr ?_
 refine WR.seg hE 1 [] [0, 1] (Lo := [(0, .int .i64 x), (1, .int .i64 y)]) (obs := []) rfl (by kernel_rfl) trivial fun a hE => ?_
 refine WR.done rfl ?_
 refine Runs.sr ?_
 refine WR.d0 hE 1 [(7, .int .i64 x)] fun a hE => ?_
 obtain ⟨t_, et_, hm⟩ := bind_some hm
 refine WR.eff hE rfl rfl rfl rfl (OpTo.fn hE rfl rfl Tryz.call255 (cmp_isNaN_int64_ok et_ H)) ?_
 rintro _ w ⟨rfl, H⟩ a hE
 refine WR.e0 hE [(5, .bool t_)] fun a hE => ?_
 refine Runs.sr ?_
 refine WR.d0 hE 1 [(9, .int .i64 y)] fun a hE => ?_
 obtain ⟨t_1, et_1, hm⟩ := bind_some hm
 refine WR.eff hE rfl rfl rfl rfl (OpTo.fn hE rfl rfl Tryz.call255 (cmp_isNaN_int64_ok et_1 H)) ?_
 rintro _ w ⟨rfl, H⟩ a hE
 refine WR.e0 hE [(6, .bool t_1)] fun a hE => ?_
 refine Runs.seq ?_
 refine Runs.sr ?_
 refine WR.e0 hE [(11, .bool t_)] fun a hE => ?_
 refine Runs.cond hE rfl (fun c => ?_) (fun c => ?_)
 ·replace hm := cond_t c hm
  refine Runs.seq ?_
  refine Runs.sr ?_
  refine WR.e0 hE [(12, .bool t_1)] fun a hE => ?_
  refine Runs.cond hE rfl (fun c => ?_) (fun c => ?_)
  ·replace hm := cond_t c hm
   refine Runs.sr ?_
   refine WR.e0 hE [(4, .int .i64 0)] fun a hE => ?_
   refine Runs.ret hE Tryz.func208 rfl rfl ?_
   cases hm
   exact ⟨rfl, H⟩
  ·replace hm := cond_f c hm
   refine Runs.skip ?_
   refine Runs.sr ?_
   refine WR.e0 hE [(4, .int .i64 (-1))] fun a hE => ?_
   refine Runs.ret hE Tryz.func208 rfl rfl ?_
   cases hm
   exact ⟨rfl, H⟩
 ·replace hm := cond_f c hm
  refine Runs.skip ?_
  refine Runs.seq ?_
  refine Runs.sr ?_
  refine WR.e0 hE [(13, .bool t_1)] fun a hE => ?_
  refine Runs.cond hE rfl (fun c => ?_) (fun c => ?_)
  ·replace hm := cond_t c hm
   refine Runs.sr ?_
   refine WR.e0 hE [(4, .int .i64 1)] fun a hE => ?_
   refine Runs.ret hE Tryz.func208 rfl rfl ?_
   cases hm
   exact ⟨rfl, H⟩
  ·replace hm := cond_f c hm
   refine Runs.skip ?_
   refine Runs.seq ?_
   refine Runs.sr ?_
   refine WR.e0 hE [(16, .bool (decide (x < y)))] fun a hE => ?_
   refine Runs.cond hE rfl (fun c => ?_) (fun c => ?_)
   ·replace hm := cond_t c hm
    refine Runs.sr ?_
    refine WR.e0 hE [(4, .int .i64 (-1))] fun a hE => ?_
    refine Runs.ret hE Tryz.func208 rfl rfl ?_
    cases hm
    exact ⟨rfl, H⟩
   ·replace hm := cond_f c hm
    refine Runs.skip ?_
    refine Runs.seq ?_
    refine Runs.sr ?_
    refine WR.e0 hE [(19, .bool (decide (x > y)))] fun a hE => ?_
    refine Runs.cond hE rfl (fun c => ?_) (fun c => ?_)
    ·replace hm := cond_t c hm
     refine Runs.sr ?_
     refine WR.e0 hE [(4, .int .i64 1)] fun a hE => ?_
     refine Runs.ret hE Tryz.func208 rfl rfl ?_
     cases hm
     exact ⟨rfl, H⟩
    ·replace hm := cond_f c hm
     refine Runs.skip ?_
     refine Runs.sr ?_
     refine WR.e0 hE [(4, .int .i64 0)] fun a hE => ?_
     refine Runs.ret hE Tryz.func208 rfl rfl ?_
     cases hm
     exact ⟨rfl, H⟩

theorem cmp_Or_int_ok {w0 w : World} {As : List HP} {k : Nat} {sb_vals : Option Addr} {sc_vals : Nat} {vals : List Int} {X_vals : HP} {t : Int} (hX_vals : SlRd X_vals ecI 1 sb_vals vals) (hC_vals : vals.length ≤ sc_vals) (hm : cmp_Or_int k vals = some t) (H : St w0 (X_vals :: As) w) :
    CallsR Tryz.prog 207 #[.slice sb_vals vals.length sc_vals] w fun v w' => v = .int .i64 t ∧ St w0 (X_vals :: As) w' := by
 rw [cmp_Or_int] at hm
 refine enter (args := [.slice sb_vals vals.length sc_vals]) Tryz.func207 rfl rfl rfl fun a hE => ?_
 refine Runs.sr ?_
 refine WR.seg hE 1 [] [0] (Lo := [(0, .slice sb_vals vals.length sc_vals)]) (obs := []) rfl (by kernel_rfl) trivial fun a hE => ?_
 refine WR.done rfl ?_
 refine Runs.sr ?_
 refine WR.e0 hE [(3, .int .i64 0)] fun a hE => ?_
 refine Runs.seq ?_
 refine Runs.sr ?_
 refine WR.e0 hE [(6, .slice sb_vals vals.length sc_vals), (7, .int .i64 (vals.length : Int)), (8, .int .i64 0)] fun a hE => ?_
 obtain ⟨s, es, hR⟩ := bind_some hm
 refine Runs.join (fun a w => ∃ s1, s = Sum.inr s1 ∧ EnvOk 18 a [(3, .int .i64 0)] ∧ St w0 (X_vals :: As) w) (fun hk => ?_) ?_
 ·replace hm := es; clear es
  refine Runs.block ?_
  refine Runs.loop (fun m a w => ∃ (x : Int), EnvOk 18 a [(3, .int .i64 0), (6, .slice sb_vals vals.length sc_vals), (7, .int .i64 (vals.length : Int)), (8, .int .i64 x)] ∧ St w0 (X_vals :: As) w ∧ cmp_Or_int_l0 (vals.length : Int) vals m x = some s) k ⟨0, hE.sel [3, 6, 7, 8] (by kernel_rfl), H, hm⟩ ?_
  rintro m ih a w ⟨x, hE, H, hm⟩
  cases m with
  | zero => simp [cmp_Or_int_l0] at hm
  | succ m =>
   rw [cmp_Or_int_l0] at hm
   refine Runs.sr ?_
   refine WR.seg hE 1 [] [3, 6, 7, 8, 9] (Lo := [(3, .int .i64 0), (6, .slice sb_vals vals.length sc_vals), (7, .int .i64 (vals.length : Int)), (8, .int .i64 x), (9, .bool (decide (x < (vals.length : Int))))]) (obs := []) rfl (by kernel_rfl) trivial fun a hE => ?_
   refine WR.done rfl ?_
   refine Runs.seq ?_
   refine Runs.cond hE rfl (fun c => ?_) (fun c => ?_)
   ·replace hm := cond_t c hm
    refine Runs.skip ?_
    refine Runs.seq ?_
    refine Runs.block ?_
    refine Runs.sr ?_
    obtain ⟨x2, ex2, hm⟩ := bind_some hm
    obtain ⟨b, o, hs, hb⟩ := SlRd.base hX_vals ecI_ok H 0 rfl ex2
    refine WR.e hE [.pointer (some ⟨b, o, none⟩), .int .i64 x2] [(5, .int .i64 x2)] (obs := [.p ((sb_vals : Option Addr) = some ⟨b, o, none⟩), .p (0 ≤ (x : Int) ∧ (x : Int) < ((vals.length : Nat) : Int)), .cell ⟨b, o + (Int.toNat x) * 1, none⟩ (.int .i64 x2)]) ⟨hs, hb, SlRd.cells hX_vals ecI_ok H 0 rfl hs ex2 0 _ rfl, trivial⟩ fun a hE => ?_
    refine Runs.sr ?_
    refine WR.e0 hE [(14, .bool (x2 != 0))] fun a hE => ?_
    refine Runs.cond hE rfl (fun c => ?_) (fun c => ?_)
    ·replace hm := cond_t c hm
     refine Runs.sr ?_
     refine WR.e0 hE [(2, .int .i64 x2)] fun a hE => ?_
     refine Runs.ret hE Tryz.func207 rfl rfl ?_
     cases hm
     dsimp only at hR; cases hR
     exact ⟨rfl, H⟩
    ·replace hm := cond_f c hm
     refine Runs.skip ?_
     refine Runs.inBlock ?_
     refine Runs.region ?_
     refine WR.e0 hE [(8, .int .i64 (w64 (x + 1)))] fun a hE => ?_
     exact ih m (Nat.lt_succ_self m) _ _ ⟨w64 (x + 1), hE.sel [3, 6, 7, 8] (by kernel_rfl), H, hm⟩
   ·replace hm := cond_f c hm
    refine Runs.exit rfl ?_
    cases hm
    exact hk _ _ ⟨_, rfl, hE.sel [3] (by kernel_rfl), H⟩
 rintro a w ⟨s1, rfl, hE, H⟩
 replace hm := hR; dsimp only at hm
 refine Runs.sr ?_
 refine WR.seg hE 2 [] [2] (Lo := [(2, .int .i64 0)]) (obs := []) rfl (by kernel_rfl) trivial fun a hE => ?_
 refine WR.done rfl ?_
 refine Runs.ret hE Tryz.func207 rfl rfl ?_
 cases hm
 exact ⟨rfl, H⟩

theorem order_Compare_ok {w0 w : World} {As : List HP} {k : Nat} {a_ : api_Entry} {b : api_Entry} {t : Int}  (hm : order_Compare k a_ b = some t) (H : St w0 (As) w) :
    CallsR Tryz.prog 142 #[.agg #[.int .i64 a_.Key, .int .i64 a_.Serial], .agg #[.int .i64 b.Key, .int .i64 b.Serial]] w fun v w' => v = .int .i64 t ∧ St w0 (As) w' := by
 rw [order_Compare] at hm
 refine enter (args := [.agg #[.int .i64 a_.Key, .int .i64 a_.Serial], .agg #[.int .i64 b.Key, .int .i64 b.Serial]]) Tryz.func142 rfl rfl rfl fun a hE => ?_
 refine Runs.sr ?_
 refine WR.eff hE rfl rfl rfl rfl (OpTo.new hE H [] (.cells #[.int .i64 a_.Key, .int .i64 a_.Serial] 84 (0, 0)) (fun r => .pointer (some ⟨r, 0, none⟩)) (obs := []) rfl (fun _ => by kernel_rfl) trivial) ?_
 rintro _ w ⟨r, rfl, H⟩ a hE
 refine WR.eff hE rfl rfl rfl rfl (OpTo.new hE H [] (.cells #[.int .i64 b.Key, .int .i64 b.Serial] 84 (0, 0)) (fun r => .pointer (some ⟨r, 0, none⟩)) (obs := []) rfl (fun _ => by kernel_rfl) trivial) ?_
 rintro _ w ⟨r1, rfl, H⟩ a hE
 refine WR.seg hE 3 [] [2, 3] (Lo := [(2, .pointer (some ⟨r, 0, none⟩)), (3, .pointer (some ⟨r1, 0, none⟩))]) (obs := []) rfl (by kernel_rfl) trivial fun a hE => ?_
 refine WR.done rfl ?_
 refine Runs.seq ?_
 refine Runs.drawn mixed (by kernel_rfl) ?_
 replace H := H.drew
 refine WQ.d hE [0, 1, 2, 3, 5, 6, 7, 8] [.int .i64 a_.Key, .int .i64 b.Key, .int .i64 a_.Serial, .int .i64 b.Serial] [(6, .int .i64 a_.Key), (8, .int .i64 b.Key), (11, .int .i64 a_.Serial), (13, .int .i64 b.Serial)] (obs := [.cell ⟨r, 0, none⟩ (.int .i64 a_.Key), .cell ⟨r1, 0, none⟩ (.int .i64 b.Key), .cell ⟨r, 1, none⟩ (.int .i64 a_.Serial), .cell ⟨r1, 1, none⟩ (.int .i64 b.Serial)]) ⟨H.cell 1 rfl rfl, H.cell 0 rfl rfl, H.cell 1 rfl rfl, H.cell 0 rfl rfl, trivial⟩ fun a hE => ?_
 obtain ⟨t_, et_, hm⟩ := bind_some hm
 refine WQ.eff (j := 4) (obs := [.cell ⟨r1, 1, none⟩ (.int .i64 b.Serial), .cell ⟨r, 1, none⟩ (.int .i64 a_.Serial)]) hE (by kernel_rfl) rfl rfl rfl rfl (by kernel_rfl) (OpTo.fn hE rfl rfl Tryz.call208 (cmp_Compare_int64_ok et_ H)) ?_
 rintro _ w ⟨rfl, H⟩
 refine ⟨⟨H.cell 0 rfl rfl, H.cell 1 rfl rfl, trivial⟩, fun a hE => ?_⟩
 obtain ⟨t_1, et_1, hm⟩ := bind_some hm
 refine WQ.eff (j := 9) (obs := []) hE (by kernel_rfl) rfl rfl rfl rfl (by kernel_rfl) (OpTo.fn hE rfl rfl Tryz.call208 (cmp_Compare_int64_ok et_1 H)) ?_
 rintro _ w ⟨rfl, H⟩
 refine ⟨trivial, fun a hE => ?_⟩
 refine WQ.eff (j := 10) (obs := []) hE (by kernel_rfl) rfl rfl rfl rfl (by kernel_rfl) (OpTo.buildSl (T := 3) hE H ecI_ok ([t_, t_1] : List Int) rfl (fun _ => by kernel_rfl) rfl rfl rfl) ?_
 rintro _ w ⟨r2, rfl, H⟩
 refine ⟨trivial, fun a hE => ?_⟩
 obtain ⟨t_2, et_2, hm⟩ := bind_some hm
 refine WQ.eff (j := 11) (obs := []) hE (by kernel_rfl) rfl rfl rfl rfl (by kernel_rfl) (OpTo.fn hE rfl rfl Tryz.call207 (cmp_Or_int_ok (hX_vals := (sl_rd 3 ecI 1 _ _ _)) (hC_vals := (H.slCap 0 rfl).1) et_2 H)) ?_
 rintro _ w ⟨rfl, H⟩
 refine ⟨trivial, fun a hE => ?_⟩
 refine WQ.d0 hE [12] [(4, .int .i64 t_2)] fun a hE => ?_
 refine WQ.done (by kernel_rfl) ?_
 refine Runs.ret hE Tryz.func142 rfl rfl ?_
 cases hm
 exact ⟨rfl, H.x2.x1.x0⟩

theorem item_Before_ok {w0 w : World} {As : List HP} {k : Nat} {p_a_ : Nat} {al_a_ : arena_Arena.A} {a_ : arena_Arena} {i : Int} {j : Int} {t : Bool × arena_Arena}  (hm : item_Before k a_ i j = some t) (H : St w0 (arena_Arena.R p_a_ al_a_ a_ :: As) w) :
    CallsR Tryz.prog 277 #[.pointer (some ⟨p_a_, 0, none⟩), .int .i64 i, .int .i64 j] w fun v w' => v = .bool t.1 ∧ t.2.free = a_.free ∧ t.2.l = a_.l ∧ St w0 (arena_Arena.R p_a_ al_a_ t.2 :: As) w' := by
 rw [item_Before] at hm
 refine enter (args := [.pointer (some ⟨p_a_, 0, none⟩), .int .i64 i, .int .i64 j]) Tryz.func277 rfl rfl rfl fun a hE => ?_
 refine Runs.sr ?_
 refine WR.seg hE 1 [] [0, 1, 2] (Lo := [(0, .pointer (some ⟨p_a_, 0, none⟩)), (1, .int .i64 i), (2, .int .i64 j)]) (obs := []) rfl (by kernel_rfl) trivial fun a hE => ?_
 refine WR.done rfl ?_
 refine Runs.sr ?_
 refine WR.d0 hE 2 [(8, .pointer (some ⟨p_a_, 0, none⟩)), (9, .int .i64 i)] fun a hE => ?_
 obtain ⟨t_, et_, hm⟩ := bind_some hm
 refine WR.eff hE rfl rfl rfl rfl (OpTo.fn hE rfl rfl Tryz.call298 (item_Entry_ok et_ H)) ?_
 rintro _ w ⟨rfl, hf1, hf, H⟩ a hE
 refine WR.d0 hE 5 [(11, .pointer (some ⟨p_a_, 0, none⟩)), (12, .int .i64 j)] fun a hE => ?_
 obtain ⟨t_1, et_1, hm⟩ := bind_some hm
 refine WR.eff hE rfl rfl rfl rfl (OpTo.fn hE rfl rfl Tryz.call298 (item_Entry_ok et_1 H)) ?_
 rintro _ w ⟨rfl, hf3, hf2, H⟩ a hE
 obtain ⟨t_2, et_2, hm⟩ := bind_some hm
 refine WR.eff hE rfl rfl rfl rfl (OpTo.fn hE rfl rfl Tryz.call142 (order_Compare_ok et_2 H)) ?_
 rintro _ w ⟨rfl, H⟩ a hE
 refine WR.e0 hE [(7, .int .i64 t_2)] fun a hE => ?_
 refine Runs.seq ?_
 refine Runs.join (fun a w => EnvOk 26 a [(6, .bool ((decide (t_2 < 0)) || ((t_2 == 0) && (decide (i < j)))))] ∧ St w0 (arena_Arena.R p_a_ al_a_ t_1.2 :: As) w) (fun hk => ?_) ?_
 ·clear hm
  refine Runs.region ?_
  refine WR.d0 hE 3 [(17, .bool (decide (t_2 < 0)))] fun a hE => ?_
  rcases Bool.eq_false_or_eq_true (decide (t_2 < 0)) with c | c
  ·replace hE := hE.dec 17 c (by kernel_rfl)
   have c_ := c
   refine WR.e0 hE [(6, .bool true)] fun a hE => ?_
   refine hk _ _ ⟨?_, H⟩
   try rw [c_] at hE
   try rw [c_]
   exact hE.sel [6] (by kernel_rfl)
  ·replace hE := hE.dec 17 c (by kernel_rfl)
   have c_1 := c
   refine WR.d0 hE 6 [(17, .bool false), (20, .bool (t_2 == 0))] fun a hE => ?_
   rcases Bool.eq_false_or_eq_true (t_2 == 0) with c | c
   ·replace hE := hE.dec 20 c (by kernel_rfl)
    have c_2 := c
    refine WR.e0 hE [(6, .bool (decide (i < j)))] fun a hE => ?_
    refine hk _ _ ⟨?_, H⟩
    try rw [c_1] at hE
    try rw [c_1]
    try rw [c_2] at hE
    try rw [c_2]
    exact hE.sel [6] (by kernel_rfl)
   ·replace hE := hE.dec 20 c (by kernel_rfl)
    have c_3 := c
    refine WR.e0 hE [(6, .bool false)] fun a hE => ?_
    refine hk _ _ ⟨?_, H⟩
    try rw [c_1] at hE
    try rw [c_1]
    try rw [c_3] at hE
    try rw [c_3]
    exact hE.sel [6] (by kernel_rfl)
 rintro a w ⟨hE, H⟩
 refine Runs.ret hE Tryz.func277 rfl rfl ?_
 cases hm
 exact ⟨rfl, (by simp only [hf2, hf3, hf, hf1]), (by simp only [hf2, hf3, hf, hf1]), H⟩

theorem node_Before_ok {w0 w : World} {As : List HP} {k : Nat} {p_a_ : Nat} {al_a_ : arena_Arena.A} {a_ : arena_Arena} {n : Int} {m_ : Int} {t : Bool × arena_Arena}  (hm : node_Before k a_ n m_ = some t) (H : St w0 (arena_Arena.R p_a_ al_a_ a_ :: As) w) :
    CallsR Tryz.prog 239 #[.pointer (some ⟨p_a_, 0, none⟩), .int .i64 n, .int .i64 m_] w fun v w' => v = .bool t.1 ∧ St w0 (arena_Arena.R p_a_ al_a_ t.2 :: As) w' := by
 rw [node_Before] at hm
 refine enter (args := [.pointer (some ⟨p_a_, 0, none⟩), .int .i64 n, .int .i64 m_]) Tryz.func239 rfl rfl rfl fun a hE => ?_
 refine Runs.sr ?_
 refine WR.seg hE 1 [] [0, 1, 2] (Lo := [(0, .pointer (some ⟨p_a_, 0, none⟩)), (1, .int .i64 n), (2, .int .i64 m_)]) (obs := []) rfl (by kernel_rfl) trivial fun a hE => ?_
 refine WR.done rfl ?_
 refine Runs.sr ?_
 refine WR.d0 hE 3 [(7, .pointer (some ⟨p_a_, 0, none⟩)), (8, .pointer (some ⟨p_a_, 0, none⟩)), (9, .int .i64 n)] fun a hE => ?_
 obtain ⟨t_, et_, hm⟩ := bind_some hm
 refine WR.eff hE rfl rfl rfl rfl (OpTo.fn hE rfl rfl Tryz.call225 (arena_Arena_Cell_ok et_ H)) ?_
 rintro _ w ⟨rfl, H⟩ a hE
 refine WR.d0 hE 6 [(11, .pointer (some ⟨p_a_, 0, none⟩)), (12, .int .i64 m_)] fun a hE => ?_
 obtain ⟨t_1, et_1, hm⟩ := bind_some hm
 refine WR.eff hE rfl rfl rfl rfl (OpTo.fn hE rfl rfl Tryz.call225 (arena_Arena_Cell_ok et_1 H)) ?_
 rintro _ w ⟨rfl, H⟩ a hE
 obtain ⟨t_2, et_2, hm⟩ := bind_some hm
 refine WR.eff hE rfl rfl rfl rfl (OpTo.fn hE rfl rfl Tryz.call277 (item_Before_ok et_2 H)) ?_
 rintro _ w ⟨rfl, hf1, hf, H⟩ a hE
 refine WR.e0 hE [(6, .bool t_2.1)] fun a hE => ?_
 refine Runs.ret hE Tryz.func239 rfl rfl ?_
 cases hm
 exact ⟨rfl, H⟩

theorem trees_Under_ok {w0 w : World} {As : List HP} {p_a_ : Nat} {al_a_ : arena_Arena.A} {a_ : arena_Arena} {n : Int} {up : Int} {t : arena_Arena}  (hm : trees_Under a_ n up = some t) (H : St w0 (arena_Arena.R p_a_ al_a_ a_ :: As) w) :
    CallsR Tryz.prog 266 #[.pointer (some ⟨p_a_, 0, none⟩), .int .i64 n, .int .i64 up] w fun v w' => v = .tuple #[] ∧ St w0 (arena_Arena.R p_a_ al_a_ t :: As) w' := by
 rw [trees_Under] at hm
 refine enter (args := [.pointer (some ⟨p_a_, 0, none⟩), .int .i64 n, .int .i64 up]) Tryz.func266 rfl rfl rfl fun a hE => ?_
 refine Runs.sr ?_
 refine WR.seg hE 4 [] [0, 1, 2, 6, 7, 8, 9] (Lo := [(0, .pointer (some ⟨p_a_, 0, none⟩)), (1, .int .i64 n), (2, .int .i64 up), (6, .pointer (some ⟨p_a_, 0, none⟩)), (7, .int .i64 n), (8, .pointer (some ⟨p_a_, 0, none⟩)), (9, .int .i64 up)]) (obs := []) rfl (by kernel_rfl) trivial fun a hE => ?_
 obtain ⟨t_, et_, hm⟩ := bind_some hm
 refine WR.eff hE rfl rfl rfl rfl (OpTo.fn hE rfl rfl Tryz.call225 (arena_Arena_Cell_ok et_ H)) ?_
 rintro _ w ⟨rfl, H⟩ a hE
 obtain ⟨t_1, et_1, hm⟩ := bind_some hm
 refine WR.eff hE rfl rfl rfl rfl (OpTo.fn hE rfl rfl Tryz.call152 (arena_Arena_Set_ok et_1 H)) ?_
 rintro _ w ⟨rfl, hf, H⟩ a hE
 refine WR.done rfl ?_
 refine Runs.sr ?_
 refine WR.d0 hE 3 [(12, .pointer (some ⟨p_a_, 0, none⟩)), (13, .int .i64 n), (14, .int .i64 up)] fun a hE => ?_
 obtain ⟨t_2, et_2, hm⟩ := bind_some hm
 refine WR.eff hE rfl rfl rfl rfl (OpTo.fn hE rfl rfl Tryz.call152 (arena_Arena_Set_ok et_2 H)) ?_
 rintro _ w ⟨rfl, hf1, H⟩ a hE
 refine WR.done rfl ?_
 refine Runs.region ?_
 refine WR.d0 hE 3 [(16, .pointer (some ⟨p_a_, 0, none⟩)), (17, .int .i64 up), (18, .int .i64 n)] fun a hE => ?_
 obtain ⟨t_3, et_3, hm⟩ := bind_some hm
 refine WR.eff hE rfl rfl rfl rfl (OpTo.fn hE rfl rfl Tryz.call152 (arena_Arena_Set_ok et_3 H)) ?_
 rintro _ w ⟨rfl, hf2, H⟩ a hE
 refine WR.done rfl ?_
 refine Runs.fin hE Tryz.func266 rfl rfl ?_
 cases hm
 exact ⟨rfl, H⟩

theorem trees_Link_ok {w0 w : World} {As : List HP} {k : Nat} {p_a_ : Nat} {al_a_ : arena_Arena.A} {a_ : arena_Arena} {n : Int} {m_ : Int} {rank : Int} {t : Int × arena_Arena}  (hm : trees_Link k a_ n m_ rank = some t) (H : St w0 (arena_Arena.R p_a_ al_a_ a_ :: As) w) :
    CallsR Tryz.prog 261 #[.pointer (some ⟨p_a_, 0, none⟩), .int .i64 n, .int .i64 m_, .int .i64 rank] w fun v w' => v = .int .i64 t.1 ∧ St w0 (arena_Arena.R p_a_ al_a_ t.2 :: As) w' := by
 rw [trees_Link] at hm
 refine enter (args := [.pointer (some ⟨p_a_, 0, none⟩), .int .i64 n, .int .i64 m_, .int .i64 rank]) Tryz.func261 rfl rfl rfl fun a hE => ?_
 refine Runs.sr ?_
 refine WR.seg hE 1 [] [0, 1, 2, 3] (Lo := [(0, .pointer (some ⟨p_a_, 0, none⟩)), (1, .int .i64 n), (2, .int .i64 m_), (3, .int .i64 rank)]) (obs := []) rfl (by kernel_rfl) trivial fun a hE => ?_
 refine WR.done rfl ?_
 refine Runs.seq ?_
 refine Runs.sr ?_
 refine WR.d0 hE 3 [(9, .pointer (some ⟨p_a_, 0, none⟩)), (10, .int .i64 m_), (11, .int .i64 n)] fun a hE => ?_
 obtain ⟨t_, et_, hm⟩ := bind_some hm
 refine WR.eff hE rfl rfl rfl rfl (OpTo.fn hE rfl rfl Tryz.call239 (node_Before_ok et_ H)) ?_
 rintro _ w ⟨rfl, H⟩ a hE
 refine WR.done rfl ?_
 obtain ⟨s, es, hm⟩ := bind_some hm
 refine Runs.join (fun a w => EnvOk 25 a [(0, .pointer (some ⟨p_a_, 0, none⟩)), (1, .int .i64 s.1), (2, .int .i64 s.2), (3, .int .i64 rank)] ∧ St w0 (arena_Arena.R p_a_ al_a_ t_.2 :: As) w) (fun hk => ?_) ?_
 ·replace hm := es; clear es
  refine Runs.cond hE rfl (fun c => ?_) (fun c => ?_)
  ·replace hm := cond_t c hm
   refine Runs.region ?_
   refine WR.e0 hE [(1, .int .i64 m_), (2, .int .i64 n)] fun a hE => ?_
   cases hm
   exact hk _ _ ⟨hE.sel [0, 1, 2, 3] (by kernel_rfl), H⟩
  ·replace hm := cond_f c hm
   refine Runs.skip ?_
   cases hm
   exact hk _ _ ⟨hE.sel [0, 1, 2, 3] (by kernel_rfl), H⟩
 rintro a w ⟨hE, H⟩
 refine Runs.sr ?_
 refine WR.seg hE 3 [] [0, 1, 3, 15, 16, 17] (Lo := [(0, .pointer (some ⟨p_a_, 0, none⟩)), (1, .int .i64 s.1), (3, .int .i64 rank), (15, .pointer (some ⟨p_a_, 0, none⟩)), (16, .int .i64 s.2), (17, .int .i64 s.1)]) (obs := []) rfl (by kernel_rfl) trivial fun a hE => ?_
 obtain ⟨t_1, et_1, hm⟩ := bind_some hm
 refine WR.eff hE rfl rfl rfl rfl (OpTo.fn hE rfl rfl Tryz.call266 (trees_Under_ok et_1 H)) ?_
 rintro _ w ⟨rfl, H⟩ a hE
 refine WR.done rfl ?_
 refine Runs.sr ?_
 refine WR.d0 hE 4 [(19, .pointer (some ⟨p_a_, 0, none⟩)), (20, .int .i64 s.1), (22, .int .i64 (w64 (rank + 1)))] fun a hE => ?_
 obtain ⟨t_2, et_2, hm⟩ := bind_some hm
 refine WR.eff hE rfl rfl rfl rfl (OpTo.fn hE rfl rfl Tryz.call152 (arena_Arena_Set_ok et_2 H)) ?_
 rintro _ w ⟨rfl, hf, H⟩ a hE
 refine WR.done rfl ?_
 refine Runs.sr ?_
 refine WR.e0 hE [(8, .int .i64 s.1)] fun a hE => ?_
 refine Runs.ret hE Tryz.func261 rfl rfl ?_
 cases hm
 exact ⟨rfl, H⟩

theorem item_Swap_ok {w0 w : World} {As : List HP} {p_a_ : Nat} {al_a_ : arena_Arena.A} {a_ : arena_Arena} {n : Int} {m_ : Int} {t : arena_Arena}  (hm : item_Swap a_ n m_ = some t) (H : St w0 (arena_Arena.R p_a_ al_a_ a_ :: As) w) :
    CallsR Tryz.prog 265 #[.pointer (some ⟨p_a_, 0, none⟩), .int .i64 n, .int .i64 m_] w fun v w' => v = .tuple #[] ∧ St w0 (arena_Arena.R p_a_ al_a_ t :: As) w' := by
 rw [item_Swap] at hm
 refine enter (args := [.pointer (some ⟨p_a_, 0, none⟩), .int .i64 n, .int .i64 m_]) Tryz.func265 rfl rfl rfl fun a hE => ?_
 refine Runs.seq ?_
 refine Runs.sr ?_
 refine WR.seg hE 2 [] [0, 1, 2, 9] (Lo := [(0, .pointer (some ⟨p_a_, 0, none⟩)), (1, .int .i64 n), (2, .int .i64 m_), (9, .bool false)]) (obs := []) rfl (by kernel_rfl) trivial fun a hE => ?_
 refine WR.done rfl ?_
 refine Runs.condF hE rfl ?_
 refine Runs.skip ?_
 refine Runs.sr ?_
 refine WR.d0 hE 2 [(10, .pointer (some ⟨p_a_, 0, none⟩)), (11, .int .i64 n)] fun a hE => ?_
 obtain ⟨t_, et_, hm⟩ := bind_some hm
 refine WR.eff hE rfl rfl rfl rfl (OpTo.fn hE rfl rfl Tryz.call225 (arena_Arena_Cell_ok et_ H)) ?_
 rintro _ w ⟨rfl, H⟩ a hE
 refine WR.d0 hE 5 [(13, .pointer (some ⟨p_a_, 0, none⟩)), (14, .int .i64 m_)] fun a hE => ?_
 obtain ⟨t_1, et_1, hm⟩ := bind_some hm
 refine WR.eff hE rfl rfl rfl rfl (OpTo.fn hE rfl rfl Tryz.call225 (arena_Arena_Cell_ok et_1 H)) ?_
 rintro _ w ⟨rfl, H⟩ a hE
 refine WR.e0 hE [(6, .int .i64 t_.1), (7, .int .i64 t_1.1)] fun a hE => ?_
 refine Runs.sr ?_
 refine WR.d0 hE 3 [(16, .pointer (some ⟨p_a_, 0, none⟩)), (17, .int .i64 n), (18, .int .i64 t_1.1)] fun a hE => ?_
 obtain ⟨t_2, et_2, hm⟩ := bind_some hm
 refine WR.eff hE rfl rfl rfl rfl (OpTo.fn hE rfl rfl Tryz.call256 (item_Put_ok et_2 H)) ?_
 rintro _ w ⟨rfl, hf, H⟩ a hE
 refine WR.done rfl ?_
 refine Runs.region ?_
 refine WR.d0 hE 3 [(20, .pointer (some ⟨p_a_, 0, none⟩)), (21, .int .i64 m_), (22, .int .i64 t_.1)] fun a hE => ?_
 obtain ⟨t_3, et_3, hm⟩ := bind_some hm
 refine WR.eff hE rfl rfl rfl rfl (OpTo.fn hE rfl rfl Tryz.call256 (item_Put_ok et_3 H)) ?_
 rintro _ w ⟨rfl, hf1, H⟩ a hE
 refine WR.done rfl ?_
 refine Runs.fin hE Tryz.func265 rfl rfl ?_
 cases hm
 exact ⟨rfl, H⟩

theorem skew_single_ok {w0 w : World} {As : List HP} {k : Nat} {p_a_ : Nat} {al_a_ : arena_Arena.A} {a_ : arena_Arena} {r : Int} {n : Int} {t : Int × arena_Arena}  (hm : skew_single k a_ r n = some t) (H : St w0 (arena_Arena.R p_a_ al_a_ a_ :: As) w) :
    CallsR Tryz.prog 220 #[.pointer (some ⟨p_a_, 0, none⟩), .int .i64 r, .int .i64 n] w fun v w' => v = .int .i64 t.1 ∧ St w0 (arena_Arena.R p_a_ al_a_ t.2 :: As) w' := by
 rw [skew_single] at hm
 refine enter (args := [.pointer (some ⟨p_a_, 0, none⟩), .int .i64 r, .int .i64 n]) Tryz.func220 rfl rfl rfl fun a hE => ?_
 refine Runs.sr ?_
 refine WR.seg hE 1 [] [0, 1, 2] (Lo := [(0, .pointer (some ⟨p_a_, 0, none⟩)), (1, .int .i64 r), (2, .int .i64 n)]) (obs := []) rfl (by kernel_rfl) trivial fun a hE => ?_
 refine WR.done rfl ?_
 refine Runs.sr ?_
 refine WR.e0 hE [(7, .int .i64 (-1))] fun a hE => ?_
 refine Runs.seq ?_
 refine Runs.sr ?_
 refine WR.e0 hE [(12, .bool (r != (-1)))] fun a hE => ?_
 obtain ⟨s, es, hm⟩ := bind_some hm
 refine Runs.join (fun a w => EnvOk 61 a [(0, .pointer (some ⟨p_a_, 0, none⟩)), (1, .int .i64 r), (2, .int .i64 n), (7, .int .i64 s.1)] ∧ St w0 (arena_Arena.R p_a_ al_a_ s.2 :: As) w) (fun hk => ?_) ?_
 ·replace hm := es; clear es
  refine Runs.cond hE rfl (fun c => ?_) (fun c => ?_)
  ·replace hm := cond_t c hm
   refine Runs.region ?_
   refine WR.d0 hE 2 [(13, .pointer (some ⟨p_a_, 0, none⟩)), (14, .int .i64 r)] fun a hE => ?_
   obtain ⟨t_, et_, hm⟩ := bind_some hm
   refine WR.eff hE rfl rfl rfl rfl (OpTo.fn hE rfl rfl Tryz.call225 (arena_Arena_Cell_ok et_ H)) ?_
   rintro _ w ⟨rfl, H⟩ a hE
   refine WR.e0 hE [(7, .int .i64 t_.1)] fun a hE => ?_
   cases hm
   exact hk _ _ ⟨hE.sel [0, 1, 2, 7] (by kernel_rfl), H⟩
  ·replace hm := cond_f c hm
   refine Runs.skip ?_
   cases hm
   exact hk _ _ ⟨hE.sel [0, 1, 2, 7] (by kernel_rfl), H⟩
 rintro a w ⟨hE, H⟩
 refine Runs.sr ?_
 refine WR.seg hE 2 [] [0, 1, 2, 7, 16, 17] (Lo := [(0, .pointer (some ⟨p_a_, 0, none⟩)), (1, .int .i64 r), (2, .int .i64 n), (7, .int .i64 s.1), (16, .pointer (some ⟨p_a_, 0, none⟩)), (17, .int .i64 r)]) (obs := []) rfl (by kernel_rfl) trivial fun a hE => ?_
 obtain ⟨t_1, et_1, hm⟩ := bind_some hm
 refine WR.eff hE rfl rfl rfl rfl (OpTo.fn hE rfl rfl Tryz.call174 (arena_Arena_Get_ok et_1 H)) ?_
 rintro _ w ⟨rfl, hf1, hf, H⟩ a hE
 refine WR.e0 hE [(8, .int .i64 t_1.1)] fun a hE => ?_
 refine Runs.seq ?_
 refine Runs.seq ?_
 obtain ⟨s1, es1, hm⟩ := bind_some hm
 refine Runs.join (fun a w => EnvOk 61 a [(0, .pointer (some ⟨p_a_, 0, none⟩)), (1, .int .i64 r), (2, .int .i64 n), (7, .int .i64 s.1), (8, .int .i64 t_1.1), (27, .bool s1.1)] ∧ St w0 (arena_Arena.R p_a_ al_a_ s1.2 :: As) w) (fun hk => ?_) ?_
 ·replace hm := es1; clear es1
  refine Runs.region ?_
  refine WR.d0 hE 3 [(21, .bool (s.1 == (-1)))] fun a hE => ?_
  rcases Bool.eq_false_or_eq_true (s.1 == (-1)) with c | c
  ·replace hE := hE.dec 21 c (by kernel_rfl)
   replace hm := cond_t c hm
   have c_ := c
   refine WR.e0 hE [(27, .bool true)] fun a hE => ?_
   cases hm
   exact hk _ _ ⟨hE.sel [0, 1, 2, 7, 8, 27] (by kernel_rfl), H⟩
  ·replace hE := hE.dec 21 c (by kernel_rfl)
   replace hm := cond_f c hm
   have c_1 := c
   refine WR.d0 hE 5 [(21, .bool false), (22, .pointer (some ⟨p_a_, 0, none⟩)), (23, .int .i64 s.1)] fun a hE => ?_
   obtain ⟨t_2, et_2, hm⟩ := bind_some hm
   refine WR.eff hE rfl rfl rfl rfl (OpTo.fn hE rfl rfl Tryz.call174 (arena_Arena_Get_ok et_2 H)) ?_
   rintro _ w ⟨rfl, hf3, hf2, H⟩ a hE
   refine WR.e0 hE [(27, .bool (t_2.1 != t_1.1))] fun a hE => ?_
   cases hm
   exact hk _ _ ⟨hE.sel [0, 1, 2, 7, 8, 27] (by kernel_rfl), H⟩
 rintro a w ⟨hE, H⟩
 refine Runs.cond hE rfl (fun c => ?_) (fun c => ?_)
 ·replace hm := cond_t c hm
  refine Runs.sr ?_
  refine WR.seg hE 3 [] [0, 2, 28, 29, 30] (Lo := [(0, .pointer (some ⟨p_a_, 0, none⟩)), (2, .int .i64 n), (28, .pointer (some ⟨p_a_, 0, none⟩)), (29, .int .i64 n), (30, .int .i64 r)]) (obs := []) rfl (by kernel_rfl) trivial fun a hE => ?_
  obtain ⟨t_3, et_3, hm⟩ := bind_some hm
  refine WR.eff hE rfl rfl rfl rfl (OpTo.fn hE rfl rfl Tryz.call152 (arena_Arena_Set_ok et_3 H)) ?_
  rintro _ w ⟨rfl, hf4, H⟩ a hE
  refine WR.done rfl ?_
  refine Runs.sr ?_
  refine WR.d0 hE 2 [(32, .pointer (some ⟨p_a_, 0, none⟩)), (33, .int .i64 n)] fun a hE => ?_
  obtain ⟨t_4, et_4, hm⟩ := bind_some hm
  refine WR.eff hE rfl rfl rfl rfl (OpTo.fn hE rfl rfl Tryz.call152 (arena_Arena_Set_ok et_4 H)) ?_
  rintro _ w ⟨rfl, hf5, H⟩ a hE
  refine WR.done rfl ?_
  refine Runs.sr ?_
  refine WR.e0 hE [(6, .int .i64 n)] fun a hE => ?_
  refine Runs.ret hE Tryz.func220 rfl rfl ?_
  cases hm
  exact ⟨rfl, H⟩
 ·replace hm := cond_f c hm
  refine Runs.skip ?_
  refine Runs.sr ?_
  refine WR.seg hE 2 [] [0, 1, 2, 7, 8, 36, 37] (Lo := [(0, .pointer (some ⟨p_a_, 0, none⟩)), (1, .int .i64 r), (2, .int .i64 n), (7, .int .i64 s.1), (8, .int .i64 t_1.1), (36, .pointer (some ⟨p_a_, 0, none⟩)), (37, .int .i64 s.1)]) (obs := []) rfl (by kernel_rfl) trivial fun a hE => ?_
  obtain ⟨t_5, et_5, hm⟩ := bind_some hm
  refine WR.eff hE rfl rfl rfl rfl (OpTo.fn hE rfl rfl Tryz.call225 (arena_Arena_Cell_ok et_5 H)) ?_
  rintro _ w ⟨rfl, H⟩ a hE
  refine WR.e0 hE [(9, .int .i64 t_5.1)] fun a hE => ?_
  refine Runs.sr ?_
  refine WR.d0 hE 4 [(39, .pointer (some ⟨p_a_, 0, none⟩)), (40, .int .i64 r), (41, .int .i64 s.1), (42, .int .i64 t_1.1)] fun a hE => ?_
  obtain ⟨t_6, et_6, hm⟩ := bind_some hm
  refine WR.eff hE rfl rfl rfl rfl (OpTo.fn hE rfl rfl Tryz.call261 (trees_Link_ok et_6 H)) ?_
  rintro _ w ⟨rfl, H⟩ a hE
  refine WR.e0 hE [(10, .int .i64 t_6.1)] fun a hE => ?_
  refine Runs.seq ?_
  refine Runs.sr ?_
  refine WR.d0 hE 3 [(44, .pointer (some ⟨p_a_, 0, none⟩)), (45, .int .i64 n), (46, .int .i64 t_6.1)] fun a hE => ?_
  obtain ⟨t_7, et_7, hm⟩ := bind_some hm
  refine WR.eff hE rfl rfl rfl rfl (OpTo.fn hE rfl rfl Tryz.call239 (node_Before_ok et_7 H)) ?_
  rintro _ w ⟨rfl, H⟩ a hE
  refine WR.done rfl ?_
  obtain ⟨s2, es2, hm⟩ := bind_some hm
  refine Runs.join (fun a w => EnvOk 61 a [(0, .pointer (some ⟨p_a_, 0, none⟩)), (2, .int .i64 n), (9, .int .i64 t_5.1), (10, .int .i64 t_6.1)] ∧ St w0 (arena_Arena.R p_a_ al_a_ s2 :: As) w) (fun hk => ?_) ?_
  ·replace hm := es2; clear es2
   refine Runs.cond hE rfl (fun c => ?_) (fun c => ?_)
   ·replace hm := cond_t c hm
    refine Runs.region ?_
    refine WR.d0 hE 3 [(48, .pointer (some ⟨p_a_, 0, none⟩)), (49, .int .i64 n), (50, .int .i64 t_6.1)] fun a hE => ?_
    obtain ⟨t_8, et_8, hm⟩ := bind_some hm
    refine WR.eff hE rfl rfl rfl rfl (OpTo.fn hE rfl rfl Tryz.call265 (item_Swap_ok et_8 H)) ?_
    rintro _ w ⟨rfl, H⟩ a hE
    refine WR.done rfl ?_
    cases hm
    exact hk _ _ ⟨hE.sel [0, 2, 9, 10] (by kernel_rfl), H⟩
   ·replace hm := cond_f c hm
    refine Runs.skip ?_
    cases hm
    exact hk _ _ ⟨hE.sel [0, 2, 9, 10] (by kernel_rfl), H⟩
  rintro a w ⟨hE, H⟩
  refine Runs.sr ?_
  refine WR.seg hE 3 [] [0, 9, 10, 52, 53, 54] (Lo := [(0, .pointer (some ⟨p_a_, 0, none⟩)), (9, .int .i64 t_5.1), (10, .int .i64 t_6.1), (52, .pointer (some ⟨p_a_, 0, none⟩)), (53, .int .i64 n), (54, .int .i64 t_6.1)]) (obs := []) rfl (by kernel_rfl) trivial fun a hE => ?_
  obtain ⟨t_9, et_9, hm⟩ := bind_some hm
  refine WR.eff hE rfl rfl rfl rfl (OpTo.fn hE rfl rfl Tryz.call266 (trees_Under_ok et_9 H)) ?_
  rintro _ w ⟨rfl, H⟩ a hE
  refine WR.done rfl ?_
  refine Runs.sr ?_
  refine WR.d0 hE 3 [(56, .pointer (some ⟨p_a_, 0, none⟩)), (57, .int .i64 t_6.1), (58, .int .i64 t_5.1)] fun a hE => ?_
  obtain ⟨t_10, et_10, hm⟩ := bind_some hm
  refine WR.eff hE rfl rfl rfl rfl (OpTo.fn hE rfl rfl Tryz.call152 (arena_Arena_Set_ok et_10 H)) ?_
  rintro _ w ⟨rfl, hf6, H⟩ a hE
  refine WR.done rfl ?_
  refine Runs.sr ?_
  refine WR.e0 hE [(6, .int .i64 t_6.1)] fun a hE => ?_
  refine Runs.ret hE Tryz.func220 rfl rfl ?_
  cases hm
  exact ⟨rfl, H⟩

theorem skew_Push_ok {w0 w : World} {As : List HP} {k : Nat} {p_a_ : Nat} {al_a_ : arena_Arena.A} {a_ : arena_Arena} {r : Int} {i : Int} {t : Int × Bool × arena_Arena}  (hm : skew_Push k a_ r i = some t) (H : St w0 (arena_Arena.R p_a_ al_a_ a_ :: As) w) :
    CallsR Tryz.prog 155 #[.pointer (some ⟨p_a_, 0, none⟩), .int .i64 r, .int .i64 i] w fun v w' => ∃ (z_a__free_b : Option Addr), ∃ (z_a__free_c : Nat), v = .tuple #[.int .i64 t.1, .bool t.2.1] ∧ St w0 (arena_Arena.R p_a_ (arena_Arena.A.mk al_a_.l_b al_a_.l_c z_a__free_b z_a__free_c al_a_.m__p) t.2.2 :: As) w' := by
 rw [skew_Push] at hm
 refine enter (args := [.pointer (some ⟨p_a_, 0, none⟩), .int .i64 r, .int .i64 i]) Tryz.func155 rfl rfl rfl fun a hE => ?_
 refine Runs.sr ?_
 refine WR.seg hE 2 [] [0, 1, 2] (Lo := [(0, .pointer (some ⟨p_a_, 0, none⟩)), (1, .int .i64 r), (2, .int .i64 i)]) (obs := []) rfl (by kernel_rfl) trivial fun a hE => ?_
 refine WR.done rfl ?_
 refine Runs.seq ?_
 refine Runs.sr ?_
 refine WR.e0 hE [(11, .bool false)] fun a hE => ?_
 refine Runs.condF hE rfl ?_
 refine Runs.skip ?_
 refine Runs.sr ?_
 refine WR.d0 hE 2 [(13, .pointer (some ⟨p_a_, 0, none⟩)), (14, .int .i64 i)] fun a hE => ?_
 obtain ⟨t_, et_, hm⟩ := bind_some hm
 refine WR.eff hE rfl rfl rfl rfl (OpTo.fn hE rfl rfl Tryz.call216 (node_New_ok et_ H)) ?_
 rintro _ w ⟨z, z1, rfl, H⟩ a hE
 refine WR.e0 hE [(8, .int .i64 t_.1), (9, .bool t_.2.1)] fun a hE => ?_
 refine Runs.seq ?_
 refine Runs.sr ?_
 refine WR.e0 hE [(19, .bool (!t_.2.1))] fun a hE => ?_
 refine Runs.cond hE rfl (fun c => ?_) (fun c => ?_)
 ·replace hm := cond_t c hm
  refine Runs.sr ?_
  refine WR.e0 hE [(6, .int .i64 r), (7, .bool false)] fun a hE => ?_
  refine Runs.ret hE Tryz.func155 rfl rfl ?_
  cases hm
  exact ⟨z, z1, rfl, H⟩
 ·replace hm := cond_f c hm
  refine Runs.skip ?_
  refine Runs.sr ?_
  refine WR.d0 hE 3 [(21, .pointer (some ⟨p_a_, 0, none⟩)), (22, .int .i64 r), (23, .int .i64 t_.1)] fun a hE => ?_
  obtain ⟨t_1, et_1, hm⟩ := bind_some hm
  refine WR.eff hE rfl rfl rfl rfl (OpTo.fn hE rfl rfl Tryz.call220 (skew_single_ok et_1 H)) ?_
  rintro _ w ⟨rfl, H⟩ a hE
  refine WR.e0 hE [(6, .int .i64 t_1.1), (7, .bool true)] fun a hE => ?_
  refine Runs.ret hE Tryz.func155 rfl rfl ?_
  cases hm
  exact ⟨z, z1, rfl, H⟩

theorem fib_Push_ok {w0 w : World} {As : List HP} {p_a_ : Nat} {al_a_ : arena_Arena.A} {a_ : arena_Arena} {r : Int} {i : Int} {t : Int × Bool}  (hm : fib_Push a_ r i = some t) (H : St w0 (arena_Arena.R p_a_ al_a_ a_ :: As) w) :
    CallsR Tryz.prog 156 #[.pointer (some ⟨p_a_, 0, none⟩), .int .i64 r, .int .i64 i] w fun v w' => v = .tuple #[.int .i64 t.1, .bool t.2] ∧ St w0 (arena_Arena.R p_a_ al_a_ a_ :: As) w' := by
  rw [fib_Push] at hm
  cases hm

theorem pairing_Push_ok {w0 w : World} {As : List HP} {p_a_ : Nat} {al_a_ : arena_Arena.A} {a_ : arena_Arena} {r : Int} {i : Int} {t : Int × Bool}  (hm : pairing_Push a_ r i = some t) (H : St w0 (arena_Arena.R p_a_ al_a_ a_ :: As) w) :
    CallsR Tryz.prog 157 #[.pointer (some ⟨p_a_, 0, none⟩), .int .i64 r, .int .i64 i] w fun v w' => v = .tuple #[.int .i64 t.1, .bool t.2] ∧ St w0 (arena_Arena.R p_a_ al_a_ a_ :: As) w' := by
  rw [pairing_Push] at hm
  cases hm

theorem kind_Push_ok {w0 w : World} {As : List HP} {k : Nat} {k_ : Int} {p_a_ : Nat} {al_a_ : arena_Arena.A} {a_ : arena_Arena} {r : Int} {i : Int} {t : Int × Bool × arena_Arena}  (hm : kind_Push k k_ a_ r i = some t) (H : St w0 (arena_Arena.R p_a_ al_a_ a_ :: As) w) :
    CallsR Tryz.prog 106 #[.int .i64 k_, .pointer (some ⟨p_a_, 0, none⟩), .int .i64 r, .int .i64 i] w fun v w' => ∃ (z_a__free_b : Option Addr), ∃ (z_a__free_c : Nat), v = .tuple #[.int .i64 t.1, .bool t.2.1] ∧ St w0 (arena_Arena.R p_a_ (arena_Arena.A.mk al_a_.l_b al_a_.l_c z_a__free_b z_a__free_c al_a_.m__p) t.2.2 :: As) w' := by
 rw [kind_Push] at hm
 refine enter (args := [.int .i64 k_, .pointer (some ⟨p_a_, 0, none⟩), .int .i64 r, .int .i64 i]) Tryz.func106 rfl rfl rfl fun a hE => ?_
 refine Runs.sr ?_
 refine WR.seg hE 2 [] [0, 1, 2, 3] (Lo := [(0, .int .i64 k_), (1, .pointer (some ⟨p_a_, 0, none⟩)), (2, .int .i64 r), (3, .int .i64 i)]) (obs := []) rfl (by kernel_rfl) trivial fun a hE => ?_
 refine WR.done rfl ?_
 refine Runs.seq ?_
 refine Runs.sr ?_
 refine WR.e0 hE [(10, .int .i64 k_)] fun a hE => ?_
 refine Runs.block ?_
 refine Runs.sr ?_
 refine WR.e0 hE [(11, .bool (k_ == 1))] fun a hE => ?_
 refine Runs.cond hE rfl (fun c => ?_) (fun c => ?_)
 ·replace hm := cond_t c hm
  refine Runs.sr ?_
  refine WR.d0 hE 3 [(13, .pointer (some ⟨p_a_, 0, none⟩)), (14, .int .i64 r), (15, .int .i64 i)] fun a hE => ?_
  obtain ⟨t_, et_, hm⟩ := bind_some hm
  refine WR.eff hE rfl rfl rfl rfl (OpTo.fn hE rfl rfl Tryz.call153 (leftist_Push_ok et_ H)) ?_
  rintro _ w ⟨rfl, H⟩ a hE
  refine WR.e0 hE [(8, .int .i64 t_.1), (9, .bool t_.2)] fun a hE => ?_
  refine Runs.ret hE Tryz.func106 rfl rfl ?_
  cases hm
  exact ⟨al_a_.free_b, al_a_.free_c, rfl, H⟩
 ·replace hm := cond_f c hm
  refine Runs.sr ?_
  refine WR.e0 hE [(19, .bool (k_ == 2))] fun a hE => ?_
  refine Runs.cond hE rfl (fun c => ?_) (fun c => ?_)
  ·replace hm := cond_t c hm
   refine Runs.sr ?_
   refine WR.d0 hE 3 [(21, .pointer (some ⟨p_a_, 0, none⟩)), (22, .int .i64 r), (23, .int .i64 i)] fun a hE => ?_
   obtain ⟨t_1, et_1, hm⟩ := bind_some hm
   refine WR.eff hE rfl rfl rfl rfl (OpTo.fn hE rfl rfl Tryz.call154 (binomial_Push_ok et_1 H)) ?_
   rintro _ w ⟨rfl, H⟩ a hE
   refine WR.e0 hE [(8, .int .i64 t_1.1), (9, .bool t_1.2)] fun a hE => ?_
   refine Runs.ret hE Tryz.func106 rfl rfl ?_
   cases hm
   exact ⟨al_a_.free_b, al_a_.free_c, rfl, H⟩
  ·replace hm := cond_f c hm
   refine Runs.sr ?_
   refine WR.e0 hE [(27, .bool (k_ == 3))] fun a hE => ?_
   refine Runs.cond hE rfl (fun c => ?_) (fun c => ?_)
   ·replace hm := cond_t c hm
    refine Runs.sr ?_
    refine WR.d0 hE 3 [(29, .pointer (some ⟨p_a_, 0, none⟩)), (30, .int .i64 r), (31, .int .i64 i)] fun a hE => ?_
    obtain ⟨t_2, et_2, hm⟩ := bind_some hm
    refine WR.eff hE rfl rfl rfl rfl (OpTo.fn hE rfl rfl Tryz.call155 (skew_Push_ok et_2 H)) ?_
    rintro _ w ⟨z, z1, rfl, H⟩ a hE
    refine WR.e0 hE [(8, .int .i64 t_2.1), (9, .bool t_2.2.1)] fun a hE => ?_
    refine Runs.ret hE Tryz.func106 rfl rfl ?_
    cases hm
    exact ⟨z, z1, rfl, H⟩
   ·replace hm := cond_f c hm
    refine Runs.sr ?_
    refine WR.e0 hE [(35, .bool (k_ == 4))] fun a hE => ?_
    refine Runs.cond hE rfl (fun c => ?_) (fun c => ?_)
    ·replace hm := cond_t c hm
     refine Runs.sr ?_
     refine WR.d0 hE 3 [(37, .pointer (some ⟨p_a_, 0, none⟩)), (38, .int .i64 r), (39, .int .i64 i)] fun a hE => ?_
     obtain ⟨t_3, et_3, hm⟩ := bind_some hm
     refine WR.eff hE rfl rfl rfl rfl (OpTo.fn hE rfl rfl Tryz.call156 (fib_Push_ok et_3 H)) ?_
     rintro _ w ⟨rfl, H⟩ a hE
     refine WR.e0 hE [(8, .int .i64 t_3.1), (9, .bool t_3.2)] fun a hE => ?_
     refine Runs.ret hE Tryz.func106 rfl rfl ?_
     cases hm
     exact ⟨al_a_.free_b, al_a_.free_c, rfl, H⟩
    ·replace hm := cond_f c hm
     refine Runs.sr ?_
     refine WR.e0 hE [(43, .bool (k_ == 5))] fun a hE => ?_
     refine Runs.cond hE rfl (fun c => ?_) (fun c => ?_)
     ·replace hm := cond_t c hm
      refine Runs.sr ?_
      refine WR.d0 hE 3 [(45, .pointer (some ⟨p_a_, 0, none⟩)), (46, .int .i64 r), (47, .int .i64 i)] fun a hE => ?_
      obtain ⟨t_4, et_4, hm⟩ := bind_some hm
      refine WR.eff hE rfl rfl rfl rfl (OpTo.fn hE rfl rfl Tryz.call157 (pairing_Push_ok et_4 H)) ?_
      rintro _ w ⟨rfl, H⟩ a hE
      refine WR.e0 hE [(8, .int .i64 t_4.1), (9, .bool t_4.2)] fun a hE => ?_
      refine Runs.ret hE Tryz.func106 rfl rfl ?_
      cases hm
      exact ⟨al_a_.free_b, al_a_.free_c, rfl, H⟩
     ·replace hm := cond_f c hm
      refine Runs.skip ?_
      refine Runs.inBlock ?_
      refine Runs.sr ?_
      refine WR.e0 hE [(8, .int .i64 r), (9, .bool false)] fun a hE => ?_
      refine Runs.ret hE Tryz.func106 rfl rfl ?_
      cases hm
      exact ⟨al_a_.free_b, al_a_.free_c, rfl, H⟩

theorem pool_Pool_slots_thing_Places_ok {w0 w : World} {As : List HP} {p_p : Nat} {al_p : pool_Pool_slots_thing.A} {p : pool_Pool_slots_thing} {t : Int}  (hm : pool_Pool_slots_thing_Places p = some t) (H : St w0 (pool_Pool_slots_thing.R p_p al_p p :: As) w) :
    CallsR Tryz.prog 158 #[.pointer (some ⟨p_p, 0, none⟩)] w fun v w' => v = .int .i64 t ∧ St w0 (pool_Pool_slots_thing.R p_p al_p p :: As) w' := by
 rw [pool_Pool_slots_thing_Places] at hm
 refine enter (args := [.pointer (some ⟨p_p, 0, none⟩)]) Tryz.func158 rfl rfl rfl fun a hE => ?_
 refine Runs.sr ?_
 refine WR.seg hE 1 [] [0] (Lo := [(0, .pointer (some ⟨p_p, 0, none⟩))]) (obs := []) rfl (by kernel_rfl) trivial fun a hE => ?_
 refine WR.done rfl ?_
 refine Runs.sr ?_
 replace H := pool_Pool_slots_thing.open H
 refine WR.e hE [.int .i64 p.most] [(2, .int .i64 p.most)] (obs := [.cell ⟨p_p, 0, none⟩ (.int .i64 p.most)]) ⟨H.cell 0 rfl rfl, trivial⟩ fun a hE => ?_
 replace H := pool_Pool_slots_thing.shut al_p (p) H.t2.t2.t2
 refine Runs.ret hE Tryz.func158 rfl rfl ?_
 cases hm
 exact ⟨rfl, H⟩

theorem pool_Pool_slots_thing_Take_ok {w0 w : World} {As : List HP} {p_p : Nat} {al_p : pool_Pool_slots_thing.A} {p : pool_Pool_slots_thing} {v_ : slots_thing} {t : api_Ref × Bool × pool_Pool_slots_thing}  (hm : pool_Pool_slots_thing_Take p v_ = some t) (H : St w0 (pool_Pool_slots_thing.R p_p al_p p :: As) w) :
    CallsR Tryz.prog 159 #[.pointer (some ⟨p_p, 0, none⟩), .agg #[.int .i64 v_.cell, .int .i64 v_.heap.At, .int .i64 v_.heap.Gen]] w fun v w' => ∃ (z_p_l_b : Option Addr), ∃ (z_p_l_c : Nat), ∃ (z_p_free_b : Option Addr), ∃ (z_p_free_c : Nat), v = .tuple #[.agg #[.int .i64 t.1.At, .int .i64 t.1.Gen], .bool t.2.1] ∧ St w0 (pool_Pool_slots_thing.R p_p (pool_Pool_slots_thing.A.mk z_p_l_b z_p_l_c z_p_free_b z_p_free_c) t.2.2 :: As) w' := by
 rw [pool_Pool_slots_thing_Take] at hm
 refine enter (args := [.pointer (some ⟨p_p, 0, none⟩), .agg #[.int .i64 v_.cell, .int .i64 v_.heap.At, .int .i64 v_.heap.Gen]]) Tryz.func159 rfl rfl rfl fun a hE => ?_
 refine Runs.sr ?_
 refine WR.eff hE rfl rfl rfl rfl (OpTo.new hE H [] (.cells #[.int .i64 v_.cell, .int .i64 v_.heap.At, .int .i64 v_.heap.Gen] 177 (0, 0)) (fun r => .pointer (some ⟨r, 0, none⟩)) (obs := []) rfl (fun _ => by kernel_rfl) trivial) ?_
 rintro _ w ⟨r, rfl, H⟩ a hE
 refine WR.eff hE rfl rfl rfl rfl (OpTo.new hE H [] (.cells #[.int .i64 0, .int .i64 0] 26 (0, 0)) (fun r => .pointer (some ⟨r, 0, none⟩)) (obs := []) rfl (fun _ => by kernel_rfl) trivial) ?_
 rintro _ w ⟨r1, rfl, H⟩ a hE
 refine WR.seg hE 3 [] [0, 3, 4] (Lo := [(0, .pointer (some ⟨p_p, 0, none⟩)), (3, .pointer (some ⟨r, 0, none⟩)), (4, .pointer (some ⟨r1, 0, none⟩))]) (obs := []) rfl (by kernel_rfl) trivial fun a hE => ?_
 refine WR.done rfl ?_
 refine Runs.sr ?_
 replace H := pool_Pool_slots_thing.open H.t2
 refine WR.e hE [.slice al_p.l_b p.l.length al_p.l_c] [(6, .int .i64 (p.l.length : Int))] (obs := [.cell ⟨p_p, 1, none⟩ (.slice al_p.l_b p.l.length al_p.l_c)]) ⟨H.cell 0 rfl rfl, trivial⟩ fun a hE => ?_
 refine Runs.seq ?_
 refine Runs.sr ?_
 refine WR.e hE [.slice al_p.free_b p.free.length al_p.free_c] [(7, .int .i64 (w64 ((p.free.length : Int) - 1)))] (obs := [.cell ⟨p_p, 2, none⟩ (.slice al_p.free_b p.free.length al_p.free_c)]) ⟨H.cell 0 rfl rfl, trivial⟩ fun a hE => ?_
 refine Runs.sr ?_
 refine WR.e0 hE [(21, .bool (decide (w64 ((p.free.length : Int) - 1) ≥ 0)))] fun a hE => ?_
 replace H := pool_Pool_slots_thing.shut al_p (p) H.t2.t2.t2
 obtain ⟨s, es, hR⟩ := bind_some hm
 refine Runs.join (fun a w => ∃ s1, s = Sum.inr s1 ∧ ∃ (z : Option Addr), ∃ (z1 : Nat), ∃ (z2 : Option Addr), ∃ (z3 : Nat), EnvOk 81 a [(0, .pointer (some ⟨p_p, 0, none⟩)), (3, .pointer (some ⟨r, 0, none⟩)), (4, .pointer (some ⟨r1, 0, none⟩)), (6, .int .i64 s1.1)] ∧ St w0 (pool_Pool_slots_thing.R p_p (pool_Pool_slots_thing.A.mk z z1 z2 z3) s1.2 :: Blk r1 26 [.int .i64 0, .int .i64 0] :: Blk r 177 [.int .i64 v_.cell, .int .i64 v_.heap.At, .int .i64 v_.heap.Gen] :: As) w) (fun hk => ?_) ?_
 ·replace hm := es; clear es
  refine Runs.cond hE rfl (fun c => ?_) (fun c => ?_)
  ·replace hm := cond_t c hm
   refine Runs.sr ?_
   replace H := pool_Pool_slots_thing.open H
   obtain ⟨x, ex, hm⟩ := bind_some hm
   obtain ⟨b, o, hs, hb⟩ := SlRd.base (sl_rd 3 ecI 1 _ _ _) ecI_ok H 2 rfl ex
   refine WR.e hE [.slice al_p.free_b p.free.length al_p.free_c, .pointer (some ⟨b, o, none⟩), .int .i64 x] [(6, .int .i64 x)] (obs := [.cell ⟨p_p, 2, none⟩ (.slice al_p.free_b p.free.length al_p.free_c), .p ((al_p.free_b : Option Addr) = some ⟨b, o, none⟩), .p (0 ≤ ((w64 ((p.free.length : Int) - 1)) : Int) ∧ ((w64 ((p.free.length : Int) - 1)) : Int) < ((p.free.length : Nat) : Int)), .cell ⟨b, o + (Int.toNat (w64 ((p.free.length : Int) - 1))) * 1, none⟩ (.int .i64 x)]) ⟨H.cell 0 rfl rfl, hs, hb, SlRd.cells (sl_rd 3 ecI 1 _ _ _) ecI_ok H 2 rfl hs ex 0 _ rfl, trivial⟩ fun a hE => ?_
   refine Runs.region ?_
   obtain ⟨l, el, hm⟩ := bind_some hm
   obtain ⟨sb, q⟩ : ∃ z, rebase al_p.free_b al_p.free_c (Int.toNat 0) 1 = z := ⟨_, rfl⟩
   obtain ⟨sc, q1⟩ : ∃ z, al_p.free_c - (Int.toNat 0) = z := ⟨_, rfl⟩
   refine WR.d hE 9 [.slice al_p.free_b p.free.length al_p.free_c, .slice sb l.length sc] [(35, .slice sb l.length sc), (37, .pointer (some ⟨p_p, 2, none⟩))] (obs := [.cell ⟨p_p, 2, none⟩ (.slice al_p.free_b p.free.length al_p.free_c), .p (rebase al_p.free_b al_p.free_c 0 1 = sb), .p ((Int.toNat (w64 ((p.free.length : Int) - 1))) - 0 = l.length), .p (al_p.free_c - 0 = sc), .p (0 ≤ ((w64 ((p.free.length : Int) - 1)) : Int) ∧ ((w64 ((p.free.length : Int) - 1)) : Int) ≤ ((al_p.free_c : Nat) : Int))]) ⟨H.cell 0 rfl rfl, q, cut_len el, q1, cut_cap el (H.slCap 2 rfl).1, trivial⟩ fun a hE => ?_
   refine WR.eff0 hE rfl rfl rfl (OpTo.store hE H rfl rfl rfl rfl rfl rfl (Nat.le_of_ble_eq_true rfl)) ?_
   rintro _ w H a hE
   refine WR.done rfl ?_
   replace H := H.t2.slCut' ecI_ok el q q1
   replace H := pool_Pool_slots_thing.shut (pool_Pool_slots_thing.A.mk al_p.l_b al_p.l_c sb sc) (pool_Pool_slots_thing.mk p.most p.l l) H.t2.t2
   cases hm
   exact hk _ _ ⟨_, rfl, al_p.l_b, al_p.l_c, sb, sc, hE.sel [0, 3, 4, 6] (by kernel_rfl), H.t2.t2.t2⟩
  ·replace hm := cond_f c hm
   refine Runs.sr ?_
   replace H := pool_Pool_slots_thing.open H
   refine WR.e hE [.int .i64 p.most] [(43, .bool (decide ((p.l.length : Int) ≥ p.most)))] (obs := [.cell ⟨p_p, 0, none⟩ (.int .i64 p.most)]) ⟨H.cell 0 rfl rfl, trivial⟩ fun a hE => ?_
   refine Runs.cond hE rfl (fun c => ?_) (fun c => ?_)
   ·replace hm := cond_t c hm
    refine Runs.sr ?_
    refine WR.d0 hE 1 [(44, .agg #[.int .i64 0, .int .i64 0])] fun a hE => ?_
    refine WR.eff0 hE rfl rfl rfl (OpTo.store hE H.t3 rfl rfl rfl rfl rfl rfl (Nat.le_of_ble_eq_true rfl)) ?_
    rintro _ w H a hE
    refine WR.e0 hE [(5, .bool false)] fun a hE => ?_
    refine Runs.retO (vs := [.agg #[.int .i64 0, .int .i64 0], .bool false]) (obs := [.cell ⟨r1, 0, none⟩ (.int .i64 0), .cell ⟨r1, 1, none⟩ (.int .i64 0)]) hE Tryz.func159 rfl [.int .i64 0, .int .i64 0] (by kernel_rfl) ⟨H.cell 0 rfl rfl, H.cell 0 rfl rfl, trivial⟩ ?_
    replace H := pool_Pool_slots_thing.shut al_p (p) H.t3.t3.t3
    cases hm
    dsimp only at hR; cases hR
    exact ⟨al_p.l_b, al_p.l_c, al_p.free_b, al_p.free_c, rfl, H.x2.x1⟩
   ·replace hm := cond_f c hm
    refine Runs.region ?_
    refine WR.d hE 6 [.slice al_p.l_b p.l.length al_p.l_c] [(45, .pointer (some ⟨p_p, 0, none⟩)), (49, .slice al_p.l_b p.l.length al_p.l_c), (50, .agg #[.int .i64 0, .bool false, .int .i64 0, .int .i64 0, .int .i64 0])] (obs := [.cell ⟨p_p, 1, none⟩ (.slice al_p.l_b p.l.length al_p.l_c)]) ⟨H.cell 0 rfl rfl, trivial⟩ fun a hE => ?_
    refine WR.eff hE rfl rfl rfl rfl (OpTo.buildSl (T := 287) hE H pool_place_slots_thing.enc_ok ([pool_place_slots_thing.mk 0 false (slots_thing.mk 0 (api_Ref.mk 0 0))] : List pool_place_slots_thing) rfl (fun _ => by kernel_rfl) rfl rfl rfl) ?_
    rintro _ w ⟨r2, rfl, H⟩ a hE
    obtain ⟨l1, el1, hm⟩ := bind_some hm
    replace H := H.t2
    refine WR.eff hE rfl rfl rfl rfl (OpTo.appendM el1 hE H pool_place_slots_thing.enc_ok rfl rfl rfl rfl rfl rfl rfl rfl rfl rfl (SlRd.all (sl_rd 287 pool_place_slots_thing.enc 5 _ _ _) pool_place_slots_thing.enc_ok H 1 rfl) rfl) ?_
    rintro _ w ⟨sb1, sc1, rfl, H⟩ a hE
    refine WR.d0 hE 10 [(54, .pointer (some ⟨p_p, 1, none⟩))] fun a hE => ?_
    refine WR.eff0 hE rfl rfl rfl (OpTo.store hE H.t2 rfl rfl rfl rfl rfl rfl (Nat.le_of_ble_eq_true rfl)) ?_
    rintro _ w H a hE
    refine WR.done rfl ?_
    replace H := pool_Pool_slots_thing.shut (pool_Pool_slots_thing.A.mk sb1 sc1 al_p.free_b al_p.free_c) (pool_Pool_slots_thing.mk p.most l1 p.free) H.t3.t2.t2
    cases hm
    exact hk _ _ ⟨_, rfl, sb1, sc1, al_p.free_b, al_p.free_c, hE.sel [0, 3, 4, 6] (by kernel_rfl), H.x1.t2.t2.t2⟩
 rintro a w ⟨s1, rfl, z, z1, z2, z3, hE, H⟩
 replace hm := hR; dsimp only at hm
 refine Runs.sr ?_
 replace H := pool_Pool_slots_thing.open H
 try dsimp only at H
 obtain ⟨x1, ex1, hm⟩ := bind_some hm
 obtain ⟨b1, o1, hs1, hb1⟩ := SlRd.base (sl_rd 287 pool_place_slots_thing.enc 5 _ _ _) pool_place_slots_thing.enc_ok H 1 rfl ex1
 refine WR.seg hE 7 [.slice z s1.2.l.length z1, .pointer (some ⟨b1, o1, none⟩)] [3, 4, 6, 8] (Lo := [(3, .pointer (some ⟨r, 0, none⟩)), (4, .pointer (some ⟨r1, 0, none⟩)), (6, .int .i64 s1.1), (8, .pointer (some ⟨b1, o1 + (Int.toNat s1.1) * 5, none⟩))]) (obs := [.cell ⟨p_p, 1, none⟩ (.slice z s1.2.l.length z1), .p ((z : Option Addr) = some ⟨b1, o1, none⟩), .p (0 ≤ (s1.1 : Int) ∧ (s1.1 : Int) < ((s1.2.l.length : Nat) : Int))]) rfl (by kernel_rfl) ⟨H.cell 0 rfl rfl, hs1, hb1, trivial⟩ fun a hE => ?_
 refine WR.done rfl ?_
 refine Runs.sr ?_
 refine WR.d hE 7 [.int .i64 x1.gen] [(65, .int .i64 (w64 (x1.gen + 1))), (67, .pointer (some ⟨b1, o1 + (Int.toNat s1.1) * 5, none⟩))] (obs := [.cell ⟨b1, o1 + (Int.toNat s1.1) * 5, none⟩ (.int .i64 x1.gen)]) ⟨SlRd.cells (sl_rd 287 pool_place_slots_thing.enc 5 _ _ _) pool_place_slots_thing.enc_ok H 1 rfl hs1 ex1 0 _ rfl, trivial⟩ fun a hE => ?_
 refine WR.eff0 hE rfl rfl rfl (OpTo.storeSl (q := 0) (x' := (pool_place_slots_thing.mk (w64 (x1.gen + 1)) x1.taken x1.v_)) hE H.t1 pool_place_slots_thing.enc_ok rfl hs1 ex1 rfl rfl rfl rfl rfl (Nat.le_of_ble_eq_true rfl) rfl) ?_
 rintro _ w H a hE
 rw [← mSet_len s1.2.l s1.1 (pool_place_slots_thing.mk (w64 (x1.gen + 1)) x1.taken x1.v_)] at H
 refine WR.done rfl ?_
 refine Runs.seq ?_
 refine Runs.drawn mixed (by kernel_rfl) ?_
 replace H := H.drew
 refine WQ.d hE [0, 1, 2, 3, 4] [.int .i64 v_.cell, .int .i64 v_.heap.At, .int .i64 v_.heap.Gen] [(69, .pointer (some ⟨b1, o1 + (Int.toNat s1.1) * 5, none⟩)), (70, .agg #[.int .i64 v_.cell, .int .i64 v_.heap.At, .int .i64 v_.heap.Gen]), (72, .pointer (some ⟨b1, o1 + (Int.toNat s1.1) * 5 + 1, none⟩))] (obs := [.cell ⟨r, 0, none⟩ (.int .i64 v_.cell), .cell ⟨r, 1, none⟩ (.int .i64 v_.heap.At), .cell ⟨r, 2, none⟩ (.int .i64 v_.heap.Gen)]) ⟨H.cell 4 rfl rfl, H.cell 4 rfl rfl, H.cell 4 rfl rfl, trivial⟩ fun a hE => ?_
 refine WQ.eff0 (j := 5) (obs := [.cell ⟨r, 0, none⟩ (.int .i64 v_.cell), .cell ⟨r, 1, none⟩ (.int .i64 v_.heap.At), .cell ⟨r, 2, none⟩ (.int .i64 v_.heap.Gen)]) hE (by kernel_rfl) rfl rfl rfl (by kernel_rfl) (OpTo.storeSl (q := 1) (x' := (pool_place_slots_thing.mk (w64 (x1.gen + 1)) true x1.v_)) hE H pool_place_slots_thing.enc_ok rfl hs1 (mSet_at ex1) rfl rfl rfl rfl rfl (Nat.le_of_ble_eq_true rfl) rfl) ?_
 rintro _ w H
 rw [← mSet_len (mSet s1.2.l s1.1 (pool_place_slots_thing.mk (w64 (x1.gen + 1)) x1.taken x1.v_)) s1.1 (pool_place_slots_thing.mk (w64 (x1.gen + 1)) true x1.v_)] at H
 refine ⟨⟨H.cell 4 rfl rfl, H.cell 4 rfl rfl, H.cell 4 rfl rfl, trivial⟩, fun a hE => ?_⟩
 refine WQ.d0 hE [6, 7] [(74, .pointer (some ⟨b1, o1 + (Int.toNat s1.1) * 5 + 2, none⟩))] fun a hE => ?_
 refine WQ.eff0 (j := 8) (obs := []) hE (by kernel_rfl) rfl rfl rfl (by kernel_rfl) (OpTo.storeSl (q := 2) (x' := (pool_place_slots_thing.mk (w64 (x1.gen + 1)) true v_)) hE H pool_place_slots_thing.enc_ok rfl hs1 (mSet_at (mSet_at ex1)) rfl rfl rfl rfl rfl (Nat.le_of_ble_eq_true rfl) rfl) ?_
 rintro _ w H
 rw [← mSet_len (mSet (mSet s1.2.l s1.1 (pool_place_slots_thing.mk (w64 (x1.gen + 1)) x1.taken x1.v_)) s1.1 (pool_place_slots_thing.mk (w64 (x1.gen + 1)) true x1.v_)) s1.1 (pool_place_slots_thing.mk (w64 (x1.gen + 1)) true v_)] at H
 refine ⟨trivial, fun a hE => ?_⟩
 refine WQ.done (by kernel_rfl) ?_
 refine Runs.sr ?_
 refine WR.d hE 6 [.int .i64 (w64 (x1.gen + 1))] [(80, .agg #[.int .i64 s1.1, .int .i64 (w64 (x1.gen + 1))])] (obs := [.cell ⟨b1, o1 + (Int.toNat s1.1) * 5, none⟩ (.int .i64 (w64 (x1.gen + 1)))]) ⟨SlRd.cells (sl_rd 287 pool_place_slots_thing.enc 5 _ _ _) pool_place_slots_thing.enc_ok H 0 rfl hs1 (mSet_at (mSet_at (mSet_at ex1))) 0 _ rfl, trivial⟩ fun a hE => ?_
 refine WR.eff0 hE rfl rfl rfl (OpTo.store hE H.t3 rfl rfl rfl rfl rfl rfl (Nat.le_of_ble_eq_true rfl)) ?_
 rintro _ w H a hE
 refine WR.e0 hE [(5, .bool true)] fun a hE => ?_
 refine Runs.retO (vs := [.agg #[.int .i64 s1.1, .int .i64 (w64 (x1.gen + 1))], .bool true]) (obs := [.cell ⟨r1, 0, none⟩ (.int .i64 s1.1), .cell ⟨r1, 1, none⟩ (.int .i64 (w64 (x1.gen + 1)))]) hE Tryz.func159 rfl [.int .i64 s1.1, .int .i64 (w64 (x1.gen + 1))] (by kernel_rfl) ⟨H.cell 0 rfl rfl, H.cell 0 rfl rfl, trivial⟩ ?_
 replace H := pool_Pool_slots_thing.shut (pool_Pool_slots_thing.A.mk z z1 z2 z3) (pool_Pool_slots_thing.mk s1.2.most (mSet (mSet (mSet s1.2.l s1.1 (pool_place_slots_thing.mk (w64 (x1.gen + 1)) x1.taken x1.v_)) s1.1 (pool_place_slots_thing.mk (w64 (x1.gen + 1)) true x1.v_)) s1.1 (pool_place_slots_thing.mk (w64 (x1.gen + 1)) true v_)) s1.2.free) H.t3.t2.t3
 cases hm
 exact ⟨z, z1, z2, z3, rfl, H.x2.x1⟩

end Go.Proofs.YtbpkejhpmakmbaaGreat
