import Derived.Test.YtgchbhnchhiehaaGreatTd
import Derived.Test.YtgchbhnchhiehaaGreatProg
import Derived.Test.YtgchbhnchhiehaaGreatR7
set_option linter.unusedVariables false
set_option linter.unusedSimpArgs false
set_option maxRecDepth 10000
set_option maxHeartbeats 4000000
namespace Go.Proofs.YtgchbhnchhiehaaGreat
open Go.Th

theorem mixed : Tryz.prog.follows .mixedOrders = true := by kernel_rfl

theorem arena_cell.get_f_spec {x : arena_cell} {i v : Int} (h : arena_cell.get_f x i = some v) : (arena_cell.enc x)[i.toNat * 1]? = some (.int .i64 v) := by
  by_cases h0 : i = 0
  · subst h0; simp [arena_cell.get_f] at h; subst h; rfl
  by_cases h1 : i = 1
  · subst h1; simp [arena_cell.get_f] at h; subst h; rfl
  by_cases h2 : i = 2
  · subst h2; simp [arena_cell.get_f] at h; subst h; rfl
  by_cases h3 : i = 3
  · subst h3; simp [arena_cell.get_f] at h; subst h; rfl
  by_cases h4 : i = 4
  · subst h4; simp [arena_cell.get_f] at h; subst h; rfl
  by_cases h5 : i = 5
  · subst h5; simp [arena_cell.get_f] at h; subst h; rfl
  by_cases h6 : i = 6
  · subst h6; simp [arena_cell.get_f] at h; subst h; rfl
  by_cases h7 : i = 7
  · subst h7; simp [arena_cell.get_f] at h; subst h; rfl
  by_cases h8 : i = 8
  · subst h8; simp [arena_cell.get_f] at h; subst h; rfl
  by_cases h9 : i = 9
  · subst h9; simp [arena_cell.get_f] at h; subst h; rfl
  · simp [arena_cell.get_f, h0, h1, h2, h3, h4, h5, h6, h7, h8, h9] at h

theorem arena_cell.set_f_spec {x y : arena_cell} {i v : Int} (h : arena_cell.set_f x i v = some y) : arena_cell.enc y = putAt (arena_cell.enc x) (i.toNat * 1) [.int .i64 v] := by
  by_cases h0 : i = 0
  · subst h0; simp [arena_cell.set_f] at h; subst h; rfl
  by_cases h1 : i = 1
  · subst h1; simp [arena_cell.set_f] at h; subst h; rfl
  by_cases h2 : i = 2
  · subst h2; simp [arena_cell.set_f] at h; subst h; rfl
  by_cases h3 : i = 3
  · subst h3; simp [arena_cell.set_f] at h; subst h; rfl
  by_cases h4 : i = 4
  · subst h4; simp [arena_cell.set_f] at h; subst h; rfl
  by_cases h5 : i = 5
  · subst h5; simp [arena_cell.set_f] at h; subst h; rfl
  by_cases h6 : i = 6
  · subst h6; simp [arena_cell.set_f] at h; subst h; rfl
  by_cases h7 : i = 7
  · subst h7; simp [arena_cell.set_f] at h; subst h; rfl
  by_cases h8 : i = 8
  · subst h8; simp [arena_cell.set_f] at h; subst h; rfl
  by_cases h9 : i = 9
  · subst h9; simp [arena_cell.set_f] at h; subst h; rfl
  · simp [arena_cell.set_f, h0, h1, h2, h3, h4, h5, h6, h7, h8, h9] at h

theorem api_Ref.eq_in (w : World) (d : Nat) (x y : api_Ref) : (Op.equalIn (d + 2) 31 (.agg #[.int .i64 x.At, .int .i64 x.Gen]) (.agg #[.int .i64 y.At, .int .i64 y.Gen])).run Tryz.prog w = .ok (api_Ref.eq x y) w :=
  eqS_top (d + 1) rfl (by kernel_rfl) (eqF_cons (a := .int .i64 x.At) (b := .int .i64 y.At) rfl rfl (by kernel_rfl) (by kernel_rfl) (run_equalIn_int w _ _ _ _ _ _ rfl) (eqF_cons (a := .int .i64 x.Gen) (b := .int .i64 y.Gen) rfl rfl (by kernel_rfl) (by kernel_rfl) (run_equalIn_int w _ _ _ _ _ _ rfl) (eqF_nil rfl)))

theorem api_Ref.eq_run (x y : api_Ref) : EqRuns Tryz.prog 31 #[.int .i64 x.At, .int .i64 x.Gen] #[.int .i64 y.At, .int .i64 y.Gen] (api_Ref.eq x y) := fun w => api_Ref.eq_in w 9998 x y

theorem api_Ref.key_ok : KeyOk Tryz.prog 31 api_Ref.val api_Ref.eq :=
  KeyOk.struct (fs := Tryz.prog.fieldsOf 31) rfl (fun w em x => run_checkKey_struct 9999 (fs := Tryz.prog.fieldsOf 31) rfl w em (ck_cons (v := .int .i64 x.At) rfl rfl (by kernel_rfl) (run_checkKey_int 9998 rfl _ _ _) (ck_cons (v := .int .i64 x.Gen) rfl rfl (by kernel_rfl) (run_checkKey_int 9998 rfl _ _ _) (ck_nil rfl)))) (fun w x y => api_Ref.eq_run x y w) (fun x => by simp [api_Ref.val, Instr.sameBits]) (fun x y h => by cases x; cases y; simpa [api_Ref.eq] using h)

theorem api_Reply.eq_in (w : World) (d : Nat) (x y : api_Reply) : (Op.equalIn (d + 3) 35 (.agg #[.int .i64 x.Why, .int .i64 x.Job.At, .int .i64 x.Job.Gen, .int .i64 x.Time, .int .i64 x.Data, .int .i64 x.N]) (.agg #[.int .i64 y.Why, .int .i64 y.Job.At, .int .i64 y.Job.Gen, .int .i64 y.Time, .int .i64 y.Data, .int .i64 y.N])).run Tryz.prog w = .ok (api_Reply.eq x y) w :=
  eqS_top (d + 2) rfl (by kernel_rfl) (eqF_cons (a := .int .i64 x.Why) (b := .int .i64 y.Why) rfl rfl (by kernel_rfl) (by kernel_rfl) (run_equalIn_int w _ _ _ _ _ _ rfl) (eqF_cons (a := .agg #[.int .i64 x.Job.At, .int .i64 x.Job.Gen]) (b := .agg #[.int .i64 y.Job.At, .int .i64 y.Job.Gen]) rfl rfl (by kernel_rfl) (by kernel_rfl) (api_Ref.eq_in w d x.Job y.Job) (eqF_cons (a := .int .i64 x.Time) (b := .int .i64 y.Time) rfl rfl (by kernel_rfl) (by kernel_rfl) (run_equalIn_int w _ _ _ _ _ _ rfl) (eqF_cons (a := .int .i64 x.Data) (b := .int .i64 y.Data) rfl rfl (by kernel_rfl) (by kernel_rfl) (run_equalIn_int w _ _ _ _ _ _ rfl) (eqF_cons (a := .int .i64 x.N) (b := .int .i64 y.N) rfl rfl (by kernel_rfl) (by kernel_rfl) (run_equalIn_int w _ _ _ _ _ _ rfl) (eqF_nil rfl))))))

theorem api_Reply.eq_run (x y : api_Reply) : EqRuns Tryz.prog 35 #[.int .i64 x.Why, .int .i64 x.Job.At, .int .i64 x.Job.Gen, .int .i64 x.Time, .int .i64 x.Data, .int .i64 x.N] #[.int .i64 y.Why, .int .i64 y.Job.At, .int .i64 y.Job.Gen, .int .i64 y.Time, .int .i64 y.Data, .int .i64 y.N] (api_Reply.eq x y) := fun w => api_Reply.eq_in w 9997 x y

theorem api_Command.eq_in (w : World) (d : Nat) (x y : api_Command) : (Op.equalIn (d + 3) 33 (.agg #[.int .i64 x.Kind, .int .i64 x.Queue, .int .i64 x.Job.At, .int .i64 x.Job.Gen, .int .i64 x.Time, .int .i64 x.Data]) (.agg #[.int .i64 y.Kind, .int .i64 y.Queue, .int .i64 y.Job.At, .int .i64 y.Job.Gen, .int .i64 y.Time, .int .i64 y.Data])).run Tryz.prog w = .ok (api_Command.eq x y) w :=
  eqS_top (d + 2) rfl (by kernel_rfl) (eqF_cons (a := .int .i64 x.Kind) (b := .int .i64 y.Kind) rfl rfl (by kernel_rfl) (by kernel_rfl) (run_equalIn_int w _ _ _ _ _ _ rfl) (eqF_cons (a := .int .i64 x.Queue) (b := .int .i64 y.Queue) rfl rfl (by kernel_rfl) (by kernel_rfl) (run_equalIn_int w _ _ _ _ _ _ rfl) (eqF_cons (a := .agg #[.int .i64 x.Job.At, .int .i64 x.Job.Gen]) (b := .agg #[.int .i64 y.Job.At, .int .i64 y.Job.Gen]) rfl rfl (by kernel_rfl) (by kernel_rfl) (api_Ref.eq_in w d x.Job y.Job) (eqF_cons (a := .int .i64 x.Time) (b := .int .i64 y.Time) rfl rfl (by kernel_rfl) (by kernel_rfl) (run_equalIn_int w _ _ _ _ _ _ rfl) (eqF_cons (a := .int .i64 x.Data) (b := .int .i64 y.Data) rfl rfl (by kernel_rfl) (by kernel_rfl) (run_equalIn_int w _ _ _ _ _ _ rfl) (eqF_nil rfl))))))

theorem api_Command.eq_run (x y : api_Command) : EqRuns Tryz.prog 33 #[.int .i64 x.Kind, .int .i64 x.Queue, .int .i64 x.Job.At, .int .i64 x.Job.Gen, .int .i64 x.Time, .int .i64 x.Data] #[.int .i64 y.Kind, .int .i64 y.Queue, .int .i64 y.Job.At, .int .i64 y.Job.Gen, .int .i64 y.Time, .int .i64 y.Data] (api_Command.eq x y) := fun w => api_Command.eq_in w 9997 x y

structure arena_Arena.A where
  l_b : Option Addr
  l_c : Nat
  free_b : Option Addr
  free_c : Nat
  m__p : Nat
instance : Inhabited arena_Arena.A := ⟨arena_Arena.A.mk default default default default default⟩

structure pool_Pool_slots_heap.A where
  l_b : Option Addr
  l_c : Nat
  free_b : Option Addr
  free_c : Nat
instance : Inhabited pool_Pool_slots_heap.A := ⟨pool_Pool_slots_heap.A.mk default default default default⟩

structure pool_Pool_slots_thing.A where
  l_b : Option Addr
  l_c : Nat
  free_b : Option Addr
  free_c : Nat
instance : Inhabited pool_Pool_slots_thing.A := ⟨pool_Pool_slots_thing.A.mk default default default default⟩

structure slots_Table.A where
  heaps_p : Nat
  heaps_a : pool_Pool_slots_heap.A
  items_p : Nat
  items_a : pool_Pool_slots_thing.A
  at__p : Nat
instance : Inhabited slots_Table.A := ⟨slots_Table.A.mk default default default default default⟩

structure pq_Queues.A where
  a__p : Nat
  a__a : arena_Arena.A
  t__p : Nat
  t__a : slots_Table.A
  entries_p : Nat
instance : Inhabited pq_Queues.A := ⟨pq_Queues.A.mk default default default default default⟩

structure pool_Pool_jobs_Job.A where
  l_b : Option Addr
  l_c : Nat
  free_b : Option Addr
  free_c : Nat
instance : Inhabited pool_Pool_jobs_Job.A := ⟨pool_Pool_jobs_Job.A.mk default default default default⟩

structure jobs_Table.A where
  p_p : Nat
  p_a : pool_Pool_jobs_Job.A
  by__p : Nat
instance : Inhabited jobs_Table.A := ⟨jobs_Table.A.mk default default default⟩

structure dispatch_Dispatcher.A where
  q_p : Nat
  q_a : pq_Queues.A
  t__p : Nat
  t__a : jobs_Table.A
  when_p : Nat
  clock_p : Nat
instance : Inhabited dispatch_Dispatcher.A := ⟨dispatch_Dispatcher.A.mk default default default default default default⟩

structure mail_Box_api_Command.A where
  c__p : Nat
instance : Inhabited mail_Box_api_Command.A := ⟨mail_Box_api_Command.A.mk default⟩

structure mail_Desk_api_Command.A where
  l_b : Option Addr
  l_c : Nat
instance : Inhabited mail_Desk_api_Command.A := ⟨mail_Desk_api_Command.A.mk default default⟩

structure server_Server.A where
  d_p : Nat
  d_a : dispatch_Dispatcher.A
  desk_p : Nat
  desk_a : mail_Desk_api_Command.A
instance : Inhabited server_Server.A := ⟨server_Server.A.mk default default default default⟩

structure trace_Book.A where
  s_p : Nat
  s_a : server_Server.A
  l_b : Option Addr
  l_c : Nat
instance : Inhabited trace_Book.A := ⟨trace_Book.A.mk default default default default⟩

structure thicketref2_Pool.A where
  Gens_b : Option Addr
  Gens_c : Nat
  In_b : Option Addr
  In_c : Nat
  V_b : Option Addr
  V_c : Nat
  Back_b : Option Addr
  Back_c : Nat
instance : Inhabited thicketref2_Pool.A := ⟨thicketref2_Pool.A.mk default default default default default default default default⟩

structure thicketref22_Dispatcher.A where
  Pool_p : Nat
  Pool_a : thicketref2_Pool.A
  L_b : Option Addr
  L_c : Nat
instance : Inhabited thicketref22_Dispatcher.A := ⟨thicketref22_Dispatcher.A.mk default default default default⟩

def meter_Meter.R (p : Nat) (m : meter_Meter) : HP := sepL [Blk p 205 [.int .i64 m.steps, .int .i64 m.begun, .int .i64 m.most]]

theorem meter_Meter.open {w0 w : World} {As : List HP} {p : Nat} {m : meter_Meter} (H : St w0 (meter_Meter.R p m :: As) w) : St w0 (Blk p 205 [.int .i64 m.steps, .int .i64 m.begun, .int .i64 m.most] :: As) w := St.flat H

theorem meter_Meter.shut {w0 w : World} {As : List HP} {p : Nat} (m : meter_Meter) (H : St w0 (Blk p 205 [.int .i64 m.steps, .int .i64 m.begun, .int .i64 m.most] :: As) w) : St w0 (meter_Meter.R p m :: As) w := St.group [Blk p 205 [.int .i64 m.steps, .int .i64 m.begun, .int .i64 m.most]] H

def arena_Arena.R (p : Nat) (al : arena_Arena.A) (m : arena_Arena) : HP := sepL [Blk p 192 [.slice al.l_b m.l.length al.l_c, .int .i64 m.never, .slice al.free_b m.free.length al.free_c, .pointer (some ⟨al.m__p, 0, none⟩)], Sl 267 arena_cell.enc 11 al.l_b al.l_c m.l, Sl 3 ecI 1 al.free_b al.free_c m.free, meter_Meter.R al.m__p m.m_]

theorem arena_Arena.open {w0 w : World} {As : List HP} {p : Nat} {al : arena_Arena.A} {m : arena_Arena} (H : St w0 (arena_Arena.R p al m :: As) w) : St w0 (Blk p 192 [.slice al.l_b m.l.length al.l_c, .int .i64 m.never, .slice al.free_b m.free.length al.free_c, .pointer (some ⟨al.m__p, 0, none⟩)] :: Sl 267 arena_cell.enc 11 al.l_b al.l_c m.l :: Sl 3 ecI 1 al.free_b al.free_c m.free :: meter_Meter.R al.m__p m.m_ :: As) w := St.flat H

theorem arena_Arena.shut {w0 w : World} {As : List HP} {p : Nat} (al : arena_Arena.A) (m : arena_Arena) (H : St w0 (Blk p 192 [.slice al.l_b m.l.length al.l_c, .int .i64 m.never, .slice al.free_b m.free.length al.free_c, .pointer (some ⟨al.m__p, 0, none⟩)] :: Sl 267 arena_cell.enc 11 al.l_b al.l_c m.l :: Sl 3 ecI 1 al.free_b al.free_c m.free :: meter_Meter.R al.m__p m.m_ :: As) w) : St w0 (arena_Arena.R p al m :: As) w := St.group [Blk p 192 [.slice al.l_b m.l.length al.l_c, .int .i64 m.never, .slice al.free_b m.free.length al.free_c, .pointer (some ⟨al.m__p, 0, none⟩)], Sl 267 arena_cell.enc 11 al.l_b al.l_c m.l, Sl 3 ecI 1 al.free_b al.free_c m.free, meter_Meter.R al.m__p m.m_] H

def pool_Pool_slots_heap.R (p : Nat) (al : pool_Pool_slots_heap.A) (m : pool_Pool_slots_heap) : HP := sepL [Blk p 237 [.int .i64 m.most, .slice al.l_b m.l.length al.l_c, .slice al.free_b m.free.length al.free_c], Sl 242 pool_place_slots_heap.enc 5 al.l_b al.l_c m.l, Sl 3 ecI 1 al.free_b al.free_c m.free]

theorem pool_Pool_slots_heap.open {w0 w : World} {As : List HP} {p : Nat} {al : pool_Pool_slots_heap.A} {m : pool_Pool_slots_heap} (H : St w0 (pool_Pool_slots_heap.R p al m :: As) w) : St w0 (Blk p 237 [.int .i64 m.most, .slice al.l_b m.l.length al.l_c, .slice al.free_b m.free.length al.free_c] :: Sl 242 pool_place_slots_heap.enc 5 al.l_b al.l_c m.l :: Sl 3 ecI 1 al.free_b al.free_c m.free :: As) w := St.flat H

theorem pool_Pool_slots_heap.shut {w0 w : World} {As : List HP} {p : Nat} (al : pool_Pool_slots_heap.A) (m : pool_Pool_slots_heap) (H : St w0 (Blk p 237 [.int .i64 m.most, .slice al.l_b m.l.length al.l_c, .slice al.free_b m.free.length al.free_c] :: Sl 242 pool_place_slots_heap.enc 5 al.l_b al.l_c m.l :: Sl 3 ecI 1 al.free_b al.free_c m.free :: As) w) : St w0 (pool_Pool_slots_heap.R p al m :: As) w := St.group [Blk p 237 [.int .i64 m.most, .slice al.l_b m.l.length al.l_c, .slice al.free_b m.free.length al.free_c], Sl 242 pool_place_slots_heap.enc 5 al.l_b al.l_c m.l, Sl 3 ecI 1 al.free_b al.free_c m.free] H

def pool_Pool_slots_thing.R (p : Nat) (al : pool_Pool_slots_thing.A) (m : pool_Pool_slots_thing) : HP := sepL [Blk p 240 [.int .i64 m.most, .slice al.l_b m.l.length al.l_c, .slice al.free_b m.free.length al.free_c], Sl 275 pool_place_slots_thing.enc 5 al.l_b al.l_c m.l, Sl 3 ecI 1 al.free_b al.free_c m.free]

theorem pool_Pool_slots_thing.open {w0 w : World} {As : List HP} {p : Nat} {al : pool_Pool_slots_thing.A} {m : pool_Pool_slots_thing} (H : St w0 (pool_Pool_slots_thing.R p al m :: As) w) : St w0 (Blk p 240 [.int .i64 m.most, .slice al.l_b m.l.length al.l_c, .slice al.free_b m.free.length al.free_c] :: Sl 275 pool_place_slots_thing.enc 5 al.l_b al.l_c m.l :: Sl 3 ecI 1 al.free_b al.free_c m.free :: As) w := St.flat H

theorem pool_Pool_slots_thing.shut {w0 w : World} {As : List HP} {p : Nat} (al : pool_Pool_slots_thing.A) (m : pool_Pool_slots_thing) (H : St w0 (Blk p 240 [.int .i64 m.most, .slice al.l_b m.l.length al.l_c, .slice al.free_b m.free.length al.free_c] :: Sl 275 pool_place_slots_thing.enc 5 al.l_b al.l_c m.l :: Sl 3 ecI 1 al.free_b al.free_c m.free :: As) w) : St w0 (pool_Pool_slots_thing.R p al m :: As) w := St.group [Blk p 240 [.int .i64 m.most, .slice al.l_b m.l.length al.l_c, .slice al.free_b m.free.length al.free_c], Sl 275 pool_place_slots_thing.enc 5 al.l_b al.l_c m.l, Sl 3 ecI 1 al.free_b al.free_c m.free] H

def slots_Table.R (p : Nat) (al : slots_Table.A) (m : slots_Table) : HP := sepL [Blk p 203 [.pointer (some ⟨al.heaps_p, 0, none⟩), .pointer (some ⟨al.items_p, 0, none⟩), .map (some al.at__p)], pool_Pool_slots_heap.R al.heaps_p al.heaps_a m.heaps, pool_Pool_slots_thing.R al.items_p al.items_a m.items, MpA al.at__p vI api_Ref.val m.at_]

theorem slots_Table.open {w0 w : World} {As : List HP} {p : Nat} {al : slots_Table.A} {m : slots_Table} (H : St w0 (slots_Table.R p al m :: As) w) : St w0 (Blk p 203 [.pointer (some ⟨al.heaps_p, 0, none⟩), .pointer (some ⟨al.items_p, 0, none⟩), .map (some al.at__p)] :: pool_Pool_slots_heap.R al.heaps_p al.heaps_a m.heaps :: pool_Pool_slots_thing.R al.items_p al.items_a m.items :: MpA al.at__p vI api_Ref.val m.at_ :: As) w := St.flat H

theorem slots_Table.shut {w0 w : World} {As : List HP} {p : Nat} (al : slots_Table.A) (m : slots_Table) (H : St w0 (Blk p 203 [.pointer (some ⟨al.heaps_p, 0, none⟩), .pointer (some ⟨al.items_p, 0, none⟩), .map (some al.at__p)] :: pool_Pool_slots_heap.R al.heaps_p al.heaps_a m.heaps :: pool_Pool_slots_thing.R al.items_p al.items_a m.items :: MpA al.at__p vI api_Ref.val m.at_ :: As) w) : St w0 (slots_Table.R p al m :: As) w := St.group [Blk p 203 [.pointer (some ⟨al.heaps_p, 0, none⟩), .pointer (some ⟨al.items_p, 0, none⟩), .map (some al.at__p)], pool_Pool_slots_heap.R al.heaps_p al.heaps_a m.heaps, pool_Pool_slots_thing.R al.items_p al.items_a m.items, MpA al.at__p vI api_Ref.val m.at_] H

def pq_Queues.R (p : Nat) (al : pq_Queues.A) (m : pq_Queues) : HP := sepL [Blk p 155 [.int .i64 m.items, .pointer (some ⟨al.a__p, 0, none⟩), .pointer (some ⟨al.t__p, 0, none⟩), .map (some al.entries_p), .int .i64 m.serial], arena_Arena.R al.a__p al.a__a m.a_, slots_Table.R al.t__p al.t__a m.t_, MpA al.entries_p api_Ref.val api_Entry.val m.entries]

theorem pq_Queues.open {w0 w : World} {As : List HP} {p : Nat} {al : pq_Queues.A} {m : pq_Queues} (H : St w0 (pq_Queues.R p al m :: As) w) : St w0 (Blk p 155 [.int .i64 m.items, .pointer (some ⟨al.a__p, 0, none⟩), .pointer (some ⟨al.t__p, 0, none⟩), .map (some al.entries_p), .int .i64 m.serial] :: arena_Arena.R al.a__p al.a__a m.a_ :: slots_Table.R al.t__p al.t__a m.t_ :: MpA al.entries_p api_Ref.val api_Entry.val m.entries :: As) w := St.flat H

theorem pq_Queues.shut {w0 w : World} {As : List HP} {p : Nat} (al : pq_Queues.A) (m : pq_Queues) (H : St w0 (Blk p 155 [.int .i64 m.items, .pointer (some ⟨al.a__p, 0, none⟩), .pointer (some ⟨al.t__p, 0, none⟩), .map (some al.entries_p), .int .i64 m.serial] :: arena_Arena.R al.a__p al.a__a m.a_ :: slots_Table.R al.t__p al.t__a m.t_ :: MpA al.entries_p api_Ref.val api_Entry.val m.entries :: As) w) : St w0 (pq_Queues.R p al m :: As) w := St.group [Blk p 155 [.int .i64 m.items, .pointer (some ⟨al.a__p, 0, none⟩), .pointer (some ⟨al.t__p, 0, none⟩), .map (some al.entries_p), .int .i64 m.serial], arena_Arena.R al.a__p al.a__a m.a_, slots_Table.R al.t__p al.t__a m.t_, MpA al.entries_p api_Ref.val api_Entry.val m.entries] H

def pool_Pool_jobs_Job.R (p : Nat) (al : pool_Pool_jobs_Job.A) (m : pool_Pool_jobs_Job) : HP := sepL [Blk p 184 [.int .i64 m.most, .slice al.l_b m.l.length al.l_c, .slice al.free_b m.free.length al.free_c], Sl 186 pool_place_jobs_Job.enc 7 al.l_b al.l_c m.l, Sl 3 ecI 1 al.free_b al.free_c m.free]

theorem pool_Pool_jobs_Job.open {w0 w : World} {As : List HP} {p : Nat} {al : pool_Pool_jobs_Job.A} {m : pool_Pool_jobs_Job} (H : St w0 (pool_Pool_jobs_Job.R p al m :: As) w) : St w0 (Blk p 184 [.int .i64 m.most, .slice al.l_b m.l.length al.l_c, .slice al.free_b m.free.length al.free_c] :: Sl 186 pool_place_jobs_Job.enc 7 al.l_b al.l_c m.l :: Sl 3 ecI 1 al.free_b al.free_c m.free :: As) w := St.flat H

theorem pool_Pool_jobs_Job.shut {w0 w : World} {As : List HP} {p : Nat} (al : pool_Pool_jobs_Job.A) (m : pool_Pool_jobs_Job) (H : St w0 (Blk p 184 [.int .i64 m.most, .slice al.l_b m.l.length al.l_c, .slice al.free_b m.free.length al.free_c] :: Sl 186 pool_place_jobs_Job.enc 7 al.l_b al.l_c m.l :: Sl 3 ecI 1 al.free_b al.free_c m.free :: As) w) : St w0 (pool_Pool_jobs_Job.R p al m :: As) w := St.group [Blk p 184 [.int .i64 m.most, .slice al.l_b m.l.length al.l_c, .slice al.free_b m.free.length al.free_c], Sl 186 pool_place_jobs_Job.enc 7 al.l_b al.l_c m.l, Sl 3 ecI 1 al.free_b al.free_c m.free] H

def jobs_Table.R (p : Nat) (al : jobs_Table.A) (m : jobs_Table) : HP := sepL [Blk p 145 [.pointer (some ⟨al.p_p, 0, none⟩), .map (some al.by__p)], pool_Pool_jobs_Job.R al.p_p al.p_a m.p, MpA al.by__p api_Ref.val api_Ref.val m.by_]

theorem jobs_Table.open {w0 w : World} {As : List HP} {p : Nat} {al : jobs_Table.A} {m : jobs_Table} (H : St w0 (jobs_Table.R p al m :: As) w) : St w0 (Blk p 145 [.pointer (some ⟨al.p_p, 0, none⟩), .map (some al.by__p)] :: pool_Pool_jobs_Job.R al.p_p al.p_a m.p :: MpA al.by__p api_Ref.val api_Ref.val m.by_ :: As) w := St.flat H

theorem jobs_Table.shut {w0 w : World} {As : List HP} {p : Nat} (al : jobs_Table.A) (m : jobs_Table) (H : St w0 (Blk p 145 [.pointer (some ⟨al.p_p, 0, none⟩), .map (some al.by__p)] :: pool_Pool_jobs_Job.R al.p_p al.p_a m.p :: MpA al.by__p api_Ref.val api_Ref.val m.by_ :: As) w) : St w0 (jobs_Table.R p al m :: As) w := St.group [Blk p 145 [.pointer (some ⟨al.p_p, 0, none⟩), .map (some al.by__p)], pool_Pool_jobs_Job.R al.p_p al.p_a m.p, MpA al.by__p api_Ref.val api_Ref.val m.by_] H

def clock_Clock.R (p : Nat) (m : clock_Clock) : HP := sepL [Blk p 147 [.int .i64 m.now]]

theorem clock_Clock.open {w0 w : World} {As : List HP} {p : Nat} {m : clock_Clock} (H : St w0 (clock_Clock.R p m :: As) w) : St w0 (Blk p 147 [.int .i64 m.now] :: As) w := St.flat H

theorem clock_Clock.shut {w0 w : World} {As : List HP} {p : Nat} (m : clock_Clock) (H : St w0 (Blk p 147 [.int .i64 m.now] :: As) w) : St w0 (clock_Clock.R p m :: As) w := St.group [Blk p 147 [.int .i64 m.now]] H

def dispatch_Dispatcher.R (p : Nat) (al : dispatch_Dispatcher.A) (m : dispatch_Dispatcher) : HP := sepL [Blk p 105 [.int .i64 m.kind, .int .i64 m.most, .pointer (some ⟨al.q_p, 0, none⟩), .int .i64 m.heaps0.At, .int .i64 m.heaps0.Gen, .int .i64 m.heaps1.At, .int .i64 m.heaps1.Gen, .pointer (some ⟨al.t__p, 0, none⟩), .map (some al.when_p), .pointer (some ⟨al.clock_p, 0, none⟩), .int .i64 m.budget, .int .i64 m.last, .int .i64 m.top], pq_Queues.R al.q_p al.q_a m.q, jobs_Table.R al.t__p al.t__a m.t_, MpA al.when_p api_Ref.val vI m.when, clock_Clock.R al.clock_p m.clock]

theorem dispatch_Dispatcher.open {w0 w : World} {As : List HP} {p : Nat} {al : dispatch_Dispatcher.A} {m : dispatch_Dispatcher} (H : St w0 (dispatch_Dispatcher.R p al m :: As) w) : St w0 (Blk p 105 [.int .i64 m.kind, .int .i64 m.most, .pointer (some ⟨al.q_p, 0, none⟩), .int .i64 m.heaps0.At, .int .i64 m.heaps0.Gen, .int .i64 m.heaps1.At, .int .i64 m.heaps1.Gen, .pointer (some ⟨al.t__p, 0, none⟩), .map (some al.when_p), .pointer (some ⟨al.clock_p, 0, none⟩), .int .i64 m.budget, .int .i64 m.last, .int .i64 m.top] :: pq_Queues.R al.q_p al.q_a m.q :: jobs_Table.R al.t__p al.t__a m.t_ :: MpA al.when_p api_Ref.val vI m.when :: clock_Clock.R al.clock_p m.clock :: As) w := St.flat H

theorem dispatch_Dispatcher.shut {w0 w : World} {As : List HP} {p : Nat} (al : dispatch_Dispatcher.A) (m : dispatch_Dispatcher) (H : St w0 (Blk p 105 [.int .i64 m.kind, .int .i64 m.most, .pointer (some ⟨al.q_p, 0, none⟩), .int .i64 m.heaps0.At, .int .i64 m.heaps0.Gen, .int .i64 m.heaps1.At, .int .i64 m.heaps1.Gen, .pointer (some ⟨al.t__p, 0, none⟩), .map (some al.when_p), .pointer (some ⟨al.clock_p, 0, none⟩), .int .i64 m.budget, .int .i64 m.last, .int .i64 m.top] :: pq_Queues.R al.q_p al.q_a m.q :: jobs_Table.R al.t__p al.t__a m.t_ :: MpA al.when_p api_Ref.val vI m.when :: clock_Clock.R al.clock_p m.clock :: As) w) : St w0 (dispatch_Dispatcher.R p al m :: As) w := St.group [Blk p 105 [.int .i64 m.kind, .int .i64 m.most, .pointer (some ⟨al.q_p, 0, none⟩), .int .i64 m.heaps0.At, .int .i64 m.heaps0.Gen, .int .i64 m.heaps1.At, .int .i64 m.heaps1.Gen, .pointer (some ⟨al.t__p, 0, none⟩), .map (some al.when_p), .pointer (some ⟨al.clock_p, 0, none⟩), .int .i64 m.budget, .int .i64 m.last, .int .i64 m.top], pq_Queues.R al.q_p al.q_a m.q, jobs_Table.R al.t__p al.t__a m.t_, MpA al.when_p api_Ref.val vI m.when, clock_Clock.R al.clock_p m.clock] H

def mail_Box_api_Command.R (p : Nat) (al : mail_Box_api_Command.A) (m : mail_Box_api_Command) : HP := sepL [Blk p 169 [.chan (some al.c__p)], ChM al.c__p api_Command.val m.c_]

theorem mail_Box_api_Command.open {w0 w : World} {As : List HP} {p : Nat} {al : mail_Box_api_Command.A} {m : mail_Box_api_Command} (H : St w0 (mail_Box_api_Command.R p al m :: As) w) : St w0 (Blk p 169 [.chan (some al.c__p)] :: ChM al.c__p api_Command.val m.c_ :: As) w := St.flat H

theorem mail_Box_api_Command.shut {w0 w : World} {As : List HP} {p : Nat} (al : mail_Box_api_Command.A) (m : mail_Box_api_Command) (H : St w0 (Blk p 169 [.chan (some al.c__p)] :: ChM al.c__p api_Command.val m.c_ :: As) w) : St w0 (mail_Box_api_Command.R p al m :: As) w := St.group [Blk p 169 [.chan (some al.c__p)], ChM al.c__p api_Command.val m.c_] H

def mail_Box_api_Command.encX (g : Nat × mail_Box_api_Command.A) : List Value := [.pointer (some ⟨g.1, 0, none⟩)]
def mail_Box_api_Command.RX (g : Nat × mail_Box_api_Command.A) (x : mail_Box_api_Command) : HP := mail_Box_api_Command.R g.1 g.2 x

theorem mail_Box_api_Command.encX_ok : EncOk mail_Box_api_Command.encX 1 := ⟨fun _ => rfl, fun x u hu => by simp [mail_Box_api_Command.encX] at hu; subst hu; rfl⟩

def mail_Desk_api_Command.R (p : Nat) (al : mail_Desk_api_Command.A) (m : mail_Desk_api_Command) : HP := sepL [Blk p 128 [.slice al.l_b m.l.length al.l_c], SlX 129 mail_Box_api_Command.encX mail_Box_api_Command.RX al.l_b al.l_c m.l]

theorem mail_Desk_api_Command.open {w0 w : World} {As : List HP} {p : Nat} {al : mail_Desk_api_Command.A} {m : mail_Desk_api_Command} (H : St w0 (mail_Desk_api_Command.R p al m :: As) w) : St w0 (Blk p 128 [.slice al.l_b m.l.length al.l_c] :: SlX 129 mail_Box_api_Command.encX mail_Box_api_Command.RX al.l_b al.l_c m.l :: As) w := St.flat H

theorem mail_Desk_api_Command.shut {w0 w : World} {As : List HP} {p : Nat} (al : mail_Desk_api_Command.A) (m : mail_Desk_api_Command) (H : St w0 (Blk p 128 [.slice al.l_b m.l.length al.l_c] :: SlX 129 mail_Box_api_Command.encX mail_Box_api_Command.RX al.l_b al.l_c m.l :: As) w) : St w0 (mail_Desk_api_Command.R p al m :: As) w := St.group [Blk p 128 [.slice al.l_b m.l.length al.l_c], SlX 129 mail_Box_api_Command.encX mail_Box_api_Command.RX al.l_b al.l_c m.l] H

def server_Server.R (p : Nat) (al : server_Server.A) (m : server_Server) : HP := sepL [Blk p 81 [.pointer (some ⟨al.d_p, 0, none⟩), .pointer (some ⟨al.desk_p, 0, none⟩)], dispatch_Dispatcher.R al.d_p al.d_a m.d, mail_Desk_api_Command.R al.desk_p al.desk_a m.desk]

theorem server_Server.open {w0 w : World} {As : List HP} {p : Nat} {al : server_Server.A} {m : server_Server} (H : St w0 (server_Server.R p al m :: As) w) : St w0 (Blk p 81 [.pointer (some ⟨al.d_p, 0, none⟩), .pointer (some ⟨al.desk_p, 0, none⟩)] :: dispatch_Dispatcher.R al.d_p al.d_a m.d :: mail_Desk_api_Command.R al.desk_p al.desk_a m.desk :: As) w := St.flat H

theorem server_Server.shut {w0 w : World} {As : List HP} {p : Nat} (al : server_Server.A) (m : server_Server) (H : St w0 (Blk p 81 [.pointer (some ⟨al.d_p, 0, none⟩), .pointer (some ⟨al.desk_p, 0, none⟩)] :: dispatch_Dispatcher.R al.d_p al.d_a m.d :: mail_Desk_api_Command.R al.desk_p al.desk_a m.desk :: As) w) : St w0 (server_Server.R p al m :: As) w := St.group [Blk p 81 [.pointer (some ⟨al.d_p, 0, none⟩), .pointer (some ⟨al.desk_p, 0, none⟩)], dispatch_Dispatcher.R al.d_p al.d_a m.d, mail_Desk_api_Command.R al.desk_p al.desk_a m.desk] H

def trace_Book.R (p : Nat) (al : trace_Book.A) (m : trace_Book) : HP := sepL [Blk p 96 [.pointer (some ⟨al.s_p, 0, none⟩), .slice al.l_b m.l.length al.l_c], server_Server.R al.s_p al.s_a m.s, Sl 61 trace_Event.enc 14 al.l_b al.l_c m.l]

theorem trace_Book.open {w0 w : World} {As : List HP} {p : Nat} {al : trace_Book.A} {m : trace_Book} (H : St w0 (trace_Book.R p al m :: As) w) : St w0 (Blk p 96 [.pointer (some ⟨al.s_p, 0, none⟩), .slice al.l_b m.l.length al.l_c] :: server_Server.R al.s_p al.s_a m.s :: Sl 61 trace_Event.enc 14 al.l_b al.l_c m.l :: As) w := St.flat H

theorem trace_Book.shut {w0 w : World} {As : List HP} {p : Nat} (al : trace_Book.A) (m : trace_Book) (H : St w0 (Blk p 96 [.pointer (some ⟨al.s_p, 0, none⟩), .slice al.l_b m.l.length al.l_c] :: server_Server.R al.s_p al.s_a m.s :: Sl 61 trace_Event.enc 14 al.l_b al.l_c m.l :: As) w) : St w0 (trace_Book.R p al m :: As) w := St.group [Blk p 96 [.pointer (some ⟨al.s_p, 0, none⟩), .slice al.l_b m.l.length al.l_c], server_Server.R al.s_p al.s_a m.s, Sl 61 trace_Event.enc 14 al.l_b al.l_c m.l] H

def thicketref2_Pool.R (p : Nat) (al : thicketref2_Pool.A) (m : thicketref2_Pool) : HP := sepL [Blk p 177 [.int .i64 m.Most, .slice al.Gens_b m.Gens.length al.Gens_c, .slice al.In_b m.In.length al.In_c, .slice al.V_b m.V.length al.V_c, .slice al.Back_b m.Back.length al.Back_c], Sl 3 ecI 1 al.Gens_b al.Gens_c m.Gens, Sl 4 ecB 1 al.In_b al.In_c m.In, Sl 2 ecI 1 al.V_b al.V_c m.V, Sl 3 ecI 1 al.Back_b al.Back_c m.Back]

theorem thicketref2_Pool.open {w0 w : World} {As : List HP} {p : Nat} {al : thicketref2_Pool.A} {m : thicketref2_Pool} (H : St w0 (thicketref2_Pool.R p al m :: As) w) : St w0 (Blk p 177 [.int .i64 m.Most, .slice al.Gens_b m.Gens.length al.Gens_c, .slice al.In_b m.In.length al.In_c, .slice al.V_b m.V.length al.V_c, .slice al.Back_b m.Back.length al.Back_c] :: Sl 3 ecI 1 al.Gens_b al.Gens_c m.Gens :: Sl 4 ecB 1 al.In_b al.In_c m.In :: Sl 2 ecI 1 al.V_b al.V_c m.V :: Sl 3 ecI 1 al.Back_b al.Back_c m.Back :: As) w := St.flat H

theorem thicketref2_Pool.shut {w0 w : World} {As : List HP} {p : Nat} (al : thicketref2_Pool.A) (m : thicketref2_Pool) (H : St w0 (Blk p 177 [.int .i64 m.Most, .slice al.Gens_b m.Gens.length al.Gens_c, .slice al.In_b m.In.length al.In_c, .slice al.V_b m.V.length al.V_c, .slice al.Back_b m.Back.length al.Back_c] :: Sl 3 ecI 1 al.Gens_b al.Gens_c m.Gens :: Sl 4 ecB 1 al.In_b al.In_c m.In :: Sl 2 ecI 1 al.V_b al.V_c m.V :: Sl 3 ecI 1 al.Back_b al.Back_c m.Back :: As) w) : St w0 (thicketref2_Pool.R p al m :: As) w := St.group [Blk p 177 [.int .i64 m.Most, .slice al.Gens_b m.Gens.length al.Gens_c, .slice al.In_b m.In.length al.In_c, .slice al.V_b m.V.length al.V_c, .slice al.Back_b m.Back.length al.Back_c], Sl 3 ecI 1 al.Gens_b al.Gens_c m.Gens, Sl 4 ecB 1 al.In_b al.In_c m.In, Sl 2 ecI 1 al.V_b al.V_c m.V, Sl 3 ecI 1 al.Back_b al.Back_c m.Back] H

def thicketref22_Dispatcher.R (p : Nat) (al : thicketref22_Dispatcher.A) (m : thicketref22_Dispatcher) : HP := sepL [Blk p 94 [.int .i64 m.Most, .int .i64 m.Now, .int .i64 m.Next, .pointer (some ⟨al.Pool_p, 0, none⟩), .slice al.L_b m.L.length al.L_c], thicketref2_Pool.R al.Pool_p al.Pool_a m.Pool, Sl 139 thicketref22_Job.enc 6 al.L_b al.L_c m.L]

theorem thicketref22_Dispatcher.open {w0 w : World} {As : List HP} {p : Nat} {al : thicketref22_Dispatcher.A} {m : thicketref22_Dispatcher} (H : St w0 (thicketref22_Dispatcher.R p al m :: As) w) : St w0 (Blk p 94 [.int .i64 m.Most, .int .i64 m.Now, .int .i64 m.Next, .pointer (some ⟨al.Pool_p, 0, none⟩), .slice al.L_b m.L.length al.L_c] :: thicketref2_Pool.R al.Pool_p al.Pool_a m.Pool :: Sl 139 thicketref22_Job.enc 6 al.L_b al.L_c m.L :: As) w := St.flat H

theorem thicketref22_Dispatcher.shut {w0 w : World} {As : List HP} {p : Nat} (al : thicketref22_Dispatcher.A) (m : thicketref22_Dispatcher) (H : St w0 (Blk p 94 [.int .i64 m.Most, .int .i64 m.Now, .int .i64 m.Next, .pointer (some ⟨al.Pool_p, 0, none⟩), .slice al.L_b m.L.length al.L_c] :: thicketref2_Pool.R al.Pool_p al.Pool_a m.Pool :: Sl 139 thicketref22_Job.enc 6 al.L_b al.L_c m.L :: As) w) : St w0 (thicketref22_Dispatcher.R p al m :: As) w := St.group [Blk p 94 [.int .i64 m.Most, .int .i64 m.Now, .int .i64 m.Next, .pointer (some ⟨al.Pool_p, 0, none⟩), .slice al.L_b m.L.length al.L_c], thicketref2_Pool.R al.Pool_p al.Pool_a m.Pool, Sl 139 thicketref22_Job.enc 6 al.L_b al.L_c m.L] H

def api_Call.dec (l : List Value) : Option api_Call := match l with
  | [.int _ x1, .int _ x2, .int _ x3, .int _ x4, .int _ x5, .int _ x6, .int _ x7, .int _ x8, .int _ x9] => some (api_Call.mk x1 x2 (api_Ref.mk x3 x4) (api_Ref.mk x5 x6) (api_Ref.mk x7 x8) x9)
  | _ => none
def api_Call.dv (v : Value) : Option api_Call := match v with
  | .agg cs => api_Call.dec cs.toList
  | _ => none

def api_Ref.dec (l : List Value) : Option api_Ref := match l with
  | [.int _ x1, .int _ x2] => some (api_Ref.mk x1 x2)
  | _ => none
def api_Ref.dv (v : Value) : Option api_Ref := match v with
  | .agg cs => api_Ref.dec cs.toList
  | _ => none

def slots_heap.dec (l : List Value) : Option slots_heap := match l with
  | [.int _ x1, .int _ x2, .int _ x3] => some (slots_heap.mk x1 x2 x3)
  | _ => none
def slots_heap.dv (v : Value) : Option slots_heap := match v with
  | .agg cs => slots_heap.dec cs.toList
  | _ => none

def api_Answer.dec (l : List Value) : Option api_Answer := match l with
  | [.int _ x1, .int _ x2, .int _ x3, .int _ x4, .int _ x5, .int _ x6, .int _ x7, .int _ x8] => some (api_Answer.mk x1 (api_Ref.mk x2 x3) (api_Ref.mk x4 x5) (api_Entry.mk x6 x7) x8)
  | _ => none
def api_Answer.dv (v : Value) : Option api_Answer := match v with
  | .agg cs => api_Answer.dec cs.toList
  | _ => none

def arena_cell.dec (l : List Value) : Option arena_cell := match l with
  | [.int _ x1, .int _ x2, .int _ x3, .int _ x4, .int _ x5, .int _ x6, .int _ x7, .int _ x8, .int _ x9, .int _ x10, .bool x11] => some (arena_cell.mk x1 x2 x3 x4 x5 x6 x7 x8 x9 x10 x11)
  | _ => none
def arena_cell.dv (v : Value) : Option arena_cell := match v with
  | .agg cs => arena_cell.dec cs.toList
  | _ => none

def api_Entry.dec (l : List Value) : Option api_Entry := match l with
  | [.int _ x1, .int _ x2] => some (api_Entry.mk x1 x2)
  | _ => none
def api_Entry.dv (v : Value) : Option api_Entry := match v with
  | .agg cs => api_Entry.dec cs.toList
  | _ => none

def trees_ranked.dec (l : List Value) : Option trees_ranked := match l with
  | [.int _ x1, .int _ x2] => some (trees_ranked.mk x1 x2)
  | _ => none
def trees_ranked.dv (v : Value) : Option trees_ranked := match v with
  | .agg cs => trees_ranked.dec cs.toList
  | _ => none

def slots_thing.dec (l : List Value) : Option slots_thing := match l with
  | [.int _ x1, .int _ x2, .int _ x3] => some (slots_thing.mk x1 (api_Ref.mk x2 x3))
  | _ => none
def slots_thing.dv (v : Value) : Option slots_thing := match v with
  | .agg cs => slots_thing.dec cs.toList
  | _ => none

def api_Command.dec (l : List Value) : Option api_Command := match l with
  | [.int _ x1, .int _ x2, .int _ x3, .int _ x4, .int _ x5, .int _ x6] => some (api_Command.mk x1 x2 (api_Ref.mk x3 x4) x5 x6)
  | _ => none
def api_Command.dv (v : Value) : Option api_Command := match v with
  | .agg cs => api_Command.dec cs.toList
  | _ => none

def thicketkeep_D.dec (l : List Value) : Option thicketkeep_D := match l with
  | [.int _ x1, .int _ x2, .int _ x3, .int _ x4, .int _ x5, .int _ x6, .int _ x7, .int _ x8, .int _ x9, .int _ x10, .int _ x11] => some (thicketkeep_D.mk x1 x2 x3 x4 x5 (api_Command.mk x6 x7 (api_Ref.mk x8 x9) x10 x11))
  | _ => none
def thicketkeep_D.dv (v : Value) : Option thicketkeep_D := match v with
  | .agg cs => thicketkeep_D.dec cs.toList
  | _ => none

def api_Act.dec (l : List Value) : Option api_Act := match l with
  | [.int _ x1, .int _ x2, .int _ x3, .int _ x4, .int _ x5, .int _ x6, .int _ x7, .int _ x8] => some (api_Act.mk x1 x2 (api_Command.mk x3 x4 (api_Ref.mk x5 x6) x7 x8))
  | _ => none
def api_Act.dv (v : Value) : Option api_Act := match v with
  | .agg cs => api_Act.dec cs.toList
  | _ => none

def thicketlaw25_Ask.dec (l : List Value) : Option thicketlaw25_Ask := match l with
  | [.int _ x1, .int _ x2, .int _ x3, .int _ x4, .int _ x5, .int _ x6, .int _ x7, .int _ x8, .int _ x9, .int _ x10, .int _ x11, .int _ x12, .int _ x13, .int _ x14, .int _ x15, .int _ x16, .int _ x17, .int _ x18, .int _ x19, .int _ x20, .int _ x21] => some (thicketlaw25_Ask.mk x1 x2 (thicketkeep_D.mk x3 x4 x5 x6 x7 (api_Command.mk x8 x9 (api_Ref.mk x10 x11) x12 x13)) (api_Act.mk x14 x15 (api_Command.mk x16 x17 (api_Ref.mk x18 x19) x20 x21)))
  | _ => none
def thicketlaw25_Ask.dv (v : Value) : Option thicketlaw25_Ask := match v with
  | .agg cs => thicketlaw25_Ask.dec cs.toList
  | _ => none

def jobs_Job.dec (l : List Value) : Option jobs_Job := match l with
  | [.int _ x1, .int _ x2, .int _ x3, .int _ x4, .int _ x5] => some (jobs_Job.mk x1 x2 x3 (api_Ref.mk x4 x5))
  | _ => none
def jobs_Job.dv (v : Value) : Option jobs_Job := match v with
  | .agg cs => jobs_Job.dec cs.toList
  | _ => none

def api_Reply.dec (l : List Value) : Option api_Reply := match l with
  | [.int _ x1, .int _ x2, .int _ x3, .int _ x4, .int _ x5, .int _ x6] => some (api_Reply.mk x1 (api_Ref.mk x2 x3) x4 x5 x6)
  | _ => none
def api_Reply.dv (v : Value) : Option api_Reply := match v with
  | .agg cs => api_Reply.dec cs.toList
  | _ => none

def thicketref22_Job.dec (l : List Value) : Option thicketref22_Job := match l with
  | [.int _ x1, .int _ x2, .int _ x3, .int _ x4, .int _ x5, .int _ x6] => some (thicketref22_Job.mk x1 x2 (api_Entry.mk x3 x4) (api_Ref.mk x5 x6))
  | _ => none
def thicketref22_Job.dv (v : Value) : Option thicketref22_Job := match v with
  | .agg cs => thicketref22_Job.dec cs.toList
  | _ => none

def pool_place_slots_heap.dec (l : List Value) : Option pool_place_slots_heap := match l with
  | [.int _ x1, .bool x2, .int _ x3, .int _ x4, .int _ x5] => some (pool_place_slots_heap.mk x1 x2 (slots_heap.mk x3 x4 x5))
  | _ => none
def pool_place_slots_heap.dv (v : Value) : Option pool_place_slots_heap := match v with
  | .agg cs => pool_place_slots_heap.dec cs.toList
  | _ => none

def pool_place_slots_thing.dec (l : List Value) : Option pool_place_slots_thing := match l with
  | [.int _ x1, .bool x2, .int _ x3, .int _ x4, .int _ x5] => some (pool_place_slots_thing.mk x1 x2 (slots_thing.mk x3 (api_Ref.mk x4 x5)))
  | _ => none
def pool_place_slots_thing.dv (v : Value) : Option pool_place_slots_thing := match v with
  | .agg cs => pool_place_slots_thing.dec cs.toList
  | _ => none

def pool_place_jobs_Job.dec (l : List Value) : Option pool_place_jobs_Job := match l with
  | [.int _ x1, .bool x2, .int _ x3, .int _ x4, .int _ x5, .int _ x6, .int _ x7] => some (pool_place_jobs_Job.mk x1 x2 (jobs_Job.mk x3 x4 x5 (api_Ref.mk x6 x7)))
  | _ => none
def pool_place_jobs_Job.dv (v : Value) : Option pool_place_jobs_Job := match v with
  | .agg cs => pool_place_jobs_Job.dec cs.toList
  | _ => none

def trace_Event.dec (l : List Value) : Option trace_Event := match l with
  | [.int _ x1, .int _ x2, .int _ x3, .int _ x4, .int _ x5, .int _ x6, .int _ x7, .int _ x8, .int _ x9, .int _ x10, .int _ x11, .int _ x12, .int _ x13, .int _ x14] => some (trace_Event.mk (api_Command.mk x1 x2 (api_Ref.mk x3 x4) x5 x6) (api_Reply.mk x7 (api_Ref.mk x8 x9) x10 x11 x12) x13 x14)
  | _ => none
def trace_Event.dv (v : Value) : Option trace_Event := match v with
  | .agg cs => trace_Event.dec cs.toList
  | _ => none

noncomputable def elV : Nat → ElD
  | 0 => ⟨arena_cell, arena_cell.enc, 11, arena_cell.enc_ok, arena_cell.dec⟩
  | 1 => ⟨Int, ecI, 1, ecI_ok, dI⟩
  | 2 => ⟨pool_place_slots_heap, pool_place_slots_heap.enc, 5, pool_place_slots_heap.enc_ok, pool_place_slots_heap.dec⟩
  | 3 => ⟨pool_place_slots_thing, pool_place_slots_thing.enc, 5, pool_place_slots_thing.enc_ok, pool_place_slots_thing.dec⟩
  | 4 => ⟨pool_place_jobs_Job, pool_place_jobs_Job.enc, 7, pool_place_jobs_Job.enc_ok, pool_place_jobs_Job.dec⟩
  | 5 => ⟨trees_ranked, trees_ranked.enc, 2, trees_ranked.enc_ok, trees_ranked.dec⟩
  | 6 => ⟨api_Ref, api_Ref.enc, 2, api_Ref.enc_ok, api_Ref.dec⟩
  | 7 => ⟨trace_Event, trace_Event.enc, 14, trace_Event.enc_ok, trace_Event.dec⟩
  | 8 => ⟨thicketlaw25_Ask, thicketlaw25_Ask.enc, 21, thicketlaw25_Ask.enc_ok, thicketlaw25_Ask.dec⟩
  | 9 => ⟨Bool, ecB, 1, ecB_ok, dB⟩
  | 10 => ⟨Int, ecI, 1, ecI_ok, dI⟩
  | 11 => ⟨thicketref22_Job, thicketref22_Job.enc, 6, thicketref22_Job.enc_ok, thicketref22_Job.dec⟩
  | _ => ⟨Int, ecI, 1, ecI_ok, dI⟩

noncomputable def mpV : Nat → MpD
  | 0 => ⟨Int, api_Ref, vI, api_Ref.val, dvI, api_Ref.dv, kI⟩
  | 1 => ⟨api_Ref, api_Entry, api_Ref.val, api_Entry.val, api_Ref.dv, api_Entry.dv, api_Ref.eq⟩
  | 2 => ⟨api_Ref, api_Ref, api_Ref.val, api_Ref.val, api_Ref.dv, api_Ref.dv, api_Ref.eq⟩
  | 3 => ⟨api_Ref, Int, api_Ref.val, vI, api_Ref.dv, dvI, api_Ref.eq⟩
  | _ => ⟨Int, Int, vI, vI, dvI, dvI, kI⟩

noncomputable def El : Ev := ⟨elV, mpV⟩

noncomputable def api_Ref.eqD : EqD Tryz.prog := ⟨api_Ref, 31, fun x => #[.int .i64 x.At, .int .i64 x.Gen], api_Ref.dv, api_Ref.eq, api_Ref.eq_run⟩

noncomputable def api_Reply.eqD : EqD Tryz.prog := ⟨api_Reply, 35, fun x => #[.int .i64 x.Why, .int .i64 x.Job.At, .int .i64 x.Job.Gen, .int .i64 x.Time, .int .i64 x.Data, .int .i64 x.N], api_Reply.dv, api_Reply.eq, api_Reply.eq_run⟩

noncomputable def api_Command.eqD : EqD Tryz.prog := ⟨api_Command, 33, fun x => #[.int .i64 x.Kind, .int .i64 x.Queue, .int .i64 x.Job.At, .int .i64 x.Job.Gen, .int .i64 x.Time, .int .i64 x.Data], api_Command.dv, api_Command.eq, api_Command.eq_run⟩

noncomputable def meter_Meter.D : OD El := ⟨Unit, meter_Meter, fun p al m => [.blk p 205 [.int .i64 m.steps, .int .i64 m.begun, .int .i64 m.most]], fun l => match l with
  | .blk _ _ [.int _ x1, .int _ x2, .int _ x3] :: r => some ((), meter_Meter.mk x1 x2 x3, r)
  | _ => none⟩

noncomputable def arena_Arena.D : OD El := ⟨arena_Arena.A, arena_Arena, fun p al m => [.blk p 192 [.slice al.l_b m.l.length al.l_c, .int .i64 m.never, .slice al.free_b m.free.length al.free_c, .pointer (some ⟨al.m__p, 0, none⟩)]] ++ [.sl 0 267 al.l_b al.l_c m.l] ++ [.sl 1 3 al.free_b al.free_c m.free] ++ meter_Meter.D.flat al.m__p () m.m_, fun l => match l with
  | .blk _ _ [_, .int _ x2, _, .pointer (some ⟨x5, _, _⟩)] :: r => (rS 0 r).bind fun (x1, x6) => (rS 1 x6).bind fun (x3, x7) => (meter_Meter.D.rd x7).bind fun (x41, x42, x8) => some (arena_Arena.A.mk x1.1 x1.2.1 x3.1 x3.2.1 x5, arena_Arena.mk x1.2.2 x2 x3.2.2 x42, x8)
  | _ => none⟩

noncomputable def pool_Pool_slots_heap.D : OD El := ⟨pool_Pool_slots_heap.A, pool_Pool_slots_heap, fun p al m => [.blk p 237 [.int .i64 m.most, .slice al.l_b m.l.length al.l_c, .slice al.free_b m.free.length al.free_c]] ++ [.sl 2 242 al.l_b al.l_c m.l] ++ [.sl 1 3 al.free_b al.free_c m.free], fun l => match l with
  | .blk _ _ [.int _ x1, _, _] :: r => (rS 2 r).bind fun (x2, x4) => (rS 1 x4).bind fun (x3, x5) => some (pool_Pool_slots_heap.A.mk x2.1 x2.2.1 x3.1 x3.2.1, pool_Pool_slots_heap.mk x1 x2.2.2 x3.2.2, x5)
  | _ => none⟩

noncomputable def pool_Pool_slots_thing.D : OD El := ⟨pool_Pool_slots_thing.A, pool_Pool_slots_thing, fun p al m => [.blk p 240 [.int .i64 m.most, .slice al.l_b m.l.length al.l_c, .slice al.free_b m.free.length al.free_c]] ++ [.sl 3 275 al.l_b al.l_c m.l] ++ [.sl 1 3 al.free_b al.free_c m.free], fun l => match l with
  | .blk _ _ [.int _ x1, _, _] :: r => (rS 3 r).bind fun (x2, x4) => (rS 1 x4).bind fun (x3, x5) => some (pool_Pool_slots_thing.A.mk x2.1 x2.2.1 x3.1 x3.2.1, pool_Pool_slots_thing.mk x1 x2.2.2 x3.2.2, x5)
  | _ => none⟩

noncomputable def slots_Table.D : OD El := ⟨slots_Table.A, slots_Table, fun p al m => [.blk p 203 [.pointer (some ⟨al.heaps_p, 0, none⟩), .pointer (some ⟨al.items_p, 0, none⟩), .map (some al.at__p)]] ++ pool_Pool_slots_heap.D.flat al.heaps_p al.heaps_a m.heaps ++ pool_Pool_slots_thing.D.flat al.items_p al.items_a m.items ++ [.mp 0 al.at__p m.at_], fun l => match l with
  | .blk _ _ [.pointer (some ⟨x2, _, _⟩), .pointer (some ⟨x4, _, _⟩), _] :: r => (pool_Pool_slots_heap.D.rd r).bind fun (x11, x12, x6) => (pool_Pool_slots_thing.D.rd x6).bind fun (x31, x32, x7) => (rM 0 x7).bind fun (x5, x8) => some (slots_Table.A.mk x2 x11 x4 x31 x5.1, slots_Table.mk x12 x32 x5.2, x8)
  | _ => none⟩

noncomputable def pq_Queues.D : OD El := ⟨pq_Queues.A, pq_Queues, fun p al m => [.blk p 155 [.int .i64 m.items, .pointer (some ⟨al.a__p, 0, none⟩), .pointer (some ⟨al.t__p, 0, none⟩), .map (some al.entries_p), .int .i64 m.serial]] ++ arena_Arena.D.flat al.a__p al.a__a m.a_ ++ slots_Table.D.flat al.t__p al.t__a m.t_ ++ [.mp 1 al.entries_p m.entries], fun l => match l with
  | .blk _ _ [.int _ x1, .pointer (some ⟨x3, _, _⟩), .pointer (some ⟨x5, _, _⟩), _, .int _ x7] :: r => (arena_Arena.D.rd r).bind fun (x21, x22, x8) => (slots_Table.D.rd x8).bind fun (x41, x42, x9) => (rM 1 x9).bind fun (x6, x10) => some (pq_Queues.A.mk x3 x21 x5 x41 x6.1, pq_Queues.mk x1 x22 x42 x6.2 x7, x10)
  | _ => none⟩

noncomputable def pool_Pool_jobs_Job.D : OD El := ⟨pool_Pool_jobs_Job.A, pool_Pool_jobs_Job, fun p al m => [.blk p 184 [.int .i64 m.most, .slice al.l_b m.l.length al.l_c, .slice al.free_b m.free.length al.free_c]] ++ [.sl 4 186 al.l_b al.l_c m.l] ++ [.sl 1 3 al.free_b al.free_c m.free], fun l => match l with
  | .blk _ _ [.int _ x1, _, _] :: r => (rS 4 r).bind fun (x2, x4) => (rS 1 x4).bind fun (x3, x5) => some (pool_Pool_jobs_Job.A.mk x2.1 x2.2.1 x3.1 x3.2.1, pool_Pool_jobs_Job.mk x1 x2.2.2 x3.2.2, x5)
  | _ => none⟩

noncomputable def jobs_Table.D : OD El := ⟨jobs_Table.A, jobs_Table, fun p al m => [.blk p 145 [.pointer (some ⟨al.p_p, 0, none⟩), .map (some al.by__p)]] ++ pool_Pool_jobs_Job.D.flat al.p_p al.p_a m.p ++ [.mp 2 al.by__p m.by_], fun l => match l with
  | .blk _ _ [.pointer (some ⟨x2, _, _⟩), _] :: r => (pool_Pool_jobs_Job.D.rd r).bind fun (x11, x12, x4) => (rM 2 x4).bind fun (x3, x5) => some (jobs_Table.A.mk x2 x11 x3.1, jobs_Table.mk x12 x3.2, x5)
  | _ => none⟩

noncomputable def clock_Clock.D : OD El := ⟨Unit, clock_Clock, fun p al m => [.blk p 147 [.int .i64 m.now]], fun l => match l with
  | .blk _ _ [.int _ x1] :: r => some ((), clock_Clock.mk x1, r)
  | _ => none⟩

noncomputable def dispatch_Dispatcher.D : OD El := ⟨dispatch_Dispatcher.A, dispatch_Dispatcher, fun p al m => [.blk p 105 [.int .i64 m.kind, .int .i64 m.most, .pointer (some ⟨al.q_p, 0, none⟩), .int .i64 m.heaps0.At, .int .i64 m.heaps0.Gen, .int .i64 m.heaps1.At, .int .i64 m.heaps1.Gen, .pointer (some ⟨al.t__p, 0, none⟩), .map (some al.when_p), .pointer (some ⟨al.clock_p, 0, none⟩), .int .i64 m.budget, .int .i64 m.last, .int .i64 m.top]] ++ pq_Queues.D.flat al.q_p al.q_a m.q ++ jobs_Table.D.flat al.t__p al.t__a m.t_ ++ [.mp 3 al.when_p m.when] ++ clock_Clock.D.flat al.clock_p () m.clock, fun l => match l with
  | .blk _ _ [.int _ x1, .int _ x2, .pointer (some ⟨x4, _, _⟩), .int _ x5, .int _ x6, .int _ x7, .int _ x8, .pointer (some ⟨x10, _, _⟩), _, .pointer (some ⟨x13, _, _⟩), .int _ x14, .int _ x15, .int _ x16] :: r => (pq_Queues.D.rd r).bind fun (x31, x32, x17) => (jobs_Table.D.rd x17).bind fun (x91, x92, x18) => (rM 3 x18).bind fun (x11, x19) => (clock_Clock.D.rd x19).bind fun (x121, x122, x20) => some (dispatch_Dispatcher.A.mk x4 x31 x10 x91 x11.1 x13, dispatch_Dispatcher.mk x1 x2 x32 (api_Ref.mk x5 x6) (api_Ref.mk x7 x8) x92 x11.2 x122 x14 x15 x16, x20)
  | _ => none⟩

noncomputable def thicketref2_Pool.D : OD El := ⟨thicketref2_Pool.A, thicketref2_Pool, fun p al m => [.blk p 177 [.int .i64 m.Most, .slice al.Gens_b m.Gens.length al.Gens_c, .slice al.In_b m.In.length al.In_c, .slice al.V_b m.V.length al.V_c, .slice al.Back_b m.Back.length al.Back_c]] ++ [.sl 1 3 al.Gens_b al.Gens_c m.Gens] ++ [.sl 9 4 al.In_b al.In_c m.In] ++ [.sl 10 2 al.V_b al.V_c m.V] ++ [.sl 1 3 al.Back_b al.Back_c m.Back], fun l => match l with
  | .blk _ _ [.int _ x1, _, _, _, _] :: r => (rS 1 r).bind fun (x2, x6) => (rS 9 x6).bind fun (x3, x7) => (rS 10 x7).bind fun (x4, x8) => (rS 1 x8).bind fun (x5, x9) => some (thicketref2_Pool.A.mk x2.1 x2.2.1 x3.1 x3.2.1 x4.1 x4.2.1 x5.1 x5.2.1, thicketref2_Pool.mk x1 x2.2.2 x3.2.2 x4.2.2 x5.2.2, x9)
  | _ => none⟩

noncomputable def thicketref22_Dispatcher.D : OD El := ⟨thicketref22_Dispatcher.A, thicketref22_Dispatcher, fun p al m => [.blk p 94 [.int .i64 m.Most, .int .i64 m.Now, .int .i64 m.Next, .pointer (some ⟨al.Pool_p, 0, none⟩), .slice al.L_b m.L.length al.L_c]] ++ thicketref2_Pool.D.flat al.Pool_p al.Pool_a m.Pool ++ [.sl 11 139 al.L_b al.L_c m.L], fun l => match l with
  | .blk _ _ [.int _ x1, .int _ x2, .int _ x3, .pointer (some ⟨x5, _, _⟩), _] :: r => (thicketref2_Pool.D.rd r).bind fun (x41, x42, x7) => (rS 11 x7).bind fun (x6, x8) => some (thicketref22_Dispatcher.A.mk x5 x41 x6.1 x6.2.1, thicketref22_Dispatcher.mk x1 x2 x3 x42 x6.2.2, x8)
  | _ => none⟩

theorem meter_Meter.D_st {w0 w : World} {As : List HP} {p : Nat} {m : meter_Meter} : St w0 (meter_Meter.R p m :: As) w ↔ St w0 ((meter_Meter.D.flat p () m).map Atom.den ++ As) w := by
  refine Iff.trans ⟨fun H => meter_Meter.open H, fun H => meter_Meter.shut m H⟩ ?_
  exact Iff.rfl

theorem arena_Arena.D_st {w0 w : World} {As : List HP} {p : Nat} {al : arena_Arena.A} {m : arena_Arena} : St w0 (arena_Arena.R p al m :: As) w ↔ St w0 ((arena_Arena.D.flat p al m).map Atom.den ++ As) w := by
  refine Iff.trans ⟨fun H => arena_Arena.open H, fun H => arena_Arena.shut al m H⟩ ?_
  refine Iff.trans (fs3 fun As => meter_Meter.D_st) ?_
  exact Iff.rfl

theorem pool_Pool_slots_heap.D_st {w0 w : World} {As : List HP} {p : Nat} {al : pool_Pool_slots_heap.A} {m : pool_Pool_slots_heap} : St w0 (pool_Pool_slots_heap.R p al m :: As) w ↔ St w0 ((pool_Pool_slots_heap.D.flat p al m).map Atom.den ++ As) w := by
  refine Iff.trans ⟨fun H => pool_Pool_slots_heap.open H, fun H => pool_Pool_slots_heap.shut al m H⟩ ?_
  exact Iff.rfl

theorem pool_Pool_slots_thing.D_st {w0 w : World} {As : List HP} {p : Nat} {al : pool_Pool_slots_thing.A} {m : pool_Pool_slots_thing} : St w0 (pool_Pool_slots_thing.R p al m :: As) w ↔ St w0 ((pool_Pool_slots_thing.D.flat p al m).map Atom.den ++ As) w := by
  refine Iff.trans ⟨fun H => pool_Pool_slots_thing.open H, fun H => pool_Pool_slots_thing.shut al m H⟩ ?_
  exact Iff.rfl

theorem slots_Table.D_st {w0 w : World} {As : List HP} {p : Nat} {al : slots_Table.A} {m : slots_Table} : St w0 (slots_Table.R p al m :: As) w ↔ St w0 ((slots_Table.D.flat p al m).map Atom.den ++ As) w := by
  refine Iff.trans ⟨fun H => slots_Table.open H, fun H => slots_Table.shut al m H⟩ ?_
  refine Iff.trans (fs2 fun As => pool_Pool_slots_thing.D_st) ?_
  refine Iff.trans (fs1 fun As => pool_Pool_slots_heap.D_st) ?_
  exact Iff.rfl

theorem pq_Queues.D_st {w0 w : World} {As : List HP} {p : Nat} {al : pq_Queues.A} {m : pq_Queues} : St w0 (pq_Queues.R p al m :: As) w ↔ St w0 ((pq_Queues.D.flat p al m).map Atom.den ++ As) w := by
  refine Iff.trans ⟨fun H => pq_Queues.open H, fun H => pq_Queues.shut al m H⟩ ?_
  refine Iff.trans (fs2 fun As => slots_Table.D_st) ?_
  refine Iff.trans (fs1 fun As => arena_Arena.D_st) ?_
  exact Iff.rfl

theorem pool_Pool_jobs_Job.D_st {w0 w : World} {As : List HP} {p : Nat} {al : pool_Pool_jobs_Job.A} {m : pool_Pool_jobs_Job} : St w0 (pool_Pool_jobs_Job.R p al m :: As) w ↔ St w0 ((pool_Pool_jobs_Job.D.flat p al m).map Atom.den ++ As) w := by
  refine Iff.trans ⟨fun H => pool_Pool_jobs_Job.open H, fun H => pool_Pool_jobs_Job.shut al m H⟩ ?_
  exact Iff.rfl

theorem jobs_Table.D_st {w0 w : World} {As : List HP} {p : Nat} {al : jobs_Table.A} {m : jobs_Table} : St w0 (jobs_Table.R p al m :: As) w ↔ St w0 ((jobs_Table.D.flat p al m).map Atom.den ++ As) w := by
  refine Iff.trans ⟨fun H => jobs_Table.open H, fun H => jobs_Table.shut al m H⟩ ?_
  refine Iff.trans (fs1 fun As => pool_Pool_jobs_Job.D_st) ?_
  exact Iff.rfl

theorem clock_Clock.D_st {w0 w : World} {As : List HP} {p : Nat} {m : clock_Clock} : St w0 (clock_Clock.R p m :: As) w ↔ St w0 ((clock_Clock.D.flat p () m).map Atom.den ++ As) w := by
  refine Iff.trans ⟨fun H => clock_Clock.open H, fun H => clock_Clock.shut m H⟩ ?_
  exact Iff.rfl

theorem dispatch_Dispatcher.D_st {w0 w : World} {As : List HP} {p : Nat} {al : dispatch_Dispatcher.A} {m : dispatch_Dispatcher} : St w0 (dispatch_Dispatcher.R p al m :: As) w ↔ St w0 ((dispatch_Dispatcher.D.flat p al m).map Atom.den ++ As) w := by
  refine Iff.trans ⟨fun H => dispatch_Dispatcher.open H, fun H => dispatch_Dispatcher.shut al m H⟩ ?_
  refine Iff.trans (fs4 fun As => clock_Clock.D_st) ?_
  refine Iff.trans (fs2 fun As => jobs_Table.D_st) ?_
  refine Iff.trans (fs1 fun As => pq_Queues.D_st) ?_
  exact Iff.rfl

theorem thicketref2_Pool.D_st {w0 w : World} {As : List HP} {p : Nat} {al : thicketref2_Pool.A} {m : thicketref2_Pool} : St w0 (thicketref2_Pool.R p al m :: As) w ↔ St w0 ((thicketref2_Pool.D.flat p al m).map Atom.den ++ As) w := by
  refine Iff.trans ⟨fun H => thicketref2_Pool.open H, fun H => thicketref2_Pool.shut al m H⟩ ?_
  exact Iff.rfl

theorem thicketref22_Dispatcher.D_st {w0 w : World} {As : List HP} {p : Nat} {al : thicketref22_Dispatcher.A} {m : thicketref22_Dispatcher} : St w0 (thicketref22_Dispatcher.R p al m :: As) w ↔ St w0 ((thicketref22_Dispatcher.D.flat p al m).map Atom.den ++ As) w := by
  refine Iff.trans ⟨fun H => thicketref22_Dispatcher.open H, fun H => thicketref22_Dispatcher.shut al m H⟩ ?_
  refine Iff.trans (fs1 fun As => thicketref2_Pool.D_st) ?_
  exact Iff.rfl

noncomputable abbrev C48p : List (PK El) := [pI .i64]
noncomputable def C48 : Con El := mkCon 48 C48p (fun i_ => kind_Worst i_.1) 0 0 (fun i_ t ns_ as_ => .bool t) (fun i_ t ns_ as_ => [])

theorem S48 : (C48).Sound Tryz.prog :=
  fn_sound mixed (C48) (n := 9) (rs := rsOf Tryz.prog 48) [] [] (gj (gB 2) []) (fun i => (.s (.seg 1 []) (.s (.seg 3 []) (.pj 5 (Bool) mB (gB 2) (fun st s_ => ([(2, .bool s_)] ++ kp [] st, ka [] st)) (.s (.seg 4 []) .leaf) (.s (.seg 4 []) .leaf) .ret)))) Tryz.func48 rfl rfl (by kernel_rfl) (fun _ => rfl) (fun i => by kernel_rfl) (fun i s => by kernel_rfl)

noncomputable def K48 : SCon El Tryz.prog := ⟨C48, S48, Tryz.call48⟩

theorem bits_Len64_ok {w0 w : World} {As : List HP} {x : Int} {t : Int}  (hm : bits_Len64 x = some t) (H : St w0 (As) w) :
    CallsR Tryz.prog 191 #[.int .u64 x] w fun v w' => v = .int .i64 t ∧ St w0 (As) w' := by
 rw [bits_Len64] at hm
 refine enter (args := [.int .u64 x]) Tryz.func191 rfl rfl rfl fun a hE => ?_
 refine Runs.sr ?_
 refine WR.seg hE 1 [] [0, 2] (Lo := [(0, .int .u64 x), (2, .int .i64 0)]) (obs := []) rfl (by kernel_rfl) trivial fun a hE => ?_
 refine WR.done rfl ?_
 refine Runs.seq ?_
 refine Runs.sr ?_
 refine WR.e0 hE [(4, .bool (decide (x ≥ 4294967296)))] fun a hE => ?_
 obtain ⟨s, es, hm⟩ := bind_some hm
 refine Runs.join (fun a w => EnvOk 25 a [(0, .int .u64 s.1), (2, .int .i64 s.2)] ∧ St w0 (As) w) (fun hk => ?_) ?_
 ·replace hm := es; clear es
  refine Runs.cond hE rfl (fun c => ?_) (fun c => ?_)
  ·replace hm := cond_t c hm
   refine Runs.sr ?_
   refine WR.e hE [] [(0, .int .u64 (Int.fdiv x (2 ^ (min (Int.toNat 32) 64))))] (obs := [.p (0 ≤ (32 : Int))]) ⟨(by show _ ≤ _; decide), trivial⟩ fun a hE => ?_
   refine Runs.region ?_
   refine WR.e0 hE [(2, .int .i64 32)] fun a hE => ?_
   cases hm
   exact hk _ _ ⟨hE.sel [0, 2] (by kernel_rfl), H⟩
  ·replace hm := cond_f c hm
   refine Runs.skip ?_
   cases hm
   exact hk _ _ ⟨hE.sel [0, 2] (by kernel_rfl), H⟩
 rintro a w ⟨hE, H⟩
 refine Runs.seq ?_
 refine Runs.sr ?_
 refine WR.seg hE 2 [] [0, 2, 8] (Lo := [(0, .int .u64 s.1), (2, .int .i64 s.2), (8, .bool (decide (s.1 ≥ 65536)))]) (obs := []) rfl (by kernel_rfl) trivial fun a hE => ?_
 refine WR.done rfl ?_
 obtain ⟨s1, es1, hm⟩ := bind_some hm
 refine Runs.join (fun a w => EnvOk 25 a [(0, .int .u64 s1.1), (2, .int .i64 s1.2)] ∧ St w0 (As) w) (fun hk => ?_) ?_
 ·replace hm := es1; clear es1
  refine Runs.cond hE rfl (fun c => ?_) (fun c => ?_)
  ·replace hm := cond_t c hm
   refine Runs.sr ?_
   refine WR.e hE [] [(0, .int .u64 (Int.fdiv s.1 (2 ^ (min (Int.toNat 16) 64))))] (obs := [.p (0 ≤ (16 : Int))]) ⟨(by show _ ≤ _; decide), trivial⟩ fun a hE => ?_
   refine Runs.region ?_
   refine WR.e0 hE [(2, .int .i64 (w64 (s.2 + 16)))] fun a hE => ?_
   cases hm
   exact hk _ _ ⟨hE.sel [0, 2] (by kernel_rfl), H⟩
  ·replace hm := cond_f c hm
   refine Runs.skip ?_
   cases hm
   exact hk _ _ ⟨hE.sel [0, 2] (by kernel_rfl), H⟩
 rintro a w ⟨hE, H⟩
 refine Runs.seq ?_
 refine Runs.sr ?_
 refine WR.seg hE 2 [] [0, 2, 14] (Lo := [(0, .int .u64 s1.1), (2, .int .i64 s1.2), (14, .bool (decide (s1.1 ≥ 256)))]) (obs := []) rfl (by kernel_rfl) trivial fun a hE => ?_
 refine WR.done rfl ?_
 obtain ⟨s2, es2, hm⟩ := bind_some hm
 refine Runs.join (fun a w => EnvOk 25 a [(0, .int .u64 s2.1), (2, .int .i64 s2.2)] ∧ St w0 (As) w) (fun hk => ?_) ?_
 ·replace hm := es2; clear es2
  refine Runs.cond hE rfl (fun c => ?_) (fun c => ?_)
  ·replace hm := cond_t c hm
   refine Runs.sr ?_
   refine WR.e hE [] [(0, .int .u64 (Int.fdiv s1.1 (2 ^ (min (Int.toNat 8) 64))))] (obs := [.p (0 ≤ (8 : Int))]) ⟨(by show _ ≤ _; decide), trivial⟩ fun a hE => ?_
   refine Runs.region ?_
   refine WR.e0 hE [(2, .int .i64 (w64 (s1.2 + 8)))] fun a hE => ?_
   cases hm
   exact hk _ _ ⟨hE.sel [0, 2] (by kernel_rfl), H⟩
  ·replace hm := cond_f c hm
   refine Runs.skip ?_
   cases hm
   exact hk _ _ ⟨hE.sel [0, 2] (by kernel_rfl), H⟩
 rintro a w ⟨hE, H⟩
 refine Runs.sr ?_
 obtain ⟨c_, ec_, hm⟩ := bind_some hm
 refine WR.seg hE 7 [.int .u8 c_] [2] (Lo := [(2, .int .i64 (w64 (s2.2 + (w64 (c_)))))]) (obs := [.p (0 ≤ (IntKind.wrap .u8 (s2.1)) ∧ ∃ u, (ByteArray.mk #[0, 1, 2, 2, 3, 3, 3, 3, 4, 4, 4, 4, 4, 4, 4, 4, 5, 5, 5, 5, 5, 5, 5, 5, 5, 5, 5, 5, 5, 5, 5, 5, 6, 6, 6, 6, 6, 6, 6, 6, 6, 6, 6, 6, 6, 6, 6, 6, 6, 6, 6, 6, 6, 6, 6, 6, 6, 6, 6, 6, 6, 6, 6, 6, 7, 7, 7, 7, 7, 7, 7, 7, 7, 7, 7, 7, 7, 7, 7, 7, 7, 7, 7, 7, 7, 7, 7, 7, 7, 7, 7, 7, 7, 7, 7, 7, 7, 7, 7, 7, 7, 7, 7, 7, 7, 7, 7, 7, 7, 7, 7, 7, 7, 7, 7, 7, 7, 7, 7, 7, 7, 7, 7, 7, 7, 7, 7, 7, 8, 8, 8, 8, 8, 8, 8, 8, 8, 8, 8, 8, 8, 8, 8, 8, 8, 8, 8, 8, 8, 8, 8, 8, 8, 8, 8, 8, 8, 8, 8, 8, 8, 8, 8, 8, 8, 8, 8, 8, 8, 8, 8, 8, 8, 8, 8, 8, 8, 8, 8, 8, 8, 8, 8, 8, 8, 8, 8, 8, 8, 8, 8, 8, 8, 8, 8, 8, 8, 8, 8, 8, 8, 8, 8, 8, 8, 8, 8, 8, 8, 8, 8, 8, 8, 8, 8, 8, 8, 8, 8, 8, 8, 8, 8, 8, 8, 8, 8, 8, 8, 8, 8, 8, 8, 8, 8, 8, 8, 8, 8, 8, 8, 8, 8, 8, 8, 8, 8, 8, 8, 8, 8, 8, 8, 8, 8, 8])[Int.toNat (IntKind.wrap .u8 (s2.1))]? = some u ∧ c_ = (u.toNat : Int))]) rfl (by kernel_rfl) ⟨byte_spec ec_, trivial⟩ fun a hE => ?_
 refine WR.done rfl ?_
 refine Runs.ret hE Tryz.func191 rfl rfl ?_
 cases hm
 exact ⟨rfl, H⟩

noncomputable abbrev C191p : List (PK El) := [pI .u64]
noncomputable def C191 : Con El := mkCon 191 C191p (fun i_ => bits_Len64 i_.1) 0 0 (fun i_ t ns_ as_ => .int .i64 t) (fun i_ t ns_ as_ => [])

theorem S191 : (C191).Sound Tryz.prog := fun i_ t hm w0 w F hr H => by
  obtain ⟨x0, _⟩ := i_
  have H2 : St w0 (F) w := by
    exact H
  refine (bits_Len64_ok (show bits_Len64 x0 = some t from hm) H2).mono ?_
  rintro v w' ⟨hv, H⟩
  refine ⟨[], [], rfl, rfl, hv, ?_, fun _ h => by cases h⟩
  exact H

noncomputable def K191 : SCon El Tryz.prog := ⟨C191, S191, Tryz.call191⟩

noncomputable abbrev C135p : List (PK El) := [pI .u64]
noncomputable def C135 : Con El := mkCon 135 C135p (fun i_ => bits_Len i_.1) 0 0 (fun i_ t ns_ as_ => .int .i64 t) (fun i_ t ns_ as_ => [])

theorem S135 : (C135).Sound Tryz.prog :=
  fn_sound mixed (C135) (n := 8) (rs := rsOf Tryz.prog 135) [] [] (gj (gI 2) []) (fun i => (.s (.seg 1 []) (.condF (.s (.seg 1 []) (.s (.call K191 [] []) (.s (.seg 1 []) .ret)))))) Tryz.func135 rfl rfl (by kernel_rfl) (fun _ => rfl) (fun i => by kernel_rfl) (fun i s => by kernel_rfl)

noncomputable def K135 : SCon El Tryz.prog := ⟨C135, S135, Tryz.call135⟩

noncomputable abbrev C100p : List (PK El) := [pI .i64]
noncomputable def C100 : Con El := mkCon 100 C100p (fun i_ => order_Bits i_.1) 0 0 (fun i_ t ns_ as_ => .int .i64 t) (fun i_ t ns_ as_ => [])

theorem S100 : (C100).Sound Tryz.prog :=
  fn_sound mixed (C100) (n := 7) (rs := rsOf Tryz.prog 100) [] [] (gj (gI 2) []) (fun i => (.s (.seg 1 []) (.s (.seg 3 []) (.s (.call K135 [] []) (.s (.seg 1 []) .ret))))) Tryz.func100 rfl rfl (by kernel_rfl) (fun _ => rfl) (fun i => by kernel_rfl) (fun i s => by kernel_rfl)

noncomputable def K100 : SCon El Tryz.prog := ⟨C100, S100, Tryz.call100⟩

noncomputable abbrev C101p : List (PK El) := [pI .i64, pI .i64]
noncomputable def C101 : Con El := mkCon 101 C101p (fun i_ => order_Add i_.1 i_.2.1) 0 0 (fun i_ t ns_ as_ => .int .i64 t) (fun i_ t ns_ as_ => [])

theorem S101 : (C101).Sound Tryz.prog :=
  fn_sound mixed (C101) (n := 26) (rs := rsOf Tryz.prog 101) [] [] (gj (gI 4) []) (fun i => (.s (.seg 1 []) (.blk (.s (.seg 3 []) (.pj 8 (Bool) mB (gB 5) (fun st s_ => ([(5, .bool s_)] ++ kp [0, 1] st, ka [] st)) (.s (.seg 6 []) .leaf) (.s (.seg 6 []) .leaf) (.cond (.s (.seg 1 []) .ret) (.s (.seg 3 []) (.pj 17 (Bool) mB (gB 14) (fun st s_ => ([(14, .bool s_)] ++ kp [0, 1] st, ka [] st)) (.s (.seg 6 []) .leaf) (.s (.seg 6 []) .leaf) (.cond (.s (.seg 1 []) .ret) (.s (.seg 4 []) .ret)))))))))) Tryz.func101 rfl rfl (by kernel_rfl) (fun _ => rfl) (fun i => by kernel_rfl) (fun i s => by kernel_rfl)

noncomputable def K101 : SCon El Tryz.prog := ⟨C101, S101, Tryz.call101⟩

noncomputable abbrev C71p : List (PK El) := [pI .i64, pI .i64, pI .i64]
noncomputable def C71 (k : Nat) : Con El := mkCon 71 C71p (fun i_ => order_Limit k i_.1 i_.2.1 i_.2.2.1) 0 0 (fun i_ t ns_ as_ => .int .i64 t) (fun i_ t ns_ as_ => [])

noncomputable abbrev C71r (k : Nat) (i : Ins C71p) : Kn El → VC (C71 k).T := retC Tryz.prog (C71 k) (rsOf Tryz.prog 71) [] [] (gj (gI 6) []) i

noncomputable def C71l0 (i_ : Ins C71p) : BCon El (Int) := ⟨nav [1, 0, 1] (bodyOf Tryz.prog 71), Int, Int × Int, Int, Int, fun u => .inr u, fun _ _ => none, fun x_ => [], fun x_ v_ ns_ as_ => [(0, .int .i64 v_.1), (1, .int .i64 i_.2.1), (8, .int .i64 (x_)), (9, .int .i64 v_.2)], fun x_ v_ ns_ as_ => [], 0, 0, fun x_ u_ ns_ as_ => [(0, .int .i64 u_)], fun x_ u_ ns_ as_ => []⟩

noncomputable def C71l0g (k : Nat) (i_ : Ins C71p) : Nat → (C71l0 i_).X → (C71l0 i_).V → Option (C71l0 i_).W := fun m_ (x_ : Int) (v_ : Int × Int) => order_Limit_l0 i_.2.1 (x_) m_ v_.1 v_.2

theorem C71l0s (k : Nat) (i : Ins C71p) (m : Nat) : ((C71l0 i).at (C71l0g k i) m).Sound Tryz.prog 71 16 (C71r k i) :=
  loop_sound mixed (C71l0 i) (id := 0) (body := nav [1, 0, 1, 0, 0] (bodyOf Tryz.prog 71)) (C71l0g k i) (fun _ => none) (fun u => u) (gj (g2 (gI 0) (gI 9)) []) (gj (gI 0) []) (fun m => (.s (.seg 1 []) (.cond (.blk (.s (.seg 2 []) (.s (.call K101 [] []) (.s (.seg 1 []) (.s (.seg 2 []) .back))))) .leaf))) (by kernel_rfl) (fun _ _ => rfl) (fun r y h => by cases h) (fun u => rfl) (fun m x v n1 n2 => by kernel_rfl) (fun m x v n1 n2 s => by kernel_rfl) m

theorem S71 (k : Nat) : (C71 k).Sound Tryz.prog :=
  fn_sound mixed (C71 k) (n := 16) (rs := rsOf Tryz.prog 71) [] [] (gj (gI 6) []) (fun i => (.s (.seg 1 []) (.s (.seg 1 []) (.s (.call K100 [] []) (.s (.seg 1 []) (.loop ⟨(C71l0 i).at (C71l0g k i) k, C71l0s k i k⟩ (gl (gI 8) (g2 (gI 0) (gI 9)) []) (.s (.seg 2 []) .ret))))))) Tryz.func71 rfl rfl (by kernel_rfl) (fun _ => rfl) (fun i => by kernel_rfl) (fun i s => by kernel_rfl)

noncomputable def K71 (k : Nat) : SCon El Tryz.prog := ⟨C71 k, S71 k, Tryz.call71⟩

noncomputable abbrev C49p : List (PK El) := [pI .i64, pI .i64]
noncomputable def C49 (k : Nat) : Con El := mkCon 49 C49p (fun i_ => bound_Budget k i_.1 i_.2.1) 0 0 (fun i_ t ns_ as_ => .tuple #[.int .i64 t.1, .bool t.2]) (fun i_ t ns_ as_ => [])

theorem S49 (k : Nat) : (C49 k).Sound Tryz.prog :=
  fn_sound mixed (C49 k) (n := 20) (rs := rsOf Tryz.prog 49) [] [] (gj (g2 (gI 4) (gB 5)) []) (fun i => (.s (.seg 2 []) (.join (Bool) 0 0 (gj (gB 16) []) (fun st_ s_ ns_ as_ => ([(16, .bool s_)] ++ kp [1] st_, ka [] st_)) (.s (.seg 1 []) (.s (.call K48 [] []) (.s (.seg 2 []) (.split 9 (.s (.seg 7 []) .leaf) (.s (.seg 4 []) (.split 13 (.s (.seg 3 []) .leaf) (.s (.seg 3 []) .leaf))))))) (.cond (.s (.seg 2 []) .ret) (.s (.seg 2 []) (.s (.call (K71 k) [] []) (.s (.seg 2 []) .ret))))))) Tryz.func49 rfl rfl (by kernel_rfl) (fun _ => rfl) (fun i => by kernel_rfl) (fun i s => by kernel_rfl)

noncomputable def K49 (k : Nat) : SCon El Tryz.prog := ⟨C49 k, S49 k, Tryz.call49⟩

noncomputable abbrev C102p : List (PK El) := []
noncomputable def C102 : Con El := mkCon 102 C102p (fun i_ => meter_New) 1 0 (fun i_ t ns_ as_ => .pointer (some ⟨(nn ns_ 0), 0, none⟩)) (fun i_ t ns_ as_ => meter_Meter.D.flat (nn ns_ 0) () t)

theorem S102 : (C102).Sound Tryz.prog :=
  fn_sound mixed (C102) (n := 3) (rs := rsOf Tryz.prog 102) [] [1000] (gj (gO meter_Meter.D [1000]) [nPk 1000]) (fun i => (.s (.seg 1 []) (.s (.seg 1 []) (.s (.new 0 []) (.s (.seg 1 []) (.rk [(0, 1000), (1000, 91000)] .ret)))))) Tryz.func102 rfl rfl (by kernel_rfl) (fun _ => rfl) (fun i => by kernel_rfl) (fun i s => by kernel_rfl)

noncomputable def K102 : SCon El Tryz.prog := ⟨C102, S102, Tryz.call102⟩

noncomputable abbrev C72p : List (PK El) := [pI .i64]
noncomputable def C72 : Con El := mkCon 72 C72p (fun i_ => arena_New i_.1) 4 2 (fun i_ t ns_ as_ => .pointer (some ⟨(nn ns_ 0), 0, none⟩)) (fun i_ t ns_ as_ => arena_Arena.D.flat (nn ns_ 0) (arena_Arena.A.mk (na as_ 0) (nn ns_ 1) (na as_ 1) (nn ns_ 2) (nn ns_ 3)) t)

theorem S72 : (C72).Sound Tryz.prog :=
  fn_sound mixed (C72) (n := 10) (rs := rsOf Tryz.prog 72) [] [1000, 1001, 1002, 1003] (gj (gO arena_Arena.D [1000, 1001, 1002, 1003]) [nPk 1000, nA arena_Arena.D [1000, 1001, 1002, 1003] (fun al => ([al.l_c, al.free_c, al.m__p], [al.l_b, al.free_b]))]) (fun i => (.s (.seg 1 []) (.jg (arena_Arena) 4 2 (gj (gO arena_Arena.D [8, 9, 10, 11]) [nPk 8, nA arena_Arena.D [8, 9, 10, 11] (fun al => ([al.l_c, al.free_c, al.m__p], [al.l_b, al.free_b]))]) (fun st_ s_ ns_ as_ => ([(2, .pointer (some ⟨(nn ns_ 0), 0, none⟩))] ++ kp [] st_, ka [] st_ ++ zipL [8, 9, 10, 11] (arena_Arena.D.flat (nn ns_ 0) (arena_Arena.A.mk (na as_ 0) (nn ns_ 1) (na as_ 1) (nn ns_ 2) (nn ns_ 3)) s_))) (.drw (.q [0, 1, 2] [] (.alt2 3 (.mk 12 0 267) [] (.a 4 (.call K102 [] [13]) [] (.q [5] [] (.a 6 (.new 14 []) [] (.q [7] [] (.s (.nil 15 1 3) (.rk [(14, 8), (12, 9), (15, 10), (13, 11), (8, 90008), (9, 90009), (10, 90010), (11, 90011)] .leaf)))))) 4 (.call K102 [] [16]) [] (.a 3 (.mk 17 0 267) [] (.q [5] [] (.a 6 (.new 18 []) [] (.q [7] [] (.s (.nil 19 1 3) (.rk [(18, 8), (17, 9), (19, 10), (16, 11), (8, 90008), (9, 90009), (10, 90010), (11, 90011)] .leaf))))))))) (.rk [(8, 1000), (9, 1001), (10, 1002), (11, 1003), (1000, 91000), (1001, 91001), (1002, 91002), (1003, 91003)] .ret)))) Tryz.func72 rfl rfl (by kernel_rfl) (fun _ => rfl) (fun i => by kernel_rfl) (fun i s => by kernel_rfl)

noncomputable def K72 : SCon El Tryz.prog := ⟨C72, S72, Tryz.call72⟩

noncomputable abbrev C103p : List (PK El) := [pI .i64]
noncomputable def C103 : Con El := mkCon 103 C103p (fun i_ => pool_New_slots_heap i_.1) 3 2 (fun i_ t ns_ as_ => .pointer (some ⟨(nn ns_ 0), 0, none⟩)) (fun i_ t ns_ as_ => pool_Pool_slots_heap.D.flat (nn ns_ 0) (pool_Pool_slots_heap.A.mk (na as_ 0) (nn ns_ 1) (na as_ 1) (nn ns_ 2)) t)

theorem S103 : (C103).Sound Tryz.prog :=
  fn_sound mixed (C103) (n := 8) (rs := rsOf Tryz.prog 103) [] [1000, 1001, 1002] (gj (gO pool_Pool_slots_heap.D [1000, 1001, 1002]) [nPk 1000, nA pool_Pool_slots_heap.D [1000, 1001, 1002] (fun al => ([al.l_c, al.free_c], [al.l_b, al.free_b]))]) (fun i => (.s (.seg 1 []) (.s (.seg 4 []) (.s (.new 0 []) (.s (.seg 1 []) (.s (.nil 1 2 242) (.s (.nil 2 1 3) (.rk [(0, 1000), (1, 1001), (2, 1002), (1000, 91000), (1001, 91001), (1002, 91002)] .ret)))))))) Tryz.func103 rfl rfl (by kernel_rfl) (fun _ => rfl) (fun i => by kernel_rfl) (fun i s => by kernel_rfl)

noncomputable def K103 : SCon El Tryz.prog := ⟨C103, S103, Tryz.call103⟩

noncomputable abbrev C104p : List (PK El) := [pI .i64]
noncomputable def C104 : Con El := mkCon 104 C104p (fun i_ => pool_New_slots_thing i_.1) 3 2 (fun i_ t ns_ as_ => .pointer (some ⟨(nn ns_ 0), 0, none⟩)) (fun i_ t ns_ as_ => pool_Pool_slots_thing.D.flat (nn ns_ 0) (pool_Pool_slots_thing.A.mk (na as_ 0) (nn ns_ 1) (na as_ 1) (nn ns_ 2)) t)

theorem S104 : (C104).Sound Tryz.prog :=
  fn_sound mixed (C104) (n := 8) (rs := rsOf Tryz.prog 104) [] [1000, 1001, 1002] (gj (gO pool_Pool_slots_thing.D [1000, 1001, 1002]) [nPk 1000, nA pool_Pool_slots_thing.D [1000, 1001, 1002] (fun al => ([al.l_c, al.free_c], [al.l_b, al.free_b]))]) (fun i => (.s (.seg 1 []) (.s (.seg 4 []) (.s (.new 0 []) (.s (.seg 1 []) (.s (.nil 1 3 275) (.s (.nil 2 1 3) (.rk [(0, 1000), (1, 1001), (2, 1002), (1000, 91000), (1001, 91001), (1002, 91002)] .ret)))))))) Tryz.func104 rfl rfl (by kernel_rfl) (fun _ => rfl) (fun i => by kernel_rfl) (fun i s => by kernel_rfl)

noncomputable def K104 : SCon El Tryz.prog := ⟨C104, S104, Tryz.call104⟩

noncomputable abbrev C73p : List (PK El) := [pI .i64]
noncomputable def C73 : Con El := mkCon 73 C73p (fun i_ => slots_New i_.1) 8 4 (fun i_ t ns_ as_ => .pointer (some ⟨(nn ns_ 0), 0, none⟩)) (fun i_ t ns_ as_ => slots_Table.D.flat (nn ns_ 0) (slots_Table.A.mk (nn ns_ 1) (pool_Pool_slots_heap.A.mk (na as_ 0) (nn ns_ 2) (na as_ 1) (nn ns_ 3)) (nn ns_ 4) (pool_Pool_slots_thing.A.mk (na as_ 2) (nn ns_ 5) (na as_ 3) (nn ns_ 6)) (nn ns_ 7)) t)

theorem S73 : (C73).Sound Tryz.prog :=
  fn_sound mixed (C73) (n := 11) (rs := rsOf Tryz.prog 73) [] [1000, 1001, 1002, 1003, 1004, 1005, 1006, 1007] (gj (gO slots_Table.D [1000, 1001, 1002, 1003, 1004, 1005, 1006, 1007]) [nPk 1000, nA slots_Table.D [1000, 1001, 1002, 1003, 1004, 1005, 1006, 1007] (fun al => ([al.heaps_p, al.heaps_a.l_c, al.heaps_a.free_c, al.items_p, al.items_a.l_c, al.items_a.free_c, al.at__p], [al.heaps_a.l_b, al.heaps_a.free_b, al.items_a.l_b, al.items_a.free_b]))]) (fun i => (.s (.seg 1 []) (.s (.call K103 [] [0, 1, 2]) (.s (.seg 3 []) (.s (.call K104 [] [3, 4, 5]) (.s (.mnew 6 0) (.s (.seg 1 []) (.s (.new 7 []) (.s (.seg 1 []) (.rk [(7, 1000), (0, 1001), (1, 1002), (2, 1003), (3, 1004), (4, 1005), (5, 1006), (6, 1007), (1000, 91000), (1001, 91001), (1002, 91002), (1003, 91003), (1004, 91004), (1005, 91005), (1006, 91006), (1007, 91007)] .ret)))))))))) Tryz.func73 rfl rfl (by kernel_rfl) (fun _ => rfl) (fun i => by kernel_rfl) (fun i s => by kernel_rfl)

noncomputable def K73 : SCon El Tryz.prog := ⟨C73, S73, Tryz.call73⟩

noncomputable abbrev C50p : List (PK El) := [pI .i64]
noncomputable def C50 : Con El := mkConB 50 C50p (fun i_ => pq_New i_.1) 14 6 (fun i_ t ns_ as_ => .tuple #[.pointer none, .int .i64 t.2]) (fun i_ t ns_ as_ => []) (fun i_ t => t.1) 14 (fun i_ t m_ ns_ as_ => .tuple #[.pointer (some ⟨(nn ns_ 0), 0, none⟩), .int .i64 t.2]) (fun i_ t m_ ns_ as_ => pq_Queues.D.flat (nn ns_ 0) (pq_Queues.A.mk (nn ns_ 1) (arena_Arena.A.mk (na as_ 0) (nn ns_ 2) (na as_ 1) (nn ns_ 3) (nn ns_ 4)) (nn ns_ 5) (slots_Table.A.mk (nn ns_ 6) (pool_Pool_slots_heap.A.mk (na as_ 2) (nn ns_ 7) (na as_ 3) (nn ns_ 8)) (nn ns_ 9) (pool_Pool_slots_thing.A.mk (na as_ 4) (nn ns_ 10) (na as_ 5) (nn ns_ 11)) (nn ns_ 12)) (nn ns_ 13)) m_)

theorem S50 : (C50).Sound Tryz.prog :=
  fn_sound mixed (C50) (n := 19) (rs := rsOf Tryz.prog 50) [] [1000, 1001, 1002, 1003, 1004, 1005, 1006, 1007, 1008, 1009, 1010, 1011, 1012, 1013] (gj (g2 (gOo pq_Queues.D [1000, 1001, 1002, 1003, 1004, 1005, 1006, 1007, 1008, 1009, 1010, 1011, 1012, 1013] 2) (gI 3)) [nPo 1000, nAo pq_Queues.D [1000, 1001, 1002, 1003, 1004, 1005, 1006, 1007, 1008, 1009, 1010, 1011, 1012, 1013] (fun al => ([al.a__p, al.a__a.l_c, al.a__a.free_c, al.a__a.m__p, al.t__p, al.t__a.heaps_p, al.t__a.heaps_a.l_c, al.t__a.heaps_a.free_c, al.t__a.items_p, al.t__a.items_a.l_c, al.t__a.items_a.free_c, al.t__a.at__p, al.entries_p], [al.a__a.l_b, al.a__a.free_b, al.t__a.heaps_a.l_b, al.t__a.heaps_a.free_b, al.t__a.items_a.l_b, al.t__a.items_a.free_b])) 13 6]) (fun i => (.s (.seg 2 []) (.s (.seg 3 []) (.pj 6 (Bool) mB (gB 9) (fun st s_ => ([(9, .bool s_)] ++ kp [0] st, ka [] st)) (.s (.seg 3 []) .leaf) (.s (.seg 3 []) .leaf) (.cond (.s (.seg 2 []) .ret) (.s (.seg 3 []) (.s (.call K72 [] [0, 1, 2, 3]) (.s (.seg 1 []) (.s (.call K73 [] [4, 5, 6, 7, 8, 9, 10, 11]) (.s (.mnew 12 1) (.s (.seg 1 []) (.s (.new 13 []) (.s (.seg 2 []) (.rk [(13, 1000), (0, 1001), (1, 1002), (2, 1003), (3, 1004), (4, 1005), (5, 1006), (6, 1007), (7, 1008), (8, 1009), (9, 1010), (10, 1011), (11, 1012), (12, 1013), (1000, 91000), (1001, 91001), (1002, 91002), (1003, 91003), (1004, 91004), (1005, 91005), (1006, 91006), (1007, 91007), (1008, 91008), (1009, 91009), (1010, 91010), (1011, 91011), (1012, 91012), (1013, 91013)] .ret)))))))))))))) Tryz.func50 rfl rfl (by kernel_rfl) (fun _ => rfl) (fun i => by kernel_rfl) (fun i s => by kernel_rfl)

noncomputable def K50 : SCon El Tryz.prog := ⟨C50, S50, Tryz.call50⟩

noncomputable abbrev C74p : List (PK El) := [pI .i64]
noncomputable def C74 : Con El := mkCon 74 C74p (fun i_ => pool_New_jobs_Job i_.1) 3 2 (fun i_ t ns_ as_ => .pointer (some ⟨(nn ns_ 0), 0, none⟩)) (fun i_ t ns_ as_ => pool_Pool_jobs_Job.D.flat (nn ns_ 0) (pool_Pool_jobs_Job.A.mk (na as_ 0) (nn ns_ 1) (na as_ 1) (nn ns_ 2)) t)

theorem S74 : (C74).Sound Tryz.prog :=
  fn_sound mixed (C74) (n := 8) (rs := rsOf Tryz.prog 74) [] [1000, 1001, 1002] (gj (gO pool_Pool_jobs_Job.D [1000, 1001, 1002]) [nPk 1000, nA pool_Pool_jobs_Job.D [1000, 1001, 1002] (fun al => ([al.l_c, al.free_c], [al.l_b, al.free_b]))]) (fun i => (.s (.seg 1 []) (.s (.seg 4 []) (.s (.new 0 []) (.s (.seg 1 []) (.s (.nil 1 4 186) (.s (.nil 2 1 3) (.rk [(0, 1000), (1, 1001), (2, 1002), (1000, 91000), (1001, 91001), (1002, 91002)] .ret)))))))) Tryz.func74 rfl rfl (by kernel_rfl) (fun _ => rfl) (fun i => by kernel_rfl) (fun i s => by kernel_rfl)

noncomputable def K74 : SCon El Tryz.prog := ⟨C74, S74, Tryz.call74⟩

noncomputable abbrev C51p : List (PK El) := [pI .i64]
noncomputable def C51 : Con El := mkCon 51 C51p (fun i_ => jobs_New i_.1) 5 2 (fun i_ t ns_ as_ => .pointer (some ⟨(nn ns_ 0), 0, none⟩)) (fun i_ t ns_ as_ => jobs_Table.D.flat (nn ns_ 0) (jobs_Table.A.mk (nn ns_ 1) (pool_Pool_jobs_Job.A.mk (na as_ 0) (nn ns_ 2) (na as_ 1) (nn ns_ 3)) (nn ns_ 4)) t)

theorem S51 : (C51).Sound Tryz.prog :=
  fn_sound mixed (C51) (n := 10) (rs := rsOf Tryz.prog 51) [] [1000, 1001, 1002, 1003, 1004] (gj (gO jobs_Table.D [1000, 1001, 1002, 1003, 1004]) [nPk 1000, nA jobs_Table.D [1000, 1001, 1002, 1003, 1004] (fun al => ([al.p_p, al.p_a.l_c, al.p_a.free_c, al.by__p], [al.p_a.l_b, al.p_a.free_b]))]) (fun i => (.s (.seg 1 []) (.s (.seg 3 []) (.s (.call K74 [] [0, 1, 2]) (.s (.mnew 3 2) (.s (.seg 1 []) (.s (.new 4 []) (.s (.seg 1 []) (.rk [(4, 1000), (0, 1001), (1, 1002), (2, 1003), (3, 1004), (1000, 91000), (1001, 91001), (1002, 91002), (1003, 91003), (1004, 91004)] .ret))))))))) Tryz.func51 rfl rfl (by kernel_rfl) (fun _ => rfl) (fun i => by kernel_rfl) (fun i s => by kernel_rfl)

noncomputable def K51 : SCon El Tryz.prog := ⟨C51, S51, Tryz.call51⟩

noncomputable abbrev C52p : List (PK El) := []
noncomputable def C52 : Con El := mkCon 52 C52p (fun i_ => clock_New) 1 0 (fun i_ t ns_ as_ => .pointer (some ⟨(nn ns_ 0), 0, none⟩)) (fun i_ t ns_ as_ => clock_Clock.D.flat (nn ns_ 0) () t)

theorem S52 : (C52).Sound Tryz.prog :=
  fn_sound mixed (C52) (n := 3) (rs := rsOf Tryz.prog 52) [] [1000] (gj (gO clock_Clock.D [1000]) [nPk 1000]) (fun i => (.s (.seg 1 []) (.s (.seg 1 []) (.s (.new 0 []) (.s (.seg 1 []) (.rk [(0, 1000), (1000, 91000)] .ret)))))) Tryz.func52 rfl rfl (by kernel_rfl) (fun _ => rfl) (fun i => by kernel_rfl) (fun i s => by kernel_rfl)

noncomputable def K52 : SCon El Tryz.prog := ⟨C52, S52, Tryz.call52⟩

theorem pq_Queues_Do_nil0_ok {w0 w : World} {As : List HP} {c_ : api_Call} {t : api_Answer}  (hm : pq_Queues_Do_nil0 c_ = some t) (H : St w0 (As) w) :
    CallsR Tryz.prog 53 #[.pointer none, .agg #[.int .i64 c_.Op, .int .i64 c_.Kind, .int .i64 c_.Heap.At, .int .i64 c_.Heap.Gen, .int .i64 c_.Other.At, .int .i64 c_.Other.Gen, .int .i64 c_.Item.At, .int .i64 c_.Item.Gen, .int .i64 c_.Key]] w fun v w' => v = .agg #[.int .i64 t.Why, .int .i64 t.Heap.At, .int .i64 t.Heap.Gen, .int .i64 t.Item.At, .int .i64 t.Item.Gen, .int .i64 t.Entry.Key, .int .i64 t.Entry.Serial, .int .i64 t.N] ∧ St w0 (As) w' := by
 rw [pq_Queues_Do_nil0] at hm
 refine enter (args := [.pointer none, .agg #[.int .i64 c_.Op, .int .i64 c_.Kind, .int .i64 c_.Heap.At, .int .i64 c_.Heap.Gen, .int .i64 c_.Other.At, .int .i64 c_.Other.Gen, .int .i64 c_.Item.At, .int .i64 c_.Item.Gen, .int .i64 c_.Key]]) Tryz.func53 rfl rfl rfl fun a hE => ?_
 refine Runs.sr ?_
 refine WR.eff hE rfl rfl rfl rfl (OpTo.new hE H [] (.cells #[.int .i64 c_.Op, .int .i64 c_.Kind, .int .i64 c_.Heap.At, .int .i64 c_.Heap.Gen, .int .i64 c_.Other.At, .int .i64 c_.Other.Gen, .int .i64 c_.Item.At, .int .i64 c_.Item.Gen, .int .i64 c_.Key] 125 (0, 0)) (fun r => .pointer (some ⟨r, 0, none⟩)) (obs := []) rfl (fun _ => by kernel_rfl) trivial) ?_
 rintro _ w ⟨r, rfl, H⟩ a hE
 refine WR.eff hE rfl rfl rfl rfl (OpTo.new hE H [] (.cells #[.int .i64 0, .int .i64 0, .int .i64 0, .int .i64 0, .int .i64 0, .int .i64 0, .int .i64 0, .int .i64 0] 122 (0, 0)) (fun r => .pointer (some ⟨r, 0, none⟩)) (obs := []) rfl (fun _ => by kernel_rfl) trivial) ?_
 rintro _ w ⟨r1, rfl, H⟩ a hE
 refine WR.done rfl ?_
 refine Runs.sr ?_
 cases hm

noncomputable abbrev C53p : List (PK El) := [pK (.pointer none), pV api_Call.dv api_Call.val]
noncomputable def C53 : Con El := mkCon 53 C53p (fun i_ => pq_Queues_Do_nil0 i_.2.1) 0 0 (fun i_ t ns_ as_ => .agg #[.int .i64 t.Why, .int .i64 t.Heap.At, .int .i64 t.Heap.Gen, .int .i64 t.Item.At, .int .i64 t.Item.Gen, .int .i64 t.Entry.Key, .int .i64 t.Entry.Serial, .int .i64 t.N]) (fun i_ t ns_ as_ => [])

theorem S53 : (C53).Sound Tryz.prog := fun i_ t hm w0 w F hr H => by
  obtain ⟨_, x1, _⟩ := i_
  have H2 : St w0 (F) w := by
    exact H
  refine (pq_Queues_Do_nil0_ok (show pq_Queues_Do_nil0 x1 = some t from hm) H2).mono ?_
  rintro v w' ⟨hv, H⟩
  refine ⟨[], [], rfl, rfl, hv, ?_, fun _ h => by cases h⟩
  exact H

noncomputable def K53 : SCon El Tryz.prog := ⟨C53, S53, Tryz.call53⟩

noncomputable abbrev C75p : List (PK El) := [pO arena_Arena.D]
noncomputable def C75 : Con El := mkCon 75 C75p (fun i_ => arena_Arena_Meter i_.1.2.2) 0 0 (fun i_ t ns_ as_ => .pointer (some ⟨i_.1.2.1.m__p, 0, none⟩)) (fun i_ t ns_ as_ => arena_Arena.D.flat i_.1.1 i_.1.2.1 i_.1.2.2)

theorem S75 : (C75).Sound Tryz.prog :=
  fn_sound mixed (C75) (n := 7) (rs := rsOf Tryz.prog 75) [] [0, 1, 2, 3] (gj gU []) (fun i => (.s (.seg 1 []) (.s (.seg 5 [.C 0 3]) .ret))) Tryz.func75 rfl rfl (by kernel_rfl) (fun _ => rfl) (fun i => by kernel_rfl) (fun i s => by kernel_rfl)

noncomputable def K75 : SCon El Tryz.prog := ⟨C75, S75, Tryz.call75⟩

noncomputable abbrev C136p : List (PK El) := [pO meter_Meter.D]
noncomputable def C136 : Con El := mkCon 136 C136p (fun i_ => meter_Meter_Spent i_.1.2.2) 0 0 (fun i_ t ns_ as_ => .int .i64 t) (fun i_ t ns_ as_ => meter_Meter.D.flat i_.1.1 i_.1.2.1 i_.1.2.2)

theorem S136 : (C136).Sound Tryz.prog :=
  fn_sound mixed (C136) (n := 12) (rs := rsOf Tryz.prog 136) [] [0] (gj (gI 2) []) (fun i => (.s (.seg 1 []) (.drw (.q [0, 1, 2, 3, 4, 5, 6, 7, 8, 9] [.C 0 0, .C 0 1] .ret)))) Tryz.func136 rfl rfl (by kernel_rfl) (fun _ => rfl) (fun i => by kernel_rfl) (fun i s => by kernel_rfl)

noncomputable def K136 : SCon El Tryz.prog := ⟨C136, S136, Tryz.call136⟩

noncomputable abbrev C105p : List (PK El) := [pO meter_Meter.D]
noncomputable def C105 : Con El := mkCon 105 C105p (fun i_ => meter_Meter_Most i_.1.2.2) 0 0 (fun i_ t ns_ as_ => .int .i64 t) (fun i_ t ns_ as_ => meter_Meter.D.flat i_.1.1 i_.1.2.1 i_.1.2.2)

theorem S105 : (C105).Sound Tryz.prog :=
  fn_sound mixed (C105) (n := 10) (rs := rsOf Tryz.prog 105) [] [0] (gj (gI 2) []) (fun i => (.s (.seg 1 []) (.drw (.q [0, 1, 2, 3, 4] [.C 0 2] (.a 5 (.call K136 [.K 0] [0]) [.C 0 2] (.q [6, 7] [] .ret)))))) Tryz.func105 rfl rfl (by kernel_rfl) (fun _ => rfl) (fun i => by kernel_rfl) (fun i s => by kernel_rfl)

noncomputable def K105 : SCon El Tryz.prog := ⟨C105, S105, Tryz.call105⟩

noncomputable abbrev C76p : List (PK El) := [pO meter_Meter.D]
noncomputable def C76 : Con El := mkCon 76 C76p (fun i_ => meter_Meter_Begin i_.1.2.2) 0 0 (fun i_ t ns_ as_ => .tuple #[]) (fun i_ t ns_ as_ => meter_Meter.D.flat i_.1.1 i_.1.2.1 t)

theorem S76 : (C76).Sound Tryz.prog :=
  fn_sound mixed (C76) (n := 14) (rs := rsOf Tryz.prog 76) [] [0] (gj (gO meter_Meter.D [0]) []) (fun i => (.drw (.q [0, 1, 2, 4, 5, 6, 7] [.C 0 0] (.a 3 (.call K105 [.K 0] [0]) [.C 0 0] (.q [8, 9] [] (.a 10 (.sto 0) [] (.q [11, 12] [] (.a 13 (.sto 0) [] .leaf)))))))) Tryz.func76 rfl rfl (by kernel_rfl) (fun _ => rfl) (fun i => by kernel_rfl) (fun i s => by kernel_rfl)

noncomputable def K76 : SCon El Tryz.prog := ⟨C76, S76, Tryz.call76⟩

noncomputable abbrev C106p : List (PK El) := [pI .i64]
noncomputable def C106 : Con El := mkCon 106 C106p (fun i_ => kind_Right i_.1) 0 0 (fun i_ t ns_ as_ => .bool t) (fun i_ t ns_ as_ => [])

theorem S106 : (C106).Sound Tryz.prog :=
  fn_sound mixed (C106) (n := 9) (rs := rsOf Tryz.prog 106) [] [] (gj (gB 2) []) (fun i => (.s (.seg 1 []) (.s (.seg 3 []) (.pj 5 (Bool) mB (gB 2) (fun st s_ => ([(2, .bool s_)] ++ kp [] st, ka [] st)) (.s (.seg 4 []) .leaf) (.s (.seg 4 []) .leaf) .ret)))) Tryz.func106 rfl rfl (by kernel_rfl) (fun _ => rfl) (fun i => by kernel_rfl) (fun i s => by kernel_rfl)

noncomputable def K106 : SCon El Tryz.prog := ⟨C106, S106, Tryz.call106⟩

noncomputable abbrev C107p : List (PK El) := [pO pool_Pool_slots_heap.D, pV slots_heap.dv slots_heap.val]
noncomputable def C107 : Con El := mkCon 107 C107p (fun i_ => pool_Pool_slots_heap_Take i_.1.2.2 i_.2.1) 2 2 (fun i_ t ns_ as_ => .tuple #[.agg #[.int .i64 t.1.At, .int .i64 t.1.Gen], .bool t.2.1]) (fun i_ t ns_ as_ => pool_Pool_slots_heap.D.flat i_.1.1 (pool_Pool_slots_heap.A.mk (na as_ 0) (nn ns_ 0) (na as_ 1) (nn ns_ 1)) t.2.2)

theorem S107 : (C107).Sound Tryz.prog :=
  fn_sound mixed (C107) (n := 81) (rs := rsOf Tryz.prog 107) [.C 2000 0, .C 2000 1] [0, 1, 2] (gj (g2 (gC 2000 0 2 api_Ref.dec) (g2 (gB 5) (gO pool_Pool_slots_heap.D [0, 1, 2]))) [nA pool_Pool_slots_heap.D [0, 1, 2] (fun al => ([al.l_c, al.free_c], [al.l_b, al.free_b]))]) (fun i => (.s (.new 3 []) (.s (.new 4 []) (.s (.seg 1 []) (.s (.seg 6 [.C 0 1]) (.s (.seg 7 [.C 0 2]) (.s (.seg 2 []) (.joinR (Int × pool_Pool_slots_heap) 2 2 (gj (g2 (gI 6) (gO pool_Pool_slots_heap.D [0, 1, 2])) [nA pool_Pool_slots_heap.D [0, 1, 2] (fun al => ([al.l_c, al.free_c], [al.l_b, al.free_b]))]) (fun st_ s_ ns_ as_ => match (gP 0) st_ with | some x_ => ([(6, .int .i64 s_.1)] ++ kp [0, 3, 4] st_, ka [4, 3] st_ ++ zipL [0, 1, 2] (pool_Pool_slots_heap.D.flat (x_) (pool_Pool_slots_heap.A.mk (na as_ 0) (nn ns_ 0) (na as_ 1) (nn ns_ 1)) s_.2)) | none => ([], [])) (.cond (.s (.seg 5 [.C 0 2]) (.s (.idx false 2 (.tmp 26) 2) (.s (.seg 3 [.A 2, .X 2 2 0]) (.s (.seg 6 [.C 0 2]) (.s (.cut false 2 none (some (.tmp 34)) 1003) (.s (.seg 3 [.W 1003]) (.s (.sto 0) (.s (.own 1003 2) .leaf)))))))) (.s (.seg 6 [.C 0 0]) (.cond (.s (.seg 1 []) (.s (.sto 4) (.s (.seg 1 []) (.rk [(4, 2000), (2000, 92000)] .ret)))) (.s (.seg 6 [.C 0 1]) (.s (.bld 6 2 242) (.s (.app 1 (.O 6)) (.s (.seg 2 []) (.s (.sto 0) .leaf)))))))) (.s (.seg 5 [.C 0 1]) (.s (.idx false 1 (.tmp 59) 4) (.s (.seg 2 [.A 4]) (.s (.seg 7 [.X 4 1 0]) (.s (.sset 1 4 0) (.s (.rlc 4 0 1) (.drw (.q [0, 1, 2, 3, 4] [.C 3 0, .C 3 1, .C 3 2] (.a 5 (.sset 1 4 1) [.C 3 0, .C 3 1, .C 3 2] (.s (.rlc 4 0 1) (.q [6, 7] [] (.a 8 (.sset 1 4 2) [] (.s (.rlc 4 0 1) (.s (.seg 6 [.X 4 1 0]) (.s (.sto 4) (.s (.seg 1 []) (.rk [(4, 2000), (2000, 92000)] .ret))))))))))))))))))))))))) Tryz.func107 rfl rfl (by kernel_rfl) (fun _ => rfl) (fun i => by kernel_rfl) (fun i s => by kernel_rfl)

noncomputable def K107 : SCon El Tryz.prog := ⟨C107, S107, Tryz.call107⟩

noncomputable abbrev C77p : List (PK El) := [pO slots_Table.D, pI .i64]
noncomputable def C77 : Con El := mkCon 77 C77p (fun i_ => slots_Table_Make i_.1.2.2 i_.2.1) 2 2 (fun i_ t ns_ as_ => .tuple #[.agg #[.int .i64 t.1.At, .int .i64 t.1.Gen], .int .i64 t.2.1]) (fun i_ t ns_ as_ => slots_Table.D.flat i_.1.1 (slots_Table.A.mk i_.1.2.1.heaps_p (pool_Pool_slots_heap.A.mk (na as_ 0) (nn ns_ 0) (na as_ 1) (nn ns_ 1)) i_.1.2.1.items_p i_.1.2.1.items_a i_.1.2.1.at__p) t.2.2)

theorem S77 : (C77).Sound Tryz.prog :=
  fn_sound mixed (C77) (n := 26) (rs := rsOf Tryz.prog 77) [.C 2000 0, .C 2000 1] [0, 1, 2, 3, 4, 5, 6, 7] (gj (g2 (gC 2000 0 2 api_Ref.dec) (g2 (gI 5) (gO slots_Table.D [0, 1, 2, 3, 4, 5, 6, 7]))) [nA slots_Table.D [0, 1, 2, 3, 4, 5, 6, 7] (fun al => ([al.heaps_a.l_c, al.heaps_a.free_c], [al.heaps_a.l_b, al.heaps_a.free_b]))]) (fun i => (.s (.new 8 []) (.s (.seg 1 []) (.s (.seg 1 []) (.s (.call K106 [] []) (.s (.seg 1 []) (.cond (.s (.seg 1 []) (.s (.sto 8) (.s (.seg 1 []) (.rk [(8, 2000), (2000, 92000)] .ret)))) (.s (.seg 6 [.C 0 0]) (.s (.call K107 [.K 1, .K 2, .K 3] [1, 2, 3]) (.s (.seg 3 []) (.s (.new 9 []) (.s (.sto 9) (.s (.seg 1 []) (.s (.seg 2 []) (.cond (.s (.seg 1 []) (.s (.sto 8) (.s (.seg 1 []) (.rk [(8, 2000), (2000, 92000)] .ret)))) (.s (.seg 1 [.C 9 0, .C 9 1]) (.s (.sto 8) (.s (.seg 1 []) (.rk [(8, 2000), (2000, 92000)] .ret))))))))))))))))))) Tryz.func77 rfl rfl (by kernel_rfl) (fun _ => rfl) (fun i => by kernel_rfl) (fun i s => by kernel_rfl)

noncomputable def K77 : SCon El Tryz.prog := ⟨C77, S77, Tryz.call77⟩

noncomputable abbrev C179p : List (PK El) := [pO pool_Pool_slots_heap.D, pV api_Ref.dv api_Ref.val]
noncomputable def C179 : Con El := mkConO 179 C179p (fun i_ => pool_Pool_slots_heap_find i_.1.2.2 i_.2.1) 0 0 (fun i_ t ns_ as_ => .tuple #[elemV i_.1.2.1.l_b 5 t.1, .int .i64 t.2]) (fun i_ t ns_ as_ => pool_Pool_slots_heap.D.flat i_.1.1 i_.1.2.1 i_.1.2.2) (fun i_ t => t.1)

theorem S179 : (C179).Sound Tryz.prog :=
  fn_sound mixed (C179) (n := 61) (rs := rsOf Tryz.prog 179) [] [0, 1, 2] (gj (g2 gE (gI 5)) []) (fun i => (.s (.new 3 []) (.s (.seg 2 []) (.join (Bool) 0 0 (gj (gB 38) []) (fun st_ s_ ns_ as_ => ([(38, .bool s_)] ++ kp [0, 3] st_, ka [3, 0, 1, 2] st_)) (.drw (.q [0, 1, 2, 3] [.C 3 0] (.split 10 (.q [4, 5, 6, 7, 8, 9, 10, 11, 12, 13, 14, 15, 16, 17, 18, 19, 20, 21, 22, 23, 24, 25, 26, 27, 28, 29, 30, 31] [] .leaf) (.q [4, 5, 6, 7, 8, 9, 10, 11, 12, 13] [.C 3 0, .C 0 1] (.split 20 (.q [14, 15, 16, 17, 18, 19, 20, 21, 22, 23, 24, 25, 26, 27, 28, 29, 30, 31] [] .leaf) (.q [14, 15, 16, 17, 18] [.C 3 1] (.split 25 (.q [19, 20, 21, 22, 23, 24, 25, 26, 27, 28, 29, 30, 31] [] .leaf) (.q [19, 20, 21, 22, 23, 24, 25, 26] [.C 3 1, .C 0 1, .C 3 0] (.s (.idx false 1 (.tmp 33) 2) (.q [27, 28, 29, 30, 31] [.A 2, .X 2 1 0] .leaf)))))))))) (.cond (.s (.seg 2 []) .ret) (.drw (.q [0, 1, 2, 3, 4, 5] [.C 0 1, .C 3 0] (.s (.idx false 1 (.tmp 44) 4) (.q [6, 7] [.A 4] (.drw (.q [0, 1, 2, 3, 4, 5, 6, 7] [.C 3 1, .X 4 1 0] (.pj 53 (Bool) mB (gB 59) (fun st s_ => ([(59, .bool s_)] ++ kp [6] st, ka [0, 1, 2, 3] st)) (.q [8, 9, 10, 11, 12, 13] [] .leaf) (.q [8, 9, 10, 11, 12, 13] [.X 4 1 1] .leaf) (.cond (.s (.seg 2 []) .ret) (.s (.seg 3 []) (.s (.el 4 4) .ret))))))))))))))) Tryz.func179 rfl rfl (by kernel_rfl) (fun _ => rfl) (fun i => by kernel_rfl) (fun i s => by kernel_rfl)

noncomputable def K179 : SCon El Tryz.prog := ⟨C179, S179, Tryz.call179⟩

noncomputable abbrev C124p : List (PK El) := [pO pool_Pool_slots_heap.D, pV api_Ref.dv api_Ref.val]
noncomputable def C124 : Con El := mkCon 124 C124p (fun i_ => pool_Pool_slots_heap_Get i_.1.2.2 i_.2.1) 0 0 (fun i_ t ns_ as_ => .tuple #[.agg #[.int .i64 t.1.kind, .int .i64 t.1.root, .int .i64 t.1.n], .int .i64 t.2]) (fun i_ t ns_ as_ => pool_Pool_slots_heap.D.flat i_.1.1 i_.1.2.1 i_.1.2.2)

theorem S124 : (C124).Sound Tryz.prog :=
  fn_sound mixed (C124) (n := 23) (rs := rsOf Tryz.prog 124) [.C 2000 0, .C 2000 1, .C 2000 2] [0, 1, 2] (gj (g2 (gC 2000 0 3 slots_heap.dec) (gI 5)) []) (fun i => (.s (.new 3 []) (.s (.new 4 []) (.s (.seg 1 []) (.s (.seg 2 [.C 3 0, .C 3 1]) (.s (.call K179 [.K 0, .K 1, .K 2] [0, 1, 2]) (.eo 12 0 1 0 (.s (.seg 5 []) (.s (.seg 2 []) (.cond (.s (.new 5 []) (.s (.seg 2 [.C 5 0, .C 5 1, .C 5 2]) (.s (.sto 4) (.s (.seg 1 []) (.rk [(4, 2000), (2000, 92000)] .ret))))) .dead))) (.s (.seg 5 []) (.s (.seg 2 []) (.cond (.s (.new 6 []) (.s (.seg 2 [.C 6 0, .C 6 1, .C 6 2]) (.s (.sto 4) (.s (.seg 1 []) (.rk [(4, 2000), (2000, 92000)] .ret))))) (.s (.seg 4 [.X 0 1 2, .X 0 1 3, .X 0 1 4]) (.s (.sto 4) (.s (.seg 1 []) (.rk [(4, 2000), (2000, 92000)] .ret)))))))))))))) Tryz.func124 rfl rfl (by kernel_rfl) (fun _ => rfl) (fun i => by kernel_rfl) (fun i s => by kernel_rfl)

noncomputable def K124 : SCon El Tryz.prog := ⟨C124, S124, Tryz.call124⟩

noncomputable abbrev C83p : List (PK El) := [pO slots_Table.D, pV api_Ref.dv api_Ref.val]
noncomputable def C83 : Con El := mkCon 83 C83p (fun i_ => slots_Table_Heap i_.1.2.2 i_.2.1) 0 0 (fun i_ t ns_ as_ => .tuple #[.int .i64 t.1, .int .i64 t.2.1, .int .i64 t.2.2.1, .int .i64 t.2.2.2]) (fun i_ t ns_ as_ => slots_Table.D.flat i_.1.1 i_.1.2.1 i_.1.2.2)

theorem S83 : (C83).Sound Tryz.prog :=
  fn_sound mixed (C83) (n := 26) (rs := rsOf Tryz.prog 83) [] [0, 1, 2, 3, 4, 5, 6, 7] (gj (g2 (gI 4) (g2 (gI 5) (g2 (gI 6) (gI 7)))) []) (fun i => (.s (.new 8 []) (.s (.seg 4 []) (.jg (slots_heap × Int) 1 0 (gj (g2 (gC 11 0 3 slots_heap.dec) (gI 9)) [nPk 11]) (fun st_ s_ ns_ as_ => ([(8, .pointer (some ⟨(nn ns_ 0), 0, none⟩)), (9, .int .i64 s_.2)] ++ kp [] st_, ka [0, 1, 2, 3, 4, 5, 6, 7] st_ ++ zipL [11] [.blk (nn ns_ 0) 196 [.int .i64 s_.1.kind, .int .i64 s_.1.root, .int .i64 s_.1.n]])) (.drw (.q [0, 1, 2, 3, 4] [.C 0 0, .C 8 0, .C 8 1] (.alt2 5 (.call K124 [.K 1, .K 2, .K 3] [1, 2, 3]) [] (.q [6, 7, 8] [] (.a 9 (.new 12 []) [] (.a 10 (.sto 12) [] (.q [11] [] (.rk [(12, 11), (11, 90011)] .leaf))))) 9 (.new 13 []) [.C 8 0, .C 8 1, .C 0 0] (.a 5 (.call K124 [.K 1, .K 2, .K 3] [1, 2, 3]) [] (.q [6, 7, 8] [] (.a 10 (.sto 13) [] (.q [11] [] (.rk [(13, 11), (11, 90011)] .leaf)))))))) (.drw (.q [0, 1, 2, 3, 4, 5, 6, 7, 8, 9, 10] [.C 11 0, .C 11 1, .C 11 2] .ret)))))) Tryz.func83 rfl rfl (by kernel_rfl) (fun _ => rfl) (fun i => by kernel_rfl) (fun i s => by kernel_rfl)

noncomputable def K83 : SCon El Tryz.prog := ⟨C83, S83, Tryz.call83⟩

noncomputable abbrev C85p : List (PK El) := [pI .i64]
noncomputable def C85 : Con El := mkCon 85 C85p (fun i_ => pq_refused i_.1) 0 0 (fun i_ t ns_ as_ => .agg #[.int .i64 t.Why, .int .i64 t.Heap.At, .int .i64 t.Heap.Gen, .int .i64 t.Item.At, .int .i64 t.Item.Gen, .int .i64 t.Entry.Key, .int .i64 t.Entry.Serial, .int .i64 t.N]) (fun i_ t ns_ as_ => [])

theorem S85 : (C85).Sound Tryz.prog :=
  fn_sound mixed (C85) (n := 5) (rs := rsOf Tryz.prog 85) [.C 2000 0, .C 2000 1, .C 2000 2, .C 2000 3, .C 2000 4, .C 2000 5, .C 2000 6, .C 2000 7] [] (gj (gC 2000 0 8 api_Answer.dec) []) (fun i => (.s (.new 0 []) (.s (.seg 2 []) (.s (.sto 0) (.rk [(0, 2000), (2000, 92000)] .ret))))) Tryz.func85 rfl rfl (by kernel_rfl) (fun _ => rfl) (fun i => by kernel_rfl) (fun i s => by kernel_rfl)

noncomputable def K85 : SCon El Tryz.prog := ⟨C85, S85, Tryz.call85⟩

noncomputable abbrev C137p : List (PK El) := [pO pool_Pool_slots_thing.D]
noncomputable def C137 : Con El := mkCon 137 C137p (fun i_ => pool_Pool_slots_thing_Len i_.1.2.2) 0 0 (fun i_ t ns_ as_ => .int .i64 t) (fun i_ t ns_ as_ => pool_Pool_slots_thing.D.flat i_.1.1 i_.1.2.1 i_.1.2.2)

theorem S137 : (C137).Sound Tryz.prog :=
  fn_sound mixed (C137) (n := 14) (rs := rsOf Tryz.prog 137) [] [0, 1, 2] (gj (gI 2) []) (fun i => (.s (.seg 1 []) (.drw (.q [0, 1, 2, 3, 4, 5, 6, 7, 8, 9, 10, 11] [.C 0 1, .C 0 2] .ret)))) Tryz.func137 rfl rfl (by kernel_rfl) (fun _ => rfl) (fun i => by kernel_rfl) (fun i s => by kernel_rfl)

noncomputable def K137 : SCon El Tryz.prog := ⟨C137, S137, Tryz.call137⟩

noncomputable abbrev C108p : List (PK El) := [pO slots_Table.D]
noncomputable def C108 : Con El := mkCon 108 C108p (fun i_ => slots_Table_Items i_.1.2.2) 0 0 (fun i_ t ns_ as_ => .int .i64 t) (fun i_ t ns_ as_ => slots_Table.D.flat i_.1.1 i_.1.2.1 i_.1.2.2)

theorem S108 : (C108).Sound Tryz.prog :=
  fn_sound mixed (C108) (n := 8) (rs := rsOf Tryz.prog 108) [] [0, 1, 2, 3, 4, 5, 6, 7] (gj (gI 2) []) (fun i => (.s (.seg 1 []) (.s (.seg 4 [.C 0 1]) (.s (.call K137 [.K 4, .K 5, .K 6] [4, 5, 6]) (.s (.seg 1 []) .ret))))) Tryz.func108 rfl rfl (by kernel_rfl) (fun _ => rfl) (fun i => by kernel_rfl) (fun i s => by kernel_rfl)

noncomputable def K108 : SCon El Tryz.prog := ⟨C108, S108, Tryz.call108⟩

noncomputable abbrev C192p : List (PK El) := [pO meter_Meter.D, pI .i64]
noncomputable def C192 : Con El := mkCon 192 C192p (fun i_ => meter_Meter_Tick i_.1.2.2 i_.2.1) 0 0 (fun i_ t ns_ as_ => .tuple #[]) (fun i_ t ns_ as_ => meter_Meter.D.flat i_.1.1 i_.1.2.1 t)

theorem S192 : (C192).Sound Tryz.prog :=
  fn_sound mixed (C192) (n := 14) (rs := rsOf Tryz.prog 192) [] [0] (gj (gO meter_Meter.D [0]) []) (fun i => (.s (.seg 7 [.C 0 0]) (.s (.call K101 [] []) (.s (.seg 2 []) (.s (.sto 0) .leaf))))) Tryz.func192 rfl rfl (by kernel_rfl) (fun _ => rfl) (fun i => by kernel_rfl) (fun i s => by kernel_rfl)

noncomputable def K192 : SCon El Tryz.prog := ⟨C192, S192, Tryz.call192⟩

theorem meter_Meter_Tick_ok {w0 w : World} {As : List HP} {p_m_ : Nat} {m_ : meter_Meter} {n : Int} {t : meter_Meter}  (hm : meter_Meter_Tick m_ n = some t) (H : St w0 (meter_Meter.R p_m_ m_ :: As) w) :
    CallsR Tryz.prog 192 #[.pointer (some ⟨p_m_, 0, none⟩), .int .i64 n] w fun v w' => v = .tuple #[] ∧ St w0 (meter_Meter.R p_m_ t :: As) w' := by
  replace H := (fs0 fun As => meter_Meter.D_st).1 H
  refine (S192 ((p_m_, (), m_), n, ()) t hm w0 w (As) rd0 H).mono ?_
  rintro v w' ⟨ns, as_, hn, ha, hv, H, hfx⟩
  obtain rfl := ls0 hn
  obtain rfl := ls0 ha
  refine ⟨hv, ?_⟩
  refine (fs0 fun As => meter_Meter.D_st).2 ?_
  exact H

noncomputable abbrev C193p : List (PK El) := []
noncomputable def C193 : Con El := mkCon 193 C193p (fun i_ => arena_fresh) 0 0 (fun i_ t ns_ as_ => .agg #[.int .i64 t.f0, .int .i64 t.f1, .int .i64 t.f2, .int .i64 t.f3, .int .i64 t.f4, .int .i64 t.f5, .int .i64 t.f6, .int .i64 t.f7, .int .i64 t.f8, .int .i64 t.f9, .bool t.taken]) (fun i_ t ns_ as_ => [])

theorem S193 : (C193).Sound Tryz.prog :=
  fn_sound mixed (C193) (n := 16) (rs := rsOf Tryz.prog 193) [.C 2000 0, .C 2000 1, .C 2000 2, .C 2000 3, .C 2000 4, .C 2000 5, .C 2000 6, .C 2000 7, .C 2000 8, .C 2000 9, .C 2000 10] [] (gj (gC 2000 0 11 arena_cell.dec) []) (fun i => (.s (.new 0 []) (.s (.seg 1 []) (.s (.new 1 []) (.s (.sto 1) (.s (.bld 2 1 3) (.s (.seg 2 []) (.unr (.s (.seg 1 []) (.condT (.blk (.s (.idk false 2 (.tmp 7) 0) (.s (.seg 3 [.A 0, .X 0 2 0]) (.s (.seg 2 []) (.s (.gd 12 (.tmp 11) 0) (.s (.seg 1 [.Q 0]) (.s (.sto 1) (.s (.seg 2 []) (.unr (.s (.seg 1 []) (.condT (.blk (.s (.idk false 2 (.tmp 7) 1) (.s (.seg 3 [.A 1, .X 1 2 0]) (.s (.seg 2 []) (.s (.gd 12 (.tmp 11) 1) (.s (.seg 1 [.Q 1]) (.s (.sto 1) (.s (.seg 2 []) (.unr (.s (.seg 1 []) (.condT (.blk (.s (.idk false 2 (.tmp 7) 2) (.s (.seg 3 [.A 2, .X 2 2 0]) (.s (.seg 2 []) (.s (.gd 12 (.tmp 11) 2) (.s (.seg 1 [.Q 2]) (.s (.sto 1) (.s (.seg 2 []) (.unr (.s (.seg 1 []) (.condT (.blk (.s (.idk false 2 (.tmp 7) 3) (.s (.seg 3 [.A 3, .X 3 2 0]) (.s (.seg 2 []) (.s (.gd 12 (.tmp 11) 3) (.s (.seg 1 [.Q 3]) (.s (.sto 1) (.s (.seg 2 []) (.unr (.s (.seg 1 []) (.condT (.blk (.s (.idk false 2 (.tmp 7) 4) (.s (.seg 3 [.A 4, .X 4 2 0]) (.s (.seg 2 []) (.s (.gd 12 (.tmp 11) 4) (.s (.seg 1 [.Q 4]) (.s (.sto 1) (.s (.seg 2 []) (.unr (.s (.seg 1 []) (.condT (.blk (.s (.idk false 2 (.tmp 7) 5) (.s (.seg 3 [.A 5, .X 5 2 0]) (.s (.seg 2 []) (.s (.gd 12 (.tmp 11) 5) (.s (.seg 1 [.Q 5]) (.s (.sto 1) (.s (.seg 2 []) (.unr (.s (.seg 1 []) (.condF (.s (.seg 1 [.C 1 0, .C 1 1, .C 1 2, .C 1 3, .C 1 4, .C 1 5, .C 1 6, .C 1 7, .C 1 8, .C 1 9, .C 1 10]) (.s (.sto 0) (.rk [(0, 2000), (2000, 92000)] .ret))))))))))))))))))))))))))))))))))))))))))))))))))))))))))))))))))))))))))))))) Tryz.func193 rfl rfl (by kernel_rfl) (fun _ => rfl) (fun i => by kernel_rfl) (fun i s => by kernel_rfl)

noncomputable def K193 : SCon El Tryz.prog := ⟨C193, S193, Tryz.call193⟩

noncomputable abbrev C138p : List (PK El) := [pO arena_Arena.D]
noncomputable def C138 : Con El := mkCon 138 C138p (fun i_ => arena_Arena_Take i_.1.2.2) 1 1 (fun i_ t ns_ as_ => .tuple #[.int .i64 t.1, .bool t.2.1]) (fun i_ t ns_ as_ => arena_Arena.D.flat i_.1.1 (arena_Arena.A.mk i_.1.2.1.l_b i_.1.2.1.l_c (na as_ 0) (nn ns_ 0) i_.1.2.1.m__p) t.2.2)

theorem S138 : (C138).Sound Tryz.prog :=
  fn_sound mixed (C138) (n := 61) (rs := rsOf Tryz.prog 138) [] [0, 1, 2, 3] (gj (g2 (gI 2) (g2 (gB 3) (gO arena_Arena.D [0, 1, 2, 3]))) [nA arena_Arena.D [0, 1, 2, 3] (fun al => ([al.free_c], [al.free_b]))]) (fun i => (.s (.seg 2 []) (.s (.seg 4 [.C 0 3]) (.s (.call K192 [.K 3] [3]) (.s (.seg 5 [.C 0 1]) (.s (.seg 7 [.C 0 2]) (.s (.seg 2 []) (.joinR (Int × arena_Arena) 1 1 (gj (g2 (gI 4) (gO arena_Arena.D [0, 1, 2, 3])) [nA arena_Arena.D [0, 1, 2, 3] (fun al => ([al.free_c], [al.free_b]))]) (fun st_ s_ ns_ as_ => match (g2 (gP 0) (gA arena_Arena.D [0, 1, 2, 3])) st_ with | some x_ => ([(4, .int .i64 s_.1)] ++ kp [0] st_, ka [] st_ ++ zipL [0, 1, 2, 3] (arena_Arena.D.flat (x_.1) (arena_Arena.A.mk (x_.2.l_b) (x_.2.l_c) (na as_ 0) (nn ns_ 0) (x_.2.m__p)) s_.2)) | none => ([], [])) (.cond (.s (.seg 5 [.C 0 2]) (.s (.idx false 2 (.tmp 27) 2) (.s (.seg 3 [.A 2, .X 2 2 0]) (.s (.seg 6 [.C 0 2]) (.s (.cut false 2 none (some (.tmp 35)) 1003) (.s (.seg 3 [.W 1003]) (.s (.sto 0) (.s (.own 1003 2) .leaf)))))))) (.s (.seg 7 [.C 0 0]) (.cond (.s (.seg 2 []) .ret) (.s (.seg 7 [.C 0 1]) (.s (.sto 0) .leaf))))) (.drw (.q [0, 1, 2, 3, 4] [.C 0 0] (.a 5 (.call K193 [] []) [.C 0 0] (.s (.idx false 1 (.tmp 57) 5) (.q [6] [.A 5] (.a 7 (.sset 1 5 0) [] (.s (.rlc 5 0 0) (.s (.seg 3 []) .ret)))))))))))))))) Tryz.func138 rfl rfl (by kernel_rfl) (fun _ => rfl) (fun i => by kernel_rfl) (fun i s => by kernel_rfl)

noncomputable def K138 : SCon El Tryz.prog := ⟨C138, S138, Tryz.call138⟩

noncomputable abbrev C206p : List (PK El) := [pO arena_Arena.D, pI .i64]
noncomputable def C206 : Con El := mkCon 206 C206p (fun i_ => arena_Arena_Live i_.1.2.2 i_.2.1) 0 0 (fun i_ t ns_ as_ => .bool t) (fun i_ t ns_ as_ => arena_Arena.D.flat i_.1.1 i_.1.2.1 i_.1.2.2)

theorem S206 : (C206).Sound Tryz.prog :=
  fn_sound mixed (C206) (n := 26) (rs := rsOf Tryz.prog 206) [] [0, 1, 2, 3] (gj (gB 4) []) (fun i => (.s (.seg 1 []) (.join (Bool) 0 0 (gj (gB 4) []) (fun st_ s_ ns_ as_ => ([(4, .bool s_)] ++ kp [] st_, ka [0, 1, 2, 3] st_)) (.s (.seg 3 []) (.split 7 (.s (.seg 9 [.C 0 0]) (.split 16 (.s (.seg 5 [.C 0 0]) (.s (.idx false 1 (.tmp 21) 2) (.s (.seg 5 [.A 2, .X 2 1 10]) .leaf))) (.s (.seg 10 []) .leaf))) (.s (.seg 19 []) .leaf))) .ret))) Tryz.func206 rfl rfl (by kernel_rfl) (fun _ => rfl) (fun i => by kernel_rfl) (fun i s => by kernel_rfl)

noncomputable def K206 : SCon El Tryz.prog := ⟨C206, S206, Tryz.call206⟩

noncomputable abbrev C194p : List (PK El) := [pO arena_Arena.D, pI .i64, pI .i64]
noncomputable def C194 : Con El := mkCon 194 C194p (fun i_ => arena_Arena_has i_.1.2.2 i_.2.1 i_.2.2.1) 0 0 (fun i_ t ns_ as_ => .bool t) (fun i_ t ns_ as_ => arena_Arena.D.flat i_.1.1 i_.1.2.1 i_.1.2.2)

theorem S194 : (C194).Sound Tryz.prog :=
  fn_sound mixed (C194) (n := 18) (rs := rsOf Tryz.prog 194) [] [0, 1, 2, 3] (gj (gB 6) []) (fun i => (.s (.seg 1 []) (.join (Bool) 0 0 (gj (gB 6) []) (fun st_ s_ ns_ as_ => ([(6, .bool s_)] ++ kp [] st_, ka [0, 1, 2, 3] st_)) (.s (.seg 2 []) (.s (.call K206 [.K 0, .K 1, .K 2, .K 3] [0, 1, 2, 3]) (.s (.seg 1 []) (.split 10 (.s (.seg 4 []) (.split 14 (.s (.seg 4 []) .leaf) (.s (.seg 4 []) .leaf))) (.s (.seg 8 []) .leaf))))) .ret))) Tryz.func194 rfl rfl (by kernel_rfl) (fun _ => rfl) (fun i => by kernel_rfl) (fun i s => by kernel_rfl)

noncomputable def K194 : SCon El Tryz.prog := ⟨C194, S194, Tryz.call194⟩

theorem arena_Arena_has_ok {w0 w : World} {As : List HP} {p_a_ : Nat} {al_a_ : arena_Arena.A} {a_ : arena_Arena} {c_ : Int} {field : Int} {t : Bool}  (hm : arena_Arena_has a_ c_ field = some t) (H : St w0 (arena_Arena.R p_a_ al_a_ a_ :: As) w) :
    CallsR Tryz.prog 194 #[.pointer (some ⟨p_a_, 0, none⟩), .int .i64 c_, .int .i64 field] w fun v w' => v = .bool t ∧ St w0 (arena_Arena.R p_a_ al_a_ a_ :: As) w' := by
  replace H := (fs0 fun As => arena_Arena.D_st).1 H
  refine (S194 ((p_a_, al_a_, a_), c_, field, ()) t hm w0 w (As) rd0 H).mono ?_
  rintro v w' ⟨ns, as_, hn, ha, hv, H, hfx⟩
  obtain rfl := ls0 hn
  obtain rfl := ls0 ha
  refine ⟨hv, ?_⟩
  refine (fs0 fun As => arena_Arena.D_st).2 ?_
  exact H

theorem arena_Arena_Set_ok {w0 w : World} {As : List HP} {p_a_ : Nat} {al_a_ : arena_Arena.A} {a_ : arena_Arena} {c_ : Int} {field : Int} {v_ : Int} {t : Bool × arena_Arena}  (hm : arena_Arena_Set a_ c_ field v_ = some t) (H : St w0 (arena_Arena.R p_a_ al_a_ a_ :: As) w) :
    CallsR Tryz.prog 139 #[.pointer (some ⟨p_a_, 0, none⟩), .int .i64 c_, .int .i64 field, .int .i64 v_] w fun v w' => v = .bool t.1 ∧ St w0 (arena_Arena.R p_a_ al_a_ t.2 :: As) w' := by
 rw [arena_Arena_Set] at hm
 refine enter (args := [.pointer (some ⟨p_a_, 0, none⟩), .int .i64 c_, .int .i64 field, .int .i64 v_]) Tryz.func139 rfl rfl rfl fun a hE => ?_
 refine Runs.sr ?_
 refine WR.seg hE 1 [] [0, 1, 2, 3] (Lo := [(0, .pointer (some ⟨p_a_, 0, none⟩)), (1, .int .i64 c_), (2, .int .i64 field), (3, .int .i64 v_)]) (obs := []) rfl (by kernel_rfl) trivial fun a hE => ?_
 refine WR.done rfl ?_
 refine Runs.sr ?_
 replace H := arena_Arena.open H
 refine WR.d hE 4 [.pointer (some ⟨al_a_.m__p, 0, none⟩)] [(12, .pointer (some ⟨al_a_.m__p, 0, none⟩))] (obs := [.cell ⟨p_a_, 3, none⟩ (.pointer (some ⟨al_a_.m__p, 0, none⟩))]) ⟨H.cell 0 rfl rfl, trivial⟩ fun a hE => ?_
 obtain ⟨t_, et_, hm⟩ := bind_some hm
 refine WR.eff hE rfl rfl rfl rfl (OpTo.fn hE rfl rfl Tryz.call192 (meter_Meter_Tick_ok et_ H.t3)) ?_
 rintro _ w ⟨rfl, H⟩ a hE
 refine WR.done rfl ?_
 refine Runs.seq ?_
 refine Runs.sr ?_
 refine WR.d0 hE 3 [(14, .pointer (some ⟨p_a_, 0, none⟩)), (15, .int .i64 c_), (16, .int .i64 field)] fun a hE => ?_
 replace H := arena_Arena.shut al_a_ (arena_Arena.mk a_.l a_.never a_.free t_) H.t3.t3.t3
 obtain ⟨t_1, et_1, hm⟩ := bind_some hm
 refine WR.eff hE rfl rfl rfl rfl (OpTo.fn hE rfl rfl Tryz.call194 (arena_Arena_has_ok et_1 H)) ?_
 rintro _ w ⟨rfl, H⟩ a hE
 refine WR.e0 hE [(18, .bool (!t_1))] fun a hE => ?_
 refine Runs.cond hE rfl (fun c => ?_) (fun c => ?_)
 ·replace hm := cond_t c hm
  refine Runs.sr ?_
  refine WR.e0 hE [(8, .bool false)] fun a hE => ?_
  refine Runs.ret hE Tryz.func139 rfl rfl ?_
  cases hm
  exact ⟨rfl, H⟩
 ·replace hm := cond_f c hm
  refine Runs.skip ?_
  refine Runs.sr ?_
  replace H := arena_Arena.open H
  try dsimp only at H
  obtain ⟨x, ex, hm⟩ := bind_some hm
  obtain ⟨b, o, hs, hb⟩ := SlRd.base (sl_rd 267 arena_cell.enc 11 _ _ _) arena_cell.enc_ok H 1 rfl ex
  obtain ⟨u, eu, hm⟩ := bind_some hm
  refine WR.d hE 10 [.slice al_a_.l_b a_.l.length al_a_.l_c, .pointer (some ⟨b, o, none⟩)] [(25, .int .i64 v_), (28, .pointer (some ⟨b, o + (Int.toNat c_) * 11 + (Int.toNat field) * 1, none⟩))] (obs := [.cell ⟨p_a_, 0, none⟩ (.slice al_a_.l_b a_.l.length al_a_.l_c), .p ((al_a_.l_b : Option Addr) = some ⟨b, o, none⟩), .p (0 ≤ (c_ : Int) ∧ (c_ : Int) < ((a_.l.length : Nat) : Int)), .p (0 ≤ (field : Int) ∧ (field : Int) < ((10 : Nat) : Int))]) ⟨H.cell 0 rfl rfl, hs, hb, in_spec eu, trivial⟩ fun a hE => ?_
  obtain ⟨y, ey, hm⟩ := bind_some hm
  refine WR.eff0 hE rfl rfl rfl (OpTo.storeSl (q := (Int.toNat field) * 1) (x' := y) hE H.t1 arena_cell.enc_ok rfl hs ex rfl rfl rfl rfl rfl (by have := in_spec eu; show (Int.toNat field) * 1 + 1 ≤ 11; omega) (arena_cell.set_f_spec ey)) ?_
  rintro _ w H a hE
  rw [← mSet_len a_.l c_ y] at H
  refine WR.done rfl ?_
  refine Runs.sr ?_
  refine WR.e0 hE [(8, .bool true)] fun a hE => ?_
  replace H := arena_Arena.shut al_a_ (arena_Arena.mk (mSet a_.l c_ y) a_.never a_.free t_) H.t3.t3.t2.t3
  refine Runs.ret hE Tryz.func139 rfl rfl ?_
  cases hm
  exact ⟨rfl, H⟩

noncomputable abbrev C139p : List (PK El) := [pO arena_Arena.D, pI .i64, pI .i64, pI .i64]
noncomputable def C139 : Con El := mkCon 139 C139p (fun i_ => arena_Arena_Set i_.1.2.2 i_.2.1 i_.2.2.1 i_.2.2.2.1) 0 0 (fun i_ t ns_ as_ => .bool t.1) (fun i_ t ns_ as_ => arena_Arena.D.flat i_.1.1 i_.1.2.1 t.2)

theorem S139 : (C139).Sound Tryz.prog := fun i_ t hm w0 w F hr H => by
  obtain ⟨⟨p0, l0, x0⟩, x1, x2, x3, _⟩ := i_
  have H2 : St w0 (arena_Arena.R p0 l0 x0 :: F) w := by
    refine (fs0 fun As => arena_Arena.D_st).2 ?_
    exact H
  refine (arena_Arena_Set_ok (show arena_Arena_Set x0 x1 x2 x3 = some t from hm) H2).mono ?_
  rintro v w' ⟨hv, H⟩
  refine ⟨[], [], rfl, rfl, hv, ?_, fun _ h => by cases h⟩
  replace H := (fs0 fun As => arena_Arena.D_st).1 H
  exact H

noncomputable def K139 : SCon El Tryz.prog := ⟨C139, S139, Tryz.call139⟩

noncomputable abbrev C109p : List (PK El) := [pO arena_Arena.D, pI .i64, pI .i64]
noncomputable def C109 : Con El := mkCon 109 C109p (fun i_ => item_New i_.1.2.2 i_.2.1 i_.2.2.1) 1 1 (fun i_ t ns_ as_ => .tuple #[.int .i64 t.1, .bool t.2.1]) (fun i_ t ns_ as_ => arena_Arena.D.flat i_.1.1 (arena_Arena.A.mk i_.1.2.1.l_b i_.1.2.1.l_c (na as_ 0) (nn ns_ 0) i_.1.2.1.m__p) t.2.2)

theorem S109 : (C109).Sound Tryz.prog :=
  fn_sound mixed (C109) (n := 28) (rs := rsOf Tryz.prog 109) [] [0, 1, 2, 3] (gj (g2 (gI 6) (g2 (gB 7) (gO arena_Arena.D [0, 1, 2, 3]))) [nA arena_Arena.D [0, 1, 2, 3] (fun al => ([al.free_c], [al.free_b]))]) (fun i => (.s (.seg 2 []) (.s (.seg 2 []) (.condF (.s (.seg 1 []) (.s (.call K138 [.K 0, .K 1, .K 2, .K 3] [0, 1, 2, 3]) (.s (.seg 5 []) (.s (.seg 1 []) (.join (arena_Arena) 0 0 (gj (gO arena_Arena.D [0, 1, 2, 3]) []) (fun st_ s_ ns_ as_ => match (g2 (gP 0) (gA arena_Arena.D [0, 1, 2, 3])) st_ with | some x_ => ([] ++ kp [8, 9] st_, ka [] st_ ++ zipL [0, 1, 2, 3] (arena_Arena.D.flat (x_.1) (arena_Arena.A.mk (x_.2.l_b) (x_.2.l_c) (x_.2.free_b) (x_.2.free_c) (x_.2.m__p)) s_)) | none => ([], [])) (.cond (.s (.seg 3 []) (.s (.call K139 [.K 0, .K 1, .K 2, .K 3] [0, 1, 2, 3]) (.s (.seg 3 []) (.s (.call K139 [.K 0, .K 1, .K 2, .K 3] [0, 1, 2, 3]) .leaf)))) .leaf) (.s (.seg 4 []) .ret)))))))))) Tryz.func109 rfl rfl (by kernel_rfl) (fun _ => rfl) (fun i => by kernel_rfl) (fun i s => by kernel_rfl)

noncomputable def K109 : SCon El Tryz.prog := ⟨C109, S109, Tryz.call109⟩

noncomputable abbrev C229p : List (PK El) := [pO arena_Arena.D, pI .i64, pI .i64]
noncomputable def C229 : Con El := mkCon 229 C229p (fun i_ => item_Put i_.1.2.2 i_.2.1 i_.2.2.1) 0 0 (fun i_ t ns_ as_ => .tuple #[]) (fun i_ t ns_ as_ => arena_Arena.D.flat i_.1.1 i_.1.2.1 t)

theorem S229 : (C229).Sound Tryz.prog :=
  fn_sound mixed (C229) (n := 16) (rs := rsOf Tryz.prog 229) [] [0, 1, 2, 3] (gj (gO arena_Arena.D [0, 1, 2, 3]) []) (fun i => (.s (.seg 2 []) (.condT (.s (.seg 3 []) (.s (.call K139 [.K 0, .K 1, .K 2, .K 3] [0, 1, 2, 3]) (.s (.seg 3 []) (.s (.call K139 [.K 0, .K 1, .K 2, .K 3] [0, 1, 2, 3]) .leaf))))))) Tryz.func229 rfl rfl (by kernel_rfl) (fun _ => rfl) (fun i => by kernel_rfl) (fun i s => by kernel_rfl)

noncomputable def K229 : SCon El Tryz.prog := ⟨C229, S229, Tryz.call229⟩

noncomputable abbrev C195p : List (PK El) := [pO arena_Arena.D, pI .i64]
noncomputable def C195 : Con El := mkCon 195 C195p (fun i_ => node_New i_.1.2.2 i_.2.1) 1 1 (fun i_ t ns_ as_ => .tuple #[.int .i64 t.1, .bool t.2.1]) (fun i_ t ns_ as_ => arena_Arena.D.flat i_.1.1 (arena_Arena.A.mk i_.1.2.1.l_b i_.1.2.1.l_c (na as_ 0) (nn ns_ 0) i_.1.2.1.m__p) t.2.2)

theorem S195 : (C195).Sound Tryz.prog :=
  fn_sound mixed (C195) (n := 20) (rs := rsOf Tryz.prog 195) [] [0, 1, 2, 3] (gj (g2 (gI 4) (g2 (gB 5) (gO arena_Arena.D [0, 1, 2, 3]))) [nA arena_Arena.D [0, 1, 2, 3] (fun al => ([al.free_c], [al.free_b]))]) (fun i => (.s (.seg 2 []) (.s (.seg 1 []) (.s (.call K138 [.K 0, .K 1, .K 2, .K 3] [0, 1, 2, 3]) (.s (.seg 5 []) (.s (.seg 1 []) (.join (arena_Arena) 0 0 (gj (gO arena_Arena.D [0, 1, 2, 3]) []) (fun st_ s_ ns_ as_ => match (g2 (gP 0) (gA arena_Arena.D [0, 1, 2, 3])) st_ with | some x_ => ([] ++ kp [6, 7] st_, ka [] st_ ++ zipL [0, 1, 2, 3] (arena_Arena.D.flat (x_.1) (arena_Arena.A.mk (x_.2.l_b) (x_.2.l_c) (x_.2.free_b) (x_.2.free_c) (x_.2.m__p)) s_)) | none => ([], [])) (.cond (.s (.seg 3 []) (.s (.call K229 [.K 0, .K 1, .K 2, .K 3] [0, 1, 2, 3]) .leaf)) .leaf) (.s (.seg 4 []) .ret)))))))) Tryz.func195 rfl rfl (by kernel_rfl) (fun _ => rfl) (fun i => by kernel_rfl) (fun i s => by kernel_rfl)

noncomputable def K195 : SCon El Tryz.prog := ⟨C195, S195, Tryz.call195⟩

noncomputable abbrev C230p : List (PK El) := [pO arena_Arena.D]
noncomputable def C230 : Con El := mkCon 230 C230p (fun i_ => arena_Arena_Cells i_.1.2.2) 0 0 (fun i_ t ns_ as_ => .int .i64 t) (fun i_ t ns_ as_ => arena_Arena.D.flat i_.1.1 i_.1.2.1 i_.1.2.2)

theorem S230 : (C230).Sound Tryz.prog :=
  fn_sound mixed (C230) (n := 8) (rs := rsOf Tryz.prog 230) [] [0, 1, 2, 3] (gj (gI 2) []) (fun i => (.s (.seg 1 []) (.s (.seg 6 [.C 0 0]) .ret))) Tryz.func230 rfl rfl (by kernel_rfl) (fun _ => rfl) (fun i => by kernel_rfl) (fun i s => by kernel_rfl)

noncomputable def K230 : SCon El Tryz.prog := ⟨C230, S230, Tryz.call230⟩

theorem arena_Arena_Get_ok {w0 w : World} {As : List HP} {p_a_ : Nat} {al_a_ : arena_Arena.A} {a_ : arena_Arena} {c_ : Int} {field : Int} {t : Int × arena_Arena}  (hm : arena_Arena_Get a_ c_ field = some t) (H : St w0 (arena_Arena.R p_a_ al_a_ a_ :: As) w) :
    CallsR Tryz.prog 161 #[.pointer (some ⟨p_a_, 0, none⟩), .int .i64 c_, .int .i64 field] w fun v w' => v = .int .i64 t.1 ∧ St w0 (arena_Arena.R p_a_ al_a_ t.2 :: As) w' := by
 rw [arena_Arena_Get] at hm
 refine enter (args := [.pointer (some ⟨p_a_, 0, none⟩), .int .i64 c_, .int .i64 field]) Tryz.func161 rfl rfl rfl fun a hE => ?_
 refine Runs.sr ?_
 refine WR.seg hE 1 [] [0, 1, 2] (Lo := [(0, .pointer (some ⟨p_a_, 0, none⟩)), (1, .int .i64 c_), (2, .int .i64 field)]) (obs := []) rfl (by kernel_rfl) trivial fun a hE => ?_
 refine WR.done rfl ?_
 refine Runs.sr ?_
 replace H := arena_Arena.open H
 refine WR.d hE 4 [.pointer (some ⟨al_a_.m__p, 0, none⟩)] [(10, .pointer (some ⟨al_a_.m__p, 0, none⟩))] (obs := [.cell ⟨p_a_, 3, none⟩ (.pointer (some ⟨al_a_.m__p, 0, none⟩))]) ⟨H.cell 0 rfl rfl, trivial⟩ fun a hE => ?_
 obtain ⟨t_, et_, hm⟩ := bind_some hm
 refine WR.eff hE rfl rfl rfl rfl (OpTo.fn hE rfl rfl Tryz.call192 (meter_Meter_Tick_ok et_ H.t3)) ?_
 rintro _ w ⟨rfl, H⟩ a hE
 refine WR.done rfl ?_
 refine Runs.seq ?_
 refine Runs.sr ?_
 refine WR.d0 hE 3 [(12, .pointer (some ⟨p_a_, 0, none⟩)), (13, .int .i64 c_), (14, .int .i64 field)] fun a hE => ?_
 replace H := arena_Arena.shut al_a_ (arena_Arena.mk a_.l a_.never a_.free t_) H.t3.t3.t3
 obtain ⟨t_1, et_1, hm⟩ := bind_some hm
 refine WR.eff hE rfl rfl rfl rfl (OpTo.fn hE rfl rfl Tryz.call194 (arena_Arena_has_ok et_1 H)) ?_
 rintro _ w ⟨rfl, H⟩ a hE
 refine WR.e0 hE [(16, .bool (!t_1))] fun a hE => ?_
 refine Runs.cond hE rfl (fun c => ?_) (fun c => ?_)
 ·replace hm := cond_t c hm
  refine Runs.sr ?_
  refine WR.e0 hE [(6, .int .i64 (-1))] fun a hE => ?_
  refine Runs.ret hE Tryz.func161 rfl rfl ?_
  cases hm
  exact ⟨rfl, H⟩
 ·replace hm := cond_f c hm
  refine Runs.skip ?_
  refine Runs.sr ?_
  replace H := arena_Arena.open H
  try dsimp only at H
  obtain ⟨x, ex, hm⟩ := bind_some hm
  obtain ⟨b, o, hs, hb⟩ := SlRd.base (sl_rd 267 arena_cell.enc 11 _ _ _) arena_cell.enc_ok H 1 rfl ex
  obtain ⟨u, eu, hm⟩ := bind_some hm
  obtain ⟨v_, ev_, hm⟩ := bind_some hm
  refine WR.e hE [.slice al_a_.l_b a_.l.length al_a_.l_c, .pointer (some ⟨b, o, none⟩), .int .i64 v_] [(6, .int .i64 v_)] (obs := [.cell ⟨p_a_, 0, none⟩ (.slice al_a_.l_b a_.l.length al_a_.l_c), .p ((al_a_.l_b : Option Addr) = some ⟨b, o, none⟩), .p (0 ≤ (c_ : Int) ∧ (c_ : Int) < ((a_.l.length : Nat) : Int)), .p (0 ≤ (field : Int) ∧ (field : Int) < ((10 : Nat) : Int)), .cell ⟨b, o + (Int.toNat c_) * 11 + (Int.toNat field) * 1, none⟩ (.int .i64 v_)]) ⟨H.cell 0 rfl rfl, hs, hb, in_spec eu, SlRd.cells (sl_rd 267 arena_cell.enc 11 _ _ _) arena_cell.enc_ok H 1 rfl hs ex ((Int.toNat field) * 1) _ (arena_cell.get_f_spec ev_), trivial⟩ fun a hE => ?_
  replace H := arena_Arena.shut al_a_ (arena_Arena.mk a_.l a_.never a_.free t_) H.t3.t3.t3.t3
  refine Runs.ret hE Tryz.func161 rfl rfl ?_
  cases hm
  exact ⟨rfl, H⟩

noncomputable abbrev C161p : List (PK El) := [pO arena_Arena.D, pI .i64, pI .i64]
noncomputable def C161 : Con El := mkCon 161 C161p (fun i_ => arena_Arena_Get i_.1.2.2 i_.2.1 i_.2.2.1) 0 0 (fun i_ t ns_ as_ => .int .i64 t.1) (fun i_ t ns_ as_ => arena_Arena.D.flat i_.1.1 i_.1.2.1 t.2)

theorem S161 : (C161).Sound Tryz.prog := fun i_ t hm w0 w F hr H => by
  obtain ⟨⟨p0, l0, x0⟩, x1, x2, _⟩ := i_
  have H2 : St w0 (arena_Arena.R p0 l0 x0 :: F) w := by
    refine (fs0 fun As => arena_Arena.D_st).2 ?_
    exact H
  refine (arena_Arena_Get_ok (show arena_Arena_Get x0 x1 x2 = some t from hm) H2).mono ?_
  rintro v w' ⟨hv, H⟩
  refine ⟨[], [], rfl, rfl, hv, ?_, fun _ h => by cases h⟩
  replace H := (fs0 fun As => arena_Arena.D_st).1 H
  exact H

noncomputable def K161 : SCon El Tryz.prog := ⟨C161, S161, Tryz.call161⟩

noncomputable abbrev C204p : List (PK El) := [pO arena_Arena.D, pI .i64, pI .i64]
noncomputable def C204 : Con El := mkCon 204 C204p (fun i_ => arena_Arena_Cell i_.1.2.2 i_.2.1 i_.2.2.1) 0 0 (fun i_ t ns_ as_ => .int .i64 t.1) (fun i_ t ns_ as_ => arena_Arena.D.flat i_.1.1 i_.1.2.1 t.2)

theorem S204 : (C204).Sound Tryz.prog :=
  fn_sound mixed (C204) (n := 24) (rs := rsOf Tryz.prog 204) [] [0, 1, 2, 3] (gj (g2 (gI 6) (gO arena_Arena.D [0, 1, 2, 3])) []) (fun i => (.s (.seg 1 []) (.s (.seg 3 []) (.s (.call K161 [.K 0, .K 1, .K 2, .K 3] [0, 1, 2, 3]) (.s (.seg 1 []) (.join (Bool) 0 0 (gj (gB 22) []) (fun st_ s_ ns_ as_ => ([(22, .bool s_)] ++ kp [7] st_, ka [0, 1, 2, 3] st_)) (.s (.seg 3 []) (.split 14 (.s (.seg 8 []) .leaf) (.s (.seg 8 [.C 0 0]) .leaf))) (.cond (.s (.seg 1 []) .ret) (.s (.seg 2 []) .ret)))))))) Tryz.func204 rfl rfl (by kernel_rfl) (fun _ => rfl) (fun i => by kernel_rfl) (fun i s => by kernel_rfl)

noncomputable def K204 : SCon El Tryz.prog := ⟨C204, S204, Tryz.call204⟩

noncomputable abbrev C270p : List (PK El) := [pO arena_Arena.D, pI .i64]
noncomputable def C270 : Con El := mkCon 270 C270p (fun i_ => item_Entry i_.1.2.2 i_.2.1) 0 0 (fun i_ t ns_ as_ => .agg #[.int .i64 t.1.Key, .int .i64 t.1.Serial]) (fun i_ t ns_ as_ => arena_Arena.D.flat i_.1.1 i_.1.2.1 t.2)

theorem S270 : (C270).Sound Tryz.prog :=
  fn_sound mixed (C270) (n := 15) (rs := rsOf Tryz.prog 270) [.C 2000 0, .C 2000 1] [0, 1, 2, 3] (gj (g2 (gC 2000 0 2 api_Entry.dec) (gO arena_Arena.D [0, 1, 2, 3])) []) (fun i => (.s (.new 4 []) (.s (.seg 2 []) (.condF (.s (.seg 2 []) (.s (.call K161 [.K 0, .K 1, .K 2, .K 3] [0, 1, 2, 3]) (.s (.seg 2 []) (.s (.call K161 [.K 0, .K 1, .K 2, .K 3] [0, 1, 2, 3]) (.s (.seg 1 []) (.s (.sto 4) (.rk [(4, 2000), (2000, 92000)] .ret))))))))))) Tryz.func270 rfl rfl (by kernel_rfl) (fun _ => rfl) (fun i => by kernel_rfl) (fun i s => by kernel_rfl)

noncomputable def K270 : SCon El Tryz.prog := ⟨C270, S270, Tryz.call270⟩

noncomputable abbrev C281p : List (PK El) := [pI .i64]
noncomputable def C281 : Con El := mkCon 281 C281p (fun i_ => cmp_isNaN_int64 i_.1) 0 0 (fun i_ t ns_ as_ => .bool t) (fun i_ t ns_ as_ => [])

theorem S281 : (C281).Sound Tryz.prog :=
  fn_sound mixed (C281) (n := 6) (rs := rsOf Tryz.prog 281) [] [] (gj (gB 2) []) (fun i => (.s (.seg 1 []) (.s (.seg 4 []) .ret))) Tryz.func281 rfl rfl (by kernel_rfl) (fun _ => rfl) (fun i => by kernel_rfl) (fun i s => by kernel_rfl)

noncomputable def K281 : SCon El Tryz.prog := ⟨C281, S281, Tryz.call281⟩

noncomputable abbrev C277p : List (PK El) := [pI .i64, pI .i64]
noncomputable def C277 : Con El := mkCon 277 C277p (fun i_ => cmp_Compare_int64 i_.1 i_.2.1) 0 0 (fun i_ t ns_ as_ => .int .i64 t) (fun i_ t ns_ as_ => [])

theorem S277 : (C277).Sound Tryz.prog :=
  fn_sound mixed (C277) (n := 20) (rs := rsOf Tryz.prog 277) [] [] (gj (gI 4) []) (fun i => (.s (.seg 1 []) (.s (.seg 1 []) (.s (.call K281 [] []) (.s (.seg 1 []) (.s (.seg 1 []) (.s (.call K281 [] []) (.s (.seg 1 []) (.s (.seg 1 []) (.cond (.s (.seg 1 []) (.cond (.s (.seg 1 []) .ret) (.s (.seg 1 []) .ret))) (.s (.seg 1 []) (.cond (.s (.seg 1 []) .ret) (.s (.seg 3 []) (.cond (.s (.seg 1 []) .ret) (.s (.seg 3 []) (.cond (.s (.seg 1 []) .ret) (.s (.seg 1 []) .ret))))))))))))))))) Tryz.func277 rfl rfl (by kernel_rfl) (fun _ => rfl) (fun i => by kernel_rfl) (fun i s => by kernel_rfl)

noncomputable def K277 : SCon El Tryz.prog := ⟨C277, S277, Tryz.call277⟩

noncomputable abbrev C276p : List (PK El) := [pR 1]
noncomputable def C276 (k : Nat) : Con El := mkCon 276 C276p (fun i_ => cmp_Or_int k i_.1.2.2) 0 0 (fun i_ t ns_ as_ => .int .i64 t) (fun i_ t ns_ as_ => [])

noncomputable abbrev C276r (k : Nat) (i : Ins C276p) : Kn El → VC (C276 k).T := retC Tryz.prog (C276 k) (rsOf Tryz.prog 276) [] [] (gj (gI 2) []) i

noncomputable def C276l0 (i_ : Ins C276p) : BCon El (Int) := ⟨nav [1, 1, 0, 1] (bodyOf Tryz.prog 276), Int, Int, Unit, (Int) ⊕ (Unit), fun r => r, fun _ _ => none, fun x_ => [(0, ⟨1, i_.1.1, i_.1.2.1, i_.1.2.2⟩)], fun x_ v_ ns_ as_ => [(3, .int .i64 0), (6, .slice i_.1.1 i_.1.2.2.length i_.1.2.1), (7, .int .i64 (x_)), (8, .int .i64 v_)], fun x_ v_ ns_ as_ => [], 0, 0, fun x_ u_ ns_ as_ => [(3, .int .i64 0)], fun x_ u_ ns_ as_ => []⟩

noncomputable def C276l0g (k : Nat) (i_ : Ins C276p) : Nat → (C276l0 i_).X → (C276l0 i_).V → Option (C276l0 i_).W := fun m_ (x_ : Int) (v_ : Int) => cmp_Or_int_l0 (x_) i_.1.2.2 m_ v_

theorem C276l0s (k : Nat) (i : Ins C276p) (m : Nat) : ((C276l0 i).at (C276l0g k i) m).Sound Tryz.prog 276 18 (C276r k i) :=
  loop_sound mixed (C276l0 i) (id := 0) (body := nav [1, 1, 0, 1, 0, 0] (bodyOf Tryz.prog 276)) (C276l0g k i) (fun r => some (.inl r)) (fun u => .inr u) (gj (gI 8) []) (gj gU []) (fun m => (.s (.seg 1 []) (.cond (.blk (.s (.idx true 0 (.tmp 8) 2) (.s (.seg 3 [.A 2, .R 2 0]) (.s (.seg 3 []) (.cond (.s (.seg 2 []) .ret) (.s (.seg 2 []) .back)))))) .leaf))) (by kernel_rfl) (fun _ _ => rfl) (fun r y h => by cases h; rfl) (fun u => rfl) (fun m x v n1 n2 => by kernel_rfl) (fun m x v n1 n2 s => by kernel_rfl) m

theorem S276 (k : Nat) : (C276 k).Sound Tryz.prog :=
  fn_sound mixed (C276 k) (n := 18) (rs := rsOf Tryz.prog 276) [] [] (gj (gI 2) []) (fun i => (.s (.seg 1 []) (.s (.seg 1 []) (.s (.seg 3 []) (.loop ⟨(C276l0 i).at (C276l0g k i) k, C276l0s k i k⟩ (gl (gI 7) (gI 8) []) (.s (.seg 2 []) .ret)))))) Tryz.func276 rfl rfl (by kernel_rfl) (fun _ => rfl) (fun i => by kernel_rfl) (fun i s => by kernel_rfl)

noncomputable def K276 (k : Nat) : SCon El Tryz.prog := ⟨C276 k, S276 k, Tryz.call276⟩

noncomputable abbrev C269p : List (PK El) := [pV api_Entry.dv api_Entry.val, pV api_Entry.dv api_Entry.val]
noncomputable def C269 (k : Nat) : Con El := mkCon 269 C269p (fun i_ => order_Compare k i_.1 i_.2.1) 0 0 (fun i_ t ns_ as_ => .int .i64 t) (fun i_ t ns_ as_ => [])

theorem S269 (k : Nat) : (C269 k).Sound Tryz.prog :=
  fn_sound mixed (C269 k) (n := 17) (rs := rsOf Tryz.prog 269) [] [] (gj (gI 4) []) (fun i => (.s (.new 0 []) (.s (.new 1 []) (.s (.seg 1 []) (.drw (.q [0, 1, 2, 3, 5, 6, 7, 8] [.C 0 0, .C 1 0, .C 0 1, .C 1 1] (.a 4 (.call K277 [] []) [.C 1 1, .C 0 1] (.a 9 (.call K277 [] []) [] (.a 10 (.bld 3 1 3) [] (.a 11 (.call (K276 k) [.O 3] []) [] (.q [12] [] .ret))))))))))) Tryz.func269 rfl rfl (by kernel_rfl) (fun _ => rfl) (fun i => by kernel_rfl) (fun i s => by kernel_rfl)

noncomputable def K269 (k : Nat) : SCon El Tryz.prog := ⟨C269 k, S269 k, Tryz.call269⟩

noncomputable abbrev C250p : List (PK El) := [pO arena_Arena.D, pI .i64, pI .i64]
noncomputable def C250 (k : Nat) : Con El := mkCon 250 C250p (fun i_ => item_Before k i_.1.2.2 i_.2.1 i_.2.2.1) 0 0 (fun i_ t ns_ as_ => .bool t.1) (fun i_ t ns_ as_ => arena_Arena.D.flat i_.1.1 i_.1.2.1 t.2)

theorem S250 (k : Nat) : (C250 k).Sound Tryz.prog :=
  fn_sound mixed (C250 k) (n := 26) (rs := rsOf Tryz.prog 250) [] [0, 1, 2, 3] (gj (g2 (gB 6) (gO arena_Arena.D [0, 1, 2, 3])) []) (fun i => (.s (.seg 1 []) (.s (.seg 2 []) (.s (.call K270 [.K 0, .K 1, .K 2, .K 3] [0, 1, 2, 3]) (.s (.seg 2 []) (.s (.call K270 [.K 0, .K 1, .K 2, .K 3] [0, 1, 2, 3]) (.s (.call (K269 k) [] []) (.s (.seg 1 []) (.s (.seg 3 []) (.pj 17 (Bool) mB (gB 6) (fun st s_ => ([(6, .bool s_)] ++ kp [] st, ka [0, 1, 2, 3] st)) (.s (.seg 9 []) .leaf) (.s (.seg 3 []) (.pj 20 (Bool) mB (gB 6) (fun st s_ => ([(6, .bool s_)] ++ kp [] st, ka [0, 1, 2, 3] st)) (.s (.seg 6 []) .leaf) (.s (.seg 6 []) .leaf) .leaf)) .ret)))))))))) Tryz.func250 rfl rfl (by kernel_rfl) (fun _ => rfl) (fun i => by kernel_rfl) (fun i s => by kernel_rfl)

noncomputable def K250 (k : Nat) : SCon El Tryz.prog := ⟨C250 k, S250 k, Tryz.call250⟩

noncomputable abbrev C218p : List (PK El) := [pO arena_Arena.D, pI .i64, pI .i64]
noncomputable def C218 (k : Nat) : Con El := mkCon 218 C218p (fun i_ => node_Before k i_.1.2.2 i_.2.1 i_.2.2.1) 0 0 (fun i_ t ns_ as_ => .bool t.1) (fun i_ t ns_ as_ => arena_Arena.D.flat i_.1.1 i_.1.2.1 t.2)

theorem S218 (k : Nat) : (C218 k).Sound Tryz.prog :=
  fn_sound mixed (C218 k) (n := 15) (rs := rsOf Tryz.prog 218) [] [0, 1, 2, 3] (gj (g2 (gB 6) (gO arena_Arena.D [0, 1, 2, 3])) []) (fun i => (.s (.seg 1 []) (.s (.seg 3 []) (.s (.call K204 [.K 0, .K 1, .K 2, .K 3] [0, 1, 2, 3]) (.s (.seg 2 []) (.s (.call K204 [.K 0, .K 1, .K 2, .K 3] [0, 1, 2, 3]) (.s (.call (K250 k) [.K 0, .K 1, .K 2, .K 3] [0, 1, 2, 3]) (.s (.seg 1 []) .ret)))))))) Tryz.func218 rfl rfl (by kernel_rfl) (fun _ => rfl) (fun i => by kernel_rfl) (fun i s => by kernel_rfl)

noncomputable def K218 (k : Nat) : SCon El Tryz.prog := ⟨C218 k, S218 k, Tryz.call218⟩

noncomputable abbrev C260p : List (PK El) := [pO arena_Arena.D, pI .i64]
noncomputable def C260 : Con El := mkCon 260 C260p (fun i_ => leftist_rank i_.1.2.2 i_.2.1) 0 0 (fun i_ t ns_ as_ => .int .i64 t.1) (fun i_ t ns_ as_ => arena_Arena.D.flat i_.1.1 i_.1.2.1 t.2)

theorem S260 : (C260).Sound Tryz.prog :=
  fn_sound mixed (C260) (n := 10) (rs := rsOf Tryz.prog 260) [] [0, 1, 2, 3] (gj (g2 (gI 4) (gO arena_Arena.D [0, 1, 2, 3])) []) (fun i => (.s (.seg 1 []) (.s (.seg 2 []) (.cond (.s (.seg 1 []) .ret) (.s (.seg 2 []) (.s (.call K161 [.K 0, .K 1, .K 2, .K 3] [0, 1, 2, 3]) (.s (.seg 1 []) .ret))))))) Tryz.func260 rfl rfl (by kernel_rfl) (fun _ => rfl) (fun i => by kernel_rfl) (fun i s => by kernel_rfl)

noncomputable def K260 : SCon El Tryz.prog := ⟨C260, S260, Tryz.call260⟩

noncomputable abbrev C231p : List (PK El) := [pO arena_Arena.D, pI .i64]
noncomputable def C231 : Con El := mkCon 231 C231p (fun i_ => leftist_fix i_.1.2.2 i_.2.1) 0 0 (fun i_ t ns_ as_ => .bool t.1) (fun i_ t ns_ as_ => arena_Arena.D.flat i_.1.1 i_.1.2.1 t.2)

theorem S231 : (C231).Sound Tryz.prog :=
  fn_sound mixed (C231) (n := 46) (rs := rsOf Tryz.prog 231) [] [0, 1, 2, 3] (gj (g2 (gB 4) (gO arena_Arena.D [0, 1, 2, 3])) []) (fun i => (.s (.seg 1 []) (.s (.seg 2 []) (.s (.call K204 [.K 0, .K 1, .K 2, .K 3] [0, 1, 2, 3]) (.s (.seg 2 []) (.s (.call K204 [.K 0, .K 1, .K 2, .K 3] [0, 1, 2, 3]) (.s (.seg 2 []) (.s (.seg 2 []) (.s (.call K260 [.K 0, .K 1, .K 2, .K 3] [0, 1, 2, 3]) (.s (.seg 2 []) (.s (.call K260 [.K 0, .K 1, .K 2, .K 3] [0, 1, 2, 3]) (.s (.seg 2 []) (.s (.seg 3 []) (.join (Int × arena_Arena) 0 0 (gj (g2 (gI 8) (gO arena_Arena.D [0, 1, 2, 3])) []) (fun st_ s_ ns_ as_ => match (g2 (gP 0) (gA arena_Arena.D [0, 1, 2, 3])) st_ with | some x_ => ([(8, .int .i64 s_.1)] ++ kp [0, 1] st_, ka [] st_ ++ zipL [0, 1, 2, 3] (arena_Arena.D.flat (x_.1) (x_.2) s_.2)) | none => ([], [])) (.cond (.s (.seg 3 []) (.s (.call K139 [.K 0, .K 1, .K 2, .K 3] [0, 1, 2, 3]) (.s (.seg 3 []) (.s (.call K139 [.K 0, .K 1, .K 2, .K 3] [0, 1, 2, 3]) (.s (.seg 2 []) .leaf))))) .leaf) (.s (.seg 2 []) (.s (.call K161 [.K 0, .K 1, .K 2, .K 3] [0, 1, 2, 3]) (.s (.seg 1 []) (.s (.seg 4 []) (.s (.call K139 [.K 0, .K 1, .K 2, .K 3] [0, 1, 2, 3]) (.s (.seg 5 []) .ret)))))))))))))))))))) Tryz.func231 rfl rfl (by kernel_rfl) (fun _ => rfl) (fun i => by kernel_rfl) (fun i s => by kernel_rfl)

noncomputable def K231 : SCon El Tryz.prog := ⟨C231, S231, Tryz.call231⟩

noncomputable abbrev C196p : List (PK El) := [pO arena_Arena.D, pI .i64, pI .i64]
noncomputable def C196 (k : Nat) : Con El := mkCon 196 C196p (fun i_ => leftist_meld k i_.1.2.2 i_.2.1 i_.2.2.1) 0 0 (fun i_ t ns_ as_ => .int .i64 t.1) (fun i_ t ns_ as_ => arena_Arena.D.flat i_.1.1 i_.1.2.1 t.2)

noncomputable abbrev C196r (k : Nat) (i : Ins C196p) : Kn El → VC (C196 k).T := retC Tryz.prog (C196 k) (rsOf Tryz.prog 196) [] [0, 1, 2, 3] (gj (g2 (gI 6) (gO arena_Arena.D [0, 1, 2, 3])) []) i

noncomputable def C196l0 (i_ : Ins C196p) : BCon El (Int × arena_Arena) := ⟨nav [1, 1, 1, 0] (bodyOf Tryz.prog 196), Unit, Int × Int × (List Int) × arena_Arena, Int × Int × (List Int) × arena_Arena, Int × Int × (List Int) × arena_Arena, fun u => .inr u, fun _ _ => none, fun x_ => [], fun x_ v_ ns_ as_ => [(0, .pointer (some ⟨i_.1.1, 0, none⟩)), (1, .int .i64 v_.1), (2, .int .i64 v_.2.1), (7, .slice (na as_ 0) v_.2.2.1.length (nn ns_ 0))], fun x_ v_ ns_ as_ => zipL [9] [.sl 1 3 (na as_ 0) (nn ns_ 0) v_.2.2.1] ++ zipL [0, 1, 2, 3] (arena_Arena.D.flat i_.1.1 i_.1.2.1 v_.2.2.2), 1, 1, fun x_ u_ ns_ as_ => [(0, .pointer (some ⟨i_.1.1, 0, none⟩)), (1, .int .i64 u_.1), (2, .int .i64 u_.2.1), (7, .slice (na as_ 0) u_.2.2.1.length (nn ns_ 0))], fun x_ u_ ns_ as_ => zipL [8] [.sl 1 3 (na as_ 0) (nn ns_ 0) u_.2.2.1] ++ zipL [0, 1, 2, 3] (arena_Arena.D.flat i_.1.1 i_.1.2.1 u_.2.2.2)⟩

noncomputable def C196l0g (k : Nat) (i_ : Ins C196p) : Nat → (C196l0 i_).X → (C196l0 i_).V → Option (C196l0 i_).W := fun m_ (x_ : Unit) (v_ : Int × Int × (List Int) × arena_Arena) => leftist_meld_l0 m_ v_.1 v_.2.1 v_.2.2.1 v_.2.2.2

theorem C196l0s (k : Nat) (i : Ins C196p) (m : Nat) : ((C196l0 i).at (C196l0g k i) m).Sound Tryz.prog 196 75 (C196r k i) :=
  loop_sound mixed (C196l0 i) (id := 0) (body := nav [1, 1, 1, 0, 0, 0] (bodyOf Tryz.prog 196)) (C196l0g k i) (fun _ => none) (fun u => u) (gj (g2 (gI 1) (g2 (gI 2) (g2 (gL 1 9) (gO arena_Arena.D [0, 1, 2, 3])))) [nSk 9]) (gj (g2 (gI 1) (g2 (gI 2) (g2 (gL 1 8) (gO arena_Arena.D [0, 1, 2, 3])))) [nSk 8]) (fun m => (.join (Bool) 0 0 (gj (gB 26) []) (fun st_ s_ ns_ as_ => ([(26, .bool s_)] ++ kp [0, 1, 2, 7] st_, ka [9, 0, 1, 2, 3] st_)) (.s (.seg 3 []) (.split 16 (.s (.seg 4 []) (.split 20 (.s (.seg 3 []) (.s (.call K230 [.K 0, .K 1, .K 2, .K 3] [0, 1, 2, 3]) (.s (.seg 2 []) .leaf))) (.s (.seg 6 []) .leaf))) (.s (.seg 10 []) .leaf))) (.cond (.blk (.s (.seg 3 []) (.s (.call (K218 m) [.K 0, .K 1, .K 2, .K 3] [0, 1, 2, 3]) (.join (Int × Int) 0 0 (gj (g2 (gI 1) (gI 2)) []) (fun st_ s_ ns_ as_ => ([(1, .int .i64 s_.1), (2, .int .i64 s_.2)] ++ kp [0, 7] st_, ka [0, 1, 2, 3, 9] st_)) (.cond (.s (.seg 4 []) .leaf) .leaf) (.s (.seg 2 []) (.s (.bld 11 1 3) (.s (.app 9 (.O 11)) (.s (.seg 1 []) (.s (.seg 2 []) (.s (.call K204 [.K 0, .K 1, .K 2, .K 3] [0, 1, 2, 3]) (.s (.seg 1 []) .back))))))))))) (.rk [(9, 8), (8, 90008)] .leaf)))) (by kernel_rfl) (fun _ _ => rfl) (fun r y h => by cases h) (fun u => rfl) (fun m x v n1 n2 => by kernel_rfl) (fun m x v n1 n2 s => by kernel_rfl) m

noncomputable def C196l1 (i_ : Ins C196p) : BCon El (Int × arena_Arena) := ⟨nav [1, 1, 1, 1, 1, 0, 1] (bodyOf Tryz.prog 196), (List Int) × (Option Addr × Nat), Int × Int × arena_Arena, Int × arena_Arena, Int × arena_Arena, fun u => .inr u, fun _ _ => none, fun x_ => [], fun x_ v_ ns_ as_ => [(0, .pointer (some ⟨i_.1.1, 0, none⟩)), (7, .slice (x_.2.1) (x_.1).length (x_.2.2)), (8, .int .i64 v_.1), (9, .int .i64 v_.2.1)], fun x_ v_ ns_ as_ => zipL [8] [.sl 1 3 (x_.2.1) (x_.2.2) (x_.1)] ++ zipL [0, 1, 2, 3] (arena_Arena.D.flat i_.1.1 i_.1.2.1 v_.2.2), 0, 0, fun x_ u_ ns_ as_ => [(0, .pointer (some ⟨i_.1.1, 0, none⟩)), (8, .int .i64 u_.1)], fun x_ u_ ns_ as_ => zipL [0, 1, 2, 3] (arena_Arena.D.flat i_.1.1 i_.1.2.1 u_.2)⟩

noncomputable def C196l1g (k : Nat) (i_ : Ins C196p) : Nat → (C196l1 i_).X → (C196l1 i_).V → Option (C196l1 i_).W := fun m_ (x_ : (List Int) × (Option Addr × Nat)) (v_ : Int × Int × arena_Arena) => leftist_meld_l1 (x_.1) m_ v_.1 v_.2.1 v_.2.2

theorem C196l1s (k : Nat) (i : Ins C196p) (m : Nat) : ((C196l1 i).at (C196l1g k i) m).Sound Tryz.prog 196 75 (C196r k i) :=
  loop_sound mixed (C196l1 i) (id := 2) (body := nav [1, 1, 1, 1, 1, 0, 1, 0, 0] (bodyOf Tryz.prog 196)) (C196l1g k i) (fun _ => none) (fun u => u) (gj (g2 (gI 8) (g2 (gI 9) (gO arena_Arena.D [0, 1, 2, 3]))) []) (gj (g2 (gI 8) (gO arena_Arena.D [0, 1, 2, 3])) []) (fun m => (.s (.seg 2 []) (.cond (.blk (.s (.seg 3 []) (.s (.idx false 8 (.tmp 52) 6) (.s (.seg 3 [.A 6, .X 6 8 0]) (.s (.call K139 [.K 0, .K 1, .K 2, .K 3] [0, 1, 2, 3]) (.s (.seg 4 []) (.s (.idx false 8 (.tmp 60) 7) (.s (.seg 2 [.A 7, .X 7 8 0]) (.s (.call K139 [.K 0, .K 1, .K 2, .K 3] [0, 1, 2, 3]) (.s (.seg 2 []) (.s (.idx false 8 (.tmp 65) 8) (.s (.seg 3 [.A 8, .X 8 8 0]) (.s (.seg 2 []) (.s (.call K231 [.K 0, .K 1, .K 2, .K 3] [0, 1, 2, 3]) (.s (.seg 3 []) .back))))))))))))))) .leaf))) (by kernel_rfl) (fun _ _ => rfl) (fun r y h => by cases h) (fun u => rfl) (fun m x v n1 n2 => by kernel_rfl) (fun m x v n1 n2 s => by kernel_rfl) m

theorem S196 (k : Nat) : (C196 k).Sound Tryz.prog :=
  fn_sound mixed (C196 k) (n := 75) (rs := rsOf Tryz.prog 196) [] [0, 1, 2, 3] (gj (g2 (gI 6) (gO arena_Arena.D [0, 1, 2, 3])) []) (fun i => (.s (.seg 1 []) (.s (.seg 3 []) (.cond (.s (.seg 2 []) .ret) (.s (.seg 1 []) (.s (.nil 10 1 3) (.rk [(10, 9), (9, 90009)] (.loop ⟨(C196l0 i).at (C196l0g k i) k, C196l0s k i k⟩ (gl gU (g2 (gI 1) (g2 (gI 2) (g2 (gL 1 9) (gO arena_Arena.D [0, 1, 2, 3])))) [nSk 9]) (.s (.seg 4 []) (.s (.seg 4 []) (.loop ⟨(C196l1 i).at (C196l1g k i) k, C196l1s k i k⟩ (gl (g2 (gL 1 8) (gh 8)) (g2 (gI 8) (g2 (gI 9) (gO arena_Arena.D [0, 1, 2, 3]))) []) (.s (.seg 2 []) (.s (.call K139 [.K 0, .K 1, .K 2, .K 3] [0, 1, 2, 3]) (.s (.seg 2 []) .ret)))))))))))))) Tryz.func196 rfl rfl (by kernel_rfl) (fun _ => rfl) (fun i => by kernel_rfl) (fun i s => by kernel_rfl)

noncomputable def K196 (k : Nat) : SCon El Tryz.prog := ⟨C196 k, S196 k, Tryz.call196⟩

noncomputable abbrev C140p : List (PK El) := [pO arena_Arena.D, pI .i64, pI .i64]
noncomputable def C140 (k : Nat) : Con El := mkCon 140 C140p (fun i_ => leftist_Push k i_.1.2.2 i_.2.1 i_.2.2.1) 1 1 (fun i_ t ns_ as_ => .tuple #[.int .i64 t.1, .bool t.2.1]) (fun i_ t ns_ as_ => arena_Arena.D.flat i_.1.1 (arena_Arena.A.mk i_.1.2.1.l_b i_.1.2.1.l_c (na as_ 0) (nn ns_ 0) i_.1.2.1.m__p) t.2.2)

theorem S140 (k : Nat) : (C140 k).Sound Tryz.prog :=
  fn_sound mixed (C140 k) (n := 28) (rs := rsOf Tryz.prog 140) [] [0, 1, 2, 3] (gj (g2 (gI 6) (g2 (gB 7) (gO arena_Arena.D [0, 1, 2, 3]))) [nA arena_Arena.D [0, 1, 2, 3] (fun al => ([al.free_c], [al.free_b]))]) (fun i => (.s (.seg 2 []) (.s (.seg 2 []) (.condF (.s (.seg 2 []) (.s (.call K195 [.K 0, .K 1, .K 2, .K 3] [0, 1, 2, 3]) (.s (.seg 5 []) (.s (.seg 2 []) (.cond (.s (.seg 3 []) .ret) (.s (.seg 2 []) (.s (.call K139 [.K 0, .K 1, .K 2, .K 3] [0, 1, 2, 3]) (.s (.seg 3 []) (.s (.call (K196 k) [.K 0, .K 1, .K 2, .K 3] [0, 1, 2, 3]) (.s (.seg 2 []) .ret)))))))))))))) Tryz.func140 rfl rfl (by kernel_rfl) (fun _ => rfl) (fun i => by kernel_rfl) (fun i s => by kernel_rfl)

noncomputable def K140 (k : Nat) : SCon El Tryz.prog := ⟨C140 k, S140 k, Tryz.call140⟩

noncomputable abbrev C237p : List (PK El) := [pO arena_Arena.D, pI .i64, pI .i64]
noncomputable def C237 (k : Nat) : Con El := mkCon 237 C237p (fun i_ => node_Row k i_.1.2.2 i_.2.1 i_.2.2.1) 1 1 (fun i_ t ns_ as_ => .slice (na as_ 0) t.1.length (nn ns_ 0)) (fun i_ t ns_ as_ => [.sl 1 3 (na as_ 0) (nn ns_ 0) t.1] ++ arena_Arena.D.flat i_.1.1 i_.1.2.1 t.2)

noncomputable abbrev C237r (k : Nat) (i : Ins C237p) : Kn El → VC (C237 k).T := retC Tryz.prog (C237 k) (rsOf Tryz.prog 237) [] [1000, 0, 1, 2, 3] (gj (g2 (gL 1 1000) (gO arena_Arena.D [0, 1, 2, 3])) [nSk 1000]) i

noncomputable def C237l0 (i_ : Ins C237p) : BCon El ((List Int) × arena_Arena) := ⟨nav [1, 1, 0] (bodyOf Tryz.prog 237), Unit, Int × (List Int) × arena_Arena, (List Int) × arena_Arena, (List Int) × arena_Arena, fun u => .inr u, fun _ _ => none, fun x_ => [], fun x_ v_ ns_ as_ => [(0, .pointer (some ⟨i_.1.1, 0, none⟩)), (1, .int .i64 v_.1), (2, .int .i64 i_.2.2.1), (7, .slice (na as_ 0) v_.2.1.length (nn ns_ 0))], fun x_ v_ ns_ as_ => zipL [9] [.sl 1 3 (na as_ 0) (nn ns_ 0) v_.2.1] ++ zipL [0, 1, 2, 3] (arena_Arena.D.flat i_.1.1 i_.1.2.1 v_.2.2), 1, 1, fun x_ u_ ns_ as_ => [(7, .slice (na as_ 0) u_.1.length (nn ns_ 0))], fun x_ u_ ns_ as_ => zipL [8] [.sl 1 3 (na as_ 0) (nn ns_ 0) u_.1] ++ zipL [0, 1, 2, 3] (arena_Arena.D.flat i_.1.1 i_.1.2.1 u_.2)⟩

noncomputable def C237l0g (k : Nat) (i_ : Ins C237p) : Nat → (C237l0 i_).X → (C237l0 i_).V → Option (C237l0 i_).W := fun m_ (x_ : Unit) (v_ : Int × (List Int) × arena_Arena) => node_Row_l0 i_.2.2.1 m_ v_.1 v_.2.1 v_.2.2

theorem C237l0s (k : Nat) (i : Ins C237p) (m : Nat) : ((C237l0 i).at (C237l0g k i) m).Sound Tryz.prog 237 27 (C237r k i) :=
  loop_sound mixed (C237l0 i) (id := 0) (body := nav [1, 1, 0, 0, 0] (bodyOf Tryz.prog 237)) (C237l0g k i) (fun _ => none) (fun u => u) (gj (g2 (gI 1) (g2 (gL 1 9) (gO arena_Arena.D [0, 1, 2, 3]))) [nSk 9]) (gj (g2 (gL 1 8) (gO arena_Arena.D [0, 1, 2, 3])) [nSk 8]) (fun m => (.join (Bool) 0 0 (gj (gB 17) []) (fun st_ s_ ns_ as_ => ([(17, .bool s_)] ++ kp [0, 1, 2, 7] st_, ka [9, 0, 1, 2, 3] st_)) (.s (.seg 2 []) (.s (.call K206 [.K 0, .K 1, .K 2, .K 3] [0, 1, 2, 3]) (.s (.seg 1 []) (.split 11 (.s (.seg 3 []) (.s (.call K230 [.K 0, .K 1, .K 2, .K 3] [0, 1, 2, 3]) (.s (.seg 2 []) .leaf))) (.s (.seg 6 []) .leaf))))) (.cond (.blk (.s (.seg 2 []) (.s (.bld 11 1 3) (.s (.app 9 (.O 11)) (.s (.seg 1 []) (.s (.seg 3 []) (.s (.call K204 [.K 0, .K 1, .K 2, .K 3] [0, 1, 2, 3]) (.s (.seg 1 []) .back)))))))) (.rk [(9, 8), (8, 90008)] .leaf)))) (by kernel_rfl) (fun _ _ => rfl) (fun r y h => by cases h) (fun u => rfl) (fun m x v n1 n2 => by kernel_rfl) (fun m x v n1 n2 s => by kernel_rfl) m

theorem S237 (k : Nat) : (C237 k).Sound Tryz.prog :=
  fn_sound mixed (C237 k) (n := 27) (rs := rsOf Tryz.prog 237) [] [1000, 0, 1, 2, 3] (gj (g2 (gL 1 1000) (gO arena_Arena.D [0, 1, 2, 3])) [nSk 1000]) (fun i => (.s (.seg 1 []) (.s (.seg 1 []) (.s (.nil 10 1 3) (.rk [(10, 9), (9, 90009)] (.loop ⟨(C237l0 i).at (C237l0g k i) k, C237l0s k i k⟩ (gl gU (g2 (gI 1) (g2 (gL 1 9) (gO arena_Arena.D [0, 1, 2, 3]))) [nSk 9]) (.s (.seg 2 []) (.rk [(8, 1000), (1000, 91000)] .ret)))))))) Tryz.func237 rfl rfl (by kernel_rfl) (fun _ => rfl) (fun i => by kernel_rfl) (fun i s => by kernel_rfl)

noncomputable def K237 (k : Nat) : SCon El Tryz.prog := ⟨C237 k, S237 k, Tryz.call237⟩

noncomputable abbrev C198p : List (PK El) := [pO arena_Arena.D, pI .i64]
noncomputable def C198 (k : Nat) : Con El := mkCon 198 C198p (fun i_ => trees_List k i_.1.2.2 i_.2.1) 1 1 (fun i_ t ns_ as_ => .slice (na as_ 0) t.1.length (nn ns_ 0)) (fun i_ t ns_ as_ => [.sl 1 3 (na as_ 0) (nn ns_ 0) t.1] ++ arena_Arena.D.flat i_.1.1 i_.1.2.1 t.2)

theorem S198 (k : Nat) : (C198 k).Sound Tryz.prog :=
  fn_sound mixed (C198 k) (n := 8) (rs := rsOf Tryz.prog 198) [] [1000, 0, 1, 2, 3] (gj (g2 (gL 1 1000) (gO arena_Arena.D [0, 1, 2, 3])) [nSk 1000]) (fun i => (.s (.seg 1 []) (.s (.seg 2 []) (.s (.call (K237 k) [.K 0, .K 1, .K 2, .K 3] [4, 0, 1, 2, 3]) (.s (.seg 1 []) (.rk [(4, 1000), (1000, 91000)] .ret)))))) Tryz.func198 rfl rfl (by kernel_rfl) (fun _ => rfl) (fun i => by kernel_rfl) (fun i s => by kernel_rfl)

noncomputable def K198 (k : Nat) : SCon El Tryz.prog := ⟨C198 k, S198 k, Tryz.call198⟩

noncomputable abbrev C233p : List (PK El) := [pV trees_ranked.dv trees_ranked.val, pV trees_ranked.dv trees_ranked.val]
noncomputable def C233 : Con El := mkCon 233 C233p (fun i_ => trees_Carry_f1 i_.1 i_.2.1) 0 0 (fun i_ t ns_ as_ => .int .i64 t) (fun i_ t ns_ as_ => [])

theorem S233 : (C233).Sound Tryz.prog :=
  fn_sound mixed (C233) (n := 12) (rs := rsOf Tryz.prog 233) [] [] (gj (gI 4) []) (fun i => (.s (.new 0 []) (.s (.new 1 []) (.s (.seg 1 []) (.s (.seg 8 [.C 0 1, .C 1 1]) .ret))))) Tryz.func233 rfl rfl (by kernel_rfl) (fun _ => rfl) (fun i => by kernel_rfl) (fun i s => by kernel_rfl)

noncomputable def K233 : SCon El Tryz.prog := ⟨C233, S233, Tryz.call233⟩

noncomputable abbrev C273p : List (PK El) := [pW 5 287, pI .i64, pI .i64, pK (.func (.func 233) #[] #[])]
noncomputable def C273 (k : Nat) : Con El := mkConM 273 C273p (fun i_ => slices_insertionSortCmpFunc_trees_ranked_g233 k i_.1.2.2 i_.2.1 i_.2.2.1) 0 0 (fun i_ t ns_ as_ => .tuple #[]) (fun i_ t ns_ as_ => [.sl 5 287 i_.1.1 i_.1.2.1 t]) (fun i_ t => [t.length = i_.1.2.2.length])

noncomputable abbrev C273r (k : Nat) (i : Ins C273p) : Kn El → VC (C273 k).T := retC Tryz.prog (C273 k) (rsOf Tryz.prog 273) [] [5000] (gj (gL 5 5000) []) i

noncomputable def C273l0 (i_ : Ins C273p) : BCon El ((List trees_ranked)) := ⟨nav [1, 0, 0, 1, 0, 0, 1] (bodyOf Tryz.prog 273), Int, Int × (List trees_ranked), (List trees_ranked), (List trees_ranked), fun u => .inr u, fun _ _ => none, fun x_ => [], fun x_ v_ ns_ as_ => [(0, .slice i_.1.1 v_.2.length i_.1.2.1), (1, .int .i64 i_.2.1), (2, .int .i64 i_.2.2.1), (3, .func (.func 233) #[] #[]), (8, .int .i64 (x_)), (9, .int .i64 v_.1)], fun x_ v_ ns_ as_ => zipL [0] [.sl 5 287 i_.1.1 i_.1.2.1 v_.2], 0, 0, fun x_ u_ ns_ as_ => [(0, .slice i_.1.1 u_.length i_.1.2.1), (1, .int .i64 i_.2.1), (2, .int .i64 i_.2.2.1), (3, .func (.func 233) #[] #[]), (8, .int .i64 (x_))], fun x_ u_ ns_ as_ => zipL [0] [.sl 5 287 i_.1.1 i_.1.2.1 u_]⟩

noncomputable def C273l0g (k : Nat) (i_ : Ins C273p) : Nat → (C273l0 i_).X → (C273l0 i_).V → Option (C273l0 i_).W := fun m_ (x_ : Int) (v_ : Int × (List trees_ranked)) => slices_insertionSortCmpFunc_trees_ranked_g233_l1 i_.2.1 i_.2.2.1 (x_) m_ v_.1 v_.2

theorem C273l0s (k : Nat) (i : Ins C273p) (m : Nat) : ((C273l0 i).at (C273l0g k i) m).Sound Tryz.prog 273 53 (C273r k i) :=
  loop_sound mixed (C273l0 i) (id := 2) (body := nav [1, 0, 0, 1, 0, 0, 1, 0, 0] (bodyOf Tryz.prog 273)) (C273l0g k i) (fun _ => none) (fun u => u) (gj (g2 (gI 9) (gL 5 0)) []) (gj (gL 5 0) []) (fun m => (.join (Bool) 0 0 (gj (gB 34) []) (fun st_ s_ ns_ as_ => ([(34, .bool s_)] ++ kp [0, 1, 2, 3, 8, 9] st_, ka [0] st_)) (.drw (.q [0, 1, 2, 3] [] (.split 21 (.q [4, 5, 6] [] (.s (.idx false 0 (.tmp 24) 107) (.q [7, 8, 9, 10, 11] [.A 107, .X 107 0 0, .X 107 0 1] (.s (.idx false 0 (.tmp 29) 108) (.q [12, 13] [.A 108, .X 108 0 0, .X 108 0 1] (.a 14 (.call K233 [] []) [] (.q [15, 16] [] .leaf))))))) (.q [4, 5, 6, 7, 8, 9, 10, 11, 12, 13, 14, 15, 16] [] .leaf)))) (.cond (.blk (.drw (.q [0, 1, 2, 3, 4, 5, 6, 7] [] (.s (.idx false 0 (.tmp 44) 113) (.q [8, 9, 10, 11] [.A 113, .X 113 0 0, .X 113 0 1] (.s (.idx false 0 (.tmp 48) 114) (.q [12, 13] [.A 114, .X 114 0 0, .X 114 0 1] (.s (.idx false 0 (.tmp 38) 115) (.q [14] [.A 115] (.a 15 (.sset 0 115 0) [] (.s (.rls 115 0) (.s (.rls 115 39) (.s (.idx false 0 (.tmp 41) 116) (.q [16] [.A 116] (.a 17 (.sset 0 116 0) [] (.s (.rls 116 0) (.s (.seg 3 []) .back))))))))))))))))) .leaf))) (by kernel_rfl) (fun _ _ => rfl) (fun r y h => by cases h) (fun u => rfl) (fun m x v n1 n2 => by kernel_rfl) (fun m x v n1 n2 s => by kernel_rfl) m

noncomputable def C273l1 (i_ : Ins C273p) : BCon El ((List trees_ranked)) := ⟨nav [1] (bodyOf Tryz.prog 273), Unit, Int × (List trees_ranked), (List trees_ranked), (List trees_ranked), fun u => .inr u, fun _ _ => none, fun x_ => [], fun x_ v_ ns_ as_ => [(0, .slice i_.1.1 v_.2.length i_.1.2.1), (1, .int .i64 i_.2.1), (2, .int .i64 i_.2.2.1), (3, .func (.func 233) #[] #[]), (8, .int .i64 v_.1)], fun x_ v_ ns_ as_ => zipL [0] [.sl 5 287 i_.1.1 i_.1.2.1 v_.2], 0, 0, fun x_ u_ ns_ as_ => [], fun x_ u_ ns_ as_ => zipL [0] [.sl 5 287 i_.1.1 i_.1.2.1 u_]⟩

noncomputable def C273l1g (k : Nat) (i_ : Ins C273p) : Nat → (C273l1 i_).X → (C273l1 i_).V → Option (C273l1 i_).W := fun m_ (x_ : Unit) (v_ : Int × (List trees_ranked)) => slices_insertionSortCmpFunc_trees_ranked_g233_l0 i_.2.1 i_.2.2.1 m_ v_.1 v_.2

theorem C273l1s (k : Nat) (i : Ins C273p) (m : Nat) : ((C273l1 i).at (C273l1g k i) m).Sound Tryz.prog 273 53 (C273r k i) :=
  loop_sound mixed (C273l1 i) (id := 0) (body := nav [1, 0, 0] (bodyOf Tryz.prog 273)) (C273l1g k i) (fun _ => none) (fun u => u) (gj (g2 (gI 8) (gL 5 0)) []) (gj (gL 5 0) []) (fun m => (.s (.seg 3 []) (.cond (.blk (.s (.seg 2 []) (.loop ⟨(C273l0 i).at (C273l0g k i) m, C273l0s k i m⟩ (gl (gI 8) (g2 (gI 9) (gL 5 0)) []) (.s (.seg 3 []) .back)))) .leaf))) (by kernel_rfl) (fun _ _ => rfl) (fun r y h => by cases h) (fun u => rfl) (fun m x v n1 n2 => by kernel_rfl) (fun m x v n1 n2 s => by kernel_rfl) m

theorem S273 (k : Nat) : (C273 k).Sound Tryz.prog :=
  fn_sound mixed (C273 k) (n := 53) (rs := rsOf Tryz.prog 273) [] [5000] (gj (gL 5 5000) []) (fun i => (.s (.seg 3 []) (.loop ⟨(C273l1 i).at (C273l1g k i) k, C273l1s k i k⟩ (gl gU (g2 (gI 8) (gL 5 0)) []) (.s (.same 0 (i.1.2.2.length)) (.rk [(0, 5000), (5000, 95000)] .leaf))))) Tryz.func273 rfl rfl (by kernel_rfl) (fun _ => rfl) (fun i => by kernel_rfl) (fun i s => by kernel_rfl)

noncomputable def K273 (k : Nat) : SCon El Tryz.prog := ⟨C273 k, S273 k, Tryz.call273⟩

noncomputable abbrev C261p : List (PK El) := [pW 5 287, pI .i64, pK (.func (.func 233) #[] #[])]
noncomputable def C261 (k : Nat) : Con El := mkConM 261 C261p (fun i_ => slices_stableCmpFunc_trees_ranked_g233 k i_.1.2.2 i_.2.1) 0 0 (fun i_ t ns_ as_ => .tuple #[]) (fun i_ t ns_ as_ => [.sl 5 287 i_.1.1 i_.1.2.1 t]) (fun i_ t => [t.length = i_.1.2.2.length])

noncomputable abbrev C261r (k : Nat) (i : Ins C261p) : Kn El → VC (C261 k).T := retC Tryz.prog (C261 k) (rsOf Tryz.prog 261) [] [5000] (gj (gL 5 5000) []) i

noncomputable def C261l0 (i_ : Ins C261p) : BCon El ((List trees_ranked)) := ⟨nav [1, 1, 0] (bodyOf Tryz.prog 261), Unit, Int × Int × (List trees_ranked), Int × (List trees_ranked), Int × (List trees_ranked), fun u => .inr u, fun _ _ => none, fun x_ => [], fun x_ v_ ns_ as_ => [(0, .slice i_.1.1 v_.2.2.length i_.1.2.1), (1, .int .i64 i_.2.1), (2, .func (.func 233) #[] #[]), (6, .int .i64 20), (7, .int .i64 v_.1), (8, .int .i64 v_.2.1)], fun x_ v_ ns_ as_ => zipL [0] [.sl 5 287 i_.1.1 i_.1.2.1 v_.2.2], 0, 0, fun x_ u_ ns_ as_ => [(0, .slice i_.1.1 u_.2.length i_.1.2.1), (1, .int .i64 i_.2.1), (2, .func (.func 233) #[] #[]), (6, .int .i64 20), (7, .int .i64 u_.1)], fun x_ u_ ns_ as_ => zipL [0] [.sl 5 287 i_.1.1 i_.1.2.1 u_.2]⟩

noncomputable def C261l0g (k : Nat) (i_ : Ins C261p) : Nat → (C261l0 i_).X → (C261l0 i_).V → Option (C261l0 i_).W := fun m_ (x_ : Unit) (v_ : Int × Int × (List trees_ranked)) => slices_stableCmpFunc_trees_ranked_g233_l0 i_.2.1 m_ v_.1 v_.2.1 v_.2.2

theorem C261l0s (k : Nat) (i : Ins C261p) (m : Nat) : ((C261l0 i).at (C261l0g k i) m).Sound Tryz.prog 261 63 (C261r k i) :=
  loop_sound mixed (C261l0 i) (id := 0) (body := nav [1, 1, 0, 0, 0] (bodyOf Tryz.prog 261)) (C261l0g k i) (fun _ => none) (fun u => u) (gj (g2 (gI 7) (g2 (gI 8) (gL 5 0))) []) (gj (g2 (gI 7) (gL 5 0)) []) (fun m => (.s (.seg 3 []) (.cond (.blk (.s (.seg 4 []) (.s (.call (K273 m) [.K 0] [0]) (.s (.rlp 0 0) (.s (.rlp 14 0) (.s (.seg 2 []) (.s (.seg 4 []) .back))))))) .leaf))) (by kernel_rfl) (fun _ _ => rfl) (fun r y h => by cases h) (fun u => rfl) (fun m x v n1 n2 => by kernel_rfl) (fun m x v n1 n2 s => by kernel_rfl) m

noncomputable def C261l1 (i_ : Ins C261p) : BCon El ((List trees_ranked)) := ⟨nav [1, 1, 1, 1, 0, 0, 1, 0, 1, 0] (bodyOf Tryz.prog 261), (List trees_ranked) × Int, Int × Int, Int, Int, fun u => .inr u, fun _ _ => none, fun x_ => [], fun x_ v_ ns_ as_ => [(0, .slice i_.1.1 (x_.1).length i_.1.2.1), (1, .int .i64 i_.2.1), (2, .func (.func 233) #[] #[]), (6, .int .i64 (x_.2)), (7, .int .i64 v_.1), (8, .int .i64 v_.2)], fun x_ v_ ns_ as_ => zipL [0] [.sl 5 287 i_.1.1 i_.1.2.1 (x_.1)], 0, 0, fun x_ u_ ns_ as_ => [(0, .slice i_.1.1 (x_.1).length i_.1.2.1), (1, .int .i64 i_.2.1), (2, .func (.func 233) #[] #[]), (6, .int .i64 (x_.2)), (7, .int .i64 u_)], fun x_ u_ ns_ as_ => zipL [0] [.sl 5 287 i_.1.1 i_.1.2.1 (x_.1)]⟩

noncomputable def C261l1g (k : Nat) (i_ : Ins C261p) : Nat → (C261l1 i_).X → (C261l1 i_).V → Option (C261l1 i_).W := fun m_ (x_ : (List trees_ranked) × Int) (v_ : Int × Int) => slices_stableCmpFunc_trees_ranked_g233_l2 i_.2.1 (x_.2) (x_.1) m_ v_.1 v_.2

theorem C261l1s (k : Nat) (i : Ins C261p) (m : Nat) : ((C261l1 i).at (C261l1g k i) m).Sound Tryz.prog 261 63 (C261r k i) :=
  loop_sound mixed (C261l1 i) (id := 4) (body := nav [1, 1, 1, 1, 0, 0, 1, 0, 1, 0, 0, 0] (bodyOf Tryz.prog 261)) (C261l1g k i) (fun _ => none) (fun u => u) (gj (g2 (gI 7) (gI 8)) []) (gj (gI 7) []) (fun m => (.s (.seg 3 []) (.cond (.blk .dead) .leaf))) (by kernel_rfl) (fun _ _ => rfl) (fun r y h => by cases h) (fun u => rfl) (fun m x v n1 n2 => by kernel_rfl) (fun m x v n1 n2 s => by kernel_rfl) m

noncomputable def C261l2 (i_ : Ins C261p) : BCon El ((List trees_ranked)) := ⟨nav [1, 1, 1, 1] (bodyOf Tryz.prog 261), (List trees_ranked), Int, Unit, Unit, fun u => .inr u, fun _ _ => none, fun x_ => [], fun x_ v_ ns_ as_ => [(0, .slice i_.1.1 (x_).length i_.1.2.1), (1, .int .i64 i_.2.1), (2, .func (.func 233) #[] #[]), (6, .int .i64 v_)], fun x_ v_ ns_ as_ => zipL [0] [.sl 5 287 i_.1.1 i_.1.2.1 (x_)], 0, 0, fun x_ u_ ns_ as_ => [], fun x_ u_ ns_ as_ => zipL [0] [.sl 5 287 i_.1.1 i_.1.2.1 (x_)]⟩

noncomputable def C261l2g (k : Nat) (i_ : Ins C261p) : Nat → (C261l2 i_).X → (C261l2 i_).V → Option (C261l2 i_).W := fun m_ (x_ : (List trees_ranked)) (v_ : Int) => slices_stableCmpFunc_trees_ranked_g233_l1 i_.2.1 (x_) m_ v_

theorem C261l2s (k : Nat) (i : Ins C261p) (m : Nat) : ((C261l2 i).at (C261l2g k i) m).Sound Tryz.prog 261 63 (C261r k i) :=
  loop_sound mixed (C261l2 i) (id := 2) (body := nav [1, 1, 1, 1, 0, 0] (bodyOf Tryz.prog 261)) (C261l2g k i) (fun _ => none) (fun u => u) (gj (gI 6) []) (gj gU []) (fun m => (.s (.seg 3 []) (.cond (.blk (.s (.seg 4 []) (.loop ⟨(C261l1 i).at (C261l1g k i) m, C261l1s k i m⟩ (gl (g2 (gL 5 0) (gI 6)) (g2 (gI 7) (gI 8)) []) (.s (.seg 4 []) (.s (.seg 3 []) (.join (Unit) 0 0 (gj gU []) (fun st_ s_ ns_ as_ => ([] ++ kp [0, 1, 2, 6] st_, ka [0] st_)) (.cond .dead .leaf) (.s (.seg 3 []) .back))))))) .leaf))) (by kernel_rfl) (fun _ _ => rfl) (fun r y h => by cases h) (fun u => rfl) (fun m x v n1 n2 => by kernel_rfl) (fun m x v n1 n2 s => by kernel_rfl) m

theorem S261 (k : Nat) : (C261 k).Sound Tryz.prog :=
  fn_sound mixed (C261 k) (n := 63) (rs := rsOf Tryz.prog 261) [] [5000] (gj (gL 5 5000) []) (fun i => (.s (.seg 1 []) (.s (.seg 3 []) (.loop ⟨(C261l0 i).at (C261l0g k i) k, C261l0s k i k⟩ (gl gU (g2 (gI 7) (g2 (gI 8) (gL 5 0))) []) (.s (.seg 4 []) (.s (.call (K273 k) [.K 0] [0]) (.s (.rlp 0 0) (.s (.rlp 23 0) (.loop ⟨(C261l2 i).at (C261l2g k i) k, C261l2s k i k⟩ (gl (gL 5 0) (gI 6) []) (.s (.same 0 (i.1.2.2.length)) (.rk [(0, 5000), (5000, 95000)] .leaf))))))))))) Tryz.func261 rfl rfl (by kernel_rfl) (fun _ => rfl) (fun i => by kernel_rfl) (fun i s => by kernel_rfl)

noncomputable def K261 (k : Nat) : SCon El Tryz.prog := ⟨C261 k, S261 k, Tryz.call261⟩

noncomputable abbrev C232p : List (PK El) := [pW 5 287, pK (.func (.func 233) #[] #[])]
noncomputable def C232 (k : Nat) : Con El := mkConM 232 C232p (fun i_ => slices_SortStableFunc_trees_ranked_g233 k i_.1.2.2) 0 0 (fun i_ t ns_ as_ => .tuple #[]) (fun i_ t ns_ as_ => [.sl 5 287 i_.1.1 i_.1.2.1 t]) (fun i_ t => [t.length = i_.1.2.2.length])

theorem S232 (k : Nat) : (C232 k).Sound Tryz.prog :=
  fn_sound mixed (C232 k) (n := 9) (rs := rsOf Tryz.prog 232) [] [5000] (gj (gL 5 5000) []) (fun i => (.s (.seg 4 []) (.s (.call (K261 k) [.K 0] [0]) (.s (.rlp 4 0) (.s (.same 0 (i.1.2.2.length)) (.rk [(0, 5000), (5000, 95000)] .leaf)))))) Tryz.func232 rfl rfl (by kernel_rfl) (fun _ => rfl) (fun i => by kernel_rfl) (fun i s => by kernel_rfl)

noncomputable def K232 (k : Nat) : SCon El Tryz.prog := ⟨C232 k, S232 k, Tryz.call232⟩

noncomputable abbrev C239p : List (PK El) := [pO arena_Arena.D, pI .i64, pI .i64]
noncomputable def C239 : Con El := mkCon 239 C239p (fun i_ => trees_Under i_.1.2.2 i_.2.1 i_.2.2.1) 0 0 (fun i_ t ns_ as_ => .tuple #[]) (fun i_ t ns_ as_ => arena_Arena.D.flat i_.1.1 i_.1.2.1 t)

theorem S239 : (C239).Sound Tryz.prog :=
  fn_sound mixed (C239) (n := 20) (rs := rsOf Tryz.prog 239) [] [0, 1, 2, 3] (gj (gO arena_Arena.D [0, 1, 2, 3]) []) (fun i => (.s (.seg 4 []) (.s (.call K204 [.K 0, .K 1, .K 2, .K 3] [0, 1, 2, 3]) (.s (.call K139 [.K 0, .K 1, .K 2, .K 3] [0, 1, 2, 3]) (.s (.seg 3 []) (.s (.call K139 [.K 0, .K 1, .K 2, .K 3] [0, 1, 2, 3]) (.s (.seg 3 []) (.s (.call K139 [.K 0, .K 1, .K 2, .K 3] [0, 1, 2, 3]) .leaf)))))))) Tryz.func239 rfl rfl (by kernel_rfl) (fun _ => rfl) (fun i => by kernel_rfl) (fun i s => by kernel_rfl)

noncomputable def K239 : SCon El Tryz.prog := ⟨C239, S239, Tryz.call239⟩

noncomputable abbrev C234p : List (PK El) := [pO arena_Arena.D, pI .i64, pI .i64, pI .i64]
noncomputable def C234 (k : Nat) : Con El := mkCon 234 C234p (fun i_ => trees_Link k i_.1.2.2 i_.2.1 i_.2.2.1 i_.2.2.2.1) 0 0 (fun i_ t ns_ as_ => .int .i64 t.1) (fun i_ t ns_ as_ => arena_Arena.D.flat i_.1.1 i_.1.2.1 t.2)

theorem S234 (k : Nat) : (C234 k).Sound Tryz.prog :=
  fn_sound mixed (C234 k) (n := 25) (rs := rsOf Tryz.prog 234) [] [0, 1, 2, 3] (gj (g2 (gI 8) (gO arena_Arena.D [0, 1, 2, 3])) []) (fun i => (.s (.seg 1 []) (.s (.seg 3 []) (.s (.call (K218 k) [.K 0, .K 1, .K 2, .K 3] [0, 1, 2, 3]) (.join (Int × Int) 0 0 (gj (g2 (gI 1) (gI 2)) []) (fun st_ s_ ns_ as_ => ([(1, .int .i64 s_.1), (2, .int .i64 s_.2)] ++ kp [0, 3] st_, ka [0, 1, 2, 3] st_)) (.cond (.s (.seg 4 []) .leaf) .leaf) (.s (.seg 3 []) (.s (.call K239 [.K 0, .K 1, .K 2, .K 3] [0, 1, 2, 3]) (.s (.seg 4 []) (.s (.call K139 [.K 0, .K 1, .K 2, .K 3] [0, 1, 2, 3]) (.s (.seg 2 []) .ret)))))))))) Tryz.func234 rfl rfl (by kernel_rfl) (fun _ => rfl) (fun i => by kernel_rfl) (fun i s => by kernel_rfl)

noncomputable def K234 (k : Nat) : SCon El Tryz.prog := ⟨C234 k, S234 k, Tryz.call234⟩

theorem slices_Insert_trees_ranked_ok {w0 w : World} {As : List HP} {sb_s : Option Addr} {sc_s : Nat} {s : List trees_ranked} {i : Int} {sb_v : Option Addr} {sc_v : Nat} {v : List trees_ranked} {t : List trees_ranked} (hm : lInsert s i v = some t) (H : St w0 (Sl 287 trees_ranked.enc 2 sb_s sc_s s :: Sl 287 trees_ranked.enc 2 sb_v sc_v v :: As) w) :
    CallsR Tryz.prog 235 #[.slice sb_s s.length sc_s, .int .i64 i, .slice sb_v v.length sc_v] w fun u w' => ∃ (sb0 : Option Addr) (sc0 : Nat), u = .slice sb0 t.length sc0 ∧ St w0 (Sl 287 trees_ranked.enc 2 sb0 sc0 t :: As) w' := by
  unfold lInsert at hm
  split at hm
  · rename_i hI
    cases hm
    obtain ⟨h0, h1, hmx⟩ := hI
    obtain ⟨q, rfl⟩ := Int.eq_ofNat_of_zero_le h0
    have hq : q ≤ s.length := by omega
    have he := trees_ranked.enc_ok
    have hcs := (H.slCap 0 rfl)
    have hcv := (H.slCap 1 rfl)
    refine enter (args := [.slice sb_s s.length sc_s, .int .i64 (q : Int), .slice sb_v v.length sc_v]) Tryz.func235 rfl rfl rfl fun a hE => ?_
    refine Runs.seq ?_
    refine Runs.region ?_
    refine WR.seg hE 1 [] [0, 1, 2] (Lo := [(0, .slice sb_s s.length sc_s), (1, .int .i64 (q : Int)), (2, .slice sb_v v.length sc_v)]) (obs := []) rfl (by kernel_rfl) trivial fun a hE => ?_
    refine WR.done rfl ?_
    refine Runs.seq ?_
    refine Runs.region ?_
    refine WR.seg hE 3 [.slice (rebase sb_s sc_s q 2) (s.length - q) (sc_s - q)] [0, 1, 2] (Lo := [(0, .slice sb_s s.length sc_s), (1, .int .i64 (q : Int)), (2, .slice sb_v v.length sc_v)])
      (obs := [.p (rebase sb_s sc_s q 2 = rebase sb_s sc_s q 2), .p (s.length - q = s.length - q), .p (sc_s - q = sc_s - q), .p (0 ≤ (q : Int) ∧ (q : Int) ≤ (s.length : Int))]) rfl (by kernel_rfl) ⟨rfl, rfl, rfl, ⟨h0, h1⟩, trivial⟩ fun a hE => ?_
    refine WR.done rfl ?_
    refine Runs.seq ?_
    refine Runs.region ?_
    refine WR.seg hE 3 [] [0, 1, 2, 7] (Lo := [(0, .slice sb_s s.length sc_s), (1, .int .i64 (q : Int)), (2, .slice sb_v v.length sc_v), (7, .int .i64 (v.length : Int))]) (obs := []) rfl (by kernel_rfl) trivial fun a hE => ?_
    refine WR.done rfl ?_
    refine Runs.seq ?_
    refine Runs.seq ?_
    refine Runs.region ?_
    refine WR.seg hE 2 [] [0, 1, 2, 7, 16] (Lo := [(0, .slice sb_s s.length sc_s), (1, .int .i64 (q : Int)), (2, .slice sb_v v.length sc_v), (7, .int .i64 (v.length : Int)), (16, .bool ((v.length : Int) == 0))]) (obs := []) rfl (by kernel_rfl) trivial fun a hE => ?_
    refine WR.done rfl ?_
    refine Runs.cond hE rfl (fun c => ?_) (fun c => ?_)
    · have hv : v = [] := List.eq_nil_of_length_eq_zero (by simpa using c)
      refine Runs.seq ?_
      refine Runs.region ?_
      refine WR.seg hE 2 [] [6] (Lo := [(6, .slice sb_s s.length sc_s)]) (obs := []) rfl (by kernel_rfl) trivial fun a hE => ?_
      refine WR.done rfl ?_
      refine Runs.ret hE Tryz.func235 rfl rfl ?_
      subst hv
      have e : s.take q ++ ([] ++ s.drop q) = s := by simp
      simp only [Int.toNat_natCast]
      rw [e]
      exact ⟨_, _, rfl, H.x1⟩
    · have hvp : 0 < v.length := by have := c; simp at this; exact List.length_pos_iff.2 this
      refine Runs.skip ?_
      refine Runs.seq ?_
      refine Runs.region ?_
      refine WR.seg hE 3 [] [0, 1, 2, 7, 8] (Lo := [(0, .slice sb_s s.length sc_s), (1, .int .i64 (q : Int)), (2, .slice sb_v v.length sc_v), (7, .int .i64 (v.length : Int)), (8, .int .i64 (s.length : Int))]) (obs := []) rfl (by kernel_rfl) trivial fun a hE => ?_
      refine WR.done rfl ?_
      refine Runs.seq ?_
      refine Runs.seq ?_
      refine Runs.region ?_
      refine WR.seg hE 3 [] [0, 1, 2, 7, 8, 22] (Lo := [(0, .slice sb_s s.length sc_s), (1, .int .i64 (q : Int)), (2, .slice sb_v v.length sc_v), (7, .int .i64 (v.length : Int)), (8, .int .i64 (s.length : Int)), (22, .bool ((q : Int) == (s.length : Int)))]) (obs := []) rfl (by kernel_rfl) trivial fun a hE => ?_
      refine WR.done rfl ?_
      refine Runs.cond hE rfl (fun c2 => ?_) (fun c2 => ?_)
      · have hqn : q = s.length := by have := c2; simp at this; omega
        refine Runs.seq ?_
        refine Runs.region ?_
        refine WR.seg hE 2 [] [23, 24] (Lo := [(23, .slice sb_s s.length sc_s), (24, .slice sb_v v.length sc_v)]) (obs := []) rfl (by kernel_rfl) trivial fun a hE => ?_
        have happ : mApp s v = some (s ++ v) := by unfold mApp; rw [if_pos hmx]
        refine WR.eff hE rfl rfl rfl rfl (OpTo.appendM happ hE H he rfl rfl rfl rfl rfl rfl rfl rfl rfl rfl (SlRd.all (sl_rd 287 trees_ranked.enc 2 sb_v sc_v v) he H 1 rfl) rfl) ?_
        rintro _ w ⟨sb, sc, rfl, H⟩ a hE
        refine WR.seg hE 4 [] [6] (Lo := [(6, .slice sb (s ++ v).length sc)]) (obs := []) rfl (by kernel_rfl) trivial fun a hE => ?_
        refine WR.done rfl ?_
        refine Runs.ret hE Tryz.func235 rfl rfl ?_
        subst hqn
        have e : s.take s.length ++ (v ++ s.drop s.length) = s ++ v := by simp
        simp only [Int.toNat_natCast]
        rw [e]
        exact ⟨_, _, rfl, H.x1⟩
      · have hqn : q < s.length := by have := c2; simp at this; omega
        have hw1 : w64 ((s.length : Int) + (v.length : Int)) = ((s.length + v.length : Nat) : Int) := by unfold w64; rw [i64_small (by omega) (by omega)]; omega
        have hw2 : w64 ((q : Int) + (v.length : Int)) = ((q + v.length : Nat) : Int) := by unfold w64; rw [i64_small (by omega) (by omega)]; omega
        have hw3 : w64 (((s.length + v.length : Nat) : Int) - (q : Int)) = ((s.length + v.length - q : Nat) : Int) := by unfold w64; rw [i64_small (by omega) (by omega)]; omega
        have hfs := flat_length he s
        have hfv := flat_length he v
        have hft := flat_length he (s.take q)
        have hfd := flat_length he (s.drop q)
        have hsp : s.flatMap trees_ranked.enc = (s.take q).flatMap trees_ranked.enc ++ (s.drop q).flatMap trees_ranked.enc := by rw [← List.flatMap_append, List.take_append_drop]
        simp only [List.length_take, List.length_drop] at hft hfd
        rw [Nat.min_eq_left hq] at hft
        refine Runs.skip ?_
        refine Runs.seq ?_
        refine Runs.seq ?_
        refine Runs.region ?_
        refine WR.seg hE 6 [] [0, 1, 2, 7, 8, 31] (Lo := [(0, .slice sb_s s.length sc_s), (1, .int .i64 (q : Int)), (2, .slice sb_v v.length sc_v), (7, .int .i64 (v.length : Int)), (8, .int .i64 (s.length : Int)), (31, .bool (decide (w64 ((s.length : Int) + (v.length : Int)) > (sc_s : Int))))]) (obs := []) rfl (by kernel_rfl) trivial fun a hE => ?_
        refine WR.done rfl ?_
        refine Runs.cond hE rfl (fun c3 => ?_) (fun c3 => ?_)
        · have hgr : sc_s < s.length + v.length := by have := c3; rw [hw1] at this; simp only [decide_eq_true_eq] at this; omega
          refine Runs.seq ?_
          refine Runs.region ?_
          refine WR.seg hE 8 [.slice (rebase sb_s sc_s 0 2) q sc_s] [0, 1, 2, 7, 34, 39] (Lo := [(0, .slice sb_s s.length sc_s), (1, .int .i64 (q : Int)), (2, .slice sb_v v.length sc_v), (7, .int .i64 (v.length : Int)), (34, .slice (rebase sb_s sc_s 0 2) q sc_s), (39, .int .i64 (w64 (w64 ((s.length : Int) + (v.length : Int)) - (q : Int))))])
            (obs := [.p (rebase sb_s sc_s 0 2 = rebase sb_s sc_s 0 2), .p (q - 0 = q), .p (sc_s - 0 = sc_s), .p (0 ≤ (q : Int) ∧ (q : Int) ≤ (sc_s : Int))]) rfl (by kernel_rfl) ⟨rfl, rfl, rfl, ⟨h0, by omega⟩, trivial⟩ fun a hE => ?_
          rw [hw1, hw3] at hE
          have hrb : rebase sb_s sc_s 0 2 = sb_s := by
            unfold rebase
            split
            · rfl
            · cases sb_s <;> simp [Addr.add]
          rw [hrb] at hE
          have hrd0 : Rd w sb_s ((s.take q).flatMap trees_ranked.enc) := by
            rcases SlRd.all (sl_rd 287 trees_ranked.enc 2 sb_s sc_s s) he H 0 rfl with h | ⟨xa, h1, h2⟩
            · exfalso
              have h0' : s.length * 2 = 0 := by rw [← hfs, h]; rfl
              omega
            · exact .inr ⟨xa, h1, fun j u hj => h2 j u (by rw [hsp]; exact List.getElem?_append_left (List.getElem?_eq_some_iff.1 hj).1 ▸ hj)⟩
          refine WR.eff hE rfl rfl rfl rfl (OpTo.appendZ (sz := 2) ((s.take q).flatMap trees_ranked.enc) hE H rfl rfl rfl rfl rfl rfl rfl rfl rfl (by decide) hrd0 (by rw [hft]) (by omega) (by omega) (by omega) rfl) ?_
          rintro _ w ⟨r, cc, Z, rfl, hc1, hc2, hZ, H⟩ a hE
          have hlen : q + (s.length + v.length - q) = s.length + v.length := by omega
          rw [hlen] at hE hc1
          refine WR.seg hE 10 [] [0, 1, 2, 7, 9] (Lo := [(0, .slice sb_s s.length sc_s), (1, .int .i64 (q : Int)), (2, .slice sb_v v.length sc_v), (7, .int .i64 (v.length : Int)), (9, .slice (some ⟨r, 0, none⟩) (s.length + v.length) cc)]) (obs := []) rfl (by kernel_rfl) trivial fun a hE => ?_
          refine WR.done rfl ?_
          obtain ⟨Z1, Z2, Z3, hZe, hZ1, hZ2⟩ : ∃ Z1 Z2 Z3 : List Value, Z = Z1 ++ (Z2 ++ Z3) ∧ Z1.length = v.length * 2 ∧ Z2.length = (s.length - q) * 2 := by
            refine ⟨Z.take (v.length * 2), (Z.drop (v.length * 2)).take ((s.length - q) * 2), (Z.drop (v.length * 2)).drop ((s.length - q) * 2), by rw [List.take_append_drop, List.take_append_drop], ?_, ?_⟩ <;> simp only [List.length_take, List.length_drop, hZ] <;> omega
          subst hZe
          -- copy(s2[i:], v)
          refine Runs.seq ?_
          refine Runs.region ?_
          refine WR.seg hE 4 [.slice (some ⟨r, 0 + q * 2, none⟩) (s.length + v.length - q) (cc - q)] [0, 1, 2, 7, 9, 43, 44] (Lo := [(0, .slice sb_s s.length sc_s), (1, .int .i64 (q : Int)), (2, .slice sb_v v.length sc_v), (7, .int .i64 (v.length : Int)), (9, .slice (some ⟨r, 0, none⟩) (s.length + v.length) cc), (43, .slice (some ⟨r, 0 + q * 2, none⟩) (s.length + v.length - q) (cc - q)), (44, .slice sb_v v.length sc_v)])
            (obs := [.p (rebase (some ⟨r, 0, none⟩) cc q 2 = some ⟨r, 0 + q * 2, none⟩), .p (s.length + v.length - q = s.length + v.length - q), .p (cc - q = cc - q), .p (0 ≤ (q : Int) ∧ (q : Int) ≤ ((s.length + v.length : Nat) : Int))]) rfl (by kernel_rfl) ⟨(by show _ = _; unfold rebase; rw [if_neg (by omega)]; simp [addr_add]), rfl, rfl, ⟨h0, by omega⟩, trivial⟩ fun a hE => ?_
          refine WR.eff hE rfl rfl rfl rfl (OpTo.copyBlk (sz := 2) (v.flatMap trees_ranked.enc) hE H rfl rfl rfl rfl rfl rfl (SlRd.all (sl_rd 287 trees_ranked.enc 2 sb_v sc_v v) he H 2 rfl) (by rw [hfv]; congr 1; simp only [Nat.min_def]; split <;> omega) (flat_one he v) (by simp only [List.length_append, hft, hfv, hZ1]; omega)) ?_
          rintro _ w ⟨⟨kk, rfl⟩, H⟩ a hE
          rw [putAt_midN _ _ _ _ _ (by rw [hft]; omega) (by rw [hfv, hZ1])] at H
          refine WR.done rfl ?_
          replace hE := hE.sel [0, 1, 2, 7, 9] (Lo := [(0, .slice sb_s s.length sc_s), (1, .int .i64 (q : Int)), (2, .slice sb_v v.length sc_v), (7, .int .i64 (v.length : Int)), (9, .slice (some ⟨r, 0, none⟩) (s.length + v.length) cc)]) (by kernel_rfl)
          -- copy(s2[i+m:], s[i:])
          refine Runs.seq ?_
          refine Runs.drawn mixed (by kernel_rfl) ?_
          replace H := H.drew
          obtain ⟨b, off, A, R, rfl, hA, _, _, hR, H2⟩ := (H.t1).slParts he (by omega)
          have hrb2 : rebase (some ⟨b, off, none⟩ : Option Addr) sc_s q 2 = some ⟨b, off + q * 2, none⟩ := by unfold rebase; rw [if_neg (by omega)]; simp [addr_add]
          refine WQ.seg hE [0, 1, 2, 3, 4, 5, 6, 7] [.slice (some ⟨r, 0 + (q + v.length) * 2, none⟩) (s.length - q) (cc - (q + v.length)), .slice (some ⟨b, off + q * 2, none⟩) (s.length - q) (sc_s - q)] [9, 50, 53] (Lo := [(9, .slice (some ⟨r, 0, none⟩) (s.length + v.length) cc), (50, .slice (some ⟨r, 0 + (q + v.length) * 2, none⟩) (s.length - q) (cc - (q + v.length))), (53, .slice (some ⟨b, off + q * 2, none⟩) (s.length - q) (sc_s - q))])
            (obs := [.p (rebase (some ⟨r, 0, none⟩) cc (Int.toNat (w64 ((q : Int) + (v.length : Int)))) 2 = some ⟨r, 0 + (q + v.length) * 2, none⟩), .p (s.length + v.length - Int.toNat (w64 ((q : Int) + (v.length : Int))) = s.length - q), .p (cc - Int.toNat (w64 ((q : Int) + (v.length : Int))) = cc - (q + v.length)), .p (0 ≤ w64 ((q : Int) + (v.length : Int)) ∧ w64 ((q : Int) + (v.length : Int)) ≤ ((s.length + v.length : Nat) : Int)),
              .p (rebase (some ⟨b, off, none⟩) sc_s q 2 = some ⟨b, off + q * 2, none⟩), .p (s.length - q = s.length - q), .p (sc_s - q = sc_s - q), .p (0 ≤ (q : Int) ∧ (q : Int) ≤ (s.length : Int))]) (by kernel_rfl) (by kernel_rfl)
            ⟨(by show _ = _; rw [hw2, Int.toNat_natCast]; unfold rebase; rw [if_neg (by omega)]; simp [addr_add]), (by show _ - _ = _; rw [hw2, Int.toNat_natCast]; omega), (by show _ - _ = _; rw [hw2, Int.toNat_natCast]), (by show _ ∧ _; rw [hw2]; constructor <;> omega), hrb2, rfl, rfl, ⟨h0, h1⟩, trivial⟩ fun a hE => ?_
          have hrd1 : Rd { w with drawn := w.drawn + 1 } (some ⟨b, off + q * 2, none⟩) ((s.drop q).flatMap trees_ranked.enc) := rdBlk (H2) 0 rfl (off := off + q * 2) fun j u hj => by
            rw [hsp, List.append_assoc, ← List.append_assoc A, List.getElem?_append_right (by simp only [List.length_append, hA, hft]; omega)]
            simp only [List.length_append, hA, hft]
            rw [List.getElem?_append_left (by have := (List.getElem?_eq_some_iff.1 hj).1; omega)]
            rw [← hj]; congr 1; omega
          refine WQ.eff (j := 8) (obs := []) hE (by kernel_rfl) rfl rfl rfl rfl (by kernel_rfl) (OpTo.copyBlk (sz := 2) ((s.drop q).flatMap trees_ranked.enc) hE H2.t1 rfl rfl rfl rfl rfl rfl hrd1 (by rw [hfd]; congr 1; simp only [Nat.min_def]; split <;> omega) (flat_one he _) (by simp only [List.length_append, hft, hfv, hZ2, hfd, Nat.add_mul]; omega)) ?_
          rintro _ w ⟨⟨kk2, rfl⟩, H⟩
          refine ⟨trivial, fun a hE => ?_⟩
          refine WQ.done (by kernel_rfl) ?_
          rw [← List.append_assoc, putAt_midN _ _ _ _ _ (by simp only [List.length_append, hft, hfv, Nat.add_mul]; omega) (by rw [hfd, hZ2])] at H
          refine Runs.seq ?_
          refine Runs.region ?_
          refine WR.seg hE 2 [] [6] (Lo := [(6, .slice (some ⟨r, 0, none⟩) (s.length + v.length) cc)]) (obs := []) rfl (by kernel_rfl) trivial fun a hE => ?_
          refine WR.done rfl ?_
          refine Runs.ret hE Tryz.func235 rfl rfl ?_
          simp only [Int.toNat_natCast]
          have hln : (s.take q ++ (v ++ s.drop q)).length = s.length + v.length := by simp; omega
          have hfl3 : (s.take q).flatMap trees_ranked.enc ++ v.flatMap trees_ranked.enc ++ ((s.drop q).flatMap trees_ranked.enc ++ Z3) = [] ++ ((s.take q ++ (v ++ s.drop q)).flatMap trees_ranked.enc ++ Z3) := by simp [List.append_assoc]
          rw [hfl3] at H
          have hZ3 : (cc - (s.take q ++ (v ++ s.drop q)).length) * 2 ≤ Z3.length := by
            simp only [List.length_append, hZ1, hZ2] at hZ
            rw [hln]; omega
          have H3 := St.slBack H he (sc := cc) (by rw [hln]; exact hc1) hc2 hZ3
          exact ⟨some ⟨r, 0, none⟩, cc, by rw [hln]; rfl, H3.x1.x1⟩
        · have hroom : s.length + v.length ≤ sc_s := by have := c3; rw [hw1] at this; simp only [decide_eq_false_iff_not] at this; omega
          obtain ⟨b, off, A, R, rfl, hA, _, hmxl, hR, H1⟩ := H.slParts he (by omega)
          obtain ⟨R1, R2, hRe, hR1⟩ : ∃ R1 R2 : List Value, R = R1 ++ R2 ∧ R1.length = v.length * 2 := by
            have : v.length * 2 ≤ (sc_s - s.length) * 2 := Nat.mul_le_mul_right _ (by omega)
            exact ⟨R.take (v.length * 2), R.drop (v.length * 2), by rw [List.take_append_drop], by simp only [List.length_take]; omega⟩
          subst hRe
          have hrbq : ∀ k : Nat, k < sc_s → rebase (some ⟨b, off, none⟩ : Option Addr) sc_s k 2 = some ⟨b, off + k * 2, none⟩ := fun k hk => by unfold rebase; rw [if_neg (by omega)]; simp [addr_add]
          have hrb0 : rebase (some ⟨b, off, none⟩ : Option Addr) sc_s 0 2 = some ⟨b, off, none⟩ := by rw [hrbq 0 (by omega)]; simp
          refine Runs.skip ?_
          refine Runs.seq ?_
          refine Runs.region ?_
          refine WR.seg hE 6 [.slice (some ⟨b, off, none⟩) (s.length + v.length) sc_s] [0, 1, 2, 7] (Lo := [(0, .slice (some ⟨b, off, none⟩) (s.length + v.length) sc_s), (1, .int .i64 (q : Int)), (2, .slice sb_v v.length sc_v), (7, .int .i64 (v.length : Int))])
            (obs := [.p (rebase (some ⟨b, off, none⟩) sc_s 0 2 = some ⟨b, off, none⟩), .p (Int.toNat (w64 ((s.length : Int) + (v.length : Int))) - 0 = s.length + v.length), .p (sc_s - 0 = sc_s), .p (0 ≤ w64 ((s.length : Int) + (v.length : Int)) ∧ w64 ((s.length : Int) + (v.length : Int)) ≤ (sc_s : Int))]) rfl (by kernel_rfl)
            ⟨hrb0, (by show _ - 0 = _; rw [hw1, Int.toNat_natCast]; rfl), rfl, (by show _ ∧ _; rw [hw1]; constructor <;> omega), trivial⟩ fun a hE => ?_
          refine WR.done rfl ?_
          -- overlaps?
          obtain ⟨vb, vo, Av, Rv, rfl, hAv, _, _, hRv, Hv⟩ := (H1.t1).slParts he hvp
          have hne : vb ≠ b := by
            obtain ⟨g1, g2, gd, s1, s2, hB1, g3, g4, gd2, s3, s4, hB2, _⟩ := Hv.heap
            intro h
            subst h
            rcases gd vb with e | e
            · have : g1 vb = _ := hB1
              rw [this] at e; cases e
            · have : g3 vb = _ := hB2
              have := s3 _ _ this
              rw [e] at this; cases this
          refine Runs.seq ?_
          refine Runs.seq ?_
          refine Runs.region ?_
          refine WR.seg hE 6 [.slice (rebase (some ⟨b, off, none⟩) sc_s (q + v.length) 2) (s.length - q) (sc_s - (q + v.length))] [0, 1, 2, 7, 61, 66] (Lo := [(0, .slice (some ⟨b, off, none⟩) (s.length + v.length) sc_s), (1, .int .i64 (q : Int)), (2, .slice (some ⟨vb, vo, none⟩) v.length sc_v), (7, .int .i64 (v.length : Int)), (61, .slice (some ⟨vb, vo, none⟩) v.length sc_v), (66, .slice (rebase (some ⟨b, off, none⟩) sc_s (q + v.length) 2) (s.length - q) (sc_s - (q + v.length)))])
            (obs := [.p (rebase (some ⟨b, off, none⟩) sc_s (Int.toNat (w64 ((q : Int) + (v.length : Int)))) 2 = rebase (some ⟨b, off, none⟩) sc_s (q + v.length) 2), .p (s.length + v.length - Int.toNat (w64 ((q : Int) + (v.length : Int))) = s.length - q), .p (sc_s - Int.toNat (w64 ((q : Int) + (v.length : Int))) = sc_s - (q + v.length)), .p (0 ≤ w64 ((q : Int) + (v.length : Int)) ∧ w64 ((q : Int) + (v.length : Int)) ≤ ((s.length + v.length : Nat) : Int))]) rfl (by kernel_rfl)
            ⟨(by show _ = _; rw [hw2, Int.toNat_natCast]), (by show _ - _ = _; rw [hw2, Int.toNat_natCast]; omega), (by show _ - _ = _; rw [hw2, Int.toNat_natCast]), (by show _ ∧ _; rw [hw2]; constructor <;> omega), trivial⟩ fun a hE => ?_
          rw [hrbq (q + v.length) (by omega)] at hE
          refine WR.eff hE rfl rfl rfl rfl (OpTo.overlapsNo (tS := 285) (tR := 4) (e := 287) hE Hv 0 1 rfl rfl hne (by simp only [List.size_toArray, List.length_append, hfs]; omega) rfl rfl (fn := Tryz.f262) (by kernel_rfl) (by kernel_rfl) (by kernel_rfl) (by kernel_rfl) (by kernel_rfl) rfl rfl) ?_
          rintro _ w ⟨rfl, ew⟩ a hE
          subst ew
          refine WR.seg hE 8 [] [0, 1, 2, 7, 68] (Lo := [(0, .slice (some ⟨b, off, none⟩) (s.length + v.length) sc_s), (1, .int .i64 (q : Int)), (2, .slice (some ⟨vb, vo, none⟩) v.length sc_v), (7, .int .i64 (v.length : Int)), (68, .bool true)]) (obs := []) rfl (by kernel_rfl) trivial fun a hE => ?_
          refine WR.done rfl ?_
          refine Runs.condT hE rfl ?_
          -- copy(s[i+m:], s[i:])
          refine Runs.seq ?_
          refine Runs.drawn mixed (by kernel_rfl) ?_
          replace Hv := Hv.drew
          refine WQ.seg hE [0, 1, 2, 3, 4, 5, 6, 7] [.slice (some ⟨b, off + (q + v.length) * 2, none⟩) (s.length - q) (sc_s - (q + v.length)), .slice (some ⟨b, off + q * 2, none⟩) (s.length + v.length - q) (sc_s - q)] [0, 1, 2, 73, 76] (Lo := [(0, .slice (some ⟨b, off, none⟩) (s.length + v.length) sc_s), (1, .int .i64 (q : Int)), (2, .slice (some ⟨vb, vo, none⟩) v.length sc_v), (73, .slice (some ⟨b, off + (q + v.length) * 2, none⟩) (s.length - q) (sc_s - (q + v.length))), (76, .slice (some ⟨b, off + q * 2, none⟩) (s.length + v.length - q) (sc_s - q))])
            (obs := [.p (rebase (some ⟨b, off, none⟩) sc_s (Int.toNat (w64 ((q : Int) + (v.length : Int)))) 2 = some ⟨b, off + (q + v.length) * 2, none⟩), .p (s.length + v.length - Int.toNat (w64 ((q : Int) + (v.length : Int))) = s.length - q), .p (sc_s - Int.toNat (w64 ((q : Int) + (v.length : Int))) = sc_s - (q + v.length)), .p (0 ≤ w64 ((q : Int) + (v.length : Int)) ∧ w64 ((q : Int) + (v.length : Int)) ≤ ((s.length + v.length : Nat) : Int)),
              .p (rebase (some ⟨b, off, none⟩) sc_s q 2 = some ⟨b, off + q * 2, none⟩), .p (s.length + v.length - q = s.length + v.length - q), .p (sc_s - q = sc_s - q), .p (0 ≤ (q : Int) ∧ (q : Int) ≤ ((s.length + v.length : Nat) : Int))]) (by kernel_rfl) (by kernel_rfl)
            ⟨(by show _ = _; rw [hw2, Int.toNat_natCast]; exact hrbq _ (by omega)), (by show _ - _ = _; rw [hw2, Int.toNat_natCast]; omega), (by show _ - _ = _; rw [hw2, Int.toNat_natCast]), (by show _ ∧ _; rw [hw2]; constructor <;> omega), hrbq q (by omega), rfl, rfl, ⟨h0, by omega⟩, trivial⟩ fun a hE => ?_
          have hrd1 : Rd { w with drawn := w.drawn + 1 } (some ⟨b, off + q * 2, none⟩) ((s.drop q).flatMap trees_ranked.enc) := rdBlk Hv 1 rfl (off := off + q * 2) fun j u hj => by
            rw [hsp, List.append_assoc, ← List.append_assoc A, List.getElem?_append_right (by simp only [List.length_append, hA, hft]; omega)]
            simp only [List.length_append, hA, hft]
            rw [List.getElem?_append_left (by have := (List.getElem?_eq_some_iff.1 hj).1; omega)]
            rw [← hj]; congr 1; omega
          refine WQ.eff (j := 8) (obs := []) hE (by kernel_rfl) rfl rfl rfl rfl (by kernel_rfl) (OpTo.copyBlk (sz := 2) ((s.drop q).flatMap trees_ranked.enc) hE Hv.t1 rfl rfl rfl rfl rfl rfl hrd1 (by rw [hfd]; congr 1; simp only [Nat.min_def]; split <;> omega) (flat_one he _) (by simp only [List.length_append, hA, hfs, hR1, hfd, Nat.add_mul]; rw [Nat.sub_mul]; have : q * 2 ≤ s.length * 2 := Nat.mul_le_mul_right _ hq; omega)) ?_
          rintro _ w ⟨⟨kk2, rfl⟩, H⟩
          refine ⟨trivial, fun a hE => ?_⟩
          refine WQ.done (by kernel_rfl) ?_
          obtain ⟨X1, X2, hX, hX1, hX2⟩ : ∃ X1 X2 : List Value, (s.drop q).flatMap trees_ranked.enc ++ R1 = X1 ++ X2 ∧ X1.length = v.length * 2 ∧ X2.length = (s.length - q) * 2 := by
            refine ⟨((s.drop q).flatMap trees_ranked.enc ++ R1).take (v.length * 2), ((s.drop q).flatMap trees_ranked.enc ++ R1).drop (v.length * 2), by rw [List.take_append_drop], ?_, ?_⟩ <;> simp only [List.length_take, List.length_drop, List.length_append, hfd, hR1] <;> omega
          have hall : A ++ (s.flatMap trees_ranked.enc ++ (R1 ++ R2)) = (A ++ ((s.take q).flatMap trees_ranked.enc ++ X1)) ++ (X2 ++ R2) := by
            rw [hsp]
            calc A ++ (((s.take q).flatMap trees_ranked.enc ++ (s.drop q).flatMap trees_ranked.enc) ++ (R1 ++ R2)) = A ++ ((s.take q).flatMap trees_ranked.enc ++ (((s.drop q).flatMap trees_ranked.enc ++ R1) ++ R2)) := by simp [List.append_assoc]
              _ = _ := by rw [hX]; simp [List.append_assoc]
          rw [hall, putAt_midN _ _ _ _ _ (by simp only [List.length_append, hA, hft, hX1, Nat.add_mul, Nat.add_assoc]) (by rw [hfd, hX2])] at H
          have hall2 : (A ++ ((s.take q).flatMap trees_ranked.enc ++ X1)) ++ ((s.drop q).flatMap trees_ranked.enc ++ R2) = (A ++ (s.take q).flatMap trees_ranked.enc) ++ (X1 ++ ((s.drop q).flatMap trees_ranked.enc ++ R2)) := by simp [List.append_assoc]
          rw [hall2] at H
          -- copy(s[i:], v)
          refine Runs.seq ?_
          refine Runs.region ?_
          refine WR.seg hE 4 [.slice (some ⟨b, off + q * 2, none⟩) (s.length + v.length - q) (sc_s - q)] [0, 80, 81] (Lo := [(0, .slice (some ⟨b, off, none⟩) (s.length + v.length) sc_s), (80, .slice (some ⟨b, off + q * 2, none⟩) (s.length + v.length - q) (sc_s - q)), (81, .slice (some ⟨vb, vo, none⟩) v.length sc_v)])
            (obs := [.p (rebase (some ⟨b, off, none⟩) sc_s q 2 = some ⟨b, off + q * 2, none⟩), .p (s.length + v.length - q = s.length + v.length - q), .p (sc_s - q = sc_s - q), .p (0 ≤ (q : Int) ∧ (q : Int) ≤ ((s.length + v.length : Nat) : Int))]) rfl (by kernel_rfl) ⟨hrbq q (by omega), rfl, rfl, ⟨h0, by omega⟩, trivial⟩ fun a hE => ?_
          have hrd2 : Rd w (some ⟨vb, vo, none⟩) (v.flatMap trees_ranked.enc) := rdBlk H 1 rfl fun j u hj => by
            rw [List.getElem?_append_right (by omega), hAv, Nat.add_sub_cancel_left, List.getElem?_append_left (List.getElem?_eq_some_iff.1 hj).1]
            exact hj
          refine WR.eff hE rfl rfl rfl rfl (OpTo.copyBlk (sz := 2) (v.flatMap trees_ranked.enc) hE H rfl rfl rfl rfl rfl rfl hrd2 (by rw [hfv]; congr 1; simp only [Nat.min_def]; split <;> omega) (flat_one he v) (by simp only [List.length_append, hA, hft, hX1, hfv]; omega)) ?_
          rintro _ w ⟨⟨kk3, rfl⟩, H⟩ a hE
          rw [putAt_midN _ _ _ _ _ (by simp only [List.length_append, hA, hft]) (by rw [hfv, hX1])] at H
          refine WR.done rfl ?_
          refine Runs.seq ?_
          refine Runs.region ?_
          refine WR.seg hE 2 [] [6] (Lo := [(6, .slice (some ⟨b, off, none⟩) (s.length + v.length) sc_s)]) (obs := []) rfl (by kernel_rfl) trivial fun a hE => ?_
          refine WR.done rfl ?_
          refine Runs.ret hE Tryz.func235 rfl rfl ?_
          simp only [Int.toNat_natCast]
          have hln : (s.take q ++ (v ++ s.drop q)).length = s.length + v.length := by simp; omega
          have hfl3 : (A ++ (s.take q).flatMap trees_ranked.enc) ++ (v.flatMap trees_ranked.enc ++ ((s.drop q).flatMap trees_ranked.enc ++ R2)) = A ++ ((s.take q ++ (v ++ s.drop q)).flatMap trees_ranked.enc ++ R2) := by simp [List.append_assoc]
          rw [hfl3] at H
          have hR2 : (sc_s - (s.take q ++ (v ++ s.drop q)).length) * 2 ≤ R2.length := by
            simp only [List.length_append, hR1] at hR
            rw [hln]; omega
          have H3 := St.slBack H he (sc := sc_s) (by rw [hln]; exact hroom) hmxl hR2
          rw [hA] at H3
          exact ⟨some ⟨b, off, none⟩, sc_s, by rw [hln]; rfl, H3.x1⟩
  · cases hm

noncomputable abbrev C235p : List (PK El) := [pW 5 287, pI .i64, pW 5 287]
noncomputable def C235 : Con El := mkCon 235 C235p (fun i_ => lInsert i_.1.2.2 i_.2.1 i_.2.2.1.2.2) 1 1 (fun i_ t ns_ as_ => .slice (na as_ 0) t.length (nn ns_ 0)) (fun i_ t ns_ as_ => [.sl 5 287 (na as_ 0) (nn ns_ 0) t])

theorem S235 : (C235).Sound Tryz.prog := fun i_ t hm w0 w F hr H => by
  obtain ⟨⟨b0, c0, x0⟩, x1, ⟨b2, c2, x2⟩, _⟩ := i_
  have H2 : St w0 (Sl 287 trees_ranked.enc 2 b0 c0 x0 :: Sl 287 trees_ranked.enc 2 b2 c2 x2 :: F) w := by
    exact H
  refine (slices_Insert_trees_ranked_ok (show lInsert x0 x1 x2 = some t from hm) H2).mono ?_
  rintro v w' ⟨e0, e1, hv, H⟩
  refine ⟨[e1], [e0], rfl, rfl, hv, ?_, fun _ h => by cases h⟩
  exact H

noncomputable def K235 : SCon El Tryz.prog := ⟨C235, S235, Tryz.call235⟩

noncomputable abbrev C236p : List (PK El) := [pO arena_Arena.D, pR 1]
noncomputable def C236 (k : Nat) : Con El := mkCon 236 C236p (fun i_ => trees_Row k i_.1.2.2 i_.2.1.2.2) 0 0 (fun i_ t ns_ as_ => .int .i64 t.1) (fun i_ t ns_ as_ => arena_Arena.D.flat i_.1.1 i_.1.2.1 t.2)

noncomputable abbrev C236r (k : Nat) (i : Ins C236p) : Kn El → VC (C236 k).T := retC Tryz.prog (C236 k) (rsOf Tryz.prog 236) [] [0, 1, 2, 3] (gj (g2 (gI 4) (gO arena_Arena.D [0, 1, 2, 3])) []) i

noncomputable def C236l0 (i_ : Ins C236p) : BCon El (Int × arena_Arena) := ⟨nav [1, 1, 0, 1] (bodyOf Tryz.prog 236), Unit, Int × Int × arena_Arena, Int × arena_Arena, Int × arena_Arena, fun u => .inr u, fun _ _ => none, fun x_ => [(0, ⟨1, i_.2.1.1, i_.2.1.2.1, i_.2.1.2.2⟩)], fun x_ v_ ns_ as_ => [(0, .pointer (some ⟨i_.1.1, 0, none⟩)), (1, .slice i_.2.1.1 i_.2.1.2.2.length i_.2.1.2.1), (5, .int .i64 v_.1), (6, .int .i64 v_.2.1)], fun x_ v_ ns_ as_ => zipL [0, 1, 2, 3] (arena_Arena.D.flat i_.1.1 i_.1.2.1 v_.2.2), 0, 0, fun x_ u_ ns_ as_ => [(5, .int .i64 u_.1)], fun x_ u_ ns_ as_ => zipL [0, 1, 2, 3] (arena_Arena.D.flat i_.1.1 i_.1.2.1 u_.2)⟩

noncomputable def C236l0g (k : Nat) (i_ : Ins C236p) : Nat → (C236l0 i_).X → (C236l0 i_).V → Option (C236l0 i_).W := fun m_ (x_ : Unit) (v_ : Int × Int × arena_Arena) => trees_Row_l0 i_.2.1.2.2 m_ v_.1 v_.2.1 v_.2.2

theorem C236l0s (k : Nat) (i : Ins C236p) (m : Nat) : ((C236l0 i).at (C236l0g k i) m).Sound Tryz.prog 236 32 (C236r k i) :=
  loop_sound mixed (C236l0 i) (id := 0) (body := nav [1, 1, 0, 1, 0, 0] (bodyOf Tryz.prog 236)) (C236l0g k i) (fun _ => none) (fun u => u) (gj (g2 (gI 5) (g2 (gI 6) (gO arena_Arena.D [0, 1, 2, 3]))) []) (gj (g2 (gI 5) (gO arena_Arena.D [0, 1, 2, 3])) []) (fun m => (.s (.seg 2 []) (.cond (.blk (.s (.seg 3 []) (.s (.idx true 0 (.tmp 16) 6) (.s (.seg 3 [.A 6, .R 6 0]) (.s (.call K139 [.K 0, .K 1, .K 2, .K 3] [0, 1, 2, 3]) (.s (.seg 3 []) (.s (.idx true 0 (.tmp 23) 7) (.s (.seg 2 [.A 7, .R 7 0]) (.s (.call K139 [.K 0, .K 1, .K 2, .K 3] [0, 1, 2, 3]) (.s (.seg 2 []) (.s (.idx true 0 (.tmp 28) 8) (.s (.seg 3 [.A 8, .R 8 0]) (.s (.seg 3 []) .back))))))))))))) .leaf))) (by kernel_rfl) (fun _ _ => rfl) (fun r y h => by cases h) (fun u => rfl) (fun m x v n1 n2 => by kernel_rfl) (fun m x v n1 n2 s => by kernel_rfl) m

theorem S236 (k : Nat) : (C236 k).Sound Tryz.prog :=
  fn_sound mixed (C236 k) (n := 32) (rs := rsOf Tryz.prog 236) [] [0, 1, 2, 3] (gj (g2 (gI 4) (gO arena_Arena.D [0, 1, 2, 3])) []) (fun i => (.s (.seg 1 []) (.s (.seg 1 []) (.s (.seg 4 []) (.loop ⟨(C236l0 i).at (C236l0g k i) k, C236l0s k i k⟩ (gl gU (g2 (gI 5) (g2 (gI 6) (gO arena_Arena.D [0, 1, 2, 3]))) []) (.s (.seg 2 []) .ret)))))) Tryz.func236 rfl rfl (by kernel_rfl) (fun _ => rfl) (fun i => by kernel_rfl) (fun i s => by kernel_rfl)

noncomputable def K236 (k : Nat) : SCon El Tryz.prog := ⟨C236 k, S236 k, Tryz.call236⟩

noncomputable abbrev C197p : List (PK El) := [pO arena_Arena.D, pR 1]
noncomputable def C197 (k : Nat) : Con El := mkCon 197 C197p (fun i_ => trees_Carry k i_.1.2.2 i_.2.1.2.2) 0 0 (fun i_ t ns_ as_ => .int .i64 t.1) (fun i_ t ns_ as_ => arena_Arena.D.flat i_.1.1 i_.1.2.1 t.2)

noncomputable abbrev C197r (k : Nat) (i : Ins C197p) : Kn El → VC (C197 k).T := retC Tryz.prog (C197 k) (rsOf Tryz.prog 197) [] [0, 1, 2, 3] (gj (g2 (gI 4) (gO arena_Arena.D [0, 1, 2, 3])) []) i

noncomputable def C197l0 (i_ : Ins C197p) : BCon El (Int × arena_Arena) := ⟨nav [1, 1, 0, 1] (bodyOf Tryz.prog 197), Int, (List trees_ranked) × Int × arena_Arena, (List trees_ranked) × arena_Arena, (List trees_ranked) × arena_Arena, fun u => .inr u, fun _ _ => none, fun x_ => [(0, ⟨1, i_.2.1.1, i_.2.1.2.1, i_.2.1.2.2⟩)], fun x_ v_ ns_ as_ => [(0, .pointer (some ⟨i_.1.1, 0, none⟩)), (5, .slice (na as_ 0) v_.1.length (nn ns_ 0)), (12, .slice i_.2.1.1 i_.2.1.2.2.length i_.2.1.2.1), (13, .int .i64 (x_)), (14, .int .i64 v_.2.1)], fun x_ v_ ns_ as_ => zipL [9] [.sl 5 287 (na as_ 0) (nn ns_ 0) v_.1] ++ zipL [0, 1, 2, 3] (arena_Arena.D.flat i_.1.1 i_.1.2.1 v_.2.2), 1, 1, fun x_ u_ ns_ as_ => [(0, .pointer (some ⟨i_.1.1, 0, none⟩)), (5, .slice (na as_ 0) u_.1.length (nn ns_ 0))], fun x_ u_ ns_ as_ => zipL [8] [.sl 5 287 (na as_ 0) (nn ns_ 0) u_.1] ++ zipL [0, 1, 2, 3] (arena_Arena.D.flat i_.1.1 i_.1.2.1 u_.2)⟩

noncomputable def C197l0g (k : Nat) (i_ : Ins C197p) : Nat → (C197l0 i_).X → (C197l0 i_).V → Option (C197l0 i_).W := fun m_ (x_ : Int) (v_ : (List trees_ranked) × Int × arena_Arena) => trees_Carry_l0 (x_) i_.2.1.2.2 m_ v_.1 v_.2.1 v_.2.2

theorem C197l0s (k : Nat) (i : Ins C197p) (m : Nat) : ((C197l0 i).at (C197l0g k i) m).Sound Tryz.prog 197 94 (C197r k i) :=
  loop_sound mixed (C197l0 i) (id := 0) (body := nav [1, 1, 0, 1, 0, 0] (bodyOf Tryz.prog 197)) (C197l0g k i) (fun _ => none) (fun u => u) (gj (g2 (gL 5 9) (g2 (gI 14) (gO arena_Arena.D [0, 1, 2, 3]))) [nSk 9]) (gj (g2 (gL 5 8) (gO arena_Arena.D [0, 1, 2, 3])) [nSk 8]) (fun m => (.s (.seg 1 []) (.cond (.blk (.s (.idx true 0 (.tmp 14) 2) (.s (.seg 3 [.A 2, .R 2 0]) (.s (.seg 4 []) (.s (.call K161 [.K 0, .K 1, .K 2, .K 3] [0, 1, 2, 3]) (.s (.seg 1 []) (.s (.bld 11 5 287) (.s (.app 9 (.O 11)) (.s (.seg 1 []) (.s (.seg 2 []) .back)))))))))) (.rk [(9, 8), (8, 90008)] .leaf)))) (by kernel_rfl) (fun _ _ => rfl) (fun r y h => by cases h) (fun u => rfl) (fun m x v n1 n2 => by kernel_rfl) (fun m x v n1 n2 s => by kernel_rfl) m

noncomputable def C197l1 (i_ : Ins C197p) : BCon El (Int × arena_Arena) := ⟨nav [1, 1, 1, 1, 1, 0, 0, 0, 1, 0, 1, 1, 1, 1, 1, 0] (bodyOf Tryz.prog 197), (List trees_ranked) × (Option Addr × Nat) × Nat × Int × Int × (List Int) × (Option Addr × Nat) × arena_Arena, Int, Int, Int, fun u => .inr u, fun _ _ => none, fun x_ => [(0, ⟨1, i_.2.1.1, i_.2.1.2.1, i_.2.1.2.2⟩)], fun x_ v_ ns_ as_ => [(0, .pointer (some ⟨i_.1.1, 0, none⟩)), (5, .slice (x_.2.1.1) (x_.1).length (x_.2.1.2)), (8, .slice (x_.2.2.2.2.2.2.1.1) (x_.2.2.2.2.2.1).length (x_.2.2.2.2.2.2.1.2)), (10, .pointer (some ⟨x_.2.2.1, 0, none⟩)), (11, .int .i64 v_)], fun x_ v_ ns_ as_ => zipL [36] [.sl 5 287 (x_.2.1.1) (x_.2.1.2) (x_.1)] ++ zipL [44] [.blk (x_.2.2.1) 287 [.int .i64 (x_.2.2.2.1), .int .i64 (x_.2.2.2.2.1)]] ++ zipL [37] [.sl 1 3 (x_.2.2.2.2.2.2.1.1) (x_.2.2.2.2.2.2.1.2) (x_.2.2.2.2.2.1)] ++ zipL [0, 1, 2, 3] (arena_Arena.D.flat i_.1.1 i_.1.2.1 (x_.2.2.2.2.2.2.2)), 0, 0, fun x_ u_ ns_ as_ => [(0, .pointer (some ⟨i_.1.1, 0, none⟩)), (5, .slice (x_.2.1.1) (x_.1).length (x_.2.1.2)), (8, .slice (x_.2.2.2.2.2.2.1.1) (x_.2.2.2.2.2.1).length (x_.2.2.2.2.2.2.1.2)), (10, .pointer (some ⟨x_.2.2.1, 0, none⟩)), (11, .int .i64 u_)], fun x_ u_ ns_ as_ => zipL [36] [.sl 5 287 (x_.2.1.1) (x_.2.1.2) (x_.1)] ++ zipL [44] [.blk (x_.2.2.1) 287 [.int .i64 (x_.2.2.2.1), .int .i64 (x_.2.2.2.2.1)]] ++ zipL [37] [.sl 1 3 (x_.2.2.2.2.2.2.1.1) (x_.2.2.2.2.2.2.1.2) (x_.2.2.2.2.2.1)] ++ zipL [0, 1, 2, 3] (arena_Arena.D.flat i_.1.1 i_.1.2.1 (x_.2.2.2.2.2.2.2))⟩

noncomputable def C197l1g (k : Nat) (i_ : Ins C197p) : Nat → (C197l1 i_).X → (C197l1 i_).V → Option (C197l1 i_).W := fun m_ (x_ : (List trees_ranked) × (Option Addr × Nat) × Nat × Int × Int × (List Int) × (Option Addr × Nat) × arena_Arena) (v_ : Int) => trees_Carry_l2 (x_.1) (x_.2.2.2.1) (x_.2.2.2.2.1) (x_.2.2.2.2.2.1) (x_.2.2.2.2.2.2.2) i_.2.1.2.2 m_ v_

theorem C197l1s (k : Nat) (i : Ins C197p) (m : Nat) : ((C197l1 i).at (C197l1g k i) m).Sound Tryz.prog 197 94 (C197r k i) :=
  loop_sound mixed (C197l1 i) (id := 4) (body := nav [1, 1, 1, 1, 1, 0, 0, 0, 1, 0, 1, 1, 1, 1, 1, 0, 0, 0] (bodyOf Tryz.prog 197)) (C197l1g k i) (fun _ => none) (fun u => u) (gj (gI 11) []) (gj (gI 11) []) (fun m => (.join (Bool) 0 0 (gj (gB 83) []) (fun st_ s_ ns_ as_ => ([(83, .bool s_)] ++ kp [0, 5, 8, 10, 11] st_, ka [36, 44, 37, 0, 1, 2, 3] st_)) (.drw (.q [0, 1, 2, 3, 4] [] (.split 74 (.q [5, 6] [] (.s (.idx false 36 (.tmp 76) 60) (.q [7, 8, 9, 10, 11, 12, 13] [.A 60, .X 60 36 1, .C 44 1] .leaf))) (.q [5, 6, 7, 8, 9, 10, 11, 12, 13] [] .leaf)))) (.cond (.blk (.s (.seg 3 []) .back)) .leaf))) (by kernel_rfl) (fun _ _ => rfl) (fun r y h => by cases h) (fun u => rfl) (fun m x v n1 n2 => by kernel_rfl) (fun m x v n1 n2 s => by kernel_rfl) m

noncomputable def C197l2 (i_ : Ins C197p) : BCon El (Int × arena_Arena) := ⟨nav [1, 1, 1, 1, 1, 0] (bodyOf Tryz.prog 197), Unit, (List trees_ranked) × (List Int) × arena_Arena, (List Int) × arena_Arena, (List Int) × arena_Arena, fun u => .inr u, fun _ _ => none, fun x_ => [(0, ⟨1, i_.2.1.1, i_.2.1.2.1, i_.2.1.2.2⟩)], fun x_ v_ ns_ as_ => [(0, .pointer (some ⟨i_.1.1, 0, none⟩)), (5, .slice (na as_ 0) v_.1.length (nn ns_ 0)), (8, .slice (na as_ 1) v_.2.1.length (nn ns_ 1))], fun x_ v_ ns_ as_ => zipL [36] [.sl 5 287 (na as_ 0) (nn ns_ 0) v_.1] ++ zipL [37] [.sl 1 3 (na as_ 1) (nn ns_ 1) v_.2.1] ++ zipL [0, 1, 2, 3] (arena_Arena.D.flat i_.1.1 i_.1.2.1 v_.2.2), 1, 1, fun x_ u_ ns_ as_ => [(0, .pointer (some ⟨i_.1.1, 0, none⟩)), (8, .slice (na as_ 0) u_.1.length (nn ns_ 0))], fun x_ u_ ns_ as_ => zipL [35] [.sl 1 3 (na as_ 0) (nn ns_ 0) u_.1] ++ zipL [0, 1, 2, 3] (arena_Arena.D.flat i_.1.1 i_.1.2.1 u_.2)⟩

noncomputable def C197l2g (k : Nat) (i_ : Ins C197p) : Nat → (C197l2 i_).X → (C197l2 i_).V → Option (C197l2 i_).W := fun m_ (x_ : Unit) (v_ : (List trees_ranked) × (List Int) × arena_Arena) => trees_Carry_l1 i_.2.1.2.2 m_ v_.1 v_.2.1 v_.2.2

theorem C197l2s (k : Nat) (i : Ins C197p) (m : Nat) : ((C197l2 i).at (C197l2g k i) m).Sound Tryz.prog 197 94 (C197r k i) :=
  loop_sound mixed (C197l2 i) (id := 2) (body := nav [1, 1, 1, 1, 1, 0, 0, 0] (bodyOf Tryz.prog 197)) (C197l2g k i) (fun _ => none) (fun u => u) (gj (g2 (gL 5 36) (g2 (gL 1 37) (gO arena_Arena.D [0, 1, 2, 3]))) [nSk 36, nSk 37]) (gj (g2 (gL 1 35) (gO arena_Arena.D [0, 1, 2, 3])) [nSk 35]) (fun m => (.s (.seg 3 []) (.cond (.blk (.s (.seg 1 []) (.s (.idx false 36 (.const (.int .i64 0)) 42) (.s (.seg 2 [.A 42, .X 42 36 0, .X 42 36 1]) (.s (.new 39 []) (.s (.sto 39) (.join (Bool) 0 0 (gj (gB 46) []) (fun st_ s_ ns_ as_ => ([(46, .bool s_)] ++ kp [0, 5, 8, 9] st_, ka [39, 36, 37, 0, 1, 2, 3] st_)) (.drw (.q [0, 1, 2, 3] [] (.split 38 (.q [4, 5, 6, 7, 8, 9, 10, 11] [] .leaf) (.q [4] [] (.s (.idx false 36 (.const (.int .i64 1)) 45) (.q [5, 6, 7, 8, 9, 10, 11] [.A 45, .X 45 36 1, .C 39 1] .leaf)))))) (.cond (.drw (.q [0, 1, 2, 5] [.C 39 0] (.s (.cut false 36 (some (.const (.int .i64 1))) none 1047) (.q [6] [.W 1047] (.a 3 (.bld 41 1 3) [.W 1047] (.a 4 (.app 37 (.O 41)) [.W 1047] (.q [7, 8] [] (.s (.own 1047 36) .back)))))))) (.jg (trees_ranked × arena_Arena) 1 0 (gj (g2 (gC 44 0 2 trees_ranked.dec) (gO arena_Arena.D [0, 1, 2, 3])) [nPk 44]) (fun st_ s_ ns_ as_ => match (g2 (gP 0) (gA arena_Arena.D [0, 1, 2, 3])) st_ with | some x_ => ([(10, .pointer (some ⟨(nn ns_ 0), 0, none⟩))] ++ kp [0, 5, 8] st_, ka [36, 37] st_ ++ zipL [44] [.blk (nn ns_ 0) 287 [.int .i64 s_.1.n, .int .i64 s_.1.rank]] ++ zipL [0, 1, 2, 3] (arena_Arena.D.flat (x_.1) (x_.2) s_.2)) | none => ([], [])) (.drw (.q [0, 1, 2, 3] [.C 39 0] (.s (.idx false 36 (.const (.int .i64 1)) 50) (.q [4, 5, 6, 7, 8, 10, 11, 12] [.A 50, .X 50 36 0, .C 39 1, .C 39 1] (.alt2 9 (.call (K234 m) [.K 0, .K 1, .K 2, .K 3] [0, 1, 2, 3]) [.C 39 1] (.q [13] [] (.a 14 (.new 45 []) [.C 39 1] (.a 15 (.sto 45) [] (.rk [(45, 44), (44, 90044)] .leaf)))) 14 (.new 46 []) [.C 39 1, .C 39 1, .X 50 36 0, .A 50, .C 39 0] (.a 9 (.call (K234 m) [.K 0, .K 1, .K 2, .K 3] [0, 1, 2, 3]) [.C 39 1] (.q [13] [] (.a 15 (.sto 46) [] (.rk [(46, 44), (44, 90044)] .leaf))))))))) (.s (.seg 1 []) (.s (.cut false 36 (some (.const (.int .i64 2))) none 1051) (.s (.seg 2 [.W 1051]) (.s (.seg 1 []) (.s (.own 1051 36) (.loop ⟨(C197l1 i).at (C197l1g k i) m, C197l1s k i m⟩ (gl (g2 (gL 5 36) (g2 (gh 36) (g2 (gP 44) (g2 (gC 44 0 1 dI) (g2 (gC 44 1 1 dI) (g2 (gL 1 37) (g2 (gh 37) (gO arena_Arena.D [0, 1, 2, 3])))))))) (gI 11) []) (.s (.seg 3 [.C 44 0, .C 44 1]) (.s (.bld 47 5 287) (.s (.call K235 [.K 36, .K 47] [48]) (.s (.seg 1 []) (.rk [(48, 36), (36, 90036)] .back)))))))))))))))))))) (.rk [(37, 35), (35, 90035)] .leaf)))) (by kernel_rfl) (fun _ _ => rfl) (fun r y h => by cases h) (fun u => rfl) (fun m x v n1 n2 => by kernel_rfl) (fun m x v n1 n2 s => by kernel_rfl) m

theorem S197 (k : Nat) : (C197 k).Sound Tryz.prog :=
  fn_sound mixed (C197 k) (n := 94) (rs := rsOf Tryz.prog 197) [] [0, 1, 2, 3] (gj (g2 (gI 4) (gO arena_Arena.D [0, 1, 2, 3])) []) (fun i => (.s (.seg 1 []) (.s (.seg 1 []) (.s (.seg 3 []) (.s (.nil 10 5 287) (.rk [(10, 9), (9, 90009)] (.loop ⟨(C197l0 i).at (C197l0g k i) k, C197l0s k i k⟩ (gl (gI 13) (g2 (gL 5 9) (g2 (gI 14) (gO arena_Arena.D [0, 1, 2, 3]))) [nSk 9]) (.s (.seg 1 []) (.s (.call (K232 k) [.K 8] [8]) (.s (.rlp 5 8) (.s (.rlp 27 8) (.s (.seg 1 []) (.s (.nil 38 1 3) (.rk [(8, 36), (38, 37), (36, 90036), (37, 90037)] (.loop ⟨(C197l2 i).at (C197l2g k i) k, C197l2s k i k⟩ (gl gU (g2 (gL 5 36) (g2 (gL 1 37) (gO arena_Arena.D [0, 1, 2, 3]))) [nSk 36, nSk 37]) (.s (.seg 2 []) (.s (.call (K236 k) [.K 0, .K 1, .K 2, .K 3, .O 35] [0, 1, 2, 3]) (.s (.seg 1 []) .ret)))))))))))))))))) Tryz.func197 rfl rfl (by kernel_rfl) (fun _ => rfl) (fun i => by kernel_rfl) (fun i s => by kernel_rfl)

noncomputable def K197 (k : Nat) : SCon El Tryz.prog := ⟨C197 k, S197 k, Tryz.call197⟩

theorem trees_Carry_ok {w0 w : World} {As : List HP} {k : Nat} {p_a_ : Nat} {al_a_ : arena_Arena.A} {a_ : arena_Arena} {sb_l : Option Addr} {sc_l : Nat} {l : List Int} {X_l : HP} {t : Int × arena_Arena} (hX_l : SlRd X_l ecI 1 sb_l l) (hC_l : l.length ≤ sc_l) (hm : trees_Carry k a_ l = some t) (H : St w0 (arena_Arena.R p_a_ al_a_ a_ :: X_l :: As) w) :
    CallsR Tryz.prog 197 #[.pointer (some ⟨p_a_, 0, none⟩), .slice sb_l l.length sc_l] w fun v w' => v = .int .i64 t.1 ∧ St w0 (arena_Arena.R p_a_ al_a_ t.2 :: X_l :: As) w' := by
  replace H := H.t1.t1
  replace H := (fs0 fun As => arena_Arena.D_st).1 H
  refine (S197 k ((p_a_, al_a_, a_), (sb_l, sc_l, l), ()) t hm w0 w (X_l :: As) (rdc (rdH 1 (.head _) hX_l hC_l) rd0) H).mono ?_
  rintro v w' ⟨ns, as_, hn, ha, hv, H, hfx⟩
  obtain rfl := ls0 hn
  obtain rfl := ls0 ha
  refine ⟨hv, ?_⟩
  refine (fs0 fun As => arena_Arena.D_st).2 ?_
  exact H

noncomputable abbrev C141p : List (PK El) := [pO arena_Arena.D, pI .i64, pI .i64]
noncomputable def C141 (k : Nat) : Con El := mkCon 141 C141p (fun i_ => binomial_Push k i_.1.2.2 i_.2.1 i_.2.2.1) 1 1 (fun i_ t ns_ as_ => .tuple #[.int .i64 t.1, .bool t.2.1]) (fun i_ t ns_ as_ => arena_Arena.D.flat i_.1.1 (arena_Arena.A.mk i_.1.2.1.l_b i_.1.2.1.l_c (na as_ 0) (nn ns_ 0) i_.1.2.1.m__p) t.2.2)

theorem S141 (k : Nat) : (C141 k).Sound Tryz.prog :=
  fn_sound mixed (C141 k) (n := 29) (rs := rsOf Tryz.prog 141) [] [0, 1, 2, 3] (gj (g2 (gI 6) (g2 (gB 7) (gO arena_Arena.D [0, 1, 2, 3]))) [nA arena_Arena.D [0, 1, 2, 3] (fun al => ([al.free_c], [al.free_b]))]) (fun i => (.s (.seg 2 []) (.s (.seg 2 []) (.condF (.s (.seg 2 []) (.s (.call K195 [.K 0, .K 1, .K 2, .K 3] [0, 1, 2, 3]) (.s (.seg 5 []) (.s (.seg 2 []) (.cond (.s (.seg 3 []) .ret) (.s (.seg 2 []) (.s (.bld 4 1 3) (.s (.seg 2 []) (.s (.call (K198 k) [.K 0, .K 1, .K 2, .K 3] [5, 0, 1, 2, 3]) (.s (.app 4 (.O 5)) (.s (.call (K197 k) [.K 0, .K 1, .K 2, .K 3, .O 4] [0, 1, 2, 3]) (.s (.seg 2 []) .ret)))))))))))))))) Tryz.func141 rfl rfl (by kernel_rfl) (fun _ => rfl) (fun i => by kernel_rfl) (fun i s => by kernel_rfl)

noncomputable def K141 (k : Nat) : SCon El Tryz.prog := ⟨C141 k, S141 k, Tryz.call141⟩

noncomputable abbrev C238p : List (PK El) := [pO arena_Arena.D, pI .i64, pI .i64]
noncomputable def C238 : Con El := mkCon 238 C238p (fun i_ => item_Swap i_.1.2.2 i_.2.1 i_.2.2.1) 0 0 (fun i_ t ns_ as_ => .tuple #[]) (fun i_ t ns_ as_ => arena_Arena.D.flat i_.1.1 i_.1.2.1 t)

theorem S238 : (C238).Sound Tryz.prog :=
  fn_sound mixed (C238) (n := 24) (rs := rsOf Tryz.prog 238) [] [0, 1, 2, 3] (gj (gO arena_Arena.D [0, 1, 2, 3]) []) (fun i => (.s (.seg 2 []) (.condF (.s (.seg 2 []) (.s (.call K204 [.K 0, .K 1, .K 2, .K 3] [0, 1, 2, 3]) (.s (.seg 2 []) (.s (.call K204 [.K 0, .K 1, .K 2, .K 3] [0, 1, 2, 3]) (.s (.seg 2 []) (.s (.seg 3 []) (.s (.call K229 [.K 0, .K 1, .K 2, .K 3] [0, 1, 2, 3]) (.s (.seg 3 []) (.s (.call K229 [.K 0, .K 1, .K 2, .K 3] [0, 1, 2, 3]) .leaf)))))))))))) Tryz.func238 rfl rfl (by kernel_rfl) (fun _ => rfl) (fun i => by kernel_rfl) (fun i s => by kernel_rfl)

noncomputable def K238 : SCon El Tryz.prog := ⟨C238, S238, Tryz.call238⟩

noncomputable abbrev C199p : List (PK El) := [pO arena_Arena.D, pI .i64, pI .i64]
noncomputable def C199 (k : Nat) : Con El := mkCon 199 C199p (fun i_ => skew_single k i_.1.2.2 i_.2.1 i_.2.2.1) 0 0 (fun i_ t ns_ as_ => .int .i64 t.1) (fun i_ t ns_ as_ => arena_Arena.D.flat i_.1.1 i_.1.2.1 t.2)

theorem S199 (k : Nat) : (C199 k).Sound Tryz.prog :=
  fn_sound mixed (C199 k) (n := 61) (rs := rsOf Tryz.prog 199) [] [0, 1, 2, 3] (gj (g2 (gI 6) (gO arena_Arena.D [0, 1, 2, 3])) []) (fun i => (.s (.seg 1 []) (.s (.seg 1 []) (.s (.seg 2 []) (.join (Int × arena_Arena) 0 0 (gj (g2 (gI 7) (gO arena_Arena.D [0, 1, 2, 3])) []) (fun st_ s_ ns_ as_ => match (g2 (gP 0) (gA arena_Arena.D [0, 1, 2, 3])) st_ with | some x_ => ([(7, .int .i64 s_.1)] ++ kp [0, 1, 2] st_, ka [] st_ ++ zipL [0, 1, 2, 3] (arena_Arena.D.flat (x_.1) (x_.2) s_.2)) | none => ([], [])) (.cond (.s (.seg 2 []) (.s (.call K204 [.K 0, .K 1, .K 2, .K 3] [0, 1, 2, 3]) (.s (.seg 1 []) .leaf))) .leaf) (.s (.seg 2 []) (.s (.call K161 [.K 0, .K 1, .K 2, .K 3] [0, 1, 2, 3]) (.s (.seg 1 []) (.join (Bool × arena_Arena) 0 0 (gj (g2 (gB 27) (gO arena_Arena.D [0, 1, 2, 3])) []) (fun st_ s_ ns_ as_ => match (g2 (gP 0) (gA arena_Arena.D [0, 1, 2, 3])) st_ with | some x_ => ([(27, .bool s_.1)] ++ kp [0, 1, 2, 7, 8] st_, ka [] st_ ++ zipL [0, 1, 2, 3] (arena_Arena.D.flat (x_.1) (x_.2) s_.2)) | none => ([], [])) (.s (.seg 3 []) (.split 21 (.s (.seg 6 []) .leaf) (.s (.seg 2 []) (.s (.call K161 [.K 0, .K 1, .K 2, .K 3] [0, 1, 2, 3]) (.s (.seg 3 []) .leaf))))) (.cond (.s (.seg 3 []) (.s (.call K139 [.K 0, .K 1, .K 2, .K 3] [0, 1, 2, 3]) (.s (.seg 2 []) (.s (.call K139 [.K 0, .K 1, .K 2, .K 3] [0, 1, 2, 3]) (.s (.seg 2 []) .ret))))) (.s (.seg 2 []) (.s (.call K204 [.K 0, .K 1, .K 2, .K 3] [0, 1, 2, 3]) (.s (.seg 1 []) (.s (.seg 4 []) (.s (.call (K234 k) [.K 0, .K 1, .K 2, .K 3] [0, 1, 2, 3]) (.s (.seg 1 []) (.s (.seg 3 []) (.s (.call (K218 k) [.K 0, .K 1, .K 2, .K 3] [0, 1, 2, 3]) (.join (arena_Arena) 0 0 (gj (gO arena_Arena.D [0, 1, 2, 3]) []) (fun st_ s_ ns_ as_ => match (g2 (gP 0) (gA arena_Arena.D [0, 1, 2, 3])) st_ with | some x_ => ([] ++ kp [0, 2, 9, 10] st_, ka [] st_ ++ zipL [0, 1, 2, 3] (arena_Arena.D.flat (x_.1) (x_.2) s_)) | none => ([], [])) (.cond (.s (.seg 3 []) (.s (.call K238 [.K 0, .K 1, .K 2, .K 3] [0, 1, 2, 3]) .leaf)) .leaf) (.s (.seg 3 []) (.s (.call K239 [.K 0, .K 1, .K 2, .K 3] [0, 1, 2, 3]) (.s (.seg 3 []) (.s (.call K139 [.K 0, .K 1, .K 2, .K 3] [0, 1, 2, 3]) (.s (.seg 2 []) .ret)))))))))))))))))))))))) Tryz.func199 rfl rfl (by kernel_rfl) (fun _ => rfl) (fun i => by kernel_rfl) (fun i s => by kernel_rfl)

noncomputable def K199 (k : Nat) : SCon El Tryz.prog := ⟨C199 k, S199 k, Tryz.call199⟩

theorem skew_single_ok {w0 w : World} {As : List HP} {k : Nat} {p_a_ : Nat} {al_a_ : arena_Arena.A} {a_ : arena_Arena} {r : Int} {n : Int} {t : Int × arena_Arena}  (hm : skew_single k a_ r n = some t) (H : St w0 (arena_Arena.R p_a_ al_a_ a_ :: As) w) :
    CallsR Tryz.prog 199 #[.pointer (some ⟨p_a_, 0, none⟩), .int .i64 r, .int .i64 n] w fun v w' => v = .int .i64 t.1 ∧ St w0 (arena_Arena.R p_a_ al_a_ t.2 :: As) w' := by
  replace H := (fs0 fun As => arena_Arena.D_st).1 H
  refine (S199 k ((p_a_, al_a_, a_), r, n, ()) t hm w0 w (As) rd0 H).mono ?_
  rintro v w' ⟨ns, as_, hn, ha, hv, H, hfx⟩
  obtain rfl := ls0 hn
  obtain rfl := ls0 ha
  refine ⟨hv, ?_⟩
  refine (fs0 fun As => arena_Arena.D_st).2 ?_
  exact H

noncomputable abbrev C142p : List (PK El) := [pO arena_Arena.D, pI .i64, pI .i64]
noncomputable def C142 (k : Nat) : Con El := mkCon 142 C142p (fun i_ => skew_Push k i_.1.2.2 i_.2.1 i_.2.2.1) 1 1 (fun i_ t ns_ as_ => .tuple #[.int .i64 t.1, .bool t.2.1]) (fun i_ t ns_ as_ => arena_Arena.D.flat i_.1.1 (arena_Arena.A.mk i_.1.2.1.l_b i_.1.2.1.l_c (na as_ 0) (nn ns_ 0) i_.1.2.1.m__p) t.2.2)

theorem S142 (k : Nat) : (C142 k).Sound Tryz.prog :=
  fn_sound mixed (C142 k) (n := 25) (rs := rsOf Tryz.prog 142) [] [0, 1, 2, 3] (gj (g2 (gI 6) (g2 (gB 7) (gO arena_Arena.D [0, 1, 2, 3]))) [nA arena_Arena.D [0, 1, 2, 3] (fun al => ([al.free_c], [al.free_b]))]) (fun i => (.s (.seg 2 []) (.s (.seg 2 []) (.condF (.s (.seg 2 []) (.s (.call K195 [.K 0, .K 1, .K 2, .K 3] [0, 1, 2, 3]) (.s (.seg 5 []) (.s (.seg 2 []) (.cond (.s (.seg 3 []) .ret) (.s (.seg 3 []) (.s (.call (K199 k) [.K 0, .K 1, .K 2, .K 3] [0, 1, 2, 3]) (.s (.seg 2 []) .ret)))))))))))) Tryz.func142 rfl rfl (by kernel_rfl) (fun _ => rfl) (fun i => by kernel_rfl) (fun i s => by kernel_rfl)

noncomputable def K142 (k : Nat) : SCon El Tryz.prog := ⟨C142 k, S142 k, Tryz.call142⟩

noncomputable abbrev C143p : List (PK El) := [pO arena_Arena.D, pI .i64, pI .i64]
noncomputable def C143 : Con El := mkCon 143 C143p (fun i_ => fib_Push i_.1.2.2 i_.2.1 i_.2.2.1) 0 0 (fun i_ t ns_ as_ => .tuple #[.int .i64 t.1, .bool t.2]) (fun i_ t ns_ as_ => arena_Arena.D.flat i_.1.1 i_.1.2.1 i_.1.2.2)

theorem S143 : (C143).Sound Tryz.prog := none_sound _ fun _ => rfl

noncomputable def K143 : SCon El Tryz.prog := ⟨C143, S143, Tryz.call143⟩

noncomputable abbrev C144p : List (PK El) := [pO arena_Arena.D, pI .i64, pI .i64]
noncomputable def C144 : Con El := mkCon 144 C144p (fun i_ => pairing_Push i_.1.2.2 i_.2.1 i_.2.2.1) 0 0 (fun i_ t ns_ as_ => .tuple #[.int .i64 t.1, .bool t.2]) (fun i_ t ns_ as_ => arena_Arena.D.flat i_.1.1 i_.1.2.1 i_.1.2.2)

theorem S144 : (C144).Sound Tryz.prog := none_sound _ fun _ => rfl

noncomputable def K144 : SCon El Tryz.prog := ⟨C144, S144, Tryz.call144⟩

noncomputable abbrev C110p : List (PK El) := [pI .i64, pO arena_Arena.D, pI .i64, pI .i64]
noncomputable def C110 (k : Nat) : Con El := mkCon 110 C110p (fun i_ => kind_Push k i_.1 i_.2.1.2.2 i_.2.2.1 i_.2.2.2.1) 1 1 (fun i_ t ns_ as_ => .tuple #[.int .i64 t.1, .bool t.2.1]) (fun i_ t ns_ as_ => arena_Arena.D.flat i_.2.1.1 (arena_Arena.A.mk i_.2.1.2.1.l_b i_.2.1.2.1.l_c (na as_ 0) (nn ns_ 0) i_.2.1.2.1.m__p) t.2.2)

theorem S110 (k : Nat) : (C110 k).Sound Tryz.prog :=
  fn_sound mixed (C110 k) (n := 52) (rs := rsOf Tryz.prog 110) [] [0, 1, 2, 3] (gj (g2 (gI 8) (g2 (gB 9) (gO arena_Arena.D [0, 1, 2, 3]))) [nA arena_Arena.D [0, 1, 2, 3] (fun al => ([al.free_c], [al.free_b]))]) (fun i => (.s (.seg 2 []) (.s (.seg 1 []) (.blk (.s (.seg 2 []) (.cond (.s (.seg 3 []) (.s (.call (K140 k) [.K 0, .K 1, .K 2, .K 3] [0, 1, 2, 3]) (.s (.seg 4 []) .ret))) (.s (.seg 2 []) (.cond (.s (.seg 3 []) (.s (.call (K141 k) [.K 0, .K 1, .K 2, .K 3] [0, 1, 2, 3]) (.s (.seg 4 []) .ret))) (.s (.seg 2 []) (.cond (.s (.seg 3 []) (.s (.call (K142 k) [.K 0, .K 1, .K 2, .K 3] [0, 1, 2, 3]) (.s (.seg 4 []) .ret))) (.s (.seg 2 []) (.cond (.s (.seg 3 []) (.s (.call K143 [.K 0, .K 1, .K 2, .K 3] [0, 1, 2, 3]) (.s (.seg 4 []) .ret))) (.s (.seg 2 []) (.cond (.s (.seg 3 []) (.s (.call K144 [.K 0, .K 1, .K 2, .K 3] [0, 1, 2, 3]) (.s (.seg 4 []) .ret))) (.s (.seg 3 []) .ret))))))))))))))) Tryz.func110 rfl rfl (by kernel_rfl) (fun _ => rfl) (fun i => by kernel_rfl) (fun i s => by kernel_rfl)

noncomputable def K110 (k : Nat) : SCon El Tryz.prog := ⟨C110 k, S110 k, Tryz.call110⟩

noncomputable abbrev C145p : List (PK El) := [pO pool_Pool_slots_thing.D]
noncomputable def C145 : Con El := mkCon 145 C145p (fun i_ => pool_Pool_slots_thing_Places i_.1.2.2) 0 0 (fun i_ t ns_ as_ => .int .i64 t) (fun i_ t ns_ as_ => pool_Pool_slots_thing.D.flat i_.1.1 i_.1.2.1 i_.1.2.2)

theorem S145 : (C145).Sound Tryz.prog :=
  fn_sound mixed (C145) (n := 7) (rs := rsOf Tryz.prog 145) [] [0, 1, 2] (gj (gI 2) []) (fun i => (.s (.seg 1 []) (.s (.seg 5 [.C 0 0]) .ret))) Tryz.func145 rfl rfl (by kernel_rfl) (fun _ => rfl) (fun i => by kernel_rfl) (fun i s => by kernel_rfl)

noncomputable def K145 : SCon El Tryz.prog := ⟨C145, S145, Tryz.call145⟩

noncomputable abbrev C146p : List (PK El) := [pO pool_Pool_slots_thing.D, pV slots_thing.dv slots_thing.val]
noncomputable def C146 : Con El := mkCon 146 C146p (fun i_ => pool_Pool_slots_thing_Take i_.1.2.2 i_.2.1) 2 2 (fun i_ t ns_ as_ => .tuple #[.agg #[.int .i64 t.1.At, .int .i64 t.1.Gen], .bool t.2.1]) (fun i_ t ns_ as_ => pool_Pool_slots_thing.D.flat i_.1.1 (pool_Pool_slots_thing.A.mk (na as_ 0) (nn ns_ 0) (na as_ 1) (nn ns_ 1)) t.2.2)

theorem S146 : (C146).Sound Tryz.prog :=
  fn_sound mixed (C146) (n := 81) (rs := rsOf Tryz.prog 146) [.C 2000 0, .C 2000 1] [0, 1, 2] (gj (g2 (gC 2000 0 2 api_Ref.dec) (g2 (gB 5) (gO pool_Pool_slots_thing.D [0, 1, 2]))) [nA pool_Pool_slots_thing.D [0, 1, 2] (fun al => ([al.l_c, al.free_c], [al.l_b, al.free_b]))]) (fun i => (.s (.new 3 []) (.s (.new 4 []) (.s (.seg 1 []) (.s (.seg 6 [.C 0 1]) (.s (.seg 7 [.C 0 2]) (.s (.seg 2 []) (.joinR (Int × pool_Pool_slots_thing) 2 2 (gj (g2 (gI 6) (gO pool_Pool_slots_thing.D [0, 1, 2])) [nA pool_Pool_slots_thing.D [0, 1, 2] (fun al => ([al.l_c, al.free_c], [al.l_b, al.free_b]))]) (fun st_ s_ ns_ as_ => match (gP 0) st_ with | some x_ => ([(6, .int .i64 s_.1)] ++ kp [0, 3, 4] st_, ka [4, 3] st_ ++ zipL [0, 1, 2] (pool_Pool_slots_thing.D.flat (x_) (pool_Pool_slots_thing.A.mk (na as_ 0) (nn ns_ 0) (na as_ 1) (nn ns_ 1)) s_.2)) | none => ([], [])) (.cond (.s (.seg 5 [.C 0 2]) (.s (.idx false 2 (.tmp 26) 2) (.s (.seg 3 [.A 2, .X 2 2 0]) (.s (.seg 6 [.C 0 2]) (.s (.cut false 2 none (some (.tmp 34)) 1003) (.s (.seg 3 [.W 1003]) (.s (.sto 0) (.s (.own 1003 2) .leaf)))))))) (.s (.seg 6 [.C 0 0]) (.cond (.s (.seg 1 []) (.s (.sto 4) (.s (.seg 1 []) (.rk [(4, 2000), (2000, 92000)] .ret)))) (.s (.seg 6 [.C 0 1]) (.s (.bld 6 3 275) (.s (.app 1 (.O 6)) (.s (.seg 2 []) (.s (.sto 0) .leaf)))))))) (.s (.seg 5 [.C 0 1]) (.s (.idx false 1 (.tmp 59) 4) (.s (.seg 2 [.A 4]) (.s (.seg 7 [.X 4 1 0]) (.s (.sset 1 4 0) (.s (.rlc 4 0 1) (.drw (.q [0, 1, 2, 3, 4] [.C 3 0, .C 3 1, .C 3 2] (.a 5 (.sset 1 4 1) [.C 3 0, .C 3 1, .C 3 2] (.s (.rlc 4 0 1) (.q [6, 7] [] (.a 8 (.sset 1 4 2) [] (.s (.rlc 4 0 1) (.s (.seg 6 [.X 4 1 0]) (.s (.sto 4) (.s (.seg 1 []) (.rk [(4, 2000), (2000, 92000)] .ret))))))))))))))))))))))))) Tryz.func146 rfl rfl (by kernel_rfl) (fun _ => rfl) (fun i => by kernel_rfl) (fun i s => by kernel_rfl)

noncomputable def K146 : SCon El Tryz.prog := ⟨C146, S146, Tryz.call146⟩

noncomputable abbrev C111p : List (PK El) := [pO slots_Table.D, pV api_Ref.dv api_Ref.val, pI .i64]
noncomputable def C111 : Con El := mkCon 111 C111p (fun i_ => slots_Table_Put i_.1.2.2 i_.2.1 i_.2.2.1) 2 2 (fun i_ t ns_ as_ => .tuple #[.agg #[.int .i64 t.1.At, .int .i64 t.1.Gen], .int .i64 t.2.1]) (fun i_ t ns_ as_ => slots_Table.D.flat i_.1.1 (slots_Table.A.mk i_.1.2.1.heaps_p i_.1.2.1.heaps_a i_.1.2.1.items_p (pool_Pool_slots_thing.A.mk (na as_ 0) (nn ns_ 0) (na as_ 1) (nn ns_ 1)) i_.1.2.1.at__p) t.2.2)

theorem S111 : (C111).Sound Tryz.prog :=
  fn_sound mixed (C111) (n := 70) (rs := rsOf Tryz.prog 111) [.C 2000 0, .C 2000 1] [0, 1, 2, 3, 4, 5, 6, 7] (gj (g2 (gC 2000 0 2 api_Ref.dec) (g2 (gI 7) (gO slots_Table.D [0, 1, 2, 3, 4, 5, 6, 7]))) [nA slots_Table.D [0, 1, 2, 3, 4, 5, 6, 7] (fun al => ([al.items_a.l_c, al.items_a.free_c], [al.items_a.l_b, al.items_a.free_b]))]) (fun i => (.s (.new 8 []) (.s (.new 9 []) (.s (.seg 1 []) (.jg (Int) 0 0 (gj (gI 9) []) (fun st_ s_ ns_ as_ => ([(9, .int .i64 s_)] ++ kp [0, 2, 4, 6] st_, ka [9, 8, 0, 1, 2, 3, 4, 5, 6, 7] st_)) (.drw (.q [0, 1, 2, 3, 4] [.C 0 0, .C 8 0, .C 8 1] (.alt2 5 (.call K124 [.K 1, .K 2, .K 3] [1, 2, 3]) [] (.q [6, 7, 8] [] (.a 9 (.new 11 []) [] (.a 10 (.sto 11) [] (.q [11] [] .leaf)))) 9 (.new 12 []) [.C 8 0, .C 8 1, .C 0 0] (.a 5 (.call K124 [.K 1, .K 2, .K 3] [1, 2, 3]) [] (.q [6, 7, 8] [] (.a 10 (.sto 12) [] (.q [11] [] .leaf))))))) (.s (.seg 2 []) (.cond (.s (.seg 2 []) (.s (.sto 9) (.s (.seg 1 []) (.rk [(9, 2000), (2000, 92000)] .ret)))) (.s (.seg 5 [.C 0 2]) (.s (.mget 7 0 3 (KeyOk.int rfl) (api_Ref.mk 0 0)) (.s (.seg 3 []) (.s (.new 13 []) (.s (.sto 13) (.s (.seg 1 []) (.blk (.drw (.q [0, 1, 2, 3, 5, 6, 7, 8] [.C 0 1, .C 0 1] (.a 4 (.call K137 [.K 4, .K 5, .K 6] [4, 5, 6]) [.C 0 1] (.a 9 (.call K145 [.K 4, .K 5, .K 6] [4, 5, 6]) [] (.q [10, 11] [] (.cond (.s (.seg 1 []) (.s (.sto 9) (.s (.seg 1 []) (.rk [(9, 2000), (2000, 92000)] .ret)))) (.s (.seg 2 []) (.cond (.s (.seg 1 []) (.s (.sto 9) (.s (.seg 1 []) (.rk [(9, 2000), (2000, 92000)] .ret)))) (.jg (api_Ref × slots_Table) 3 2 (gj (g2 (gC 16 0 2 api_Ref.dec) (gO slots_Table.D [0, 1, 2, 3, 4, 5, 6, 7])) [nPk 16, nA slots_Table.D [0, 1, 2, 3, 4, 5, 6, 7] (fun al => ([al.items_a.l_c, al.items_a.free_c], [al.items_a.l_b, al.items_a.free_b]))]) (fun st_ s_ ns_ as_ => match (g2 (gP 0) (gA slots_Table.D [0, 1, 2, 3, 4, 5, 6, 7])) st_ with | some x_ => ([(12, .pointer (some ⟨(nn ns_ 0), 0, none⟩))] ++ kp [0, 2, 6] st_, ka [9] st_ ++ zipL [16] [.blk (nn ns_ 0) 31 [.int .i64 s_.1.At, .int .i64 s_.1.Gen]] ++ zipL [0, 1, 2, 3, 4, 5, 6, 7] (slots_Table.D.flat (x_.1) (slots_Table.A.mk (x_.2.heaps_p) (x_.2.heaps_a) (x_.2.items_p) (pool_Pool_slots_thing.A.mk (na as_ 0) (nn ns_ 1) (na as_ 1) (nn ns_ 2)) (x_.2.at__p)) s_.2)) | none => ([], [])) (.drw (.q [0, 1, 2, 3, 4, 5, 6] [.C 0 1, .C 8 0, .C 8 1] (.alt2 7 (.call K146 [.K 4, .K 5, .K 6] [4, 5, 6]) [] (.q [8, 9, 10] [] (.a 11 (.new 17 []) [] (.a 12 (.sto 17) [] (.q [13] [] (.rk [(17, 16), (16, 90016)] .leaf))))) 11 (.new 18 []) [.C 8 0, .C 8 1, .C 0 1] (.a 7 (.call K146 [.K 4, .K 5, .K 6] [4, 5, 6]) [] (.q [8, 9, 10] [] (.a 12 (.sto 18) [] (.q [13] [] (.rk [(18, 16), (16, 90016)] .leaf)))))))) (.drw (.q [0, 1, 2, 3, 4, 5] [.C 0 2, .C 16 0, .C 16 1] (.a 6 (.mput 7 0 3 (KeyOk.int rfl)) [] (.s (.seg 1 [.C 16 0, .C 16 1]) (.s (.sto 9) (.s (.seg 1 []) (.rk [(9, 2000), (2000, 92000)] .ret)))))))))))))))))))))))))))))) Tryz.func111 rfl rfl (by kernel_rfl) (fun _ => rfl) (fun i => by kernel_rfl) (fun i s => by kernel_rfl)

noncomputable def K111 : SCon El Tryz.prog := ⟨C111, S111, Tryz.call111⟩

noncomputable abbrev C147p : List (PK El) := [pO pool_Pool_slots_heap.D, pV api_Ref.dv api_Ref.val, pV slots_heap.dv slots_heap.val]
noncomputable def C147 : Con El := mkCon 147 C147p (fun i_ => pool_Pool_slots_heap_Set i_.1.2.2 i_.2.1 i_.2.2.1) 0 0 (fun i_ t ns_ as_ => .int .i64 t.1) (fun i_ t ns_ as_ => pool_Pool_slots_heap.D.flat i_.1.1 i_.1.2.1 t.2)

theorem S147 : (C147).Sound Tryz.prog :=
  fn_sound mixed (C147) (n := 22) (rs := rsOf Tryz.prog 147) [] [0, 1, 2] (gj (g2 (gI 6) (gO pool_Pool_slots_heap.D [0, 1, 2])) []) (fun i => (.s (.new 3 []) (.s (.new 4 []) (.s (.seg 1 []) (.s (.seg 2 [.C 3 0, .C 3 1]) (.s (.call K179 [.K 0, .K 1, .K 2] [0, 1, 2]) (.eo 12 0 1 0 (.s (.seg 5 []) (.s (.seg 2 []) (.join (Unit) 0 0 (gj gU []) (fun st_ s_ ns_ as_ => ([] ++ kp [8] st_, ka [0, 1, 2] st_)) (.cond .dead .leaf) (.s (.seg 2 []) .ret)))) (.s (.seg 5 []) (.s (.seg 2 []) (.join (pool_Pool_slots_heap) 0 0 (gj (gO pool_Pool_slots_heap.D [0, 1, 2]) []) (fun st_ s_ ns_ as_ => match (g2 (gP 0) (gA pool_Pool_slots_heap.D [0, 1, 2])) st_ with | some x_ => ([] ++ kp [8] st_, ka [] st_ ++ zipL [0, 1, 2] (pool_Pool_slots_heap.D.flat (x_.1) (x_.2) s_)) | none => ([], [])) (.cond (.s (.seg 4 [.C 4 0, .C 4 1, .C 4 2]) (.s (.sset 1 0 2) (.s (.rlc 0 0 1) .leaf))) .leaf) (.s (.seg 2 []) .ret))))))))))) Tryz.func147 rfl rfl (by kernel_rfl) (fun _ => rfl) (fun i => by kernel_rfl) (fun i s => by kernel_rfl)

noncomputable def K147 : SCon El Tryz.prog := ⟨C147, S147, Tryz.call147⟩

noncomputable abbrev C112p : List (PK El) := [pO slots_Table.D, pV api_Ref.dv api_Ref.val, pI .i64, pI .i64]
noncomputable def C112 : Con El := mkCon 112 C112p (fun i_ => slots_Table_Root i_.1.2.2 i_.2.1 i_.2.2.1 i_.2.2.2.1) 0 0 (fun i_ t ns_ as_ => .int .i64 t.1) (fun i_ t ns_ as_ => slots_Table.D.flat i_.1.1 i_.1.2.1 t.2)

theorem S112 : (C112).Sound Tryz.prog :=
  fn_sound mixed (C112) (n := 34) (rs := rsOf Tryz.prog 112) [] [0, 1, 2, 3, 4, 5, 6, 7] (gj (g2 (gI 8) (gO slots_Table.D [0, 1, 2, 3, 4, 5, 6, 7])) []) (fun i => (.s (.new 8 []) (.s (.seg 1 []) (.jg (slots_heap × Int) 1 0 (gj (g2 (gC 11 0 3 slots_heap.dec) (gI 10)) [nPk 11]) (fun st_ s_ ns_ as_ => ([(9, .pointer (some ⟨(nn ns_ 0), 0, none⟩)), (10, .int .i64 s_.2)] ++ kp [0, 2, 3, 5] st_, ka [8, 0, 1, 2, 3, 4, 5, 6, 7] st_ ++ zipL [11] [.blk (nn ns_ 0) 196 [.int .i64 s_.1.kind, .int .i64 s_.1.root, .int .i64 s_.1.n]])) (.drw (.q [0, 1, 2, 3, 4] [.C 0 0, .C 8 0, .C 8 1] (.alt2 5 (.call K124 [.K 1, .K 2, .K 3] [1, 2, 3]) [] (.q [6, 7, 8] [] (.a 9 (.new 12 []) [] (.a 10 (.sto 12) [] (.q [11] [] (.rk [(12, 11), (11, 90011)] .leaf))))) 9 (.new 13 []) [.C 8 0, .C 8 1, .C 0 0] (.a 5 (.call K124 [.K 1, .K 2, .K 3] [1, 2, 3]) [] (.q [6, 7, 8] [] (.a 10 (.sto 13) [] (.q [11] [] (.rk [(13, 11), (11, 90011)] .leaf)))))))) (.s (.seg 2 []) (.join (slots_Table) 0 0 (gj (gO slots_Table.D [0, 1, 2, 3, 4, 5, 6, 7]) []) (fun st_ s_ ns_ as_ => match (g2 (gP 0) (gA slots_Table.D [0, 1, 2, 3, 4, 5, 6, 7])) st_ with | some x_ => ([] ++ kp [10] st_, ka [] st_ ++ zipL [0, 1, 2, 3, 4, 5, 6, 7] (slots_Table.D.flat (x_.1) (x_.2) s_)) | none => ([], [])) (.cond (.s (.seg 3 []) (.s (.sto 11) (.s (.seg 1 []) (.s (.sto 11) (.drw (.q [0, 1, 2, 3, 4, 5] [.C 0 0, .C 8 0, .C 8 1, .C 11 0, .C 11 1, .C 11 2] (.a 6 (.call K147 [.K 1, .K 2, .K 3] [1, 2, 3]) [] .leaf))))))) .leaf) (.s (.seg 2 []) .ret))))))) Tryz.func112 rfl rfl (by kernel_rfl) (fun _ => rfl) (fun i => by kernel_rfl) (fun i s => by kernel_rfl)

noncomputable def K112 : SCon El Tryz.prog := ⟨C112, S112, Tryz.call112⟩

noncomputable abbrev C78p : List (PK El) := [pO pq_Queues.D, pV api_Call.dv api_Call.val]
noncomputable def C78 (k : Nat) : Con El := mkCon 78 C78p (fun i_ => pq_Queues_insert k i_.1.2.2 i_.2.1) 10 6 (fun i_ t ns_ as_ => .agg #[.int .i64 t.1.Why, .int .i64 t.1.Heap.At, .int .i64 t.1.Heap.Gen, .int .i64 t.1.Item.At, .int .i64 t.1.Item.Gen, .int .i64 t.1.Entry.Key, .int .i64 t.1.Entry.Serial, .int .i64 t.1.N]) (fun i_ t ns_ as_ => pq_Queues.D.flat i_.1.1 (pq_Queues.A.mk i_.1.2.1.a__p (arena_Arena.A.mk (na as_ 0) (nn ns_ 0) (na as_ 1) (nn ns_ 1) (nn ns_ 2)) i_.1.2.1.t__p (slots_Table.A.mk (nn ns_ 3) (pool_Pool_slots_heap.A.mk (na as_ 2) (nn ns_ 4) (na as_ 3) (nn ns_ 5)) (nn ns_ 6) (pool_Pool_slots_thing.A.mk (na as_ 4) (nn ns_ 7) (na as_ 5) (nn ns_ 8)) (nn ns_ 9)) i_.1.2.1.entries_p) t.2)

theorem S78 (k : Nat) : (C78 k).Sound Tryz.prog :=
  fn_sound mixed (C78 k) (n := 110) (rs := rsOf Tryz.prog 78) [.C 2000 0, .C 2000 1, .C 2000 2, .C 2000 3, .C 2000 4, .C 2000 5, .C 2000 6, .C 2000 7] [0, 1, 2, 3, 4, 5, 6, 7, 8, 9, 10, 11, 12, 13] (gj (g2 (gC 2000 0 8 api_Answer.dec) (gO pq_Queues.D [0, 1, 2, 3, 4, 5, 6, 7, 8, 9, 10, 11, 12, 13])) [nA pq_Queues.D [0, 1, 2, 3, 4, 5, 6, 7, 8, 9, 10, 11, 12, 13] (fun al => ([al.a__a.l_c, al.a__a.free_c, al.a__a.m__p, al.t__a.heaps_p, al.t__a.heaps_a.l_c, al.t__a.heaps_a.free_c, al.t__a.items_p, al.t__a.items_a.l_c, al.t__a.items_a.free_c, al.t__a.at__p], [al.a__a.l_b, al.a__a.free_b, al.t__a.heaps_a.l_b, al.t__a.heaps_a.free_b, al.t__a.items_a.l_b, al.t__a.items_a.free_b]))]) (fun i => (.s (.new 14 []) (.s (.new 15 []) (.drw (.q [0, 1, 2, 3, 4, 5] [.C 0 2, .C 14 2, .C 14 3] (.a 6 (.call K83 [.K 5, .K 6, .K 7, .K 8, .K 9, .K 10, .K 11, .K 12] [5, 6, 7, 8, 9, 10, 11, 12]) [] (.q [7, 8, 9, 10, 11, 12, 13, 14, 15] [] (.blk (.s (.seg 3 []) (.cond (.s (.seg 1 []) (.s (.call K85 [] []) (.s (.sto 15) (.rk [(15, 2000), (2000, 92000)] .ret)))) (.drw (.q [0, 1, 2, 3, 5, 6, 7, 8] [.C 0 2, .C 0 0] (.a 4 (.call K108 [.K 5, .K 6, .K 7, .K 8, .K 9, .K 10, .K 11, .K 12] [5, 6, 7, 8, 9, 10, 11, 12]) [.C 0 0] (.q [9, 10] [] (.cond (.s (.call K85 [] []) (.s (.sto 15) (.rk [(15, 2000), (2000, 92000)] .ret))) (.drw (.q [0, 1, 2, 3, 4, 5, 6] [.C 14 8, .C 0 4] (.a 7 (.new 17 []) [.C 0 4, .C 14 8] (.a 8 (.sto 17) [] (.drw (.q [0, 1, 2, 3, 4, 5, 6, 7] [.C 0 1, .C 17 0, .C 17 1] (.a 8 (.call K109 [.K 1, .K 2, .K 3, .K 4] [1, 2, 3, 4]) [] (.q [9, 10, 11, 12, 13] [] (.s (.seg 7 [.C 0 1]) (.s (.call (K110 k) [.K 1, .K 2, .K 3, .K 4] [1, 2, 3, 4]) (.s (.seg 4 []) (.jg (api_Ref × pq_Queues) 8 4 (gj (g2 (gC 20 0 2 api_Ref.dec) (gO pq_Queues.D [0, 1, 2, 3, 4, 5, 6, 7, 8, 9, 10, 11, 12, 13])) [nPk 20, nA pq_Queues.D [0, 1, 2, 3, 4, 5, 6, 7, 8, 9, 10, 11, 12, 13] (fun al => ([al.t__a.heaps_p, al.t__a.heaps_a.l_c, al.t__a.heaps_a.free_c, al.t__a.items_p, al.t__a.items_a.l_c, al.t__a.items_a.free_c, al.t__a.at__p], [al.t__a.heaps_a.l_b, al.t__a.heaps_a.free_b, al.t__a.items_a.l_b, al.t__a.items_a.free_b]))]) (fun st_ s_ ns_ as_ => match (g2 (gP 0) (gA pq_Queues.D [0, 1, 2, 3, 4, 5, 6, 7, 8, 9, 10, 11, 12, 13])) st_ with | some x_ => ([(12, .pointer (some ⟨(nn ns_ 0), 0, none⟩))] ++ kp [0, 3, 4, 6, 7, 9] st_, ka [17, 15, 14] st_ ++ zipL [20] [.blk (nn ns_ 0) 31 [.int .i64 s_.1.At, .int .i64 s_.1.Gen]] ++ zipL [0, 1, 2, 3, 4, 5, 6, 7, 8, 9, 10, 11, 12, 13] (pq_Queues.D.flat (x_.1) (pq_Queues.A.mk (x_.2.a__p) (x_.2.a__a) (x_.2.t__p) (slots_Table.A.mk (nn ns_ 1) (pool_Pool_slots_heap.A.mk (na as_ 0) (nn ns_ 2) (na as_ 1) (nn ns_ 3)) (nn ns_ 4) (pool_Pool_slots_thing.A.mk (na as_ 2) (nn ns_ 5) (na as_ 3) (nn ns_ 6)) (nn ns_ 7)) (x_.2.entries_p)) s_.2)) | none => ([], [])) (.drw (.q [0, 1, 2, 3, 4, 5, 6] [.C 0 2, .C 14 2, .C 14 3] (.alt2 7 (.call K111 [.K 5, .K 6, .K 7, .K 8, .K 9, .K 10, .K 11, .K 12] [5, 6, 7, 8, 9, 10, 11, 12]) [] (.q [8, 9, 10] [] (.a 11 (.new 21 []) [] (.a 12 (.sto 21) [] (.q [13] [] (.rk [(21, 20), (20, 90020)] .leaf))))) 11 (.new 22 []) [.C 14 2, .C 14 3, .C 0 2] (.a 7 (.call K111 [.K 5, .K 6, .K 7, .K 8, .K 9, .K 10, .K 11, .K 12] [5, 6, 7, 8, 9, 10, 11, 12]) [] (.q [8, 9, 10] [] (.a 12 (.sto 22) [] (.q [13] [] (.rk [(22, 20), (20, 90020)] .leaf)))))))) (.drw (.q [0, 1, 2, 3, 4, 5, 6, 7, 8] [.C 0 2, .C 14 2, .C 14 3] (.a 9 (.call K112 [.K 5, .K 6, .K 7, .K 8, .K 9, .K 10, .K 11, .K 12] [5, 6, 7, 8, 9, 10, 11, 12]) [] (.drw (.q [0, 1, 2, 3, 4, 5] [.C 0 3, .C 20 0, .C 20 1, .C 17 0, .C 17 1] (.a 6 (.mput 13 1 31 api_Ref.key_ok) [] (.s (.seg 7 [.C 0 4]) (.s (.sto 0) (.s (.seg 3 [.C 20 0, .C 20 1, .C 17 0, .C 17 1]) (.s (.sto 15) (.rk [(15, 2000), (2000, 92000)] .ret)))))))))))))))))))))))))))))))))))))) Tryz.func78 rfl rfl (by kernel_rfl) (fun _ => rfl) (fun i => by kernel_rfl) (fun i s => by kernel_rfl)

noncomputable def K78 (k : Nat) : SCon El Tryz.prog := ⟨C78 k, S78 k, Tryz.call78⟩

noncomputable abbrev C148p : List (PK El) := [pO arena_Arena.D, pI .i64]
noncomputable def C148 : Con El := mkCon 148 C148p (fun i_ => leftist_Min i_.1.2.2 i_.2.1) 0 0 (fun i_ t ns_ as_ => .int .i64 t.1) (fun i_ t ns_ as_ => arena_Arena.D.flat i_.1.1 i_.1.2.1 t.2)

theorem S148 : (C148).Sound Tryz.prog :=
  fn_sound mixed (C148) (n := 10) (rs := rsOf Tryz.prog 148) [] [0, 1, 2, 3] (gj (g2 (gI 4) (gO arena_Arena.D [0, 1, 2, 3])) []) (fun i => (.s (.seg 1 []) (.s (.seg 2 []) (.condF (.s (.seg 2 []) (.s (.call K204 [.K 0, .K 1, .K 2, .K 3] [0, 1, 2, 3]) (.s (.seg 1 []) .ret))))))) Tryz.func148 rfl rfl (by kernel_rfl) (fun _ => rfl) (fun i => by kernel_rfl) (fun i s => by kernel_rfl)

noncomputable def K148 : SCon El Tryz.prog := ⟨C148, S148, Tryz.call148⟩

noncomputable abbrev C205p : List (PK El) := [pO arena_Arena.D, pR 1]
noncomputable def C205 (k : Nat) : Con El := mkCon 205 C205p (fun i_ => trees_Best k i_.1.2.2 i_.2.1.2.2) 0 0 (fun i_ t ns_ as_ => .int .i64 t.1) (fun i_ t ns_ as_ => arena_Arena.D.flat i_.1.1 i_.1.2.1 t.2)

noncomputable abbrev C205r (k : Nat) (i : Ins C205p) : Kn El → VC (C205 k).T := retC Tryz.prog (C205 k) (rsOf Tryz.prog 205) [] [0, 1, 2, 3] (gj (g2 (gI 4) (gO arena_Arena.D [0, 1, 2, 3])) []) i

noncomputable def C205l0 (i_ : Ins C205p) : BCon El (Int × arena_Arena) := ⟨nav [1, 1, 0, 1] (bodyOf Tryz.prog 205), Int, Int × Int × arena_Arena, Int × arena_Arena, Int × arena_Arena, fun u => .inr u, fun _ _ => none, fun x_ => [(0, ⟨1, i_.2.1.1, i_.2.1.2.1, i_.2.1.2.2⟩)], fun x_ v_ ns_ as_ => [(0, .pointer (some ⟨i_.1.1, 0, none⟩)), (5, .int .i64 v_.1), (8, .slice i_.2.1.1 i_.2.1.2.2.length i_.2.1.2.1), (9, .int .i64 (x_)), (10, .int .i64 v_.2.1)], fun x_ v_ ns_ as_ => zipL [0, 1, 2, 3] (arena_Arena.D.flat i_.1.1 i_.1.2.1 v_.2.2), 0, 0, fun x_ u_ ns_ as_ => [(5, .int .i64 u_.1)], fun x_ u_ ns_ as_ => zipL [0, 1, 2, 3] (arena_Arena.D.flat i_.1.1 i_.1.2.1 u_.2)⟩

noncomputable def C205l0g (k : Nat) (i_ : Ins C205p) : Nat → (C205l0 i_).X → (C205l0 i_).V → Option (C205l0 i_).W := fun m_ (x_ : Int) (v_ : Int × Int × arena_Arena) => trees_Best_l0 (x_) i_.2.1.2.2 m_ v_.1 v_.2.1 v_.2.2

theorem C205l0s (k : Nat) (i : Ins C205p) (m : Nat) : ((C205l0 i).at (C205l0g k i) m).Sound Tryz.prog 205 25 (C205r k i) :=
  loop_sound mixed (C205l0 i) (id := 0) (body := nav [1, 1, 0, 1, 0, 0] (bodyOf Tryz.prog 205)) (C205l0g k i) (fun _ => none) (fun u => u) (gj (g2 (gI 5) (g2 (gI 10) (gO arena_Arena.D [0, 1, 2, 3]))) []) (gj (g2 (gI 5) (gO arena_Arena.D [0, 1, 2, 3])) []) (fun m => (.s (.seg 1 []) (.cond (.join (Int × arena_Arena) 0 0 (gj (g2 (gI 5) (gO arena_Arena.D [0, 1, 2, 3])) []) (fun st_ s_ ns_ as_ => match (g2 (gP 0) (gA arena_Arena.D [0, 1, 2, 3])) st_ with | some x_ => ([(5, .int .i64 s_.1)] ++ kp [0, 8, 9, 10] st_, ka [] st_ ++ zipL [0, 1, 2, 3] (arena_Arena.D.flat (x_.1) (x_.2) s_.2)) | none => ([], [])) (.blk (.s (.idx true 0 (.tmp 10) 5) (.s (.seg 3 [.A 5, .R 5 0]) (.join (Bool × arena_Arena) 0 0 (gj (g2 (gB 21) (gO arena_Arena.D [0, 1, 2, 3])) []) (fun st_ s_ ns_ as_ => match (g2 (gP 0) (gA arena_Arena.D [0, 1, 2, 3])) st_ with | some x_ => ([(21, .bool s_.1)] ++ kp [0, 5, 7, 8, 9, 10] st_, ka [] st_ ++ zipL [0, 1, 2, 3] (arena_Arena.D.flat (x_.1) (x_.2) s_.2)) | none => ([], [])) (.s (.seg 3 []) (.split 16 (.s (.seg 5 []) .leaf) (.s (.seg 3 []) (.s (.call (K218 m) [.K 0, .K 1, .K 2, .K 3] [0, 1, 2, 3]) (.s (.seg 1 []) .leaf))))) (.cond (.s (.seg 2 []) .leaf) .leaf))))) (.s (.seg 2 []) .back)) .leaf))) (by kernel_rfl) (fun _ _ => rfl) (fun r y h => by cases h) (fun u => rfl) (fun m x v n1 n2 => by kernel_rfl) (fun m x v n1 n2 s => by kernel_rfl) m

theorem S205 (k : Nat) : (C205 k).Sound Tryz.prog :=
  fn_sound mixed (C205 k) (n := 25) (rs := rsOf Tryz.prog 205) [] [0, 1, 2, 3] (gj (g2 (gI 4) (gO arena_Arena.D [0, 1, 2, 3])) []) (fun i => (.s (.seg 1 []) (.s (.seg 1 []) (.s (.seg 3 []) (.loop ⟨(C205l0 i).at (C205l0g k i) k, C205l0s k i k⟩ (gl (gI 9) (g2 (gI 5) (g2 (gI 10) (gO arena_Arena.D [0, 1, 2, 3]))) []) (.s (.seg 2 []) .ret)))))) Tryz.func205 rfl rfl (by kernel_rfl) (fun _ => rfl) (fun i => by kernel_rfl) (fun i s => by kernel_rfl)

noncomputable def K205 (k : Nat) : SCon El Tryz.prog := ⟨C205 k, S205 k, Tryz.call205⟩

noncomputable abbrev C149p : List (PK El) := [pO arena_Arena.D, pI .i64]
noncomputable def C149 (k : Nat) : Con El := mkCon 149 C149p (fun i_ => binomial_Min k i_.1.2.2 i_.2.1) 0 0 (fun i_ t ns_ as_ => .int .i64 t.1) (fun i_ t ns_ as_ => arena_Arena.D.flat i_.1.1 i_.1.2.1 t.2)

theorem S149 (k : Nat) : (C149 k).Sound Tryz.prog :=
  fn_sound mixed (C149 k) (n := 14) (rs := rsOf Tryz.prog 149) [] [0, 1, 2, 3] (gj (g2 (gI 4) (gO arena_Arena.D [0, 1, 2, 3])) []) (fun i => (.s (.seg 1 []) (.s (.seg 2 []) (.condF (.s (.seg 4 []) (.s (.call (K198 k) [.K 0, .K 1, .K 2, .K 3] [4, 0, 1, 2, 3]) (.s (.call (K205 k) [.K 0, .K 1, .K 2, .K 3, .O 4] [0, 1, 2, 3]) (.s (.call K204 [.K 0, .K 1, .K 2, .K 3] [0, 1, 2, 3]) (.s (.seg 1 []) .ret))))))))) Tryz.func149 rfl rfl (by kernel_rfl) (fun _ => rfl) (fun i => by kernel_rfl) (fun i s => by kernel_rfl)

noncomputable def K149 (k : Nat) : SCon El Tryz.prog := ⟨C149 k, S149 k, Tryz.call149⟩

noncomputable abbrev C150p : List (PK El) := [pO arena_Arena.D, pI .i64]
noncomputable def C150 (k : Nat) : Con El := mkCon 150 C150p (fun i_ => skew_Min k i_.1.2.2 i_.2.1) 0 0 (fun i_ t ns_ as_ => .int .i64 t.1) (fun i_ t ns_ as_ => arena_Arena.D.flat i_.1.1 i_.1.2.1 t.2)

theorem S150 (k : Nat) : (C150 k).Sound Tryz.prog :=
  fn_sound mixed (C150 k) (n := 14) (rs := rsOf Tryz.prog 150) [] [0, 1, 2, 3] (gj (g2 (gI 4) (gO arena_Arena.D [0, 1, 2, 3])) []) (fun i => (.s (.seg 1 []) (.s (.seg 2 []) (.condF (.s (.seg 4 []) (.s (.call (K198 k) [.K 0, .K 1, .K 2, .K 3] [4, 0, 1, 2, 3]) (.s (.call (K205 k) [.K 0, .K 1, .K 2, .K 3, .O 4] [0, 1, 2, 3]) (.s (.call K204 [.K 0, .K 1, .K 2, .K 3] [0, 1, 2, 3]) (.s (.seg 1 []) .ret))))))))) Tryz.func150 rfl rfl (by kernel_rfl) (fun _ => rfl) (fun i => by kernel_rfl) (fun i s => by kernel_rfl)

noncomputable def K150 (k : Nat) : SCon El Tryz.prog := ⟨C150 k, S150 k, Tryz.call150⟩

noncomputable abbrev C151p : List (PK El) := [pO arena_Arena.D, pI .i64]
noncomputable def C151 : Con El := mkCon 151 C151p (fun i_ => fib_Min i_.1.2.2 i_.2.1) 0 0 (fun i_ t ns_ as_ => .int .i64 t) (fun i_ t ns_ as_ => arena_Arena.D.flat i_.1.1 i_.1.2.1 i_.1.2.2)

theorem S151 : (C151).Sound Tryz.prog := none_sound _ fun _ => rfl

noncomputable def K151 : SCon El Tryz.prog := ⟨C151, S151, Tryz.call151⟩

noncomputable abbrev C152p : List (PK El) := [pO arena_Arena.D, pI .i64]
noncomputable def C152 : Con El := mkCon 152 C152p (fun i_ => pairing_Min i_.1.2.2 i_.2.1) 0 0 (fun i_ t ns_ as_ => .int .i64 t) (fun i_ t ns_ as_ => arena_Arena.D.flat i_.1.1 i_.1.2.1 i_.1.2.2)

theorem S152 : (C152).Sound Tryz.prog := none_sound _ fun _ => rfl

noncomputable def K152 : SCon El Tryz.prog := ⟨C152, S152, Tryz.call152⟩

noncomputable abbrev C114p : List (PK El) := [pI .i64, pO arena_Arena.D, pI .i64]
noncomputable def C114 (k : Nat) : Con El := mkCon 114 C114p (fun i_ => kind_Min k i_.1 i_.2.1.2.2 i_.2.2.1) 0 0 (fun i_ t ns_ as_ => .int .i64 t.1) (fun i_ t ns_ as_ => arena_Arena.D.flat i_.2.1.1 i_.2.1.2.1 t.2)

theorem S114 (k : Nat) : (C114 k).Sound Tryz.prog :=
  fn_sound mixed (C114 k) (n := 33) (rs := rsOf Tryz.prog 114) [] [0, 1, 2, 3] (gj (g2 (gI 6) (gO arena_Arena.D [0, 1, 2, 3])) []) (fun i => (.s (.seg 1 []) (.s (.seg 1 []) (.blk (.s (.seg 2 []) (.cond (.s (.seg 2 []) (.s (.call K148 [.K 0, .K 1, .K 2, .K 3] [0, 1, 2, 3]) (.s (.seg 1 []) .ret))) (.s (.seg 2 []) (.cond (.s (.seg 2 []) (.s (.call (K149 k) [.K 0, .K 1, .K 2, .K 3] [0, 1, 2, 3]) (.s (.seg 1 []) .ret))) (.s (.seg 2 []) (.cond (.s (.seg 2 []) (.s (.call (K150 k) [.K 0, .K 1, .K 2, .K 3] [0, 1, 2, 3]) (.s (.seg 1 []) .ret))) (.s (.seg 2 []) (.cond (.s (.seg 2 []) (.s (.call K151 [.K 0, .K 1, .K 2, .K 3] [0, 1, 2, 3]) (.s (.seg 1 []) .ret))) (.s (.seg 2 []) (.cond (.s (.seg 2 []) (.s (.call K152 [.K 0, .K 1, .K 2, .K 3] [0, 1, 2, 3]) (.s (.seg 1 []) .ret))) (.s (.seg 1 []) .ret))))))))))))))) Tryz.func114 rfl rfl (by kernel_rfl) (fun _ => rfl) (fun i => by kernel_rfl) (fun i s => by kernel_rfl)

noncomputable def K114 (k : Nat) : SCon El Tryz.prog := ⟨C114 k, S114 k, Tryz.call114⟩

noncomputable abbrev C113p : List (PK El) := [pO slots_Table.D, pI .i64]
noncomputable def C113 : Con El := mkCon 113 C113p (fun i_ => slots_Table_At i_.1.2.2 i_.2.1) 0 0 (fun i_ t ns_ as_ => .tuple #[.agg #[.int .i64 t.1.At, .int .i64 t.1.Gen], .bool t.2]) (fun i_ t ns_ as_ => slots_Table.D.flat i_.1.1 i_.1.2.1 i_.1.2.2)

theorem S113 : (C113).Sound Tryz.prog :=
  fn_sound mixed (C113) (n := 19) (rs := rsOf Tryz.prog 113) [.C 2000 0, .C 2000 1] [0, 1, 2, 3, 4, 5, 6, 7] (gj (g2 (gC 2000 0 2 api_Ref.dec) (gB 5)) []) (fun i => (.s (.new 8 []) (.s (.seg 1 []) (.s (.seg 5 [.C 0 2]) (.s (.mget 7 0 3 (KeyOk.int rfl) (api_Ref.mk 0 0)) (.s (.seg 3 []) (.s (.new 9 []) (.s (.sto 9) (.s (.seg 1 []) (.s (.seg 2 [.C 9 0, .C 9 1]) (.s (.sto 8) (.s (.seg 1 []) (.rk [(8, 2000), (2000, 92000)] .ret))))))))))))) Tryz.func113 rfl rfl (by kernel_rfl) (fun _ => rfl) (fun i => by kernel_rfl) (fun i s => by kernel_rfl)

noncomputable def K113 : SCon El Tryz.prog := ⟨C113, S113, Tryz.call113⟩

noncomputable abbrev C207p : List (PK El) := [pO arena_Arena.D, pI .i64]
noncomputable def C207 (k : Nat) : Con El := mkCon 207 C207p (fun i_ => leftist_kids k i_.1.2.2 i_.2.1) 0 0 (fun i_ t ns_ as_ => .int .i64 t.1) (fun i_ t ns_ as_ => arena_Arena.D.flat i_.1.1 i_.1.2.1 t.2)

theorem S207 (k : Nat) : (C207 k).Sound Tryz.prog :=
  fn_sound mixed (C207 k) (n := 13) (rs := rsOf Tryz.prog 207) [] [0, 1, 2, 3] (gj (g2 (gI 4) (gO arena_Arena.D [0, 1, 2, 3])) []) (fun i => (.s (.seg 1 []) (.s (.seg 3 []) (.s (.call K204 [.K 0, .K 1, .K 2, .K 3] [0, 1, 2, 3]) (.s (.seg 2 []) (.s (.call K204 [.K 0, .K 1, .K 2, .K 3] [0, 1, 2, 3]) (.s (.call (K196 k) [.K 0, .K 1, .K 2, .K 3] [0, 1, 2, 3]) (.s (.seg 1 []) .ret)))))))) Tryz.func207 rfl rfl (by kernel_rfl) (fun _ => rfl) (fun i => by kernel_rfl) (fun i s => by kernel_rfl)

noncomputable def K207 (k : Nat) : SCon El Tryz.prog := ⟨C207 k, S207 k, Tryz.call207⟩

noncomputable abbrev C159p : List (PK El) := [pO arena_Arena.D, pI .i64]
noncomputable def C159 : Con El := mkCon 159 C159p (fun i_ => arena_Arena_Give i_.1.2.2 i_.2.1) 1 1 (fun i_ t ns_ as_ => .bool t.1) (fun i_ t ns_ as_ => arena_Arena.D.flat i_.1.1 (arena_Arena.A.mk i_.1.2.1.l_b i_.1.2.1.l_c (na as_ 0) (nn ns_ 0) i_.1.2.1.m__p) t.2)

theorem S159 : (C159).Sound Tryz.prog :=
  fn_sound mixed (C159) (n := 31) (rs := rsOf Tryz.prog 159) [] [0, 1, 2, 3] (gj (g2 (gB 4) (gO arena_Arena.D [0, 1, 2, 3])) [nA arena_Arena.D [0, 1, 2, 3] (fun al => ([al.free_c], [al.free_b]))]) (fun i => (.s (.seg 1 []) (.s (.seg 4 [.C 0 3]) (.s (.call K192 [.K 3] [3]) (.s (.seg 2 []) (.s (.call K206 [.K 0, .K 1, .K 2, .K 3] [0, 1, 2, 3]) (.s (.seg 1 []) (.cond (.s (.seg 1 []) .ret) (.s (.seg 5 [.C 0 0]) (.s (.idx false 1 (.tmp 18) 0) (.s (.seg 2 [.A 0]) (.s (.sset 1 0 10) (.s (.rlc 0 0 0) (.s (.seg 6 [.C 0 2]) (.s (.bld 4 1 3) (.s (.app 2 (.O 4)) (.s (.seg 2 []) (.s (.sto 0) (.s (.seg 1 []) .ret))))))))))))))))))) Tryz.func159 rfl rfl (by kernel_rfl) (fun _ => rfl) (fun i => by kernel_rfl) (fun i s => by kernel_rfl)

noncomputable def K159 : SCon El Tryz.prog := ⟨C159, S159, Tryz.call159⟩

noncomputable abbrev C208p : List (PK El) := [pO arena_Arena.D, pI .i64]
noncomputable def C208 : Con El := mkCon 208 C208p (fun i_ => node_End i_.1.2.2 i_.2.1) 1 1 (fun i_ t ns_ as_ => .int .i64 t.1) (fun i_ t ns_ as_ => arena_Arena.D.flat i_.1.1 (arena_Arena.A.mk i_.1.2.1.l_b i_.1.2.1.l_c (na as_ 0) (nn ns_ 0) i_.1.2.1.m__p) t.2)

theorem S208 : (C208).Sound Tryz.prog :=
  fn_sound mixed (C208) (n := 16) (rs := rsOf Tryz.prog 208) [] [0, 1, 2, 3] (gj (g2 (gI 4) (gO arena_Arena.D [0, 1, 2, 3])) [nA arena_Arena.D [0, 1, 2, 3] (fun al => ([al.free_c], [al.free_b]))]) (fun i => (.s (.seg 1 []) (.s (.seg 2 []) (.s (.call K204 [.K 0, .K 1, .K 2, .K 3] [0, 1, 2, 3]) (.s (.seg 1 []) (.s (.seg 2 []) (.s (.call K139 [.K 0, .K 1, .K 2, .K 3] [0, 1, 2, 3]) (.s (.seg 2 []) (.s (.call K159 [.K 0, .K 1, .K 2, .K 3] [0, 1, 2, 3]) (.s (.seg 2 []) .ret)))))))))) Tryz.func208 rfl rfl (by kernel_rfl) (fun _ => rfl) (fun i => by kernel_rfl) (fun i s => by kernel_rfl)

noncomputable def K208 : SCon El Tryz.prog := ⟨C208, S208, Tryz.call208⟩

theorem node_End_ok {w0 w : World} {As : List HP} {p_a_ : Nat} {al_a_ : arena_Arena.A} {a_ : arena_Arena} {n : Int} {t : Int × arena_Arena}  (hm : node_End a_ n = some t) (H : St w0 (arena_Arena.R p_a_ al_a_ a_ :: As) w) :
    CallsR Tryz.prog 208 #[.pointer (some ⟨p_a_, 0, none⟩), .int .i64 n] w fun v w' => ∃ (z_a__free_b : Option Addr), ∃ (z_a__free_c : Nat), v = .int .i64 t.1 ∧ St w0 (arena_Arena.R p_a_ (arena_Arena.A.mk al_a_.l_b al_a_.l_c z_a__free_b z_a__free_c al_a_.m__p) t.2 :: As) w' := by
  replace H := (fs0 fun As => arena_Arena.D_st).1 H
  refine (S208 ((p_a_, al_a_, a_), n, ()) t hm w0 w (As) rd0 H).mono ?_
  rintro v w' ⟨ns, as_, hn, ha, hv, H, hfx⟩
  obtain ⟨n0, ns0, rfl, hn0⟩ := lsS hn
  obtain rfl := ls0 hn0
  obtain ⟨a0, as0, rfl, ha0⟩ := lsS ha
  obtain rfl := ls0 ha0
  refine ⟨a0, n0, hv, ?_⟩
  refine (fs0 fun As => arena_Arena.D_st).2 ?_
  exact H

noncomputable abbrev C153p : List (PK El) := [pO arena_Arena.D, pI .i64]
noncomputable def C153 (k : Nat) : Con El := mkCon 153 C153p (fun i_ => leftist_Pop k i_.1.2.2 i_.2.1) 1 1 (fun i_ t ns_ as_ => .tuple #[.int .i64 t.1, .int .i64 t.2.1]) (fun i_ t ns_ as_ => arena_Arena.D.flat i_.1.1 (arena_Arena.A.mk i_.1.2.1.l_b i_.1.2.1.l_c (na as_ 0) (nn ns_ 0) i_.1.2.1.m__p) t.2.2)

theorem S153 (k : Nat) : (C153 k).Sound Tryz.prog :=
  fn_sound mixed (C153 k) (n := 25) (rs := rsOf Tryz.prog 153) [] [0, 1, 2, 3] (gj (g2 (gI 4) (g2 (gI 5) (gO arena_Arena.D [0, 1, 2, 3]))) [nA arena_Arena.D [0, 1, 2, 3] (fun al => ([al.free_c], [al.free_b]))]) (fun i => (.s (.seg 2 []) (.join (Bool) 0 0 (gj (gB 14) []) (fun st_ s_ ns_ as_ => ([(14, .bool s_)] ++ kp [0, 1] st_, ka [0, 1, 2, 3] st_)) (.s (.seg 5 []) (.s (.call K206 [.K 0, .K 1, .K 2, .K 3] [0, 1, 2, 3]) (.s (.seg 2 []) .leaf))) (.cond (.s (.seg 2 []) .ret) (.s (.seg 2 []) (.s (.call (K207 k) [.K 0, .K 1, .K 2, .K 3] [0, 1, 2, 3]) (.s (.seg 1 []) (.s (.seg 2 []) (.s (.call K139 [.K 0, .K 1, .K 2, .K 3] [0, 1, 2, 3]) (.s (.seg 3 []) (.s (.call K208 [.K 0, .K 1, .K 2, .K 3] [0, 1, 2, 3]) (.s (.seg 2 []) .ret)))))))))))) Tryz.func153 rfl rfl (by kernel_rfl) (fun _ => rfl) (fun i => by kernel_rfl) (fun i s => by kernel_rfl)

noncomputable def K153 (k : Nat) : SCon El Tryz.prog := ⟨C153 k, S153 k, Tryz.call153⟩

theorem binomial_without_f1_ok {w0 w : World} {As : List HP} {x : Int} {v_ : Int} {r : Nat} {t : Bool}  (hm : binomial_without_f1 x v_ = some t) (H : St w0 (Blk r 3 [.int .i64 v_] :: As) w) :
    CallsR Tryz.prog 242 #[.int .i64 x, .pointer (some ⟨r, 0, none⟩)] w fun v w' => v = .bool t ∧ St w0 (Blk r 3 [.int .i64 v_] :: As) w' := by
 rw [binomial_without_f1] at hm
 refine enter (args := [.int .i64 x, .pointer (some ⟨r, 0, none⟩)]) Tryz.func242 rfl rfl rfl fun a hE => ?_
 refine Runs.sr ?_
 refine WR.seg hE 1 [] [0, 1] (Lo := [(0, .int .i64 x), (1, .pointer (some ⟨r, 0, none⟩))]) (obs := []) rfl (by kernel_rfl) trivial fun a hE => ?_
 refine WR.done rfl ?_
 refine Runs.sr ?_
 refine WR.e hE [.int .i64 v_] [(3, .bool (x == v_))] (obs := [.cell ⟨r, 0, none⟩ (.int .i64 v_)]) ⟨H.cell 0 rfl rfl, trivial⟩ fun a hE => ?_
 refine Runs.ret hE Tryz.func242 rfl rfl ?_
 cases hm
 exact ⟨rfl, H⟩

theorem slices_IndexFunc_int_g242_ok {w0 w : World} {As : List HP} {k : Nat} {sb_s : Option Addr} {sc_s : Nat} {s : List Int} {X_s : HP} {v_ : Int} {r : Nat} {t : Int} (hX_s : SlRd X_s ecI 1 sb_s s) (hC_s : s.length ≤ sc_s) (hm : slices_IndexFunc_int_g242 k s v_ = some t) (H : St w0 (X_s :: Blk r 3 [.int .i64 v_] :: As) w) :
    CallsR Tryz.prog 264 #[.slice sb_s s.length sc_s, .func (.func 242) #[] #[.pointer (some ⟨r, 0, none⟩)]] w fun v w' => v = .int .i64 t ∧ St w0 (X_s :: Blk r 3 [.int .i64 v_] :: As) w' := by
 rw [slices_IndexFunc_int_g242] at hm
 refine enter (args := [.slice sb_s s.length sc_s, .func (.func 242) #[] #[.pointer (some ⟨r, 0, none⟩)]]) Tryz.func264 rfl rfl rfl fun a hE => ?_
 refine Runs.sr ?_
 refine WR.seg hE 1 [] [0, 1] (Lo := [(0, .slice sb_s s.length sc_s), (1, .func (.func 242) #[] #[.pointer (some ⟨r, 0, none⟩)])]) (obs := []) rfl (by kernel_rfl) trivial fun a hE => ?_
 refine WR.done rfl ?_
 refine Runs.seq ?_
 refine Runs.sr ?_
 refine WR.e0 hE [(7, .int .i64 (s.length : Int)), (8, .int .i64 0)] fun a hE => ?_
 obtain ⟨s1, es1, hR⟩ := bind_some hm
 refine Runs.join (fun a w => ∃ s2, s1 = Sum.inr s2 ∧ EnvOk 19 a [] ∧ St w0 (X_s :: Blk r 3 [.int .i64 v_] :: As) w) (fun hk => ?_) ?_
 ·replace hm := es1; clear es1
  refine Runs.block ?_
  refine Runs.loop (fun m a w => ∃ (x : Int), EnvOk 19 a [(0, .slice sb_s s.length sc_s), (1, .func (.func 242) #[] #[.pointer (some ⟨r, 0, none⟩)]), (7, .int .i64 (s.length : Int)), (8, .int .i64 x)] ∧ St w0 (X_s :: Blk r 3 [.int .i64 v_] :: As) w ∧ slices_IndexFunc_int_g242_l0 (s.length : Int) s v_ m x = some s1) k ⟨0, hE.sel [0, 1, 7, 8] (by kernel_rfl), H.t1.t1, hm⟩ ?_
  rintro m ih a w ⟨x, hE, H, hm⟩
  cases m with
  | zero => simp [slices_IndexFunc_int_g242_l0] at hm
  | succ m =>
   rw [slices_IndexFunc_int_g242_l0] at hm
   refine Runs.sr ?_
   refine WR.seg hE 1 [] [0, 1, 7, 8, 9] (Lo := [(0, .slice sb_s s.length sc_s), (1, .func (.func 242) #[] #[.pointer (some ⟨r, 0, none⟩)]), (7, .int .i64 (s.length : Int)), (8, .int .i64 x), (9, .bool (decide (x < (s.length : Int))))]) (obs := []) rfl (by kernel_rfl) trivial fun a hE => ?_
   refine WR.done rfl ?_
   refine Runs.seq ?_
   refine Runs.cond hE rfl (fun c => ?_) (fun c => ?_)
   ·replace hm := cond_t c hm
    refine Runs.skip ?_
    refine Runs.seq ?_
    refine Runs.block ?_
    refine Runs.sr ?_
    refine WR.e0 hE [(5, .int .i64 x)] fun a hE => ?_
    refine Runs.sr ?_
    obtain ⟨x2, ex2, hm⟩ := bind_some hm
    obtain ⟨b, o, hs, hb⟩ := SlRd.base hX_s ecI_ok H 0 rfl ex2
    refine WR.d hE 5 [.pointer (some ⟨b, o, none⟩), .int .i64 x2] [(11, .func (.func 242) #[] #[.pointer (some ⟨r, 0, none⟩)]), (15, .int .i64 x2)] (obs := [.p ((sb_s : Option Addr) = some ⟨b, o, none⟩), .p (0 ≤ (x : Int) ∧ (x : Int) < ((s.length : Nat) : Int)), .cell ⟨b, o + (Int.toNat x) * 1, none⟩ (.int .i64 x2)]) ⟨hs, hb, SlRd.cells hX_s ecI_ok H 0 rfl hs ex2 0 _ rfl, trivial⟩ fun a hE => ?_
    obtain ⟨t_, et_, hm⟩ := bind_some hm
    refine WR.eff hE rfl rfl rfl rfl (OpTo.fv hE rfl rfl rfl Tryz.call242 (binomial_without_f1_ok et_ H.t1)) ?_
    rintro _ w ⟨rfl, H⟩ a hE
    refine WR.done rfl ?_
    refine Runs.cond hE rfl (fun c => ?_) (fun c => ?_)
    ·replace hm := cond_t c hm
     refine Runs.sr ?_
     refine WR.e0 hE [(4, .int .i64 x)] fun a hE => ?_
     refine Runs.ret hE Tryz.func264 rfl rfl ?_
     cases hm
     dsimp only at hR; cases hR
     exact ⟨rfl, H.t1⟩
    ·replace hm := cond_f c hm
     refine Runs.skip ?_
     refine Runs.inBlock ?_
     refine Runs.region ?_
     refine WR.e0 hE [(8, .int .i64 (w64 (x + 1)))] fun a hE => ?_
     exact ih m (Nat.lt_succ_self m) _ _ ⟨w64 (x + 1), hE.sel [0, 1, 7, 8] (by kernel_rfl), H.t1, hm⟩
   ·replace hm := cond_f c hm
    refine Runs.exit rfl ?_
    cases hm
    exact hk _ _ ⟨_, rfl, hE.sel [] (by kernel_rfl), H.t1.t1⟩
 rintro a w ⟨s2, rfl, hE, H⟩
 replace hm := hR; dsimp only at hm
 refine Runs.sr ?_
 refine WR.seg hE 1 [] [4] (Lo := [(4, .int .i64 (-1))]) (obs := []) rfl (by kernel_rfl) trivial fun a hE => ?_
 refine WR.done rfl ?_
 refine Runs.ret hE Tryz.func264 rfl rfl ?_
 cases hm
 exact ⟨rfl, H.t1.t1⟩

theorem slices_DeleteFunc_int_g242_ok {w0 w : World} {As : List HP} {k : Nat} {sb_s : Option Addr} {sc_s : Nat} {s : List Int} {v_ : Int} {r : Nat} {t : (List Int)}  (hm : slices_DeleteFunc_int_g242 k s v_ = some t) (H : St w0 (Sl 3 ecI 1 sb_s sc_s s :: Blk r 3 [.int .i64 v_] :: As) w) :
    CallsR Tryz.prog 241 #[.slice sb_s s.length sc_s, .func (.func 242) #[] #[.pointer (some ⟨r, 0, none⟩)]] w fun v w' => ∃ (sb0 : Option Addr), ∃ (sc0 : Nat), v = .slice sb0 t.length sc0 ∧ St w0 (Sl 3 ecI 1 sb0 sc0 t :: Blk r 3 [.int .i64 v_] :: As) w' := by
 rw [slices_DeleteFunc_int_g242] at hm
 refine enter (args := [.slice sb_s s.length sc_s, .func (.func 242) #[] #[.pointer (some ⟨r, 0, none⟩)]]) Tryz.func241 rfl rfl rfl fun a hE => ?_
 refine Runs.sr ?_
 refine WR.seg hE 1 [] [0, 1] (Lo := [(0, .slice sb_s s.length sc_s), (1, .func (.func 242) #[] #[.pointer (some ⟨r, 0, none⟩)])]) (obs := []) rfl (by kernel_rfl) trivial fun a hE => ?_
 refine WR.done rfl ?_
 refine Runs.sr ?_
 refine WR.d0 hE 2 [(8, .slice sb_s s.length sc_s), (9, .func (.func 242) #[] #[.pointer (some ⟨r, 0, none⟩)])] fun a hE => ?_
 obtain ⟨t_, et_, hm⟩ := bind_some hm
 replace H := H.t1.t1
 refine WR.eff hE rfl rfl rfl rfl (OpTo.fn hE rfl rfl Tryz.call264 (slices_IndexFunc_int_g242_ok (hX_s := (sl_rd 3 ecI 1 _ _ _)) (hC_s := (H.slCap 0 rfl).1) et_ H)) ?_
 rintro _ w ⟨rfl, H⟩ a hE
 refine WR.e0 hE [(5, .int .i64 t_)] fun a hE => ?_
 refine Runs.seq ?_
 refine Runs.sr ?_
 refine WR.e0 hE [(12, .bool (t_ == (-1)))] fun a hE => ?_
 refine Runs.cond hE rfl (fun c => ?_) (fun c => ?_)
 ·replace hm := cond_t c hm
  refine Runs.sr ?_
  refine WR.e0 hE [(4, .slice sb_s s.length sc_s)] fun a hE => ?_
  refine Runs.ret hE Tryz.func241 rfl rfl ?_
  cases hm
  exact ⟨sb_s, sc_s, rfl, H.t1.t1⟩
 ·replace hm := cond_f c hm
  refine Runs.skip ?_
  refine Runs.seq ?_
  refine Runs.sr ?_
  refine WR.e0 hE [(6, .int .i64 (w64 (t_ + 1)))] fun a hE => ?_
  obtain ⟨s1, es1, hm⟩ := bind_some hm
  refine Runs.join (fun a w => EnvOk 42 a [(0, .slice sb_s s1.2.length sc_s), (5, .int .i64 s1.1)] ∧ St w0 (Sl 3 ecI 1 sb_s sc_s s1.2 :: Blk r 3 [.int .i64 v_] :: As) w) (fun hk => ?_) ?_
  ·replace hm := es1; clear es1
   refine Runs.block ?_
   refine Runs.loop (fun m a w => ∃ (i : Int), ∃ (j : Int), ∃ (m_ : List Int), EnvOk 42 a [(0, .slice sb_s m_.length sc_s), (1, .func (.func 242) #[] #[.pointer (some ⟨r, 0, none⟩)]), (5, .int .i64 i), (6, .int .i64 j)] ∧ St w0 (Sl 3 ecI 1 sb_s sc_s m_ :: Blk r 3 [.int .i64 v_] :: As) w ∧ slices_DeleteFunc_int_g242_l0 v_ m i j m_ = some s1) k ⟨t_, w64 (t_ + 1), s, hE.sel [0, 1, 5, 6] (by kernel_rfl), H.t1.t1, hm⟩ ?_
   rintro m ih a w ⟨i, j, m_, hE, H, hm⟩
   cases m with
   | zero => simp [slices_DeleteFunc_int_g242_l0] at hm
   | succ m =>
    rw [slices_DeleteFunc_int_g242_l0] at hm
    refine Runs.seq ?_
    refine Runs.sr ?_
    refine WR.seg hE 4 [] [0, 1, 5, 6, 19] (Lo := [(0, .slice sb_s m_.length sc_s), (1, .func (.func 242) #[] #[.pointer (some ⟨r, 0, none⟩)]), (5, .int .i64 i), (6, .int .i64 j), (19, .bool (decide (j < (m_.length : Int))))]) (obs := []) rfl (by kernel_rfl) trivial fun a hE => ?_
    refine WR.done rfl ?_
    refine Runs.cond hE rfl (fun c => ?_) (fun c => ?_)
    ·replace hm := cond_t c hm
     refine Runs.skip ?_
     refine Runs.seq ?_
     obtain ⟨s2, es2, hm⟩ := bind_some hm
     refine Runs.join (fun a w => EnvOk 42 a [(0, .slice sb_s s2.2.length sc_s), (1, .func (.func 242) #[] #[.pointer (some ⟨r, 0, none⟩)]), (5, .int .i64 s2.1), (6, .int .i64 j)] ∧ St w0 (Sl 3 ecI 1 sb_s sc_s s2.2 :: Blk r 3 [.int .i64 v_] :: As) w) (fun hk => ?_) ?_
     ·replace hm := es2; clear es2
      refine Runs.block ?_
      refine Runs.sr ?_
      obtain ⟨x, ex, hm⟩ := bind_some hm
      obtain ⟨b, o, hs, hb⟩ := SlRd.base (sl_rd 3 ecI 1 _ _ _) ecI_ok H 0 rfl ex
      refine WR.e hE [.pointer (some ⟨b, o, none⟩), .int .i64 x] [(7, .int .i64 x)] (obs := [.p ((sb_s : Option Addr) = some ⟨b, o, none⟩), .p (0 ≤ (j : Int) ∧ (j : Int) < ((m_.length : Nat) : Int)), .cell ⟨b, o + (Int.toNat j) * 1, none⟩ (.int .i64 x)]) ⟨hs, hb, SlRd.cells (sl_rd 3 ecI 1 _ _ _) ecI_ok H 0 rfl hs ex 0 _ rfl, trivial⟩ fun a hE => ?_
      refine Runs.sr ?_
      refine WR.d0 hE 2 [(26, .func (.func 242) #[] #[.pointer (some ⟨r, 0, none⟩)]), (27, .int .i64 x)] fun a hE => ?_
      obtain ⟨t_1, et_1, hm⟩ := bind_some hm
      refine WR.eff hE rfl rfl rfl rfl (OpTo.fv hE rfl rfl rfl Tryz.call242 (binomial_without_f1_ok et_1 H.t1)) ?_
      rintro _ w ⟨rfl, H⟩ a hE
      refine WR.e0 hE [(29, .bool (!t_1))] fun a hE => ?_
      refine Runs.cond hE rfl (fun c => ?_) (fun c => ?_)
      ·replace hm := cond_t c hm
       refine Runs.sr ?_
       obtain ⟨x1, ex1, hm⟩ := bind_some hm
       obtain ⟨b1, o1, hs1, hb1⟩ := SlRd.base (sl_rd 3 ecI 1 _ _ _) ecI_ok H 1 rfl ex1
       refine WR.d hE 4 [.pointer (some ⟨b1, o1, none⟩)] [(32, .int .i64 x), (33, .pointer (some ⟨b1, o1 + (Int.toNat i) * 1, none⟩))] (obs := [.p ((sb_s : Option Addr) = some ⟨b1, o1, none⟩), .p (0 ≤ (i : Int) ∧ (i : Int) < ((m_.length : Nat) : Int))]) ⟨hs1, hb1, trivial⟩ fun a hE => ?_
       refine WR.eff0 hE rfl rfl rfl (OpTo.storeSl (q := 0) (x' := x) hE H.t1 ecI_ok rfl hs1 ex1 rfl rfl rfl rfl rfl (Nat.le_of_ble_eq_true rfl) rfl) ?_
       rintro _ w H a hE
       try rw [← mSet_len m_ i x] at hE
       refine WR.done rfl ?_
       refine Runs.region ?_
       refine WR.seg hE 3 [] [0, 1, 5, 6] (Lo := [(0, .slice sb_s ((mSet m_ i x).length) sc_s), (1, .func (.func 242) #[] #[.pointer (some ⟨r, 0, none⟩)]), (5, .int .i64 (w64 (i + 1))), (6, .int .i64 j)]) (obs := []) rfl (by kernel_rfl) trivial fun a hE => ?_
       refine WR.done rfl ?_
       refine Runs.inBlock ?_
       cases hm
       exact hk _ _ ⟨hE.sel [0, 1, 5, 6] (by kernel_rfl), H.t1.t1⟩
      ·replace hm := cond_f c hm
       refine Runs.skip ?_
       refine Runs.inBlock ?_
       cases hm
       exact hk _ _ ⟨hE.sel [0, 1, 5, 6] (by kernel_rfl), H.t1⟩
     rintro a w ⟨hE, H⟩
     refine Runs.region ?_
     refine WR.seg hE 3 [] [0, 1, 5, 6] (Lo := [(0, .slice sb_s s2.2.length sc_s), (1, .func (.func 242) #[] #[.pointer (some ⟨r, 0, none⟩)]), (5, .int .i64 s2.1), (6, .int .i64 (w64 (j + 1)))]) (obs := []) rfl (by kernel_rfl) trivial fun a hE => ?_
     refine WR.done rfl ?_
     exact ih m (Nat.lt_succ_self m) _ _ ⟨s2.1, w64 (j + 1), s2.2, hE.sel [0, 1, 5, 6] (by kernel_rfl), H.t1.t1, hm⟩
    ·replace hm := cond_f c hm
     refine Runs.exit rfl ?_
     cases hm
     exact hk _ _ ⟨hE.sel [0, 5] (by kernel_rfl), H.t1.t1⟩
  rintro a w ⟨hE, H⟩
  refine Runs.sr ?_
  obtain ⟨l, el, hm⟩ := bind_some hm
  obtain ⟨sb, q⟩ : ∃ z, rebase sb_s sc_s (Int.toNat s1.1) 1 = z := ⟨_, rfl⟩
  obtain ⟨sc, q1⟩ : ∃ z, sc_s - (Int.toNat s1.1) = z := ⟨_, rfl⟩
  refine WR.seg hE 3 [.slice sb l.length sc] [0, 5, 38] (Lo := [(0, .slice sb_s s1.2.length sc_s), (5, .int .i64 s1.1), (38, .slice sb l.length sc)]) (obs := [.p (rebase sb_s sc_s (Int.toNat s1.1) 1 = sb), .p (s1.2.length - (Int.toNat s1.1) = l.length), .p (sc_s - (Int.toNat s1.1) = sc), .p (0 ≤ (s1.1 : Int) ∧ (s1.1 : Int) ≤ ((s1.2.length : Nat) : Int))]) rfl (by kernel_rfl) ⟨q, cut_len el, q1, cut_bd0 el, trivial⟩ fun a hE => ?_
  refine WR.eff0 hE rfl rfl rfl (OpTo.clearSl (z := 0) hE H ecI_ok el q q1 rfl rfl rfl rfl rfl rfl) ?_
  rintro _ w ⟨_, H⟩ a hE
  try rw [← mClear_len (z := 0) el] at hE
  refine WR.done rfl ?_
  refine Runs.sr ?_
  obtain ⟨l1, el1, hm⟩ := bind_some hm
  obtain ⟨sb1, q2⟩ : ∃ z, rebase sb_s sc_s (Int.toNat 0) 1 = z := ⟨_, rfl⟩
  obtain ⟨sc1, q3⟩ : ∃ z, sc_s - (Int.toNat 0) = z := ⟨_, rfl⟩
  refine WR.seg hE 4 [.slice sb1 l1.length sc1] [4] (Lo := [(4, .slice sb1 l1.length sc1)]) (obs := [.p (rebase sb_s sc_s 0 1 = sb1), .p ((Int.toNat s1.1) - 0 = l1.length), .p (sc_s - 0 = sc1), .p (0 ≤ (s1.1 : Int) ∧ (s1.1 : Int) ≤ ((sc_s : Nat) : Int))]) rfl (by kernel_rfl) ⟨q2, cut_len el1, q3, cut_cap el1 (H.slCap 0 rfl).1, trivial⟩ fun a hE => ?_
  refine WR.done rfl ?_
  replace H := H.slCut' ecI_ok el1 q2 q3
  refine Runs.ret hE Tryz.func241 rfl rfl ?_
  cases hm
  exact ⟨sb1, sc1, rfl, H.t1.t1⟩

noncomputable abbrev C243p : List (PK El) := [pO arena_Arena.D, pI .i64]
noncomputable def C243 (k : Nat) : Con El := mkCon 243 C243p (fun i_ => trees_Kids k i_.1.2.2 i_.2.1) 1 1 (fun i_ t ns_ as_ => .slice (na as_ 0) t.1.length (nn ns_ 0)) (fun i_ t ns_ as_ => [.sl 1 3 (na as_ 0) (nn ns_ 0) t.1] ++ arena_Arena.D.flat i_.1.1 i_.1.2.1 t.2)

theorem S243 (k : Nat) : (C243 k).Sound Tryz.prog :=
  fn_sound mixed (C243 k) (n := 10) (rs := rsOf Tryz.prog 243) [] [1000, 0, 1, 2, 3] (gj (g2 (gL 1 1000) (gO arena_Arena.D [0, 1, 2, 3])) [nSk 1000]) (fun i => (.s (.seg 1 []) (.s (.seg 3 []) (.s (.call K204 [.K 0, .K 1, .K 2, .K 3] [0, 1, 2, 3]) (.s (.call (K237 k) [.K 0, .K 1, .K 2, .K 3] [4, 0, 1, 2, 3]) (.s (.seg 1 []) (.rk [(4, 1000), (1000, 91000)] .ret))))))) Tryz.func243 rfl rfl (by kernel_rfl) (fun _ => rfl) (fun i => by kernel_rfl) (fun i s => by kernel_rfl)

noncomputable def K243 (k : Nat) : SCon El Tryz.prog := ⟨C243 k, S243 k, Tryz.call243⟩

theorem trees_Kids_ok {w0 w : World} {As : List HP} {k : Nat} {p_a_ : Nat} {al_a_ : arena_Arena.A} {a_ : arena_Arena} {n : Int} {t : (List Int) × arena_Arena}  (hm : trees_Kids k a_ n = some t) (H : St w0 (arena_Arena.R p_a_ al_a_ a_ :: As) w) :
    CallsR Tryz.prog 243 #[.pointer (some ⟨p_a_, 0, none⟩), .int .i64 n] w fun v w' => ∃ (sb0 : Option Addr), ∃ (sc0 : Nat), v = .slice sb0 t.1.length sc0 ∧ St w0 (Sl 3 ecI 1 sb0 sc0 t.1 :: arena_Arena.R p_a_ al_a_ t.2 :: As) w' := by
  replace H := (fs0 fun As => arena_Arena.D_st).1 H
  refine (S243 k ((p_a_, al_a_, a_), n, ()) t hm w0 w (As) rd0 H).mono ?_
  rintro v w' ⟨ns, as_, hn, ha, hv, H, hfx⟩
  obtain ⟨n0, ns0, rfl, hn0⟩ := lsS hn
  obtain rfl := ls0 hn0
  obtain ⟨a0, as0, rfl, ha0⟩ := lsS ha
  obtain rfl := ls0 ha0
  refine ⟨a0, n0, hv, ?_⟩
  refine (fs1 fun As => arena_Arena.D_st).2 ?_
  exact H

theorem binomial_without_ok {w0 w : World} {As : List HP} {k : Nat} {p_a_ : Nat} {al_a_ : arena_Arena.A} {a_ : arena_Arena} {sb_l : Option Addr} {sc_l : Nat} {l : List Int} {n : Int} {t : Int × Int × arena_Arena}  (hm : binomial_without k a_ l n = some t) (H : St w0 (arena_Arena.R p_a_ al_a_ a_ :: Sl 3 ecI 1 sb_l sc_l l :: As) w) :
    CallsR Tryz.prog 209 #[.pointer (some ⟨p_a_, 0, none⟩), .slice sb_l l.length sc_l, .int .i64 n] w fun v w' => ∃ (z_a__free_b : Option Addr), ∃ (z_a__free_c : Nat), v = .tuple #[.int .i64 t.1, .int .i64 t.2.1] ∧ St w0 (arena_Arena.R p_a_ (arena_Arena.A.mk al_a_.l_b al_a_.l_c z_a__free_b z_a__free_c al_a_.m__p) t.2.2 :: As) w' := by
 rw [binomial_without] at hm
 refine enter (args := [.pointer (some ⟨p_a_, 0, none⟩), .slice sb_l l.length sc_l, .int .i64 n]) Tryz.func209 rfl rfl rfl fun a hE => ?_
 refine Runs.sr ?_
 refine WR.eff hE rfl rfl rfl rfl (OpTo.new hE H [] (.cells #[.int .i64 n] 3 (0, 0)) (fun r => .pointer (some ⟨r, 0, none⟩)) (obs := []) rfl (fun _ => by kernel_rfl) trivial) ?_
 rintro _ w ⟨r, rfl, H⟩ a hE
 refine WR.seg hE 3 [] [0, 1, 5] (Lo := [(0, .pointer (some ⟨p_a_, 0, none⟩)), (1, .slice sb_l l.length sc_l), (5, .pointer (some ⟨r, 0, none⟩))]) (obs := []) rfl (by kernel_rfl) trivial fun a hE => ?_
 refine WR.done rfl ?_
 refine Runs.sr ?_
 refine WR.d0 hE 2 [(10, .slice sb_l l.length sc_l), (11, .func (.func 242) #[] #[.pointer (some ⟨r, 0, none⟩)])] fun a hE => ?_
 obtain ⟨t_, et_, hm⟩ := bind_some hm
 refine WR.eff hE rfl rfl rfl rfl (OpTo.fn hE rfl rfl Tryz.call241 (slices_DeleteFunc_int_g242_ok et_ H.t2)) ?_
 rintro _ w ⟨sb, sc, rfl, H⟩ a hE
 refine WR.e0 hE [(8, .slice sb t_.length sc)] fun a hE => ?_
 refine Runs.sr ?_
 refine WR.d hE 3 [.int .i64 n] [(13, .slice sb t_.length sc), (14, .pointer (some ⟨p_a_, 0, none⟩)), (15, .int .i64 n)] (obs := [.cell ⟨r, 0, none⟩ (.int .i64 n)]) ⟨H.cell 1 rfl rfl, trivial⟩ fun a hE => ?_
 obtain ⟨t_1, et_1, hm⟩ := bind_some hm
 refine WR.eff hE rfl rfl rfl rfl (OpTo.fn hE rfl rfl Tryz.call243 (trees_Kids_ok et_1 H.t2)) ?_
 rintro _ w ⟨sb1, sc1, rfl, H⟩ a hE
 obtain ⟨l1, el1, hm⟩ := bind_some hm
 replace H := H.t2
 refine WR.eff hE rfl rfl rfl rfl (OpTo.appendM el1 hE H ecI_ok rfl rfl rfl rfl rfl rfl rfl rfl rfl rfl (SlRd.all (sl_rd 3 ecI 1 _ _ _) ecI_ok H 1 rfl) rfl) ?_
 rintro _ w ⟨sb2, sc2, rfl, H⟩ a hE
 refine WR.e0 hE [(8, .slice sb2 l1.length sc2)] fun a hE => ?_
 refine Runs.sr ?_
 refine WR.d hE 2 [.int .i64 n] [(18, .pointer (some ⟨p_a_, 0, none⟩)), (19, .int .i64 n)] (obs := [.cell ⟨r, 0, none⟩ (.int .i64 n)]) ⟨H.cell 3 rfl rfl, trivial⟩ fun a hE => ?_
 obtain ⟨t_2, et_2, hm⟩ := bind_some hm
 refine WR.eff hE rfl rfl rfl rfl (OpTo.fn hE rfl rfl Tryz.call208 (node_End_ok et_2 H.t2)) ?_
 rintro _ w ⟨z, z1, rfl, H⟩ a hE
 refine WR.e0 hE [(9, .int .i64 t_2.1)] fun a hE => ?_
 refine Runs.sr ?_
 refine WR.d0 hE 2 [(21, .pointer (some ⟨p_a_, 0, none⟩)), (22, .slice sb2 l1.length sc2)] fun a hE => ?_
 obtain ⟨t_3, et_3, hm⟩ := bind_some hm
 replace H := H.t1.t1
 refine WR.eff hE rfl rfl rfl rfl (OpTo.fn hE rfl rfl Tryz.call197 (trees_Carry_ok (hX_l := (sl_rd 3 ecI 1 _ _ _)) (hC_l := (H.slCap 1 rfl).1) et_3 H)) ?_
 rintro _ w ⟨rfl, H⟩ a hE
 refine WR.e0 hE [(6, .int .i64 t_3.1), (7, .int .i64 t_2.1)] fun a hE => ?_
 refine Runs.ret hE Tryz.func209 rfl rfl ?_
 cases hm
 exact ⟨z, z1, rfl, H.x3.x2.x1⟩

noncomputable abbrev C209p : List (PK El) := [pO arena_Arena.D, pW 1 3, pI .i64]
noncomputable def C209 (k : Nat) : Con El := mkCon 209 C209p (fun i_ => binomial_without k i_.1.2.2 i_.2.1.2.2 i_.2.2.1) 1 1 (fun i_ t ns_ as_ => .tuple #[.int .i64 t.1, .int .i64 t.2.1]) (fun i_ t ns_ as_ => arena_Arena.D.flat i_.1.1 (arena_Arena.A.mk i_.1.2.1.l_b i_.1.2.1.l_c (na as_ 0) (nn ns_ 0) i_.1.2.1.m__p) t.2.2)

theorem S209 (k : Nat) : (C209 k).Sound Tryz.prog := fun i_ t hm w0 w F hr H => by
  obtain ⟨⟨p0, l0, x0⟩, ⟨b1, c1, x1⟩, x2, _⟩ := i_
  have H2 : St w0 (arena_Arena.R p0 l0 x0 :: Sl 3 ecI 1 b1 c1 x1 :: F) w := by
    refine (fs0 fun As => arena_Arena.D_st).2 ?_
    exact H
  refine (binomial_without_ok (show binomial_without k x0 x1 x2 = some t from hm) H2).mono ?_
  rintro v w' ⟨e0, e1, hv, H⟩
  refine ⟨[e1], [e0], rfl, rfl, hv, ?_, fun _ h => by cases h⟩
  replace H := (fs0 fun As => arena_Arena.D_st).1 H
  exact H

noncomputable def K209 (k : Nat) : SCon El Tryz.prog := ⟨C209 k, S209 k, Tryz.call209⟩

noncomputable abbrev C154p : List (PK El) := [pO arena_Arena.D, pI .i64]
noncomputable def C154 (k : Nat) : Con El := mkCon 154 C154p (fun i_ => binomial_Pop k i_.1.2.2 i_.2.1) 1 1 (fun i_ t ns_ as_ => .tuple #[.int .i64 t.1, .int .i64 t.2.1]) (fun i_ t ns_ as_ => arena_Arena.D.flat i_.1.1 (arena_Arena.A.mk i_.1.2.1.l_b i_.1.2.1.l_c (na as_ 0) (nn ns_ 0) i_.1.2.1.m__p) t.2.2)

theorem S154 (k : Nat) : (C154 k).Sound Tryz.prog :=
  fn_sound mixed (C154 k) (n := 26) (rs := rsOf Tryz.prog 154) [] [0, 1, 2, 3] (gj (g2 (gI 4) (g2 (gI 5) (gO arena_Arena.D [0, 1, 2, 3]))) [nA arena_Arena.D [0, 1, 2, 3] (fun al => ([al.free_c], [al.free_b]))]) (fun i => (.s (.seg 2 []) (.join (Bool) 0 0 (gj (gB 14) []) (fun st_ s_ ns_ as_ => ([(14, .bool s_)] ++ kp [0, 1] st_, ka [0, 1, 2, 3] st_)) (.s (.seg 5 []) (.s (.call K206 [.K 0, .K 1, .K 2, .K 3] [0, 1, 2, 3]) (.s (.seg 2 []) .leaf))) (.cond (.s (.seg 2 []) .ret) (.s (.seg 2 []) (.s (.call (K198 k) [.K 0, .K 1, .K 2, .K 3] [4, 0, 1, 2, 3]) (.s (.seg 1 []) (.s (.seg 4 []) (.s (.call (K205 k) [.K 0, .K 1, .K 2, .K 3, .O 4] [0, 1, 2, 3]) (.s (.call (K209 k) [.K 0, .K 1, .K 2, .K 3, .K 4] [0, 1, 2, 3]) (.s (.seg 4 []) .ret))))))))))) Tryz.func154 rfl rfl (by kernel_rfl) (fun _ => rfl) (fun i => by kernel_rfl) (fun i s => by kernel_rfl)

noncomputable def K154 (k : Nat) : SCon El Tryz.prog := ⟨C154 k, S154 k, Tryz.call154⟩

theorem skew_without_f1_ok {w0 w : World} {As : List HP} {x : Int} {v_ : Int} {r : Nat} {t : Bool}  (hm : skew_without_f1 x v_ = some t) (H : St w0 (Blk r 3 [.int .i64 v_] :: As) w) :
    CallsR Tryz.prog 244 #[.int .i64 x, .pointer (some ⟨r, 0, none⟩)] w fun v w' => v = .bool t ∧ St w0 (Blk r 3 [.int .i64 v_] :: As) w' := by
 rw [skew_without_f1] at hm
 refine enter (args := [.int .i64 x, .pointer (some ⟨r, 0, none⟩)]) Tryz.func244 rfl rfl rfl fun a hE => ?_
 refine Runs.sr ?_
 refine WR.seg hE 1 [] [0, 1] (Lo := [(0, .int .i64 x), (1, .pointer (some ⟨r, 0, none⟩))]) (obs := []) rfl (by kernel_rfl) trivial fun a hE => ?_
 refine WR.done rfl ?_
 refine Runs.sr ?_
 refine WR.e hE [.int .i64 v_] [(3, .bool (x == v_))] (obs := [.cell ⟨r, 0, none⟩ (.int .i64 v_)]) ⟨H.cell 0 rfl rfl, trivial⟩ fun a hE => ?_
 refine Runs.ret hE Tryz.func244 rfl rfl ?_
 cases hm
 exact ⟨rfl, H⟩

theorem slices_IndexFunc_int_g244_ok {w0 w : World} {As : List HP} {k : Nat} {sb_s : Option Addr} {sc_s : Nat} {s : List Int} {X_s : HP} {v_ : Int} {r : Nat} {t : Int} (hX_s : SlRd X_s ecI 1 sb_s s) (hC_s : s.length ≤ sc_s) (hm : slices_IndexFunc_int_g244 k s v_ = some t) (H : St w0 (X_s :: Blk r 3 [.int .i64 v_] :: As) w) :
    CallsR Tryz.prog 264 #[.slice sb_s s.length sc_s, .func (.func 244) #[] #[.pointer (some ⟨r, 0, none⟩)]] w fun v w' => v = .int .i64 t ∧ St w0 (X_s :: Blk r 3 [.int .i64 v_] :: As) w' := by
 rw [slices_IndexFunc_int_g244] at hm
 refine enter (args := [.slice sb_s s.length sc_s, .func (.func 244) #[] #[.pointer (some ⟨r, 0, none⟩)]]) Tryz.func264 rfl rfl rfl fun a hE => ?_
 refine Runs.sr ?_
 refine WR.seg hE 1 [] [0, 1] (Lo := [(0, .slice sb_s s.length sc_s), (1, .func (.func 244) #[] #[.pointer (some ⟨r, 0, none⟩)])]) (obs := []) rfl (by kernel_rfl) trivial fun a hE => ?_
 refine WR.done rfl ?_
 refine Runs.seq ?_
 refine Runs.sr ?_
 refine WR.e0 hE [(7, .int .i64 (s.length : Int)), (8, .int .i64 0)] fun a hE => ?_
 obtain ⟨s1, es1, hR⟩ := bind_some hm
 refine Runs.join (fun a w => ∃ s2, s1 = Sum.inr s2 ∧ EnvOk 19 a [] ∧ St w0 (X_s :: Blk r 3 [.int .i64 v_] :: As) w) (fun hk => ?_) ?_
 ·replace hm := es1; clear es1
  refine Runs.block ?_
  refine Runs.loop (fun m a w => ∃ (x : Int), EnvOk 19 a [(0, .slice sb_s s.length sc_s), (1, .func (.func 244) #[] #[.pointer (some ⟨r, 0, none⟩)]), (7, .int .i64 (s.length : Int)), (8, .int .i64 x)] ∧ St w0 (X_s :: Blk r 3 [.int .i64 v_] :: As) w ∧ slices_IndexFunc_int_g244_l0 (s.length : Int) s v_ m x = some s1) k ⟨0, hE.sel [0, 1, 7, 8] (by kernel_rfl), H.t1.t1, hm⟩ ?_
  rintro m ih a w ⟨x, hE, H, hm⟩
  cases m with
  | zero => simp [slices_IndexFunc_int_g244_l0] at hm
  | succ m =>
   rw [slices_IndexFunc_int_g244_l0] at hm
   refine Runs.sr ?_
   refine WR.seg hE 1 [] [0, 1, 7, 8, 9] (Lo := [(0, .slice sb_s s.length sc_s), (1, .func (.func 244) #[] #[.pointer (some ⟨r, 0, none⟩)]), (7, .int .i64 (s.length : Int)), (8, .int .i64 x), (9, .bool (decide (x < (s.length : Int))))]) (obs := []) rfl (by kernel_rfl) trivial fun a hE => ?_
   refine WR.done rfl ?_
   refine Runs.seq ?_
   refine Runs.cond hE rfl (fun c => ?_) (fun c => ?_)
   ·replace hm := cond_t c hm
    refine Runs.skip ?_
    refine Runs.seq ?_
    refine Runs.block ?_
    refine Runs.sr ?_
    refine WR.e0 hE [(5, .int .i64 x)] fun a hE => ?_
    refine Runs.sr ?_
    obtain ⟨x2, ex2, hm⟩ := bind_some hm
    obtain ⟨b, o, hs, hb⟩ := SlRd.base hX_s ecI_ok H 0 rfl ex2
    refine WR.d hE 5 [.pointer (some ⟨b, o, none⟩), .int .i64 x2] [(11, .func (.func 244) #[] #[.pointer (some ⟨r, 0, none⟩)]), (15, .int .i64 x2)] (obs := [.p ((sb_s : Option Addr) = some ⟨b, o, none⟩), .p (0 ≤ (x : Int) ∧ (x : Int) < ((s.length : Nat) : Int)), .cell ⟨b, o + (Int.toNat x) * 1, none⟩ (.int .i64 x2)]) ⟨hs, hb, SlRd.cells hX_s ecI_ok H 0 rfl hs ex2 0 _ rfl, trivial⟩ fun a hE => ?_
    obtain ⟨t_, et_, hm⟩ := bind_some hm
    refine WR.eff hE rfl rfl rfl rfl (OpTo.fv hE rfl rfl rfl Tryz.call244 (skew_without_f1_ok et_ H.t1)) ?_
    rintro _ w ⟨rfl, H⟩ a hE
    refine WR.done rfl ?_
    refine Runs.cond hE rfl (fun c => ?_) (fun c => ?_)
    ·replace hm := cond_t c hm
     refine Runs.sr ?_
     refine WR.e0 hE [(4, .int .i64 x)] fun a hE => ?_
     refine Runs.ret hE Tryz.func264 rfl rfl ?_
     cases hm
     dsimp only at hR; cases hR
     exact ⟨rfl, H.t1⟩
    ·replace hm := cond_f c hm
     refine Runs.skip ?_
     refine Runs.inBlock ?_
     refine Runs.region ?_
     refine WR.e0 hE [(8, .int .i64 (w64 (x + 1)))] fun a hE => ?_
     exact ih m (Nat.lt_succ_self m) _ _ ⟨w64 (x + 1), hE.sel [0, 1, 7, 8] (by kernel_rfl), H.t1, hm⟩
   ·replace hm := cond_f c hm
    refine Runs.exit rfl ?_
    cases hm
    exact hk _ _ ⟨_, rfl, hE.sel [] (by kernel_rfl), H.t1.t1⟩
 rintro a w ⟨s2, rfl, hE, H⟩
 replace hm := hR; dsimp only at hm
 refine Runs.sr ?_
 refine WR.seg hE 1 [] [4] (Lo := [(4, .int .i64 (-1))]) (obs := []) rfl (by kernel_rfl) trivial fun a hE => ?_
 refine WR.done rfl ?_
 refine Runs.ret hE Tryz.func264 rfl rfl ?_
 cases hm
 exact ⟨rfl, H.t1.t1⟩

theorem slices_DeleteFunc_int_g244_ok {w0 w : World} {As : List HP} {k : Nat} {sb_s : Option Addr} {sc_s : Nat} {s : List Int} {v_ : Int} {r : Nat} {t : (List Int)}  (hm : slices_DeleteFunc_int_g244 k s v_ = some t) (H : St w0 (Sl 3 ecI 1 sb_s sc_s s :: Blk r 3 [.int .i64 v_] :: As) w) :
    CallsR Tryz.prog 241 #[.slice sb_s s.length sc_s, .func (.func 244) #[] #[.pointer (some ⟨r, 0, none⟩)]] w fun v w' => ∃ (sb0 : Option Addr), ∃ (sc0 : Nat), v = .slice sb0 t.length sc0 ∧ St w0 (Sl 3 ecI 1 sb0 sc0 t :: Blk r 3 [.int .i64 v_] :: As) w' := by
 rw [slices_DeleteFunc_int_g244] at hm
 refine enter (args := [.slice sb_s s.length sc_s, .func (.func 244) #[] #[.pointer (some ⟨r, 0, none⟩)]]) Tryz.func241 rfl rfl rfl fun a hE => ?_
 refine Runs.sr ?_
 refine WR.seg hE 1 [] [0, 1] (Lo := [(0, .slice sb_s s.length sc_s), (1, .func (.func 244) #[] #[.pointer (some ⟨r, 0, none⟩)])]) (obs := []) rfl (by kernel_rfl) trivial fun a hE => ?_
 refine WR.done rfl ?_
 refine Runs.sr ?_
 refine WR.d0 hE 2 [(8, .slice sb_s s.length sc_s), (9, .func (.func 244) #[] #[.pointer (some ⟨r, 0, none⟩)])] fun a hE => ?_
 obtain ⟨t_, et_, hm⟩ := bind_some hm
 replace H := H.t1.t1
 refine WR.eff hE rfl rfl rfl rfl (OpTo.fn hE rfl rfl Tryz.call264 (slices_IndexFunc_int_g244_ok (hX_s := (sl_rd 3 ecI 1 _ _ _)) (hC_s := (H.slCap 0 rfl).1) et_ H)) ?_
 rintro _ w ⟨rfl, H⟩ a hE
 refine WR.e0 hE [(5, .int .i64 t_)] fun a hE => ?_
 refine Runs.seq ?_
 refine Runs.sr ?_
 refine WR.e0 hE [(12, .bool (t_ == (-1)))] fun a hE => ?_
 refine Runs.cond hE rfl (fun c => ?_) (fun c => ?_)
 ·replace hm := cond_t c hm
  refine Runs.sr ?_
  refine WR.e0 hE [(4, .slice sb_s s.length sc_s)] fun a hE => ?_
  refine Runs.ret hE Tryz.func241 rfl rfl ?_
  cases hm
  exact ⟨sb_s, sc_s, rfl, H.t1.t1⟩
 ·replace hm := cond_f c hm
  refine Runs.skip ?_
  refine Runs.seq ?_
  refine Runs.sr ?_
  refine WR.e0 hE [(6, .int .i64 (w64 (t_ + 1)))] fun a hE => ?_
  obtain ⟨s1, es1, hm⟩ := bind_some hm
  refine Runs.join (fun a w => EnvOk 42 a [(0, .slice sb_s s1.2.length sc_s), (5, .int .i64 s1.1)] ∧ St w0 (Sl 3 ecI 1 sb_s sc_s s1.2 :: Blk r 3 [.int .i64 v_] :: As) w) (fun hk => ?_) ?_
  ·replace hm := es1; clear es1
   refine Runs.block ?_
   refine Runs.loop (fun m a w => ∃ (i : Int), ∃ (j : Int), ∃ (m_ : List Int), EnvOk 42 a [(0, .slice sb_s m_.length sc_s), (1, .func (.func 244) #[] #[.pointer (some ⟨r, 0, none⟩)]), (5, .int .i64 i), (6, .int .i64 j)] ∧ St w0 (Sl 3 ecI 1 sb_s sc_s m_ :: Blk r 3 [.int .i64 v_] :: As) w ∧ slices_DeleteFunc_int_g244_l0 v_ m i j m_ = some s1) k ⟨t_, w64 (t_ + 1), s, hE.sel [0, 1, 5, 6] (by kernel_rfl), H.t1.t1, hm⟩ ?_
   rintro m ih a w ⟨i, j, m_, hE, H, hm⟩
   cases m with
   | zero => simp [slices_DeleteFunc_int_g244_l0] at hm
   | succ m =>
    rw [slices_DeleteFunc_int_g244_l0] at hm
    refine Runs.seq ?_
    refine Runs.sr ?_
    refine WR.seg hE 4 [] [0, 1, 5, 6, 19] (Lo := [(0, .slice sb_s m_.length sc_s), (1, .func (.func 244) #[] #[.pointer (some ⟨r, 0, none⟩)]), (5, .int .i64 i), (6, .int .i64 j), (19, .bool (decide (j < (m_.length : Int))))]) (obs := []) rfl (by kernel_rfl) trivial fun a hE => ?_
    refine WR.done rfl ?_
    refine Runs.cond hE rfl (fun c => ?_) (fun c => ?_)
    ·replace hm := cond_t c hm
     refine Runs.skip ?_
     refine Runs.seq ?_
     obtain ⟨s2, es2, hm⟩ := bind_some hm
     refine Runs.join (fun a w => EnvOk 42 a [(0, .slice sb_s s2.2.length sc_s), (1, .func (.func 244) #[] #[.pointer (some ⟨r, 0, none⟩)]), (5, .int .i64 s2.1), (6, .int .i64 j)] ∧ St w0 (Sl 3 ecI 1 sb_s sc_s s2.2 :: Blk r 3 [.int .i64 v_] :: As) w) (fun hk => ?_) ?_
     ·replace hm := es2; clear es2
      refine Runs.block ?_
      refine Runs.sr ?_
      obtain ⟨x, ex, hm⟩ := bind_some hm
      obtain ⟨b, o, hs, hb⟩ := SlRd.base (sl_rd 3 ecI 1 _ _ _) ecI_ok H 0 rfl ex
      refine WR.e hE [.pointer (some ⟨b, o, none⟩), .int .i64 x] [(7, .int .i64 x)] (obs := [.p ((sb_s : Option Addr) = some ⟨b, o, none⟩), .p (0 ≤ (j : Int) ∧ (j : Int) < ((m_.length : Nat) : Int)), .cell ⟨b, o + (Int.toNat j) * 1, none⟩ (.int .i64 x)]) ⟨hs, hb, SlRd.cells (sl_rd 3 ecI 1 _ _ _) ecI_ok H 0 rfl hs ex 0 _ rfl, trivial⟩ fun a hE => ?_
      refine Runs.sr ?_
      refine WR.d0 hE 2 [(26, .func (.func 244) #[] #[.pointer (some ⟨r, 0, none⟩)]), (27, .int .i64 x)] fun a hE => ?_
      obtain ⟨t_1, et_1, hm⟩ := bind_some hm
      refine WR.eff hE rfl rfl rfl rfl (OpTo.fv hE rfl rfl rfl Tryz.call244 (skew_without_f1_ok et_1 H.t1)) ?_
      rintro _ w ⟨rfl, H⟩ a hE
      refine WR.e0 hE [(29, .bool (!t_1))] fun a hE => ?_
      refine Runs.cond hE rfl (fun c => ?_) (fun c => ?_)
      ·replace hm := cond_t c hm
       refine Runs.sr ?_
       obtain ⟨x1, ex1, hm⟩ := bind_some hm
       obtain ⟨b1, o1, hs1, hb1⟩ := SlRd.base (sl_rd 3 ecI 1 _ _ _) ecI_ok H 1 rfl ex1
       refine WR.d hE 4 [.pointer (some ⟨b1, o1, none⟩)] [(32, .int .i64 x), (33, .pointer (some ⟨b1, o1 + (Int.toNat i) * 1, none⟩))] (obs := [.p ((sb_s : Option Addr) = some ⟨b1, o1, none⟩), .p (0 ≤ (i : Int) ∧ (i : Int) < ((m_.length : Nat) : Int))]) ⟨hs1, hb1, trivial⟩ fun a hE => ?_
       refine WR.eff0 hE rfl rfl rfl (OpTo.storeSl (q := 0) (x' := x) hE H.t1 ecI_ok rfl hs1 ex1 rfl rfl rfl rfl rfl (Nat.le_of_ble_eq_true rfl) rfl) ?_
       rintro _ w H a hE
       try rw [← mSet_len m_ i x] at hE
       refine WR.done rfl ?_
       refine Runs.region ?_
       refine WR.seg hE 3 [] [0, 1, 5, 6] (Lo := [(0, .slice sb_s ((mSet m_ i x).length) sc_s), (1, .func (.func 244) #[] #[.pointer (some ⟨r, 0, none⟩)]), (5, .int .i64 (w64 (i + 1))), (6, .int .i64 j)]) (obs := []) rfl (by kernel_rfl) trivial fun a hE => ?_
       refine WR.done rfl ?_
       refine Runs.inBlock ?_
       cases hm
       exact hk _ _ ⟨hE.sel [0, 1, 5, 6] (by kernel_rfl), H.t1.t1⟩
      ·replace hm := cond_f c hm
       refine Runs.skip ?_
       refine Runs.inBlock ?_
       cases hm
       exact hk _ _ ⟨hE.sel [0, 1, 5, 6] (by kernel_rfl), H.t1⟩
     rintro a w ⟨hE, H⟩
     refine Runs.region ?_
     refine WR.seg hE 3 [] [0, 1, 5, 6] (Lo := [(0, .slice sb_s s2.2.length sc_s), (1, .func (.func 244) #[] #[.pointer (some ⟨r, 0, none⟩)]), (5, .int .i64 s2.1), (6, .int .i64 (w64 (j + 1)))]) (obs := []) rfl (by kernel_rfl) trivial fun a hE => ?_
     refine WR.done rfl ?_
     exact ih m (Nat.lt_succ_self m) _ _ ⟨s2.1, w64 (j + 1), s2.2, hE.sel [0, 1, 5, 6] (by kernel_rfl), H.t1.t1, hm⟩
    ·replace hm := cond_f c hm
     refine Runs.exit rfl ?_
     cases hm
     exact hk _ _ ⟨hE.sel [0, 5] (by kernel_rfl), H.t1.t1⟩
  rintro a w ⟨hE, H⟩
  refine Runs.sr ?_
  obtain ⟨l, el, hm⟩ := bind_some hm
  obtain ⟨sb, q⟩ : ∃ z, rebase sb_s sc_s (Int.toNat s1.1) 1 = z := ⟨_, rfl⟩
  obtain ⟨sc, q1⟩ : ∃ z, sc_s - (Int.toNat s1.1) = z := ⟨_, rfl⟩
  refine WR.seg hE 3 [.slice sb l.length sc] [0, 5, 38] (Lo := [(0, .slice sb_s s1.2.length sc_s), (5, .int .i64 s1.1), (38, .slice sb l.length sc)]) (obs := [.p (rebase sb_s sc_s (Int.toNat s1.1) 1 = sb), .p (s1.2.length - (Int.toNat s1.1) = l.length), .p (sc_s - (Int.toNat s1.1) = sc), .p (0 ≤ (s1.1 : Int) ∧ (s1.1 : Int) ≤ ((s1.2.length : Nat) : Int))]) rfl (by kernel_rfl) ⟨q, cut_len el, q1, cut_bd0 el, trivial⟩ fun a hE => ?_
  refine WR.eff0 hE rfl rfl rfl (OpTo.clearSl (z := 0) hE H ecI_ok el q q1 rfl rfl rfl rfl rfl rfl) ?_
  rintro _ w ⟨_, H⟩ a hE
  try rw [← mClear_len (z := 0) el] at hE
  refine WR.done rfl ?_
  refine Runs.sr ?_
  obtain ⟨l1, el1, hm⟩ := bind_some hm
  obtain ⟨sb1, q2⟩ : ∃ z, rebase sb_s sc_s (Int.toNat 0) 1 = z := ⟨_, rfl⟩
  obtain ⟨sc1, q3⟩ : ∃ z, sc_s - (Int.toNat 0) = z := ⟨_, rfl⟩
  refine WR.seg hE 4 [.slice sb1 l1.length sc1] [4] (Lo := [(4, .slice sb1 l1.length sc1)]) (obs := [.p (rebase sb_s sc_s 0 1 = sb1), .p ((Int.toNat s1.1) - 0 = l1.length), .p (sc_s - 0 = sc1), .p (0 ≤ (s1.1 : Int) ∧ (s1.1 : Int) ≤ ((sc_s : Nat) : Int))]) rfl (by kernel_rfl) ⟨q2, cut_len el1, q3, cut_cap el1 (H.slCap 0 rfl).1, trivial⟩ fun a hE => ?_
  refine WR.done rfl ?_
  replace H := H.slCut' ecI_ok el1 q2 q3
  refine Runs.ret hE Tryz.func241 rfl rfl ?_
  cases hm
  exact ⟨sb1, sc1, rfl, H.t1.t1⟩

end Go.Proofs.YtgchbhnchhiehaaGreat
