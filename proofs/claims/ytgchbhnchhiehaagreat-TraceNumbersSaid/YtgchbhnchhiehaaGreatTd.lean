import Derived.Test.YtgchbhnchhiehaaGreatE17
set_option linter.unusedVariables false
set_option linter.unusedSimpArgs false
set_option maxRecDepth 10000
set_option maxHeartbeats 4000000
namespace Go.Proofs.YtgchbhnchhiehaaGreat
open Go.Th

structure arena_cell where
  f0 : Int
  f1 : Int
  f2 : Int
  f3 : Int
  f4 : Int
  f5 : Int
  f6 : Int
  f7 : Int
  f8 : Int
  f9 : Int
  taken : Bool

def arena_cell.enc (x : arena_cell) : List Value := [.int .i64 x.f0, .int .i64 x.f1, .int .i64 x.f2, .int .i64 x.f3, .int .i64 x.f4, .int .i64 x.f5, .int .i64 x.f6, .int .i64 x.f7, .int .i64 x.f8, .int .i64 x.f9, .bool x.taken]

def arena_cell.get_f (x : arena_cell) (i : Int) : Option Int :=
  if i = 0 then some x.f0 else if i = 1 then some x.f1 else if i = 2 then some x.f2 else if i = 3 then some x.f3 else if i = 4 then some x.f4 else if i = 5 then some x.f5 else if i = 6 then some x.f6 else if i = 7 then some x.f7 else if i = 8 then some x.f8 else if i = 9 then some x.f9 else none

def arena_cell.set_f (x : arena_cell) (i v : Int) : Option arena_cell :=
  if i = 0 then some (arena_cell.mk v x.f1 x.f2 x.f3 x.f4 x.f5 x.f6 x.f7 x.f8 x.f9 x.taken) else if i = 1 then some (arena_cell.mk x.f0 v x.f2 x.f3 x.f4 x.f5 x.f6 x.f7 x.f8 x.f9 x.taken) else if i = 2 then some (arena_cell.mk x.f0 x.f1 v x.f3 x.f4 x.f5 x.f6 x.f7 x.f8 x.f9 x.taken) else if i = 3 then some (arena_cell.mk x.f0 x.f1 x.f2 v x.f4 x.f5 x.f6 x.f7 x.f8 x.f9 x.taken) else if i = 4 then some (arena_cell.mk x.f0 x.f1 x.f2 x.f3 v x.f5 x.f6 x.f7 x.f8 x.f9 x.taken) else if i = 5 then some (arena_cell.mk x.f0 x.f1 x.f2 x.f3 x.f4 v x.f6 x.f7 x.f8 x.f9 x.taken) else if i = 6 then some (arena_cell.mk x.f0 x.f1 x.f2 x.f3 x.f4 x.f5 v x.f7 x.f8 x.f9 x.taken) else if i = 7 then some (arena_cell.mk x.f0 x.f1 x.f2 x.f3 x.f4 x.f5 x.f6 v x.f8 x.f9 x.taken) else if i = 8 then some (arena_cell.mk x.f0 x.f1 x.f2 x.f3 x.f4 x.f5 x.f6 x.f7 v x.f9 x.taken) else if i = 9 then some (arena_cell.mk x.f0 x.f1 x.f2 x.f3 x.f4 x.f5 x.f6 x.f7 x.f8 v x.taken) else none

theorem arena_cell.enc_ok : EncOk arena_cell.enc 11 := ⟨fun _ => rfl, fun x u hu => by simp only [arena_cell.enc, List.mem_cons, List.not_mem_nil, or_false] at hu; rcases hu with rfl | rfl | rfl | rfl | rfl | rfl | rfl | rfl | rfl | rfl | rfl <;> rfl⟩

structure meter_Meter where
  steps : Int
  begun : Int
  most : Int

structure arena_Arena where
  l : List arena_cell
  never : Int
  free : List Int
  m_ : meter_Meter

structure slots_heap where
  kind : Int
  root : Int
  n : Int

def slots_heap.enc (x : slots_heap) : List Value := [.int .i64 x.kind, .int .i64 x.root, .int .i64 x.n]

theorem slots_heap.enc_ok : EncOk slots_heap.enc 3 := ⟨fun _ => rfl, fun x u hu => by simp only [slots_heap.enc, List.mem_cons, List.not_mem_nil, or_false] at hu; rcases hu with rfl | rfl | rfl <;> rfl⟩

structure pool_place_slots_heap where
  gen : Int
  taken : Bool
  v_ : slots_heap

def pool_place_slots_heap.enc (x : pool_place_slots_heap) : List Value := [.int .i64 x.gen, .bool x.taken, .int .i64 x.v_.kind, .int .i64 x.v_.root, .int .i64 x.v_.n]

theorem pool_place_slots_heap.enc_ok : EncOk pool_place_slots_heap.enc 5 := ⟨fun _ => rfl, fun x u hu => by simp only [pool_place_slots_heap.enc, List.mem_cons, List.not_mem_nil, or_false] at hu; rcases hu with rfl | rfl | rfl | rfl | rfl <;> rfl⟩

structure pool_Pool_slots_heap where
  most : Int
  l : List pool_place_slots_heap
  free : List Int

structure api_Ref where
  At : Int
  Gen : Int

def api_Ref.enc (x : api_Ref) : List Value := [.int .i64 x.At, .int .i64 x.Gen]

theorem api_Ref.enc_ok : EncOk api_Ref.enc 2 := ⟨fun _ => rfl, fun x u hu => by simp only [api_Ref.enc, List.mem_cons, List.not_mem_nil, or_false] at hu; rcases hu with rfl | rfl <;> rfl⟩

structure slots_thing where
  cell : Int
  heap : api_Ref

def slots_thing.enc (x : slots_thing) : List Value := [.int .i64 x.cell, .int .i64 x.heap.At, .int .i64 x.heap.Gen]

theorem slots_thing.enc_ok : EncOk slots_thing.enc 3 := ⟨fun _ => rfl, fun x u hu => by simp only [slots_thing.enc, List.mem_cons, List.not_mem_nil, or_false] at hu; rcases hu with rfl | rfl | rfl <;> rfl⟩

structure pool_place_slots_thing where
  gen : Int
  taken : Bool
  v_ : slots_thing

def pool_place_slots_thing.enc (x : pool_place_slots_thing) : List Value := [.int .i64 x.gen, .bool x.taken, .int .i64 x.v_.cell, .int .i64 x.v_.heap.At, .int .i64 x.v_.heap.Gen]

theorem pool_place_slots_thing.enc_ok : EncOk pool_place_slots_thing.enc 5 := ⟨fun _ => rfl, fun x u hu => by simp only [pool_place_slots_thing.enc, List.mem_cons, List.not_mem_nil, or_false] at hu; rcases hu with rfl | rfl | rfl | rfl | rfl <;> rfl⟩

structure pool_Pool_slots_thing where
  most : Int
  l : List pool_place_slots_thing
  free : List Int

structure slots_Table where
  heaps : pool_Pool_slots_heap
  items : pool_Pool_slots_thing
  at_ : List (Int × api_Ref)

def api_Ref.val (x : api_Ref) : Value := .agg #[.int .i64 x.At, .int .i64 x.Gen]

structure api_Entry where
  Key : Int
  Serial : Int

def api_Entry.enc (x : api_Entry) : List Value := [.int .i64 x.Key, .int .i64 x.Serial]

theorem api_Entry.enc_ok : EncOk api_Entry.enc 2 := ⟨fun _ => rfl, fun x u hu => by simp only [api_Entry.enc, List.mem_cons, List.not_mem_nil, or_false] at hu; rcases hu with rfl | rfl <;> rfl⟩

structure pq_Queues where
  items : Int
  a_ : arena_Arena
  t_ : slots_Table
  entries : List (api_Ref × api_Entry)
  serial : Int

def api_Entry.val (x : api_Entry) : Value := .agg #[.int .i64 x.Key, .int .i64 x.Serial]

structure jobs_Job where
  Queue : Int
  Time : Int
  Data : Int
  Item : api_Ref

def jobs_Job.enc (x : jobs_Job) : List Value := [.int .i64 x.Queue, .int .i64 x.Time, .int .i64 x.Data, .int .i64 x.Item.At, .int .i64 x.Item.Gen]

theorem jobs_Job.enc_ok : EncOk jobs_Job.enc 5 := ⟨fun _ => rfl, fun x u hu => by simp only [jobs_Job.enc, List.mem_cons, List.not_mem_nil, or_false] at hu; rcases hu with rfl | rfl | rfl | rfl | rfl <;> rfl⟩

structure pool_place_jobs_Job where
  gen : Int
  taken : Bool
  v_ : jobs_Job

def pool_place_jobs_Job.enc (x : pool_place_jobs_Job) : List Value := [.int .i64 x.gen, .bool x.taken, .int .i64 x.v_.Queue, .int .i64 x.v_.Time, .int .i64 x.v_.Data, .int .i64 x.v_.Item.At, .int .i64 x.v_.Item.Gen]

theorem pool_place_jobs_Job.enc_ok : EncOk pool_place_jobs_Job.enc 7 := ⟨fun _ => rfl, fun x u hu => by simp only [pool_place_jobs_Job.enc, List.mem_cons, List.not_mem_nil, or_false] at hu; rcases hu with rfl | rfl | rfl | rfl | rfl | rfl | rfl <;> rfl⟩

structure pool_Pool_jobs_Job where
  most : Int
  l : List pool_place_jobs_Job
  free : List Int

structure jobs_Table where
  p : pool_Pool_jobs_Job
  by_ : List (api_Ref × api_Ref)

structure clock_Clock where
  now : Int

structure dispatch_Dispatcher where
  kind : Int
  most : Int
  q : pq_Queues
  heaps0 : api_Ref
  heaps1 : api_Ref
  t_ : jobs_Table
  when : List (api_Ref × Int)
  clock : clock_Clock
  budget : Int
  last : Int
  top : Int

structure api_Call where
  Op : Int
  Kind : Int
  Heap : api_Ref
  Other : api_Ref
  Item : api_Ref
  Key : Int

def api_Call.enc (x : api_Call) : List Value := [.int .i64 x.Op, .int .i64 x.Kind, .int .i64 x.Heap.At, .int .i64 x.Heap.Gen, .int .i64 x.Other.At, .int .i64 x.Other.Gen, .int .i64 x.Item.At, .int .i64 x.Item.Gen, .int .i64 x.Key]

theorem api_Call.enc_ok : EncOk api_Call.enc 9 := ⟨fun _ => rfl, fun x u hu => by simp only [api_Call.enc, List.mem_cons, List.not_mem_nil, or_false] at hu; rcases hu with rfl | rfl | rfl | rfl | rfl | rfl | rfl | rfl | rfl <;> rfl⟩

structure api_Answer where
  Why : Int
  Heap : api_Ref
  Item : api_Ref
  Entry : api_Entry
  N : Int

def api_Answer.enc (x : api_Answer) : List Value := [.int .i64 x.Why, .int .i64 x.Heap.At, .int .i64 x.Heap.Gen, .int .i64 x.Item.At, .int .i64 x.Item.Gen, .int .i64 x.Entry.Key, .int .i64 x.Entry.Serial, .int .i64 x.N]

theorem api_Answer.enc_ok : EncOk api_Answer.enc 8 := ⟨fun _ => rfl, fun x u hu => by simp only [api_Answer.enc, List.mem_cons, List.not_mem_nil, or_false] at hu; rcases hu with rfl | rfl | rfl | rfl | rfl | rfl | rfl | rfl <;> rfl⟩

def api_Call.val (x : api_Call) : Value := .agg #[.int .i64 x.Op, .int .i64 x.Kind, .int .i64 x.Heap.At, .int .i64 x.Heap.Gen, .int .i64 x.Other.At, .int .i64 x.Other.Gen, .int .i64 x.Item.At, .int .i64 x.Item.Gen, .int .i64 x.Key]

def slots_heap.val (x : slots_heap) : Value := .agg #[.int .i64 x.kind, .int .i64 x.root, .int .i64 x.n]

structure trees_ranked where
  n : Int
  rank : Int

def trees_ranked.enc (x : trees_ranked) : List Value := [.int .i64 x.n, .int .i64 x.rank]

theorem trees_ranked.enc_ok : EncOk trees_ranked.enc 2 := ⟨fun _ => rfl, fun x u hu => by simp only [trees_ranked.enc, List.mem_cons, List.not_mem_nil, or_false] at hu; rcases hu with rfl | rfl <;> rfl⟩

def trees_ranked.val (x : trees_ranked) : Value := .agg #[.int .i64 x.n, .int .i64 x.rank]

def slots_thing.val (x : slots_thing) : Value := .agg #[.int .i64 x.cell, .int .i64 x.heap.At, .int .i64 x.heap.Gen]

def api_Ref.eq (x y : api_Ref) : Bool := (x.At == y.At && (x.Gen == y.Gen && true))

structure api_Command where
  Kind : Int
  Queue : Int
  Job : api_Ref
  Time : Int
  Data : Int

def api_Command.enc (x : api_Command) : List Value := [.int .i64 x.Kind, .int .i64 x.Queue, .int .i64 x.Job.At, .int .i64 x.Job.Gen, .int .i64 x.Time, .int .i64 x.Data]

theorem api_Command.enc_ok : EncOk api_Command.enc 6 := ⟨fun _ => rfl, fun x u hu => by simp only [api_Command.enc, List.mem_cons, List.not_mem_nil, or_false] at hu; rcases hu with rfl | rfl | rfl | rfl | rfl | rfl <;> rfl⟩

structure mail_Box_api_Command where
  c_ : MCh api_Command

def api_Command.val (x : api_Command) : Value := .agg #[.int .i64 x.Kind, .int .i64 x.Queue, .int .i64 x.Job.At, .int .i64 x.Job.Gen, .int .i64 x.Time, .int .i64 x.Data]

structure mail_Desk_api_Command where
  l : List mail_Box_api_Command

structure server_Server where
  d : dispatch_Dispatcher
  desk : mail_Desk_api_Command

structure api_Reply where
  Why : Int
  Job : api_Ref
  Time : Int
  Data : Int
  N : Int

def api_Reply.enc (x : api_Reply) : List Value := [.int .i64 x.Why, .int .i64 x.Job.At, .int .i64 x.Job.Gen, .int .i64 x.Time, .int .i64 x.Data, .int .i64 x.N]

theorem api_Reply.enc_ok : EncOk api_Reply.enc 6 := ⟨fun _ => rfl, fun x u hu => by simp only [api_Reply.enc, List.mem_cons, List.not_mem_nil, or_false] at hu; rcases hu with rfl | rfl | rfl | rfl | rfl | rfl <;> rfl⟩

structure trace_Event where
  Command : api_Command
  Reply : api_Reply
  Now : Int
  Steps : Int

def trace_Event.enc (x : trace_Event) : List Value := [.int .i64 x.Command.Kind, .int .i64 x.Command.Queue, .int .i64 x.Command.Job.At, .int .i64 x.Command.Job.Gen, .int .i64 x.Command.Time, .int .i64 x.Command.Data, .int .i64 x.Reply.Why, .int .i64 x.Reply.Job.At, .int .i64 x.Reply.Job.Gen, .int .i64 x.Reply.Time, .int .i64 x.Reply.Data, .int .i64 x.Reply.N, .int .i64 x.Now, .int .i64 x.Steps]

theorem trace_Event.enc_ok : EncOk trace_Event.enc 14 := ⟨fun _ => rfl, fun x u hu => by simp only [trace_Event.enc, List.mem_cons, List.not_mem_nil, or_false] at hu; rcases hu with rfl | rfl | rfl | rfl | rfl | rfl | rfl | rfl | rfl | rfl | rfl | rfl | rfl | rfl <;> rfl⟩

structure trace_Book where
  s : server_Server
  l : List trace_Event

structure thicketkeep_D where
  Kind : Int
  Queue : Int
  Job : Int
  Data : Int
  Time : Int
  Raw : api_Command

def thicketkeep_D.enc (x : thicketkeep_D) : List Value := [.int .i64 x.Kind, .int .i64 x.Queue, .int .i64 x.Job, .int .i64 x.Data, .int .i64 x.Time, .int .i64 x.Raw.Kind, .int .i64 x.Raw.Queue, .int .i64 x.Raw.Job.At, .int .i64 x.Raw.Job.Gen, .int .i64 x.Raw.Time, .int .i64 x.Raw.Data]

theorem thicketkeep_D.enc_ok : EncOk thicketkeep_D.enc 11 := ⟨fun _ => rfl, fun x u hu => by simp only [thicketkeep_D.enc, List.mem_cons, List.not_mem_nil, or_false] at hu; rcases hu with rfl | rfl | rfl | rfl | rfl | rfl | rfl | rfl | rfl | rfl | rfl <;> rfl⟩

structure api_Act where
  Kind : Int
  Box : Int
  Command : api_Command

def api_Act.enc (x : api_Act) : List Value := [.int .i64 x.Kind, .int .i64 x.Box, .int .i64 x.Command.Kind, .int .i64 x.Command.Queue, .int .i64 x.Command.Job.At, .int .i64 x.Command.Job.Gen, .int .i64 x.Command.Time, .int .i64 x.Command.Data]

theorem api_Act.enc_ok : EncOk api_Act.enc 8 := ⟨fun _ => rfl, fun x u hu => by simp only [api_Act.enc, List.mem_cons, List.not_mem_nil, or_false] at hu; rcases hu with rfl | rfl | rfl | rfl | rfl | rfl | rfl | rfl <;> rfl⟩

structure thicketlaw25_Ask where
  Kind : Int
  Box : Int
  D : thicketkeep_D
  Raw : api_Act

def thicketlaw25_Ask.enc (x : thicketlaw25_Ask) : List Value := [.int .i64 x.Kind, .int .i64 x.Box, .int .i64 x.D.Kind, .int .i64 x.D.Queue, .int .i64 x.D.Job, .int .i64 x.D.Data, .int .i64 x.D.Time, .int .i64 x.D.Raw.Kind, .int .i64 x.D.Raw.Queue, .int .i64 x.D.Raw.Job.At, .int .i64 x.D.Raw.Job.Gen, .int .i64 x.D.Raw.Time, .int .i64 x.D.Raw.Data, .int .i64 x.Raw.Kind, .int .i64 x.Raw.Box, .int .i64 x.Raw.Command.Kind, .int .i64 x.Raw.Command.Queue, .int .i64 x.Raw.Command.Job.At, .int .i64 x.Raw.Command.Job.Gen, .int .i64 x.Raw.Command.Time, .int .i64 x.Raw.Command.Data]

theorem thicketlaw25_Ask.enc_ok : EncOk thicketlaw25_Ask.enc 21 := ⟨fun _ => rfl, fun x u hu => by simp only [thicketlaw25_Ask.enc, List.mem_cons, List.not_mem_nil, or_false] at hu; rcases hu with rfl | rfl | rfl | rfl | rfl | rfl | rfl | rfl | rfl | rfl | rfl | rfl | rfl | rfl | rfl | rfl | rfl | rfl | rfl | rfl | rfl <;> rfl⟩

def thicketkeep_D.val (x : thicketkeep_D) : Value := .agg #[.int .i64 x.Kind, .int .i64 x.Queue, .int .i64 x.Job, .int .i64 x.Data, .int .i64 x.Time, .int .i64 x.Raw.Kind, .int .i64 x.Raw.Queue, .int .i64 x.Raw.Job.At, .int .i64 x.Raw.Job.Gen, .int .i64 x.Raw.Time, .int .i64 x.Raw.Data]

def thicketlaw25_Ask.val (x : thicketlaw25_Ask) : Value := .agg #[.int .i64 x.Kind, .int .i64 x.Box, .int .i64 x.D.Kind, .int .i64 x.D.Queue, .int .i64 x.D.Job, .int .i64 x.D.Data, .int .i64 x.D.Time, .int .i64 x.D.Raw.Kind, .int .i64 x.D.Raw.Queue, .int .i64 x.D.Raw.Job.At, .int .i64 x.D.Raw.Job.Gen, .int .i64 x.D.Raw.Time, .int .i64 x.D.Raw.Data, .int .i64 x.Raw.Kind, .int .i64 x.Raw.Box, .int .i64 x.Raw.Command.Kind, .int .i64 x.Raw.Command.Queue, .int .i64 x.Raw.Command.Job.At, .int .i64 x.Raw.Command.Job.Gen, .int .i64 x.Raw.Command.Time, .int .i64 x.Raw.Command.Data]

def jobs_Job.val (x : jobs_Job) : Value := .agg #[.int .i64 x.Queue, .int .i64 x.Time, .int .i64 x.Data, .int .i64 x.Item.At, .int .i64 x.Item.Gen]

def api_Reply.eq (x y : api_Reply) : Bool := (x.Why == y.Why && (api_Ref.eq x.Job y.Job && (x.Time == y.Time && (x.Data == y.Data && (x.N == y.N && true)))))

def api_Command.eq (x y : api_Command) : Bool := (x.Kind == y.Kind && (x.Queue == y.Queue && (api_Ref.eq x.Job y.Job && (x.Time == y.Time && (x.Data == y.Data && true)))))

structure thicketref2_Pool where
  Most : Int
  Gens : List Int
  In : List Bool
  V : List Int
  Back : List Int

structure thicketref22_Job where
  Queue : Int
  Data : Int
  E : api_Entry
  R : api_Ref

def thicketref22_Job.enc (x : thicketref22_Job) : List Value := [.int .i64 x.Queue, .int .i64 x.Data, .int .i64 x.E.Key, .int .i64 x.E.Serial, .int .i64 x.R.At, .int .i64 x.R.Gen]

theorem thicketref22_Job.enc_ok : EncOk thicketref22_Job.enc 6 := ⟨fun _ => rfl, fun x u hu => by simp only [thicketref22_Job.enc, List.mem_cons, List.not_mem_nil, or_false] at hu; rcases hu with rfl | rfl | rfl | rfl | rfl | rfl <;> rfl⟩

structure thicketref22_Dispatcher where
  Most : Int
  Now : Int
  Next : Int
  Pool : thicketref2_Pool
  L : List thicketref22_Job

def kind_Worst (k_ : Int) : Option (Bool) :=
  some ((decide (k_ ≥ 1)) && (decide (k_ ≤ 3)))

def bits_Len64 (x : Int) : Option (Int) :=
  ((bif decide (x ≥ 4294967296) then
    some (Int.fdiv x (2 ^ (min (Int.toNat 32) 64)), 32)
  else
    some (x, 0))).bind fun s =>
  ((bif decide (s.1 ≥ 65536) then
    some (Int.fdiv s.1 (2 ^ (min (Int.toNat 16) 64)), w64 (s.2 + 16))
  else
    some (s.1, s.2))).bind fun s1 =>
  ((bif decide (s1.1 ≥ 256) then
    some (Int.fdiv s1.1 (2 ^ (min (Int.toNat 8) 64)), w64 (s1.2 + 8))
  else
    some (s1.1, s1.2))).bind fun s2 =>
  (mByte (ByteArray.mk #[0, 1, 2, 2, 3, 3, 3, 3, 4, 4, 4, 4, 4, 4, 4, 4, 5, 5, 5, 5, 5, 5, 5, 5, 5, 5, 5, 5, 5, 5, 5, 5, 6, 6, 6, 6, 6, 6, 6, 6, 6, 6, 6, 6, 6, 6, 6, 6, 6, 6, 6, 6, 6, 6, 6, 6, 6, 6, 6, 6, 6, 6, 6, 6, 7, 7, 7, 7, 7, 7, 7, 7, 7, 7, 7, 7, 7, 7, 7, 7, 7, 7, 7, 7, 7, 7, 7, 7, 7, 7, 7, 7, 7, 7, 7, 7, 7, 7, 7, 7, 7, 7, 7, 7, 7, 7, 7, 7, 7, 7, 7, 7, 7, 7, 7, 7, 7, 7, 7, 7, 7, 7, 7, 7, 7, 7, 7, 7, 8, 8, 8, 8, 8, 8, 8, 8, 8, 8, 8, 8, 8, 8, 8, 8, 8, 8, 8, 8, 8, 8, 8, 8, 8, 8, 8, 8, 8, 8, 8, 8, 8, 8, 8, 8, 8, 8, 8, 8, 8, 8, 8, 8, 8, 8, 8, 8, 8, 8, 8, 8, 8, 8, 8, 8, 8, 8, 8, 8, 8, 8, 8, 8, 8, 8, 8, 8, 8, 8, 8, 8, 8, 8, 8, 8, 8, 8, 8, 8, 8, 8, 8, 8, 8, 8, 8, 8, 8, 8, 8, 8, 8, 8, 8, 8, 8, 8, 8, 8, 8, 8, 8, 8, 8, 8, 8, 8, 8, 8, 8, 8, 8, 8, 8, 8, 8, 8, 8, 8, 8, 8, 8, 8, 8, 8, 8, 8]) (IntKind.wrap .u8 (s2.1))).bind fun c_ =>
  some (w64 (s2.2 + (w64 (c_))))

def bits_Len (x : Int) : Option (Int) :=
  (bits_Len64 x).bind fun t_ =>
  some t_

def order_Bits (n : Int) : Option (Int) :=
  (bits_Len (IntKind.wrap .u64 ((if n > 0 then n else 0)))).bind fun t_ =>
  some t_

def order_Add (a_ : Int) (b : Int) : Option (Int) :=
  (bif (decide (b > 0)) && (decide (a_ > w64 (9223372036854775807 - b))) then
    some 9223372036854775807
  else
    (bif (decide (b < 0)) && (decide (a_ < w64 ((-9223372036854775808) - b))) then
      some (-9223372036854775808)
    else
      some (w64 (a_ + b))))

def order_Limit_l0 (b1 : Int) (x1 : Int) : Nat → Int → Int → Option (Int)
  | 0, _, _ => none
  | m + 1, a_1, x =>
    (bif decide (x < x1) then
      (order_Add a_1 b1).bind fun t_1 =>
      order_Limit_l0 b1 x1 m t_1 (w64 (x + 1))
    else
      some a_1)

def order_Limit (k : Nat) (a_ : Int) (b : Int) (n : Int) : Option (Int) :=
  (order_Bits n).bind fun t_ =>
  (order_Limit_l0 b t_ k a_ 0).bind fun s =>
  some s

def bound_Budget (k : Nat) (k_ : Int) (items : Int) : Option (Int × Bool) :=
  ((kind_Worst k_).bind fun t_ =>
  (bif !t_ then
    some true
  else
    (bif decide (items < 1) then
      some true
    else
      some (decide (items > 4096))))).bind fun s =>
  (bif s then
    some (0, false)
  else
    (order_Limit k 2000 1600 (w64 (items + 1))).bind fun t_1 =>
    some (t_1, true))

def meter_New  : Option (meter_Meter) :=
  some (meter_Meter.mk 0 0 0)

def arena_New (cells : Int) : Option (arena_Arena) :=
  (mMake (if (if 65536 < cells then 65536 else cells) > 0 then (if 65536 < cells then 65536 else cells) else 0) (arena_cell.mk 0 0 0 0 0 0 0 0 0 0 false)).bind fun l =>
  (meter_New).bind fun t_ =>
  some (arena_Arena.mk l 0 ([] : List Int) t_)

def pool_New_slots_heap (places : Int) : Option (pool_Pool_slots_heap) :=
  some (pool_Pool_slots_heap.mk (if (if 65536 < places then 65536 else places) > 0 then (if 65536 < places then 65536 else places) else 0) ([] : List pool_place_slots_heap) ([] : List Int))

def pool_New_slots_thing (places : Int) : Option (pool_Pool_slots_thing) :=
  some (pool_Pool_slots_thing.mk (if (if 65536 < places then 65536 else places) > 0 then (if 65536 < places then 65536 else places) else 0) ([] : List pool_place_slots_thing) ([] : List Int))

def slots_New (items : Int) : Option (slots_Table) :=
  (pool_New_slots_heap 64).bind fun t_ =>
  (pool_New_slots_thing (if (if 16384 < items then 16384 else items) > 1 then (if 16384 < items then 16384 else items) else 1)).bind fun t_1 =>
  some (slots_Table.mk t_ t_1 ([] : List (Int × api_Ref)))

def pq_New (items : Int) : Option ((Option pq_Queues) × Int) :=
  (bif (decide (items < 1)) || (decide (items > 16384)) then
    some ((none : Option pq_Queues), 1)
  else
    (arena_New (w64 (2 * items))).bind fun t_ =>
    (slots_New items).bind fun t_1 =>
    some (some (pq_Queues.mk items t_ t_1 ([] : List (api_Ref × api_Entry)) 0), 0))

def pool_New_jobs_Job (places : Int) : Option (pool_Pool_jobs_Job) :=
  some (pool_Pool_jobs_Job.mk (if (if 65536 < places then 65536 else places) > 0 then (if 65536 < places then 65536 else places) else 0) ([] : List pool_place_jobs_Job) ([] : List Int))

def jobs_New (jobs : Int) : Option (jobs_Table) :=
  (pool_New_jobs_Job (if (if 4096 < jobs then 4096 else jobs) > 1 then (if 4096 < jobs then 4096 else jobs) else 1)).bind fun t_ =>
  some (jobs_Table.mk t_ ([] : List (api_Ref × api_Ref)))

def clock_New  : Option (clock_Clock) :=
  some (clock_Clock.mk 0)

def pq_Queues_Do_nil0 (c_ : api_Call) : Option (api_Answer) :=
  none

def arena_Arena_Meter (a_ : arena_Arena) : Option (Unit) :=
  some ()

def meter_Meter_Spent (m_ : meter_Meter) : Option (Int) :=
  some (w64 (m_.steps - m_.begun))

def meter_Meter_Most (m_ : meter_Meter) : Option (Int) :=
  (meter_Meter_Spent m_).bind fun t_ =>
  some (if t_ > m_.most then t_ else m_.most)

def meter_Meter_Begin (m_ : meter_Meter) : Option (meter_Meter) :=
  (meter_Meter_Most m_).bind fun t_ =>
  some (meter_Meter.mk m_.steps m_.steps t_)

def kind_Right (k_ : Int) : Option (Bool) :=
  some ((decide (k_ ≥ 1)) && (decide (k_ ≤ 5)))

def pool_Pool_slots_heap_Take (p : pool_Pool_slots_heap) (v_ : slots_heap) : Option (api_Ref × Bool × pool_Pool_slots_heap) :=
  ((bif decide (w64 ((p.free.length : Int) - 1) ≥ 0) then
    (mIdx p.free (w64 ((p.free.length : Int) - 1))).bind fun x =>
    (mCut p.free 0 (w64 ((p.free.length : Int) - 1))).bind fun l =>
    some (.inr (x, pool_Pool_slots_heap.mk p.most p.l l))
  else
    (bif decide ((p.l.length : Int) ≥ p.most) then
      some (.inl (api_Ref.mk 0 0, false, p))
    else
      (mApp p.l ([pool_place_slots_heap.mk 0 false (slots_heap.mk 0 0 0)] : List pool_place_slots_heap)).bind fun l1 =>
      some (.inr ((p.l.length : Int), pool_Pool_slots_heap.mk p.most l1 p.free)))) : Option ((api_Ref × Bool × pool_Pool_slots_heap) ⊕ (Int × pool_Pool_slots_heap))).bind fun s =>
  match s with
  | .inl r_ => some r_
  | .inr s1 =>
    (mIdx s1.2.l s1.1).bind fun x1 =>
    some (api_Ref.mk s1.1 (w64 (x1.gen + 1)), true, pool_Pool_slots_heap.mk s1.2.most (mSet (mSet (mSet s1.2.l s1.1 (pool_place_slots_heap.mk (w64 (x1.gen + 1)) x1.taken x1.v_)) s1.1 (pool_place_slots_heap.mk (w64 (x1.gen + 1)) true x1.v_)) s1.1 (pool_place_slots_heap.mk (w64 (x1.gen + 1)) true v_)) s1.2.free)

def slots_Table_Make (t_ : slots_Table) (k_ : Int) : Option (api_Ref × Int × slots_Table) :=
  (kind_Right k_).bind fun t_1 =>
  (bif !t_1 then
    some (api_Ref.mk 0 0, 24, t_)
  else
    (pool_Pool_slots_heap_Take t_.heaps (slots_heap.mk k_ (-1) 0)).bind fun t_2 =>
    (bif !t_2.2.1 then
      some (api_Ref.mk 0 0, 13, slots_Table.mk t_2.2.2 t_.items t_.at_)
    else
      some (t_2.1, 0, slots_Table.mk t_2.2.2 t_.items t_.at_)))

def pool_Pool_slots_heap_find (p : pool_Pool_slots_heap) (r : api_Ref) : Option ((Option Int) × Int) :=
  ((bif decide (r.At < 0) then
    some true
  else
    (bif decide (r.At ≥ (p.l.length : Int)) then
      some true
    else
      (bif decide (r.Gen < 1) then
        some true
      else
        (mIdx p.l r.At).bind fun x1 =>
        some (decide (r.Gen > x1.gen)))))).bind fun s =>
  (bif s then
    some ((none : Option Int), 22)
  else
    (mIdx p.l r.At).bind fun x2 =>
    (bif (decide (r.Gen < x2.gen)) || (!x2.taken) then
      some ((none : Option Int), 23)
    else
      some ((some r.At : Option Int), 0)))

def pool_Pool_slots_heap_Get (p : pool_Pool_slots_heap) (r : api_Ref) : Option (slots_heap × Int) :=
  (pool_Pool_slots_heap_find p r).bind fun t_ =>
  (mCase t_.1
    ((bif t_.2 != 0 then
      some (slots_heap.mk 0 0 0, t_.2)
    else
      none))
    (fun i =>
    (mIdx p.l i).bind fun x =>
    (bif t_.2 != 0 then
      some (slots_heap.mk 0 0 0, t_.2)
    else
      some (x.v_, 0))))

def slots_Table_Heap (t_ : slots_Table) (h_ : api_Ref) : Option (Int × Int × Int × Int) :=
  (pool_Pool_slots_heap_Get t_.heaps h_).bind fun t_1 =>
  some (t_1.1.kind, t_1.1.root, t_1.1.n, t_1.2)

def pq_refused (why : Int) : Option (api_Answer) :=
  some (api_Answer.mk why (api_Ref.mk 0 0) (api_Ref.mk 0 0) (api_Entry.mk 0 0) 0)

def pool_Pool_slots_thing_Len (p : pool_Pool_slots_thing) : Option (Int) :=
  some (w64 ((p.l.length : Int) - (p.free.length : Int)))

def slots_Table_Items (t_ : slots_Table) : Option (Int) :=
  (pool_Pool_slots_thing_Len t_.items).bind fun t_1 =>
  some t_1

def meter_Meter_Tick (m_ : meter_Meter) (n : Int) : Option (meter_Meter) :=
  (order_Add m_.steps (if n > 0 then n else 0)).bind fun t_ =>
  some (meter_Meter.mk t_ m_.begun m_.most)

def arena_fresh  : Option (arena_cell) :=
  some (arena_cell.mk (-1) (-1) (-1) (-1) 0 0 (-1) 0 0 (-1) true)

def arena_Arena_Take (a_ : arena_Arena) : Option (Int × Bool × arena_Arena) :=
  (meter_Meter_Tick a_.m_ 1).bind fun t_ =>
  ((bif decide (w64 ((a_.free.length : Int) - 1) ≥ 0) then
    (mIdx a_.free (w64 ((a_.free.length : Int) - 1))).bind fun x =>
    (mCut a_.free 0 (w64 ((a_.free.length : Int) - 1))).bind fun l =>
    some (.inr (x, arena_Arena.mk a_.l a_.never l t_))
  else
    (bif decide (a_.never ≥ (a_.l.length : Int)) then
      some (.inl ((-1), false, arena_Arena.mk a_.l a_.never a_.free t_))
    else
      some (.inr (a_.never, arena_Arena.mk a_.l (w64 (a_.never + 1)) a_.free t_)))) : Option ((Int × Bool × arena_Arena) ⊕ (Int × arena_Arena))).bind fun s =>
  match s with
  | .inl r_ => some r_
  | .inr s1 =>
    (arena_fresh).bind fun t_1 =>
    (mIdx s1.2.l s1.1).bind fun x1 =>
    some (s1.1, true, arena_Arena.mk (mSet s1.2.l s1.1 t_1) s1.2.never s1.2.free s1.2.m_)

def arena_Arena_Live (a_ : arena_Arena) (c_ : Int) : Option (Bool) :=
  ((bif decide (c_ ≥ 0) then
    (bif decide (c_ < (a_.l.length : Int)) then
      (mIdx a_.l c_).bind fun x1 =>
      some x1.taken
    else
      some false)
  else
    some false)).bind fun s =>
  some s

def arena_Arena_has (a_ : arena_Arena) (c_ : Int) (field : Int) : Option (Bool) :=
  ((arena_Arena_Live a_ c_).bind fun t_ =>
  (bif t_ then
    (bif decide (field ≥ 0) then
      some (decide (field < 10))
    else
      some false)
  else
    some false)).bind fun s =>
  some s

def arena_Arena_Set (a_ : arena_Arena) (c_ : Int) (field : Int) (v_ : Int) : Option (Bool × arena_Arena) :=
  (meter_Meter_Tick a_.m_ 1).bind fun t_ =>
  (arena_Arena_has (arena_Arena.mk a_.l a_.never a_.free t_) c_ field).bind fun t_1 =>
  (bif !t_1 then
    some (false, arena_Arena.mk a_.l a_.never a_.free t_)
  else
    (mIdx a_.l c_).bind fun x =>
    (mIn field 10).bind fun u =>
    (arena_cell.set_f x field v_).bind fun y =>
    some (true, arena_Arena.mk (mSet a_.l c_ y) a_.never a_.free t_))

def item_New (a_ : arena_Arena) (key : Int) (serial : Int) : Option (Int × Bool × arena_Arena) :=
  (arena_Arena_Take a_).bind fun t_ =>
  ((bif t_.2.1 then
    (arena_Arena_Set t_.2.2 t_.1 7 key).bind fun t_1 =>
    (arena_Arena_Set t_1.2 t_.1 8 serial).bind fun t_2 =>
    some t_2.2
  else
    some t_.2.2)).bind fun s =>
  some (t_.1, t_.2.1, s)

def item_Put (a_ : arena_Arena) (n : Int) (i : Int) : Option (arena_Arena) :=
  (arena_Arena_Set a_ n 6 i).bind fun t_ =>
  (arena_Arena_Set t_.2 i 9 n).bind fun t_1 =>
  some t_1.2

def node_New (a_ : arena_Arena) (i : Int) : Option (Int × Bool × arena_Arena) :=
  (arena_Arena_Take a_).bind fun t_ =>
  ((bif t_.2.1 then
    (item_Put t_.2.2 t_.1 i).bind fun t_1 =>
    some t_1
  else
    some t_.2.2)).bind fun s =>
  some (t_.1, t_.2.1, s)

def arena_Arena_Cells (a_ : arena_Arena) : Option (Int) :=
  some (a_.l.length : Int)

def arena_Arena_Get (a_ : arena_Arena) (c_ : Int) (field : Int) : Option (Int × arena_Arena) :=
  (meter_Meter_Tick a_.m_ 1).bind fun t_ =>
  (arena_Arena_has (arena_Arena.mk a_.l a_.never a_.free t_) c_ field).bind fun t_1 =>
  (bif !t_1 then
    some ((-1), arena_Arena.mk a_.l a_.never a_.free t_)
  else
    (mIdx a_.l c_).bind fun x =>
    (mIn field 10).bind fun u =>
    (arena_cell.get_f x field).bind fun v_ =>
    some (v_, arena_Arena.mk a_.l a_.never a_.free t_))

def arena_Arena_Cell (a_ : arena_Arena) (c_ : Int) (field : Int) : Option (Int × arena_Arena) :=
  (arena_Arena_Get a_ c_ field).bind fun t_ =>
  ((bif decide (t_.1 < 0) then
    some true
  else
    some (decide (t_.1 ≥ (t_.2.l.length : Int))))).bind fun s =>
  (bif s then
    some ((-1), t_.2)
  else
    some (t_.1, t_.2))

def item_Entry (a_ : arena_Arena) (i : Int) : Option (api_Entry × arena_Arena) :=
  (arena_Arena_Get a_ i 7).bind fun t_ =>
  (arena_Arena_Get t_.2 i 8).bind fun t_1 =>
  some (api_Entry.mk t_.1 t_1.1, t_1.2)

def cmp_isNaN_int64 (x : Int) : Option (Bool) :=
  some (x != x)

def cmp_Compare_int64 (x : Int) (y : Int) : Option (Int) :=
  (cmp_isNaN_int64 x).bind fun t_ =>
  (cmp_isNaN_int64 y).bind fun t_1 =>
  (bif t_ then
    (bif t_1 then
      some 0
    else
      some (-1))
  else
    (bif t_1 then
      some 1
    else
      (bif decide (x < y) then
        some (-1)
      else
        (bif decide (x > y) then
          some 1
        else
          some 0))))

def cmp_Or_int_l0 (x1 : Int) (l : List Int) : Nat → Int → Option ((Int) ⊕ (Unit))
  | 0, _ => none
  | m + 1, x =>
    (bif decide (x < x1) then
      (mIdx l x).bind fun x2 =>
      (bif x2 != 0 then
        some (.inl x2)
      else
        cmp_Or_int_l0 x1 l m (w64 (x + 1)))
    else
      some (.inr ()))

def cmp_Or_int (k : Nat) (vals : List Int) : Option (Int) :=
  (cmp_Or_int_l0 (vals.length : Int) vals k 0).bind fun s =>
  match s with
  | .inl r_ => some r_
  | .inr s1 =>
    some 0

def order_Compare (k : Nat) (a_ : api_Entry) (b : api_Entry) : Option (Int) :=
  (cmp_Compare_int64 a_.Key b.Key).bind fun t_ =>
  (cmp_Compare_int64 a_.Serial b.Serial).bind fun t_1 =>
  (cmp_Or_int k ([t_, t_1] : List Int)).bind fun t_2 =>
  some t_2

def item_Before (k : Nat) (a_ : arena_Arena) (i : Int) (j : Int) : Option (Bool × arena_Arena) :=
  (item_Entry a_ i).bind fun t_ =>
  (item_Entry t_.2 j).bind fun t_1 =>
  (order_Compare k t_.1 t_1.1).bind fun t_2 =>
  some ((decide (t_2 < 0)) || ((t_2 == 0) && (decide (i < j))), t_1.2)

def node_Before (k : Nat) (a_ : arena_Arena) (n : Int) (m_ : Int) : Option (Bool × arena_Arena) :=
  (arena_Arena_Cell a_ n 6).bind fun t_ =>
  (arena_Arena_Cell t_.2 m_ 6).bind fun t_1 =>
  (item_Before k t_1.2 t_.1 t_1.1).bind fun t_2 =>
  some (t_2.1, t_2.2)

def leftist_rank (a_ : arena_Arena) (n : Int) : Option (Int × arena_Arena) :=
  (bif n == (-1) then
    some (0, a_)
  else
    (arena_Arena_Get a_ n 4).bind fun t_ =>
    some (t_.1, t_.2))

def leftist_fix (a_ : arena_Arena) (n : Int) : Option (Bool × arena_Arena) :=
  (arena_Arena_Cell a_ n 2).bind fun t_ =>
  (arena_Arena_Cell t_.2 n 3).bind fun t_1 =>
  (leftist_rank t_1.2 t_.1).bind fun t_2 =>
  (leftist_rank t_2.2 t_1.1).bind fun t_3 =>
  ((bif decide (t_2.1 < t_3.1) then
    (arena_Arena_Set t_3.2 n 2 t_1.1).bind fun t_4 =>
    (arena_Arena_Set t_4.2 n 3 t_.1).bind fun t_5 =>
    some (t_2.1, t_5.2)
  else
    some (t_3.1, t_3.2))).bind fun s =>
  (arena_Arena_Get s.2 n 4).bind fun t_6 =>
  (arena_Arena_Set t_6.2 n 4 (w64 (s.1 + 1))).bind fun t_7 =>
  some (t_6.1 != (w64 (s.1 + 1)), t_7.2)

def leftist_meld_l0 : Nat → Int → Int → (List Int) → arena_Arena → Option (Int × Int × (List Int) × arena_Arena)
  | 0, _, _, _, _ => none
  | m + 1, r1, s1, path, m_ =>
    ((bif r1 != (-1) then
      (bif s1 != (-1) then
        (arena_Arena_Cells m_).bind fun t_ =>
        some (decide ((path.length : Int) ≤ t_))
      else
        some false)
    else
      some false)).bind fun s3 =>
    (bif s3 then
      (node_Before m m_ s1 r1).bind fun t_1 =>
      ((bif t_1.1 then
        some (s1, r1)
      else
        some (r1, s1))).bind fun s4 =>
      (mApp path ([s4.1] : List Int)).bind fun l =>
      (arena_Arena_Cell t_1.2 s4.1 3).bind fun t_2 =>
      leftist_meld_l0 m t_2.1 s4.2 l t_2.2
    else
      some (r1, s1, path, m_))

def leftist_meld_l1 (l1 : List Int) : Nat → Int → Int → arena_Arena → Option (Int × arena_Arena)
  | 0, _, _, _ => none
  | m + 1, top, k_, m_1 =>
    (bif decide (k_ ≥ 0) then
      (mIdx l1 k_).bind fun x =>
      (arena_Arena_Set m_1 x 3 top).bind fun t_3 =>
      (mIdx l1 k_).bind fun x1 =>
      (arena_Arena_Set t_3.2 top 0 x1).bind fun t_4 =>
      (mIdx l1 k_).bind fun x2 =>
      (leftist_fix t_4.2 x2).bind fun t_5 =>
      leftist_meld_l1 l1 m x2 (w64 (k_ - 1)) t_5.2
    else
      some (top, m_1))

def leftist_meld (k : Nat) (a_ : arena_Arena) (r : Int) (s : Int) : Option (Int × arena_Arena) :=
  (bif r == s then
    some (r, a_)
  else
    (leftist_meld_l0 k r s ([] : List Int) a_).bind fun s2 =>
    (leftist_meld_l1 s2.2.2.1 k (if s2.2.1 > s2.1 then s2.2.1 else s2.1) (w64 ((s2.2.2.1.length : Int) - 1)) s2.2.2.2).bind fun s5 =>
    (arena_Arena_Set s5.2 s5.1 0 (-1)).bind fun t_6 =>
    some (s5.1, t_6.2))

def leftist_Push (k : Nat) (a_ : arena_Arena) (r : Int) (i : Int) : Option (Int × Bool × arena_Arena) :=
  (node_New a_ i).bind fun t_ =>
  (bif !t_.2.1 then
    some (r, false, t_.2.2)
  else
    (arena_Arena_Set t_.2.2 t_.1 4 1).bind fun t_1 =>
    (leftist_meld k t_1.2 r t_.1).bind fun t_2 =>
    some (t_2.1, true, t_2.2))

def node_Row_l0 (field1 : Int) : Nat → Int → (List Int) → arena_Arena → Option ((List Int) × arena_Arena)
  | 0, _, _, _ => none
  | m + 1, n1, out, m_ =>
    ((arena_Arena_Live m_ n1).bind fun t_ =>
    (bif t_ then
      (arena_Arena_Cells m_).bind fun t_1 =>
      some (decide ((out.length : Int) < t_1))
    else
      some false)).bind fun s1 =>
    (bif s1 then
      (mApp out ([n1] : List Int)).bind fun l =>
      (arena_Arena_Cell m_ n1 field1).bind fun t_2 =>
      node_Row_l0 field1 m t_2.1 l t_2.2
    else
      some (out, m_))

def node_Row (k : Nat) (a_ : arena_Arena) (n : Int) (field : Int) : Option ((List Int) × arena_Arena) :=
  (node_Row_l0 field k n ([] : List Int) a_).bind fun s =>
  some (s.1, s.2)

def trees_List (k : Nat) (a_ : arena_Arena) (r : Int) : Option ((List Int) × arena_Arena) :=
  (node_Row k a_ r 3).bind fun t_ =>
  some (t_.1, t_.2)

def trees_Carry_f1 (x : trees_ranked) (y : trees_ranked) : Option (Int) :=
  some (if (if 1 < w64 (x.rank - y.rank) then 1 else w64 (x.rank - y.rank)) > (-1) then (if 1 < w64 (x.rank - y.rank) then 1 else w64 (x.rank - y.rank)) else (-1))

def slices_insertionSortCmpFunc_trees_ranked_g233_l1 (a_2 : Int) (b2 : Int) (i1 : Int) : Nat → Int → (List trees_ranked) → Option ((List trees_ranked))
  | 0, _, _ => none
  | m + 1, j, m_1 =>
    ((bif decide (j > a_2) then
      (mIdx m_1 j).bind fun x1 =>
      (mIdx m_1 (w64 (j - 1))).bind fun x2 =>
      (trees_Carry_f1 x1 x2).bind fun t_ =>
      some (decide (t_ < 0))
    else
      some false)).bind fun s2 =>
    (bif s2 then
      (mIdx m_1 (w64 (j - 1))).bind fun x3 =>
      (mIdx m_1 j).bind fun x4 =>
      (mIdx m_1 j).bind fun x5 =>
      (mIdx (mSet m_1 j x3) (w64 (j - 1))).bind fun x6 =>
      slices_insertionSortCmpFunc_trees_ranked_g233_l1 a_2 b2 i1 m (w64 (j - 1)) (mSet (mSet m_1 j x3) (w64 (j - 1)) x4)
    else
      some m_1)

def slices_insertionSortCmpFunc_trees_ranked_g233_l0 (a_1 : Int) (b1 : Int) : Nat → Int → (List trees_ranked) → Option ((List trees_ranked))
  | 0, _, _ => none
  | m + 1, i, m_ =>
    (bif decide (i < b1) then
      (slices_insertionSortCmpFunc_trees_ranked_g233_l1 a_1 b1 i m i m_).bind fun s1 =>
      slices_insertionSortCmpFunc_trees_ranked_g233_l0 a_1 b1 m (w64 (i + 1)) s1
    else
      some m_)

def slices_insertionSortCmpFunc_trees_ranked_g233 (k : Nat) (data : List trees_ranked) (a_ : Int) (b : Int) : Option ((List trees_ranked)) :=
  (slices_insertionSortCmpFunc_trees_ranked_g233_l0 a_ b k (w64 (a_ + 1)) data).bind fun s =>
  (mSame s.length data.length).bind fun u =>
  some s

def slices_stableCmpFunc_trees_ranked_g233_l0 (n1 : Int) : Nat → Int → Int → (List trees_ranked) → Option (Int × (List trees_ranked))
  | 0, _, _, _ => none
  | m + 1, a_, b, m_ =>
    (bif decide (b ≤ n1) then
      (slices_insertionSortCmpFunc_trees_ranked_g233 m m_ a_ b).bind fun t_ =>
      slices_stableCmpFunc_trees_ranked_g233_l0 n1 m b (w64 (b + 20)) t_
    else
      some (a_, m_))

def slices_stableCmpFunc_trees_ranked_g233_l2 (n3 : Int) (blockSize1 : Int) (l1 : List trees_ranked) : Nat → Int → Int → Option (Int)
  | 0, _, _ => none
  | m + 1, a_1, b1 =>
    (bif decide (b1 ≤ n3) then
      none
    else
      some a_1)

def slices_stableCmpFunc_trees_ranked_g233_l1 (n2 : Int) (l : List trees_ranked) : Nat → Int → Option (Unit)
  | 0, _ => none
  | m + 1, blockSize =>
    (bif decide (blockSize < n2) then
      (slices_stableCmpFunc_trees_ranked_g233_l2 n2 blockSize l m 0 (w64 (2 * blockSize))).bind fun s2 =>
      ((bif decide (w64 (s2 + blockSize) < n2) then
        none
      else
        some ())).bind fun s3 =>
      slices_stableCmpFunc_trees_ranked_g233_l1 n2 l m (w64 (blockSize * 2))
    else
      some ())

def slices_stableCmpFunc_trees_ranked_g233 (k : Nat) (data : List trees_ranked) (n : Int) : Option ((List trees_ranked)) :=
  (slices_stableCmpFunc_trees_ranked_g233_l0 n k 0 20 data).bind fun s =>
  (slices_insertionSortCmpFunc_trees_ranked_g233 k s.2 s.1 n).bind fun t_1 =>
  (slices_stableCmpFunc_trees_ranked_g233_l1 n t_1 k 20).bind fun s1 =>
  (mSame t_1.length data.length).bind fun u =>
  some t_1

def slices_SortStableFunc_trees_ranked_g233 (k : Nat) (x : List trees_ranked) : Option ((List trees_ranked)) :=
  (slices_stableCmpFunc_trees_ranked_g233 k x (x.length : Int)).bind fun t_ =>
  (mSame t_.length x.length).bind fun u =>
  some t_

def trees_Under (a_ : arena_Arena) (n : Int) (up : Int) : Option (arena_Arena) :=
  (arena_Arena_Cell a_ up 1).bind fun t_ =>
  (arena_Arena_Set t_.2 n 3 t_.1).bind fun t_1 =>
  (arena_Arena_Set t_1.2 n 0 up).bind fun t_2 =>
  (arena_Arena_Set t_2.2 up 1 n).bind fun t_3 =>
  some t_3.2

def trees_Link (k : Nat) (a_ : arena_Arena) (n : Int) (m_ : Int) (rank : Int) : Option (Int × arena_Arena) :=
  (node_Before k a_ m_ n).bind fun t_ =>
  ((bif t_.1 then
    some (m_, n)
  else
    some (n, m_))).bind fun s =>
  (trees_Under t_.2 s.2 s.1).bind fun t_1 =>
  (arena_Arena_Set t_1 s.1 4 (w64 (rank + 1))).bind fun t_2 =>
  some (s.1, t_2.2)

def trees_Row_l0 (l1 : List Int) : Nat → Int → Int → arena_Arena → Option (Int × arena_Arena)
  | 0, _, _, _ => none
  | m + 1, next, k_, m_ =>
    (bif decide (k_ ≥ 0) then
      (mIdx l1 k_).bind fun x =>
      (arena_Arena_Set m_ x 3 next).bind fun t_ =>
      (mIdx l1 k_).bind fun x1 =>
      (arena_Arena_Set t_.2 x1 0 (-1)).bind fun t_1 =>
      (mIdx l1 k_).bind fun x2 =>
      trees_Row_l0 l1 m x2 (w64 (k_ - 1)) t_1.2
    else
      some (next, m_))

def trees_Row (k : Nat) (a_ : arena_Arena) (l : List Int) : Option (Int × arena_Arena) :=
  (trees_Row_l0 l k (-1) (w64 ((l.length : Int) - 1)) a_).bind fun s =>
  some (s.1, s.2)

def trees_Carry_l0 (x1 : Int) (l1 : List Int) : Nat → (List trees_ranked) → Int → arena_Arena → Option ((List trees_ranked) × arena_Arena)
  | 0, _, _, _ => none
  | m + 1, wait, x, m_ =>
    (bif decide (x < x1) then
      (mIdx l1 x).bind fun x2 =>
      (arena_Arena_Get m_ x2 4).bind fun t_ =>
      (mApp wait ([trees_ranked.mk x2 t_.1] : List trees_ranked)).bind fun l2 =>
      trees_Carry_l0 x1 l1 m l2 (w64 (x + 1)) t_.2
    else
      some (wait, m_))

def trees_Carry_l2 (l7 : List trees_ranked) (v_ : Int) (v_1 : Int) (l8 : List Int) (m_2 : arena_Arena) (l9 : List Int) : Nat → Int → Option (Int)
  | 0, _ => none
  | m + 1, k_ =>
    ((bif decide (k_ < (l7.length : Int)) then
      (mIdx l7 k_).bind fun x8 =>
      some (decide (x8.rank < v_1))
    else
      some false)).bind fun s4 =>
    (bif s4 then
      trees_Carry_l2 l7 v_ v_1 l8 m_2 l9 m (w64 (k_ + 1))
    else
      some k_)

def trees_Carry_l1 (l3 : List Int) : Nat → (List trees_ranked) → (List Int) → arena_Arena → Option ((List Int) × arena_Arena)
  | 0, _, _, _ => none
  | m + 1, wait1, out, m_1 =>
    (bif decide ((wait1.length : Int) > 0) then
      (mIdx wait1 0).bind fun x3 =>
      ((bif (wait1.length : Int) == 1 then
        some true
      else
        (mIdx wait1 1).bind fun x5 =>
        some (x5.rank != x3.rank))).bind fun s2 =>
      (bif s2 then
        (mCut wait1 1 (wait1.length : Int)).bind fun l4 =>
        (mApp out ([x3.n] : List Int)).bind fun l5 =>
        trees_Carry_l1 l3 m l4 l5 m_1
      else
        (mIdx wait1 1).bind fun x6 =>
        (trees_Link m m_1 x3.n x6.n x3.rank).bind fun t_2 =>
        (mCut wait1 2 (wait1.length : Int)).bind fun l6 =>
        (trees_Carry_l2 l6 ((trees_ranked.mk t_2.1 (w64 (x3.rank + 1))).n) ((trees_ranked.mk t_2.1 (w64 (x3.rank + 1))).rank) out t_2.2 l3 m 0).bind fun s3 =>
        (lInsert l6 s3 ([(trees_ranked.mk t_2.1 (w64 (x3.rank + 1)))] : List trees_ranked)).bind fun t_3 =>
        trees_Carry_l1 l3 m t_3 out t_2.2)
    else
      some (out, m_1))

def trees_Carry (k : Nat) (a_ : arena_Arena) (l : List Int) : Option (Int × arena_Arena) :=
  (trees_Carry_l0 (l.length : Int) l k ([] : List trees_ranked) 0 a_).bind fun s =>
  (slices_SortStableFunc_trees_ranked_g233 k s.1).bind fun t_1 =>
  (trees_Carry_l1 l k t_1 ([] : List Int) s.2).bind fun s1 =>
  (trees_Row k s1.2 s1.1).bind fun t_4 =>
  some (t_4.1, t_4.2)

def binomial_Push (k : Nat) (a_ : arena_Arena) (r : Int) (i : Int) : Option (Int × Bool × arena_Arena) :=
  (node_New a_ i).bind fun t_ =>
  (bif !t_.2.1 then
    some (r, false, t_.2.2)
  else
    (trees_List k t_.2.2 r).bind fun t_1 =>
    (mApp ([t_.1] : List Int) t_1.1).bind fun l =>
    (trees_Carry k t_1.2 l).bind fun t_2 =>
    some (t_2.1, true, t_2.2))

def item_Swap (a_ : arena_Arena) (n : Int) (m_ : Int) : Option (arena_Arena) :=
  (arena_Arena_Cell a_ n 6).bind fun t_ =>
  (arena_Arena_Cell t_.2 m_ 6).bind fun t_1 =>
  (item_Put t_1.2 n t_1.1).bind fun t_2 =>
  (item_Put t_2 m_ t_.1).bind fun t_3 =>
  some t_3

def skew_single (k : Nat) (a_ : arena_Arena) (r : Int) (n : Int) : Option (Int × arena_Arena) :=
  ((bif r != (-1) then
    (arena_Arena_Cell a_ r 3).bind fun t_ =>
    some (t_.1, t_.2)
  else
    some ((-1), a_))).bind fun s =>
  (arena_Arena_Get s.2 r 4).bind fun t_1 =>
  ((bif s.1 == (-1) then
    some (true, t_1.2)
  else
    (arena_Arena_Get t_1.2 s.1 4).bind fun t_2 =>
    some (t_2.1 != t_1.1, t_2.2))).bind fun s1 =>
  (bif s1.1 then
    (arena_Arena_Set s1.2 n 3 r).bind fun t_3 =>
    (arena_Arena_Set t_3.2 n 0 (-1)).bind fun t_4 =>
    some (n, t_4.2)
  else
    (arena_Arena_Cell s1.2 s.1 3).bind fun t_5 =>
    (trees_Link k t_5.2 r s.1 t_1.1).bind fun t_6 =>
    (node_Before k t_6.2 n t_6.1).bind fun t_7 =>
    ((bif t_7.1 then
      (item_Swap t_7.2 n t_6.1).bind fun t_8 =>
      some t_8
    else
      some t_7.2)).bind fun s2 =>
    (trees_Under s2 n t_6.1).bind fun t_9 =>
    (arena_Arena_Set t_9 t_6.1 3 t_5.1).bind fun t_10 =>
    some (t_6.1, t_10.2))

def skew_Push (k : Nat) (a_ : arena_Arena) (r : Int) (i : Int) : Option (Int × Bool × arena_Arena) :=
  (node_New a_ i).bind fun t_ =>
  (bif !t_.2.1 then
    some (r, false, t_.2.2)
  else
    (skew_single k t_.2.2 r t_.1).bind fun t_1 =>
    some (t_1.1, true, t_1.2))

def fib_Push (a_ : arena_Arena) (r : Int) (i : Int) : Option (Int × Bool) :=
  none

def pairing_Push (a_ : arena_Arena) (r : Int) (i : Int) : Option (Int × Bool) :=
  none

def kind_Push (k : Nat) (k_ : Int) (a_ : arena_Arena) (r : Int) (i : Int) : Option (Int × Bool × arena_Arena) :=
  (bif k_ == 1 then
    (leftist_Push k a_ r i).bind fun t_ =>
    some (t_.1, t_.2.1, t_.2.2)
  else
    (bif k_ == 2 then
      (binomial_Push k a_ r i).bind fun t_1 =>
      some (t_1.1, t_1.2.1, t_1.2.2)
    else
      (bif k_ == 3 then
        (skew_Push k a_ r i).bind fun t_2 =>
        some (t_2.1, t_2.2.1, t_2.2.2)
      else
        (bif k_ == 4 then
          (fib_Push a_ r i).bind fun t_3 =>
          some (t_3.1, t_3.2, a_)
        else
          (bif k_ == 5 then
            (pairing_Push a_ r i).bind fun t_4 =>
            some (t_4.1, t_4.2, a_)
          else
            some (r, false, a_))))))

def pool_Pool_slots_thing_Places (p : pool_Pool_slots_thing) : Option (Int) :=
  some p.most

def pool_Pool_slots_thing_Take (p : pool_Pool_slots_thing) (v_ : slots_thing) : Option (api_Ref × Bool × pool_Pool_slots_thing) :=
  ((bif decide (w64 ((p.free.length : Int) - 1) ≥ 0) then
    (mIdx p.free (w64 ((p.free.length : Int) - 1))).bind fun x =>
    (mCut p.free 0 (w64 ((p.free.length : Int) - 1))).bind fun l =>
    some (.inr (x, pool_Pool_slots_thing.mk p.most p.l l))
  else
    (bif decide ((p.l.length : Int) ≥ p.most) then
      some (.inl (api_Ref.mk 0 0, false, p))
    else
      (mApp p.l ([pool_place_slots_thing.mk 0 false (slots_thing.mk 0 (api_Ref.mk 0 0))] : List pool_place_slots_thing)).bind fun l1 =>
      some (.inr ((p.l.length : Int), pool_Pool_slots_thing.mk p.most l1 p.free)))) : Option ((api_Ref × Bool × pool_Pool_slots_thing) ⊕ (Int × pool_Pool_slots_thing))).bind fun s =>
  match s with
  | .inl r_ => some r_
  | .inr s1 =>
    (mIdx s1.2.l s1.1).bind fun x1 =>
    some (api_Ref.mk s1.1 (w64 (x1.gen + 1)), true, pool_Pool_slots_thing.mk s1.2.most (mSet (mSet (mSet s1.2.l s1.1 (pool_place_slots_thing.mk (w64 (x1.gen + 1)) x1.taken x1.v_)) s1.1 (pool_place_slots_thing.mk (w64 (x1.gen + 1)) true x1.v_)) s1.1 (pool_place_slots_thing.mk (w64 (x1.gen + 1)) true v_)) s1.2.free)

def slots_Table_Put (t_ : slots_Table) (h_ : api_Ref) (cell : Int) : Option (api_Ref × Int × slots_Table) :=
  (pool_Pool_slots_heap_Get t_.heaps h_).bind fun t_1 =>
  (bif t_1.2 != 0 then
    some (api_Ref.mk 0 0, t_1.2, t_)
  else
    (mLook kI cell (api_Ref.mk 0 0) t_.at_).bind fun x =>
    (pool_Pool_slots_thing_Len t_.items).bind fun t_2 =>
    (pool_Pool_slots_thing_Places t_.items).bind fun t_3 =>
    (bif t_2 == t_3 then
      some (api_Ref.mk 0 0, 13, t_)
    else
      (bif x.2 then
        some (api_Ref.mk 0 0, 1, t_)
      else
        (pool_Pool_slots_thing_Take t_.items (slots_thing.mk cell h_)).bind fun t_4 =>
        some (t_4.1, 0, slots_Table.mk ((slots_Table.mk t_.heaps t_4.2.2 t_.at_).heaps) ((slots_Table.mk t_.heaps t_4.2.2 t_.at_).items) (mPut kI cell t_4.1 ((slots_Table.mk t_.heaps t_4.2.2 t_.at_).at_))))))

def pool_Pool_slots_heap_Set (p : pool_Pool_slots_heap) (r : api_Ref) (v_ : slots_heap) : Option (Int × pool_Pool_slots_heap) :=
  (pool_Pool_slots_heap_find p r).bind fun t_ =>
  (mCase t_.1
    (((bif t_.2 == 0 then
      none
    else
      some ())).bind fun s =>
    some (t_.2, p))
    (fun i =>
    (mIdx p.l i).bind fun x =>
    ((bif t_.2 == 0 then
      some (pool_Pool_slots_heap.mk p.most (mSet p.l i (pool_place_slots_heap.mk x.gen x.taken v_)) p.free)
    else
      some p)).bind fun s1 =>
    some (t_.2, s1)))

def slots_Table_Root (t_ : slots_Table) (h_ : api_Ref) (r : Int) (n : Int) : Option (Int × slots_Table) :=
  (pool_Pool_slots_heap_Get t_.heaps h_).bind fun t_1 =>
  ((bif t_1.2 == 0 then
    (pool_Pool_slots_heap_Set t_.heaps h_ (slots_heap.mk t_1.1.kind r n)).bind fun t_2 =>
    some (slots_Table.mk t_2.2 t_.items t_.at_)
  else
    some t_)).bind fun s =>
  some (t_1.2, s)

def pq_Queues_insert (k : Nat) (q : pq_Queues) (c_ : api_Call) : Option (api_Answer × pq_Queues) :=
  (slots_Table_Heap q.t_ c_.Heap).bind fun t_ =>
  (bif t_.2.2.2 != 0 then
    (pq_refused t_.2.2.2).bind fun t_1 =>
    some (t_1, q)
  else
    (slots_Table_Items q.t_).bind fun t_2 =>
    (bif decide (t_2 ≥ q.items) then
      (pq_refused 13).bind fun t_3 =>
      some (t_3, q)
    else
      (item_New q.a_ c_.Key q.serial).bind fun t_4 =>
      (kind_Push k t_.1 t_4.2.2 t_.2.1 t_4.1).bind fun t_5 =>
      (slots_Table_Put q.t_ c_.Heap t_4.1).bind fun t_6 =>
      (slots_Table_Root ((pq_Queues.mk q.items t_5.2.2 t_6.2.2 q.entries q.serial).t_) c_.Heap t_5.1 (w64 (t_.2.2.1 + 1))).bind fun t_7 =>
      some (api_Answer.mk 0 (api_Ref.mk 0 0) t_6.1 (api_Entry.mk c_.Key q.serial) 0, pq_Queues.mk ((pq_Queues.mk q.items t_5.2.2 t_6.2.2 q.entries q.serial).items) ((pq_Queues.mk q.items t_5.2.2 t_6.2.2 q.entries q.serial).a_) t_7.2 (mPut api_Ref.eq t_6.1 (api_Entry.mk c_.Key q.serial) ((pq_Queues.mk q.items t_5.2.2 t_6.2.2 q.entries q.serial).entries)) (w64 (((pq_Queues.mk q.items t_5.2.2 t_6.2.2 q.entries q.serial).serial) + 1)))))

def leftist_Min (a_ : arena_Arena) (r : Int) : Option (Int × arena_Arena) :=
  (arena_Arena_Cell a_ r 6).bind fun t_ =>
  some (t_.1, t_.2)

def trees_Best_l0 (x1 : Int) (l1 : List Int) : Nat → Int → Int → arena_Arena → Option (Int × arena_Arena)
  | 0, _, _, _ => none
  | m + 1, best, x, m_ =>
    (bif decide (x < x1) then
      ((mIdx l1 x).bind fun x2 =>
      ((bif best == (-1) then
        some (true, m_)
      else
        (node_Before m m_ x2 best).bind fun t_ =>
        some (t_.1, t_.2))).bind fun s2 =>
      (bif s2.1 then
        some (x2, s2.2)
      else
        some (best, s2.2))).bind fun s1 =>
      trees_Best_l0 x1 l1 m s1.1 (w64 (x + 1)) s1.2
    else
      some (best, m_))

def trees_Best (k : Nat) (a_ : arena_Arena) (l : List Int) : Option (Int × arena_Arena) :=
  (trees_Best_l0 (l.length : Int) l k (-1) 0 a_).bind fun s =>
  some (s.1, s.2)

def binomial_Min (k : Nat) (a_ : arena_Arena) (r : Int) : Option (Int × arena_Arena) :=
  (trees_List k a_ r).bind fun t_ =>
  (trees_Best k t_.2 t_.1).bind fun t_1 =>
  (arena_Arena_Cell t_1.2 t_1.1 6).bind fun t_2 =>
  some (t_2.1, t_2.2)

def skew_Min (k : Nat) (a_ : arena_Arena) (r : Int) : Option (Int × arena_Arena) :=
  (trees_List k a_ r).bind fun t_ =>
  (trees_Best k t_.2 t_.1).bind fun t_1 =>
  (arena_Arena_Cell t_1.2 t_1.1 6).bind fun t_2 =>
  some (t_2.1, t_2.2)

def fib_Min (a_ : arena_Arena) (r : Int) : Option (Int) :=
  none

def pairing_Min (a_ : arena_Arena) (r : Int) : Option (Int) :=
  none

def kind_Min (k : Nat) (k_ : Int) (a_ : arena_Arena) (r : Int) : Option (Int × arena_Arena) :=
  (bif k_ == 1 then
    (leftist_Min a_ r).bind fun t_ =>
    some (t_.1, t_.2)
  else
    (bif k_ == 2 then
      (binomial_Min k a_ r).bind fun t_1 =>
      some (t_1.1, t_1.2)
    else
      (bif k_ == 3 then
        (skew_Min k a_ r).bind fun t_2 =>
        some (t_2.1, t_2.2)
      else
        (bif k_ == 4 then
          (fib_Min a_ r).bind fun t_3 =>
          some (t_3, a_)
        else
          (bif k_ == 5 then
            (pairing_Min a_ r).bind fun t_4 =>
            some (t_4, a_)
          else
            some ((-1), a_))))))

def slots_Table_At (t_ : slots_Table) (cell : Int) : Option (api_Ref × Bool) :=
  (mLook kI cell (api_Ref.mk 0 0) t_.at_).bind fun x =>
  some (x.1, x.2)

def leftist_kids (k : Nat) (a_ : arena_Arena) (n : Int) : Option (Int × arena_Arena) :=
  (arena_Arena_Cell a_ n 2).bind fun t_ =>
  (arena_Arena_Cell t_.2 n 3).bind fun t_1 =>
  (leftist_meld k t_1.2 t_.1 t_1.1).bind fun t_2 =>
  some (t_2.1, t_2.2)

def arena_Arena_Give (a_ : arena_Arena) (c_ : Int) : Option (Bool × arena_Arena) :=
  (meter_Meter_Tick a_.m_ 1).bind fun t_ =>
  (arena_Arena_Live (arena_Arena.mk a_.l a_.never a_.free t_) c_).bind fun t_1 =>
  (bif !t_1 then
    some (false, arena_Arena.mk a_.l a_.never a_.free t_)
  else
    (mIdx a_.l c_).bind fun x =>
    (mApp a_.free ([c_] : List Int)).bind fun l =>
    some (true, arena_Arena.mk (mSet a_.l c_ (arena_cell.mk x.f0 x.f1 x.f2 x.f3 x.f4 x.f5 x.f6 x.f7 x.f8 x.f9 false)) a_.never l t_))

def node_End (a_ : arena_Arena) (n : Int) : Option (Int × arena_Arena) :=
  (arena_Arena_Cell a_ n 6).bind fun t_ =>
  (arena_Arena_Set t_.2 t_.1 9 (-1)).bind fun t_1 =>
  (arena_Arena_Give t_1.2 n).bind fun t_2 =>
  some (t_.1, t_2.2)

def leftist_Pop (k : Nat) (a_ : arena_Arena) (r : Int) : Option (Int × Int × arena_Arena) :=
  ((arena_Arena_Live a_ r).bind fun t_ =>
  some (!t_)).bind fun s =>
  (bif s then
    some ((-1), (-1), a_)
  else
    (leftist_kids k a_ r).bind fun t_1 =>
    (arena_Arena_Set t_1.2 t_1.1 0 (-1)).bind fun t_2 =>
    (node_End t_2.2 r).bind fun t_3 =>
    some (t_1.1, t_3.1, t_3.2))

def binomial_without_f1 (x : Int) (v_ : Int) : Option (Bool) :=
  some (x == v_)

def slices_IndexFunc_int_g242_l0 (x1 : Int) (l : List Int) (v_1 : Int) : Nat → Int → Option ((Int) ⊕ (Unit))
  | 0, _ => none
  | m + 1, x =>
    (bif decide (x < x1) then
      (mIdx l x).bind fun x2 =>
      (binomial_without_f1 x2 v_1).bind fun t_ =>
      (bif t_ then
        some (.inl x)
      else
        slices_IndexFunc_int_g242_l0 x1 l v_1 m (w64 (x + 1)))
    else
      some (.inr ()))

def slices_IndexFunc_int_g242 (k : Nat) (s : List Int) (v_ : Int) : Option (Int) :=
  (slices_IndexFunc_int_g242_l0 (s.length : Int) s v_ k 0).bind fun s1 =>
  match s1 with
  | .inl r_ => some r_
  | .inr s2 =>
    some (-1)

def slices_DeleteFunc_int_g242_l0 (v_1 : Int) : Nat → Int → Int → (List Int) → Option (Int × (List Int))
  | 0, _, _, _ => none
  | m + 1, i, j, m_ =>
    (bif decide (j < (m_.length : Int)) then
      ((mIdx m_ j).bind fun x =>
      (binomial_without_f1 x v_1).bind fun t_1 =>
      (bif !t_1 then
        (mIdx m_ i).bind fun x1 =>
        some (w64 (i + 1), mSet m_ i x)
      else
        some (i, m_))).bind fun s2 =>
      slices_DeleteFunc_int_g242_l0 v_1 m s2.1 (w64 (j + 1)) s2.2
    else
      some (i, m_))

def slices_DeleteFunc_int_g242 (k : Nat) (s : List Int) (v_ : Int) : Option ((List Int)) :=
  (slices_IndexFunc_int_g242 k s v_).bind fun t_ =>
  (bif t_ == (-1) then
    some s
  else
    (slices_DeleteFunc_int_g242_l0 v_ k t_ (w64 (t_ + 1)) s).bind fun s1 =>
    (mCut s1.2 s1.1 (s1.2.length : Int)).bind fun l =>
    (mCut (mClear s1.2 s1.1 0) 0 s1.1).bind fun l1 =>
    some l1)

def trees_Kids (k : Nat) (a_ : arena_Arena) (n : Int) : Option ((List Int) × arena_Arena) :=
  (arena_Arena_Cell a_ n 1).bind fun t_ =>
  (node_Row k t_.2 t_.1 3).bind fun t_1 =>
  some (t_1.1, t_1.2)

def binomial_without (k : Nat) (a_ : arena_Arena) (l : List Int) (n : Int) : Option (Int × Int × arena_Arena) :=
  (slices_DeleteFunc_int_g242 k l n).bind fun t_ =>
  (trees_Kids k a_ n).bind fun t_1 =>
  (mApp t_ t_1.1).bind fun l1 =>
  (node_End t_1.2 n).bind fun t_2 =>
  (trees_Carry k t_2.2 l1).bind fun t_3 =>
  some (t_3.1, t_2.1, t_3.2)

def binomial_Pop (k : Nat) (a_ : arena_Arena) (r : Int) : Option (Int × Int × arena_Arena) :=
  ((arena_Arena_Live a_ r).bind fun t_ =>
  some (!t_)).bind fun s =>
  (bif s then
    some ((-1), (-1), a_)
  else
    (trees_List k a_ r).bind fun t_1 =>
    (trees_Best k t_1.2 t_1.1).bind fun t_2 =>
    (binomial_without k t_2.2 t_1.1 t_2.1).bind fun t_3 =>
    some (t_3.1, t_3.2.1, t_3.2.2))

def skew_without_f1 (x : Int) (v_ : Int) : Option (Bool) :=
  some (x == v_)

def slices_IndexFunc_int_g244_l0 (x1 : Int) (l : List Int) (v_1 : Int) : Nat → Int → Option ((Int) ⊕ (Unit))
  | 0, _ => none
  | m + 1, x =>
    (bif decide (x < x1) then
      (mIdx l x).bind fun x2 =>
      (skew_without_f1 x2 v_1).bind fun t_ =>
      (bif t_ then
        some (.inl x)
      else
        slices_IndexFunc_int_g244_l0 x1 l v_1 m (w64 (x + 1)))
    else
      some (.inr ()))

def slices_IndexFunc_int_g244 (k : Nat) (s : List Int) (v_ : Int) : Option (Int) :=
  (slices_IndexFunc_int_g244_l0 (s.length : Int) s v_ k 0).bind fun s1 =>
  match s1 with
  | .inl r_ => some r_
  | .inr s2 =>
    some (-1)

def slices_DeleteFunc_int_g244_l0 (v_1 : Int) : Nat → Int → Int → (List Int) → Option (Int × (List Int))
  | 0, _, _, _ => none
  | m + 1, i, j, m_ =>
    (bif decide (j < (m_.length : Int)) then
      ((mIdx m_ j).bind fun x =>
      (skew_without_f1 x v_1).bind fun t_1 =>
      (bif !t_1 then
        (mIdx m_ i).bind fun x1 =>
        some (w64 (i + 1), mSet m_ i x)
      else
        some (i, m_))).bind fun s2 =>
      slices_DeleteFunc_int_g244_l0 v_1 m s2.1 (w64 (j + 1)) s2.2
    else
      some (i, m_))

def slices_DeleteFunc_int_g244 (k : Nat) (s : List Int) (v_ : Int) : Option ((List Int)) :=
  (slices_IndexFunc_int_g244 k s v_).bind fun t_ =>
  (bif t_ == (-1) then
    some s
  else
    (slices_DeleteFunc_int_g244_l0 v_ k t_ (w64 (t_ + 1)) s).bind fun s1 =>
    (mCut s1.2 s1.1 (s1.2.length : Int)).bind fun l =>
    (mCut (mClear s1.2 s1.1 0) 0 s1.1).bind fun l1 =>
    some l1)

def skew_without_l0 (x1 : Int) (l1 : List Int) (v_ : Int) : Nat → (List Int) → (List Int) → Int → arena_Arena → Option ((List Int) × (List Int) × arena_Arena)
  | 0, _, _, _, _ => none
  | m + 1, rest, alone, x, m_ =>
    (bif decide (x < x1) then
      ((mIdx l1 x).bind fun x2 =>
      (arena_Arena_Get m_ x2 4).bind fun t_2 =>
      (bif t_2.1 == 0 then
        (mApp alone ([x2] : List Int)).bind fun l2 =>
        some (rest, l2, t_2.2)
      else
        (mApp rest ([x2] : List Int)).bind fun l3 =>
        some (l3, alone, t_2.2))).bind fun s1 =>
      skew_without_l0 x1 l1 v_ m s1.1 s1.2.1 (w64 (x + 1)) s1.2.2
    else
      some (rest, alone, m_))

def skew_without_l1 (i : Int) (x4 : Int) (l4 : List Int) : Nat → Int → Int → arena_Arena → Option (Int × arena_Arena)
  | 0, _, _, _ => none
  | m + 1, r3, x3, m_1 =>
    (bif decide (x3 < x4) then
      (mIdx l4 x3).bind fun x5 =>
      (skew_single m m_1 r3 x5).bind fun t_5 =>
      skew_without_l1 i x4 l4 m t_5.1 (w64 (x3 + 1)) t_5.2
    else
      some (r3, m_1))

def skew_without (k : Nat) (a_ : arena_Arena) (l : List Int) (n : Int) : Option (Int × Int × arena_Arena) :=
  (slices_DeleteFunc_int_g244 k l n).bind fun t_ =>
  (trees_Kids k a_ n).bind fun t_1 =>
  (skew_without_l0 (t_1.1.length : Int) t_1.1 n k t_ ([] : List Int) 0 t_1.2).bind fun s =>
  (node_End s.2.2 n).bind fun t_3 =>
  (trees_Carry k t_3.2 s.1).bind fun t_4 =>
  (skew_without_l1 t_3.1 (s.2.1.length : Int) s.2.1 k t_4.1 0 t_4.2).bind fun s2 =>
  some (s2.1, t_3.1, s2.2)

def skew_Pop (k : Nat) (a_ : arena_Arena) (r : Int) : Option (Int × Int × arena_Arena) :=
  ((arena_Arena_Live a_ r).bind fun t_ =>
  some (!t_)).bind fun s =>
  (bif s then
    some ((-1), (-1), a_)
  else
    (trees_List k a_ r).bind fun t_1 =>
    (trees_Best k t_1.2 t_1.1).bind fun t_2 =>
    (skew_without k t_2.2 t_1.1 t_2.1).bind fun t_3 =>
    some (t_3.1, t_3.2.1, t_3.2.2))

def fib_Pop (a_ : arena_Arena) (r : Int) : Option (Int × Int) :=
  none

def pairing_Pop (a_ : arena_Arena) (r : Int) : Option (Int × Int) :=
  none

def kind_Pop (k : Nat) (k_ : Int) (a_ : arena_Arena) (r : Int) : Option (Int × Int × arena_Arena) :=
  (bif k_ == 1 then
    (leftist_Pop k a_ r).bind fun t_ =>
    some (t_.1, t_.2.1, t_.2.2)
  else
    (bif k_ == 2 then
      (binomial_Pop k a_ r).bind fun t_1 =>
      some (t_1.1, t_1.2.1, t_1.2.2)
    else
      (bif k_ == 3 then
        (skew_Pop k a_ r).bind fun t_2 =>
        some (t_2.1, t_2.2.1, t_2.2.2)
      else
        (bif k_ == 4 then
          (fib_Pop a_ r).bind fun t_3 =>
          some (t_3.1, t_3.2, a_)
        else
          (bif k_ == 5 then
            (pairing_Pop a_ r).bind fun t_4 =>
            some (t_4.1, t_4.2, a_)
          else
            some ((-1), (-1), a_))))))

def pool_Pool_slots_thing_find (p : pool_Pool_slots_thing) (r : api_Ref) : Option ((Option Int) × Int) :=
  ((bif decide (r.At < 0) then
    some true
  else
    (bif decide (r.At ≥ (p.l.length : Int)) then
      some true
    else
      (bif decide (r.Gen < 1) then
        some true
      else
        (mIdx p.l r.At).bind fun x1 =>
        some (decide (r.Gen > x1.gen)))))).bind fun s =>
  (bif s then
    some ((none : Option Int), 22)
  else
    (mIdx p.l r.At).bind fun x2 =>
    (bif (decide (r.Gen < x2.gen)) || (!x2.taken) then
      some ((none : Option Int), 23)
    else
      some ((some r.At : Option Int), 0)))

def pool_Pool_slots_thing_Give (p : pool_Pool_slots_thing) (r : api_Ref) : Option (slots_thing × Int × pool_Pool_slots_thing) :=
  (pool_Pool_slots_thing_find p r).bind fun t_ =>
  (mCase t_.1
    ((bif t_.2 != 0 then
      some (slots_thing.mk 0 (api_Ref.mk 0 0), t_.2, p)
    else
      none))
    (fun i =>
    (mIdx p.l i).bind fun x =>
    (bif t_.2 != 0 then
      some (slots_thing.mk 0 (api_Ref.mk 0 0), t_.2, p)
    else
      (mApp p.free ([r.At] : List Int)).bind fun l =>
      some (x.v_, 0, pool_Pool_slots_thing.mk p.most (mSet (mSet p.l i (pool_place_slots_thing.mk x.gen false x.v_)) i (pool_place_slots_thing.mk x.gen false (slots_thing.mk 0 (api_Ref.mk 0 0)))) l))))

def slots_Table_Take (t_ : slots_Table) (i : api_Ref) : Option (Int × Int × slots_Table) :=
  (pool_Pool_slots_thing_Give t_.items i).bind fun t_1 =>
  ((bif t_1.2.1 == 0 then
    some (slots_Table.mk ((slots_Table.mk t_.heaps t_1.2.2 t_.at_).heaps) ((slots_Table.mk t_.heaps t_1.2.2 t_.at_).items) (mDel kI t_1.1.cell ((slots_Table.mk t_.heaps t_1.2.2 t_.at_).at_)))
  else
    some (slots_Table.mk t_.heaps t_1.2.2 t_.at_))).bind fun s =>
  some (t_1.1.cell, t_1.2.1, s)

def pq_Queues_gone (q : pq_Queues) (i : api_Ref) : Option (api_Entry × pq_Queues) :=
  (slots_Table_Take q.t_ i).bind fun t_ =>
  (arena_Arena_Give q.a_ t_.1).bind fun t_1 =>
  (mLook api_Ref.eq i (api_Entry.mk 0 0) q.entries).bind fun x =>
  some (x.1, pq_Queues.mk q.items t_1.2 t_.2.2 (mDel api_Ref.eq i q.entries) q.serial)

def pq_Queues_min (k : Nat) (q : pq_Queues) (h_ : api_Ref) (out : Bool) : Option (api_Answer × pq_Queues) :=
  (slots_Table_Heap q.t_ h_).bind fun t_ =>
  (bif t_.2.2.2 != 0 then
    (pq_refused t_.2.2.2).bind fun t_1 =>
    some (t_1, q)
  else
    (bif t_.2.2.1 == 0 then
      (pq_refused 27).bind fun t_2 =>
      some (t_2, q)
    else
      (bif !out then
        (kind_Min k t_.1 q.a_ t_.2.1).bind fun t_3 =>
        (slots_Table_At q.t_ t_3.1).bind fun t_4 =>
        (mLook api_Ref.eq t_4.1 (api_Entry.mk 0 0) ((pq_Queues.mk q.items t_3.2 q.t_ q.entries q.serial).entries)).bind fun x =>
        some (api_Answer.mk 0 (api_Ref.mk 0 0) t_4.1 x.1 0, (pq_Queues.mk q.items t_3.2 q.t_ q.entries q.serial))
      else
        (kind_Pop k t_.1 q.a_ t_.2.1).bind fun t_5 =>
        (slots_Table_At q.t_ t_5.2.1).bind fun t_6 =>
        (slots_Table_Root q.t_ h_ t_5.1 (w64 (t_.2.2.1 - 1))).bind fun t_7 =>
        (pq_Queues_gone (pq_Queues.mk q.items t_5.2.2 t_7.2 q.entries q.serial) t_6.1).bind fun t_8 =>
        some (api_Answer.mk 0 (api_Ref.mk 0 0) t_6.1 t_8.1 0, t_8.2))))

def pool_Pool_slots_thing_Get (p : pool_Pool_slots_thing) (r : api_Ref) : Option (slots_thing × Int) :=
  (pool_Pool_slots_thing_find p r).bind fun t_ =>
  (mCase t_.1
    ((bif t_.2 != 0 then
      some (slots_thing.mk 0 (api_Ref.mk 0 0), t_.2)
    else
      none))
    (fun i =>
    (mIdx p.l i).bind fun x =>
    (bif t_.2 != 0 then
      some (slots_thing.mk 0 (api_Ref.mk 0 0), t_.2)
    else
      some (x.v_, 0))))

def slots_Table_Cell (t_ : slots_Table) (i : api_Ref) : Option (Int × Int) :=
  (pool_Pool_slots_thing_Get t_.items i).bind fun t_1 =>
  some (t_1.1.cell, t_1.2)

def slots_Table_Of (t_ : slots_Table) (i : api_Ref) : Option (api_Ref × Int) :=
  (pool_Pool_slots_thing_Get t_.items i).bind fun t_1 =>
  some (t_1.1.heap, t_1.2)

def item_Lower (a_ : arena_Arena) (i : Int) (key : Int) : Option (Bool × arena_Arena) :=
  ((arena_Arena_Get a_ i 7).bind fun t_ =>
  some (decide (key > t_.1), t_.2)).bind fun s =>
  (bif s.1 then
    some (false, s.2)
  else
    (arena_Arena_Set s.2 i 7 key).bind fun t_1 =>
    some (t_1.1, t_1.2))

def item_Node (a_ : arena_Arena) (i : Int) : Option (Int × arena_Arena) :=
  (arena_Arena_Cell a_ i 9).bind fun t_ =>
  some (t_.1, t_.2)

def leftist_leave_l0 : Nat → Int → Int → arena_Arena → Option (arena_Arena)
  | 0, _, _, _ => none
  | m + 1, p, k_, m_ =>
    ((bif p != (-1) then
      (arena_Arena_Cells m_).bind fun t_6 =>
      (bif decide (k_ ≤ t_6) then
        (leftist_fix m_ p).bind fun t_7 =>
        some (t_7.1, t_7.2)
      else
        some (false, m_))
    else
      some (false, m_))).bind fun s2 =>
    (bif s2.1 then
      (arena_Arena_Cell s2.2 p 0).bind fun t_8 =>
      leftist_leave_l0 m t_8.1 (w64 (k_ + 1)) t_8.2
    else
      some s2.2)

def leftist_leave (k : Nat) (a_ : arena_Arena) (n : Int) : Option (arena_Arena) :=
  (arena_Arena_Cell a_ n 0).bind fun t_ =>
  (arena_Arena_Cell t_.2 t_.1 2).bind fun t_1 =>
  ((bif t_1.1 == n then
    (arena_Arena_Set t_1.2 t_.1 2 (-1)).bind fun t_2 =>
    some t_2.2
  else
    (arena_Arena_Cell t_1.2 t_.1 3).bind fun t_3 =>
    (bif t_3.1 == n then
      (arena_Arena_Set t_3.2 t_.1 3 (-1)).bind fun t_4 =>
      some t_4.2
    else
      some t_3.2))).bind fun s =>
  (arena_Arena_Set s n 0 (-1)).bind fun t_5 =>
  (leftist_leave_l0 k t_.1 0 t_5.2).bind fun s1 =>
  some s1

def leftist_Fall (k : Nat) (a_ : arena_Arena) (r : Int) (i : Int) : Option (Int × arena_Arena) :=
  (item_Node a_ i).bind fun t_ =>
  ((bif t_.1 == (-1) then
    some (true, t_.2)
  else
    (bif t_.1 == r then
      some (true, t_.2)
    else
      (arena_Arena_Cell t_.2 t_.1 0).bind fun t_1 =>
      some (t_1.1 == (-1), t_1.2)))).bind fun s =>
  (bif s.1 then
    some (r, s.2)
  else
    (leftist_leave k s.2 t_.1).bind fun t_2 =>
    (leftist_meld k t_2 r t_.1).bind fun t_3 =>
    some (t_3.1, t_3.2))

def trees_Rise_l0 (any1 : Bool) : Nat → Int → Int → arena_Arena → Option (Int × arena_Arena)
  | 0, _, _, _ => none
  | m + 1, n, k_, m_ =>
    ((bif n != (-1) then
      (arena_Arena_Cells m_).bind fun t_1 =>
      some (decide (k_ ≤ t_1))
    else
      some false)).bind fun s1 =>
    (bif s1 then
      (arena_Arena_Cell m_ n 0).bind fun t_2 =>
      ((bif t_2.1 == (-1) then
        some (true, t_2.2)
      else
        (bif !any1 then
          (node_Before m t_2.2 n t_2.1).bind fun t_3 =>
          some (!t_3.1, t_3.2)
        else
          some (false, t_2.2)))).bind fun s2 =>
      (bif s2.1 then
        some (n, s2.2)
      else
        (item_Swap s2.2 n t_2.1).bind fun t_4 =>
        trees_Rise_l0 any1 m t_2.1 (w64 (k_ + 1)) t_4)
    else
      some (n, m_))

def trees_Rise (k : Nat) (a_ : arena_Arena) (i : Int) (any : Bool) : Option (Int × arena_Arena) :=
  (item_Node a_ i).bind fun t_ =>
  (trees_Rise_l0 any k t_.1 0 t_.2).bind fun s =>
  some (s.1, s.2)

def binomial_Fall (k : Nat) (a_ : arena_Arena) (r : Int) (i : Int) : Option (Int × arena_Arena) :=
  (trees_Rise k a_ i false).bind fun t_ =>
  some (r, t_.2)

def skew_Fall (k : Nat) (a_ : arena_Arena) (r : Int) (i : Int) : Option (Int × arena_Arena) :=
  (trees_Rise k a_ i false).bind fun t_ =>
  some (r, t_.2)

def fib_Fall (a_ : arena_Arena) (r : Int) (i : Int) : Option (Int) :=
  none

def pairing_Fall (a_ : arena_Arena) (r : Int) (i : Int) : Option (Int) :=
  none

def kind_Fall (k : Nat) (k_ : Int) (a_ : arena_Arena) (r : Int) (i : Int) : Option (Int × arena_Arena) :=
  (bif k_ == 1 then
    (leftist_Fall k a_ r i).bind fun t_ =>
    some (t_.1, t_.2)
  else
    (bif k_ == 2 then
      (binomial_Fall k a_ r i).bind fun t_1 =>
      some (t_1.1, t_1.2)
    else
      (bif k_ == 3 then
        (skew_Fall k a_ r i).bind fun t_2 =>
        some (t_2.1, t_2.2)
      else
        (bif k_ == 4 then
          (fib_Fall a_ r i).bind fun t_3 =>
          some (t_3, a_)
        else
          (bif k_ == 5 then
            (pairing_Fall a_ r i).bind fun t_4 =>
            some (t_4, a_)
          else
            some (r, a_))))))

def pq_Queues_decrease (k : Nat) (q : pq_Queues) (c_ : api_Call) : Option (api_Answer × pq_Queues) :=
  (slots_Table_Cell q.t_ c_.Item).bind fun t_ =>
  (mLook api_Ref.eq c_.Item (api_Entry.mk 0 0) q.entries).bind fun x =>
  (bif t_.2 != 0 then
    (pq_refused t_.2).bind fun t_1 =>
    some (t_1, q)
  else
    (bif decide (c_.Key > x.1.Key) then
      (pq_refused 26).bind fun t_2 =>
      some (t_2, q)
    else
      (slots_Table_Of q.t_ c_.Item).bind fun t_3 =>
      (slots_Table_Heap q.t_ t_3.1).bind fun t_4 =>
      (item_Lower q.a_ t_.1 c_.Key).bind fun t_5 =>
      (kind_Fall k t_4.1 t_5.2 t_4.2.1 t_.1).bind fun t_6 =>
      (slots_Table_Root q.t_ t_3.1 t_6.1 t_4.2.2.1).bind fun t_7 =>
      some (api_Answer.mk 0 (api_Ref.mk 0 0) (api_Ref.mk 0 0) (api_Entry.mk c_.Key x.1.Serial) 0, pq_Queues.mk q.items t_6.2 t_7.2 (mPut api_Ref.eq c_.Item (api_Entry.mk c_.Key x.1.Serial) q.entries) q.serial)))

def leftist_Cut (k : Nat) (a_ : arena_Arena) (r : Int) (i : Int) : Option (Int × arena_Arena) :=
  (item_Node a_ i).bind fun t_ =>
  (bif t_.1 == (-1) then
    some (r, t_.2)
  else
    ((bif t_.1 == r then
      some (true, t_.2)
    else
      (arena_Arena_Cell t_.2 t_.1 0).bind fun t_1 =>
      some (t_1.1 == (-1), t_1.2))).bind fun s =>
    (bif s.1 then
      (leftist_Pop k s.2 t_.1).bind fun t_2 =>
      some (t_2.1, t_2.2.2)
    else
      (leftist_leave k s.2 t_.1).bind fun t_3 =>
      (leftist_Pop k t_3 t_.1).bind fun t_4 =>
      (leftist_meld k t_4.2.2 r t_4.1).bind fun t_5 =>
      some (t_5.1, t_5.2)))

def slices_Index_int_l0 (v_1 : Int) (x1 : Int) (l : List Int) : Nat → Int → Option ((Int) ⊕ (Unit))
  | 0, _ => none
  | m + 1, x =>
    (bif decide (x < x1) then
      (mIdx l x).bind fun x2 =>
      (bif v_1 == x2 then
        some (.inl x)
      else
        slices_Index_int_l0 v_1 x1 l m (w64 (x + 1)))
    else
      some (.inr ()))

def slices_Index_int (k : Nat) (s : List Int) (v_ : Int) : Option (Int) :=
  (slices_Index_int_l0 v_ (s.length : Int) s k 0).bind fun s1 =>
  match s1 with
  | .inl r_ => some r_
  | .inr s2 =>
    some (-1)

def slices_Contains_int (k : Nat) (s : List Int) (v_ : Int) : Option (Bool) :=
  (slices_Index_int k s v_).bind fun t_ =>
  some (decide (t_ ≥ 0))

def binomial_Cut (k : Nat) (a_ : arena_Arena) (r : Int) (i : Int) : Option (Int × arena_Arena) :=
  (item_Node a_ i).bind fun t_ =>
  (bif t_.1 == (-1) then
    some (r, t_.2)
  else
    (trees_Rise k t_.2 i true).bind fun t_1 =>
    (trees_List k t_1.2 r).bind fun t_2 =>
    (slices_Contains_int k t_2.1 t_1.1).bind fun t_3 =>
    (bif !t_3 then
      some (r, t_2.2)
    else
      (binomial_without k t_2.2 t_2.1 t_1.1).bind fun t_4 =>
      some (t_4.1, t_4.2.2)))

def skew_Cut (k : Nat) (a_ : arena_Arena) (r : Int) (i : Int) : Option (Int × arena_Arena) :=
  (item_Node a_ i).bind fun t_ =>
  (bif t_.1 == (-1) then
    some (r, t_.2)
  else
    (trees_Rise k t_.2 i true).bind fun t_1 =>
    (trees_List k t_1.2 r).bind fun t_2 =>
    (slices_Contains_int k t_2.1 t_1.1).bind fun t_3 =>
    (bif !t_3 then
      some (r, t_2.2)
    else
      (skew_without k t_2.2 t_2.1 t_1.1).bind fun t_4 =>
      some (t_4.1, t_4.2.2)))

def fib_Cut (a_ : arena_Arena) (r : Int) (i : Int) : Option (Int) :=
  none

def pairing_Cut (a_ : arena_Arena) (r : Int) (i : Int) : Option (Int) :=
  none

def kind_Cut (k : Nat) (k_ : Int) (a_ : arena_Arena) (r : Int) (i : Int) : Option (Int × arena_Arena) :=
  (bif k_ == 1 then
    (leftist_Cut k a_ r i).bind fun t_ =>
    some (t_.1, t_.2)
  else
    (bif k_ == 2 then
      (binomial_Cut k a_ r i).bind fun t_1 =>
      some (t_1.1, t_1.2)
    else
      (bif k_ == 3 then
        (skew_Cut k a_ r i).bind fun t_2 =>
        some (t_2.1, t_2.2)
      else
        (bif k_ == 4 then
          (fib_Cut a_ r i).bind fun t_3 =>
          some (t_3, a_)
        else
          (bif k_ == 5 then
            (pairing_Cut a_ r i).bind fun t_4 =>
            some (t_4, a_)
          else
            some (r, a_))))))

def pq_Queues_remove (k : Nat) (q : pq_Queues) (i : api_Ref) : Option (api_Answer × pq_Queues) :=
  (slots_Table_Cell q.t_ i).bind fun t_ =>
  (bif t_.2 != 0 then
    (pq_refused t_.2).bind fun t_1 =>
    some (t_1, q)
  else
    (slots_Table_Of q.t_ i).bind fun t_2 =>
    (slots_Table_Heap q.t_ t_2.1).bind fun t_3 =>
    (kind_Cut k t_3.1 q.a_ t_3.2.1 t_.1).bind fun t_4 =>
    (slots_Table_Root q.t_ t_2.1 t_4.1 (w64 (t_3.2.2.1 - 1))).bind fun t_5 =>
    (pq_Queues_gone (pq_Queues.mk q.items t_4.2 t_5.2 q.entries q.serial) i).bind fun t_6 =>
    some (api_Answer.mk 0 (api_Ref.mk 0 0) (api_Ref.mk 0 0) t_6.1 0, t_6.2))

def pool_Pool_slots_thing_All_l0 (x1 : Int) (m_ : pool_Pool_slots_thing) : Nat → (List api_Ref) → Int → Option ((List api_Ref))
  | 0, _, _ => none
  | m + 1, out, x =>
    (bif decide (x < x1) then
      ((mIdx m_.l x).bind fun x2 =>
      (bif x2.taken then
        (mApp out ([api_Ref.mk x x2.gen] : List api_Ref)).bind fun l =>
        some l
      else
        some out)).bind fun s1 =>
      pool_Pool_slots_thing_All_l0 x1 m_ m s1 (w64 (x + 1))
    else
      some out)

def pool_Pool_slots_thing_All (k : Nat) (p : pool_Pool_slots_thing) : Option ((List api_Ref)) :=
  (pool_Pool_slots_thing_All_l0 (p.l.length : Int) p k ([] : List api_Ref) 0).bind fun s =>
  some s

def slots_Table_List_l0 (x1 : Int) (m_ : slots_Table) (l : List api_Ref) (v_ : Int) (v_1 : Int) : Nat → (List api_Ref) → Int → Option ((List api_Ref))
  | 0, _, _ => none
  | m + 1, out, x =>
    (bif decide (x < x1) then
      ((mIdx l x).bind fun x2 =>
      (pool_Pool_slots_thing_Get m_.items x2).bind fun t_2 =>
      (bif api_Ref.eq t_2.1.heap (api_Ref.mk v_ v_1) then
        (mApp out ([x2] : List api_Ref)).bind fun l1 =>
        some l1
      else
        some out)).bind fun s1 =>
      slots_Table_List_l0 x1 m_ l v_ v_1 m s1 (w64 (x + 1))
    else
      some out)

def slots_Table_List (k : Nat) (t_ : slots_Table) (h_ : api_Ref) : Option ((List api_Ref)) :=
  (pool_Pool_slots_thing_All k t_.items).bind fun t_1 =>
  (slots_Table_List_l0 (t_1.length : Int) t_ t_1 h_.At h_.Gen k ([] : List api_Ref) 0).bind fun s =>
  some s

def pool_Pool_slots_thing_Set (p : pool_Pool_slots_thing) (r : api_Ref) (v_ : slots_thing) : Option (Int × pool_Pool_slots_thing) :=
  (pool_Pool_slots_thing_find p r).bind fun t_ =>
  (mCase t_.1
    (((bif t_.2 == 0 then
      none
    else
      some ())).bind fun s =>
    some (t_.2, p))
    (fun i =>
    (mIdx p.l i).bind fun x =>
    ((bif t_.2 == 0 then
      some (pool_Pool_slots_thing.mk p.most (mSet p.l i (pool_place_slots_thing.mk x.gen x.taken v_)) p.free)
    else
      some p)).bind fun s1 =>
    some (t_.2, s1)))

def pool_Pool_slots_heap_Give (p : pool_Pool_slots_heap) (r : api_Ref) : Option (slots_heap × Int × pool_Pool_slots_heap) :=
  (pool_Pool_slots_heap_find p r).bind fun t_ =>
  (mCase t_.1
    ((bif t_.2 != 0 then
      some (slots_heap.mk 0 0 0, t_.2, p)
    else
      none))
    (fun i =>
    (mIdx p.l i).bind fun x =>
    (bif t_.2 != 0 then
      some (slots_heap.mk 0 0 0, t_.2, p)
    else
      (mApp p.free ([r.At] : List Int)).bind fun l =>
      some (x.v_, 0, pool_Pool_slots_heap.mk p.most (mSet (mSet p.l i (pool_place_slots_heap.mk x.gen false x.v_)) i (pool_place_slots_heap.mk x.gen false (slots_heap.mk 0 0 0))) l))))

def slots_Table_Join_l0 (x1 : Int) (l : List api_Ref) (v_ : Int) (v_1 : Int) (v_2 : Int) (v_3 : Int) : Nat → Int → slots_Table → Option (slots_Table)
  | 0, _, _ => none
  | m + 1, x, m_ =>
    (bif decide (x < x1) then
      (mIdx l x).bind fun x2 =>
      (pool_Pool_slots_thing_Get m_.items x2).bind fun t_4 =>
      (pool_Pool_slots_thing_Set m_.items x2 (slots_thing.mk t_4.1.cell (api_Ref.mk v_2 v_3))).bind fun t_5 =>
      slots_Table_Join_l0 x1 l v_ v_1 v_2 v_3 m (w64 (x + 1)) (slots_Table.mk m_.heaps t_5.2 m_.at_)
    else
      some m_)

def slots_Table_Join (k : Nat) (t_ : slots_Table) (h_ : api_Ref) (o : api_Ref) : Option (Int × slots_Table) :=
  (pool_Pool_slots_heap_Get t_.heaps h_).bind fun t_1 =>
  (bif t_1.2 != 0 then
    some (t_1.2, t_)
  else
    (pool_Pool_slots_heap_Get t_.heaps o).bind fun t_2 =>
    (bif t_2.2 != 0 then
      some (t_2.2, t_)
    else
      (bif api_Ref.eq h_ o then
        some (25, t_)
      else
        (bif t_1.1.kind != t_2.1.kind then
          some (24, t_)
        else
          (slots_Table_List k t_ o).bind fun t_3 =>
          (slots_Table_Join_l0 (t_3.length : Int) t_3 o.At o.Gen h_.At h_.Gen k 0 t_).bind fun s =>
          (pool_Pool_slots_heap_Give s.heaps o).bind fun t_6 =>
          some (t_6.2.1, slots_Table.mk t_6.2.2 s.items s.at_)))))

def leftist_Meld (k : Nat) (a_ : arena_Arena) (r : Int) (s : Int) : Option (Int × arena_Arena) :=
  (leftist_meld k a_ r s).bind fun t_ =>
  some (t_.1, t_.2)

def binomial_Meld (k : Nat) (a_ : arena_Arena) (r : Int) (s : Int) : Option (Int × arena_Arena) :=
  (bif r == s then
    some (r, a_)
  else
    (trees_List k a_ r).bind fun t_ =>
    (trees_List k t_.2 s).bind fun t_1 =>
    (mApp t_.1 t_1.1).bind fun l =>
    (trees_Carry k t_1.2 l).bind fun t_2 =>
    some (t_2.1, t_2.2))

def skew_Meld (k : Nat) (a_ : arena_Arena) (r : Int) (s : Int) : Option (Int × arena_Arena) :=
  (bif r == s then
    some (r, a_)
  else
    (trees_List k a_ r).bind fun t_ =>
    (trees_List k t_.2 s).bind fun t_1 =>
    (mApp t_.1 t_1.1).bind fun l =>
    (trees_Carry k t_1.2 l).bind fun t_2 =>
    some (t_2.1, t_2.2))

def fib_Meld (a_ : arena_Arena) (r : Int) (s : Int) : Option (Int) :=
  none

def pairing_Meld (a_ : arena_Arena) (r : Int) (s : Int) : Option (Int) :=
  none

def kind_Meld (k : Nat) (k_ : Int) (a_ : arena_Arena) (r : Int) (s : Int) : Option (Int × arena_Arena) :=
  (bif k_ == 1 then
    (leftist_Meld k a_ r s).bind fun t_ =>
    some (t_.1, t_.2)
  else
    (bif k_ == 2 then
      (binomial_Meld k a_ r s).bind fun t_1 =>
      some (t_1.1, t_1.2)
    else
      (bif k_ == 3 then
        (skew_Meld k a_ r s).bind fun t_2 =>
        some (t_2.1, t_2.2)
      else
        (bif k_ == 4 then
          (fib_Meld a_ r s).bind fun t_3 =>
          some (t_3, a_)
        else
          (bif k_ == 5 then
            (pairing_Meld a_ r s).bind fun t_4 =>
            some (t_4, a_)
          else
            some (r, a_))))))

def pq_Queues_meld (k : Nat) (q : pq_Queues) (h_ : api_Ref) (o : api_Ref) : Option (api_Answer × pq_Queues) :=
  (slots_Table_Heap q.t_ h_).bind fun t_ =>
  (slots_Table_Heap q.t_ o).bind fun t_1 =>
  (slots_Table_Join k q.t_ h_ o).bind fun t_2 =>
  (bif t_2.1 != 0 then
    (pq_refused t_2.1).bind fun t_3 =>
    some (t_3, pq_Queues.mk q.items q.a_ t_2.2 q.entries q.serial)
  else
    (kind_Meld k t_.1 q.a_ t_.2.1 t_1.2.1).bind fun t_4 =>
    (slots_Table_Root t_2.2 h_ t_4.1 (w64 (t_.2.2.1 + t_1.2.2.1))).bind fun t_5 =>
    some (api_Answer.mk 0 (api_Ref.mk 0 0) (api_Ref.mk 0 0) (api_Entry.mk 0 0) (w64 (t_.2.2.1 + t_1.2.2.1)), pq_Queues.mk q.items t_4.2 t_5.2 q.entries q.serial))

def pq_Queues_destroy (q : pq_Queues) (h_ : api_Ref) : Option (api_Answer) :=
  none

def pq_Queues_Do (k : Nat) (q : pq_Queues) (c_ : api_Call) : Option (api_Answer × pq_Queues) :=
  (arena_Arena_Meter q.a_).bind fun t_ =>
  (meter_Meter_Begin q.a_.m_).bind fun t_1 =>
  (bif c_.Op == 1 then
    (slots_Table_Make q.t_ c_.Kind).bind fun t_2 =>
    some (api_Answer.mk t_2.2.1 t_2.1 (api_Ref.mk 0 0) (api_Entry.mk 0 0) 0, pq_Queues.mk q.items (arena_Arena.mk q.a_.l q.a_.never q.a_.free t_1) t_2.2.2 q.entries q.serial)
  else
    (bif c_.Op == 2 then
      (pq_Queues_insert k (pq_Queues.mk q.items (arena_Arena.mk q.a_.l q.a_.never q.a_.free t_1) q.t_ q.entries q.serial) c_).bind fun t_3 =>
      some (t_3.1, t_3.2)
    else
      (bif c_.Op == 3 then
        (pq_Queues_min k (pq_Queues.mk q.items (arena_Arena.mk q.a_.l q.a_.never q.a_.free t_1) q.t_ q.entries q.serial) c_.Heap false).bind fun t_4 =>
        some (t_4.1, t_4.2)
      else
        (bif c_.Op == 4 then
          (pq_Queues_min k (pq_Queues.mk q.items (arena_Arena.mk q.a_.l q.a_.never q.a_.free t_1) q.t_ q.entries q.serial) c_.Heap true).bind fun t_5 =>
          some (t_5.1, t_5.2)
        else
          (bif c_.Op == 5 then
            (pq_Queues_decrease k (pq_Queues.mk q.items (arena_Arena.mk q.a_.l q.a_.never q.a_.free t_1) q.t_ q.entries q.serial) c_).bind fun t_6 =>
            some (t_6.1, t_6.2)
          else
            (bif c_.Op == 6 then
              (pq_Queues_remove k (pq_Queues.mk q.items (arena_Arena.mk q.a_.l q.a_.never q.a_.free t_1) q.t_ q.entries q.serial) c_.Item).bind fun t_7 =>
              some (t_7.1, t_7.2)
            else
              (bif c_.Op == 7 then
                (pq_Queues_meld k (pq_Queues.mk q.items (arena_Arena.mk q.a_.l q.a_.never q.a_.free t_1) q.t_ q.entries q.serial) c_.Heap c_.Other).bind fun t_8 =>
                some (t_8.1, t_8.2)
              else
                (bif c_.Op == 8 then
                  (slots_Table_Heap q.t_ c_.Heap).bind fun t_9 =>
                  some (api_Answer.mk t_9.2.2.2 (api_Ref.mk 0 0) (api_Ref.mk 0 0) (api_Entry.mk 0 0) t_9.2.2.1, pq_Queues.mk q.items (arena_Arena.mk q.a_.l q.a_.never q.a_.free t_1) q.t_ q.entries q.serial)
                else
                  (bif c_.Op == 9 then
                    (pq_Queues_destroy (pq_Queues.mk q.items (arena_Arena.mk q.a_.l q.a_.never q.a_.free t_1) q.t_ q.entries q.serial) c_.Heap).bind fun t_10 =>
                    some (t_10, pq_Queues.mk q.items (arena_Arena.mk q.a_.l q.a_.never q.a_.free t_1) q.t_ q.entries q.serial)
                  else
                    (pq_refused 12).bind fun t_11 =>
                    some (t_11, pq_Queues.mk q.items (arena_Arena.mk q.a_.l q.a_.never q.a_.free t_1) q.t_ q.entries q.serial))))))))))

def dispatch_New (k : Nat) (k_ : Int) (most : Int) : Option ((Option dispatch_Dispatcher) × Int) :=
  (kind_Worst k_).bind fun t_ =>
  (bif !t_ then
    some ((none : Option dispatch_Dispatcher), 24)
  else
    (bound_Budget k k_ most).bind fun t_1 =>
    (bif !t_1.2 then
      some ((none : Option dispatch_Dispatcher), 1)
    else
      (pq_New most).bind fun t_2 =>
      (mCase t_2.1
        ((jobs_New most).bind fun t_3 =>
        (clock_New).bind fun t_4 =>
        (pq_Queues_Do_nil0 (api_Call.mk 1 k_ (api_Ref.mk 0 0) (api_Ref.mk 0 0) (api_Ref.mk 0 0) 0)).bind fun t_5 =>
        (pq_Queues_Do_nil0 (api_Call.mk 1 k_ (api_Ref.mk 0 0) (api_Ref.mk 0 0) (api_Ref.mk 0 0) 0)).bind fun t_6 =>
        none)
        (fun m_ =>
        (jobs_New most).bind fun t_7 =>
        (clock_New).bind fun t_8 =>
        (pq_Queues_Do k m_ (api_Call.mk 1 k_ (api_Ref.mk 0 0) (api_Ref.mk 0 0) (api_Ref.mk 0 0) 0)).bind fun t_9 =>
        (pq_Queues_Do k t_9.2 (api_Call.mk 1 k_ (api_Ref.mk 0 0) (api_Ref.mk 0 0) (api_Ref.mk 0 0) 0)).bind fun t_10 =>
        some (some (dispatch_Dispatcher.mk k_ most t_10.2 t_9.1.Heap t_10.1.Heap t_7 ([] : List (api_Ref × Int)) t_8 t_1.1 0 0), 0)))))

def mail_NewBox_api_Command (room : Int) : Option (mail_Box_api_Command) :=
  (mChan api_Command (if (if 4096 < room then 4096 else room) > 1 then (if 4096 < room then 4096 else room) else 1)).bind fun m_ =>
  some (mail_Box_api_Command.mk m_)

def mail_NewDesk_api_Command_l0 (room1 : Int) (x1 : Int) : Nat → Int → mail_Desk_api_Command → Option (mail_Desk_api_Command)
  | 0, _, _ => none
  | m + 1, x, m_ =>
    (bif decide (x < x1) then
      (mail_NewBox_api_Command room1).bind fun t_ =>
      (mApp m_.l ([t_] : List mail_Box_api_Command)).bind fun l =>
      mail_NewDesk_api_Command_l0 room1 x1 m (w64 (x + 1)) (mail_Desk_api_Command.mk l)
    else
      some m_)

def mail_NewDesk_api_Command (k : Nat) (boxes : Int) (room : Int) : Option (mail_Desk_api_Command) :=
  (mail_NewDesk_api_Command_l0 room (if (if 4 < boxes then 4 else boxes) > 1 then (if 4 < boxes then 4 else boxes) else 1) k 0 (mail_Desk_api_Command.mk ([] : List mail_Box_api_Command))).bind fun s =>
  some s

def server_New (k : Nat) (k_ : Int) (jobs : Int) (boxes : Int) (room : Int) : Option ((Option server_Server) × Int) :=
  (dispatch_New k k_ jobs).bind fun t_ =>
  (mCase t_.1
    ((bif t_.2 != 0 then
      some ((none : Option server_Server), t_.2)
    else
      (mail_NewDesk_api_Command k boxes room).bind fun t_1 =>
      none))
    (fun m_ =>
    (bif t_.2 != 0 then
      some ((none : Option server_Server), t_.2)
    else
      (mail_NewDesk_api_Command k boxes room).bind fun t_2 =>
      some (some (server_Server.mk m_ t_2), 0))))

def trace_New (k : Nat) (k_ : Int) (jobs : Int) (boxes : Int) (room : Int) : Option ((Option trace_Book) × Int) :=
  (server_New k k_ jobs boxes room).bind fun t_ =>
  (mCase t_.1
    ((bif t_.2 != 0 then
      some ((none : Option trace_Book), t_.2)
    else
      none))
    (fun m_ =>
    (bif t_.2 != 0 then
      some ((none : Option trace_Book), t_.2)
    else
      some (some (trace_Book.mk m_ ([] : List trace_Event)), 0))))

def thicketbook_Within (n : Int) (lo : Int) (hi : Int) : Option (Int) :=
  (bif (decide (n ≥ lo)) && (decide (n ≤ hi)) then
    some n
  else
    (mNz (w64 ((w64 (hi - lo)) + 1))).bind fun u =>
    ((bif decide (Int.tmod n (w64 ((w64 (hi - lo)) + 1)) < 0) then
      some (w64 ((w64 ((w64 ((Int.tmod n (w64 ((w64 (hi - lo)) + 1))) + hi)) - lo)) + 1))
    else
      some (Int.tmod n (w64 ((w64 (hi - lo)) + 1))))).bind fun s =>
    some (w64 (lo + s)))

def trace_Book_Server (b : trace_Book) : Option (Unit) :=
  some ()

def server_Server_Dispatcher (s : server_Server) : Option (Unit) :=
  some ()

def thicketkeep_Command (x : thicketkeep_D) (jobs : List api_Ref) : Option (api_Command) :=
  (bif (Int.tmod x.Job 16) == 15 then
    some x.Raw
  else
    (thicketbook_Within x.Kind 0 1048576).bind fun t_ =>
    (mIdx ([1, 1, 1, 2, 3, 4, 5, 5, 5, 6, 7] : List Int) (Int.tmod t_ 11)).bind fun x1 =>
    (thicketbook_Within x.Queue 0 1048576).bind fun t_1 =>
    ((bif (Int.tmod x.Data 4) != 0 then
      some (Int.tmod ((api_Command.mk x1 (Int.tmod t_1 2) (api_Ref.mk 0 0) x.Time x.Data).Time) 30)
    else
      some ((api_Command.mk x1 (Int.tmod t_1 2) (api_Ref.mk 0 0) x.Time x.Data).Time))).bind fun s =>
    ((bif decide ((jobs.length : Int) > 0) then
      (thicketbook_Within x.Job 0 (w64 ((jobs.length : Int) - 1))).bind fun t_2 =>
      (mIdx jobs t_2).bind fun x2 =>
      some (x2.At, x2.Gen)
    else
      some (((api_Command.mk x1 (Int.tmod t_1 2) (api_Ref.mk 0 0) x.Time x.Data).Job).At, ((api_Command.mk x1 (Int.tmod t_1 2) (api_Ref.mk 0 0) x.Time x.Data).Job).Gen))).bind fun s1 =>
    some (api_Command.mk ((api_Command.mk x1 (Int.tmod t_1 2) (api_Ref.mk 0 0) x.Time x.Data).Kind) ((api_Command.mk x1 (Int.tmod t_1 2) (api_Ref.mk 0 0) x.Time x.Data).Queue) (api_Ref.mk s1.1 s1.2) s ((api_Command.mk x1 (Int.tmod t_1 2) (api_Ref.mk 0 0) x.Time x.Data).Data)))

def thicketlaw25_act (x : thicketlaw25_Ask) (told : List api_Ref) : Option (api_Act) :=
  (thicketkeep_Command x.D told).bind fun t_ =>
  (((bif x.Kind == 0 then
    some (x.Kind == 0)
  else
    some (x.Kind == 1))).bind fun s2 =>
  (bif s2 then
    (thicketbook_Within x.Box 0 2).bind fun t_1 =>
    some (.inl (api_Act.mk 1 t_1 t_))
  else
    ((bif x.Kind == 2 then
      some (x.Kind == 2)
    else
      some (x.Kind == 3))).bind fun s3 =>
    (bif s3 then
      some (.inl (api_Act.mk 2 0 (api_Command.mk 0 0 (api_Ref.mk 0 0) 0 0)))
    else
      (bif x.Kind == 8 then
        some (.inl (api_Act.mk 4 0 (api_Command.mk 0 0 (api_Ref.mk 0 0) 0 0)))
      else
        (bif x.Kind == 9 then
          some (.inl x.Raw)
        else
          some (.inr ()))))) : Option ((api_Act) ⊕ (Unit))).bind fun s =>
  match s with
  | .inl r_ => some r_
  | .inr s1 =>
    some (api_Act.mk 3 0 t_)

def trace_Book_Events (b : trace_Book) : Option ((List trace_Event)) :=
  (lClone b.l).bind fun t_ =>
  some t_

def mail_Box_api_Command_Len (b : mail_Box_api_Command) : Option (Int) :=
  some (b.c_.buf.length : Int)

def mail_Desk_api_Command_Len_l0 (x1 : Int) (m_ : mail_Desk_api_Command) : Nat → Int → Int → Option (Int)
  | 0, _, _ => none
  | m + 1, n, x =>
    (bif decide (x < x1) then
      (mIdx m_.l x).bind fun x2 =>
      (mail_Box_api_Command_Len x2).bind fun t_ =>
      mail_Desk_api_Command_Len_l0 x1 m_ m (w64 (n + t_)) (w64 (x + 1))
    else
      some n)

def mail_Desk_api_Command_Len (k : Nat) (d : mail_Desk_api_Command) : Option (Int) :=
  (mail_Desk_api_Command_Len_l0 (d.l.length : Int) d k 0 0).bind fun s =>
  some s

def server_Server_Waits (k : Nat) (s : server_Server) : Option (Int) :=
  (mail_Desk_api_Command_Len k s.desk).bind fun t_ =>
  some t_

def pool_Pool_jobs_Job_All_l0 (x1 : Int) (m_ : pool_Pool_jobs_Job) : Nat → (List api_Ref) → Int → Option ((List api_Ref))
  | 0, _, _ => none
  | m + 1, out, x =>
    (bif decide (x < x1) then
      ((mIdx m_.l x).bind fun x2 =>
      (bif x2.taken then
        (mApp out ([api_Ref.mk x x2.gen] : List api_Ref)).bind fun l =>
        some l
      else
        some out)).bind fun s1 =>
      pool_Pool_jobs_Job_All_l0 x1 m_ m s1 (w64 (x + 1))
    else
      some out)

def pool_Pool_jobs_Job_All (k : Nat) (p : pool_Pool_jobs_Job) : Option ((List api_Ref)) :=
  (pool_Pool_jobs_Job_All_l0 (p.l.length : Int) p k ([] : List api_Ref) 0).bind fun s =>
  some s

def jobs_Table_All (k : Nat) (t_ : jobs_Table) : Option ((List api_Ref)) :=
  (pool_Pool_jobs_Job_All k t_.p).bind fun t_1 =>
  some t_1

def pool_Pool_jobs_Job_find (p : pool_Pool_jobs_Job) (r : api_Ref) : Option ((Option Int) × Int) :=
  ((bif decide (r.At < 0) then
    some true
  else
    (bif decide (r.At ≥ (p.l.length : Int)) then
      some true
    else
      (bif decide (r.Gen < 1) then
        some true
      else
        (mIdx p.l r.At).bind fun x1 =>
        some (decide (r.Gen > x1.gen)))))).bind fun s =>
  (bif s then
    some ((none : Option Int), 22)
  else
    (mIdx p.l r.At).bind fun x2 =>
    (bif (decide (r.Gen < x2.gen)) || (!x2.taken) then
      some ((none : Option Int), 23)
    else
      some ((some r.At : Option Int), 0)))

def pool_Pool_jobs_Job_Get (p : pool_Pool_jobs_Job) (r : api_Ref) : Option (jobs_Job × Int) :=
  (pool_Pool_jobs_Job_find p r).bind fun t_ =>
  (mCase t_.1
    ((bif t_.2 != 0 then
      some (jobs_Job.mk 0 0 0 (api_Ref.mk 0 0), t_.2)
    else
      none))
    (fun i =>
    (mIdx p.l i).bind fun x =>
    (bif t_.2 != 0 then
      some (jobs_Job.mk 0 0 0 (api_Ref.mk 0 0), t_.2)
    else
      some (x.v_, 0))))

def jobs_Table_Get (t_ : jobs_Table) (r : api_Ref) : Option (jobs_Job × Int) :=
  (pool_Pool_jobs_Job_Get t_.p r).bind fun t_1 =>
  some (t_1.1, t_1.2)

def clock_Clock_Due (c_ : clock_Clock) (at_ : Int) : Option (Bool) :=
  some (decide (at_ ≤ c_.now))

def dispatch_Dispatcher_Due_l0 (queue1 : Int) (x1 : Int) (m_ : dispatch_Dispatcher) (l : List api_Ref) : Nat → Int → Int → Option (Int)
  | 0, _, _ => none
  | m + 1, n, x =>
    (bif decide (x < x1) then
      ((mIdx l x).bind fun x2 =>
      (jobs_Table_Get m_.t_ x2).bind fun t_1 =>
      ((bif t_1.1.Queue == queue1 then
        (clock_Clock_Due m_.clock t_1.1.Time).bind fun t_2 =>
        some t_2
      else
        some false)).bind fun s2 =>
      (bif s2 then
        some (w64 (n + 1))
      else
        some n)).bind fun s1 =>
      dispatch_Dispatcher_Due_l0 queue1 x1 m_ l m s1 (w64 (x + 1))
    else
      some n)

def dispatch_Dispatcher_Due (k : Nat) (d : dispatch_Dispatcher) (queue : Int) : Option (Int) :=
  (jobs_Table_All k d.t_).bind fun t_ =>
  (dispatch_Dispatcher_Due_l0 queue (t_.length : Int) d t_ k 0 0).bind fun s =>
  some s

def mail_Box_api_Command_Post (b : mail_Box_api_Command) (v_ : api_Command) : Option (Bool × mail_Box_api_Command) :=
  (bif MCh.room b.c_ then
    some (true, mail_Box_api_Command.mk (MCh.push b.c_ v_))
  else
    some (false, b))

def mail_Desk_api_Command_Post (d : mail_Desk_api_Command) (box : Int) (v_ : api_Command) : Option (Int × mail_Desk_api_Command) :=
  ((bif decide (box < 0) then
    some true
  else
    some (decide (box ≥ (d.l.length : Int))))).bind fun s =>
  (bif s then
    some (30, d)
  else
    (mIdx d.l box).bind fun x =>
    (mail_Box_api_Command_Post x v_).bind fun t_ =>
    (bif !t_.1 then
      some (13, mail_Desk_api_Command.mk (mSet d.l box t_.2))
    else
      some (0, mail_Desk_api_Command.mk (mSet d.l box t_.2))))

def server_Server_Post (s : server_Server) (box : Int) (c_ : api_Command) : Option (Int × server_Server) :=
  (mail_Desk_api_Command_Post s.desk box c_).bind fun t_ =>
  some (t_.1, server_Server.mk s.d t_.2)

def mail_Box_api_Command_Take (b : mail_Box_api_Command) : Option (api_Command × Bool × mail_Box_api_Command) :=
  (match MCh.buf b.c_ with
  | [] =>
    some (api_Command.mk 0 0 (api_Ref.mk 0 0) 0 0, false, b)
  | u :: r1 =>
    some (u, true, mail_Box_api_Command.mk (MCh.rest b.c_ r1)))

def mail_Desk_api_Command_Next_l0 (x1 : Int) : Nat → Int → mail_Desk_api_Command → Option ((api_Command × Int × Bool × mail_Desk_api_Command) ⊕ (mail_Desk_api_Command))
  | 0, _, _ => none
  | m + 1, x, m_ =>
    (bif decide (x < x1) then
      (mIdx m_.l x).bind fun x2 =>
      (mail_Box_api_Command_Take x2).bind fun t_ =>
      (bif t_.2.1 then
        some (.inl (t_.1, x, true, mail_Desk_api_Command.mk (mSet m_.l x t_.2.2)))
      else
        mail_Desk_api_Command_Next_l0 x1 m (w64 (x + 1)) (mail_Desk_api_Command.mk (mSet m_.l x t_.2.2)))
    else
      some (.inr m_))

def mail_Desk_api_Command_Next (k : Nat) (d : mail_Desk_api_Command) : Option (api_Command × Int × Bool × mail_Desk_api_Command) :=
  (mail_Desk_api_Command_Next_l0 (d.l.length : Int) k 0 d).bind fun s =>
  match s with
  | .inl r_ => some r_
  | .inr s1 =>
    some (api_Command.mk 0 0 (api_Ref.mk 0 0) 0 0, 0, false, s1)

def meter_Meter_Steps (m_ : meter_Meter) : Option (Int) :=
  some m_.steps

def pq_Queues_Steps (q : pq_Queues) : Option (Int) :=
  (arena_Arena_Meter q.a_).bind fun t_ =>
  (meter_Meter_Steps q.a_.m_).bind fun t_1 =>
  some t_1

def dispatch_refused (why : Int) : Option (api_Reply) :=
  some (api_Reply.mk why (api_Ref.mk 0 0) 0 0 0)

def pool_Pool_jobs_Job_Len (p : pool_Pool_jobs_Job) : Option (Int) :=
  some (w64 ((p.l.length : Int) - (p.free.length : Int)))

def jobs_Table_Len (t_ : jobs_Table) : Option (Int) :=
  (pool_Pool_jobs_Job_Len t_.p).bind fun t_1 =>
  some t_1

def pool_Pool_jobs_Job_Places (p : pool_Pool_jobs_Job) : Option (Int) :=
  some p.most

def pool_Pool_jobs_Job_Take (p : pool_Pool_jobs_Job) (v_ : jobs_Job) : Option (api_Ref × Bool × pool_Pool_jobs_Job) :=
  ((bif decide (w64 ((p.free.length : Int) - 1) ≥ 0) then
    (mIdx p.free (w64 ((p.free.length : Int) - 1))).bind fun x =>
    (mCut p.free 0 (w64 ((p.free.length : Int) - 1))).bind fun l =>
    some (.inr (x, pool_Pool_jobs_Job.mk p.most p.l l))
  else
    (bif decide ((p.l.length : Int) ≥ p.most) then
      some (.inl (api_Ref.mk 0 0, false, p))
    else
      (mApp p.l ([pool_place_jobs_Job.mk 0 false (jobs_Job.mk 0 0 0 (api_Ref.mk 0 0))] : List pool_place_jobs_Job)).bind fun l1 =>
      some (.inr ((p.l.length : Int), pool_Pool_jobs_Job.mk p.most l1 p.free)))) : Option ((api_Ref × Bool × pool_Pool_jobs_Job) ⊕ (Int × pool_Pool_jobs_Job))).bind fun s =>
  match s with
  | .inl r_ => some r_
  | .inr s1 =>
    (mIdx s1.2.l s1.1).bind fun x1 =>
    some (api_Ref.mk s1.1 (w64 (x1.gen + 1)), true, pool_Pool_jobs_Job.mk s1.2.most (mSet (mSet (mSet s1.2.l s1.1 (pool_place_jobs_Job.mk (w64 (x1.gen + 1)) x1.taken x1.v_)) s1.1 (pool_place_jobs_Job.mk (w64 (x1.gen + 1)) true x1.v_)) s1.1 (pool_place_jobs_Job.mk (w64 (x1.gen + 1)) true v_)) s1.2.free)

def jobs_Table_Add (t_ : jobs_Table) (j : jobs_Job) : Option (api_Ref × Int × jobs_Table) :=
  (mLook api_Ref.eq j.Item (api_Ref.mk 0 0) t_.by_).bind fun x =>
  (pool_Pool_jobs_Job_Len t_.p).bind fun t_1 =>
  (pool_Pool_jobs_Job_Places t_.p).bind fun t_2 =>
  (bif t_1 == t_2 then
    some (api_Ref.mk 0 0, 13, t_)
  else
    (bif x.2 then
      some (api_Ref.mk 0 0, 1, t_)
    else
      (pool_Pool_jobs_Job_Take t_.p j).bind fun t_3 =>
      some (t_3.1, 0, jobs_Table.mk ((jobs_Table.mk t_3.2.2 t_.by_).p) (mPut api_Ref.eq j.Item t_3.1 ((jobs_Table.mk t_3.2.2 t_.by_).by_)))))

def dispatch_told (j : jobs_Job) : Option (api_Reply) :=
  some (api_Reply.mk 0 (api_Ref.mk 0 0) j.Time j.Data 0)

def dispatch_Dispatcher_schedule (k : Nat) (d : dispatch_Dispatcher) (c_ : api_Command) : Option (api_Reply × dispatch_Dispatcher) :=
  (jobs_Table_Len d.t_).bind fun t_ =>
  (bif decide (t_ ≥ d.most) then
    (dispatch_refused 13).bind fun t_1 =>
    some (t_1, d)
  else
    (mIdx ([d.heaps0, d.heaps1] : List api_Ref) c_.Queue).bind fun x =>
    (pq_Queues_Do k d.q (api_Call.mk 2 0 x (api_Ref.mk 0 0) (api_Ref.mk 0 0) c_.Time)).bind fun t_2 =>
    (jobs_Table_Add ((dispatch_Dispatcher.mk d.kind d.most t_2.2 d.heaps0 d.heaps1 d.t_ d.when d.clock d.budget d.last d.top).t_) (jobs_Job.mk c_.Queue c_.Time c_.Data t_2.1.Item)).bind fun t_3 =>
    (dispatch_told (jobs_Job.mk c_.Queue c_.Time c_.Data t_2.1.Item)).bind fun t_4 =>
    some (api_Reply.mk t_4.Why t_3.1 t_4.Time t_4.Data t_4.N, dispatch_Dispatcher.mk ((dispatch_Dispatcher.mk ((dispatch_Dispatcher.mk d.kind d.most t_2.2 d.heaps0 d.heaps1 d.t_ d.when d.clock d.budget d.last d.top).kind) ((dispatch_Dispatcher.mk d.kind d.most t_2.2 d.heaps0 d.heaps1 d.t_ d.when d.clock d.budget d.last d.top).most) ((dispatch_Dispatcher.mk d.kind d.most t_2.2 d.heaps0 d.heaps1 d.t_ d.when d.clock d.budget d.last d.top).q) ((dispatch_Dispatcher.mk d.kind d.most t_2.2 d.heaps0 d.heaps1 d.t_ d.when d.clock d.budget d.last d.top).heaps0) ((dispatch_Dispatcher.mk d.kind d.most t_2.2 d.heaps0 d.heaps1 d.t_ d.when d.clock d.budget d.last d.top).heaps1) t_3.2.2 ((dispatch_Dispatcher.mk d.kind d.most t_2.2 d.heaps0 d.heaps1 d.t_ d.when d.clock d.budget d.last d.top).when) ((dispatch_Dispatcher.mk d.kind d.most t_2.2 d.heaps0 d.heaps1 d.t_ d.when d.clock d.budget d.last d.top).clock) ((dispatch_Dispatcher.mk d.kind d.most t_2.2 d.heaps0 d.heaps1 d.t_ d.when d.clock d.budget d.last d.top).budget) ((dispatch_Dispatcher.mk d.kind d.most t_2.2 d.heaps0 d.heaps1 d.t_ d.when d.clock d.budget d.last d.top).last) ((dispatch_Dispatcher.mk d.kind d.most t_2.2 d.heaps0 d.heaps1 d.t_ d.when d.clock d.budget d.last d.top).top)).kind) ((dispatch_Dispatcher.mk ((dispatch_Dispatcher.mk d.kind d.most t_2.2 d.heaps0 d.heaps1 d.t_ d.when d.clock d.budget d.last d.top).kind) ((dispatch_Dispatcher.mk d.kind d.most t_2.2 d.heaps0 d.heaps1 d.t_ d.when d.clock d.budget d.last d.top).most) ((dispatch_Dispatcher.mk d.kind d.most t_2.2 d.heaps0 d.heaps1 d.t_ d.when d.clock d.budget d.last d.top).q) ((dispatch_Dispatcher.mk d.kind d.most t_2.2 d.heaps0 d.heaps1 d.t_ d.when d.clock d.budget d.last d.top).heaps0) ((dispatch_Dispatcher.mk d.kind d.most t_2.2 d.heaps0 d.heaps1 d.t_ d.when d.clock d.budget d.last d.top).heaps1) t_3.2.2 ((dispatch_Dispatcher.mk d.kind d.most t_2.2 d.heaps0 d.heaps1 d.t_ d.when d.clock d.budget d.last d.top).when) ((dispatch_Dispatcher.mk d.kind d.most t_2.2 d.heaps0 d.heaps1 d.t_ d.when d.clock d.budget d.last d.top).clock) ((dispatch_Dispatcher.mk d.kind d.most t_2.2 d.heaps0 d.heaps1 d.t_ d.when d.clock d.budget d.last d.top).budget) ((dispatch_Dispatcher.mk d.kind d.most t_2.2 d.heaps0 d.heaps1 d.t_ d.when d.clock d.budget d.last d.top).last) ((dispatch_Dispatcher.mk d.kind d.most t_2.2 d.heaps0 d.heaps1 d.t_ d.when d.clock d.budget d.last d.top).top)).most) ((dispatch_Dispatcher.mk ((dispatch_Dispatcher.mk d.kind d.most t_2.2 d.heaps0 d.heaps1 d.t_ d.when d.clock d.budget d.last d.top).kind) ((dispatch_Dispatcher.mk d.kind d.most t_2.2 d.heaps0 d.heaps1 d.t_ d.when d.clock d.budget d.last d.top).most) ((dispatch_Dispatcher.mk d.kind d.most t_2.2 d.heaps0 d.heaps1 d.t_ d.when d.clock d.budget d.last d.top).q) ((dispatch_Dispatcher.mk d.kind d.most t_2.2 d.heaps0 d.heaps1 d.t_ d.when d.clock d.budget d.last d.top).heaps0) ((dispatch_Dispatcher.mk d.kind d.most t_2.2 d.heaps0 d.heaps1 d.t_ d.when d.clock d.budget d.last d.top).heaps1) t_3.2.2 ((dispatch_Dispatcher.mk d.kind d.most t_2.2 d.heaps0 d.heaps1 d.t_ d.when d.clock d.budget d.last d.top).when) ((dispatch_Dispatcher.mk d.kind d.most t_2.2 d.heaps0 d.heaps1 d.t_ d.when d.clock d.budget d.last d.top).clock) ((dispatch_Dispatcher.mk d.kind d.most t_2.2 d.heaps0 d.heaps1 d.t_ d.when d.clock d.budget d.last d.top).budget) ((dispatch_Dispatcher.mk d.kind d.most t_2.2 d.heaps0 d.heaps1 d.t_ d.when d.clock d.budget d.last d.top).last) ((dispatch_Dispatcher.mk d.kind d.most t_2.2 d.heaps0 d.heaps1 d.t_ d.when d.clock d.budget d.last d.top).top)).q) ((dispatch_Dispatcher.mk ((dispatch_Dispatcher.mk d.kind d.most t_2.2 d.heaps0 d.heaps1 d.t_ d.when d.clock d.budget d.last d.top).kind) ((dispatch_Dispatcher.mk d.kind d.most t_2.2 d.heaps0 d.heaps1 d.t_ d.when d.clock d.budget d.last d.top).most) ((dispatch_Dispatcher.mk d.kind d.most t_2.2 d.heaps0 d.heaps1 d.t_ d.when d.clock d.budget d.last d.top).q) ((dispatch_Dispatcher.mk d.kind d.most t_2.2 d.heaps0 d.heaps1 d.t_ d.when d.clock d.budget d.last d.top).heaps0) ((dispatch_Dispatcher.mk d.kind d.most t_2.2 d.heaps0 d.heaps1 d.t_ d.when d.clock d.budget d.last d.top).heaps1) t_3.2.2 ((dispatch_Dispatcher.mk d.kind d.most t_2.2 d.heaps0 d.heaps1 d.t_ d.when d.clock d.budget d.last d.top).when) ((dispatch_Dispatcher.mk d.kind d.most t_2.2 d.heaps0 d.heaps1 d.t_ d.when d.clock d.budget d.last d.top).clock) ((dispatch_Dispatcher.mk d.kind d.most t_2.2 d.heaps0 d.heaps1 d.t_ d.when d.clock d.budget d.last d.top).budget) ((dispatch_Dispatcher.mk d.kind d.most t_2.2 d.heaps0 d.heaps1 d.t_ d.when d.clock d.budget d.last d.top).last) ((dispatch_Dispatcher.mk d.kind d.most t_2.2 d.heaps0 d.heaps1 d.t_ d.when d.clock d.budget d.last d.top).top)).heaps0) ((dispatch_Dispatcher.mk ((dispatch_Dispatcher.mk d.kind d.most t_2.2 d.heaps0 d.heaps1 d.t_ d.when d.clock d.budget d.last d.top).kind) ((dispatch_Dispatcher.mk d.kind d.most t_2.2 d.heaps0 d.heaps1 d.t_ d.when d.clock d.budget d.last d.top).most) ((dispatch_Dispatcher.mk d.kind d.most t_2.2 d.heaps0 d.heaps1 d.t_ d.when d.clock d.budget d.last d.top).q) ((dispatch_Dispatcher.mk d.kind d.most t_2.2 d.heaps0 d.heaps1 d.t_ d.when d.clock d.budget d.last d.top).heaps0) ((dispatch_Dispatcher.mk d.kind d.most t_2.2 d.heaps0 d.heaps1 d.t_ d.when d.clock d.budget d.last d.top).heaps1) t_3.2.2 ((dispatch_Dispatcher.mk d.kind d.most t_2.2 d.heaps0 d.heaps1 d.t_ d.when d.clock d.budget d.last d.top).when) ((dispatch_Dispatcher.mk d.kind d.most t_2.2 d.heaps0 d.heaps1 d.t_ d.when d.clock d.budget d.last d.top).clock) ((dispatch_Dispatcher.mk d.kind d.most t_2.2 d.heaps0 d.heaps1 d.t_ d.when d.clock d.budget d.last d.top).budget) ((dispatch_Dispatcher.mk d.kind d.most t_2.2 d.heaps0 d.heaps1 d.t_ d.when d.clock d.budget d.last d.top).last) ((dispatch_Dispatcher.mk d.kind d.most t_2.2 d.heaps0 d.heaps1 d.t_ d.when d.clock d.budget d.last d.top).top)).heaps1) ((dispatch_Dispatcher.mk ((dispatch_Dispatcher.mk d.kind d.most t_2.2 d.heaps0 d.heaps1 d.t_ d.when d.clock d.budget d.last d.top).kind) ((dispatch_Dispatcher.mk d.kind d.most t_2.2 d.heaps0 d.heaps1 d.t_ d.when d.clock d.budget d.last d.top).most) ((dispatch_Dispatcher.mk d.kind d.most t_2.2 d.heaps0 d.heaps1 d.t_ d.when d.clock d.budget d.last d.top).q) ((dispatch_Dispatcher.mk d.kind d.most t_2.2 d.heaps0 d.heaps1 d.t_ d.when d.clock d.budget d.last d.top).heaps0) ((dispatch_Dispatcher.mk d.kind d.most t_2.2 d.heaps0 d.heaps1 d.t_ d.when d.clock d.budget d.last d.top).heaps1) t_3.2.2 ((dispatch_Dispatcher.mk d.kind d.most t_2.2 d.heaps0 d.heaps1 d.t_ d.when d.clock d.budget d.last d.top).when) ((dispatch_Dispatcher.mk d.kind d.most t_2.2 d.heaps0 d.heaps1 d.t_ d.when d.clock d.budget d.last d.top).clock) ((dispatch_Dispatcher.mk d.kind d.most t_2.2 d.heaps0 d.heaps1 d.t_ d.when d.clock d.budget d.last d.top).budget) ((dispatch_Dispatcher.mk d.kind d.most t_2.2 d.heaps0 d.heaps1 d.t_ d.when d.clock d.budget d.last d.top).last) ((dispatch_Dispatcher.mk d.kind d.most t_2.2 d.heaps0 d.heaps1 d.t_ d.when d.clock d.budget d.last d.top).top)).t_) (mPut api_Ref.eq t_3.1 t_2.1.Entry.Serial ((dispatch_Dispatcher.mk ((dispatch_Dispatcher.mk d.kind d.most t_2.2 d.heaps0 d.heaps1 d.t_ d.when d.clock d.budget d.last d.top).kind) ((dispatch_Dispatcher.mk d.kind d.most t_2.2 d.heaps0 d.heaps1 d.t_ d.when d.clock d.budget d.last d.top).most) ((dispatch_Dispatcher.mk d.kind d.most t_2.2 d.heaps0 d.heaps1 d.t_ d.when d.clock d.budget d.last d.top).q) ((dispatch_Dispatcher.mk d.kind d.most t_2.2 d.heaps0 d.heaps1 d.t_ d.when d.clock d.budget d.last d.top).heaps0) ((dispatch_Dispatcher.mk d.kind d.most t_2.2 d.heaps0 d.heaps1 d.t_ d.when d.clock d.budget d.last d.top).heaps1) t_3.2.2 ((dispatch_Dispatcher.mk d.kind d.most t_2.2 d.heaps0 d.heaps1 d.t_ d.when d.clock d.budget d.last d.top).when) ((dispatch_Dispatcher.mk d.kind d.most t_2.2 d.heaps0 d.heaps1 d.t_ d.when d.clock d.budget d.last d.top).clock) ((dispatch_Dispatcher.mk d.kind d.most t_2.2 d.heaps0 d.heaps1 d.t_ d.when d.clock d.budget d.last d.top).budget) ((dispatch_Dispatcher.mk d.kind d.most t_2.2 d.heaps0 d.heaps1 d.t_ d.when d.clock d.budget d.last d.top).last) ((dispatch_Dispatcher.mk d.kind d.most t_2.2 d.heaps0 d.heaps1 d.t_ d.when d.clock d.budget d.last d.top).top)).when)) ((dispatch_Dispatcher.mk ((dispatch_Dispatcher.mk d.kind d.most t_2.2 d.heaps0 d.heaps1 d.t_ d.when d.clock d.budget d.last d.top).kind) ((dispatch_Dispatcher.mk d.kind d.most t_2.2 d.heaps0 d.heaps1 d.t_ d.when d.clock d.budget d.last d.top).most) ((dispatch_Dispatcher.mk d.kind d.most t_2.2 d.heaps0 d.heaps1 d.t_ d.when d.clock d.budget d.last d.top).q) ((dispatch_Dispatcher.mk d.kind d.most t_2.2 d.heaps0 d.heaps1 d.t_ d.when d.clock d.budget d.last d.top).heaps0) ((dispatch_Dispatcher.mk d.kind d.most t_2.2 d.heaps0 d.heaps1 d.t_ d.when d.clock d.budget d.last d.top).heaps1) t_3.2.2 ((dispatch_Dispatcher.mk d.kind d.most t_2.2 d.heaps0 d.heaps1 d.t_ d.when d.clock d.budget d.last d.top).when) ((dispatch_Dispatcher.mk d.kind d.most t_2.2 d.heaps0 d.heaps1 d.t_ d.when d.clock d.budget d.last d.top).clock) ((dispatch_Dispatcher.mk d.kind d.most t_2.2 d.heaps0 d.heaps1 d.t_ d.when d.clock d.budget d.last d.top).budget) ((dispatch_Dispatcher.mk d.kind d.most t_2.2 d.heaps0 d.heaps1 d.t_ d.when d.clock d.budget d.last d.top).last) ((dispatch_Dispatcher.mk d.kind d.most t_2.2 d.heaps0 d.heaps1 d.t_ d.when d.clock d.budget d.last d.top).top)).clock) ((dispatch_Dispatcher.mk ((dispatch_Dispatcher.mk d.kind d.most t_2.2 d.heaps0 d.heaps1 d.t_ d.when d.clock d.budget d.last d.top).kind) ((dispatch_Dispatcher.mk d.kind d.most t_2.2 d.heaps0 d.heaps1 d.t_ d.when d.clock d.budget d.last d.top).most) ((dispatch_Dispatcher.mk d.kind d.most t_2.2 d.heaps0 d.heaps1 d.t_ d.when d.clock d.budget d.last d.top).q) ((dispatch_Dispatcher.mk d.kind d.most t_2.2 d.heaps0 d.heaps1 d.t_ d.when d.clock d.budget d.last d.top).heaps0) ((dispatch_Dispatcher.mk d.kind d.most t_2.2 d.heaps0 d.heaps1 d.t_ d.when d.clock d.budget d.last d.top).heaps1) t_3.2.2 ((dispatch_Dispatcher.mk d.kind d.most t_2.2 d.heaps0 d.heaps1 d.t_ d.when d.clock d.budget d.last d.top).when) ((dispatch_Dispatcher.mk d.kind d.most t_2.2 d.heaps0 d.heaps1 d.t_ d.when d.clock d.budget d.last d.top).clock) ((dispatch_Dispatcher.mk d.kind d.most t_2.2 d.heaps0 d.heaps1 d.t_ d.when d.clock d.budget d.last d.top).budget) ((dispatch_Dispatcher.mk d.kind d.most t_2.2 d.heaps0 d.heaps1 d.t_ d.when d.clock d.budget d.last d.top).last) ((dispatch_Dispatcher.mk d.kind d.most t_2.2 d.heaps0 d.heaps1 d.t_ d.when d.clock d.budget d.last d.top).top)).budget) ((dispatch_Dispatcher.mk ((dispatch_Dispatcher.mk d.kind d.most t_2.2 d.heaps0 d.heaps1 d.t_ d.when d.clock d.budget d.last d.top).kind) ((dispatch_Dispatcher.mk d.kind d.most t_2.2 d.heaps0 d.heaps1 d.t_ d.when d.clock d.budget d.last d.top).most) ((dispatch_Dispatcher.mk d.kind d.most t_2.2 d.heaps0 d.heaps1 d.t_ d.when d.clock d.budget d.last d.top).q) ((dispatch_Dispatcher.mk d.kind d.most t_2.2 d.heaps0 d.heaps1 d.t_ d.when d.clock d.budget d.last d.top).heaps0) ((dispatch_Dispatcher.mk d.kind d.most t_2.2 d.heaps0 d.heaps1 d.t_ d.when d.clock d.budget d.last d.top).heaps1) t_3.2.2 ((dispatch_Dispatcher.mk d.kind d.most t_2.2 d.heaps0 d.heaps1 d.t_ d.when d.clock d.budget d.last d.top).when) ((dispatch_Dispatcher.mk d.kind d.most t_2.2 d.heaps0 d.heaps1 d.t_ d.when d.clock d.budget d.last d.top).clock) ((dispatch_Dispatcher.mk d.kind d.most t_2.2 d.heaps0 d.heaps1 d.t_ d.when d.clock d.budget d.last d.top).budget) ((dispatch_Dispatcher.mk d.kind d.most t_2.2 d.heaps0 d.heaps1 d.t_ d.when d.clock d.budget d.last d.top).last) ((dispatch_Dispatcher.mk d.kind d.most t_2.2 d.heaps0 d.heaps1 d.t_ d.when d.clock d.budget d.last d.top).top)).last) ((dispatch_Dispatcher.mk ((dispatch_Dispatcher.mk d.kind d.most t_2.2 d.heaps0 d.heaps1 d.t_ d.when d.clock d.budget d.last d.top).kind) ((dispatch_Dispatcher.mk d.kind d.most t_2.2 d.heaps0 d.heaps1 d.t_ d.when d.clock d.budget d.last d.top).most) ((dispatch_Dispatcher.mk d.kind d.most t_2.2 d.heaps0 d.heaps1 d.t_ d.when d.clock d.budget d.last d.top).q) ((dispatch_Dispatcher.mk d.kind d.most t_2.2 d.heaps0 d.heaps1 d.t_ d.when d.clock d.budget d.last d.top).heaps0) ((dispatch_Dispatcher.mk d.kind d.most t_2.2 d.heaps0 d.heaps1 d.t_ d.when d.clock d.budget d.last d.top).heaps1) t_3.2.2 ((dispatch_Dispatcher.mk d.kind d.most t_2.2 d.heaps0 d.heaps1 d.t_ d.when d.clock d.budget d.last d.top).when) ((dispatch_Dispatcher.mk d.kind d.most t_2.2 d.heaps0 d.heaps1 d.t_ d.when d.clock d.budget d.last d.top).clock) ((dispatch_Dispatcher.mk d.kind d.most t_2.2 d.heaps0 d.heaps1 d.t_ d.when d.clock d.budget d.last d.top).budget) ((dispatch_Dispatcher.mk d.kind d.most t_2.2 d.heaps0 d.heaps1 d.t_ d.when d.clock d.budget d.last d.top).last) ((dispatch_Dispatcher.mk d.kind d.most t_2.2 d.heaps0 d.heaps1 d.t_ d.when d.clock d.budget d.last d.top).top)).top)))

def pool_Pool_jobs_Job_Set (p : pool_Pool_jobs_Job) (r : api_Ref) (v_ : jobs_Job) : Option (Int × pool_Pool_jobs_Job) :=
  (pool_Pool_jobs_Job_find p r).bind fun t_ =>
  (mCase t_.1
    (((bif t_.2 == 0 then
      none
    else
      some ())).bind fun s =>
    some (t_.2, p))
    (fun i =>
    (mIdx p.l i).bind fun x =>
    ((bif t_.2 == 0 then
      some (pool_Pool_jobs_Job.mk p.most (mSet p.l i (pool_place_jobs_Job.mk x.gen x.taken v_)) p.free)
    else
      some p)).bind fun s1 =>
    some (t_.2, s1)))

def jobs_Table_Set (t_ : jobs_Table) (r : api_Ref) (j : jobs_Job) : Option (Int × jobs_Table) :=
  (pool_Pool_jobs_Job_Get t_.p r).bind fun t_1 =>
  (bif t_1.2 != 0 then
    some (t_1.2, t_)
  else
    (mLook api_Ref.eq j.Item (api_Ref.mk 0 0) t_.by_).bind fun x =>
    ((bif x.2 then
      some (!(api_Ref.eq x.1 r))
    else
      some false)).bind fun s =>
    (bif s then
      some (1, t_)
    else
      (pool_Pool_jobs_Job_Set t_.p r j).bind fun t_2 =>
      some (t_2.1, jobs_Table.mk t_2.2 (mPut api_Ref.eq j.Item r (mDel api_Ref.eq t_1.1.Item t_.by_)))))

def dispatch_Dispatcher_sooner (k : Nat) (d : dispatch_Dispatcher) (c_ : api_Command) : Option (api_Reply × dispatch_Dispatcher) :=
  (jobs_Table_Get d.t_ c_.Job).bind fun t_ =>
  (bif t_.2 != 0 then
    (dispatch_refused t_.2).bind fun t_1 =>
    some (t_1, d)
  else
    (bif decide (c_.Time > t_.1.Time) then
      (dispatch_refused 26).bind fun t_2 =>
      some (t_2, d)
    else
      (pq_Queues_Do k d.q (api_Call.mk 5 0 (api_Ref.mk 0 0) (api_Ref.mk 0 0) t_.1.Item c_.Time)).bind fun t_3 =>
      (jobs_Table_Set d.t_ c_.Job (jobs_Job.mk t_.1.Queue c_.Time t_.1.Data t_.1.Item)).bind fun t_4 =>
      (dispatch_told (jobs_Job.mk t_.1.Queue c_.Time t_.1.Data t_.1.Item)).bind fun t_5 =>
      some (t_5, dispatch_Dispatcher.mk d.kind d.most t_3.2 d.heaps0 d.heaps1 t_4.2 d.when d.clock d.budget d.last d.top)))

def pool_Pool_jobs_Job_Give (p : pool_Pool_jobs_Job) (r : api_Ref) : Option (jobs_Job × Int × pool_Pool_jobs_Job) :=
  (pool_Pool_jobs_Job_find p r).bind fun t_ =>
  (mCase t_.1
    ((bif t_.2 != 0 then
      some (jobs_Job.mk 0 0 0 (api_Ref.mk 0 0), t_.2, p)
    else
      none))
    (fun i =>
    (mIdx p.l i).bind fun x =>
    (bif t_.2 != 0 then
      some (jobs_Job.mk 0 0 0 (api_Ref.mk 0 0), t_.2, p)
    else
      (mApp p.free ([r.At] : List Int)).bind fun l =>
      some (x.v_, 0, pool_Pool_jobs_Job.mk p.most (mSet (mSet p.l i (pool_place_jobs_Job.mk x.gen false x.v_)) i (pool_place_jobs_Job.mk x.gen false (jobs_Job.mk 0 0 0 (api_Ref.mk 0 0)))) l))))

def jobs_Table_Take (t_ : jobs_Table) (r : api_Ref) : Option (jobs_Job × Int × jobs_Table) :=
  (pool_Pool_jobs_Job_Give t_.p r).bind fun t_1 =>
  ((bif t_1.2.1 == 0 then
    some (jobs_Table.mk ((jobs_Table.mk t_1.2.2 t_.by_).p) (mDel api_Ref.eq t_1.1.Item ((jobs_Table.mk t_1.2.2 t_.by_).by_)))
  else
    some (jobs_Table.mk t_1.2.2 t_.by_))).bind fun s =>
  some (t_1.1, t_1.2.1, s)

def dispatch_Dispatcher_gone (d : dispatch_Dispatcher) (r : api_Ref) : Option (api_Reply × dispatch_Dispatcher) :=
  (jobs_Table_Take d.t_ r).bind fun t_ =>
  (bif t_.2.1 != 0 then
    (dispatch_refused t_.2.1).bind fun t_1 =>
    some (t_1, dispatch_Dispatcher.mk d.kind d.most d.q d.heaps0 d.heaps1 t_.2.2 d.when d.clock d.budget d.last d.top)
  else
    (dispatch_told t_.1).bind fun t_2 =>
    some (t_2, dispatch_Dispatcher.mk ((dispatch_Dispatcher.mk d.kind d.most d.q d.heaps0 d.heaps1 t_.2.2 d.when d.clock d.budget d.last d.top).kind) ((dispatch_Dispatcher.mk d.kind d.most d.q d.heaps0 d.heaps1 t_.2.2 d.when d.clock d.budget d.last d.top).most) ((dispatch_Dispatcher.mk d.kind d.most d.q d.heaps0 d.heaps1 t_.2.2 d.when d.clock d.budget d.last d.top).q) ((dispatch_Dispatcher.mk d.kind d.most d.q d.heaps0 d.heaps1 t_.2.2 d.when d.clock d.budget d.last d.top).heaps0) ((dispatch_Dispatcher.mk d.kind d.most d.q d.heaps0 d.heaps1 t_.2.2 d.when d.clock d.budget d.last d.top).heaps1) ((dispatch_Dispatcher.mk d.kind d.most d.q d.heaps0 d.heaps1 t_.2.2 d.when d.clock d.budget d.last d.top).t_) (mDel api_Ref.eq r ((dispatch_Dispatcher.mk d.kind d.most d.q d.heaps0 d.heaps1 t_.2.2 d.when d.clock d.budget d.last d.top).when)) ((dispatch_Dispatcher.mk d.kind d.most d.q d.heaps0 d.heaps1 t_.2.2 d.when d.clock d.budget d.last d.top).clock) ((dispatch_Dispatcher.mk d.kind d.most d.q d.heaps0 d.heaps1 t_.2.2 d.when d.clock d.budget d.last d.top).budget) ((dispatch_Dispatcher.mk d.kind d.most d.q d.heaps0 d.heaps1 t_.2.2 d.when d.clock d.budget d.last d.top).last) ((dispatch_Dispatcher.mk d.kind d.most d.q d.heaps0 d.heaps1 t_.2.2 d.when d.clock d.budget d.last d.top).top)))

def dispatch_Dispatcher_cancel (k : Nat) (d : dispatch_Dispatcher) (r : api_Ref) : Option (api_Reply × dispatch_Dispatcher) :=
  (jobs_Table_Get d.t_ r).bind fun t_ =>
  ((bif t_.2 == 0 then
    (pq_Queues_Do k d.q (api_Call.mk 6 0 (api_Ref.mk 0 0) (api_Ref.mk 0 0) t_.1.Item 0)).bind fun t_1 =>
    some (dispatch_Dispatcher.mk d.kind d.most t_1.2 d.heaps0 d.heaps1 d.t_ d.when d.clock d.budget d.last d.top)
  else
    some d)).bind fun s =>
  (dispatch_Dispatcher_gone s r).bind fun t_2 =>
  some (t_2.1, t_2.2)

def clock_Clock_Go (c_ : clock_Clock) (by_ : Int) : Option (Int × clock_Clock) :=
  (bif decide (by_ < 0) then
    some (1, c_)
  else
    (order_Add c_.now by_).bind fun t_ =>
    some (0, clock_Clock.mk t_))

def clock_Clock_Now (c_ : clock_Clock) : Option (Int) :=
  some c_.now

def jobs_Table_By (t_ : jobs_Table) (item : api_Ref) : Option (api_Ref × Bool) :=
  (mLook api_Ref.eq item (api_Ref.mk 0 0) t_.by_).bind fun x =>
  some (x.1, x.2)

def dispatch_Dispatcher_fire (k : Nat) (d : dispatch_Dispatcher) (queue : Int) : Option (api_Reply × dispatch_Dispatcher) :=
  (mIdx ([d.heaps0, d.heaps1] : List api_Ref) queue).bind fun x =>
  (pq_Queues_Do k d.q (api_Call.mk 3 0 x (api_Ref.mk 0 0) (api_Ref.mk 0 0) 0)).bind fun t_ =>
  ((bif t_.1.Why != 0 then
    some (true, dispatch_Dispatcher.mk d.kind d.most t_.2 d.heaps0 d.heaps1 d.t_ d.when d.clock d.budget d.last d.top)
  else
    (clock_Clock_Due ((dispatch_Dispatcher.mk d.kind d.most t_.2 d.heaps0 d.heaps1 d.t_ d.when d.clock d.budget d.last d.top).clock) t_.1.Entry.Key).bind fun t_1 =>
    some (!t_1, dispatch_Dispatcher.mk ((dispatch_Dispatcher.mk d.kind d.most t_.2 d.heaps0 d.heaps1 d.t_ d.when d.clock d.budget d.last d.top).kind) ((dispatch_Dispatcher.mk d.kind d.most t_.2 d.heaps0 d.heaps1 d.t_ d.when d.clock d.budget d.last d.top).most) ((dispatch_Dispatcher.mk d.kind d.most t_.2 d.heaps0 d.heaps1 d.t_ d.when d.clock d.budget d.last d.top).q) ((dispatch_Dispatcher.mk d.kind d.most t_.2 d.heaps0 d.heaps1 d.t_ d.when d.clock d.budget d.last d.top).heaps0) ((dispatch_Dispatcher.mk d.kind d.most t_.2 d.heaps0 d.heaps1 d.t_ d.when d.clock d.budget d.last d.top).heaps1) ((dispatch_Dispatcher.mk d.kind d.most t_.2 d.heaps0 d.heaps1 d.t_ d.when d.clock d.budget d.last d.top).t_) ((dispatch_Dispatcher.mk d.kind d.most t_.2 d.heaps0 d.heaps1 d.t_ d.when d.clock d.budget d.last d.top).when) ((dispatch_Dispatcher.mk d.kind d.most t_.2 d.heaps0 d.heaps1 d.t_ d.when d.clock d.budget d.last d.top).clock) ((dispatch_Dispatcher.mk d.kind d.most t_.2 d.heaps0 d.heaps1 d.t_ d.when d.clock d.budget d.last d.top).budget) ((dispatch_Dispatcher.mk d.kind d.most t_.2 d.heaps0 d.heaps1 d.t_ d.when d.clock d.budget d.last d.top).last) ((dispatch_Dispatcher.mk d.kind d.most t_.2 d.heaps0 d.heaps1 d.t_ d.when d.clock d.budget d.last d.top).top)))).bind fun s =>
  (bif s.1 then
    (dispatch_refused 28).bind fun t_2 =>
    some (t_2, s.2)
  else
    (pq_Queues_Do k s.2.q (api_Call.mk 4 0 x (api_Ref.mk 0 0) (api_Ref.mk 0 0) 0)).bind fun t_3 =>
    (jobs_Table_By s.2.t_ t_3.1.Item).bind fun t_4 =>
    (dispatch_Dispatcher_gone (dispatch_Dispatcher.mk s.2.kind s.2.most t_3.2 s.2.heaps0 s.2.heaps1 s.2.t_ s.2.when s.2.clock s.2.budget s.2.last s.2.top) t_4.1).bind fun t_5 =>
    some (api_Reply.mk t_5.1.Why t_4.1 t_5.1.Time t_5.1.Data t_5.1.N, t_5.2))

def jobs_Table_Move_l0 (from_1 : Int) (to1 : Int) (x1 : Int) (l : List api_Ref) : Nat → Int → Int → jobs_Table → Option (Int × jobs_Table)
  | 0, _, _, _ => none
  | m + 1, n, x, m_ =>
    (bif decide (x < x1) then
      ((mIdx l x).bind fun x2 =>
      (pool_Pool_jobs_Job_Get m_.p x2).bind fun t_2 =>
      (bif t_2.1.Queue == from_1 then
        (pool_Pool_jobs_Job_Set m_.p x2 (jobs_Job.mk to1 t_2.1.Time t_2.1.Data t_2.1.Item)).bind fun t_3 =>
        some (w64 (n + 1), jobs_Table.mk t_3.2 m_.by_)
      else
        some (n, m_))).bind fun s1 =>
      jobs_Table_Move_l0 from_1 to1 x1 l m s1.1 (w64 (x + 1)) s1.2
    else
      some (n, m_))

def jobs_Table_Move (k : Nat) (t_ : jobs_Table) (from_ : Int) (to : Int) : Option (Int × jobs_Table) :=
  (pool_Pool_jobs_Job_All k t_.p).bind fun t_1 =>
  (jobs_Table_Move_l0 from_ to (t_1.length : Int) t_1 k 0 0 t_).bind fun s =>
  some (s.1, s.2)

def dispatch_Dispatcher_merge (k : Nat) (d : dispatch_Dispatcher) : Option (api_Reply × dispatch_Dispatcher) :=
  (pq_Queues_Do k d.q (api_Call.mk 7 0 d.heaps0 d.heaps1 (api_Ref.mk 0 0) 0)).bind fun t_ =>
  (pq_Queues_Do k t_.2 (api_Call.mk 1 d.kind (api_Ref.mk 0 0) (api_Ref.mk 0 0) (api_Ref.mk 0 0) 0)).bind fun t_1 =>
  (jobs_Table_Move k d.t_ 1 0).bind fun t_2 =>
  some (api_Reply.mk 0 (api_Ref.mk 0 0) 0 0 t_2.1, dispatch_Dispatcher.mk d.kind d.most t_1.2 d.heaps0 t_1.1.Heap t_2.2 d.when d.clock d.budget d.last d.top)

def jobs_Table_Count_l0 (queue1 : Int) (x1 : Int) (m_ : jobs_Table) (l : List api_Ref) : Nat → Int → Int → Option (Int)
  | 0, _, _ => none
  | m + 1, n, x =>
    (bif decide (x < x1) then
      ((mIdx l x).bind fun x2 =>
      (pool_Pool_jobs_Job_Get m_.p x2).bind fun t_2 =>
      (bif t_2.1.Queue == queue1 then
        some (w64 (n + 1))
      else
        some n)).bind fun s1 =>
      jobs_Table_Count_l0 queue1 x1 m_ l m s1 (w64 (x + 1))
    else
      some n)

def jobs_Table_Count (k : Nat) (t_ : jobs_Table) (queue : Int) : Option (Int) :=
  (pool_Pool_jobs_Job_All k t_.p).bind fun t_1 =>
  (jobs_Table_Count_l0 queue (t_1.length : Int) t_ t_1 k 0 0).bind fun s =>
  some s

def dispatch_Dispatcher_one (k : Nat) (d : dispatch_Dispatcher) (c_ : api_Command) : Option (api_Reply × dispatch_Dispatcher) :=
  (((bif c_.Kind == 1 then
    some (c_.Kind == 1)
  else
    (bif c_.Kind == 5 then
      some (c_.Kind == 5)
    else
      (bif c_.Kind == 6 then
        some (c_.Kind == 6)
      else
        some (c_.Kind == 7))))).bind fun s2 =>
  (bif s2 then
    (bif !((decide (c_.Queue ≥ 0)) && (decide (c_.Queue < 2))) then
      (dispatch_refused 1).bind fun t_ =>
      some (.inl (t_, d))
    else
      some (.inr ()))
  else
    some (.inr ())) : Option ((api_Reply × dispatch_Dispatcher) ⊕ (Unit))).bind fun s =>
  match s with
  | .inl r_ => some r_
  | .inr s1 =>
    (bif c_.Kind == 1 then
      (dispatch_Dispatcher_schedule k d c_).bind fun t_1 =>
      some (t_1.1, t_1.2)
    else
      (bif c_.Kind == 2 then
        (dispatch_Dispatcher_sooner k d c_).bind fun t_2 =>
        some (t_2.1, t_2.2)
      else
        (bif c_.Kind == 3 then
          (dispatch_Dispatcher_cancel k d c_.Job).bind fun t_3 =>
          some (t_3.1, t_3.2)
        else
          (bif c_.Kind == 4 then
            (clock_Clock_Go d.clock c_.Time).bind fun t_4 =>
            (bif t_4.1 != 0 then
              (dispatch_refused t_4.1).bind fun t_5 =>
              some (t_5, dispatch_Dispatcher.mk d.kind d.most d.q d.heaps0 d.heaps1 d.t_ d.when t_4.2 d.budget d.last d.top)
            else
              (clock_Clock_Now t_4.2).bind fun t_6 =>
              some (api_Reply.mk 0 (api_Ref.mk 0 0) t_6 0 0, dispatch_Dispatcher.mk d.kind d.most d.q d.heaps0 d.heaps1 d.t_ d.when t_4.2 d.budget d.last d.top))
          else
            (bif c_.Kind == 5 then
              (dispatch_Dispatcher_fire k d c_.Queue).bind fun t_7 =>
              some (t_7.1, t_7.2)
            else
              (bif c_.Kind == 6 then
                (bif c_.Queue == 0 then
                  (dispatch_refused 25).bind fun t_8 =>
                  some (t_8, d)
                else
                  (dispatch_Dispatcher_merge k d).bind fun t_9 =>
                  some (t_9.1, t_9.2))
              else
                (bif c_.Kind == 7 then
                  (jobs_Table_Count k d.t_ c_.Queue).bind fun t_10 =>
                  some (api_Reply.mk 0 (api_Ref.mk 0 0) 0 0 t_10, d)
                else
                  (dispatch_refused 12).bind fun t_11 =>
                  some (t_11, d))))))))

def dispatch_Dispatcher_Do (k : Nat) (d : dispatch_Dispatcher) (c_ : api_Command) : Option (api_Reply × dispatch_Dispatcher) :=
  (pq_Queues_Steps d.q).bind fun t_ =>
  (dispatch_Dispatcher_one k d c_).bind fun t_1 =>
  (pq_Queues_Steps t_1.2.q).bind fun t_2 =>
  (bif decide (w64 (t_2 - t_) > t_1.2.budget) then
    (dispatch_refused 29).bind fun t_3 =>
    some (t_3, dispatch_Dispatcher.mk t_1.2.kind t_1.2.most t_1.2.q t_1.2.heaps0 t_1.2.heaps1 t_1.2.t_ t_1.2.when t_1.2.clock t_1.2.budget (w64 (t_2 - t_)) (if w64 (t_2 - t_) > t_1.2.top then w64 (t_2 - t_) else t_1.2.top))
  else
    some (t_1.1, dispatch_Dispatcher.mk t_1.2.kind t_1.2.most t_1.2.q t_1.2.heaps0 t_1.2.heaps1 t_1.2.t_ t_1.2.when t_1.2.clock t_1.2.budget (w64 (t_2 - t_)) (if w64 (t_2 - t_) > t_1.2.top then w64 (t_2 - t_) else t_1.2.top)))

def server_Server_Serve (k : Nat) (s : server_Server) : Option (api_Reply × api_Command × Bool × server_Server) :=
  (mail_Desk_api_Command_Next k s.desk).bind fun t_ =>
  (bif !t_.2.2.1 then
    some (api_Reply.mk 0 (api_Ref.mk 0 0) 0 0 0, api_Command.mk 0 0 (api_Ref.mk 0 0) 0 0, false, server_Server.mk s.d t_.2.2.2)
  else
    (dispatch_Dispatcher_Do k s.d t_.1).bind fun t_1 =>
    some (t_1.1, t_.1, true, server_Server.mk t_1.2 t_.2.2.2))

def dispatch_Dispatcher_Now (d : dispatch_Dispatcher) : Option (Int) :=
  (clock_Clock_Now d.clock).bind fun t_ =>
  some t_

def dispatch_Dispatcher_Last (d : dispatch_Dispatcher) : Option (Int) :=
  some d.last

def trace_Book_note (b : trace_Book) (c_ : api_Command) (r : api_Reply) : Option (api_Reply × trace_Book) :=
  (server_Server_Dispatcher b.s).bind fun t_ =>
  (dispatch_Dispatcher_Now b.s.d).bind fun t_1 =>
  (dispatch_Dispatcher_Last b.s.d).bind fun t_2 =>
  (mApp b.l ([trace_Event.mk c_ r t_1 t_2] : List trace_Event)).bind fun l =>
  some (r, trace_Book.mk b.s l)

def server_Server_Do (k : Nat) (s : server_Server) (c_ : api_Command) : Option (api_Reply × server_Server) :=
  (dispatch_Dispatcher_Do k s.d c_).bind fun t_ =>
  some (t_.1, server_Server.mk t_.2 s.desk)

def trace_Book_drain_l0 : Nat → Int → Int → trace_Book → Option (Int × trace_Book)
  | 0, _, _, _ => none
  | m + 1, n, x, m_ =>
    (bif decide (x < 4097) then
      (server_Server_Do m m_.s (api_Command.mk 5 0 (api_Ref.mk 0 0) 0 0)).bind fun t_ =>
      (trace_Book_note (trace_Book.mk t_.2 m_.l) (api_Command.mk 5 0 (api_Ref.mk 0 0) 0 0) t_.1).bind fun t_1 =>
      (bif t_1.1.Why != 0 then
        some (n, t_1.2)
      else
        trace_Book_drain_l0 m (w64 (n + 1)) (w64 (x + 1)) t_1.2)
    else
      some (n, m_))

def trace_Book_drain (k : Nat) (b : trace_Book) : Option (Int × trace_Book) :=
  (trace_Book_drain_l0 k 0 0 b).bind fun s =>
  some (s.1, s.2)

def trace_Book_Act (k : Nat) (b : trace_Book) (x : api_Act) : Option (api_Reply × trace_Book) :=
  (bif x.Kind == 1 then
    (server_Server_Post b.s x.Box x.Command).bind fun t_ =>
    some (api_Reply.mk t_.1 (api_Ref.mk 0 0) 0 0 0, trace_Book.mk t_.2 b.l)
  else
    (bif x.Kind == 2 then
      (server_Server_Serve k b.s).bind fun t_1 =>
      (bif !t_1.2.2.1 then
        some (api_Reply.mk 27 (api_Ref.mk 0 0) 0 0 0, trace_Book.mk t_1.2.2.2 b.l)
      else
        (trace_Book_note (trace_Book.mk t_1.2.2.2 b.l) t_1.2.1 t_1.1).bind fun t_2 =>
        some (t_2.1, t_2.2))
    else
      (bif x.Kind == 3 then
        (server_Server_Do k b.s x.Command).bind fun t_3 =>
        (trace_Book_note (trace_Book.mk t_3.2 b.l) x.Command t_3.1).bind fun t_4 =>
        some (t_4.1, t_4.2)
      else
        (bif x.Kind == 4 then
          (trace_Book_drain k b).bind fun t_5 =>
          some (api_Reply.mk 0 (api_Ref.mk 0 0) 0 0 t_5.1, t_5.2)
        else
          some (api_Reply.mk 12 (api_Ref.mk 0 0) 0 0 0, b)))))

def thicketref2_New (places : Int) : Option (thicketref2_Pool) :=
  some (thicketref2_Pool.mk (if 0 > (if 65536 < places then 65536 else places) then 0 else (if 65536 < places then 65536 else places)) ([] : List Int) ([] : List Bool) ([] : List Int) ([] : List Int))

def thicketref22_New (jobs : Int) : Option (thicketref22_Dispatcher) :=
  (thicketref2_New jobs).bind fun t_ =>
  some (thicketref22_Dispatcher.mk jobs 0 0 t_ ([] : List thicketref22_Job))

def thicketref2_Pool_Take (p : thicketref2_Pool) (v_ : Int) : Option (api_Ref × Bool × thicketref2_Pool) :=
  ((bif decide ((p.Back.length : Int) > 0) then
    (mIdx p.Back (w64 ((p.Back.length : Int) - 1))).bind fun x =>
    (mCut p.Back 0 (w64 ((p.Back.length : Int) - 1))).bind fun l =>
    some (.inr (x, thicketref2_Pool.mk p.Most p.Gens p.In p.V l))
  else
    (bif decide ((p.Gens.length : Int) ≥ p.Most) then
      some (.inl (api_Ref.mk 0 0, false, p))
    else
      (mApp p.Gens ([0] : List Int)).bind fun l1 =>
      (mApp p.In ([false] : List Bool)).bind fun l2 =>
      (mApp p.V ([0] : List Int)).bind fun l3 =>
      some (.inr ((p.Gens.length : Int), thicketref2_Pool.mk p.Most l1 l2 l3 p.Back)))) : Option ((api_Ref × Bool × thicketref2_Pool) ⊕ (Int × thicketref2_Pool))).bind fun s =>
  match s with
  | .inl r_ => some r_
  | .inr s1 =>
    (mIdx s1.2.Gens s1.1).bind fun x1 =>
    (mIdx s1.2.Gens s1.1).bind fun x2 =>
    (mIdx s1.2.In s1.1).bind fun x3 =>
    (mIdx s1.2.V s1.1).bind fun x4 =>
    (mIdx (mSet s1.2.Gens s1.1 (w64 (x1 + 1))) s1.1).bind fun x5 =>
    some (api_Ref.mk s1.1 x5, true, thicketref2_Pool.mk s1.2.Most (mSet s1.2.Gens s1.1 (w64 (x1 + 1))) (mSet s1.2.In s1.1 true) (mSet s1.2.V s1.1 v_) s1.2.Back)

def thicketref1_Before (a_ : api_Entry) (b : api_Entry) : Option (Bool) :=
  some ((decide (a_.Key < b.Key)) || ((a_.Key == b.Key) && (decide (a_.Serial < b.Serial))))

def thicketref22_Dispatcher_first_l0 (queue1 : Int) (m_ : thicketref22_Dispatcher) : Nat → Int → Int → Option (Int)
  | 0, _, _ => none
  | m + 1, k_, i =>
    (bif decide (i < (m_.L.length : Int)) then
      (((mIdx m_.L i).bind fun x2 =>
      (bif x2.Queue == queue1 then
        (bif decide (k_ < 0) then
          some true
        else
          (mIdx m_.L i).bind fun x3 =>
          (mIdx m_.L k_).bind fun x4 =>
          (thicketref1_Before x3.E x4.E).bind fun t_ =>
          some t_)
      else
        some false)).bind fun s2 =>
      (bif s2 then
        some i
      else
        some k_)).bind fun s1 =>
      thicketref22_Dispatcher_first_l0 queue1 m_ m s1 (w64 (i + 1))
    else
      some k_)

def thicketref22_Dispatcher_first (k : Nat) (d : thicketref22_Dispatcher) (queue : Int) : Option (Int) :=
  (thicketref22_Dispatcher_first_l0 queue d k (-1) 0).bind fun s =>
  some s

def thicketref2_Pool_Look (p : thicketref2_Pool) (r : api_Ref) : Option (Int) :=
  ((bif decide (r.At < 0) then
    some true
  else
    (bif decide (r.At ≥ (p.Gens.length : Int)) then
      some true
    else
      (bif decide (r.Gen < 1) then
        some true
      else
        (mIdx p.Gens r.At).bind fun x1 =>
        some (decide (r.Gen > x1)))))).bind fun s =>
  (bif s then
    some 22
  else
    ((mIdx p.Gens r.At).bind fun x4 =>
    (bif decide (r.Gen < x4) then
      some true
    else
      (mIdx p.In r.At).bind fun x5 =>
      some (!x5))).bind fun s1 =>
    (bif s1 then
      some 23
    else
      some 0))

def thicketref2_Pool_Give (p : thicketref2_Pool) (r : api_Ref) : Option (Int × Int × thicketref2_Pool) :=
  (thicketref2_Pool_Look p r).bind fun t_ =>
  (bif t_ != 0 then
    some (0, t_, p)
  else
    (mIdx p.In r.At).bind fun x =>
    (mApp ([] : List Int) p.Back).bind fun l =>
    (mApp l ([r.At] : List Int)).bind fun l1 =>
    (mIdx ((thicketref2_Pool.mk p.Most p.Gens (mSet p.In r.At false) p.V l1).V) r.At).bind fun x1 =>
    some (x1, 0, (thicketref2_Pool.mk p.Most p.Gens (mSet p.In r.At false) p.V l1)))

def thicketref22_Dispatcher_out (d : thicketref22_Dispatcher) (k_ : Int) : Option (thicketref22_Job × thicketref22_Dispatcher) :=
  (mIdx d.L k_).bind fun x =>
  (mCut d.L 0 k_).bind fun l =>
  (mCut d.L (w64 (k_ + 1)) (d.L.length : Int)).bind fun l1 =>
  (mApp ([] : List thicketref22_Job) l).bind fun l2 =>
  (mApp l2 l1).bind fun l3 =>
  (thicketref2_Pool_Give d.Pool x.R).bind fun t_ =>
  some (x, thicketref22_Dispatcher.mk d.Most d.Now d.Next t_.2.2 l3)

def thicketref22_Dispatcher_Count_l0 (queue1 : Int) (m_ : thicketref22_Dispatcher) : Nat → Int → Int → Option (Int)
  | 0, _, _ => none
  | m + 1, n, i =>
    (bif decide (i < (m_.L.length : Int)) then
      ((mIdx m_.L i).bind fun x =>
      (bif x.Queue == queue1 then
        some (w64 (n + 1))
      else
        some n)).bind fun s1 =>
      thicketref22_Dispatcher_Count_l0 queue1 m_ m s1 (w64 (i + 1))
    else
      some n)

def thicketref22_Dispatcher_Count (k : Nat) (d : thicketref22_Dispatcher) (queue : Int) : Option (Int) :=
  (thicketref22_Dispatcher_Count_l0 queue d k 0 0).bind fun s =>
  some s

def thicketref22_Dispatcher_queue_l0 : Nat → Int → Int → thicketref22_Dispatcher → Option (Int × thicketref22_Dispatcher)
  | 0, _, _, _ => none
  | m + 1, n, i, m_ =>
    (bif decide (i < (m_.L.length : Int)) then
      ((mIdx m_.L i).bind fun x2 =>
      (bif x2.Queue == 1 then
        (mIdx m_.L i).bind fun x3 =>
        some (w64 (n + 1), thicketref22_Dispatcher.mk m_.Most m_.Now m_.Next m_.Pool (mSet m_.L i (thicketref22_Job.mk 0 x3.Data x3.E x3.R)))
      else
        some (n, m_))).bind fun s2 =>
      thicketref22_Dispatcher_queue_l0 m s2.1 (w64 (i + 1)) s2.2
    else
      some (n, m_))

def thicketref22_Dispatcher_queue (k : Nat) (d : thicketref22_Dispatcher) (c_ : api_Command) : Option (api_Reply × thicketref22_Dispatcher) :=
  (bif c_.Kind == 1 then
    (thicketref2_Pool_Take d.Pool 0).bind fun t_ =>
    (bif !t_.2.1 then
      some (api_Reply.mk 13 (api_Ref.mk 0 0) 0 0 0, thicketref22_Dispatcher.mk d.Most d.Now d.Next t_.2.2 d.L)
    else
      (mApp ([] : List thicketref22_Job) d.L).bind fun l =>
      (mApp l ([thicketref22_Job.mk c_.Queue c_.Data (api_Entry.mk c_.Time d.Next) t_.1] : List thicketref22_Job)).bind fun l1 =>
      some (api_Reply.mk 0 t_.1 c_.Time c_.Data 0, thicketref22_Dispatcher.mk ((thicketref22_Dispatcher.mk d.Most d.Now d.Next t_.2.2 l1).Most) ((thicketref22_Dispatcher.mk d.Most d.Now d.Next t_.2.2 l1).Now) (w64 (((thicketref22_Dispatcher.mk d.Most d.Now d.Next t_.2.2 l1).Next) + 1)) ((thicketref22_Dispatcher.mk d.Most d.Now d.Next t_.2.2 l1).Pool) ((thicketref22_Dispatcher.mk d.Most d.Now d.Next t_.2.2 l1).L)))
  else
    (bif c_.Kind == 5 then
      (thicketref22_Dispatcher_first k d c_.Queue).bind fun t_1 =>
      ((bif decide (t_1 < 0) then
        some true
      else
        (mIdx d.L t_1).bind fun x1 =>
        some (decide (x1.E.Key > d.Now)))).bind fun s =>
      (bif s then
        some (api_Reply.mk 28 (api_Ref.mk 0 0) 0 0 0, d)
      else
        (thicketref22_Dispatcher_out d t_1).bind fun t_2 =>
        some (api_Reply.mk 0 t_2.1.R t_2.1.E.Key t_2.1.Data 0, t_2.2))
    else
      (bif c_.Kind == 6 then
        (bif c_.Queue == 0 then
          some (api_Reply.mk 25 (api_Ref.mk 0 0) 0 0 0, d)
        else
          (thicketref22_Dispatcher_queue_l0 k 0 0 d).bind fun s1 =>
          some (api_Reply.mk 0 (api_Ref.mk 0 0) 0 0 s1.1, s1.2))
      else
        (thicketref22_Dispatcher_Count k d c_.Queue).bind fun t_3 =>
        some (api_Reply.mk 0 (api_Ref.mk 0 0) 0 0 t_3, d))))

def thicketref22_Dispatcher_at_l0 (v_ : Int) (v_1 : Int) (m_ : thicketref22_Dispatcher) : Nat → Int → Option ((Int × thicketref22_Dispatcher) ⊕ (Unit))
  | 0, _ => none
  | m + 1, i =>
    (bif decide (i < (m_.L.length : Int)) then
      (mIdx m_.L i).bind fun x =>
      (bif api_Ref.eq x.R (api_Ref.mk v_ v_1) then
        some (.inl (i, m_))
      else
        thicketref22_Dispatcher_at_l0 v_ v_1 m_ m (w64 (i + 1)))
    else
      some (.inr ()))

def thicketref22_Dispatcher_at (k : Nat) (d : thicketref22_Dispatcher) (r : api_Ref) : Option (Int × thicketref22_Dispatcher) :=
  (thicketref22_Dispatcher_at_l0 r.At r.Gen d k 0).bind fun s =>
  match s with
  | .inl r_ => some r_
  | .inr s1 =>
    some ((-1), d)

def thicketref1_Add (a_ : Int) (b : Int) : Option (Int) :=
  (bif (decide (a_ > 0)) && (decide (b > w64 (9223372036854775807 - a_))) then
    some 9223372036854775807
  else
    (bif (decide (a_ < 0)) && (decide (b < w64 ((-9223372036854775808) - a_))) then
      some (-9223372036854775808)
    else
      some (w64 (a_ + b))))

def thicketref22_Dispatcher_Do (k : Nat) (d : thicketref22_Dispatcher) (c_ : api_Command) : Option (api_Reply × thicketref22_Dispatcher) :=
  (((bif c_.Kind == 1 then
    some (c_.Kind == 1)
  else
    (bif c_.Kind == 5 then
      some (c_.Kind == 5)
    else
      (bif c_.Kind == 6 then
        some (c_.Kind == 6)
      else
        some (c_.Kind == 7))))).bind fun s2 =>
  (bif s2 then
    (bif (c_.Queue != 0) && (c_.Queue != 1) then
      some (.inl (api_Reply.mk 1 (api_Ref.mk 0 0) 0 0 0, d))
    else
      (thicketref22_Dispatcher_queue k d c_).bind fun t_ =>
      some (.inl (t_.1, t_.2)))
  else
    ((bif c_.Kind == 2 then
      some (c_.Kind == 2)
    else
      some (c_.Kind == 3))).bind fun s3 =>
    (bif s3 then
      (thicketref2_Pool_Look d.Pool c_.Job).bind fun t_1 =>
      (bif t_1 != 0 then
        some (.inl (api_Reply.mk t_1 (api_Ref.mk 0 0) 0 0 0, d))
      else
        (thicketref22_Dispatcher_at k d c_.Job).bind fun t_2 =>
        (bif c_.Kind == 3 then
          (thicketref22_Dispatcher_out t_2.2 t_2.1).bind fun t_3 =>
          some (.inl (api_Reply.mk 0 (api_Ref.mk 0 0) t_3.1.E.Key t_3.1.Data 0, t_3.2))
        else
          (mIdx t_2.2.L t_2.1).bind fun x =>
          (bif decide (c_.Time > x.E.Key) then
            some (.inl (api_Reply.mk 26 (api_Ref.mk 0 0) 0 0 0, t_2.2))
          else
            (mIdx t_2.2.L t_2.1).bind fun x1 =>
            (mIdx (mSet t_2.2.L t_2.1 (thicketref22_Job.mk x1.Queue x1.Data (api_Entry.mk c_.Time x1.E.Serial) x1.R)) t_2.1).bind fun x2 =>
            some (.inl (api_Reply.mk 0 (api_Ref.mk 0 0) c_.Time x2.Data 0, thicketref22_Dispatcher.mk t_2.2.Most t_2.2.Now t_2.2.Next t_2.2.Pool (mSet t_2.2.L t_2.1 (thicketref22_Job.mk x1.Queue x1.Data (api_Entry.mk c_.Time x1.E.Serial) x1.R)))))))
    else
      (bif c_.Kind == 4 then
        (bif decide (c_.Time < 0) then
          some (.inl (api_Reply.mk 1 (api_Ref.mk 0 0) 0 0 0, d))
        else
          (thicketref1_Add d.Now c_.Time).bind fun t_4 =>
          some (.inl (api_Reply.mk 0 (api_Ref.mk 0 0) t_4 0 0, thicketref22_Dispatcher.mk d.Most t_4 d.Next d.Pool d.L)))
      else
        some (.inr ())))) : Option ((api_Reply × thicketref22_Dispatcher) ⊕ (Unit))).bind fun s =>
  match s with
  | .inl r_ => some r_
  | .inr s1 =>
    some (api_Reply.mk 12 (api_Ref.mk 0 0) 0 0 0, d)

def thicketlaw25_right_l0 (l1 : List trace_Event) : Nat → Int → thicketref22_Dispatcher → Option ((Bool) ⊕ (thicketref22_Dispatcher))
  | 0, _, _ => none
  | m + 1, i, m_ =>
    (bif decide (i < (l1.length : Int)) then
      ((mIdx l1 i).bind fun x1 =>
      (mIdx l1 i).bind fun x2 =>
      (thicketref22_Dispatcher_Do m m_ x1.Command).bind fun t_1 =>
      (bif !(api_Reply.eq t_1.1 x2.Reply) then
        some (true, t_1.2)
      else
        (mIdx l1 i).bind fun x3 =>
        (bif t_1.2.Now != x3.Now then
          some (true, t_1.2)
        else
          (mIdx l1 i).bind fun x4 =>
          some (decide (x4.Steps < 0), t_1.2)))).bind fun s2 =>
      (bif s2.1 then
        some (.inl false)
      else
        thicketlaw25_right_l0 l1 m (w64 (i + 1)) s2.2)
    else
      some (.inr m_))

def thicketlaw25_right (k : Nat) (jobs : Int) (l : List trace_Event) : Option (Bool) :=
  (thicketref22_New jobs).bind fun t_ =>
  (thicketlaw25_right_l0 l k 0 t_).bind fun s =>
  match s with
  | .inl r_ => some r_
  | .inr s1 =>
    some true

def thicketlaw25_known (k : Nat)  : Option (Bool) :=
  (trace_New k 1 4 1 1).bind fun t_ =>
  (mCase t_.1
    (some false)
    (fun m_ =>
    (bif t_.2 != 0 then
      some false
    else
      (trace_Book_Act k m_ (api_Act.mk 3 0 (api_Command.mk 1 0 (api_Ref.mk 0 0) 0 5))).bind fun t_1 =>
      (trace_Book_Act k t_1.2 (api_Act.mk 4 0 (api_Command.mk 0 0 (api_Ref.mk 0 0) 0 0))).bind fun t_2 =>
      (trace_Book_Act k t_2.2 (api_Act.mk 2 0 (api_Command.mk 0 0 (api_Ref.mk 0 0) 0 0))).bind fun t_3 =>
      (trace_Book_Events t_3.2).bind fun t_4 =>
      ((bif t_1.1.Data == 5 then
        (bif api_Reply.eq t_2.1 (api_Reply.mk 0 (api_Ref.mk 0 0) 0 0 1) then
          (bif api_Reply.eq t_3.1 (api_Reply.mk 27 (api_Ref.mk 0 0) 0 0 0) then
            (bif (t_4.length : Int) == 3 then
              (mIdx t_4 1).bind fun x =>
              (bif x.Reply.Data == 5 then
                (mIdx t_4 2).bind fun x1 =>
                (bif x1.Reply.Why == 28 then
                  (trace_Book_Act k t_3.2 (api_Act.mk 0 0 (api_Command.mk 0 0 (api_Ref.mk 0 0) 0 0))).bind fun t_5 =>
                  some (t_5.1.Why == 12, t_5.2)
                else
                  some (false, t_3.2))
              else
                some (false, t_3.2))
            else
              some (false, t_3.2))
          else
            some (false, t_3.2))
        else
          some (false, t_3.2))
      else
        some (false, t_3.2))).bind fun s =>
      some s.1)))

def thicketlaw25_TracePlays_l1 (n1 : Int) (i1 : Int) (l2 : List trace_Event) (m_2 : trace_Book) (l3 : List thicketlaw25_Ask) : Nat → (List api_Ref) → Int → Option ((List api_Ref))
  | 0, _, _ => none
  | m + 1, told1, was =>
    (bif decide (was < (l2.length : Int)) then
      (((mIdx l2 was).bind fun x8 =>
      (bif x8.Command.Kind == 1 then
        (mIdx l2 was).bind fun x9 =>
        some (x9.Reply.Why == 0)
      else
        some false)).bind fun s14 =>
      (bif s14 then
        (mIdx l2 was).bind fun x10 =>
        (mApp told1 ([x10.Reply.Job] : List api_Ref)).bind fun l4 =>
        some l4
      else
        some told1)).bind fun s13 =>
      thicketlaw25_TracePlays_l1 n1 i1 l2 m_2 l3 m s13 (w64 (was + 1))
    else
      some told1)

def thicketlaw25_TracePlays_l0 (n : Int) (l1 : List thicketlaw25_Ask) : Nat → (List api_Ref) → Int → trace_Book → Option ((Bool) ⊕ (trace_Book))
  | 0, _, _, _ => none
  | m + 1, told, i, m_1 =>
    (bif (decide (i < (l1.length : Int))) && (decide (i < 60)) then
      ((mIdx l1 i).bind fun x =>
      (thicketlaw25_act x told).bind fun t_6 =>
      (trace_Book_Events m_1).bind fun t_7 =>
      (trace_Book_Server m_1).bind fun t_8 =>
      (server_Server_Waits m m_1.s).bind fun t_9 =>
      (trace_Book_Server m_1).bind fun t_10 =>
      (server_Server_Dispatcher m_1.s).bind fun t_11 =>
      (dispatch_Dispatcher_Due m m_1.s.d 0).bind fun t_12 =>
      (trace_Book_Act m m_1 t_6).bind fun t_13 =>
      (trace_Book_Events t_13.2).bind fun t_14 =>
      ((bif t_6.Kind == 1 then
        ((bif (w64 ((t_14.length : Int) - (t_7.length : Int))) != 0 then
          some true
        else
          (bif !(api_Reply.eq t_13.1 (api_Reply.mk t_13.1.Why (api_Ref.mk 0 0) 0 0 0)) then
            some true
          else
            (trace_Book_Server t_13.2).bind fun t_15 =>
            (server_Server_Waits m t_13.2.s).bind fun t_16 =>
            some (!((t_13.1.Why == 0) == (t_16 == (w64 (t_9 + 1)))))))).bind fun s7 =>
        (bif s7 then
          some (.inl false)
        else
          some (.inr ()))
      else
        (bif t_6.Kind == 2 then
          ((bif t_9 == 0 then
            (bif (w64 ((t_14.length : Int) - (t_7.length : Int))) != 0 then
              some true
            else
              (bif !(api_Reply.eq t_13.1 (api_Reply.mk 27 (api_Ref.mk 0 0) 0 0 0)) then
                some true
              else
                (bif decide (t_9 > 0) then
                  (bif (w64 ((t_14.length : Int) - (t_7.length : Int))) != 1 then
                    some true
                  else
                    (mIdx t_14 (t_7.length : Int)).bind fun x1 =>
                    (bif !(api_Reply.eq x1.Reply t_13.1) then
                      some true
                    else
                      (trace_Book_Server t_13.2).bind fun t_17 =>
                      (server_Server_Waits m t_13.2.s).bind fun t_18 =>
                      some (t_18 != (w64 (t_9 - 1)))))
                else
                  some false)))
          else
            (bif decide (t_9 > 0) then
              (bif (w64 ((t_14.length : Int) - (t_7.length : Int))) != 1 then
                some true
              else
                (mIdx t_14 (t_7.length : Int)).bind fun x2 =>
                (bif !(api_Reply.eq x2.Reply t_13.1) then
                  some true
                else
                  (trace_Book_Server t_13.2).bind fun t_19 =>
                  (server_Server_Waits m t_13.2.s).bind fun t_20 =>
                  some (t_20 != (w64 (t_9 - 1)))))
            else
              some false))).bind fun s8 =>
          (bif s8 then
            some (.inl false)
          else
            some (.inr ()))
        else
          (bif t_6.Kind == 3 then
            ((bif (w64 ((t_14.length : Int) - (t_7.length : Int))) != 1 then
              some true
            else
              (mIdx t_14 (t_7.length : Int)).bind fun x4 =>
              (bif !(api_Reply.eq x4.Reply t_13.1) then
                some true
              else
                (mIdx t_14 (t_7.length : Int)).bind fun x5 =>
                some (!(api_Command.eq x5.Command t_6.Command))))).bind fun s9 =>
            (bif s9 then
              some (.inl false)
            else
              some (.inr ()))
          else
            (bif t_6.Kind == 4 then
              ((bif !(api_Reply.eq t_13.1 (api_Reply.mk 0 (api_Ref.mk 0 0) 0 0 t_12)) then
                some true
              else
                (bif (w64 ((t_14.length : Int) - (t_7.length : Int))) != (w64 (t_12 + 1)) then
                  some true
                else
                  (trace_Book_Server t_13.2).bind fun t_21 =>
                  (server_Server_Dispatcher t_13.2.s).bind fun t_22 =>
                  (dispatch_Dispatcher_Due m t_13.2.s.d 0).bind fun t_23 =>
                  some (t_23 != 0)))).bind fun s10 =>
              (bif s10 then
                some (.inl false)
              else
                some (.inr ()))
            else
              ((bif !(api_Reply.eq t_13.1 (api_Reply.mk 12 (api_Ref.mk 0 0) 0 0 0)) then
                some true
              else
                some ((w64 ((t_14.length : Int) - (t_7.length : Int))) != 0))).bind fun s11 =>
              (bif s11 then
                some (.inl false)
              else
                some (.inr ())))))) : Option ((Bool) ⊕ (Unit))).bind fun s5 =>
      match s5 with
      | .inl r_ => some (.inl r_)
      | .inr s6 =>
        (thicketlaw25_TracePlays_l1 n i t_14 t_13.2 l1 m told (t_7.length : Int)).bind fun s12 =>
        some (.inr (s12, t_13.2)) : Option ((Bool) ⊕ ((List api_Ref) × trace_Book))).bind fun s3 =>
      match s3 with
      | .inl r_ => some (.inl r_)
      | .inr s4 =>
        thicketlaw25_TracePlays_l0 n l1 m s4.1 (w64 (i + 1)) s4.2
    else
      some (.inr m_1))

def thicketlaw25_TracePlays (k : Nat) (k_ : Int) (jobs : Int) (l : List thicketlaw25_Ask) : Option (Bool) :=
  (thicketbook_Within jobs 1 20).bind fun t_ =>
  (thicketbook_Within k_ 1 3).bind fun t_1 =>
  (trace_New k t_1 t_ 3 5).bind fun t_2 =>
  (mCase t_2.1
    (some false)
    (fun m_ =>
    ((bif t_2.2 != 0 then
      some true
    else
      (trace_Book_Server m_).bind fun t_3 =>
      (trace_Book_Server m_).bind fun t_4 =>
      (server_Server_Dispatcher m_.s).bind fun t_5 =>
      some false)).bind fun s =>
    (bif s then
      some false
    else
      (thicketlaw25_TracePlays_l0 t_ l k ([] : List api_Ref) 0 m_).bind fun s1 =>
      match s1 with
      | .inl r_ => some r_
      | .inr s2 =>
        ((trace_Book_Events s2).bind fun t_24 =>
        (thicketlaw25_right k t_ t_24).bind fun t_25 =>
        (bif t_25 then
          (thicketlaw25_known k).bind fun t_26 =>
          some t_26
        else
          some false)).bind fun s15 =>
        some s15)))

def thicketlaw25_TraceNumbers_l0 (e : Int) (f : Int) : Nat → (List thicketlaw25_Ask) → Int → Option ((List thicketlaw25_Ask))
  | 0, _, _ => none
  | m + 1, l, i =>
    (bif decide (i < 60) then
      (mIdx ([4, 0, 5, 2, 6, 8, 1, 3, 9, 7] : List Int) (Int.tmod i 10)).bind fun x =>
      (mApp l ([thicketlaw25_Ask.mk x (Int.tmod i 3) (thicketkeep_D.mk (Int.tmod (w64 (i * 3)) 11) (Int.tmod i 2) (Int.tmod i 13) i (Int.tmod i 9) (api_Command.mk 0 0 (api_Ref.mk 0 0) 0 0)) (api_Act.mk (Int.tmod i 7) (w64 ((Int.tmod i 5) - 1)) (api_Command.mk 0 0 (api_Ref.mk 0 0) 0 0))] : List thicketlaw25_Ask)).bind fun l1 =>
      thicketlaw25_TraceNumbers_l0 e f m l1 (w64 (i + 1))
    else
      some l)

def thicketlaw25_TraceNumbers_l0_c1 (e2 : Int) (f2 : Int) (m_4 : trace_Book) : Nat → (List thicketlaw25_Ask) → Int → Option ((List thicketlaw25_Ask))
  | 0, _, _ => none
  | m + 1, l4, i2 =>
    (bif decide (i2 < 60) then
      (mIdx ([4, 0, 5, 2, 6, 8, 1, 3, 9, 7] : List Int) (Int.tmod i2 10)).bind fun x2 =>
      (mApp l4 ([thicketlaw25_Ask.mk x2 (Int.tmod i2 3) (thicketkeep_D.mk (Int.tmod (w64 (i2 * 3)) 11) (Int.tmod i2 2) (Int.tmod i2 13) i2 (Int.tmod i2 9) (api_Command.mk 0 0 (api_Ref.mk 0 0) 0 0)) (api_Act.mk (Int.tmod i2 7) (w64 ((Int.tmod i2 5) - 1)) (api_Command.mk 0 0 (api_Ref.mk 0 0) 0 0))] : List thicketlaw25_Ask)).bind fun l5 =>
      thicketlaw25_TraceNumbers_l0_c1 e2 f2 m_4 m l5 (w64 (i2 + 1))
    else
      some l4)

def thicketlaw25_TraceNumbers_l0_c2 (e3 : Int) (f3 : Int) (m_5 : trace_Book) (m_6 : trace_Book) : Nat → (List thicketlaw25_Ask) → Int → Option ((List thicketlaw25_Ask))
  | 0, _, _ => none
  | m + 1, l6, i3 =>
    (bif decide (i3 < 60) then
      (mIdx ([4, 0, 5, 2, 6, 8, 1, 3, 9, 7] : List Int) (Int.tmod i3 10)).bind fun x3 =>
      (mApp l6 ([thicketlaw25_Ask.mk x3 (Int.tmod i3 3) (thicketkeep_D.mk (Int.tmod (w64 (i3 * 3)) 11) (Int.tmod i3 2) (Int.tmod i3 13) i3 (Int.tmod i3 9) (api_Command.mk 0 0 (api_Ref.mk 0 0) 0 0)) (api_Act.mk (Int.tmod i3 7) (w64 ((Int.tmod i3 5) - 1)) (api_Command.mk 0 0 (api_Ref.mk 0 0) 0 0))] : List thicketlaw25_Ask)).bind fun l7 =>
      thicketlaw25_TraceNumbers_l0_c2 e3 f3 m_5 m_6 m l7 (w64 (i3 + 1))
    else
      some l6)

def thicketlaw25_TraceNumbers (k : Nat)  : Option (Bool) :=
  (trace_New k 4 4 1 1).bind fun t_ =>
  (mCase t_.1
    ((trace_New k 3 0 1 1).bind fun t_1 =>
    (mCase t_1.1
      ((thicketlaw25_TraceNumbers_l0 t_.2 t_1.2 k ([] : List thicketlaw25_Ask) 0).bind fun s =>
      ((bif t_.2 == 24 then
        (bif t_1.2 == 1 then
          (thicketlaw25_TracePlays k 2 9 s).bind fun t_2 =>
          (bif t_2 then
            (thicketlaw25_known k).bind fun t_3 =>
            some t_3
          else
            some false)
        else
          some false)
      else
        some false)).bind fun s1 =>
      some s1)
      (fun m_1 =>
      (thicketlaw25_TraceNumbers_l0_c1 t_.2 t_1.2 m_1 k ([] : List thicketlaw25_Ask) 0).bind fun s2 =>
      ((bif t_.2 == 24 then
        (bif t_1.2 == 1 then
          (thicketlaw25_TracePlays k 2 9 s2).bind fun t_4 =>
          (bif t_4 then
            (thicketlaw25_known k).bind fun t_5 =>
            some t_5
          else
            some false)
        else
          some false)
      else
        some false)).bind fun s3 =>
      some s3)))
    (fun m_ =>
    (trace_New k 3 0 1 1).bind fun t_6 =>
    (mCase t_6.1
      ((thicketlaw25_TraceNumbers_l0_c1 t_.2 t_6.2 m_ k ([] : List thicketlaw25_Ask) 0).bind fun s4 =>
      ((bif t_.2 == 24 then
        (bif t_6.2 == 1 then
          (thicketlaw25_TracePlays k 2 9 s4).bind fun t_7 =>
          (bif t_7 then
            (thicketlaw25_known k).bind fun t_8 =>
            some t_8
          else
            some false)
        else
          some false)
      else
        some false)).bind fun s5 =>
      some s5)
      (fun m_3 =>
      (thicketlaw25_TraceNumbers_l0_c2 t_.2 t_6.2 m_3 m_ k ([] : List thicketlaw25_Ask) 0).bind fun s6 =>
      ((bif t_.2 == 24 then
        (bif t_6.2 == 1 then
          (thicketlaw25_TracePlays k 2 9 s6).bind fun t_9 =>
          (bif t_9 then
            (thicketlaw25_known k).bind fun t_10 =>
            some t_10
          else
            some false)
        else
          some false)
      else
        some false)).bind fun s7 =>
      some s7))))

end Go.Proofs.YtgchbhnchhiehaaGreat
