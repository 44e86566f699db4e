import Derived.Test.YtdcjghailibedaaGreatE17
set_option linter.unusedVariables false
set_option linter.unusedSimpArgs false
set_option maxRecDepth 10000
set_option maxHeartbeats 4000000
namespace Go.Proofs.YtdcjghailibedaaGreat
open Go.Th

structure api_Ref where
  At : Int
  Gen : Int

def api_Ref.enc (x : api_Ref) : List Value := [.int .i64 x.At, .int .i64 x.Gen]

theorem api_Ref.enc_ok : EncOk api_Ref.enc 2 := ⟨fun _ => rfl, fun x u hu => by simp only [api_Ref.enc, List.mem_cons, List.not_mem_nil, or_false] at hu; rcases hu with rfl | rfl <;> rfl⟩

structure api_Command where
  Kind : Int
  Queue : Int
  Job : api_Ref
  Time : Int
  Data : Int

def api_Command.enc (x : api_Command) : List Value := [.int .i64 x.Kind, .int .i64 x.Queue, .int .i64 x.Job.At, .int .i64 x.Job.Gen, .int .i64 x.Time, .int .i64 x.Data]

theorem api_Command.enc_ok : EncOk api_Command.enc 6 := ⟨fun _ => rfl, fun x u hu => by simp only [api_Command.enc, List.mem_cons, List.not_mem_nil, or_false] at hu; rcases hu with rfl | rfl | rfl | rfl | rfl | rfl <;> rfl⟩

structure api_Act where
  Kind : Int
  Box : Int
  Command : api_Command

def api_Act.enc (x : api_Act) : List Value := [.int .i64 x.Kind, .int .i64 x.Box, .int .i64 x.Command.Kind, .int .i64 x.Command.Queue, .int .i64 x.Command.Job.At, .int .i64 x.Command.Job.Gen, .int .i64 x.Command.Time, .int .i64 x.Command.Data]

theorem api_Act.enc_ok : EncOk api_Act.enc 8 := ⟨fun _ => rfl, fun x u hu => by simp only [api_Act.enc, List.mem_cons, List.not_mem_nil, or_false] at hu; rcases hu with rfl | rfl | rfl | rfl | rfl | rfl | rfl | rfl <;> rfl⟩

structure shell_Script where
  Kind : Int
  Jobs : Int
  Boxes : Int
  Room : Int
  Acts : List api_Act

structure shell_reader where
  b : List Int
  bad : Bool

def api_Ref.eq (x y : api_Ref) : Bool := (x.At == y.At && (x.Gen == y.Gen && true))

def api_Command.eq (x y : api_Command) : Bool := (x.Kind == y.Kind && (x.Queue == y.Queue && (api_Ref.eq x.Job y.Job && (x.Time == y.Time && (x.Data == y.Data && true)))))

def api_Act.eq (x y : api_Act) : Bool := (x.Kind == y.Kind && (x.Box == y.Box && (api_Command.eq x.Command y.Command && true)))

structure api_Reply where
  Why : Int
  Job : api_Ref
  Time : Int
  Data : Int
  N : Int

def api_Reply.enc (x : api_Reply) : List Value := [.int .i64 x.Why, .int .i64 x.Job.At, .int .i64 x.Job.Gen, .int .i64 x.Time, .int .i64 x.Data, .int .i64 x.N]

theorem api_Reply.enc_ok : EncOk api_Reply.enc 6 := ⟨fun _ => rfl, fun x u hu => by simp only [api_Reply.enc, List.mem_cons, List.not_mem_nil, or_false] at hu; rcases hu with rfl | rfl | rfl | rfl | rfl | rfl <;> rfl⟩

structure trace_Event where
  Command : api_Command
  Reply : api_Reply
  Now : Int
  Steps : Int

def trace_Event.enc (x : trace_Event) : List Value := [.int .i64 x.Command.Kind, .int .i64 x.Command.Queue, .int .i64 x.Command.Job.At, .int .i64 x.Command.Job.Gen, .int .i64 x.Command.Time, .int .i64 x.Command.Data, .int .i64 x.Reply.Why, .int .i64 x.Reply.Job.At, .int .i64 x.Reply.Job.Gen, .int .i64 x.Reply.Time, .int .i64 x.Reply.Data, .int .i64 x.Reply.N, .int .i64 x.Now, .int .i64 x.Steps]

theorem trace_Event.enc_ok : EncOk trace_Event.enc 14 := ⟨fun _ => rfl, fun x u hu => by simp only [trace_Event.enc, List.mem_cons, List.not_mem_nil, or_false] at hu; rcases hu with rfl | rfl | rfl | rfl | rfl | rfl | rfl | rfl | rfl | rfl | rfl | rfl | rfl | rfl <;> rfl⟩

structure shell_Result where
  Replies : List api_Reply
  Events : List trace_Event
  Why : Int

structure arena_cell where
  f0 : Int
  f1 : Int
  f2 : Int
  f3 : Int
  f4 : Int
  f5 : Int
  f6 : Int
  f7 : Int
  f8 : Int
  f9 : Int
  taken : Bool

def arena_cell.enc (x : arena_cell) : List Value := [.int .i64 x.f0, .int .i64 x.f1, .int .i64 x.f2, .int .i64 x.f3, .int .i64 x.f4, .int .i64 x.f5, .int .i64 x.f6, .int .i64 x.f7, .int .i64 x.f8, .int .i64 x.f9, .bool x.taken]

def arena_cell.get_f (x : arena_cell) (i : Int) : Option Int :=
  if i = 0 then some x.f0 else if i = 1 then some x.f1 else if i = 2 then some x.f2 else if i = 3 then some x.f3 else if i = 4 then some x.f4 else if i = 5 then some x.f5 else if i = 6 then some x.f6 else if i = 7 then some x.f7 else if i = 8 then some x.f8 else if i = 9 then some x.f9 else none

def arena_cell.set_f (x : arena_cell) (i v : Int) : Option arena_cell :=
  if i = 0 then some (arena_cell.mk v x.f1 x.f2 x.f3 x.f4 x.f5 x.f6 x.f7 x.f8 x.f9 x.taken) else if i = 1 then some (arena_cell.mk x.f0 v x.f2 x.f3 x.f4 x.f5 x.f6 x.f7 x.f8 x.f9 x.taken) else if i = 2 then some (arena_cell.mk x.f0 x.f1 v x.f3 x.f4 x.f5 x.f6 x.f7 x.f8 x.f9 x.taken) else if i = 3 then some (arena_cell.mk x.f0 x.f1 x.f2 v x.f4 x.f5 x.f6 x.f7 x.f8 x.f9 x.taken) else if i = 4 then some (arena_cell.mk x.f0 x.f1 x.f2 x.f3 v x.f5 x.f6 x.f7 x.f8 x.f9 x.taken) else if i = 5 then some (arena_cell.mk x.f0 x.f1 x.f2 x.f3 x.f4 v x.f6 x.f7 x.f8 x.f9 x.taken) else if i = 6 then some (arena_cell.mk x.f0 x.f1 x.f2 x.f3 x.f4 x.f5 v x.f7 x.f8 x.f9 x.taken) else if i = 7 then some (arena_cell.mk x.f0 x.f1 x.f2 x.f3 x.f4 x.f5 x.f6 v x.f8 x.f9 x.taken) else if i = 8 then some (arena_cell.mk x.f0 x.f1 x.f2 x.f3 x.f4 x.f5 x.f6 x.f7 v x.f9 x.taken) else if i = 9 then some (arena_cell.mk x.f0 x.f1 x.f2 x.f3 x.f4 x.f5 x.f6 x.f7 x.f8 v x.taken) else none

theorem arena_cell.enc_ok : EncOk arena_cell.enc 11 := ⟨fun _ => rfl, fun x u hu => by simp only [arena_cell.enc, List.mem_cons, List.not_mem_nil, or_false] at hu; rcases hu with rfl | rfl | rfl | rfl | rfl | rfl | rfl | rfl | rfl | rfl | rfl <;> rfl⟩

structure meter_Meter where
  steps : Int
  begun : Int
  most : Int

structure arena_Arena where
  l : List arena_cell
  never : Int
  free : List Int
  m_ : meter_Meter

structure slots_heap where
  kind : Int
  root : Int
  n : Int

def slots_heap.enc (x : slots_heap) : List Value := [.int .i64 x.kind, .int .i64 x.root, .int .i64 x.n]

theorem slots_heap.enc_ok : EncOk slots_heap.enc 3 := ⟨fun _ => rfl, fun x u hu => by simp only [slots_heap.enc, List.mem_cons, List.not_mem_nil, or_false] at hu; rcases hu with rfl | rfl | rfl <;> rfl⟩

structure pool_place_slots_heap where
  gen : Int
  taken : Bool
  v_ : slots_heap

def pool_place_slots_heap.enc (x : pool_place_slots_heap) : List Value := [.int .i64 x.gen, .bool x.taken, .int .i64 x.v_.kind, .int .i64 x.v_.root, .int .i64 x.v_.n]

theorem pool_place_slots_heap.enc_ok : EncOk pool_place_slots_heap.enc 5 := ⟨fun _ => rfl, fun x u hu => by simp only [pool_place_slots_heap.enc, List.mem_cons, List.not_mem_nil, or_false] at hu; rcases hu with rfl | rfl | rfl | rfl | rfl <;> rfl⟩

structure pool_Pool_slots_heap where
  most : Int
  l : List pool_place_slots_heap
  free : List Int

structure slots_thing where
  cell : Int
  heap : api_Ref

def slots_thing.enc (x : slots_thing) : List Value := [.int .i64 x.cell, .int .i64 x.heap.At, .int .i64 x.heap.Gen]

theorem slots_thing.enc_ok : EncOk slots_thing.enc 3 := ⟨fun _ => rfl, fun x u hu => by simp only [slots_thing.enc, List.mem_cons, List.not_mem_nil, or_false] at hu; rcases hu with rfl | rfl | rfl <;> rfl⟩

structure pool_place_slots_thing where
  gen : Int
  taken : Bool
  v_ : slots_thing

def pool_place_slots_thing.enc (x : pool_place_slots_thing) : List Value := [.int .i64 x.gen, .bool x.taken, .int .i64 x.v_.cell, .int .i64 x.v_.heap.At, .int .i64 x.v_.heap.Gen]

theorem pool_place_slots_thing.enc_ok : EncOk pool_place_slots_thing.enc 5 := ⟨fun _ => rfl, fun x u hu => by simp only [pool_place_slots_thing.enc, List.mem_cons, List.not_mem_nil, or_false] at hu; rcases hu with rfl | rfl | rfl | rfl | rfl <;> rfl⟩

structure pool_Pool_slots_thing where
  most : Int
  l : List pool_place_slots_thing
  free : List Int

structure slots_Table where
  heaps : pool_Pool_slots_heap
  items : pool_Pool_slots_thing
  at_ : List (Int × api_Ref)

def api_Ref.val (x : api_Ref) : Value := .agg #[.int .i64 x.At, .int .i64 x.Gen]

structure api_Entry where
  Key : Int
  Serial : Int

def api_Entry.enc (x : api_Entry) : List Value := [.int .i64 x.Key, .int .i64 x.Serial]

theorem api_Entry.enc_ok : EncOk api_Entry.enc 2 := ⟨fun _ => rfl, fun x u hu => by simp only [api_Entry.enc, List.mem_cons, List.not_mem_nil, or_false] at hu; rcases hu with rfl | rfl <;> rfl⟩

structure pq_Queues where
  items : Int
  a_ : arena_Arena
  t_ : slots_Table
  entries : List (api_Ref × api_Entry)
  serial : Int

def api_Entry.val (x : api_Entry) : Value := .agg #[.int .i64 x.Key, .int .i64 x.Serial]

structure jobs_Job where
  Queue : Int
  Time : Int
  Data : Int
  Item : api_Ref

def jobs_Job.enc (x : jobs_Job) : List Value := [.int .i64 x.Queue, .int .i64 x.Time, .int .i64 x.Data, .int .i64 x.Item.At, .int .i64 x.Item.Gen]

theorem jobs_Job.enc_ok : EncOk jobs_Job.enc 5 := ⟨fun _ => rfl, fun x u hu => by simp only [jobs_Job.enc, List.mem_cons, List.not_mem_nil, or_false] at hu; rcases hu with rfl | rfl | rfl | rfl | rfl <;> rfl⟩

structure pool_place_jobs_Job where
  gen : Int
  taken : Bool
  v_ : jobs_Job

def pool_place_jobs_Job.enc (x : pool_place_jobs_Job) : List Value := [.int .i64 x.gen, .bool x.taken, .int .i64 x.v_.Queue, .int .i64 x.v_.Time, .int .i64 x.v_.Data, .int .i64 x.v_.Item.At, .int .i64 x.v_.Item.Gen]

theorem pool_place_jobs_Job.enc_ok : EncOk pool_place_jobs_Job.enc 7 := ⟨fun _ => rfl, fun x u hu => by simp only [pool_place_jobs_Job.enc, List.mem_cons, List.not_mem_nil, or_false] at hu; rcases hu with rfl | rfl | rfl | rfl | rfl | rfl | rfl <;> rfl⟩

structure pool_Pool_jobs_Job where
  most : Int
  l : List pool_place_jobs_Job
  free : List Int

structure jobs_Table where
  p : pool_Pool_jobs_Job
  by_ : List (api_Ref × api_Ref)

structure clock_Clock where
  now : Int

structure dispatch_Dispatcher where
  kind : Int
  most : Int
  q : pq_Queues
  heaps0 : api_Ref
  heaps1 : api_Ref
  t_ : jobs_Table
  when : List (api_Ref × Int)
  clock : clock_Clock
  budget : Int
  last : Int
  top : Int

structure api_Call where
  Op : Int
  Kind : Int
  Heap : api_Ref
  Other : api_Ref
  Item : api_Ref
  Key : Int

def api_Call.enc (x : api_Call) : List Value := [.int .i64 x.Op, .int .i64 x.Kind, .int .i64 x.Heap.At, .int .i64 x.Heap.Gen, .int .i64 x.Other.At, .int .i64 x.Other.Gen, .int .i64 x.Item.At, .int .i64 x.Item.Gen, .int .i64 x.Key]

theorem api_Call.enc_ok : EncOk api_Call.enc 9 := ⟨fun _ => rfl, fun x u hu => by simp only [api_Call.enc, List.mem_cons, List.not_mem_nil, or_false] at hu; rcases hu with rfl | rfl | rfl | rfl | rfl | rfl | rfl | rfl | rfl <;> rfl⟩

structure api_Answer where
  Why : Int
  Heap : api_Ref
  Item : api_Ref
  Entry : api_Entry
  N : Int

def api_Answer.enc (x : api_Answer) : List Value := [.int .i64 x.Why, .int .i64 x.Heap.At, .int .i64 x.Heap.Gen, .int .i64 x.Item.At, .int .i64 x.Item.Gen, .int .i64 x.Entry.Key, .int .i64 x.Entry.Serial, .int .i64 x.N]

theorem api_Answer.enc_ok : EncOk api_Answer.enc 8 := ⟨fun _ => rfl, fun x u hu => by simp only [api_Answer.enc, List.mem_cons, List.not_mem_nil, or_false] at hu; rcases hu with rfl | rfl | rfl | rfl | rfl | rfl | rfl | rfl <;> rfl⟩

structure mail_Box_api_Command where
  c_ : MCh api_Command

def api_Command.val (x : api_Command) : Value := .agg #[.int .i64 x.Kind, .int .i64 x.Queue, .int .i64 x.Job.At, .int .i64 x.Job.Gen, .int .i64 x.Time, .int .i64 x.Data]

structure mail_Desk_api_Command where
  l : List mail_Box_api_Command

structure server_Server where
  d : dispatch_Dispatcher
  desk : mail_Desk_api_Command

structure trace_Book where
  s : server_Server
  l : List trace_Event

def thicketlaw28_two (b : List Int) (n : Int) : Option ((List Int)) :=
  (mApp b ([IntKind.wrap .u8 (Int.fdiv n (2 ^ (min (Int.toNat 8) 64))), IntKind.wrap .u8 (n)] : List Int)).bind fun l =>
  some l

def thicketlaw28_written_l1 (i1 : Int) (v_4 : Int) (v_5 : Int) (v_6 : Int) (v_7 : Int) (v_8 : Int) (v_9 : Int) (v_10 : Int) (v_11 : Int) (v_12 : Int) (v_13 : Int) (l5 : List api_Act) : Nat → (List Int) → Int → Option ((List Int))
  | 0, _, _ => none
  | m + 1, b2, k_ =>
    (bif decide (k_ < 8) then
      (mNn (IntKind.wrap .u64 (w64 (56 - (w64 (8 * k_)))))).bind fun u =>
      (mApp b2 ([IntKind.wrap .u8 (Int.fdiv (IntKind.wrap .u64 (v_8)) (2 ^ (min (Int.toNat (IntKind.wrap .u64 (w64 (56 - (w64 (8 * k_)))))) 64)))] : List Int)).bind fun l6 =>
      thicketlaw28_written_l1 i1 v_4 v_5 v_6 v_7 v_8 v_9 v_10 v_11 v_12 v_13 l5 m l6 (w64 (k_ + 1))
    else
      some b2)

def thicketlaw28_written_l0 (v_ : Int) (v_1 : Int) (v_2 : Int) (v_3 : Int) (l1 : List api_Act) : Nat → (List Int) → Int → Option ((List Int))
  | 0, _, _ => none
  | m + 1, b, i =>
    (bif decide (i < (l1.length : Int)) then
      ((mIdx l1 i).bind fun x =>
      (mApp b ([IntKind.wrap .u8 (x.Kind)] : List Int)).bind fun l2 =>
      ((bif x.Kind == 1 then
        (mApp l2 ([IntKind.wrap .u8 (x.Box)] : List Int)).bind fun l3 =>
        some l3
      else
        some l2)).bind fun s3 =>
      (bif (x.Kind != 1) && (x.Kind != 3) then
        some s3
      else
        (mApp s3 ([IntKind.wrap .u8 (x.Command.Kind), IntKind.wrap .u8 (x.Command.Queue)] : List Int)).bind fun l4 =>
        (thicketlaw28_two l4 x.Command.Job.At).bind fun t_1 =>
        (thicketlaw28_two t_1 x.Command.Job.Gen).bind fun t_2 =>
        (thicketlaw28_written_l1 i x.Command.Kind x.Command.Queue x.Command.Job.At x.Command.Job.Gen x.Command.Time x.Command.Data v_ v_1 v_2 v_3 l1 m t_2 0).bind fun s4 =>
        (thicketlaw28_two s4 x.Command.Data).bind fun t_3 =>
        some t_3)).bind fun s2 =>
      thicketlaw28_written_l0 v_ v_1 v_2 v_3 l1 m s2 (w64 (i + 1))
    else
      some b)

def thicketlaw28_written (k : Nat) (s : shell_Script) : Option ((List Int)) :=
  (thicketlaw28_two ([IntKind.wrap .u8 (s.Kind)] : List Int) s.Jobs).bind fun t_ =>
  (mApp t_ ([IntKind.wrap .u8 (s.Boxes), IntKind.wrap .u8 (s.Room)] : List Int)).bind fun l =>
  (thicketlaw28_written_l0 s.Kind s.Jobs s.Boxes s.Room s.Acts k l 0).bind fun s1 =>
  some s1

def shell_in_l0 (most1 : Int) (x1 : Int) (l1 : List Int) : Nat → Int → Option ((Bool) ⊕ (Unit))
  | 0, _ => none
  | m + 1, x =>
    (bif decide (x < x1) then
      (mIdx l1 x).bind fun x2 =>
      (bif (decide (x2 < 0)) || (decide (x2 > most1)) then
        some (.inl false)
      else
        shell_in_l0 most1 x1 l1 m (w64 (x + 1)))
    else
      some (.inr ()))

def shell_in (k : Nat) (most : Int) (l : List Int) : Option (Bool) :=
  (shell_in_l0 most (l.length : Int) l k 0).bind fun s =>
  match s with
  | .inl r_ => some r_
  | .inr s1 =>
    some true

def shell_number_l0 (n1 : Int) : Nat → (List Int) → Int → Option ((List Int))
  | 0, _, _ => none
  | m + 1, b1, k_ =>
    (bif decide (k_ ≥ 0) then
      (mNn (w64 (8 * k_))).bind fun u =>
      (mApp b1 ([IntKind.wrap .u8 (Int.fdiv n1 (2 ^ (min (Int.toNat (w64 (8 * k_))) 64)))] : List Int)).bind fun l =>
      shell_number_l0 n1 m l (w64 (k_ - 1))
    else
      some b1)

def shell_number (k : Nat) (b : List Int) (n : Int) (bytes : Int) : Option ((List Int)) :=
  (shell_number_l0 n k b (w64 (bytes - 1))).bind fun s =>
  some s

def shell_asks (kind : Int) : Option (Bool) :=
  some ((kind == 1) || (kind == 3))

def shell_may (k : Nat) (x : api_Act) : Option (Bool) :=
  (bif (decide (x.Kind < 1)) || (decide (x.Kind > 4)) then
    some false
  else
    (shell_asks x.Kind).bind fun t_ =>
    (bif !t_ then
      some true
    else
      ((bif x.Kind != 1 then
        (shell_in k 255 ([x.Command.Kind] : List Int)).bind fun t_1 =>
        (bif t_1 then
          (shell_in k 1 ([x.Command.Queue] : List Int)).bind fun t_2 =>
          (bif t_2 then
            (shell_in k 65535 ([x.Command.Job.At, x.Command.Job.Gen, x.Command.Data] : List Int)).bind fun t_3 =>
            some t_3
          else
            some false)
        else
          some false)
      else
        (shell_in k 255 ([x.Box] : List Int)).bind fun t_4 =>
        (bif t_4 then
          (shell_in k 255 ([x.Command.Kind] : List Int)).bind fun t_5 =>
          (bif t_5 then
            (shell_in k 1 ([x.Command.Queue] : List Int)).bind fun t_6 =>
            (bif t_6 then
              (shell_in k 65535 ([x.Command.Job.At, x.Command.Job.Gen, x.Command.Data] : List Int)).bind fun t_7 =>
              some t_7
            else
              some false)
          else
            some false)
        else
          some false))).bind fun s =>
      some s))

def shell_put (k : Nat) (b : List Int) (x : api_Act) : Option ((List Int)) :=
  (mApp b ([IntKind.wrap .u8 (x.Kind)] : List Int)).bind fun l =>
  ((bif x.Kind == 1 then
    (mApp l ([IntKind.wrap .u8 (x.Box)] : List Int)).bind fun l1 =>
    some l1
  else
    some l)).bind fun s =>
  (shell_asks x.Kind).bind fun t_ =>
  (bif !t_ then
    some s
  else
    (mApp s ([IntKind.wrap .u8 (x.Command.Kind), IntKind.wrap .u8 (x.Command.Queue)] : List Int)).bind fun l2 =>
    (shell_number k l2 (IntKind.wrap .u64 (x.Command.Job.At)) 2).bind fun t_1 =>
    (shell_number k t_1 (IntKind.wrap .u64 (x.Command.Job.Gen)) 2).bind fun t_2 =>
    (shell_number k t_2 (IntKind.wrap .u64 (x.Command.Time)) 8).bind fun t_3 =>
    (shell_number k t_3 (IntKind.wrap .u64 (x.Command.Data)) 2).bind fun t_4 =>
    some t_4)

def shell_Encode_l0 (l1 : List api_Act) (x1 : Int) : Nat → (List Int) → Int → Option (((List Int) × Int) ⊕ ((List Int)))
  | 0, _, _ => none
  | m + 1, b, x =>
    (bif decide (x < x1) then
      (mIdx l1 x).bind fun x2 =>
      (shell_may m x2).bind fun t_3 =>
      (bif !t_3 then
        some (.inl (([] : List Int), 1))
      else
        (shell_put m b x2).bind fun t_4 =>
        shell_Encode_l0 l1 x1 m t_4 (w64 (x + 1)))
    else
      some (.inr b))

def shell_Encode (k : Nat) (s : shell_Script) : Option ((List Int) × Int) :=
  (bif decide ((s.Acts.length : Int) > 256) then
    some (([] : List Int), 3)
  else
    ((shell_in k 255 ([s.Kind, s.Boxes, s.Room] : List Int)).bind fun t_ =>
    (bif !t_ then
      some true
    else
      (shell_in k 65535 ([s.Jobs] : List Int)).bind fun t_1 =>
      some (!t_1))).bind fun s1 =>
    (bif s1 then
      some (([] : List Int), 1)
    else
      (shell_number k ([IntKind.wrap .u8 (s.Kind)] : List Int) (IntKind.wrap .u64 (s.Jobs)) 2).bind fun t_2 =>
      (mApp t_2 ([IntKind.wrap .u8 (s.Boxes), IntKind.wrap .u8 (s.Room)] : List Int)).bind fun l =>
      (shell_Encode_l0 s.Acts (s.Acts.length : Int) k l 0).bind fun s2 =>
      match s2 with
      | .inl r_ => some r_
      | .inr s3 =>
        some (s3, 0)))

def shell_reader_number_l0 (bytes1 : Int) (l1 : List Int) (x1 : Int) (m_ : shell_reader) : Nat → Int → Int → Option (Int)
  | 0, _, _ => none
  | m + 1, n, x =>
    (bif decide (x < x1) then
      (mIdx l1 x).bind fun x2 =>
      shell_reader_number_l0 bytes1 l1 x1 m_ m (IntKind.wrap .u64 ((BitVec.ofInt 64 (IntKind.wrap .u64 (n * 2 ^ (min (Int.toNat 8) 64))) ||| BitVec.ofInt 64 (IntKind.wrap .u64 (x2))).toNat : Int)) (w64 (x + 1))
    else
      some n)

def shell_reader_number (k : Nat) (r : shell_reader) (bytes : Int) : Option (Int × shell_reader) :=
  (bif decide ((r.b.length : Int) < bytes) then
    some (0, shell_reader.mk ([] : List Int) true)
  else
    (mCut r.b 0 bytes).bind fun l =>
    (shell_reader_number_l0 bytes l (l.length : Int) r k 0 0).bind fun s =>
    (mCut r.b bytes (r.b.length : Int)).bind fun l2 =>
    some (s, shell_reader.mk l2 r.bad))

def shell_reader_int (k : Nat) (r : shell_reader) (bytes : Int) : Option (Int × shell_reader) :=
  (shell_reader_number k r bytes).bind fun t_ =>
  some (w64 (t_.1), t_.2)

def shell_take (k : Nat) (r : shell_reader) (kind : Int) : Option (api_Act × Bool × shell_reader) :=
  ((bif kind == 1 then
    (shell_reader_int k r 1).bind fun t_ =>
    some (t_.1, t_.2)
  else
    some (0, r))).bind fun s =>
  (shell_asks kind).bind fun t_1 =>
  ((bif t_1 then
    (shell_reader_int k s.2 1).bind fun t_2 =>
    (shell_reader_int k t_2.2 1).bind fun t_3 =>
    (shell_reader_int k t_3.2 2).bind fun t_4 =>
    (shell_reader_int k t_4.2 2).bind fun t_5 =>
    (shell_reader_number k t_5.2 8).bind fun t_6 =>
    (shell_reader_int k t_6.2 2).bind fun t_7 =>
    some (t_2.1, t_3.1, t_4.1, t_5.1, w64 (t_6.1), t_7.1, t_7.2)
  else
    some (0, 0, 0, 0, 0, 0, s.2))).bind fun s1 =>
  ((bif !s1.2.2.2.2.2.2.bad then
    (shell_may k (api_Act.mk kind s.1 (api_Command.mk s1.1 s1.2.1 (api_Ref.mk s1.2.2.1 s1.2.2.2.1) s1.2.2.2.2.1 s1.2.2.2.2.2.1))).bind fun t_8 =>
    some (t_8, kind, s.1, s1.1, s1.2.1, s1.2.2.1, s1.2.2.2.1, s1.2.2.2.2.1, s1.2.2.2.2.2.1)
  else
    some (false, kind, s.1, s1.1, s1.2.1, s1.2.2.1, s1.2.2.2.1, s1.2.2.2.2.1, s1.2.2.2.2.2.1))).bind fun s2 =>
  some (api_Act.mk s2.2.1 s2.2.2.1 (api_Command.mk s2.2.2.2.1 s2.2.2.2.2.1 (api_Ref.mk s2.2.2.2.2.2.1 s2.2.2.2.2.2.2.1) s2.2.2.2.2.2.2.2.1 s2.2.2.2.2.2.2.2.2), s2.1, s1.2.2.2.2.2.2)

def shell_Decode_l0 (m_2 : shell_Script) (l : List Int) : Nat → shell_Script → shell_reader → Option (shell_Script × shell_reader)
  | 0, _, _ => none
  | m + 1, m_, m_1 =>
    ((bif decide ((m_1.b.length : Int) > 0) then
      some (decide ((m_.Acts.length : Int) < 256))
    else
      some false)).bind fun s1 =>
    (bif s1 then
      (shell_reader_int m m_1 1).bind fun t_4 =>
      (bif (decide (t_4.1 < 1)) || (decide (t_4.1 > 4)) then
        shell_Decode_l0 m_2 l m m_ t_4.2
      else
        (shell_take m t_4.2 t_4.1).bind fun t_5 =>
        (bif !t_5.2.1 then
          some (m_, t_5.2.2)
        else
          (mApp m_.Acts ([t_5.1] : List api_Act)).bind fun l1 =>
          shell_Decode_l0 m_2 l m (shell_Script.mk m_.Kind m_.Jobs m_.Boxes m_.Room l1) t_5.2.2))
    else
      some (m_, m_1))

def shell_Decode (k : Nat) (b : List Int) : Option (shell_Script × Int) :=
  (bif decide ((b.length : Int) < 5) then
    some (shell_Script.mk 0 0 0 0 ([] : List api_Act), 12)
  else
    (shell_reader_int k (shell_reader.mk b false) 1).bind fun t_ =>
    (shell_reader_int k t_.2 2).bind fun t_1 =>
    (shell_reader_int k t_1.2 1).bind fun t_2 =>
    (shell_reader_int k t_2.2 1).bind fun t_3 =>
    (shell_Decode_l0 (shell_Script.mk 0 0 0 0 ([] : List api_Act)) b k (shell_Script.mk t_.1 t_1.1 t_2.1 t_3.1 ([] : List api_Act)) t_3.2).bind fun s =>
    some (s.1, 0))

def thicketlaw28_command_l0 (v_ : Int) (v_1 : Int) (v_2 : Int) (v_3 : Int) (v_4 : Int) (l : List Int) : Nat → Int → Int → Option (Int)
  | 0, _, _ => none
  | m + 1, t_, k_ =>
    (bif decide (k_ < 14) then
      (mIdx l k_).bind fun x8 =>
      thicketlaw28_command_l0 v_ v_1 v_2 v_3 v_4 l m (IntKind.wrap .u64 ((BitVec.ofInt 64 (IntKind.wrap .u64 (t_ * 2 ^ (min (Int.toNat 8) 64))) ||| BitVec.ofInt 64 (IntKind.wrap .u64 (x8))).toNat : Int)) (w64 (k_ + 1))
    else
      some t_)

def thicketlaw28_command (k : Nat) (b : List Int) : Option (api_Command × Bool) :=
  (mIdx b 0).bind fun x =>
  (mIdx b 1).bind fun x1 =>
  (mIdx b 2).bind fun x2 =>
  (mIdx b 3).bind fun x3 =>
  (mIdx b 4).bind fun x4 =>
  (mIdx b 5).bind fun x5 =>
  (mIdx b 14).bind fun x6 =>
  (mIdx b 15).bind fun x7 =>
  (thicketlaw28_command_l0 (w64 (x)) (w64 (x1)) (IntKind.wrap .i64 ((BitVec.ofInt 64 (w64 ((w64 (x2)) * 2 ^ (min (Int.toNat 8) 64))) ||| BitVec.ofInt 64 (w64 (x3))).toNat : Int)) (IntKind.wrap .i64 ((BitVec.ofInt 64 (w64 ((w64 (x4)) * 2 ^ (min (Int.toNat 8) 64))) ||| BitVec.ofInt 64 (w64 (x5))).toNat : Int)) (IntKind.wrap .i64 ((BitVec.ofInt 64 (w64 ((w64 (x6)) * 2 ^ (min (Int.toNat 8) 64))) ||| BitVec.ofInt 64 (w64 (x7))).toNat : Int)) b k 0 6).bind fun s =>
  some (api_Command.mk (w64 (x)) (w64 (x1)) (api_Ref.mk (IntKind.wrap .i64 ((BitVec.ofInt 64 (w64 ((w64 (x2)) * 2 ^ (min (Int.toNat 8) 64))) ||| BitVec.ofInt 64 (w64 (x3))).toNat : Int)) (IntKind.wrap .i64 ((BitVec.ofInt 64 (w64 ((w64 (x4)) * 2 ^ (min (Int.toNat 8) 64))) ||| BitVec.ofInt 64 (w64 (x5))).toNat : Int))) (w64 (s)) (IntKind.wrap .i64 ((BitVec.ofInt 64 (w64 ((w64 (x6)) * 2 ^ (min (Int.toNat 8) 64))) ||| BitVec.ofInt 64 (w64 (x7))).toNat : Int)), decide (w64 (x1) ≤ 1))

def thicketlaw28_parse_l0 (m_1 : shell_Script) (l1 : List Int) : Nat → (List Int) → shell_Script → Option (shell_Script)
  | 0, _, _ => none
  | m + 1, b6, m_ =>
    ((bif decide ((b6.length : Int) > 0) then
      some (decide ((m_.Acts.length : Int) < 256))
    else
      some false)).bind fun s1 =>
    (bif s1 then
      (mIdx b6 0).bind fun x5 =>
      (mCut b6 1 (b6.length : Int)).bind fun l2 =>
      (bif (decide (w64 (x5) < 1)) || (decide (w64 (x5) > 4)) then
        thicketlaw28_parse_l0 m_1 l1 m l2 m_
      else
        (bif (w64 (x5)) == 1 then
          (bif (l2.length : Int) == 0 then
            some m_
          else
            (mIdx l2 0).bind fun x6 =>
            (mCut l2 1 (l2.length : Int)).bind fun l3 =>
            (bif ((w64 (x5)) == 1) || ((w64 (x5)) == 3) then
              (bif decide ((l3.length : Int) < 16) then
                some m_
              else
                (mCut l3 0 16).bind fun l4 =>
                (thicketlaw28_command m l4).bind fun t_ =>
                (bif !t_.2 then
                  some m_
                else
                  (mCut l3 16 (l3.length : Int)).bind fun l5 =>
                  (mApp m_.Acts ([api_Act.mk (w64 (x5)) (w64 (x6)) t_.1] : List api_Act)).bind fun l6 =>
                  thicketlaw28_parse_l0 m_1 l1 m l5 (shell_Script.mk m_.Kind m_.Jobs m_.Boxes m_.Room l6)))
            else
              (mApp m_.Acts ([api_Act.mk (w64 (x5)) (w64 (x6)) (api_Command.mk 0 0 (api_Ref.mk 0 0) 0 0)] : List api_Act)).bind fun l7 =>
              thicketlaw28_parse_l0 m_1 l1 m l3 (shell_Script.mk m_.Kind m_.Jobs m_.Boxes m_.Room l7)))
        else
          (bif ((w64 (x5)) == 1) || ((w64 (x5)) == 3) then
            (bif decide ((l2.length : Int) < 16) then
              some m_
            else
              (mCut l2 0 16).bind fun l8 =>
              (thicketlaw28_command m l8).bind fun t_1 =>
              (bif !t_1.2 then
                some m_
              else
                (mCut l2 16 (l2.length : Int)).bind fun l9 =>
                (mApp m_.Acts ([api_Act.mk (w64 (x5)) 0 t_1.1] : List api_Act)).bind fun l10 =>
                thicketlaw28_parse_l0 m_1 l1 m l9 (shell_Script.mk m_.Kind m_.Jobs m_.Boxes m_.Room l10)))
          else
            (mApp m_.Acts ([api_Act.mk (w64 (x5)) 0 (api_Command.mk 0 0 (api_Ref.mk 0 0) 0 0)] : List api_Act)).bind fun l11 =>
            thicketlaw28_parse_l0 m_1 l1 m l2 (shell_Script.mk m_.Kind m_.Jobs m_.Boxes m_.Room l11))))
    else
      some m_)

def thicketlaw28_parse (k : Nat) (b : List Int) : Option (shell_Script × Bool) :=
  (bif decide ((b.length : Int) < 5) then
    some (shell_Script.mk 0 0 0 0 ([] : List api_Act), false)
  else
    (mIdx b 0).bind fun x =>
    (mIdx b 1).bind fun x1 =>
    (mIdx b 2).bind fun x2 =>
    (mIdx b 3).bind fun x3 =>
    (mIdx b 4).bind fun x4 =>
    (mCut b 5 (b.length : Int)).bind fun l =>
    (thicketlaw28_parse_l0 (shell_Script.mk 0 0 0 0 ([] : List api_Act)) b k l (shell_Script.mk (w64 (x)) (IntKind.wrap .i64 ((BitVec.ofInt 64 (w64 ((w64 (x1)) * 2 ^ (min (Int.toNat 8) 64))) ||| BitVec.ofInt 64 (w64 (x2))).toNat : Int)) (w64 (x3)) (w64 (x4)) ([] : List api_Act))).bind fun s =>
    some (s, true))

def thicketbook_Same_api_Act_l0 (l : List api_Act) (l1 : List api_Act) : Nat → Int → Option ((Bool) ⊕ (Unit))
  | 0, _ => none
  | m + 1, i =>
    (bif decide (i < (l.length : Int)) then
      (mIdx l i).bind fun x =>
      (mIdx l1 i).bind fun x1 =>
      (bif !(api_Act.eq x x1) then
        some (.inl false)
      else
        thicketbook_Same_api_Act_l0 l l1 m (w64 (i + 1)))
    else
      some (.inr ()))

def thicketbook_Same_api_Act (k : Nat) (a_ : List api_Act) (b : List api_Act) : Option (Bool) :=
  (bif (a_.length : Int) != (b.length : Int) then
    some false
  else
    (thicketbook_Same_api_Act_l0 a_ b k 0).bind fun s =>
    match s with
    | .inl r_ => some r_
    | .inr s1 =>
      some true)

def thicketlaw28_same (k : Nat) (a_ : shell_Script) (b : shell_Script) : Option (Bool) :=
  ((bif a_.Kind == b.Kind then
    (bif a_.Jobs == b.Jobs then
      (bif a_.Boxes == b.Boxes then
        (bif a_.Room == b.Room then
          (thicketbook_Same_api_Act k a_.Acts b.Acts).bind fun t_ =>
          some t_
        else
          some false)
      else
        some false)
    else
      some false)
  else
    some false)).bind fun s =>
  some s

def thicketlaw28_reads (k : Nat) (b : List Int) : Option (Bool) :=
  (shell_Decode k b).bind fun t_ =>
  (thicketlaw28_parse k b).bind fun t_1 =>
  ((bif (t_.2 == 0) == t_1.2 then
    (thicketlaw28_same k t_.1 t_1.1).bind fun t_2 =>
    (bif t_2 then
      (bif t_1.2 then
        some true
      else
        some (t_.2 == 12))
    else
      some false)
  else
    some false)).bind fun s =>
  some s

def thicketlaw28_small (n : Int) (most : Int) : Option (Bool) :=
  some ((decide (n ≥ 0)) && (decide (n ≤ most)))

def thicketlaw28_may (a_ : api_Act) : Option (Bool) :=
  (((bif a_.Kind == 2 then
    some (a_.Kind == 2)
  else
    some (a_.Kind == 4))).bind fun s2 =>
  (bif s2 then
    some (.inl true)
  else
    (bif a_.Kind == 1 then
      (thicketlaw28_small a_.Box 255).bind fun t_ =>
      (bif !t_ then
        some (.inl false)
      else
        some (.inr ()))
    else
      (bif a_.Kind == 3 then
        some (.inr ())
      else
        some (.inl false)))) : Option ((Bool) ⊕ (Unit))).bind fun s =>
  match s with
  | .inl r_ => some r_
  | .inr s1 =>
    ((thicketlaw28_small a_.Command.Kind 255).bind fun t_1 =>
    (bif t_1 then
      (thicketlaw28_small a_.Command.Queue 1).bind fun t_2 =>
      (bif t_2 then
        (thicketlaw28_small a_.Command.Job.At 65535).bind fun t_3 =>
        (bif t_3 then
          (thicketlaw28_small a_.Command.Job.Gen 65535).bind fun t_4 =>
          (bif t_4 then
            (thicketlaw28_small a_.Command.Data 65535).bind fun t_5 =>
            some t_5
          else
            some false)
        else
          some false)
      else
        some false)
    else
      some false)).bind fun s3 =>
    some s3

def thicketlaw28_right_l0 (v_ : Int) (v_1 : Int) (v_2 : Int) (v_3 : Int) (l : List api_Act) : Nat → Int → Option ((Int) ⊕ (Unit))
  | 0, _ => none
  | m + 1, i =>
    (bif decide (i < (l.length : Int)) then
      (mIdx l i).bind fun x =>
      (thicketlaw28_may x).bind fun t_4 =>
      (bif !t_4 then
        some (.inl 1)
      else
        thicketlaw28_right_l0 v_ v_1 v_2 v_3 l m (w64 (i + 1)))
    else
      some (.inr ()))

def thicketlaw28_right (k : Nat) (s : shell_Script) : Option (Int) :=
  (bif decide ((s.Acts.length : Int) > 256) then
    some 3
  else
    ((thicketlaw28_small s.Kind 255).bind fun t_ =>
    (bif !t_ then
      some true
    else
      (thicketlaw28_small s.Jobs 65535).bind fun t_1 =>
      (bif !t_1 then
        some true
      else
        (thicketlaw28_small s.Boxes 255).bind fun t_2 =>
        (bif !t_2 then
          some true
        else
          (thicketlaw28_small s.Room 255).bind fun t_3 =>
          some (!t_3))))).bind fun s1 =>
    (bif s1 then
      some 1
    else
      (thicketlaw28_right_l0 s.Kind s.Jobs s.Boxes s.Room s.Acts k 0).bind fun s2 =>
      match s2 with
      | .inl r_ => some r_
      | .inr s3 =>
        some 0))

def kind_Worst (k_ : Int) : Option (Bool) :=
  some ((decide (k_ ≥ 1)) && (decide (k_ ≤ 3)))

def bits_Len64 (x : Int) : Option (Int) :=
  ((bif decide (x ≥ 4294967296) then
    some (Int.fdiv x (2 ^ (min (Int.toNat 32) 64)), 32)
  else
    some (x, 0))).bind fun s =>
  ((bif decide (s.1 ≥ 65536) then
    some (Int.fdiv s.1 (2 ^ (min (Int.toNat 16) 64)), w64 (s.2 + 16))
  else
    some (s.1, s.2))).bind fun s1 =>
  ((bif decide (s1.1 ≥ 256) then
    some (Int.fdiv s1.1 (2 ^ (min (Int.toNat 8) 64)), w64 (s1.2 + 8))
  else
    some (s1.1, s1.2))).bind fun s2 =>
  (mByte (ByteArray.mk #[0, 1, 2, 2, 3, 3, 3, 3, 4, 4, 4, 4, 4, 4, 4, 4, 5, 5, 5, 5, 5, 5, 5, 5, 5, 5, 5, 5, 5, 5, 5, 5, 6, 6, 6, 6, 6, 6, 6, 6, 6, 6, 6, 6, 6, 6, 6, 6, 6, 6, 6, 6, 6, 6, 6, 6, 6, 6, 6, 6, 6, 6, 6, 6, 7, 7, 7, 7, 7, 7, 7, 7, 7, 7, 7, 7, 7, 7, 7, 7, 7, 7, 7, 7, 7, 7, 7, 7, 7, 7, 7, 7, 7, 7, 7, 7, 7, 7, 7, 7, 7, 7, 7, 7, 7, 7, 7, 7, 7, 7, 7, 7, 7, 7, 7, 7, 7, 7, 7, 7, 7, 7, 7, 7, 7, 7, 7, 7, 8, 8, 8, 8, 8, 8, 8, 8, 8, 8, 8, 8, 8, 8, 8, 8, 8, 8, 8, 8, 8, 8, 8, 8, 8, 8, 8, 8, 8, 8, 8, 8, 8, 8, 8, 8, 8, 8, 8, 8, 8, 8, 8, 8, 8, 8, 8, 8, 8, 8, 8, 8, 8, 8, 8, 8, 8, 8, 8, 8, 8, 8, 8, 8, 8, 8, 8, 8, 8, 8, 8, 8, 8, 8, 8, 8, 8, 8, 8, 8, 8, 8, 8, 8, 8, 8, 8, 8, 8, 8, 8, 8, 8, 8, 8, 8, 8, 8, 8, 8, 8, 8, 8, 8, 8, 8, 8, 8, 8, 8, 8, 8, 8, 8, 8, 8, 8, 8, 8, 8, 8, 8, 8, 8, 8, 8, 8, 8]) (IntKind.wrap .u8 (s2.1))).bind fun c_ =>
  some (w64 (s2.2 + (w64 (c_))))

def bits_Len (x : Int) : Option (Int) :=
  (bits_Len64 x).bind fun t_ =>
  some t_

def order_Bits (n : Int) : Option (Int) :=
  (bits_Len (IntKind.wrap .u64 ((if n > 0 then n else 0)))).bind fun t_ =>
  some t_

def order_Add (a_ : Int) (b : Int) : Option (Int) :=
  (bif (decide (b > 0)) && (decide (a_ > w64 (9223372036854775807 - b))) then
    some 9223372036854775807
  else
    (bif (decide (b < 0)) && (decide (a_ < w64 ((-9223372036854775808) - b))) then
      some (-9223372036854775808)
    else
      some (w64 (a_ + b))))

def order_Limit_l0 (b1 : Int) (x1 : Int) : Nat → Int → Int → Option (Int)
  | 0, _, _ => none
  | m + 1, a_1, x =>
    (bif decide (x < x1) then
      (order_Add a_1 b1).bind fun t_1 =>
      order_Limit_l0 b1 x1 m t_1 (w64 (x + 1))
    else
      some a_1)

def order_Limit (k : Nat) (a_ : Int) (b : Int) (n : Int) : Option (Int) :=
  (order_Bits n).bind fun t_ =>
  (order_Limit_l0 b t_ k a_ 0).bind fun s =>
  some s

def bound_Budget (k : Nat) (k_ : Int) (items : Int) : Option (Int × Bool) :=
  ((kind_Worst k_).bind fun t_ =>
  (bif !t_ then
    some true
  else
    (bif decide (items < 1) then
      some true
    else
      some (decide (items > 4096))))).bind fun s =>
  (bif s then
    some (0, false)
  else
    (order_Limit k 2000 1600 (w64 (items + 1))).bind fun t_1 =>
    some (t_1, true))

def meter_New  : Option (meter_Meter) :=
  some (meter_Meter.mk 0 0 0)

def arena_New (cells : Int) : Option (arena_Arena) :=
  (mMake (if (if 65536 < cells then 65536 else cells) > 0 then (if 65536 < cells then 65536 else cells) else 0) (arena_cell.mk 0 0 0 0 0 0 0 0 0 0 false)).bind fun l =>
  (meter_New).bind fun t_ =>
  some (arena_Arena.mk l 0 ([] : List Int) t_)

def pool_New_slots_heap (places : Int) : Option (pool_Pool_slots_heap) :=
  some (pool_Pool_slots_heap.mk (if (if 65536 < places then 65536 else places) > 0 then (if 65536 < places then 65536 else places) else 0) ([] : List pool_place_slots_heap) ([] : List Int))

def pool_New_slots_thing (places : Int) : Option (pool_Pool_slots_thing) :=
  some (pool_Pool_slots_thing.mk (if (if 65536 < places then 65536 else places) > 0 then (if 65536 < places then 65536 else places) else 0) ([] : List pool_place_slots_thing) ([] : List Int))

def slots_New (items : Int) : Option (slots_Table) :=
  (pool_New_slots_heap 64).bind fun t_ =>
  (pool_New_slots_thing (if (if 16384 < items then 16384 else items) > 1 then (if 16384 < items then 16384 else items) else 1)).bind fun t_1 =>
  some (slots_Table.mk t_ t_1 ([] : List (Int × api_Ref)))

def pq_New (items : Int) : Option ((Option pq_Queues) × Int) :=
  (bif (decide (items < 1)) || (decide (items > 16384)) then
    some ((none : Option pq_Queues), 1)
  else
    (arena_New (w64 (2 * items))).bind fun t_ =>
    (slots_New items).bind fun t_1 =>
    some (some (pq_Queues.mk items t_ t_1 ([] : List (api_Ref × api_Entry)) 0), 0))

def pool_New_jobs_Job (places : Int) : Option (pool_Pool_jobs_Job) :=
  some (pool_Pool_jobs_Job.mk (if (if 65536 < places then 65536 else places) > 0 then (if 65536 < places then 65536 else places) else 0) ([] : List pool_place_jobs_Job) ([] : List Int))

def jobs_New (jobs : Int) : Option (jobs_Table) :=
  (pool_New_jobs_Job (if (if 4096 < jobs then 4096 else jobs) > 1 then (if 4096 < jobs then 4096 else jobs) else 1)).bind fun t_ =>
  some (jobs_Table.mk t_ ([] : List (api_Ref × api_Ref)))

def clock_New  : Option (clock_Clock) :=
  some (clock_Clock.mk 0)

def pq_Queues_Do_nil0 (c_ : api_Call) : Option (api_Answer) :=
  none

def arena_Arena_Meter (a_ : arena_Arena) : Option (Unit) :=
  some ()

def meter_Meter_Spent (m_ : meter_Meter) : Option (Int) :=
  some (w64 (m_.steps - m_.begun))

def meter_Meter_Most (m_ : meter_Meter) : Option (Int) :=
  (meter_Meter_Spent m_).bind fun t_ =>
  some (if t_ > m_.most then t_ else m_.most)

def meter_Meter_Begin (m_ : meter_Meter) : Option (meter_Meter) :=
  (meter_Meter_Most m_).bind fun t_ =>
  some (meter_Meter.mk m_.steps m_.steps t_)

def kind_Right (k_ : Int) : Option (Bool) :=
  some ((decide (k_ ≥ 1)) && (decide (k_ ≤ 5)))

def pool_Pool_slots_heap_Take (p : pool_Pool_slots_heap) (v_ : slots_heap) : Option (api_Ref × Bool × pool_Pool_slots_heap) :=
  ((bif decide (w64 ((p.free.length : Int) - 1) ≥ 0) then
    (mIdx p.free (w64 ((p.free.length : Int) - 1))).bind fun x =>
    (mCut p.free 0 (w64 ((p.free.length : Int) - 1))).bind fun l =>
    some (.inr (x, pool_Pool_slots_heap.mk p.most p.l l))
  else
    (bif decide ((p.l.length : Int) ≥ p.most) then
      some (.inl (api_Ref.mk 0 0, false, p))
    else
      (mApp p.l ([pool_place_slots_heap.mk 0 false (slots_heap.mk 0 0 0)] : List pool_place_slots_heap)).bind fun l1 =>
      some (.inr ((p.l.length : Int), pool_Pool_slots_heap.mk p.most l1 p.free)))) : Option ((api_Ref × Bool × pool_Pool_slots_heap) ⊕ (Int × pool_Pool_slots_heap))).bind fun s =>
  match s with
  | .inl r_ => some r_
  | .inr s1 =>
    (mIdx s1.2.l s1.1).bind fun x1 =>
    some (api_Ref.mk s1.1 (w64 (x1.gen + 1)), true, pool_Pool_slots_heap.mk s1.2.most (mSet (mSet (mSet s1.2.l s1.1 (pool_place_slots_heap.mk (w64 (x1.gen + 1)) x1.taken x1.v_)) s1.1 (pool_place_slots_heap.mk (w64 (x1.gen + 1)) true x1.v_)) s1.1 (pool_place_slots_heap.mk (w64 (x1.gen + 1)) true v_)) s1.2.free)

def slots_Table_Make (t_ : slots_Table) (k_ : Int) : Option (api_Ref × Int × slots_Table) :=
  (kind_Right k_).bind fun t_1 =>
  (bif !t_1 then
    some (api_Ref.mk 0 0, 24, t_)
  else
    (pool_Pool_slots_heap_Take t_.heaps (slots_heap.mk k_ (-1) 0)).bind fun t_2 =>
    (bif !t_2.2.1 then
      some (api_Ref.mk 0 0, 13, slots_Table.mk t_2.2.2 t_.items t_.at_)
    else
      some (t_2.1, 0, slots_Table.mk t_2.2.2 t_.items t_.at_)))

def pq_Queues_insert (q : pq_Queues) (c_ : api_Call) : Option (api_Answer) :=
  none

def pool_Pool_slots_heap_find (p : pool_Pool_slots_heap) (r : api_Ref) : Option ((Option Int) × Int) :=
  ((bif decide (r.At < 0) then
    some true
  else
    (bif decide (r.At ≥ (p.l.length : Int)) then
      some true
    else
      (bif decide (r.Gen < 1) then
        some true
      else
        (mIdx p.l r.At).bind fun x1 =>
        some (decide (r.Gen > x1.gen)))))).bind fun s =>
  (bif s then
    some ((none : Option Int), 22)
  else
    (mIdx p.l r.At).bind fun x2 =>
    (bif (decide (r.Gen < x2.gen)) || (!x2.taken) then
      some ((none : Option Int), 23)
    else
      some ((some r.At : Option Int), 0)))

def pool_Pool_slots_heap_Get (p : pool_Pool_slots_heap) (r : api_Ref) : Option (slots_heap × Int) :=
  (pool_Pool_slots_heap_find p r).bind fun t_ =>
  (mCase t_.1
    ((bif t_.2 != 0 then
      some (slots_heap.mk 0 0 0, t_.2)
    else
      none))
    (fun i =>
    (mIdx p.l i).bind fun x =>
    (bif t_.2 != 0 then
      some (slots_heap.mk 0 0 0, t_.2)
    else
      some (x.v_, 0))))

def slots_Table_Heap (t_ : slots_Table) (h_ : api_Ref) : Option (Int × Int × Int × Int) :=
  (pool_Pool_slots_heap_Get t_.heaps h_).bind fun t_1 =>
  some (t_1.1.kind, t_1.1.root, t_1.1.n, t_1.2)

def pq_refused (why : Int) : Option (api_Answer) :=
  some (api_Answer.mk why (api_Ref.mk 0 0) (api_Ref.mk 0 0) (api_Entry.mk 0 0) 0)

def kind_Min (k_ : Int) (a_ : arena_Arena) (r : Int) : Option (Int) :=
  none

def slots_Table_At (t_ : slots_Table) (cell : Int) : Option (api_Ref × Bool) :=
  (mLook kI cell (api_Ref.mk 0 0) t_.at_).bind fun x =>
  some (x.1, x.2)

def kind_Pop (k_ : Int) (a_ : arena_Arena) (r : Int) : Option (Int × Int) :=
  none

def pool_Pool_slots_heap_Set (p : pool_Pool_slots_heap) (r : api_Ref) (v_ : slots_heap) : Option (Int × pool_Pool_slots_heap) :=
  (pool_Pool_slots_heap_find p r).bind fun t_ =>
  (mCase t_.1
    (((bif t_.2 == 0 then
      none
    else
      some ())).bind fun s =>
    some (t_.2, p))
    (fun i =>
    (mIdx p.l i).bind fun x =>
    ((bif t_.2 == 0 then
      some (pool_Pool_slots_heap.mk p.most (mSet p.l i (pool_place_slots_heap.mk x.gen x.taken v_)) p.free)
    else
      some p)).bind fun s1 =>
    some (t_.2, s1)))

def slots_Table_Root (t_ : slots_Table) (h_ : api_Ref) (r : Int) (n : Int) : Option (Int × slots_Table) :=
  (pool_Pool_slots_heap_Get t_.heaps h_).bind fun t_1 =>
  ((bif t_1.2 == 0 then
    (pool_Pool_slots_heap_Set t_.heaps h_ (slots_heap.mk t_1.1.kind r n)).bind fun t_2 =>
    some (slots_Table.mk t_2.2 t_.items t_.at_)
  else
    some t_)).bind fun s =>
  some (t_1.2, s)

def pq_Queues_gone (q : pq_Queues) (i : api_Ref) : Option (api_Entry) :=
  none

def pq_Queues_min (q : pq_Queues) (h_ : api_Ref) (out : Bool) : Option (api_Answer × pq_Queues) :=
  (slots_Table_Heap q.t_ h_).bind fun t_ =>
  (bif t_.2.2.2 != 0 then
    (pq_refused t_.2.2.2).bind fun t_1 =>
    some (t_1, q)
  else
    (bif t_.2.2.1 == 0 then
      (pq_refused 27).bind fun t_2 =>
      some (t_2, q)
    else
      (bif !out then
        (kind_Min t_.1 q.a_ t_.2.1).bind fun t_3 =>
        (slots_Table_At q.t_ t_3).bind fun t_4 =>
        (mLook api_Ref.eq t_4.1 (api_Entry.mk 0 0) q.entries).bind fun x =>
        some (api_Answer.mk 0 (api_Ref.mk 0 0) t_4.1 x.1 0, q)
      else
        (kind_Pop t_.1 q.a_ t_.2.1).bind fun t_5 =>
        (slots_Table_At q.t_ t_5.2).bind fun t_6 =>
        (slots_Table_Root q.t_ h_ t_5.1 (w64 (t_.2.2.1 - 1))).bind fun t_7 =>
        (pq_Queues_gone (pq_Queues.mk q.items q.a_ t_7.2 q.entries q.serial) t_6.1).bind fun t_8 =>
        some (api_Answer.mk 0 (api_Ref.mk 0 0) t_6.1 t_8 0, pq_Queues.mk q.items q.a_ t_7.2 q.entries q.serial))))

def pq_Queues_decrease (q : pq_Queues) (c_ : api_Call) : Option (api_Answer) :=
  none

def pq_Queues_remove (q : pq_Queues) (i : api_Ref) : Option (api_Answer) :=
  none

def pq_Queues_meld (q : pq_Queues) (h_ : api_Ref) (o : api_Ref) : Option (api_Answer) :=
  none

def pq_Queues_destroy (q : pq_Queues) (h_ : api_Ref) : Option (api_Answer) :=
  none

def pq_Queues_Do (q : pq_Queues) (c_ : api_Call) : Option (api_Answer × pq_Queues) :=
  (arena_Arena_Meter q.a_).bind fun t_ =>
  (meter_Meter_Begin q.a_.m_).bind fun t_1 =>
  (bif c_.Op == 1 then
    (slots_Table_Make q.t_ c_.Kind).bind fun t_2 =>
    some (api_Answer.mk t_2.2.1 t_2.1 (api_Ref.mk 0 0) (api_Entry.mk 0 0) 0, pq_Queues.mk q.items (arena_Arena.mk q.a_.l q.a_.never q.a_.free t_1) t_2.2.2 q.entries q.serial)
  else
    (bif c_.Op == 2 then
      (pq_Queues_insert (pq_Queues.mk q.items (arena_Arena.mk q.a_.l q.a_.never q.a_.free t_1) q.t_ q.entries q.serial) c_).bind fun t_3 =>
      some (t_3, pq_Queues.mk q.items (arena_Arena.mk q.a_.l q.a_.never q.a_.free t_1) q.t_ q.entries q.serial)
    else
      (bif c_.Op == 3 then
        (pq_Queues_min (pq_Queues.mk q.items (arena_Arena.mk q.a_.l q.a_.never q.a_.free t_1) q.t_ q.entries q.serial) c_.Heap false).bind fun t_4 =>
        some (t_4.1, t_4.2)
      else
        (bif c_.Op == 4 then
          (pq_Queues_min (pq_Queues.mk q.items (arena_Arena.mk q.a_.l q.a_.never q.a_.free t_1) q.t_ q.entries q.serial) c_.Heap true).bind fun t_5 =>
          some (t_5.1, t_5.2)
        else
          (bif c_.Op == 5 then
            (pq_Queues_decrease (pq_Queues.mk q.items (arena_Arena.mk q.a_.l q.a_.never q.a_.free t_1) q.t_ q.entries q.serial) c_).bind fun t_6 =>
            some (t_6, pq_Queues.mk q.items (arena_Arena.mk q.a_.l q.a_.never q.a_.free t_1) q.t_ q.entries q.serial)
          else
            (bif c_.Op == 6 then
              (pq_Queues_remove (pq_Queues.mk q.items (arena_Arena.mk q.a_.l q.a_.never q.a_.free t_1) q.t_ q.entries q.serial) c_.Item).bind fun t_7 =>
              some (t_7, pq_Queues.mk q.items (arena_Arena.mk q.a_.l q.a_.never q.a_.free t_1) q.t_ q.entries q.serial)
            else
              (bif c_.Op == 7 then
                (pq_Queues_meld (pq_Queues.mk q.items (arena_Arena.mk q.a_.l q.a_.never q.a_.free t_1) q.t_ q.entries q.serial) c_.Heap c_.Other).bind fun t_8 =>
                some (t_8, pq_Queues.mk q.items (arena_Arena.mk q.a_.l q.a_.never q.a_.free t_1) q.t_ q.entries q.serial)
              else
                (bif c_.Op == 8 then
                  (slots_Table_Heap q.t_ c_.Heap).bind fun t_9 =>
                  some (api_Answer.mk t_9.2.2.2 (api_Ref.mk 0 0) (api_Ref.mk 0 0) (api_Entry.mk 0 0) t_9.2.2.1, pq_Queues.mk q.items (arena_Arena.mk q.a_.l q.a_.never q.a_.free t_1) q.t_ q.entries q.serial)
                else
                  (bif c_.Op == 9 then
                    (pq_Queues_destroy (pq_Queues.mk q.items (arena_Arena.mk q.a_.l q.a_.never q.a_.free t_1) q.t_ q.entries q.serial) c_.Heap).bind fun t_10 =>
                    some (t_10, pq_Queues.mk q.items (arena_Arena.mk q.a_.l q.a_.never q.a_.free t_1) q.t_ q.entries q.serial)
                  else
                    (pq_refused 12).bind fun t_11 =>
                    some (t_11, pq_Queues.mk q.items (arena_Arena.mk q.a_.l q.a_.never q.a_.free t_1) q.t_ q.entries q.serial))))))))))

def dispatch_New (k : Nat) (k_ : Int) (most : Int) : Option ((Option dispatch_Dispatcher) × Int) :=
  (kind_Worst k_).bind fun t_ =>
  (bif !t_ then
    some ((none : Option dispatch_Dispatcher), 24)
  else
    (bound_Budget k k_ most).bind fun t_1 =>
    (bif !t_1.2 then
      some ((none : Option dispatch_Dispatcher), 1)
    else
      (pq_New most).bind fun t_2 =>
      (mCase t_2.1
        ((jobs_New most).bind fun t_3 =>
        (clock_New).bind fun t_4 =>
        (pq_Queues_Do_nil0 (api_Call.mk 1 k_ (api_Ref.mk 0 0) (api_Ref.mk 0 0) (api_Ref.mk 0 0) 0)).bind fun t_5 =>
        (pq_Queues_Do_nil0 (api_Call.mk 1 k_ (api_Ref.mk 0 0) (api_Ref.mk 0 0) (api_Ref.mk 0 0) 0)).bind fun t_6 =>
        none)
        (fun m_ =>
        (jobs_New most).bind fun t_7 =>
        (clock_New).bind fun t_8 =>
        (pq_Queues_Do m_ (api_Call.mk 1 k_ (api_Ref.mk 0 0) (api_Ref.mk 0 0) (api_Ref.mk 0 0) 0)).bind fun t_9 =>
        (pq_Queues_Do t_9.2 (api_Call.mk 1 k_ (api_Ref.mk 0 0) (api_Ref.mk 0 0) (api_Ref.mk 0 0) 0)).bind fun t_10 =>
        some (some (dispatch_Dispatcher.mk k_ most t_10.2 t_9.1.Heap t_10.1.Heap t_7 ([] : List (api_Ref × Int)) t_8 t_1.1 0 0), 0)))))

def mail_NewBox_api_Command (room : Int) : Option (mail_Box_api_Command) :=
  (mChan api_Command (if (if 4096 < room then 4096 else room) > 1 then (if 4096 < room then 4096 else room) else 1)).bind fun m_ =>
  some (mail_Box_api_Command.mk m_)

def mail_NewDesk_api_Command_l0 (room1 : Int) (x1 : Int) : Nat → Int → mail_Desk_api_Command → Option (mail_Desk_api_Command)
  | 0, _, _ => none
  | m + 1, x, m_ =>
    (bif decide (x < x1) then
      (mail_NewBox_api_Command room1).bind fun t_ =>
      (mApp m_.l ([t_] : List mail_Box_api_Command)).bind fun l =>
      mail_NewDesk_api_Command_l0 room1 x1 m (w64 (x + 1)) (mail_Desk_api_Command.mk l)
    else
      some m_)

def mail_NewDesk_api_Command (k : Nat) (boxes : Int) (room : Int) : Option (mail_Desk_api_Command) :=
  (mail_NewDesk_api_Command_l0 room (if (if 4 < boxes then 4 else boxes) > 1 then (if 4 < boxes then 4 else boxes) else 1) k 0 (mail_Desk_api_Command.mk ([] : List mail_Box_api_Command))).bind fun s =>
  some s

def server_New (k : Nat) (k_ : Int) (jobs : Int) (boxes : Int) (room : Int) : Option ((Option server_Server) × Int) :=
  (dispatch_New k k_ jobs).bind fun t_ =>
  (mCase t_.1
    ((bif t_.2 != 0 then
      some ((none : Option server_Server), t_.2)
    else
      (mail_NewDesk_api_Command k boxes room).bind fun t_1 =>
      none))
    (fun m_ =>
    (bif t_.2 != 0 then
      some ((none : Option server_Server), t_.2)
    else
      (mail_NewDesk_api_Command k boxes room).bind fun t_2 =>
      some (some (server_Server.mk m_ t_2), 0))))

def trace_New (k : Nat) (k_ : Int) (jobs : Int) (boxes : Int) (room : Int) : Option ((Option trace_Book) × Int) :=
  (server_New k k_ jobs boxes room).bind fun t_ =>
  (mCase t_.1
    ((bif t_.2 != 0 then
      some ((none : Option trace_Book), t_.2)
    else
      none))
    (fun m_ =>
    (bif t_.2 != 0 then
      some ((none : Option trace_Book), t_.2)
    else
      some (some (trace_Book.mk m_ ([] : List trace_Event)), 0))))

def trace_Book_drain_nil0_l0 : Nat → Int → Int → Option (Int)
  | 0, _, _ => none
  | m + 1, n, x =>
    (bif decide (x < 4097) then
      none
    else
      some n)

def trace_Book_drain_nil0 (k : Nat)  : Option (Int) :=
  (trace_Book_drain_nil0_l0 k 0 0).bind fun s =>
  some s

def trace_Book_Act_nil0 (k : Nat) (x : api_Act) : Option (api_Reply) :=
  (bif x.Kind == 1 then
    none
  else
    (bif x.Kind == 2 then
      none
    else
      (bif x.Kind == 3 then
        none
      else
        (bif x.Kind == 4 then
          (trace_Book_drain_nil0 k).bind fun t_ =>
          some (api_Reply.mk 0 (api_Ref.mk 0 0) 0 0 t_)
        else
          some (api_Reply.mk 12 (api_Ref.mk 0 0) 0 0 0)))))

def trace_Book_Run_nil0_l0 (x1 : Int) (l1 : List api_Act) : Nat → (List api_Reply) → Int → Option ((List api_Reply))
  | 0, _, _ => none
  | m + 1, out, x =>
    (bif decide (x < x1) then
      (mIdx l1 x).bind fun x2 =>
      (trace_Book_Act_nil0 m x2).bind fun t_ =>
      (mApp out ([t_] : List api_Reply)).bind fun l2 =>
      trace_Book_Run_nil0_l0 x1 l1 m l2 (w64 (x + 1))
    else
      some out)

def trace_Book_Run_nil0 (k : Nat) (l : List api_Act) : Option ((List api_Reply)) :=
  (trace_Book_Run_nil0_l0 (l.length : Int) l k ([] : List api_Reply) 0).bind fun s =>
  some s

def trace_Book_Events_nil0  : Option ((List trace_Event)) :=
  none

def mail_Box_api_Command_Post (b : mail_Box_api_Command) (v_ : api_Command) : Option (Bool × mail_Box_api_Command) :=
  (bif MCh.room b.c_ then
    some (true, mail_Box_api_Command.mk (MCh.push b.c_ v_))
  else
    some (false, b))

def mail_Desk_api_Command_Post (d : mail_Desk_api_Command) (box : Int) (v_ : api_Command) : Option (Int × mail_Desk_api_Command) :=
  ((bif decide (box < 0) then
    some true
  else
    some (decide (box ≥ (d.l.length : Int))))).bind fun s =>
  (bif s then
    some (30, d)
  else
    (mIdx d.l box).bind fun x =>
    (mail_Box_api_Command_Post x v_).bind fun t_ =>
    (bif !t_.1 then
      some (13, mail_Desk_api_Command.mk (mSet d.l box t_.2))
    else
      some (0, mail_Desk_api_Command.mk (mSet d.l box t_.2))))

def server_Server_Post (s : server_Server) (box : Int) (c_ : api_Command) : Option (Int × server_Server) :=
  (mail_Desk_api_Command_Post s.desk box c_).bind fun t_ =>
  some (t_.1, server_Server.mk s.d t_.2)

def mail_Box_api_Command_Take (b : mail_Box_api_Command) : Option (api_Command × Bool × mail_Box_api_Command) :=
  (match MCh.buf b.c_ with
  | [] =>
    some (api_Command.mk 0 0 (api_Ref.mk 0 0) 0 0, false, b)
  | u :: r1 =>
    some (u, true, mail_Box_api_Command.mk (MCh.rest b.c_ r1)))

def mail_Desk_api_Command_Next_l0 (x1 : Int) : Nat → Int → mail_Desk_api_Command → Option ((api_Command × Int × Bool × mail_Desk_api_Command) ⊕ (mail_Desk_api_Command))
  | 0, _, _ => none
  | m + 1, x, m_ =>
    (bif decide (x < x1) then
      (mIdx m_.l x).bind fun x2 =>
      (mail_Box_api_Command_Take x2).bind fun t_ =>
      (bif t_.2.1 then
        some (.inl (t_.1, x, true, mail_Desk_api_Command.mk (mSet m_.l x t_.2.2)))
      else
        mail_Desk_api_Command_Next_l0 x1 m (w64 (x + 1)) (mail_Desk_api_Command.mk (mSet m_.l x t_.2.2)))
    else
      some (.inr m_))

def mail_Desk_api_Command_Next (k : Nat) (d : mail_Desk_api_Command) : Option (api_Command × Int × Bool × mail_Desk_api_Command) :=
  (mail_Desk_api_Command_Next_l0 (d.l.length : Int) k 0 d).bind fun s =>
  match s with
  | .inl r_ => some r_
  | .inr s1 =>
    some (api_Command.mk 0 0 (api_Ref.mk 0 0) 0 0, 0, false, s1)

def meter_Meter_Steps (m_ : meter_Meter) : Option (Int) :=
  some m_.steps

def pq_Queues_Steps (q : pq_Queues) : Option (Int) :=
  (arena_Arena_Meter q.a_).bind fun t_ =>
  (meter_Meter_Steps q.a_.m_).bind fun t_1 =>
  some t_1

def dispatch_refused (why : Int) : Option (api_Reply) :=
  some (api_Reply.mk why (api_Ref.mk 0 0) 0 0 0)

def pool_Pool_jobs_Job_Len (p : pool_Pool_jobs_Job) : Option (Int) :=
  some (w64 ((p.l.length : Int) - (p.free.length : Int)))

def jobs_Table_Len (t_ : jobs_Table) : Option (Int) :=
  (pool_Pool_jobs_Job_Len t_.p).bind fun t_1 =>
  some t_1

def pool_Pool_jobs_Job_Places (p : pool_Pool_jobs_Job) : Option (Int) :=
  some p.most

def pool_Pool_jobs_Job_Take (p : pool_Pool_jobs_Job) (v_ : jobs_Job) : Option (api_Ref × Bool × pool_Pool_jobs_Job) :=
  ((bif decide (w64 ((p.free.length : Int) - 1) ≥ 0) then
    (mIdx p.free (w64 ((p.free.length : Int) - 1))).bind fun x =>
    (mCut p.free 0 (w64 ((p.free.length : Int) - 1))).bind fun l =>
    some (.inr (x, pool_Pool_jobs_Job.mk p.most p.l l))
  else
    (bif decide ((p.l.length : Int) ≥ p.most) then
      some (.inl (api_Ref.mk 0 0, false, p))
    else
      (mApp p.l ([pool_place_jobs_Job.mk 0 false (jobs_Job.mk 0 0 0 (api_Ref.mk 0 0))] : List pool_place_jobs_Job)).bind fun l1 =>
      some (.inr ((p.l.length : Int), pool_Pool_jobs_Job.mk p.most l1 p.free)))) : Option ((api_Ref × Bool × pool_Pool_jobs_Job) ⊕ (Int × pool_Pool_jobs_Job))).bind fun s =>
  match s with
  | .inl r_ => some r_
  | .inr s1 =>
    (mIdx s1.2.l s1.1).bind fun x1 =>
    some (api_Ref.mk s1.1 (w64 (x1.gen + 1)), true, pool_Pool_jobs_Job.mk s1.2.most (mSet (mSet (mSet s1.2.l s1.1 (pool_place_jobs_Job.mk (w64 (x1.gen + 1)) x1.taken x1.v_)) s1.1 (pool_place_jobs_Job.mk (w64 (x1.gen + 1)) true x1.v_)) s1.1 (pool_place_jobs_Job.mk (w64 (x1.gen + 1)) true v_)) s1.2.free)

def jobs_Table_Add (t_ : jobs_Table) (j : jobs_Job) : Option (api_Ref × Int × jobs_Table) :=
  (mLook api_Ref.eq j.Item (api_Ref.mk 0 0) t_.by_).bind fun x =>
  (pool_Pool_jobs_Job_Len t_.p).bind fun t_1 =>
  (pool_Pool_jobs_Job_Places t_.p).bind fun t_2 =>
  (bif t_1 == t_2 then
    some (api_Ref.mk 0 0, 13, t_)
  else
    (bif x.2 then
      some (api_Ref.mk 0 0, 1, t_)
    else
      (pool_Pool_jobs_Job_Take t_.p j).bind fun t_3 =>
      some (t_3.1, 0, jobs_Table.mk ((jobs_Table.mk t_3.2.2 t_.by_).p) (mPut api_Ref.eq j.Item t_3.1 ((jobs_Table.mk t_3.2.2 t_.by_).by_)))))

def dispatch_told (j : jobs_Job) : Option (api_Reply) :=
  some (api_Reply.mk 0 (api_Ref.mk 0 0) j.Time j.Data 0)

def dispatch_Dispatcher_schedule (d : dispatch_Dispatcher) (c_ : api_Command) : Option (api_Reply × dispatch_Dispatcher) :=
  (jobs_Table_Len d.t_).bind fun t_ =>
  (bif decide (t_ ≥ d.most) then
    (dispatch_refused 13).bind fun t_1 =>
    some (t_1, d)
  else
    (mIdx ([d.heaps0, d.heaps1] : List api_Ref) c_.Queue).bind fun x =>
    (pq_Queues_Do d.q (api_Call.mk 2 0 x (api_Ref.mk 0 0) (api_Ref.mk 0 0) c_.Time)).bind fun t_2 =>
    (jobs_Table_Add ((dispatch_Dispatcher.mk d.kind d.most t_2.2 d.heaps0 d.heaps1 d.t_ d.when d.clock d.budget d.last d.top).t_) (jobs_Job.mk c_.Queue c_.Time c_.Data t_2.1.Item)).bind fun t_3 =>
    (dispatch_told (jobs_Job.mk c_.Queue c_.Time c_.Data t_2.1.Item)).bind fun t_4 =>
    some (api_Reply.mk t_4.Why t_3.1 t_4.Time t_4.Data t_4.N, dispatch_Dispatcher.mk ((dispatch_Dispatcher.mk ((dispatch_Dispatcher.mk d.kind d.most t_2.2 d.heaps0 d.heaps1 d.t_ d.when d.clock d.budget d.last d.top).kind) ((dispatch_Dispatcher.mk d.kind d.most t_2.2 d.heaps0 d.heaps1 d.t_ d.when d.clock d.budget d.last d.top).most) ((dispatch_Dispatcher.mk d.kind d.most t_2.2 d.heaps0 d.heaps1 d.t_ d.when d.clock d.budget d.last d.top).q) ((dispatch_Dispatcher.mk d.kind d.most t_2.2 d.heaps0 d.heaps1 d.t_ d.when d.clock d.budget d.last d.top).heaps0) ((dispatch_Dispatcher.mk d.kind d.most t_2.2 d.heaps0 d.heaps1 d.t_ d.when d.clock d.budget d.last d.top).heaps1) t_3.2.2 ((dispatch_Dispatcher.mk d.kind d.most t_2.2 d.heaps0 d.heaps1 d.t_ d.when d.clock d.budget d.last d.top).when) ((dispatch_Dispatcher.mk d.kind d.most t_2.2 d.heaps0 d.heaps1 d.t_ d.when d.clock d.budget d.last d.top).clock) ((dispatch_Dispatcher.mk d.kind d.most t_2.2 d.heaps0 d.heaps1 d.t_ d.when d.clock d.budget d.last d.top).budget) ((dispatch_Dispatcher.mk d.kind d.most t_2.2 d.heaps0 d.heaps1 d.t_ d.when d.clock d.budget d.last d.top).last) ((dispatch_Dispatcher.mk d.kind d.most t_2.2 d.heaps0 d.heaps1 d.t_ d.when d.clock d.budget d.last d.top).top)).kind) ((dispatch_Dispatcher.mk ((dispatch_Dispatcher.mk d.kind d.most t_2.2 d.heaps0 d.heaps1 d.t_ d.when d.clock d.budget d.last d.top).kind) ((dispatch_Dispatcher.mk d.kind d.most t_2.2 d.heaps0 d.heaps1 d.t_ d.when d.clock d.budget d.last d.top).most) ((dispatch_Dispatcher.mk d.kind d.most t_2.2 d.heaps0 d.heaps1 d.t_ d.when d.clock d.budget d.last d.top).q) ((dispatch_Dispatcher.mk d.kind d.most t_2.2 d.heaps0 d.heaps1 d.t_ d.when d.clock d.budget d.last d.top).heaps0) ((dispatch_Dispatcher.mk d.kind d.most t_2.2 d.heaps0 d.heaps1 d.t_ d.when d.clock d.budget d.last d.top).heaps1) t_3.2.2 ((dispatch_Dispatcher.mk d.kind d.most t_2.2 d.heaps0 d.heaps1 d.t_ d.when d.clock d.budget d.last d.top).when) ((dispatch_Dispatcher.mk d.kind d.most t_2.2 d.heaps0 d.heaps1 d.t_ d.when d.clock d.budget d.last d.top).clock) ((dispatch_Dispatcher.mk d.kind d.most t_2.2 d.heaps0 d.heaps1 d.t_ d.when d.clock d.budget d.last d.top).budget) ((dispatch_Dispatcher.mk d.kind d.most t_2.2 d.heaps0 d.heaps1 d.t_ d.when d.clock d.budget d.last d.top).last) ((dispatch_Dispatcher.mk d.kind d.most t_2.2 d.heaps0 d.heaps1 d.t_ d.when d.clock d.budget d.last d.top).top)).most) ((dispatch_Dispatcher.mk ((dispatch_Dispatcher.mk d.kind d.most t_2.2 d.heaps0 d.heaps1 d.t_ d.when d.clock d.budget d.last d.top).kind) ((dispatch_Dispatcher.mk d.kind d.most t_2.2 d.heaps0 d.heaps1 d.t_ d.when d.clock d.budget d.last d.top).most) ((dispatch_Dispatcher.mk d.kind d.most t_2.2 d.heaps0 d.heaps1 d.t_ d.when d.clock d.budget d.last d.top).q) ((dispatch_Dispatcher.mk d.kind d.most t_2.2 d.heaps0 d.heaps1 d.t_ d.when d.clock d.budget d.last d.top).heaps0) ((dispatch_Dispatcher.mk d.kind d.most t_2.2 d.heaps0 d.heaps1 d.t_ d.when d.clock d.budget d.last d.top).heaps1) t_3.2.2 ((dispatch_Dispatcher.mk d.kind d.most t_2.2 d.heaps0 d.heaps1 d.t_ d.when d.clock d.budget d.last d.top).when) ((dispatch_Dispatcher.mk d.kind d.most t_2.2 d.heaps0 d.heaps1 d.t_ d.when d.clock d.budget d.last d.top).clock) ((dispatch_Dispatcher.mk d.kind d.most t_2.2 d.heaps0 d.heaps1 d.t_ d.when d.clock d.budget d.last d.top).budget) ((dispatch_Dispatcher.mk d.kind d.most t_2.2 d.heaps0 d.heaps1 d.t_ d.when d.clock d.budget d.last d.top).last) ((dispatch_Dispatcher.mk d.kind d.most t_2.2 d.heaps0 d.heaps1 d.t_ d.when d.clock d.budget d.last d.top).top)).q) ((dispatch_Dispatcher.mk ((dispatch_Dispatcher.mk d.kind d.most t_2.2 d.heaps0 d.heaps1 d.t_ d.when d.clock d.budget d.last d.top).kind) ((dispatch_Dispatcher.mk d.kind d.most t_2.2 d.heaps0 d.heaps1 d.t_ d.when d.clock d.budget d.last d.top).most) ((dispatch_Dispatcher.mk d.kind d.most t_2.2 d.heaps0 d.heaps1 d.t_ d.when d.clock d.budget d.last d.top).q) ((dispatch_Dispatcher.mk d.kind d.most t_2.2 d.heaps0 d.heaps1 d.t_ d.when d.clock d.budget d.last d.top).heaps0) ((dispatch_Dispatcher.mk d.kind d.most t_2.2 d.heaps0 d.heaps1 d.t_ d.when d.clock d.budget d.last d.top).heaps1) t_3.2.2 ((dispatch_Dispatcher.mk d.kind d.most t_2.2 d.heaps0 d.heaps1 d.t_ d.when d.clock d.budget d.last d.top).when) ((dispatch_Dispatcher.mk d.kind d.most t_2.2 d.heaps0 d.heaps1 d.t_ d.when d.clock d.budget d.last d.top).clock) ((dispatch_Dispatcher.mk d.kind d.most t_2.2 d.heaps0 d.heaps1 d.t_ d.when d.clock d.budget d.last d.top).budget) ((dispatch_Dispatcher.mk d.kind d.most t_2.2 d.heaps0 d.heaps1 d.t_ d.when d.clock d.budget d.last d.top).last) ((dispatch_Dispatcher.mk d.kind d.most t_2.2 d.heaps0 d.heaps1 d.t_ d.when d.clock d.budget d.last d.top).top)).heaps0) ((dispatch_Dispatcher.mk ((dispatch_Dispatcher.mk d.kind d.most t_2.2 d.heaps0 d.heaps1 d.t_ d.when d.clock d.budget d.last d.top).kind) ((dispatch_Dispatcher.mk d.kind d.most t_2.2 d.heaps0 d.heaps1 d.t_ d.when d.clock d.budget d.last d.top).most) ((dispatch_Dispatcher.mk d.kind d.most t_2.2 d.heaps0 d.heaps1 d.t_ d.when d.clock d.budget d.last d.top).q) ((dispatch_Dispatcher.mk d.kind d.most t_2.2 d.heaps0 d.heaps1 d.t_ d.when d.clock d.budget d.last d.top).heaps0) ((dispatch_Dispatcher.mk d.kind d.most t_2.2 d.heaps0 d.heaps1 d.t_ d.when d.clock d.budget d.last d.top).heaps1) t_3.2.2 ((dispatch_Dispatcher.mk d.kind d.most t_2.2 d.heaps0 d.heaps1 d.t_ d.when d.clock d.budget d.last d.top).when) ((dispatch_Dispatcher.mk d.kind d.most t_2.2 d.heaps0 d.heaps1 d.t_ d.when d.clock d.budget d.last d.top).clock) ((dispatch_Dispatcher.mk d.kind d.most t_2.2 d.heaps0 d.heaps1 d.t_ d.when d.clock d.budget d.last d.top).budget) ((dispatch_Dispatcher.mk d.kind d.most t_2.2 d.heaps0 d.heaps1 d.t_ d.when d.clock d.budget d.last d.top).last) ((dispatch_Dispatcher.mk d.kind d.most t_2.2 d.heaps0 d.heaps1 d.t_ d.when d.clock d.budget d.last d.top).top)).heaps1) ((dispatch_Dispatcher.mk ((dispatch_Dispatcher.mk d.kind d.most t_2.2 d.heaps0 d.heaps1 d.t_ d.when d.clock d.budget d.last d.top).kind) ((dispatch_Dispatcher.mk d.kind d.most t_2.2 d.heaps0 d.heaps1 d.t_ d.when d.clock d.budget d.last d.top).most) ((dispatch_Dispatcher.mk d.kind d.most t_2.2 d.heaps0 d.heaps1 d.t_ d.when d.clock d.budget d.last d.top).q) ((dispatch_Dispatcher.mk d.kind d.most t_2.2 d.heaps0 d.heaps1 d.t_ d.when d.clock d.budget d.last d.top).heaps0) ((dispatch_Dispatcher.mk d.kind d.most t_2.2 d.heaps0 d.heaps1 d.t_ d.when d.clock d.budget d.last d.top).heaps1) t_3.2.2 ((dispatch_Dispatcher.mk d.kind d.most t_2.2 d.heaps0 d.heaps1 d.t_ d.when d.clock d.budget d.last d.top).when) ((dispatch_Dispatcher.mk d.kind d.most t_2.2 d.heaps0 d.heaps1 d.t_ d.when d.clock d.budget d.last d.top).clock) ((dispatch_Dispatcher.mk d.kind d.most t_2.2 d.heaps0 d.heaps1 d.t_ d.when d.clock d.budget d.last d.top).budget) ((dispatch_Dispatcher.mk d.kind d.most t_2.2 d.heaps0 d.heaps1 d.t_ d.when d.clock d.budget d.last d.top).last) ((dispatch_Dispatcher.mk d.kind d.most t_2.2 d.heaps0 d.heaps1 d.t_ d.when d.clock d.budget d.last d.top).top)).t_) (mPut api_Ref.eq t_3.1 t_2.1.Entry.Serial ((dispatch_Dispatcher.mk ((dispatch_Dispatcher.mk d.kind d.most t_2.2 d.heaps0 d.heaps1 d.t_ d.when d.clock d.budget d.last d.top).kind) ((dispatch_Dispatcher.mk d.kind d.most t_2.2 d.heaps0 d.heaps1 d.t_ d.when d.clock d.budget d.last d.top).most) ((dispatch_Dispatcher.mk d.kind d.most t_2.2 d.heaps0 d.heaps1 d.t_ d.when d.clock d.budget d.last d.top).q) ((dispatch_Dispatcher.mk d.kind d.most t_2.2 d.heaps0 d.heaps1 d.t_ d.when d.clock d.budget d.last d.top).heaps0) ((dispatch_Dispatcher.mk d.kind d.most t_2.2 d.heaps0 d.heaps1 d.t_ d.when d.clock d.budget d.last d.top).heaps1) t_3.2.2 ((dispatch_Dispatcher.mk d.kind d.most t_2.2 d.heaps0 d.heaps1 d.t_ d.when d.clock d.budget d.last d.top).when) ((dispatch_Dispatcher.mk d.kind d.most t_2.2 d.heaps0 d.heaps1 d.t_ d.when d.clock d.budget d.last d.top).clock) ((dispatch_Dispatcher.mk d.kind d.most t_2.2 d.heaps0 d.heaps1 d.t_ d.when d.clock d.budget d.last d.top).budget) ((dispatch_Dispatcher.mk d.kind d.most t_2.2 d.heaps0 d.heaps1 d.t_ d.when d.clock d.budget d.last d.top).last) ((dispatch_Dispatcher.mk d.kind d.most t_2.2 d.heaps0 d.heaps1 d.t_ d.when d.clock d.budget d.last d.top).top)).when)) ((dispatch_Dispatcher.mk ((dispatch_Dispatcher.mk d.kind d.most t_2.2 d.heaps0 d.heaps1 d.t_ d.when d.clock d.budget d.last d.top).kind) ((dispatch_Dispatcher.mk d.kind d.most t_2.2 d.heaps0 d.heaps1 d.t_ d.when d.clock d.budget d.last d.top).most) ((dispatch_Dispatcher.mk d.kind d.most t_2.2 d.heaps0 d.heaps1 d.t_ d.when d.clock d.budget d.last d.top).q) ((dispatch_Dispatcher.mk d.kind d.most t_2.2 d.heaps0 d.heaps1 d.t_ d.when d.clock d.budget d.last d.top).heaps0) ((dispatch_Dispatcher.mk d.kind d.most t_2.2 d.heaps0 d.heaps1 d.t_ d.when d.clock d.budget d.last d.top).heaps1) t_3.2.2 ((dispatch_Dispatcher.mk d.kind d.most t_2.2 d.heaps0 d.heaps1 d.t_ d.when d.clock d.budget d.last d.top).when) ((dispatch_Dispatcher.mk d.kind d.most t_2.2 d.heaps0 d.heaps1 d.t_ d.when d.clock d.budget d.last d.top).clock) ((dispatch_Dispatcher.mk d.kind d.most t_2.2 d.heaps0 d.heaps1 d.t_ d.when d.clock d.budget d.last d.top).budget) ((dispatch_Dispatcher.mk d.kind d.most t_2.2 d.heaps0 d.heaps1 d.t_ d.when d.clock d.budget d.last d.top).last) ((dispatch_Dispatcher.mk d.kind d.most t_2.2 d.heaps0 d.heaps1 d.t_ d.when d.clock d.budget d.last d.top).top)).clock) ((dispatch_Dispatcher.mk ((dispatch_Dispatcher.mk d.kind d.most t_2.2 d.heaps0 d.heaps1 d.t_ d.when d.clock d.budget d.last d.top).kind) ((dispatch_Dispatcher.mk d.kind d.most t_2.2 d.heaps0 d.heaps1 d.t_ d.when d.clock d.budget d.last d.top).most) ((dispatch_Dispatcher.mk d.kind d.most t_2.2 d.heaps0 d.heaps1 d.t_ d.when d.clock d.budget d.last d.top).q) ((dispatch_Dispatcher.mk d.kind d.most t_2.2 d.heaps0 d.heaps1 d.t_ d.when d.clock d.budget d.last d.top).heaps0) ((dispatch_Dispatcher.mk d.kind d.most t_2.2 d.heaps0 d.heaps1 d.t_ d.when d.clock d.budget d.last d.top).heaps1) t_3.2.2 ((dispatch_Dispatcher.mk d.kind d.most t_2.2 d.heaps0 d.heaps1 d.t_ d.when d.clock d.budget d.last d.top).when) ((dispatch_Dispatcher.mk d.kind d.most t_2.2 d.heaps0 d.heaps1 d.t_ d.when d.clock d.budget d.last d.top).clock) ((dispatch_Dispatcher.mk d.kind d.most t_2.2 d.heaps0 d.heaps1 d.t_ d.when d.clock d.budget d.last d.top).budget) ((dispatch_Dispatcher.mk d.kind d.most t_2.2 d.heaps0 d.heaps1 d.t_ d.when d.clock d.budget d.last d.top).last) ((dispatch_Dispatcher.mk d.kind d.most t_2.2 d.heaps0 d.heaps1 d.t_ d.when d.clock d.budget d.last d.top).top)).budget) ((dispatch_Dispatcher.mk ((dispatch_Dispatcher.mk d.kind d.most t_2.2 d.heaps0 d.heaps1 d.t_ d.when d.clock d.budget d.last d.top).kind) ((dispatch_Dispatcher.mk d.kind d.most t_2.2 d.heaps0 d.heaps1 d.t_ d.when d.clock d.budget d.last d.top).most) ((dispatch_Dispatcher.mk d.kind d.most t_2.2 d.heaps0 d.heaps1 d.t_ d.when d.clock d.budget d.last d.top).q) ((dispatch_Dispatcher.mk d.kind d.most t_2.2 d.heaps0 d.heaps1 d.t_ d.when d.clock d.budget d.last d.top).heaps0) ((dispatch_Dispatcher.mk d.kind d.most t_2.2 d.heaps0 d.heaps1 d.t_ d.when d.clock d.budget d.last d.top).heaps1) t_3.2.2 ((dispatch_Dispatcher.mk d.kind d.most t_2.2 d.heaps0 d.heaps1 d.t_ d.when d.clock d.budget d.last d.top).when) ((dispatch_Dispatcher.mk d.kind d.most t_2.2 d.heaps0 d.heaps1 d.t_ d.when d.clock d.budget d.last d.top).clock) ((dispatch_Dispatcher.mk d.kind d.most t_2.2 d.heaps0 d.heaps1 d.t_ d.when d.clock d.budget d.last d.top).budget) ((dispatch_Dispatcher.mk d.kind d.most t_2.2 d.heaps0 d.heaps1 d.t_ d.when d.clock d.budget d.last d.top).last) ((dispatch_Dispatcher.mk d.kind d.most t_2.2 d.heaps0 d.heaps1 d.t_ d.when d.clock d.budget d.last d.top).top)).last) ((dispatch_Dispatcher.mk ((dispatch_Dispatcher.mk d.kind d.most t_2.2 d.heaps0 d.heaps1 d.t_ d.when d.clock d.budget d.last d.top).kind) ((dispatch_Dispatcher.mk d.kind d.most t_2.2 d.heaps0 d.heaps1 d.t_ d.when d.clock d.budget d.last d.top).most) ((dispatch_Dispatcher.mk d.kind d.most t_2.2 d.heaps0 d.heaps1 d.t_ d.when d.clock d.budget d.last d.top).q) ((dispatch_Dispatcher.mk d.kind d.most t_2.2 d.heaps0 d.heaps1 d.t_ d.when d.clock d.budget d.last d.top).heaps0) ((dispatch_Dispatcher.mk d.kind d.most t_2.2 d.heaps0 d.heaps1 d.t_ d.when d.clock d.budget d.last d.top).heaps1) t_3.2.2 ((dispatch_Dispatcher.mk d.kind d.most t_2.2 d.heaps0 d.heaps1 d.t_ d.when d.clock d.budget d.last d.top).when) ((dispatch_Dispatcher.mk d.kind d.most t_2.2 d.heaps0 d.heaps1 d.t_ d.when d.clock d.budget d.last d.top).clock) ((dispatch_Dispatcher.mk d.kind d.most t_2.2 d.heaps0 d.heaps1 d.t_ d.when d.clock d.budget d.last d.top).budget) ((dispatch_Dispatcher.mk d.kind d.most t_2.2 d.heaps0 d.heaps1 d.t_ d.when d.clock d.budget d.last d.top).last) ((dispatch_Dispatcher.mk d.kind d.most t_2.2 d.heaps0 d.heaps1 d.t_ d.when d.clock d.budget d.last d.top).top)).top)))

def dispatch_Dispatcher_sooner (d : dispatch_Dispatcher) (c_ : api_Command) : Option (api_Reply) :=
  none

def dispatch_Dispatcher_cancel (d : dispatch_Dispatcher) (r : api_Ref) : Option (api_Reply) :=
  none

def clock_Clock_Go (c_ : clock_Clock) (by_ : Int) : Option (Int) :=
  none

def clock_Clock_Now (c_ : clock_Clock) : Option (Int) :=
  some c_.now

def clock_Clock_Due (c_ : clock_Clock) (at_ : Int) : Option (Bool) :=
  some (decide (at_ ≤ c_.now))

def jobs_Table_By (t_ : jobs_Table) (item : api_Ref) : Option (api_Ref × Bool) :=
  (mLook api_Ref.eq item (api_Ref.mk 0 0) t_.by_).bind fun x =>
  some (x.1, x.2)

def pool_Pool_jobs_Job_find (p : pool_Pool_jobs_Job) (r : api_Ref) : Option ((Option Int) × Int) :=
  ((bif decide (r.At < 0) then
    some true
  else
    (bif decide (r.At ≥ (p.l.length : Int)) then
      some true
    else
      (bif decide (r.Gen < 1) then
        some true
      else
        (mIdx p.l r.At).bind fun x1 =>
        some (decide (r.Gen > x1.gen)))))).bind fun s =>
  (bif s then
    some ((none : Option Int), 22)
  else
    (mIdx p.l r.At).bind fun x2 =>
    (bif (decide (r.Gen < x2.gen)) || (!x2.taken) then
      some ((none : Option Int), 23)
    else
      some ((some r.At : Option Int), 0)))

def pool_Pool_jobs_Job_Give (p : pool_Pool_jobs_Job) (r : api_Ref) : Option (jobs_Job × Int × pool_Pool_jobs_Job) :=
  (pool_Pool_jobs_Job_find p r).bind fun t_ =>
  (mCase t_.1
    ((bif t_.2 != 0 then
      some (jobs_Job.mk 0 0 0 (api_Ref.mk 0 0), t_.2, p)
    else
      none))
    (fun i =>
    (mIdx p.l i).bind fun x =>
    (bif t_.2 != 0 then
      some (jobs_Job.mk 0 0 0 (api_Ref.mk 0 0), t_.2, p)
    else
      (mApp p.free ([r.At] : List Int)).bind fun l =>
      some (x.v_, 0, pool_Pool_jobs_Job.mk p.most (mSet (mSet p.l i (pool_place_jobs_Job.mk x.gen false x.v_)) i (pool_place_jobs_Job.mk x.gen false (jobs_Job.mk 0 0 0 (api_Ref.mk 0 0)))) l))))

def jobs_Table_Take (t_ : jobs_Table) (r : api_Ref) : Option (jobs_Job × Int × jobs_Table) :=
  (pool_Pool_jobs_Job_Give t_.p r).bind fun t_1 =>
  ((bif t_1.2.1 == 0 then
    some (jobs_Table.mk ((jobs_Table.mk t_1.2.2 t_.by_).p) (mDel api_Ref.eq t_1.1.Item ((jobs_Table.mk t_1.2.2 t_.by_).by_)))
  else
    some (jobs_Table.mk t_1.2.2 t_.by_))).bind fun s =>
  some (t_1.1, t_1.2.1, s)

def dispatch_Dispatcher_gone (d : dispatch_Dispatcher) (r : api_Ref) : Option (api_Reply × dispatch_Dispatcher) :=
  (jobs_Table_Take d.t_ r).bind fun t_ =>
  (bif t_.2.1 != 0 then
    (dispatch_refused t_.2.1).bind fun t_1 =>
    some (t_1, dispatch_Dispatcher.mk d.kind d.most d.q d.heaps0 d.heaps1 t_.2.2 d.when d.clock d.budget d.last d.top)
  else
    (dispatch_told t_.1).bind fun t_2 =>
    some (t_2, dispatch_Dispatcher.mk ((dispatch_Dispatcher.mk d.kind d.most d.q d.heaps0 d.heaps1 t_.2.2 d.when d.clock d.budget d.last d.top).kind) ((dispatch_Dispatcher.mk d.kind d.most d.q d.heaps0 d.heaps1 t_.2.2 d.when d.clock d.budget d.last d.top).most) ((dispatch_Dispatcher.mk d.kind d.most d.q d.heaps0 d.heaps1 t_.2.2 d.when d.clock d.budget d.last d.top).q) ((dispatch_Dispatcher.mk d.kind d.most d.q d.heaps0 d.heaps1 t_.2.2 d.when d.clock d.budget d.last d.top).heaps0) ((dispatch_Dispatcher.mk d.kind d.most d.q d.heaps0 d.heaps1 t_.2.2 d.when d.clock d.budget d.last d.top).heaps1) ((dispatch_Dispatcher.mk d.kind d.most d.q d.heaps0 d.heaps1 t_.2.2 d.when d.clock d.budget d.last d.top).t_) (mDel api_Ref.eq r ((dispatch_Dispatcher.mk d.kind d.most d.q d.heaps0 d.heaps1 t_.2.2 d.when d.clock d.budget d.last d.top).when)) ((dispatch_Dispatcher.mk d.kind d.most d.q d.heaps0 d.heaps1 t_.2.2 d.when d.clock d.budget d.last d.top).clock) ((dispatch_Dispatcher.mk d.kind d.most d.q d.heaps0 d.heaps1 t_.2.2 d.when d.clock d.budget d.last d.top).budget) ((dispatch_Dispatcher.mk d.kind d.most d.q d.heaps0 d.heaps1 t_.2.2 d.when d.clock d.budget d.last d.top).last) ((dispatch_Dispatcher.mk d.kind d.most d.q d.heaps0 d.heaps1 t_.2.2 d.when d.clock d.budget d.last d.top).top)))

def dispatch_Dispatcher_fire (d : dispatch_Dispatcher) (queue : Int) : Option (api_Reply × dispatch_Dispatcher) :=
  (mIdx ([d.heaps0, d.heaps1] : List api_Ref) queue).bind fun x =>
  (pq_Queues_Do d.q (api_Call.mk 3 0 x (api_Ref.mk 0 0) (api_Ref.mk 0 0) 0)).bind fun t_ =>
  ((bif t_.1.Why != 0 then
    some (true, dispatch_Dispatcher.mk d.kind d.most t_.2 d.heaps0 d.heaps1 d.t_ d.when d.clock d.budget d.last d.top)
  else
    (clock_Clock_Due ((dispatch_Dispatcher.mk d.kind d.most t_.2 d.heaps0 d.heaps1 d.t_ d.when d.clock d.budget d.last d.top).clock) t_.1.Entry.Key).bind fun t_1 =>
    some (!t_1, dispatch_Dispatcher.mk ((dispatch_Dispatcher.mk d.kind d.most t_.2 d.heaps0 d.heaps1 d.t_ d.when d.clock d.budget d.last d.top).kind) ((dispatch_Dispatcher.mk d.kind d.most t_.2 d.heaps0 d.heaps1 d.t_ d.when d.clock d.budget d.last d.top).most) ((dispatch_Dispatcher.mk d.kind d.most t_.2 d.heaps0 d.heaps1 d.t_ d.when d.clock d.budget d.last d.top).q) ((dispatch_Dispatcher.mk d.kind d.most t_.2 d.heaps0 d.heaps1 d.t_ d.when d.clock d.budget d.last d.top).heaps0) ((dispatch_Dispatcher.mk d.kind d.most t_.2 d.heaps0 d.heaps1 d.t_ d.when d.clock d.budget d.last d.top).heaps1) ((dispatch_Dispatcher.mk d.kind d.most t_.2 d.heaps0 d.heaps1 d.t_ d.when d.clock d.budget d.last d.top).t_) ((dispatch_Dispatcher.mk d.kind d.most t_.2 d.heaps0 d.heaps1 d.t_ d.when d.clock d.budget d.last d.top).when) ((dispatch_Dispatcher.mk d.kind d.most t_.2 d.heaps0 d.heaps1 d.t_ d.when d.clock d.budget d.last d.top).clock) ((dispatch_Dispatcher.mk d.kind d.most t_.2 d.heaps0 d.heaps1 d.t_ d.when d.clock d.budget d.last d.top).budget) ((dispatch_Dispatcher.mk d.kind d.most t_.2 d.heaps0 d.heaps1 d.t_ d.when d.clock d.budget d.last d.top).last) ((dispatch_Dispatcher.mk d.kind d.most t_.2 d.heaps0 d.heaps1 d.t_ d.when d.clock d.budget d.last d.top).top)))).bind fun s =>
  (bif s.1 then
    (dispatch_refused 28).bind fun t_2 =>
    some (t_2, s.2)
  else
    (pq_Queues_Do s.2.q (api_Call.mk 4 0 x (api_Ref.mk 0 0) (api_Ref.mk 0 0) 0)).bind fun t_3 =>
    (jobs_Table_By s.2.t_ t_3.1.Item).bind fun t_4 =>
    (dispatch_Dispatcher_gone (dispatch_Dispatcher.mk s.2.kind s.2.most t_3.2 s.2.heaps0 s.2.heaps1 s.2.t_ s.2.when s.2.clock s.2.budget s.2.last s.2.top) t_4.1).bind fun t_5 =>
    some (api_Reply.mk t_5.1.Why t_4.1 t_5.1.Time t_5.1.Data t_5.1.N, t_5.2))

def dispatch_Dispatcher_merge (d : dispatch_Dispatcher) : Option (api_Reply) :=
  none

def jobs_Table_Count (t_ : jobs_Table) (queue : Int) : Option (Int) :=
  none

def dispatch_Dispatcher_one (d : dispatch_Dispatcher) (c_ : api_Command) : Option (api_Reply × dispatch_Dispatcher) :=
  (((bif c_.Kind == 1 then
    some (c_.Kind == 1)
  else
    (bif c_.Kind == 5 then
      some (c_.Kind == 5)
    else
      (bif c_.Kind == 6 then
        some (c_.Kind == 6)
      else
        some (c_.Kind == 7))))).bind fun s2 =>
  (bif s2 then
    (bif !((decide (c_.Queue ≥ 0)) && (decide (c_.Queue < 2))) then
      (dispatch_refused 1).bind fun t_ =>
      some (.inl (t_, d))
    else
      some (.inr ()))
  else
    some (.inr ())) : Option ((api_Reply × dispatch_Dispatcher) ⊕ (Unit))).bind fun s =>
  match s with
  | .inl r_ => some r_
  | .inr s1 =>
    (bif c_.Kind == 1 then
      (dispatch_Dispatcher_schedule d c_).bind fun t_1 =>
      some (t_1.1, t_1.2)
    else
      (bif c_.Kind == 2 then
        (dispatch_Dispatcher_sooner d c_).bind fun t_2 =>
        some (t_2, d)
      else
        (bif c_.Kind == 3 then
          (dispatch_Dispatcher_cancel d c_.Job).bind fun t_3 =>
          some (t_3, d)
        else
          (bif c_.Kind == 4 then
            (clock_Clock_Go d.clock c_.Time).bind fun t_4 =>
            (bif t_4 != 0 then
              (dispatch_refused t_4).bind fun t_5 =>
              some (t_5, d)
            else
              (clock_Clock_Now d.clock).bind fun t_6 =>
              some (api_Reply.mk 0 (api_Ref.mk 0 0) t_6 0 0, d))
          else
            (bif c_.Kind == 5 then
              (dispatch_Dispatcher_fire d c_.Queue).bind fun t_7 =>
              some (t_7.1, t_7.2)
            else
              (bif c_.Kind == 6 then
                (bif c_.Queue == 0 then
                  (dispatch_refused 25).bind fun t_8 =>
                  some (t_8, d)
                else
                  (dispatch_Dispatcher_merge d).bind fun t_9 =>
                  some (t_9, d))
              else
                (bif c_.Kind == 7 then
                  (jobs_Table_Count d.t_ c_.Queue).bind fun t_10 =>
                  some (api_Reply.mk 0 (api_Ref.mk 0 0) 0 0 t_10, d)
                else
                  (dispatch_refused 12).bind fun t_11 =>
                  some (t_11, d))))))))

def dispatch_Dispatcher_Do (d : dispatch_Dispatcher) (c_ : api_Command) : Option (api_Reply × dispatch_Dispatcher) :=
  (pq_Queues_Steps d.q).bind fun t_ =>
  (dispatch_Dispatcher_one d c_).bind fun t_1 =>
  (pq_Queues_Steps t_1.2.q).bind fun t_2 =>
  (bif decide (w64 (t_2 - t_) > t_1.2.budget) then
    (dispatch_refused 29).bind fun t_3 =>
    some (t_3, dispatch_Dispatcher.mk t_1.2.kind t_1.2.most t_1.2.q t_1.2.heaps0 t_1.2.heaps1 t_1.2.t_ t_1.2.when t_1.2.clock t_1.2.budget (w64 (t_2 - t_)) (if w64 (t_2 - t_) > t_1.2.top then w64 (t_2 - t_) else t_1.2.top))
  else
    some (t_1.1, dispatch_Dispatcher.mk t_1.2.kind t_1.2.most t_1.2.q t_1.2.heaps0 t_1.2.heaps1 t_1.2.t_ t_1.2.when t_1.2.clock t_1.2.budget (w64 (t_2 - t_)) (if w64 (t_2 - t_) > t_1.2.top then w64 (t_2 - t_) else t_1.2.top)))

def server_Server_Serve (k : Nat) (s : server_Server) : Option (api_Reply × api_Command × Bool × server_Server) :=
  (mail_Desk_api_Command_Next k s.desk).bind fun t_ =>
  (bif !t_.2.2.1 then
    some (api_Reply.mk 0 (api_Ref.mk 0 0) 0 0 0, api_Command.mk 0 0 (api_Ref.mk 0 0) 0 0, false, server_Server.mk s.d t_.2.2.2)
  else
    (dispatch_Dispatcher_Do s.d t_.1).bind fun t_1 =>
    some (t_1.1, t_.1, true, server_Server.mk t_1.2 t_.2.2.2))

def server_Server_Dispatcher (s : server_Server) : Option (Unit) :=
  some ()

def dispatch_Dispatcher_Now (d : dispatch_Dispatcher) : Option (Int) :=
  (clock_Clock_Now d.clock).bind fun t_ =>
  some t_

def dispatch_Dispatcher_Last (d : dispatch_Dispatcher) : Option (Int) :=
  some d.last

def trace_Book_note (b : trace_Book) (c_ : api_Command) (r : api_Reply) : Option (api_Reply × trace_Book) :=
  (server_Server_Dispatcher b.s).bind fun t_ =>
  (dispatch_Dispatcher_Now b.s.d).bind fun t_1 =>
  (dispatch_Dispatcher_Last b.s.d).bind fun t_2 =>
  (mApp b.l ([trace_Event.mk c_ r t_1 t_2] : List trace_Event)).bind fun l =>
  some (r, trace_Book.mk b.s l)

def server_Server_Do (s : server_Server) (c_ : api_Command) : Option (api_Reply × server_Server) :=
  (dispatch_Dispatcher_Do s.d c_).bind fun t_ =>
  some (t_.1, server_Server.mk t_.2 s.desk)

def trace_Book_drain_l0 : Nat → Int → Int → trace_Book → Option (Int × trace_Book)
  | 0, _, _, _ => none
  | m + 1, n, x, m_ =>
    (bif decide (x < 4097) then
      (server_Server_Do m_.s (api_Command.mk 5 0 (api_Ref.mk 0 0) 0 0)).bind fun t_ =>
      (trace_Book_note (trace_Book.mk t_.2 m_.l) (api_Command.mk 5 0 (api_Ref.mk 0 0) 0 0) t_.1).bind fun t_1 =>
      (bif t_1.1.Why != 0 then
        some (n, t_1.2)
      else
        trace_Book_drain_l0 m (w64 (n + 1)) (w64 (x + 1)) t_1.2)
    else
      some (n, m_))

def trace_Book_drain (k : Nat) (b : trace_Book) : Option (Int × trace_Book) :=
  (trace_Book_drain_l0 k 0 0 b).bind fun s =>
  some (s.1, s.2)

def trace_Book_Act (k : Nat) (b : trace_Book) (x : api_Act) : Option (api_Reply × trace_Book) :=
  (bif x.Kind == 1 then
    (server_Server_Post b.s x.Box x.Command).bind fun t_ =>
    some (api_Reply.mk t_.1 (api_Ref.mk 0 0) 0 0 0, trace_Book.mk t_.2 b.l)
  else
    (bif x.Kind == 2 then
      (server_Server_Serve k b.s).bind fun t_1 =>
      (bif !t_1.2.2.1 then
        some (api_Reply.mk 27 (api_Ref.mk 0 0) 0 0 0, trace_Book.mk t_1.2.2.2 b.l)
      else
        (trace_Book_note (trace_Book.mk t_1.2.2.2 b.l) t_1.2.1 t_1.1).bind fun t_2 =>
        some (t_2.1, t_2.2))
    else
      (bif x.Kind == 3 then
        (server_Server_Do b.s x.Command).bind fun t_3 =>
        (trace_Book_note (trace_Book.mk t_3.2 b.l) x.Command t_3.1).bind fun t_4 =>
        some (t_4.1, t_4.2)
      else
        (bif x.Kind == 4 then
          (trace_Book_drain k b).bind fun t_5 =>
          some (api_Reply.mk 0 (api_Ref.mk 0 0) 0 0 t_5.1, t_5.2)
        else
          some (api_Reply.mk 12 (api_Ref.mk 0 0) 0 0 0, b)))))

def trace_Book_Run_l0 (x1 : Int) (l1 : List api_Act) : Nat → (List api_Reply) → Int → trace_Book → Option ((List api_Reply) × trace_Book)
  | 0, _, _, _ => none
  | m + 1, out, x, m_ =>
    (bif decide (x < x1) then
      (mIdx l1 x).bind fun x2 =>
      (trace_Book_Act m m_ x2).bind fun t_ =>
      (mApp out ([t_.1] : List api_Reply)).bind fun l2 =>
      trace_Book_Run_l0 x1 l1 m l2 (w64 (x + 1)) t_.2
    else
      some (out, m_))

def trace_Book_Run (k : Nat) (b : trace_Book) (l : List api_Act) : Option ((List api_Reply) × trace_Book) :=
  (trace_Book_Run_l0 (l.length : Int) l k ([] : List api_Reply) 0 b).bind fun s =>
  some (s.1, s.2)

def trace_Book_Events (b : trace_Book) : Option ((List trace_Event)) :=
  (lClone b.l).bind fun t_ =>
  some t_

def shell_Do (k : Nat) (s : shell_Script) : Option (shell_Result) :=
  (trace_New k s.Kind s.Jobs s.Boxes s.Room).bind fun t_ =>
  (mCase t_.1
    ((bif t_.2 != 0 then
      some (shell_Result.mk ([] : List api_Reply) ([] : List trace_Event) t_.2)
    else
      (mCut s.Acts 0 (if 256 < (s.Acts.length : Int) then 256 else (s.Acts.length : Int))).bind fun l =>
      (trace_Book_Run_nil0 k l).bind fun t_1 =>
      (trace_Book_Events_nil0).bind fun t_2 =>
      some (shell_Result.mk t_1 t_2 0)))
    (fun m_ =>
    (bif t_.2 != 0 then
      some (shell_Result.mk ([] : List api_Reply) ([] : List trace_Event) t_.2)
    else
      (mCut s.Acts 0 (if 256 < (s.Acts.length : Int) then 256 else (s.Acts.length : Int))).bind fun l1 =>
      (trace_Book_Run k m_ l1).bind fun t_3 =>
      (trace_Book_Events t_3.2).bind fun t_4 =>
      some (shell_Result.mk t_3.1 t_4 0))))

def shell_Bytes (k : Nat) (b : List Int) : Option (shell_Result) :=
  (shell_Decode k b).bind fun t_ =>
  (bif t_.2 != 0 then
    some (shell_Result.mk ([] : List api_Reply) ([] : List trace_Event) t_.2)
  else
    (shell_Do k t_.1).bind fun t_1 =>
    some t_1)

def thicketlaw28_known (k : Nat)  : Option (Bool) :=
  (shell_Encode k (shell_Script.mk 1 4 1 1 ([api_Act.mk 2 0 (api_Command.mk 0 0 (api_Ref.mk 0 0) 0 0), api_Act.mk 4 0 (api_Command.mk 0 0 (api_Ref.mk 0 0) 0 0)] : List api_Act))).bind fun t_ =>
  (shell_Bytes k t_.1).bind fun t_1 =>
  (shell_Bytes k ([] : List Int)).bind fun t_2 =>
  ((bif t_.2 == 0 then
    (bif (mStr t_.1).toList == (ByteArray.mk #[1, 0, 4, 1, 1, 2, 4]).toList then
      (bif t_1.Why == 0 then
        (bif (t_1.Replies.length : Int) == 2 then
          (mIdx t_1.Replies 0).bind fun x =>
          (bif x.Why == 27 then
            (bif (t_1.Events.length : Int) == 1 then
              some (t_2.Why == 12)
            else
              some false)
          else
            some false)
        else
          some false)
      else
        some false)
    else
      some false)
  else
    some false)).bind fun s =>
  some s

def thicketlaw28_ShellNumbers_l0 (e : Int) (m_ : shell_Script) (l : List Int) (l1 : List Int) : Nat → Int → Option ((Bool) ⊕ (Unit))
  | 0, _ => none
  | m + 1, k_ =>
    (bif decide (k_ ≤ (l1.length : Int)) then
      (mCut l1 0 k_).bind fun l2 =>
      (thicketlaw28_reads m l2).bind fun t_2 =>
      (bif !t_2 then
        some (.inl false)
      else
        thicketlaw28_ShellNumbers_l0 e m_ l l1 m (w64 (k_ + 1)))
    else
      some (.inr ()))

def thicketlaw28_ShellNumbers_l1 (e1 : Int) (m_1 : shell_Script) (l3 : List Int) (l4 : List Int) : Nat → Int → Option ((Bool) ⊕ (Unit))
  | 0, _ => none
  | m + 1, how =>
    (bif decide (how < 15) then
      (((bif how == 0 then
        some (shell_Script.mk (-1) 1 0 0 ([api_Act.mk 3 0 (api_Command.mk 0 0 (api_Ref.mk 0 0) 0 0)] : List api_Act))
      else
        (bif how == 1 then
          some (shell_Script.mk 256 1 0 0 ([api_Act.mk 3 0 (api_Command.mk 0 0 (api_Ref.mk 0 0) 0 0)] : List api_Act))
        else
          (bif how == 2 then
            some (shell_Script.mk 1 65536 0 0 ([api_Act.mk 3 0 (api_Command.mk 0 0 (api_Ref.mk 0 0) 0 0)] : List api_Act))
          else
            (bif how == 3 then
              some (shell_Script.mk 1 1 (-1) 0 ([api_Act.mk 3 0 (api_Command.mk 0 0 (api_Ref.mk 0 0) 0 0)] : List api_Act))
            else
              (bif how == 4 then
                some (shell_Script.mk 1 1 0 256 ([api_Act.mk 3 0 (api_Command.mk 0 0 (api_Ref.mk 0 0) 0 0)] : List api_Act))
              else
                (bif how == 5 then
                  (mMake 257 (api_Act.mk 0 0 (api_Command.mk 0 0 (api_Ref.mk 0 0) 0 0))).bind fun l5 =>
                  some (shell_Script.mk 1 1 0 0 l5)
                else
                  (bif how == 6 then
                    (mIdx ([api_Act.mk 3 0 (api_Command.mk 0 0 (api_Ref.mk 0 0) 0 0)] : List api_Act) 0).bind fun x =>
                    some (shell_Script.mk 1 1 0 0 (mSet ([api_Act.mk 3 0 (api_Command.mk 0 0 (api_Ref.mk 0 0) 0 0)] : List api_Act) 0 (api_Act.mk 0 x.Box x.Command)))
                  else
                    (bif how == 7 then
                      (mIdx ([api_Act.mk 3 0 (api_Command.mk 0 0 (api_Ref.mk 0 0) 0 0)] : List api_Act) 0).bind fun x1 =>
                      some (shell_Script.mk 1 1 0 0 (mSet ([api_Act.mk 3 0 (api_Command.mk 0 0 (api_Ref.mk 0 0) 0 0)] : List api_Act) 0 (api_Act.mk 5 x1.Box x1.Command)))
                    else
                      (bif how == 8 then
                        (mIdx ([api_Act.mk 3 0 (api_Command.mk 0 0 (api_Ref.mk 0 0) 0 0)] : List api_Act) 0).bind fun x2 =>
                        (mIdx (mSet ([api_Act.mk 3 0 (api_Command.mk 0 0 (api_Ref.mk 0 0) 0 0)] : List api_Act) 0 (api_Act.mk 1 x2.Box x2.Command)) 0).bind fun x3 =>
                        some (shell_Script.mk 1 1 0 0 (mSet (mSet ([api_Act.mk 3 0 (api_Command.mk 0 0 (api_Ref.mk 0 0) 0 0)] : List api_Act) 0 (api_Act.mk 1 x2.Box x2.Command)) 0 (api_Act.mk x3.Kind 256 x3.Command)))
                      else
                        (bif how == 9 then
                          some (shell_Script.mk 1 1 0 0 (mSet ([api_Act.mk 3 0 (api_Command.mk 0 0 (api_Ref.mk 0 0) 0 0)] : List api_Act) 0 (api_Act.mk 3 0 (api_Command.mk (-1) 0 (api_Ref.mk 0 0) 0 0))))
                        else
                          (bif how == 10 then
                            some (shell_Script.mk 1 1 0 0 (mSet ([api_Act.mk 3 0 (api_Command.mk 0 0 (api_Ref.mk 0 0) 0 0)] : List api_Act) 0 (api_Act.mk 3 0 (api_Command.mk 0 2 (api_Ref.mk 0 0) 0 0))))
                          else
                            (bif how == 11 then
                              some (shell_Script.mk 1 1 0 0 (mSet ([api_Act.mk 3 0 (api_Command.mk 0 0 (api_Ref.mk 0 0) 0 0)] : List api_Act) 0 (api_Act.mk 3 0 (api_Command.mk 0 0 (api_Ref.mk (-1) 0) 0 0))))
                            else
                              (bif how == 12 then
                                some (shell_Script.mk 1 1 0 0 (mSet ([api_Act.mk 3 0 (api_Command.mk 0 0 (api_Ref.mk 0 0) 0 0)] : List api_Act) 0 (api_Act.mk 3 0 (api_Command.mk 0 0 (api_Ref.mk 0 65536) 0 0))))
                              else
                                (bif how == 13 then
                                  some (shell_Script.mk 1 1 0 0 (mSet ([api_Act.mk 3 0 (api_Command.mk 0 0 (api_Ref.mk 0 0) 0 0)] : List api_Act) 0 (api_Act.mk 3 0 (api_Command.mk 0 0 (api_Ref.mk 0 0) 0 (-1)))))
                                else
                                  (bif how == 14 then
                                    some (shell_Script.mk 1 1 0 0 (mSet ([api_Act.mk 3 0 (api_Command.mk 0 0 (api_Ref.mk 0 0) 0 0)] : List api_Act) 0 (api_Act.mk 3 0 (api_Command.mk 0 0 (api_Ref.mk 0 0) 0 65536))))
                                  else
                                    some (shell_Script.mk 1 1 0 0 ([api_Act.mk 3 0 (api_Command.mk 0 0 (api_Ref.mk 0 0) 0 0)] : List api_Act)))))))))))))))))).bind fun s6 =>
      (shell_Encode m s6).bind fun t_3 =>
      ((bif t_3.2 == 0 then
        some true
      else
        (thicketlaw28_right m s6).bind fun t_4 =>
        (bif t_3.2 != t_4 then
          some true
        else
          some ((t_3.1.length : Int) != 0)))).bind fun s7 =>
      (bif s7 then
        some (.inl false)
      else
        some (.inr ())) : Option ((Bool) ⊕ (Unit))).bind fun s4 =>
      match s4 with
      | .inl r_ => some (.inl r_)
      | .inr s5 =>
        thicketlaw28_ShellNumbers_l1 e1 m_1 l3 l4 m (w64 (how + 1))
    else
      some (.inr ()))

def thicketlaw28_ShellNumbers (k : Nat)  : Option (Bool) :=
  (thicketlaw28_written k (shell_Script.mk 255 65535 9 255 ([api_Act.mk 1 255 (api_Command.mk 255 1 (api_Ref.mk 65535 258) (-5) 65535), api_Act.mk 2 0 (api_Command.mk 0 0 (api_Ref.mk 0 0) 0 0), api_Act.mk 3 0 (api_Command.mk 1 0 (api_Ref.mk 0 0) 9223372036854775807 0), api_Act.mk 4 0 (api_Command.mk 0 0 (api_Ref.mk 0 0) 0 0)] : List api_Act))).bind fun t_ =>
  (shell_Encode k (shell_Script.mk 255 65535 9 255 ([api_Act.mk 1 255 (api_Command.mk 255 1 (api_Ref.mk 65535 258) (-5) 65535), api_Act.mk 2 0 (api_Command.mk 0 0 (api_Ref.mk 0 0) 0 0), api_Act.mk 3 0 (api_Command.mk 1 0 (api_Ref.mk 0 0) 9223372036854775807 0), api_Act.mk 4 0 (api_Command.mk 0 0 (api_Ref.mk 0 0) 0 0)] : List api_Act))).bind fun t_1 =>
  (thicketlaw28_ShellNumbers_l0 t_1.2 (shell_Script.mk 255 65535 9 255 ([api_Act.mk 1 255 (api_Command.mk 255 1 (api_Ref.mk 65535 258) (-5) 65535), api_Act.mk 2 0 (api_Command.mk 0 0 (api_Ref.mk 0 0) 0 0), api_Act.mk 3 0 (api_Command.mk 1 0 (api_Ref.mk 0 0) 9223372036854775807 0), api_Act.mk 4 0 (api_Command.mk 0 0 (api_Ref.mk 0 0) 0 0)] : List api_Act)) t_1.1 t_ k 0).bind fun s =>
  match s with
  | .inl r_ => some r_
  | .inr s1 =>
    (thicketlaw28_ShellNumbers_l1 t_1.2 (shell_Script.mk 255 65535 9 255 ([api_Act.mk 1 255 (api_Command.mk 255 1 (api_Ref.mk 65535 258) (-5) 65535), api_Act.mk 2 0 (api_Command.mk 0 0 (api_Ref.mk 0 0) 0 0), api_Act.mk 3 0 (api_Command.mk 1 0 (api_Ref.mk 0 0) 9223372036854775807 0), api_Act.mk 4 0 (api_Command.mk 0 0 (api_Ref.mk 0 0) 0 0)] : List api_Act)) t_1.1 t_ k 0).bind fun s2 =>
    match s2 with
    | .inl r_ => some r_
    | .inr s3 =>
      ((bif t_1.2 == 0 then
        (bif (mStr t_1.1).toList == (mStr t_).toList then
          (shell_Do k (shell_Script.mk 0 0 0 0 ([]))).bind fun t_5 =>
          (bif t_5.Why == 24 then
            (thicketlaw28_known k).bind fun t_6 =>
            some t_6
          else
            some false)
        else
          some false)
      else
        some false)).bind fun s8 =>
      some s8

end Go.Proofs.YtdcjghailibedaaGreat
