import Derived.Test.YtdcjghailibedaaGreatUd
import Derived.Test.YtdcjghailibedaaGreatProg
import Derived.Test.YtdcjghailibedaaGreatSh
set_option linter.unusedVariables false
set_option linter.unusedSimpArgs false
set_option maxRecDepth 10000
set_option maxHeartbeats 4000000
namespace Go.Proofs.YtdcjghailibedaaGreat
open Go.Th

theorem mixed : Tryz.prog.follows .mixedOrders = true := by kernel_rfl

theorem api_Ref.eq_in (w : World) (d : Nat) (x y : api_Ref) : (Op.equalIn (d + 2) 31 (.agg #[.int .i64 x.At, .int .i64 x.Gen]) (.agg #[.int .i64 y.At, .int .i64 y.Gen])).run Tryz.prog w = .ok (api_Ref.eq x y) w :=
  eqS_top (d + 1) rfl (by kernel_rfl) (eqF_cons (a := .int .i64 x.At) (b := .int .i64 y.At) rfl rfl (by kernel_rfl) (by kernel_rfl) (run_equalIn_int w _ _ _ _ _ _ rfl) (eqF_cons (a := .int .i64 x.Gen) (b := .int .i64 y.Gen) rfl rfl (by kernel_rfl) (by kernel_rfl) (run_equalIn_int w _ _ _ _ _ _ rfl) (eqF_nil rfl)))

theorem api_Ref.eq_run (x y : api_Ref) : EqRuns Tryz.prog 31 #[.int .i64 x.At, .int .i64 x.Gen] #[.int .i64 y.At, .int .i64 y.Gen] (api_Ref.eq x y) := fun w => api_Ref.eq_in w 9998 x y

theorem api_Command.eq_in (w : World) (d : Nat) (x y : api_Command) : (Op.equalIn (d + 3) 33 (.agg #[.int .i64 x.Kind, .int .i64 x.Queue, .int .i64 x.Job.At, .int .i64 x.Job.Gen, .int .i64 x.Time, .int .i64 x.Data]) (.agg #[.int .i64 y.Kind, .int .i64 y.Queue, .int .i64 y.Job.At, .int .i64 y.Job.Gen, .int .i64 y.Time, .int .i64 y.Data])).run Tryz.prog w = .ok (api_Command.eq x y) w :=
  eqS_top (d + 2) rfl (by kernel_rfl) (eqF_cons (a := .int .i64 x.Kind) (b := .int .i64 y.Kind) rfl rfl (by kernel_rfl) (by kernel_rfl) (run_equalIn_int w _ _ _ _ _ _ rfl) (eqF_cons (a := .int .i64 x.Queue) (b := .int .i64 y.Queue) rfl rfl (by kernel_rfl) (by kernel_rfl) (run_equalIn_int w _ _ _ _ _ _ rfl) (eqF_cons (a := .agg #[.int .i64 x.Job.At, .int .i64 x.Job.Gen]) (b := .agg #[.int .i64 y.Job.At, .int .i64 y.Job.Gen]) rfl rfl (by kernel_rfl) (by kernel_rfl) (api_Ref.eq_in w d x.Job y.Job) (eqF_cons (a := .int .i64 x.Time) (b := .int .i64 y.Time) rfl rfl (by kernel_rfl) (by kernel_rfl) (run_equalIn_int w _ _ _ _ _ _ rfl) (eqF_cons (a := .int .i64 x.Data) (b := .int .i64 y.Data) rfl rfl (by kernel_rfl) (by kernel_rfl) (run_equalIn_int w _ _ _ _ _ _ rfl) (eqF_nil rfl))))))

theorem api_Command.eq_run (x y : api_Command) : EqRuns Tryz.prog 33 #[.int .i64 x.Kind, .int .i64 x.Queue, .int .i64 x.Job.At, .int .i64 x.Job.Gen, .int .i64 x.Time, .int .i64 x.Data] #[.int .i64 y.Kind, .int .i64 y.Queue, .int .i64 y.Job.At, .int .i64 y.Job.Gen, .int .i64 y.Time, .int .i64 y.Data] (api_Command.eq x y) := fun w => api_Command.eq_in w 9997 x y

theorem api_Act.eq_in (w : World) (d : Nat) (x y : api_Act) : (Op.equalIn (d + 4) 42 (.agg #[.int .i64 x.Kind, .int .i64 x.Box, .int .i64 x.Command.Kind, .int .i64 x.Command.Queue, .int .i64 x.Command.Job.At, .int .i64 x.Command.Job.Gen, .int .i64 x.Command.Time, .int .i64 x.Command.Data]) (.agg #[.int .i64 y.Kind, .int .i64 y.Box, .int .i64 y.Command.Kind, .int .i64 y.Command.Queue, .int .i64 y.Command.Job.At, .int .i64 y.Command.Job.Gen, .int .i64 y.Command.Time, .int .i64 y.Command.Data])).run Tryz.prog w = .ok (api_Act.eq x y) w :=
  eqS_top (d + 3) rfl (by kernel_rfl) (eqF_cons (a := .int .i64 x.Kind) (b := .int .i64 y.Kind) rfl rfl (by kernel_rfl) (by kernel_rfl) (run_equalIn_int w _ _ _ _ _ _ rfl) (eqF_cons (a := .int .i64 x.Box) (b := .int .i64 y.Box) rfl rfl (by kernel_rfl) (by kernel_rfl) (run_equalIn_int w _ _ _ _ _ _ rfl) (eqF_cons (a := .agg #[.int .i64 x.Command.Kind, .int .i64 x.Command.Queue, .int .i64 x.Command.Job.At, .int .i64 x.Command.Job.Gen, .int .i64 x.Command.Time, .int .i64 x.Command.Data]) (b := .agg #[.int .i64 y.Command.Kind, .int .i64 y.Command.Queue, .int .i64 y.Command.Job.At, .int .i64 y.Command.Job.Gen, .int .i64 y.Command.Time, .int .i64 y.Command.Data]) rfl rfl (by kernel_rfl) (by kernel_rfl) (api_Command.eq_in w d x.Command y.Command) (eqF_nil rfl))))

theorem api_Act.eq_run (x y : api_Act) : EqRuns Tryz.prog 42 #[.int .i64 x.Kind, .int .i64 x.Box, .int .i64 x.Command.Kind, .int .i64 x.Command.Queue, .int .i64 x.Command.Job.At, .int .i64 x.Command.Job.Gen, .int .i64 x.Command.Time, .int .i64 x.Command.Data] #[.int .i64 y.Kind, .int .i64 y.Box, .int .i64 y.Command.Kind, .int .i64 y.Command.Queue, .int .i64 y.Command.Job.At, .int .i64 y.Command.Job.Gen, .int .i64 y.Command.Time, .int .i64 y.Command.Data] (api_Act.eq x y) := fun w => api_Act.eq_in w 9996 x y

theorem arena_cell.get_f_spec {x : arena_cell} {i v : Int} (h : arena_cell.get_f x i = some v) : (arena_cell.enc x)[i.toNat * 1]? = some (.int .i64 v) := by
  by_cases h0 : i = 0
  · subst h0; simp [arena_cell.get_f] at h; subst h; rfl
  by_cases h1 : i = 1
  · subst h1; simp [arena_cell.get_f] at h; subst h; rfl
  by_cases h2 : i = 2
  · subst h2; simp [arena_cell.get_f] at h; subst h; rfl
  by_cases h3 : i = 3
  · subst h3; simp [arena_cell.get_f] at h; subst h; rfl
  by_cases h4 : i = 4
  · subst h4; simp [arena_cell.get_f] at h; subst h; rfl
  by_cases h5 : i = 5
  · subst h5; simp [arena_cell.get_f] at h; subst h; rfl
  by_cases h6 : i = 6
  · subst h6; simp [arena_cell.get_f] at h; subst h; rfl
  by_cases h7 : i = 7
  · subst h7; simp [arena_cell.get_f] at h; subst h; rfl
  by_cases h8 : i = 8
  · subst h8; simp [arena_cell.get_f] at h; subst h; rfl
  by_cases h9 : i = 9
  · subst h9; simp [arena_cell.get_f] at h; subst h; rfl
  · simp [arena_cell.get_f, h0, h1, h2, h3, h4, h5, h6, h7, h8, h9] at h

theorem arena_cell.set_f_spec {x y : arena_cell} {i v : Int} (h : arena_cell.set_f x i v = some y) : arena_cell.enc y = putAt (arena_cell.enc x) (i.toNat * 1) [.int .i64 v] := by
  by_cases h0 : i = 0
  · subst h0; simp [arena_cell.set_f] at h; subst h; rfl
  by_cases h1 : i = 1
  · subst h1; simp [arena_cell.set_f] at h; subst h; rfl
  by_cases h2 : i = 2
  · subst h2; simp [arena_cell.set_f] at h; subst h; rfl
  by_cases h3 : i = 3
  · subst h3; simp [arena_cell.set_f] at h; subst h; rfl
  by_cases h4 : i = 4
  · subst h4; simp [arena_cell.set_f] at h; subst h; rfl
  by_cases h5 : i = 5
  · subst h5; simp [arena_cell.set_f] at h; subst h; rfl
  by_cases h6 : i = 6
  · subst h6; simp [arena_cell.set_f] at h; subst h; rfl
  by_cases h7 : i = 7
  · subst h7; simp [arena_cell.set_f] at h; subst h; rfl
  by_cases h8 : i = 8
  · subst h8; simp [arena_cell.set_f] at h; subst h; rfl
  by_cases h9 : i = 9
  · subst h9; simp [arena_cell.set_f] at h; subst h; rfl
  · simp [arena_cell.set_f, h0, h1, h2, h3, h4, h5, h6, h7, h8, h9] at h

theorem api_Ref.key_ok : KeyOk Tryz.prog 31 api_Ref.val api_Ref.eq :=
  KeyOk.struct (fs := Tryz.prog.fieldsOf 31) rfl (fun w em x => run_checkKey_struct 9999 (fs := Tryz.prog.fieldsOf 31) rfl w em (ck_cons (v := .int .i64 x.At) rfl rfl (by kernel_rfl) (run_checkKey_int 9998 rfl _ _ _) (ck_cons (v := .int .i64 x.Gen) rfl rfl (by kernel_rfl) (run_checkKey_int 9998 rfl _ _ _) (ck_nil rfl)))) (fun w x y => api_Ref.eq_run x y w) (fun x => by simp [api_Ref.val, Instr.sameBits]) (fun x y h => by cases x; cases y; simpa [api_Ref.eq] using h)

structure shell_Script.A where
  Acts_b : Option Addr
  Acts_c : Nat
instance : Inhabited shell_Script.A := ⟨shell_Script.A.mk default default⟩

def shell_Script.R (p : Nat) (al : shell_Script.A) (m : shell_Script) : HP := sepL [Blk p 45 [.int .i64 m.Kind, .int .i64 m.Jobs, .int .i64 m.Boxes, .int .i64 m.Room, .slice al.Acts_b m.Acts.length al.Acts_c], Sl 42 api_Act.enc 8 al.Acts_b al.Acts_c m.Acts]

theorem shell_Script.open {w0 w : World} {As : List HP} {p : Nat} {al : shell_Script.A} {m : shell_Script} (H : St w0 (shell_Script.R p al m :: As) w) : St w0 (Blk p 45 [.int .i64 m.Kind, .int .i64 m.Jobs, .int .i64 m.Boxes, .int .i64 m.Room, .slice al.Acts_b m.Acts.length al.Acts_c] :: Sl 42 api_Act.enc 8 al.Acts_b al.Acts_c m.Acts :: As) w := St.flat H

theorem shell_Script.shut {w0 w : World} {As : List HP} {p : Nat} (al : shell_Script.A) (m : shell_Script) (H : St w0 (Blk p 45 [.int .i64 m.Kind, .int .i64 m.Jobs, .int .i64 m.Boxes, .int .i64 m.Room, .slice al.Acts_b m.Acts.length al.Acts_c] :: Sl 42 api_Act.enc 8 al.Acts_b al.Acts_c m.Acts :: As) w) : St w0 (shell_Script.R p al m :: As) w := St.group [Blk p 45 [.int .i64 m.Kind, .int .i64 m.Jobs, .int .i64 m.Boxes, .int .i64 m.Room, .slice al.Acts_b m.Acts.length al.Acts_c], Sl 42 api_Act.enc 8 al.Acts_b al.Acts_c m.Acts] H

structure shell_reader.A where
  b_X : HP
  b_b : Option Addr
  b_c : Nat
instance : Inhabited shell_reader.A := ⟨shell_reader.A.mk (fun _ => True) default default⟩

def shell_reader.R (p : Nat) (al : shell_reader.A) (m : shell_reader) : HP := sepL [Blk p 105 [.slice al.b_b m.b.length al.b_c, .bool m.bad], Pure (SlRd al.b_X ecU 1 al.b_b m.b ∧ m.b.length ≤ al.b_c)]

theorem shell_reader.open {w0 w : World} {As : List HP} {p : Nat} {al : shell_reader.A} {m : shell_reader} (H : St w0 (shell_reader.R p al m :: As) w) : St w0 (Blk p 105 [.slice al.b_b m.b.length al.b_c, .bool m.bad] :: Pure (SlRd al.b_X ecU 1 al.b_b m.b ∧ m.b.length ≤ al.b_c) :: As) w := St.flat H

theorem shell_reader.shut {w0 w : World} {As : List HP} {p : Nat} (al : shell_reader.A) (m : shell_reader) (H : St w0 (Blk p 105 [.slice al.b_b m.b.length al.b_c, .bool m.bad] :: Pure (SlRd al.b_X ecU 1 al.b_b m.b ∧ m.b.length ≤ al.b_c) :: As) w) : St w0 (shell_reader.R p al m :: As) w := St.group [Blk p 105 [.slice al.b_b m.b.length al.b_c, .bool m.bad], Pure (SlRd al.b_X ecU 1 al.b_b m.b ∧ m.b.length ≤ al.b_c)] H

def meter_Meter.R (p : Nat) (m : meter_Meter) : HP := sepL [Blk p 203 [.int .i64 m.steps, .int .i64 m.begun, .int .i64 m.most]]

theorem meter_Meter.open {w0 w : World} {As : List HP} {p : Nat} {m : meter_Meter} (H : St w0 (meter_Meter.R p m :: As) w) : St w0 (Blk p 203 [.int .i64 m.steps, .int .i64 m.begun, .int .i64 m.most] :: As) w := St.flat H

theorem meter_Meter.shut {w0 w : World} {As : List HP} {p : Nat} (m : meter_Meter) (H : St w0 (Blk p 203 [.int .i64 m.steps, .int .i64 m.begun, .int .i64 m.most] :: As) w) : St w0 (meter_Meter.R p m :: As) w := St.group [Blk p 203 [.int .i64 m.steps, .int .i64 m.begun, .int .i64 m.most]] H

structure arena_Arena.A where
  l_b : Option Addr
  l_c : Nat
  free_b : Option Addr
  free_c : Nat
  m__p : Nat
instance : Inhabited arena_Arena.A := ⟨arena_Arena.A.mk default default default default default⟩

def arena_Arena.R (p : Nat) (al : arena_Arena.A) (m : arena_Arena) : HP := sepL [Blk p 187 [.slice al.l_b m.l.length al.l_c, .int .i64 m.never, .slice al.free_b m.free.length al.free_c, .pointer (some ⟨al.m__p, 0, none⟩)], Sl 273 arena_cell.enc 11 al.l_b al.l_c m.l, Sl 3 ecI 1 al.free_b al.free_c m.free, meter_Meter.R al.m__p m.m_]

theorem arena_Arena.open {w0 w : World} {As : List HP} {p : Nat} {al : arena_Arena.A} {m : arena_Arena} (H : St w0 (arena_Arena.R p al m :: As) w) : St w0 (Blk p 187 [.slice al.l_b m.l.length al.l_c, .int .i64 m.never, .slice al.free_b m.free.length al.free_c, .pointer (some ⟨al.m__p, 0, none⟩)] :: Sl 273 arena_cell.enc 11 al.l_b al.l_c m.l :: Sl 3 ecI 1 al.free_b al.free_c m.free :: meter_Meter.R al.m__p m.m_ :: As) w := St.flat H

theorem arena_Arena.shut {w0 w : World} {As : List HP} {p : Nat} (al : arena_Arena.A) (m : arena_Arena) (H : St w0 (Blk p 187 [.slice al.l_b m.l.length al.l_c, .int .i64 m.never, .slice al.free_b m.free.length al.free_c, .pointer (some ⟨al.m__p, 0, none⟩)] :: Sl 273 arena_cell.enc 11 al.l_b al.l_c m.l :: Sl 3 ecI 1 al.free_b al.free_c m.free :: meter_Meter.R al.m__p m.m_ :: As) w) : St w0 (arena_Arena.R p al m :: As) w := St.group [Blk p 187 [.slice al.l_b m.l.length al.l_c, .int .i64 m.never, .slice al.free_b m.free.length al.free_c, .pointer (some ⟨al.m__p, 0, none⟩)], Sl 273 arena_cell.enc 11 al.l_b al.l_c m.l, Sl 3 ecI 1 al.free_b al.free_c m.free, meter_Meter.R al.m__p m.m_] H

structure pool_Pool_slots_heap.A where
  l_b : Option Addr
  l_c : Nat
  free_b : Option Addr
  free_c : Nat
instance : Inhabited pool_Pool_slots_heap.A := ⟨pool_Pool_slots_heap.A.mk default default default default⟩

def pool_Pool_slots_heap.R (p : Nat) (al : pool_Pool_slots_heap.A) (m : pool_Pool_slots_heap) : HP := sepL [Blk p 239 [.int .i64 m.most, .slice al.l_b m.l.length al.l_c, .slice al.free_b m.free.length al.free_c], Sl 244 pool_place_slots_heap.enc 5 al.l_b al.l_c m.l, Sl 3 ecI 1 al.free_b al.free_c m.free]

theorem pool_Pool_slots_heap.open {w0 w : World} {As : List HP} {p : Nat} {al : pool_Pool_slots_heap.A} {m : pool_Pool_slots_heap} (H : St w0 (pool_Pool_slots_heap.R p al m :: As) w) : St w0 (Blk p 239 [.int .i64 m.most, .slice al.l_b m.l.length al.l_c, .slice al.free_b m.free.length al.free_c] :: Sl 244 pool_place_slots_heap.enc 5 al.l_b al.l_c m.l :: Sl 3 ecI 1 al.free_b al.free_c m.free :: As) w := St.flat H

theorem pool_Pool_slots_heap.shut {w0 w : World} {As : List HP} {p : Nat} (al : pool_Pool_slots_heap.A) (m : pool_Pool_slots_heap) (H : St w0 (Blk p 239 [.int .i64 m.most, .slice al.l_b m.l.length al.l_c, .slice al.free_b m.free.length al.free_c] :: Sl 244 pool_place_slots_heap.enc 5 al.l_b al.l_c m.l :: Sl 3 ecI 1 al.free_b al.free_c m.free :: As) w) : St w0 (pool_Pool_slots_heap.R p al m :: As) w := St.group [Blk p 239 [.int .i64 m.most, .slice al.l_b m.l.length al.l_c, .slice al.free_b m.free.length al.free_c], Sl 244 pool_place_slots_heap.enc 5 al.l_b al.l_c m.l, Sl 3 ecI 1 al.free_b al.free_c m.free] H

structure pool_Pool_slots_thing.A where
  l_b : Option Addr
  l_c : Nat
  free_b : Option Addr
  free_c : Nat
instance : Inhabited pool_Pool_slots_thing.A := ⟨pool_Pool_slots_thing.A.mk default default default default⟩

def pool_Pool_slots_thing.R (p : Nat) (al : pool_Pool_slots_thing.A) (m : pool_Pool_slots_thing) : HP := sepL [Blk p 242 [.int .i64 m.most, .slice al.l_b m.l.length al.l_c, .slice al.free_b m.free.length al.free_c], Sl 280 pool_place_slots_thing.enc 5 al.l_b al.l_c m.l, Sl 3 ecI 1 al.free_b al.free_c m.free]

theorem pool_Pool_slots_thing.open {w0 w : World} {As : List HP} {p : Nat} {al : pool_Pool_slots_thing.A} {m : pool_Pool_slots_thing} (H : St w0 (pool_Pool_slots_thing.R p al m :: As) w) : St w0 (Blk p 242 [.int .i64 m.most, .slice al.l_b m.l.length al.l_c, .slice al.free_b m.free.length al.free_c] :: Sl 280 pool_place_slots_thing.enc 5 al.l_b al.l_c m.l :: Sl 3 ecI 1 al.free_b al.free_c m.free :: As) w := St.flat H

theorem pool_Pool_slots_thing.shut {w0 w : World} {As : List HP} {p : Nat} (al : pool_Pool_slots_thing.A) (m : pool_Pool_slots_thing) (H : St w0 (Blk p 242 [.int .i64 m.most, .slice al.l_b m.l.length al.l_c, .slice al.free_b m.free.length al.free_c] :: Sl 280 pool_place_slots_thing.enc 5 al.l_b al.l_c m.l :: Sl 3 ecI 1 al.free_b al.free_c m.free :: As) w) : St w0 (pool_Pool_slots_thing.R p al m :: As) w := St.group [Blk p 242 [.int .i64 m.most, .slice al.l_b m.l.length al.l_c, .slice al.free_b m.free.length al.free_c], Sl 280 pool_place_slots_thing.enc 5 al.l_b al.l_c m.l, Sl 3 ecI 1 al.free_b al.free_c m.free] H

structure slots_Table.A where
  heaps_p : Nat
  heaps_a : pool_Pool_slots_heap.A
  items_p : Nat
  items_a : pool_Pool_slots_thing.A
  at__p : Nat
instance : Inhabited slots_Table.A := ⟨slots_Table.A.mk default default default default default⟩

def slots_Table.R (p : Nat) (al : slots_Table.A) (m : slots_Table) : HP := sepL [Blk p 198 [.pointer (some ⟨al.heaps_p, 0, none⟩), .pointer (some ⟨al.items_p, 0, none⟩), .map (some al.at__p)], pool_Pool_slots_heap.R al.heaps_p al.heaps_a m.heaps, pool_Pool_slots_thing.R al.items_p al.items_a m.items, MpA al.at__p vI api_Ref.val m.at_]

theorem slots_Table.open {w0 w : World} {As : List HP} {p : Nat} {al : slots_Table.A} {m : slots_Table} (H : St w0 (slots_Table.R p al m :: As) w) : St w0 (Blk p 198 [.pointer (some ⟨al.heaps_p, 0, none⟩), .pointer (some ⟨al.items_p, 0, none⟩), .map (some al.at__p)] :: pool_Pool_slots_heap.R al.heaps_p al.heaps_a m.heaps :: pool_Pool_slots_thing.R al.items_p al.items_a m.items :: MpA al.at__p vI api_Ref.val m.at_ :: As) w := St.flat H

theorem slots_Table.shut {w0 w : World} {As : List HP} {p : Nat} (al : slots_Table.A) (m : slots_Table) (H : St w0 (Blk p 198 [.pointer (some ⟨al.heaps_p, 0, none⟩), .pointer (some ⟨al.items_p, 0, none⟩), .map (some al.at__p)] :: pool_Pool_slots_heap.R al.heaps_p al.heaps_a m.heaps :: pool_Pool_slots_thing.R al.items_p al.items_a m.items :: MpA al.at__p vI api_Ref.val m.at_ :: As) w) : St w0 (slots_Table.R p al m :: As) w := St.group [Blk p 198 [.pointer (some ⟨al.heaps_p, 0, none⟩), .pointer (some ⟨al.items_p, 0, none⟩), .map (some al.at__p)], pool_Pool_slots_heap.R al.heaps_p al.heaps_a m.heaps, pool_Pool_slots_thing.R al.items_p al.items_a m.items, MpA al.at__p vI api_Ref.val m.at_] H

structure pq_Queues.A where
  a__p : Nat
  a__a : arena_Arena.A
  t__p : Nat
  t__a : slots_Table.A
  entries_p : Nat
instance : Inhabited pq_Queues.A := ⟨pq_Queues.A.mk default default default default default⟩

def pq_Queues.R (p : Nat) (al : pq_Queues.A) (m : pq_Queues) : HP := sepL [Blk p 156 [.int .i64 m.items, .pointer (some ⟨al.a__p, 0, none⟩), .pointer (some ⟨al.t__p, 0, none⟩), .map (some al.entries_p), .int .i64 m.serial], arena_Arena.R al.a__p al.a__a m.a_, slots_Table.R al.t__p al.t__a m.t_, MpA al.entries_p api_Ref.val api_Entry.val m.entries]

theorem pq_Queues.open {w0 w : World} {As : List HP} {p : Nat} {al : pq_Queues.A} {m : pq_Queues} (H : St w0 (pq_Queues.R p al m :: As) w) : St w0 (Blk p 156 [.int .i64 m.items, .pointer (some ⟨al.a__p, 0, none⟩), .pointer (some ⟨al.t__p, 0, none⟩), .map (some al.entries_p), .int .i64 m.serial] :: arena_Arena.R al.a__p al.a__a m.a_ :: slots_Table.R al.t__p al.t__a m.t_ :: MpA al.entries_p api_Ref.val api_Entry.val m.entries :: As) w := St.flat H

theorem pq_Queues.shut {w0 w : World} {As : List HP} {p : Nat} (al : pq_Queues.A) (m : pq_Queues) (H : St w0 (Blk p 156 [.int .i64 m.items, .pointer (some ⟨al.a__p, 0, none⟩), .pointer (some ⟨al.t__p, 0, none⟩), .map (some al.entries_p), .int .i64 m.serial] :: arena_Arena.R al.a__p al.a__a m.a_ :: slots_Table.R al.t__p al.t__a m.t_ :: MpA al.entries_p api_Ref.val api_Entry.val m.entries :: As) w) : St w0 (pq_Queues.R p al m :: As) w := St.group [Blk p 156 [.int .i64 m.items, .pointer (some ⟨al.a__p, 0, none⟩), .pointer (some ⟨al.t__p, 0, none⟩), .map (some al.entries_p), .int .i64 m.serial], arena_Arena.R al.a__p al.a__a m.a_, slots_Table.R al.t__p al.t__a m.t_, MpA al.entries_p api_Ref.val api_Entry.val m.entries] H

structure pool_Pool_jobs_Job.A where
  l_b : Option Addr
  l_c : Nat
  free_b : Option Addr
  free_c : Nat
instance : Inhabited pool_Pool_jobs_Job.A := ⟨pool_Pool_jobs_Job.A.mk default default default default⟩

def pool_Pool_jobs_Job.R (p : Nat) (al : pool_Pool_jobs_Job.A) (m : pool_Pool_jobs_Job) : HP := sepL [Blk p 201 [.int .i64 m.most, .slice al.l_b m.l.length al.l_c, .slice al.free_b m.free.length al.free_c], Sl 263 pool_place_jobs_Job.enc 7 al.l_b al.l_c m.l, Sl 3 ecI 1 al.free_b al.free_c m.free]

theorem pool_Pool_jobs_Job.open {w0 w : World} {As : List HP} {p : Nat} {al : pool_Pool_jobs_Job.A} {m : pool_Pool_jobs_Job} (H : St w0 (pool_Pool_jobs_Job.R p al m :: As) w) : St w0 (Blk p 201 [.int .i64 m.most, .slice al.l_b m.l.length al.l_c, .slice al.free_b m.free.length al.free_c] :: Sl 263 pool_place_jobs_Job.enc 7 al.l_b al.l_c m.l :: Sl 3 ecI 1 al.free_b al.free_c m.free :: As) w := St.flat H

theorem pool_Pool_jobs_Job.shut {w0 w : World} {As : List HP} {p : Nat} (al : pool_Pool_jobs_Job.A) (m : pool_Pool_jobs_Job) (H : St w0 (Blk p 201 [.int .i64 m.most, .slice al.l_b m.l.length al.l_c, .slice al.free_b m.free.length al.free_c] :: Sl 263 pool_place_jobs_Job.enc 7 al.l_b al.l_c m.l :: Sl 3 ecI 1 al.free_b al.free_c m.free :: As) w) : St w0 (pool_Pool_jobs_Job.R p al m :: As) w := St.group [Blk p 201 [.int .i64 m.most, .slice al.l_b m.l.length al.l_c, .slice al.free_b m.free.length al.free_c], Sl 263 pool_place_jobs_Job.enc 7 al.l_b al.l_c m.l, Sl 3 ecI 1 al.free_b al.free_c m.free] H

structure jobs_Table.A where
  p_p : Nat
  p_a : pool_Pool_jobs_Job.A
  by__p : Nat
instance : Inhabited jobs_Table.A := ⟨jobs_Table.A.mk default default default⟩

def jobs_Table.R (p : Nat) (al : jobs_Table.A) (m : jobs_Table) : HP := sepL [Blk p 163 [.pointer (some ⟨al.p_p, 0, none⟩), .map (some al.by__p)], pool_Pool_jobs_Job.R al.p_p al.p_a m.p, MpA al.by__p api_Ref.val api_Ref.val m.by_]

theorem jobs_Table.open {w0 w : World} {As : List HP} {p : Nat} {al : jobs_Table.A} {m : jobs_Table} (H : St w0 (jobs_Table.R p al m :: As) w) : St w0 (Blk p 163 [.pointer (some ⟨al.p_p, 0, none⟩), .map (some al.by__p)] :: pool_Pool_jobs_Job.R al.p_p al.p_a m.p :: MpA al.by__p api_Ref.val api_Ref.val m.by_ :: As) w := St.flat H

theorem jobs_Table.shut {w0 w : World} {As : List HP} {p : Nat} (al : jobs_Table.A) (m : jobs_Table) (H : St w0 (Blk p 163 [.pointer (some ⟨al.p_p, 0, none⟩), .map (some al.by__p)] :: pool_Pool_jobs_Job.R al.p_p al.p_a m.p :: MpA al.by__p api_Ref.val api_Ref.val m.by_ :: As) w) : St w0 (jobs_Table.R p al m :: As) w := St.group [Blk p 163 [.pointer (some ⟨al.p_p, 0, none⟩), .map (some al.by__p)], pool_Pool_jobs_Job.R al.p_p al.p_a m.p, MpA al.by__p api_Ref.val api_Ref.val m.by_] H

def clock_Clock.R (p : Nat) (m : clock_Clock) : HP := sepL [Blk p 165 [.int .i64 m.now]]

theorem clock_Clock.open {w0 w : World} {As : List HP} {p : Nat} {m : clock_Clock} (H : St w0 (clock_Clock.R p m :: As) w) : St w0 (Blk p 165 [.int .i64 m.now] :: As) w := St.flat H

theorem clock_Clock.shut {w0 w : World} {As : List HP} {p : Nat} (m : clock_Clock) (H : St w0 (Blk p 165 [.int .i64 m.now] :: As) w) : St w0 (clock_Clock.R p m :: As) w := St.group [Blk p 165 [.int .i64 m.now]] H

structure dispatch_Dispatcher.A where
  q_p : Nat
  q_a : pq_Queues.A
  t__p : Nat
  t__a : jobs_Table.A
  when_p : Nat
  clock_p : Nat
instance : Inhabited dispatch_Dispatcher.A := ⟨dispatch_Dispatcher.A.mk default default default default default default⟩

def dispatch_Dispatcher.R (p : Nat) (al : dispatch_Dispatcher.A) (m : dispatch_Dispatcher) : HP := sepL [Blk p 123 [.int .i64 m.kind, .int .i64 m.most, .pointer (some ⟨al.q_p, 0, none⟩), .int .i64 m.heaps0.At, .int .i64 m.heaps0.Gen, .int .i64 m.heaps1.At, .int .i64 m.heaps1.Gen, .pointer (some ⟨al.t__p, 0, none⟩), .map (some al.when_p), .pointer (some ⟨al.clock_p, 0, none⟩), .int .i64 m.budget, .int .i64 m.last, .int .i64 m.top], pq_Queues.R al.q_p al.q_a m.q, jobs_Table.R al.t__p al.t__a m.t_, MpA al.when_p api_Ref.val vI m.when, clock_Clock.R al.clock_p m.clock]

theorem dispatch_Dispatcher.open {w0 w : World} {As : List HP} {p : Nat} {al : dispatch_Dispatcher.A} {m : dispatch_Dispatcher} (H : St w0 (dispatch_Dispatcher.R p al m :: As) w) : St w0 (Blk p 123 [.int .i64 m.kind, .int .i64 m.most, .pointer (some ⟨al.q_p, 0, none⟩), .int .i64 m.heaps0.At, .int .i64 m.heaps0.Gen, .int .i64 m.heaps1.At, .int .i64 m.heaps1.Gen, .pointer (some ⟨al.t__p, 0, none⟩), .map (some al.when_p), .pointer (some ⟨al.clock_p, 0, none⟩), .int .i64 m.budget, .int .i64 m.last, .int .i64 m.top] :: pq_Queues.R al.q_p al.q_a m.q :: jobs_Table.R al.t__p al.t__a m.t_ :: MpA al.when_p api_Ref.val vI m.when :: clock_Clock.R al.clock_p m.clock :: As) w := St.flat H

theorem dispatch_Dispatcher.shut {w0 w : World} {As : List HP} {p : Nat} (al : dispatch_Dispatcher.A) (m : dispatch_Dispatcher) (H : St w0 (Blk p 123 [.int .i64 m.kind, .int .i64 m.most, .pointer (some ⟨al.q_p, 0, none⟩), .int .i64 m.heaps0.At, .int .i64 m.heaps0.Gen, .int .i64 m.heaps1.At, .int .i64 m.heaps1.Gen, .pointer (some ⟨al.t__p, 0, none⟩), .map (some al.when_p), .pointer (some ⟨al.clock_p, 0, none⟩), .int .i64 m.budget, .int .i64 m.last, .int .i64 m.top] :: pq_Queues.R al.q_p al.q_a m.q :: jobs_Table.R al.t__p al.t__a m.t_ :: MpA al.when_p api_Ref.val vI m.when :: clock_Clock.R al.clock_p m.clock :: As) w) : St w0 (dispatch_Dispatcher.R p al m :: As) w := St.group [Blk p 123 [.int .i64 m.kind, .int .i64 m.most, .pointer (some ⟨al.q_p, 0, none⟩), .int .i64 m.heaps0.At, .int .i64 m.heaps0.Gen, .int .i64 m.heaps1.At, .int .i64 m.heaps1.Gen, .pointer (some ⟨al.t__p, 0, none⟩), .map (some al.when_p), .pointer (some ⟨al.clock_p, 0, none⟩), .int .i64 m.budget, .int .i64 m.last, .int .i64 m.top], pq_Queues.R al.q_p al.q_a m.q, jobs_Table.R al.t__p al.t__a m.t_, MpA al.when_p api_Ref.val vI m.when, clock_Clock.R al.clock_p m.clock] H

structure mail_Box_api_Command.A where
  c__p : Nat
instance : Inhabited mail_Box_api_Command.A := ⟨mail_Box_api_Command.A.mk default⟩

def mail_Box_api_Command.R (p : Nat) (al : mail_Box_api_Command.A) (m : mail_Box_api_Command) : HP := sepL [Blk p 178 [.chan (some al.c__p)], ChM al.c__p api_Command.val m.c_]

theorem mail_Box_api_Command.open {w0 w : World} {As : List HP} {p : Nat} {al : mail_Box_api_Command.A} {m : mail_Box_api_Command} (H : St w0 (mail_Box_api_Command.R p al m :: As) w) : St w0 (Blk p 178 [.chan (some al.c__p)] :: ChM al.c__p api_Command.val m.c_ :: As) w := St.flat H

theorem mail_Box_api_Command.shut {w0 w : World} {As : List HP} {p : Nat} (al : mail_Box_api_Command.A) (m : mail_Box_api_Command) (H : St w0 (Blk p 178 [.chan (some al.c__p)] :: ChM al.c__p api_Command.val m.c_ :: As) w) : St w0 (mail_Box_api_Command.R p al m :: As) w := St.group [Blk p 178 [.chan (some al.c__p)], ChM al.c__p api_Command.val m.c_] H

structure mail_Desk_api_Command.A where
  l_b : Option Addr
  l_c : Nat
instance : Inhabited mail_Desk_api_Command.A := ⟨mail_Desk_api_Command.A.mk default default⟩

def mail_Box_api_Command.encX (g : Nat × mail_Box_api_Command.A) : List Value := [.pointer (some ⟨g.1, 0, none⟩)]
def mail_Box_api_Command.RX (g : Nat × mail_Box_api_Command.A) (x : mail_Box_api_Command) : HP := mail_Box_api_Command.R g.1 g.2 x

theorem mail_Box_api_Command.encX_ok : EncOk mail_Box_api_Command.encX 1 := ⟨fun _ => rfl, fun x u hu => by simp [mail_Box_api_Command.encX] at hu; subst hu; rfl⟩

def mail_Desk_api_Command.R (p : Nat) (al : mail_Desk_api_Command.A) (m : mail_Desk_api_Command) : HP := sepL [Blk p 133 [.slice al.l_b m.l.length al.l_c], SlX 134 mail_Box_api_Command.encX mail_Box_api_Command.RX al.l_b al.l_c m.l]

theorem mail_Desk_api_Command.open {w0 w : World} {As : List HP} {p : Nat} {al : mail_Desk_api_Command.A} {m : mail_Desk_api_Command} (H : St w0 (mail_Desk_api_Command.R p al m :: As) w) : St w0 (Blk p 133 [.slice al.l_b m.l.length al.l_c] :: SlX 134 mail_Box_api_Command.encX mail_Box_api_Command.RX al.l_b al.l_c m.l :: As) w := St.flat H

theorem mail_Desk_api_Command.shut {w0 w : World} {As : List HP} {p : Nat} (al : mail_Desk_api_Command.A) (m : mail_Desk_api_Command) (H : St w0 (Blk p 133 [.slice al.l_b m.l.length al.l_c] :: SlX 134 mail_Box_api_Command.encX mail_Box_api_Command.RX al.l_b al.l_c m.l :: As) w) : St w0 (mail_Desk_api_Command.R p al m :: As) w := St.group [Blk p 133 [.slice al.l_b m.l.length al.l_c], SlX 134 mail_Box_api_Command.encX mail_Box_api_Command.RX al.l_b al.l_c m.l] H

structure server_Server.A where
  d_p : Nat
  d_a : dispatch_Dispatcher.A
  desk_p : Nat
  desk_a : mail_Desk_api_Command.A
instance : Inhabited server_Server.A := ⟨server_Server.A.mk default default default default⟩

def server_Server.R (p : Nat) (al : server_Server.A) (m : server_Server) : HP := sepL [Blk p 77 [.pointer (some ⟨al.d_p, 0, none⟩), .pointer (some ⟨al.desk_p, 0, none⟩)], dispatch_Dispatcher.R al.d_p al.d_a m.d, mail_Desk_api_Command.R al.desk_p al.desk_a m.desk]

theorem server_Server.open {w0 w : World} {As : List HP} {p : Nat} {al : server_Server.A} {m : server_Server} (H : St w0 (server_Server.R p al m :: As) w) : St w0 (Blk p 77 [.pointer (some ⟨al.d_p, 0, none⟩), .pointer (some ⟨al.desk_p, 0, none⟩)] :: dispatch_Dispatcher.R al.d_p al.d_a m.d :: mail_Desk_api_Command.R al.desk_p al.desk_a m.desk :: As) w := St.flat H

theorem server_Server.shut {w0 w : World} {As : List HP} {p : Nat} (al : server_Server.A) (m : server_Server) (H : St w0 (Blk p 77 [.pointer (some ⟨al.d_p, 0, none⟩), .pointer (some ⟨al.desk_p, 0, none⟩)] :: dispatch_Dispatcher.R al.d_p al.d_a m.d :: mail_Desk_api_Command.R al.desk_p al.desk_a m.desk :: As) w) : St w0 (server_Server.R p al m :: As) w := St.group [Blk p 77 [.pointer (some ⟨al.d_p, 0, none⟩), .pointer (some ⟨al.desk_p, 0, none⟩)], dispatch_Dispatcher.R al.d_p al.d_a m.d, mail_Desk_api_Command.R al.desk_p al.desk_a m.desk] H

structure trace_Book.A where
  s_p : Nat
  s_a : server_Server.A
  l_b : Option Addr
  l_c : Nat
instance : Inhabited trace_Book.A := ⟨trace_Book.A.mk default default default default⟩

def trace_Book.R (p : Nat) (al : trace_Book.A) (m : trace_Book) : HP := sepL [Blk p 143 [.pointer (some ⟨al.s_p, 0, none⟩), .slice al.l_b m.l.length al.l_c], server_Server.R al.s_p al.s_a m.s, Sl 147 trace_Event.enc 14 al.l_b al.l_c m.l]

theorem trace_Book.open {w0 w : World} {As : List HP} {p : Nat} {al : trace_Book.A} {m : trace_Book} (H : St w0 (trace_Book.R p al m :: As) w) : St w0 (Blk p 143 [.pointer (some ⟨al.s_p, 0, none⟩), .slice al.l_b m.l.length al.l_c] :: server_Server.R al.s_p al.s_a m.s :: Sl 147 trace_Event.enc 14 al.l_b al.l_c m.l :: As) w := St.flat H

theorem trace_Book.shut {w0 w : World} {As : List HP} {p : Nat} (al : trace_Book.A) (m : trace_Book) (H : St w0 (Blk p 143 [.pointer (some ⟨al.s_p, 0, none⟩), .slice al.l_b m.l.length al.l_c] :: server_Server.R al.s_p al.s_a m.s :: Sl 147 trace_Event.enc 14 al.l_b al.l_c m.l :: As) w) : St w0 (trace_Book.R p al m :: As) w := St.group [Blk p 143 [.pointer (some ⟨al.s_p, 0, none⟩), .slice al.l_b m.l.length al.l_c], server_Server.R al.s_p al.s_a m.s, Sl 147 trace_Event.enc 14 al.l_b al.l_c m.l] H

structure shell_Result.A where
  Replies_b : Option Addr
  Replies_c : Nat
  Events_b : Option Addr
  Events_c : Nat
instance : Inhabited shell_Result.A := ⟨shell_Result.A.mk default default default default⟩

theorem thicketlaw28_two_ok {w0 w : World} {As : List HP} {sb_b : Option Addr} {sc_b : Nat} {b : List Int} {n : Int} {t : (List Int)}  (hm : thicketlaw28_two b n = some t) (H : St w0 (Sl 5 ecU 1 sb_b sc_b b :: As) w) :
    CallsR Tryz.prog 34 #[.slice sb_b b.length sc_b, .int .i64 n] w fun v w' => ∃ (sb0 : Option Addr), ∃ (sc0 : Nat), v = .slice sb0 t.length sc0 ∧ St w0 (Sl 5 ecU 1 sb0 sc0 t :: As) w' := by
 rw [thicketlaw28_two] at hm
 refine enter (args := [.slice sb_b b.length sc_b, .int .i64 n]) Tryz.func34 rfl rfl rfl fun a hE => ?_
 refine Runs.sr ?_
 refine WR.seg hE 1 [] [0, 1] (Lo := [(0, .slice sb_b b.length sc_b), (1, .int .i64 n)]) (obs := []) rfl (by kernel_rfl) trivial fun a hE => ?_
 refine WR.done rfl ?_
 refine Runs.sr ?_
 refine WR.d hE 6 [] [(5, .slice sb_b b.length sc_b), (8, .int .u8 (IntKind.wrap .u8 (Int.fdiv n (2 ^ (min (Int.toNat 8) 64))))), (10, .int .u8 (IntKind.wrap .u8 (n)))] (obs := [.p (0 ≤ (8 : Int))]) ⟨(by show _ ≤ _; decide), trivial⟩ fun a hE => ?_
 refine WR.eff hE rfl rfl rfl rfl (OpTo.buildSl (T := 5) hE H ecU_ok ([IntKind.wrap .u8 (Int.fdiv n (2 ^ (min (Int.toNat 8) 64))), IntKind.wrap .u8 (n)] : List Int) rfl (fun _ => by kernel_rfl) rfl rfl rfl) ?_
 rintro _ w ⟨r, rfl, H⟩ a hE
 obtain ⟨l, el, hm⟩ := bind_some hm
 replace H := H.t1
 refine WR.eff hE rfl rfl rfl rfl (OpTo.appendM el hE H ecU_ok rfl rfl rfl rfl rfl rfl rfl rfl rfl rfl (SlRd.all (sl_rd 5 ecU 1 _ _ _) ecU_ok H 1 rfl) rfl) ?_
 rintro _ w ⟨sb, sc, rfl, H⟩ a hE
 refine WR.e0 hE [(4, .slice sb l.length sc)] fun a hE => ?_
 refine Runs.ret hE Tryz.func34 rfl rfl ?_
 cases hm
 exact ⟨sb, sc, rfl, H.x1⟩

theorem thicketlaw28_written_ok {w0 w : World} {As : List HP} {k : Nat} {s : shell_Script} {al_s : shell_Script.A} {X_s : HP} {t : (List Int)} (hX_s_Acts : SlRd X_s api_Act.enc 8 al_s.Acts_b s.Acts) (hC_s_Acts : s.Acts.length ≤ al_s.Acts_c) (hm : thicketlaw28_written k s = some t) (H : St w0 (X_s :: As) w) :
    CallsR Tryz.prog 15 #[.agg #[.int .i64 s.Kind, .int .i64 s.Jobs, .int .i64 s.Boxes, .int .i64 s.Room, .slice al_s.Acts_b s.Acts.length al_s.Acts_c]] w fun v w' => ∃ (sb0 : Option Addr), ∃ (sc0 : Nat), v = .slice sb0 t.length sc0 ∧ St w0 (Sl 5 ecU 1 sb0 sc0 t :: X_s :: As) w' := by
 rw [thicketlaw28_written] at hm
 refine enter (args := [.agg #[.int .i64 s.Kind, .int .i64 s.Jobs, .int .i64 s.Boxes, .int .i64 s.Room, .slice al_s.Acts_b s.Acts.length al_s.Acts_c]]) Tryz.func15 rfl rfl rfl fun a hE => ?_
 refine Runs.sr ?_
 refine WR.eff hE rfl rfl rfl rfl (OpTo.new hE H [] (.cells #[.int .i64 s.Kind, .int .i64 s.Jobs, .int .i64 s.Boxes, .int .i64 s.Room, .slice al_s.Acts_b s.Acts.length al_s.Acts_c] 45 (0, 0)) (fun r => .pointer (some ⟨r, 0, none⟩)) (obs := []) rfl (fun _ => by kernel_rfl) trivial) ?_
 rintro _ w ⟨r, rfl, H⟩ a hE
 refine WR.seg hE 2 [] [1] (Lo := [(1, .pointer (some ⟨r, 0, none⟩))]) (obs := []) rfl (by kernel_rfl) trivial fun a hE => ?_
 refine WR.done rfl ?_
 refine Runs.seq ?_
 obtain ⟨t_, et_, hm⟩ := bind_some hm
 obtain ⟨l, el, hm⟩ := bind_some hm
 refine Runs.join (fun a w => ∃ (sb2 : Option Addr), ∃ (sc2 : Nat), EnvOk 98 a [(1, .pointer (some ⟨r, 0, none⟩)), (3, .slice sb2 l.length sc2)] ∧ St w0 (Sl 5 ecU 1 sb2 sc2 l :: Blk r 45 [.int .i64 s.Kind, .int .i64 s.Jobs, .int .i64 s.Boxes, .int .i64 s.Room, .slice al_s.Acts_b s.Acts.length al_s.Acts_c] :: X_s :: As) w) (fun hk => ?_) ?_
 ·refine Runs.drawn mixed (by kernel_rfl) ?_
  replace H := H.drew
  refine WQ.d hE [0, 1, 2, 4, 5, 7, 8, 9, 10, 11, 12] [.int .i64 s.Kind, .int .i64 s.Jobs, .int .i64 s.Boxes, .int .i64 s.Room] [(10, .int .u8 (IntKind.wrap .u8 (s.Kind))), (13, .int .i64 s.Jobs), (17, .int .u8 (IntKind.wrap .u8 (s.Boxes))), (20, .int .u8 (IntKind.wrap .u8 (s.Room)))] (obs := [.cell ⟨r, 0, none⟩ (.int .i64 s.Kind), .cell ⟨r, 1, none⟩ (.int .i64 s.Jobs), .cell ⟨r, 2, none⟩ (.int .i64 s.Boxes), .cell ⟨r, 3, none⟩ (.int .i64 s.Room)]) ⟨H.cell 0 rfl rfl, H.cell 0 rfl rfl, H.cell 0 rfl rfl, H.cell 0 rfl rfl, trivial⟩ fun a hE => ?_
  refine WQ.act2 3 13 (by kernel_rfl) ?_ ?_
  ·refine AQ.eff (j := 3) (obs := [.cell ⟨r, 3, none⟩ (.int .i64 s.Room), .cell ⟨r, 2, none⟩ (.int .i64 s.Boxes), .cell ⟨r, 1, none⟩ (.int .i64 s.Jobs)]) hE rfl rfl rfl rfl (by kernel_rfl) (OpTo.buildSl (T := 5) hE H ecU_ok ([IntKind.wrap .u8 (s.Kind)] : List Int) rfl (fun _ => by kernel_rfl) rfl rfl rfl) ?_
   rintro _ w ⟨r3, rfl, H⟩
   refine ⟨⟨H.cell 1 rfl rfl, H.cell 1 rfl rfl, H.cell 1 rfl rfl, trivial⟩, fun a hE => ?_⟩
   refine WQ.act2 6 13 (by kernel_rfl) ?_ ?_
   ·refine AQ.eff (j := 6) (obs := [.cell ⟨r, 3, none⟩ (.int .i64 s.Room), .cell ⟨r, 2, none⟩ (.int .i64 s.Boxes)]) hE rfl rfl rfl rfl (by kernel_rfl) (OpTo.fn hE rfl rfl Tryz.call34 (thicketlaw28_two_ok et_ H)) ?_
    rintro _ w ⟨sb3, sc3, rfl, H⟩
    refine ⟨⟨H.cell 1 rfl rfl, H.cell 1 rfl rfl, trivial⟩, fun a hE => ?_⟩
    refine WQ.eff (j := 13) (obs := []) hE (by kernel_rfl) rfl rfl rfl rfl (by kernel_rfl) (OpTo.buildSl (T := 5) hE H ecU_ok ([IntKind.wrap .u8 (s.Boxes), IntKind.wrap .u8 (s.Room)] : List Int) rfl (fun _ => by kernel_rfl) rfl rfl rfl) ?_
    rintro _ w ⟨r4, rfl, H⟩
    refine ⟨trivial, fun a hE => ?_⟩
    replace H := H.t1
    refine WQ.eff (j := 14) (obs := []) hE (by kernel_rfl) rfl rfl rfl rfl (by kernel_rfl) (OpTo.appendM el hE H ecU_ok rfl rfl rfl rfl rfl rfl rfl rfl rfl rfl (SlRd.all (sl_rd 5 ecU 1 _ _ _) ecU_ok H 1 rfl) rfl) ?_
    rintro _ w ⟨sb4, sc4, rfl, H⟩
    refine ⟨trivial, fun a hE => ?_⟩
    refine WQ.d0 hE [15] [(3, .slice sb4 l.length sc4)] fun a hE => ?_
    refine WQ.done (by kernel_rfl) ?_
    exact hk _ _ ⟨sb4, sc4, hE.sel [1, 3] (by kernel_rfl), H.x1.t2.t2.t2⟩
   ·refine AQ.eff (j := 13) (obs := [.cell ⟨r, 1, none⟩ (.int .i64 s.Jobs)]) hE rfl rfl rfl rfl (by kernel_rfl) (OpTo.buildSl (T := 5) hE H ecU_ok ([IntKind.wrap .u8 (s.Boxes), IntKind.wrap .u8 (s.Room)] : List Int) rfl (fun _ => by kernel_rfl) rfl rfl rfl) ?_
    rintro _ w ⟨r5, rfl, H⟩
    refine ⟨⟨H.cell 2 rfl rfl, trivial⟩, fun a hE => ?_⟩
    refine WQ.eff (j := 6) (obs := []) hE (by kernel_rfl) rfl rfl rfl rfl (by kernel_rfl) (OpTo.fn hE rfl rfl Tryz.call34 (thicketlaw28_two_ok et_ H.t1)) ?_
    rintro _ w ⟨sb5, sc5, rfl, H⟩
    refine ⟨trivial, fun a hE => ?_⟩
    refine WQ.eff (j := 14) (obs := []) hE (by kernel_rfl) rfl rfl rfl rfl (by kernel_rfl) (OpTo.appendM el hE H ecU_ok rfl rfl rfl rfl rfl rfl rfl rfl rfl rfl (SlRd.all (sl_rd 5 ecU 1 _ _ _) ecU_ok H 1 rfl) rfl) ?_
    rintro _ w ⟨sb6, sc6, rfl, H⟩
    refine ⟨trivial, fun a hE => ?_⟩
    refine WQ.d0 hE [15] [(3, .slice sb6 l.length sc6)] fun a hE => ?_
    refine WQ.done (by kernel_rfl) ?_
    exact hk _ _ ⟨sb6, sc6, hE.sel [1, 3] (by kernel_rfl), H.x1.t2.t2.t2⟩
  ·refine AQ.eff (j := 13) (obs := [.cell ⟨r, 1, none⟩ (.int .i64 s.Jobs), .cell ⟨r, 0, none⟩ (.int .i64 s.Kind)]) hE rfl rfl rfl rfl (by kernel_rfl) (OpTo.buildSl (T := 5) hE H ecU_ok ([IntKind.wrap .u8 (s.Boxes), IntKind.wrap .u8 (s.Room)] : List Int) rfl (fun _ => by kernel_rfl) rfl rfl rfl) ?_
   rintro _ w ⟨r6, rfl, H⟩
   refine ⟨⟨H.cell 1 rfl rfl, H.cell 1 rfl rfl, trivial⟩, fun a hE => ?_⟩
   refine WQ.eff (j := 3) (obs := [.cell ⟨r, 1, none⟩ (.int .i64 s.Jobs)]) hE (by kernel_rfl) rfl rfl rfl rfl (by kernel_rfl) (OpTo.buildSl (T := 5) hE H ecU_ok ([IntKind.wrap .u8 (s.Kind)] : List Int) rfl (fun _ => by kernel_rfl) rfl rfl rfl) ?_
   rintro _ w ⟨r7, rfl, H⟩
   refine ⟨⟨H.cell 2 rfl rfl, trivial⟩, fun a hE => ?_⟩
   refine WQ.eff (j := 6) (obs := []) hE (by kernel_rfl) rfl rfl rfl rfl (by kernel_rfl) (OpTo.fn hE rfl rfl Tryz.call34 (thicketlaw28_two_ok et_ H)) ?_
   rintro _ w ⟨sb7, sc7, rfl, H⟩
   refine ⟨trivial, fun a hE => ?_⟩
   refine WQ.eff (j := 14) (obs := []) hE (by kernel_rfl) rfl rfl rfl rfl (by kernel_rfl) (OpTo.appendM el hE H ecU_ok rfl rfl rfl rfl rfl rfl rfl rfl rfl rfl (SlRd.all (sl_rd 5 ecU 1 _ _ _) ecU_ok H 1 rfl) rfl) ?_
   rintro _ w ⟨sb8, sc8, rfl, H⟩
   refine ⟨trivial, fun a hE => ?_⟩
   refine WQ.d0 hE [15] [(3, .slice sb8 l.length sc8)] fun a hE => ?_
   refine WQ.done (by kernel_rfl) ?_
   exact hk _ _ ⟨sb8, sc8, hE.sel [1, 3] (by kernel_rfl), H.x1.t2.t2.t2⟩
 rintro a w ⟨sb2, sc2, hE, H⟩
 refine Runs.seq ?_
 refine Runs.sr ?_
 refine WR.seg hE 1 [] [1, 3, 4] (Lo := [(1, .pointer (some ⟨r, 0, none⟩)), (3, .slice sb2 l.length sc2), (4, .int .i64 0)]) (obs := []) rfl (by kernel_rfl) trivial fun a hE => ?_
 refine WR.done rfl ?_
 obtain ⟨s1, es1, hm⟩ := bind_some hm
 refine Runs.join (fun a w => ∃ (sb10 : Option Addr), ∃ (sc10 : Nat), EnvOk 98 a [(3, .slice sb10 s1.length sc10)] ∧ St w0 (Sl 5 ecU 1 sb10 sc10 s1 :: X_s :: As) w) (fun hk => ?_) ?_
 ·replace hm := es1; clear es1
  refine Runs.block ?_
  refine Runs.loop (fun m a w => ∃ (b : List Int), ∃ (i : Int), ∃ (sb11 : Option Addr), ∃ (sc11 : Nat), EnvOk 98 a [(1, .pointer (some ⟨r, 0, none⟩)), (3, .slice sb11 b.length sc11), (4, .int .i64 i)] ∧ St w0 (Sl 5 ecU 1 sb11 sc11 b :: Blk r 45 [.int .i64 s.Kind, .int .i64 s.Jobs, .int .i64 s.Boxes, .int .i64 s.Room, .slice al_s.Acts_b s.Acts.length al_s.Acts_c] :: X_s :: As) w ∧ thicketlaw28_written_l0 s.Kind s.Jobs s.Boxes s.Room s.Acts m b i = some s1) k ⟨l, 0, sb2, sc2, hE.sel [1, 3, 4] (by kernel_rfl), H.t2.t2.t2, hm⟩ ?_
  rintro m ih a w ⟨b, i, sb11, sc11, hE, H, hm⟩
  cases m with
  | zero => simp [thicketlaw28_written_l0] at hm
  | succ m =>
   rw [thicketlaw28_written_l0] at hm
   refine Runs.seq ?_
   refine Runs.sr ?_
   refine WR.seg hE 5 [.slice al_s.Acts_b s.Acts.length al_s.Acts_c] [1, 3, 4, 27] (Lo := [(1, .pointer (some ⟨r, 0, none⟩)), (3, .slice sb11 b.length sc11), (4, .int .i64 i), (27, .bool (decide (i < (s.Acts.length : Int))))]) (obs := [.cell ⟨r, 4, none⟩ (.slice al_s.Acts_b s.Acts.length al_s.Acts_c)]) rfl (by kernel_rfl) ⟨H.cell 1 rfl rfl, trivial⟩ fun a hE => ?_
   refine WR.done rfl ?_
   refine Runs.cond hE rfl (fun c => ?_) (fun c => ?_)
   ·replace hm := cond_t c hm
    refine Runs.skip ?_
    refine Runs.seq ?_
    obtain ⟨s2, es2, hm⟩ := bind_some hm
    refine Runs.join (fun a w => ∃ (sb12 : Option Addr), ∃ (sc12 : Nat), EnvOk 98 a [(1, .pointer (some ⟨r, 0, none⟩)), (3, .slice sb12 s2.length sc12), (4, .int .i64 i)] ∧ St w0 (Sl 5 ecU 1 sb12 sc12 s2 :: Blk r 45 [.int .i64 s.Kind, .int .i64 s.Jobs, .int .i64 s.Boxes, .int .i64 s.Room, .slice al_s.Acts_b s.Acts.length al_s.Acts_c] :: X_s :: As) w) (fun hk => ?_) ?_
    ·replace hm := es2; clear es2
     refine Runs.block ?_
     refine Runs.sr ?_
     obtain ⟨x, ex, hm⟩ := bind_some hm
     obtain ⟨b1, o, hs, hb⟩ := SlRd.base hX_s_Acts api_Act.enc_ok H 2 rfl ex
     refine WR.d hE 5 [.slice al_s.Acts_b s.Acts.length al_s.Acts_c, .pointer (some ⟨b1, o, none⟩), .int .i64 x.Kind, .int .i64 x.Box, .int .i64 x.Command.Kind, .int .i64 x.Command.Queue, .int .i64 x.Command.Job.At, .int .i64 x.Command.Job.Gen, .int .i64 x.Command.Time, .int .i64 x.Command.Data] [(34, .agg #[.int .i64 x.Kind, .int .i64 x.Box, .int .i64 x.Command.Kind, .int .i64 x.Command.Queue, .int .i64 x.Command.Job.At, .int .i64 x.Command.Job.Gen, .int .i64 x.Command.Time, .int .i64 x.Command.Data])] (obs := [.cell ⟨r, 4, none⟩ (.slice al_s.Acts_b s.Acts.length al_s.Acts_c), .p ((al_s.Acts_b : Option Addr) = some ⟨b1, o, none⟩), .p (0 ≤ (i : Int) ∧ (i : Int) < ((s.Acts.length : Nat) : Int)), .cell ⟨b1, o + (Int.toNat i) * 8, none⟩ (.int .i64 x.Kind), .cell ⟨b1, o + (Int.toNat i) * 8 + 1, none⟩ (.int .i64 x.Box), .cell ⟨b1, o + (Int.toNat i) * 8 + 2, none⟩ (.int .i64 x.Command.Kind), .cell ⟨b1, o + (Int.toNat i) * 8 + 3, none⟩ (.int .i64 x.Command.Queue), .cell ⟨b1, o + (Int.toNat i) * 8 + 4, none⟩ (.int .i64 x.Command.Job.At), .cell ⟨b1, o + (Int.toNat i) * 8 + 5, none⟩ (.int .i64 x.Command.Job.Gen), .cell ⟨b1, o + (Int.toNat i) * 8 + 6, none⟩ (.int .i64 x.Command.Time), .cell ⟨b1, o + (Int.toNat i) * 8 + 7, none⟩ (.int .i64 x.Command.Data)]) ⟨H.cell 1 rfl rfl, hs, hb, SlRd.cells hX_s_Acts api_Act.enc_ok H 2 rfl hs ex 0 _ rfl, SlRd.cells hX_s_Acts api_Act.enc_ok H 2 rfl hs ex 1 _ rfl, SlRd.cells hX_s_Acts api_Act.enc_ok H 2 rfl hs ex 2 _ rfl, SlRd.cells hX_s_Acts api_Act.enc_ok H 2 rfl hs ex 3 _ rfl, SlRd.cells hX_s_Acts api_Act.enc_ok H 2 rfl hs ex 4 _ rfl, SlRd.cells hX_s_Acts api_Act.enc_ok H 2 rfl hs ex 5 _ rfl, SlRd.cells hX_s_Acts api_Act.enc_ok H 2 rfl hs ex 6 _ rfl, SlRd.cells hX_s_Acts api_Act.enc_ok H 2 rfl hs ex 7 _ rfl, trivial⟩ fun a hE => ?_
     refine WR.eff hE rfl rfl rfl rfl (OpTo.new hE H [] (.cells #[.int .i64 0, .int .i64 0, .int .i64 0, .int .i64 0, .int .i64 0, .int .i64 0, .int .i64 0, .int .i64 0] 42 (0, 0)) (fun r => .pointer (some ⟨r, 0, none⟩)) (obs := []) rfl (fun _ => by kernel_rfl) trivial) ?_
     rintro _ w ⟨r8, rfl, H⟩ a hE
     refine WR.eff0 hE rfl rfl rfl (OpTo.store hE H rfl rfl rfl rfl rfl rfl (Nat.le_of_ble_eq_true rfl)) ?_
     rintro _ w H a hE
     refine WR.done rfl ?_
     refine Runs.sr ?_
     refine WR.d hE 2 [.int .i64 x.Command.Kind, .int .i64 x.Command.Queue, .int .i64 x.Command.Job.At, .int .i64 x.Command.Job.Gen, .int .i64 x.Command.Time, .int .i64 x.Command.Data] [(36, .agg #[.int .i64 x.Command.Kind, .int .i64 x.Command.Queue, .int .i64 x.Command.Job.At, .int .i64 x.Command.Job.Gen, .int .i64 x.Command.Time, .int .i64 x.Command.Data])] (obs := [.cell ⟨r8, 2, none⟩ (.int .i64 x.Command.Kind), .cell ⟨r8, 3, none⟩ (.int .i64 x.Command.Queue), .cell ⟨r8, 4, none⟩ (.int .i64 x.Command.Job.At), .cell ⟨r8, 5, none⟩ (.int .i64 x.Command.Job.Gen), .cell ⟨r8, 6, none⟩ (.int .i64 x.Command.Time), .cell ⟨r8, 7, none⟩ (.int .i64 x.Command.Data)]) ⟨H.cell 0 rfl rfl, H.cell 0 rfl rfl, H.cell 0 rfl rfl, H.cell 0 rfl rfl, H.cell 0 rfl rfl, H.cell 0 rfl rfl, trivial⟩ fun a hE => ?_
     refine WR.eff hE rfl rfl rfl rfl (OpTo.new hE H [] (.cells #[.int .i64 0, .int .i64 0, .int .i64 0, .int .i64 0, .int .i64 0, .int .i64 0] 33 (0, 0)) (fun r => .pointer (some ⟨r, 0, none⟩)) (obs := []) rfl (fun _ => by kernel_rfl) trivial) ?_
     rintro _ w ⟨r9, rfl, H⟩ a hE
     refine WR.eff0 hE rfl rfl rfl (OpTo.store hE H rfl rfl rfl rfl rfl rfl (Nat.le_of_ble_eq_true rfl)) ?_
     rintro _ w H a hE
     refine WR.done rfl ?_
     refine Runs.sr ?_
     refine WR.d hE 4 [.int .i64 x.Kind] [(37, .slice sb11 b.length sc11), (40, .int .u8 (IntKind.wrap .u8 (x.Kind)))] (obs := [.cell ⟨r8, 0, none⟩ (.int .i64 x.Kind)]) ⟨H.cell 1 rfl rfl, trivial⟩ fun a hE => ?_
     refine WR.eff hE rfl rfl rfl rfl (OpTo.buildSl (T := 5) hE H ecU_ok ([IntKind.wrap .u8 (x.Kind)] : List Int) rfl (fun _ => by kernel_rfl) rfl rfl rfl) ?_
     rintro _ w ⟨r10, rfl, H⟩ a hE
     obtain ⟨l2, el2, hm⟩ := bind_some hm
     replace H := H.t3
     refine WR.eff hE rfl rfl rfl rfl (OpTo.appendM el2 hE H ecU_ok rfl rfl rfl rfl rfl rfl rfl rfl rfl rfl (SlRd.all (sl_rd 5 ecU 1 _ _ _) ecU_ok H 1 rfl) rfl) ?_
     rintro _ w ⟨sb13, sc13, rfl, H⟩ a hE
     refine WR.e0 hE [(3, .slice sb13 l2.length sc13)] fun a hE => ?_
     refine Runs.seq ?_
     refine Runs.sr ?_
     refine WR.e hE [.int .i64 x.Kind] [(45, .bool (x.Kind == 1))] (obs := [.cell ⟨r8, 0, none⟩ (.int .i64 x.Kind)]) ⟨H.cell 3 rfl rfl, trivial⟩ fun a hE => ?_
     obtain ⟨s3, es3, hm⟩ := bind_some hm
     refine Runs.join (fun a w => ∃ (sb14 : Option Addr), ∃ (sc14 : Nat), EnvOk 98 a [(1, .pointer (some ⟨r, 0, none⟩)), (3, .slice sb14 s3.length sc14), (4, .int .i64 i), (5, .pointer (some ⟨r8, 0, none⟩)), (6, .pointer (some ⟨r9, 0, none⟩))] ∧ St w0 (Sl 5 ecU 1 sb14 sc14 s3 :: Blk r9 33 [.int .i64 x.Command.Kind, .int .i64 x.Command.Queue, .int .i64 x.Command.Job.At, .int .i64 x.Command.Job.Gen, .int .i64 x.Command.Time, .int .i64 x.Command.Data] :: Blk r8 42 [.int .i64 x.Kind, .int .i64 x.Box, .int .i64 x.Command.Kind, .int .i64 x.Command.Queue, .int .i64 x.Command.Job.At, .int .i64 x.Command.Job.Gen, .int .i64 x.Command.Time, .int .i64 x.Command.Data] :: Blk r 45 [.int .i64 s.Kind, .int .i64 s.Jobs, .int .i64 s.Boxes, .int .i64 s.Room, .slice al_s.Acts_b s.Acts.length al_s.Acts_c] :: X_s :: As) w) (fun hk => ?_) ?_
     ·replace hm := es3; clear es3
      refine Runs.cond hE rfl (fun c => ?_) (fun c => ?_)
      ·replace hm := cond_t c hm
       refine Runs.region ?_
       refine WR.d hE 4 [.int .i64 x.Box] [(46, .slice sb13 l2.length sc13), (49, .int .u8 (IntKind.wrap .u8 (x.Box)))] (obs := [.cell ⟨r8, 1, none⟩ (.int .i64 x.Box)]) ⟨H.cell 3 rfl rfl, trivial⟩ fun a hE => ?_
       refine WR.eff hE rfl rfl rfl rfl (OpTo.buildSl (T := 5) hE H ecU_ok ([IntKind.wrap .u8 (x.Box)] : List Int) rfl (fun _ => by kernel_rfl) rfl rfl rfl) ?_
       rintro _ w ⟨r11, rfl, H⟩ a hE
       obtain ⟨l3, el3, hm⟩ := bind_some hm
       replace H := H.t1
       refine WR.eff hE rfl rfl rfl rfl (OpTo.appendM el3 hE H ecU_ok rfl rfl rfl rfl rfl rfl rfl rfl rfl rfl (SlRd.all (sl_rd 5 ecU 1 _ _ _) ecU_ok H 1 rfl) rfl) ?_
       rintro _ w ⟨sb15, sc15, rfl, H⟩ a hE
       refine WR.e0 hE [(3, .slice sb15 l3.length sc15)] fun a hE => ?_
       cases hm
       exact hk _ _ ⟨sb15, sc15, hE.sel [1, 3, 4, 5, 6] (by kernel_rfl), H.x2.x1.t4.t4.t4.t4.t4⟩
      ·replace hm := cond_f c hm
       refine Runs.skip ?_
       cases hm
       exact hk _ _ ⟨sb13, sc13, hE.sel [1, 3, 4, 5, 6] (by kernel_rfl), H.x1.t4.t4.t4.t4.t4⟩
     rintro a w ⟨sb14, sc14, hE, H⟩
     refine Runs.seq ?_
     refine Runs.seq ?_
     refine Runs.join (fun a w => EnvOk 98 a [(1, .pointer (some ⟨r, 0, none⟩)), (3, .slice sb14 s3.length sc14), (4, .int .i64 i), (6, .pointer (some ⟨r9, 0, none⟩)), (59, .bool ((x.Kind != 1) && (x.Kind != 3)))] ∧ St w0 (Sl 5 ecU 1 sb14 sc14 s3 :: Blk r9 33 [.int .i64 x.Command.Kind, .int .i64 x.Command.Queue, .int .i64 x.Command.Job.At, .int .i64 x.Command.Job.Gen, .int .i64 x.Command.Time, .int .i64 x.Command.Data] :: Blk r8 42 [.int .i64 x.Kind, .int .i64 x.Box, .int .i64 x.Command.Kind, .int .i64 x.Command.Queue, .int .i64 x.Command.Job.At, .int .i64 x.Command.Job.Gen, .int .i64 x.Command.Time, .int .i64 x.Command.Data] :: Blk r 45 [.int .i64 s.Kind, .int .i64 s.Jobs, .int .i64 s.Boxes, .int .i64 s.Room, .slice al_s.Acts_b s.Acts.length al_s.Acts_c] :: X_s :: As) w) (fun hk => ?_) ?_
     ·clear hm
      refine Runs.region ?_
      refine WR.seg hE 4 [.int .i64 x.Kind] [1, 3, 4, 5, 6, 55] (Lo := [(1, .pointer (some ⟨r, 0, none⟩)), (3, .slice sb14 s3.length sc14), (4, .int .i64 i), (5, .pointer (some ⟨r8, 0, none⟩)), (6, .pointer (some ⟨r9, 0, none⟩)), (55, .bool (x.Kind != 1))]) (obs := [.cell ⟨r8, 0, none⟩ (.int .i64 x.Kind)]) rfl (by kernel_rfl) ⟨H.cell 2 rfl rfl, trivial⟩ fun a hE => ?_
      rcases Bool.eq_false_or_eq_true (x.Kind != 1) with c | c
      ·replace hE := hE.dec 55 c (by kernel_rfl)
       have c_ := c
       refine WR.e hE [.int .i64 x.Kind] [(59, .bool (x.Kind != 3))] (obs := [.cell ⟨r8, 0, none⟩ (.int .i64 x.Kind)]) ⟨H.cell 2 rfl rfl, trivial⟩ fun a hE => ?_
       refine hk _ _ ⟨?_, H.t4.t4.t4.t4.t4⟩
       try rw [c_] at hE
       try rw [c_]
       exact hE.sel [1, 3, 4, 6, 59] (by kernel_rfl)
      ·replace hE := hE.dec 55 c (by kernel_rfl)
       have c_1 := c
       refine WR.e0 hE [(59, .bool false)] fun a hE => ?_
       refine hk _ _ ⟨?_, H.t4.t4.t4.t4.t4⟩
       try rw [c_1] at hE
       try rw [c_1]
       exact hE.sel [1, 3, 4, 6, 59] (by kernel_rfl)
     rintro a w ⟨hE, H⟩
     refine Runs.cond hE rfl (fun c => ?_) (fun c => ?_)
     ·replace hm := cond_t c hm
      refine Runs.exit rfl ?_
      cases hm
      exact hk _ _ ⟨sb14, sc14, hE.sel [1, 3, 4] (by kernel_rfl), H.x2.x1.t2.t2.t2⟩
     ·replace hm := cond_f c hm
      refine Runs.skip ?_
      refine Runs.seq ?_
      refine Runs.drawn mixed (by kernel_rfl) ?_
      replace H := H.drew
      refine WQ.seg hE [0, 1, 2, 3, 4, 5, 6, 9, 10, 11, 13, 14, 15] [.int .i64 x.Command.Kind, .int .i64 x.Command.Queue, .int .i64 x.Command.Job.At, .int .i64 x.Command.Job.Gen] [1, 3, 4, 6, 60, 63, 66, 71, 75] (Lo := [(1, .pointer (some ⟨r, 0, none⟩)), (3, .slice sb14 s3.length sc14), (4, .int .i64 i), (6, .pointer (some ⟨r9, 0, none⟩)), (60, .slice sb14 s3.length sc14), (63, .int .u8 (IntKind.wrap .u8 (x.Command.Kind))), (66, .int .u8 (IntKind.wrap .u8 (x.Command.Queue))), (71, .int .i64 x.Command.Job.At), (75, .int .i64 x.Command.Job.Gen)]) (obs := [.cell ⟨r9, 0, none⟩ (.int .i64 x.Command.Kind), .cell ⟨r9, 1, none⟩ (.int .i64 x.Command.Queue), .cell ⟨r9, 2, none⟩ (.int .i64 x.Command.Job.At), .cell ⟨r9, 3, none⟩ (.int .i64 x.Command.Job.Gen)]) (by kernel_rfl) (by kernel_rfl) ⟨H.cell 1 rfl rfl, H.cell 1 rfl rfl, H.cell 1 rfl rfl, H.cell 1 rfl rfl, trivial⟩ fun a hE => ?_
      refine WQ.eff (j := 7) (obs := [.cell ⟨r9, 3, none⟩ (.int .i64 x.Command.Job.Gen), .cell ⟨r9, 2, none⟩ (.int .i64 x.Command.Job.At)]) hE (by kernel_rfl) rfl rfl rfl rfl (by kernel_rfl) (OpTo.buildSl (T := 5) hE H ecU_ok ([IntKind.wrap .u8 (x.Command.Kind), IntKind.wrap .u8 (x.Command.Queue)] : List Int) rfl (fun _ => by kernel_rfl) rfl rfl rfl) ?_
      rintro _ w ⟨r12, rfl, H⟩
      refine ⟨⟨H.cell 2 rfl rfl, H.cell 2 rfl rfl, trivial⟩, fun a hE => ?_⟩
      obtain ⟨l4, el4, hm⟩ := bind_some hm
      replace H := H.t1
      refine WQ.eff (j := 8) (obs := [.cell ⟨r9, 3, none⟩ (.int .i64 x.Command.Job.Gen), .cell ⟨r9, 2, none⟩ (.int .i64 x.Command.Job.At)]) hE (by kernel_rfl) rfl rfl rfl rfl (by kernel_rfl) (OpTo.appendM el4 hE H ecU_ok rfl rfl rfl rfl rfl rfl rfl rfl rfl rfl (SlRd.all (sl_rd 5 ecU 1 _ _ _) ecU_ok H 1 rfl) rfl) ?_
      rintro _ w ⟨sb16, sc16, rfl, H⟩
      refine ⟨⟨H.cell 2 rfl rfl, H.cell 2 rfl rfl, trivial⟩, fun a hE => ?_⟩
      obtain ⟨t_1, et_1, hm⟩ := bind_some hm
      refine WQ.eff (j := 12) (obs := [.cell ⟨r9, 3, none⟩ (.int .i64 x.Command.Job.Gen)]) hE (by kernel_rfl) rfl rfl rfl rfl (by kernel_rfl) (OpTo.fn hE rfl rfl Tryz.call34 (thicketlaw28_two_ok et_1 H)) ?_
      rintro _ w ⟨sb17, sc17, rfl, H⟩
      refine ⟨⟨H.cell 2 rfl rfl, trivial⟩, fun a hE => ?_⟩
      obtain ⟨t_2, et_2, hm⟩ := bind_some hm
      refine WQ.eff (j := 16) (obs := []) hE (by kernel_rfl) rfl rfl rfl rfl (by kernel_rfl) (OpTo.fn hE rfl rfl Tryz.call34 (thicketlaw28_two_ok et_2 H)) ?_
      rintro _ w ⟨sb18, sc18, rfl, H⟩
      refine ⟨trivial, fun a hE => ?_⟩
      refine WQ.d0 hE [17] [(3, .slice sb18 t_2.length sc18)] fun a hE => ?_
      refine WQ.done (by kernel_rfl) ?_
      refine Runs.seq ?_
      refine Runs.sr ?_
      refine WR.e0 hE [(7, .int .i64 0)] fun a hE => ?_
      obtain ⟨s4, es4, hm⟩ := bind_some hm
      refine Runs.join (fun a w => ∃ (sb20 : Option Addr), ∃ (sc20 : Nat), EnvOk 98 a [(1, .pointer (some ⟨r, 0, none⟩)), (3, .slice sb20 s4.length sc20), (4, .int .i64 i), (6, .pointer (some ⟨r9, 0, none⟩))] ∧ St w0 (Sl 5 ecU 1 sb20 sc20 s4 :: Blk r9 33 [.int .i64 x.Command.Kind, .int .i64 x.Command.Queue, .int .i64 x.Command.Job.At, .int .i64 x.Command.Job.Gen, .int .i64 x.Command.Time, .int .i64 x.Command.Data] :: Blk r 45 [.int .i64 s.Kind, .int .i64 s.Jobs, .int .i64 s.Boxes, .int .i64 s.Room, .slice al_s.Acts_b s.Acts.length al_s.Acts_c] :: X_s :: As) w) (fun hk => ?_) ?_
      ·replace hm := es4; clear es4
       refine Runs.block ?_
       refine Runs.loop (fun m a w => ∃ (b2 : List Int), ∃ (k_ : Int), ∃ (sb21 : Option Addr), ∃ (sc21 : Nat), EnvOk 98 a [(1, .pointer (some ⟨r, 0, none⟩)), (3, .slice sb21 b2.length sc21), (4, .int .i64 i), (6, .pointer (some ⟨r9, 0, none⟩)), (7, .int .i64 k_)] ∧ St w0 (Sl 5 ecU 1 sb21 sc21 b2 :: Blk r9 33 [.int .i64 x.Command.Kind, .int .i64 x.Command.Queue, .int .i64 x.Command.Job.At, .int .i64 x.Command.Job.Gen, .int .i64 x.Command.Time, .int .i64 x.Command.Data] :: Blk r 45 [.int .i64 s.Kind, .int .i64 s.Jobs, .int .i64 s.Boxes, .int .i64 s.Room, .slice al_s.Acts_b s.Acts.length al_s.Acts_c] :: X_s :: As) w ∧ thicketlaw28_written_l1 i x.Command.Kind x.Command.Queue x.Command.Job.At x.Command.Job.Gen x.Command.Time x.Command.Data s.Kind s.Jobs s.Boxes s.Room s.Acts m b2 k_ = some s4) m ⟨t_2, 0, sb18, sc18, hE.sel [1, 3, 4, 6, 7] (by kernel_rfl), H.x3.x1.t3.t3.t3.t3, hm⟩ ?_
       rintro m ih a w ⟨b2, k_, sb21, sc21, hE, H, hm⟩
       cases m with
       | zero => simp [thicketlaw28_written_l1] at hm
       | succ m =>
        rw [thicketlaw28_written_l1] at hm
        refine Runs.seq ?_
        refine Runs.sr ?_
        refine WR.seg hE 2 [] [1, 3, 4, 6, 7, 78] (Lo := [(1, .pointer (some ⟨r, 0, none⟩)), (3, .slice sb21 b2.length sc21), (4, .int .i64 i), (6, .pointer (some ⟨r9, 0, none⟩)), (7, .int .i64 k_), (78, .bool (decide (k_ < 8)))]) (obs := []) rfl (by kernel_rfl) trivial fun a hE => ?_
        refine WR.done rfl ?_
        refine Runs.cond hE rfl (fun c => ?_) (fun c => ?_)
        ·replace hm := cond_t c hm
         refine Runs.skip ?_
         refine Runs.seq ?_
         refine Runs.block ?_
         refine Runs.region ?_
         obtain ⟨u, eu, hm⟩ := bind_some hm
         refine WR.d hE 10 [.int .i64 x.Command.Time] [(81, .slice sb21 b2.length sc21), (90, .int .u8 (IntKind.wrap .u8 (Int.fdiv (IntKind.wrap .u64 (x.Command.Time)) (2 ^ (min (Int.toNat (IntKind.wrap .u64 (w64 (56 - (w64 (8 * k_)))))) 64)))))] (obs := [.cell ⟨r9, 4, none⟩ (.int .i64 x.Command.Time), .p (0 ≤ IntKind.wrap .u64 (w64 (56 - (w64 (8 * k_)))))]) ⟨H.cell 1 rfl rfl, (nn_spec eu), trivial⟩ fun a hE => ?_
         refine WR.eff hE rfl rfl rfl rfl (OpTo.buildSl (T := 5) hE H ecU_ok ([IntKind.wrap .u8 (Int.fdiv (IntKind.wrap .u64 (x.Command.Time)) (2 ^ (min (Int.toNat (IntKind.wrap .u64 (w64 (56 - (w64 (8 * k_)))))) 64)))] : List Int) rfl (fun _ => by kernel_rfl) rfl rfl rfl) ?_
         rintro _ w ⟨r13, rfl, H⟩ a hE
         obtain ⟨l6, el6, hm⟩ := bind_some hm
         replace H := H.t1
         refine WR.eff hE rfl rfl rfl rfl (OpTo.appendM el6 hE H ecU_ok rfl rfl rfl rfl rfl rfl rfl rfl rfl rfl (SlRd.all (sl_rd 5 ecU 1 _ _ _) ecU_ok H 1 rfl) rfl) ?_
         rintro _ w ⟨sb22, sc22, rfl, H⟩ a hE
         refine WR.e0 hE [(3, .slice sb22 l6.length sc22)] fun a hE => ?_
         refine Runs.inBlock ?_
         refine Runs.region ?_
         refine WR.e0 hE [(7, .int .i64 (w64 (k_ + 1)))] fun a hE => ?_
         exact ih m (Nat.lt_succ_self m) _ _ ⟨l6, w64 (k_ + 1), sb22, sc22, hE.sel [1, 3, 4, 6, 7] (by kernel_rfl), H.x1.t3.t3.t3.t3, hm⟩
        ·replace hm := cond_f c hm
         refine Runs.exit rfl ?_
         cases hm
         exact hk _ _ ⟨sb21, sc21, hE.sel [1, 3, 4, 6] (by kernel_rfl), H.t3.t3.t3.t3⟩
      rintro a w ⟨sb20, sc20, hE, H⟩
      refine Runs.region ?_
      refine WR.seg hE 3 [.int .i64 x.Command.Data] [1, 3, 4, 93, 95] (Lo := [(1, .pointer (some ⟨r, 0, none⟩)), (3, .slice sb20 s4.length sc20), (4, .int .i64 i), (93, .slice sb20 s4.length sc20), (95, .int .i64 x.Command.Data)]) (obs := [.cell ⟨r9, 5, none⟩ (.int .i64 x.Command.Data)]) rfl (by kernel_rfl) ⟨H.cell 1 rfl rfl, trivial⟩ fun a hE => ?_
      obtain ⟨t_3, et_3, hm⟩ := bind_some hm
      refine WR.eff hE rfl rfl rfl rfl (OpTo.fn hE rfl rfl Tryz.call34 (thicketlaw28_two_ok et_3 H)) ?_
      rintro _ w ⟨sb23, sc23, rfl, H⟩ a hE
      refine WR.e0 hE [(3, .slice sb23 t_3.length sc23)] fun a hE => ?_
      refine Runs.inBlock ?_
      cases hm
      exact hk _ _ ⟨sb23, sc23, hE.sel [1, 3, 4] (by kernel_rfl), H.x1.t2.t2.t2⟩
    rintro a w ⟨sb12, sc12, hE, H⟩
    refine Runs.region ?_
    refine WR.seg hE 3 [] [1, 3, 4] (Lo := [(1, .pointer (some ⟨r, 0, none⟩)), (3, .slice sb12 s2.length sc12), (4, .int .i64 (w64 (i + 1)))]) (obs := []) rfl (by kernel_rfl) trivial fun a hE => ?_
    refine WR.done rfl ?_
    exact ih m (Nat.lt_succ_self m) _ _ ⟨s2, w64 (i + 1), sb12, sc12, hE.sel [1, 3, 4] (by kernel_rfl), H.t2.t2.t2, hm⟩
   ·replace hm := cond_f c hm
    refine Runs.exit rfl ?_
    cases hm
    exact hk _ _ ⟨sb11, sc11, hE.sel [3] (by kernel_rfl), H.x1.t1.t1⟩
 rintro a w ⟨sb10, sc10, hE, H⟩
 refine Runs.sr ?_
 refine WR.seg hE 2 [] [2] (Lo := [(2, .slice sb10 s1.length sc10)]) (obs := []) rfl (by kernel_rfl) trivial fun a hE => ?_
 refine WR.done rfl ?_
 refine Runs.ret hE Tryz.func15 rfl rfl ?_
 cases hm
 exact ⟨sb10, sc10, rfl, H.t1.t1⟩

theorem shell_in_ok {w0 w : World} {As : List HP} {k : Nat} {most : Int} {sb_l : Option Addr} {sc_l : Nat} {l : List Int} {X_l : HP} {t : Bool} (hX_l : SlRd X_l ecI 1 sb_l l) (hC_l : l.length ≤ sc_l) (hm : shell_in k most l = some t) (H : St w0 (X_l :: As) w) :
    CallsR Tryz.prog 35 #[.int .i64 most, .slice sb_l l.length sc_l] w fun v w' => v = .bool t ∧ St w0 (X_l :: As) w' := by
 rw [shell_in] at hm
 refine enter (args := [.int .i64 most, .slice sb_l l.length sc_l]) Tryz.func35 rfl rfl rfl fun a hE => ?_
 refine Runs.sr ?_
 refine WR.seg hE 1 [] [0, 1] (Lo := [(0, .int .i64 most), (1, .slice sb_l l.length sc_l)]) (obs := []) rfl (by kernel_rfl) trivial fun a hE => ?_
 refine WR.done rfl ?_
 refine Runs.seq ?_
 refine Runs.sr ?_
 refine WR.e0 hE [(7, .slice sb_l l.length sc_l), (8, .int .i64 (l.length : Int)), (9, .int .i64 0)] fun a hE => ?_
 obtain ⟨s, es, hR⟩ := bind_some hm
 refine Runs.join (fun a w => ∃ s1, s = Sum.inr s1 ∧ EnvOk 21 a [] ∧ St w0 (X_l :: As) w) (fun hk => ?_) ?_
 ·replace hm := es; clear es
  refine Runs.block ?_
  refine Runs.loop (fun m a w => ∃ (x : Int), EnvOk 21 a [(0, .int .i64 most), (7, .slice sb_l l.length sc_l), (8, .int .i64 (l.length : Int)), (9, .int .i64 x)] ∧ St w0 (X_l :: As) w ∧ shell_in_l0 most (l.length : Int) l m x = some s) k ⟨0, hE.sel [0, 7, 8, 9] (by kernel_rfl), H, hm⟩ ?_
  rintro m ih a w ⟨x, hE, H, hm⟩
  cases m with
  | zero => simp [shell_in_l0] at hm
  | succ m =>
   rw [shell_in_l0] at hm
   refine Runs.sr ?_
   refine WR.seg hE 1 [] [0, 7, 8, 9, 10] (Lo := [(0, .int .i64 most), (7, .slice sb_l l.length sc_l), (8, .int .i64 (l.length : Int)), (9, .int .i64 x), (10, .bool (decide (x < (l.length : Int))))]) (obs := []) rfl (by kernel_rfl) trivial fun a hE => ?_
   refine WR.done rfl ?_
   refine Runs.seq ?_
   refine Runs.cond hE rfl (fun c => ?_) (fun c => ?_)
   ·replace hm := cond_t c hm
    refine Runs.skip ?_
    refine Runs.seq ?_
    refine Runs.block ?_
    refine Runs.sr ?_
    obtain ⟨x2, ex2, hm⟩ := bind_some hm
    obtain ⟨b, o, hs, hb⟩ := SlRd.base hX_l ecI_ok H 0 rfl ex2
    refine WR.e hE [.pointer (some ⟨b, o, none⟩), .int .i64 x2] [(6, .int .i64 x2)] (obs := [.p ((sb_l : Option Addr) = some ⟨b, o, none⟩), .p (0 ≤ (x : Int) ∧ (x : Int) < ((l.length : Nat) : Int)), .cell ⟨b, o + (Int.toNat x) * 1, none⟩ (.int .i64 x2)]) ⟨hs, hb, SlRd.cells hX_l ecI_ok H 0 rfl hs ex2 0 _ rfl, trivial⟩ fun a hE => ?_
    refine Runs.seq ?_
    refine Runs.join (fun a w => EnvOk 21 a [(0, .int .i64 most), (7, .slice sb_l l.length sc_l), (8, .int .i64 (l.length : Int)), (9, .int .i64 x), (19, .bool ((decide (x2 < 0)) || (decide (x2 > most))))] ∧ St w0 (X_l :: As) w) (fun hk => ?_) ?_
    ·clear hm
     refine Runs.region ?_
     refine WR.d0 hE 3 [(15, .bool (decide (x2 < 0)))] fun a hE => ?_
     rcases Bool.eq_false_or_eq_true (decide (x2 < 0)) with c | c
     ·replace hE := hE.dec 15 c (by kernel_rfl)
      have c_ := c
      refine WR.e0 hE [(19, .bool true)] fun a hE => ?_
      refine hk _ _ ⟨?_, H⟩
      try rw [c_] at hE
      try rw [c_]
      exact hE.sel [0, 7, 8, 9, 19] (by kernel_rfl)
     ·replace hE := hE.dec 15 c (by kernel_rfl)
      have c_1 := c
      refine WR.e0 hE [(19, .bool (decide (x2 > most)))] fun a hE => ?_
      refine hk _ _ ⟨?_, H⟩
      try rw [c_1] at hE
      try rw [c_1]
      exact hE.sel [0, 7, 8, 9, 19] (by kernel_rfl)
    rintro a w ⟨hE, H⟩
    refine Runs.cond hE rfl (fun c => ?_) (fun c => ?_)
    ·replace hm := cond_t c hm
     refine Runs.sr ?_
     refine WR.seg hE 1 [] [4] (Lo := [(4, .bool false)]) (obs := []) rfl (by kernel_rfl) trivial fun a hE => ?_
     refine WR.done rfl ?_
     refine Runs.ret hE Tryz.func35 rfl rfl ?_
     cases hm
     dsimp only at hR; cases hR
     exact ⟨rfl, H⟩
    ·replace hm := cond_f c hm
     refine Runs.skip ?_
     refine Runs.inBlock ?_
     refine Runs.region ?_
     refine WR.seg hE 2 [] [0, 7, 8, 9] (Lo := [(0, .int .i64 most), (7, .slice sb_l l.length sc_l), (8, .int .i64 (l.length : Int)), (9, .int .i64 (w64 (x + 1)))]) (obs := []) rfl (by kernel_rfl) trivial fun a hE => ?_
     refine WR.done rfl ?_
     exact ih m (Nat.lt_succ_self m) _ _ ⟨w64 (x + 1), hE.sel [0, 7, 8, 9] (by kernel_rfl), H, hm⟩
   ·replace hm := cond_f c hm
    refine Runs.exit rfl ?_
    cases hm
    exact hk _ _ ⟨_, rfl, hE.sel [] (by kernel_rfl), H⟩
 rintro a w ⟨s1, rfl, hE, H⟩
 replace hm := hR; dsimp only at hm
 refine Runs.sr ?_
 refine WR.seg hE 1 [] [4] (Lo := [(4, .bool true)]) (obs := []) rfl (by kernel_rfl) trivial fun a hE => ?_
 refine WR.done rfl ?_
 refine Runs.ret hE Tryz.func35 rfl rfl ?_
 cases hm
 exact ⟨rfl, H⟩

theorem shell_number_ok {w0 w : World} {As : List HP} {k : Nat} {sb_b : Option Addr} {sc_b : Nat} {b : List Int} {n : Int} {bytes : Int} {t : (List Int)}  (hm : shell_number k b n bytes = some t) (H : St w0 (Sl 5 ecU 1 sb_b sc_b b :: As) w) :
    CallsR Tryz.prog 36 #[.slice sb_b b.length sc_b, .int .u64 n, .int .i64 bytes] w fun v w' => ∃ (sb0 : Option Addr), ∃ (sc0 : Nat), v = .slice sb0 t.length sc0 ∧ St w0 (Sl 5 ecU 1 sb0 sc0 t :: As) w' := by
 rw [shell_number] at hm
 refine enter (args := [.slice sb_b b.length sc_b, .int .u64 n, .int .i64 bytes]) Tryz.func36 rfl rfl rfl fun a hE => ?_
 refine Runs.sr ?_
 refine WR.seg hE 1 [] [0, 1, 2] (Lo := [(0, .slice sb_b b.length sc_b), (1, .int .u64 n), (2, .int .i64 bytes)]) (obs := []) rfl (by kernel_rfl) trivial fun a hE => ?_
 refine WR.done rfl ?_
 refine Runs.seq ?_
 refine Runs.sr ?_
 refine WR.e0 hE [(7, .int .i64 (w64 (bytes - 1)))] fun a hE => ?_
 obtain ⟨s, es, hm⟩ := bind_some hm
 refine Runs.join (fun a w => ∃ (sb1 : Option Addr), ∃ (sc1 : Nat), EnvOk 23 a [(0, .slice sb1 s.length sc1)] ∧ St w0 (Sl 5 ecU 1 sb1 sc1 s :: As) w) (fun hk => ?_) ?_
 ·replace hm := es; clear es
  refine Runs.block ?_
  refine Runs.loop (fun m a w => ∃ (b1 : List Int), ∃ (k_ : Int), ∃ (sb2 : Option Addr), ∃ (sc2 : Nat), EnvOk 23 a [(0, .slice sb2 b1.length sc2), (1, .int .u64 n), (7, .int .i64 k_)] ∧ St w0 (Sl 5 ecU 1 sb2 sc2 b1 :: As) w ∧ shell_number_l0 n m b1 k_ = some s) k ⟨b, w64 (bytes - 1), sb_b, sc_b, hE.sel [0, 1, 7] (by kernel_rfl), H, hm⟩ ?_
  rintro m ih a w ⟨b1, k_, sb2, sc2, hE, H, hm⟩
  cases m with
  | zero => simp [shell_number_l0] at hm
  | succ m =>
   rw [shell_number_l0] at hm
   refine Runs.seq ?_
   refine Runs.sr ?_
   refine WR.seg hE 2 [] [0, 1, 7, 11] (Lo := [(0, .slice sb2 b1.length sc2), (1, .int .u64 n), (7, .int .i64 k_), (11, .bool (decide (k_ ≥ 0)))]) (obs := []) rfl (by kernel_rfl) trivial fun a hE => ?_
   refine WR.done rfl ?_
   refine Runs.cond hE rfl (fun c => ?_) (fun c => ?_)
   ·replace hm := cond_t c hm
    refine Runs.skip ?_
    refine Runs.seq ?_
    refine Runs.block ?_
    refine Runs.region ?_
    obtain ⟨u, eu, hm⟩ := bind_some hm
    refine WR.d hE 6 [] [(14, .slice sb2 b1.length sc2), (19, .int .u8 (IntKind.wrap .u8 (Int.fdiv n (2 ^ (min (Int.toNat (w64 (8 * k_))) 64)))))] (obs := [.p (0 ≤ w64 (8 * k_))]) ⟨(nn_spec eu), trivial⟩ fun a hE => ?_
    refine WR.eff hE rfl rfl rfl rfl (OpTo.buildSl (T := 5) hE H ecU_ok ([IntKind.wrap .u8 (Int.fdiv n (2 ^ (min (Int.toNat (w64 (8 * k_))) 64)))] : List Int) rfl (fun _ => by kernel_rfl) rfl rfl rfl) ?_
    rintro _ w ⟨r, rfl, H⟩ a hE
    obtain ⟨l, el, hm⟩ := bind_some hm
    replace H := H.t1
    refine WR.eff hE rfl rfl rfl rfl (OpTo.appendM el hE H ecU_ok rfl rfl rfl rfl rfl rfl rfl rfl rfl rfl (SlRd.all (sl_rd 5 ecU 1 _ _ _) ecU_ok H 1 rfl) rfl) ?_
    rintro _ w ⟨sb3, sc3, rfl, H⟩ a hE
    refine WR.e0 hE [(0, .slice sb3 l.length sc3)] fun a hE => ?_
    refine Runs.inBlock ?_
    refine Runs.region ?_
    refine WR.e0 hE [(7, .int .i64 (w64 (k_ - 1)))] fun a hE => ?_
    exact ih m (Nat.lt_succ_self m) _ _ ⟨l, w64 (k_ - 1), sb3, sc3, hE.sel [0, 1, 7] (by kernel_rfl), H.x1, hm⟩
   ·replace hm := cond_f c hm
    refine Runs.exit rfl ?_
    cases hm
    exact hk _ _ ⟨sb2, sc2, hE.sel [0] (by kernel_rfl), H⟩
 rintro a w ⟨sb1, sc1, hE, H⟩
 refine Runs.sr ?_
 refine WR.seg hE 2 [] [6] (Lo := [(6, .slice sb1 s.length sc1)]) (obs := []) rfl (by kernel_rfl) trivial fun a hE => ?_
 refine WR.done rfl ?_
 refine Runs.ret hE Tryz.func36 rfl rfl ?_
 cases hm
 exact ⟨sb1, sc1, rfl, H⟩

theorem shell_asks_ok {w0 w : World} {As : List HP} {kind : Int} {t : Bool}  (hm : shell_asks kind = some t) (H : St w0 (As) w) :
    CallsR Tryz.prog 65 #[.int .i64 kind] w fun v w' => v = .bool t ∧ St w0 (As) w' := by
 rw [shell_asks] at hm
 refine enter (args := [.int .i64 kind]) Tryz.func65 rfl rfl rfl fun a hE => ?_
 refine Runs.sr ?_
 refine WR.seg hE 1 [] [0] (Lo := [(0, .int .i64 kind)]) (obs := []) rfl (by kernel_rfl) trivial fun a hE => ?_
 refine WR.done rfl ?_
 refine Runs.seq ?_
 refine Runs.join (fun a w => EnvOk 9 a [(2, .bool ((kind == 1) || (kind == 3)))] ∧ St w0 (As) w) (fun hk => ?_) ?_
 ·clear hm
  refine Runs.region ?_
  refine WR.d0 hE 3 [(5, .bool (kind == 1))] fun a hE => ?_
  rcases Bool.eq_false_or_eq_true (kind == 1) with c | c
  ·replace hE := hE.dec 5 c (by kernel_rfl)
   have c_ := c
   refine WR.e0 hE [(2, .bool true)] fun a hE => ?_
   refine hk _ _ ⟨?_, H⟩
   try rw [c_] at hE
   try rw [c_]
   exact hE.sel [2] (by kernel_rfl)
  ·replace hE := hE.dec 5 c (by kernel_rfl)
   have c_1 := c
   refine WR.e0 hE [(2, .bool (kind == 3))] fun a hE => ?_
   refine hk _ _ ⟨?_, H⟩
   try rw [c_1] at hE
   try rw [c_1]
   exact hE.sel [2] (by kernel_rfl)
 rintro a w ⟨hE, H⟩
 refine Runs.ret hE Tryz.func65 rfl rfl ?_
 cases hm
 exact ⟨rfl, H⟩

theorem shell_may_ok {w0 w : World} {As : List HP} {k : Nat} {x : api_Act} {t : Bool}  (hm : shell_may k x = some t) (H : St w0 (As) w) :
    CallsR Tryz.prog 37 #[.agg #[.int .i64 x.Kind, .int .i64 x.Box, .int .i64 x.Command.Kind, .int .i64 x.Command.Queue, .int .i64 x.Command.Job.At, .int .i64 x.Command.Job.Gen, .int .i64 x.Command.Time, .int .i64 x.Command.Data]] w fun v w' => v = .bool t ∧ St w0 (As) w' := by
 rw [shell_may] at hm
 refine enter (args := [.agg #[.int .i64 x.Kind, .int .i64 x.Box, .int .i64 x.Command.Kind, .int .i64 x.Command.Queue, .int .i64 x.Command.Job.At, .int .i64 x.Command.Job.Gen, .int .i64 x.Command.Time, .int .i64 x.Command.Data]]) Tryz.func37 rfl rfl rfl fun a hE => ?_
 refine Runs.sr ?_
 refine WR.eff hE rfl rfl rfl rfl (OpTo.new hE H [] (.cells #[.int .i64 x.Kind, .int .i64 x.Box, .int .i64 x.Command.Kind, .int .i64 x.Command.Queue, .int .i64 x.Command.Job.At, .int .i64 x.Command.Job.Gen, .int .i64 x.Command.Time, .int .i64 x.Command.Data] 42 (0, 0)) (fun r => .pointer (some ⟨r, 0, none⟩)) (obs := []) rfl (fun _ => by kernel_rfl) trivial) ?_
 rintro _ w ⟨r, rfl, H⟩ a hE
 refine WR.seg hE 2 [] [1] (Lo := [(1, .pointer (some ⟨r, 0, none⟩))]) (obs := []) rfl (by kernel_rfl) trivial fun a hE => ?_
 refine WR.done rfl ?_
 refine Runs.seq ?_
 refine Runs.seq ?_
 refine Runs.join (fun a w => EnvOk 51 a [(1, .pointer (some ⟨r, 0, none⟩)), (11, .bool ((decide (x.Kind < 1)) || (decide (x.Kind > 4))))] ∧ St w0 (Blk r 42 [.int .i64 x.Kind, .int .i64 x.Box, .int .i64 x.Command.Kind, .int .i64 x.Command.Queue, .int .i64 x.Command.Job.At, .int .i64 x.Command.Job.Gen, .int .i64 x.Command.Time, .int .i64 x.Command.Data] :: As) w) (fun hk => ?_) ?_
 ·clear hm
  refine Runs.region ?_
  refine WR.d hE 4 [.int .i64 x.Kind] [(7, .bool (decide (x.Kind < 1)))] (obs := [.cell ⟨r, 0, none⟩ (.int .i64 x.Kind)]) ⟨H.cell 0 rfl rfl, trivial⟩ fun a hE => ?_
  rcases Bool.eq_false_or_eq_true (decide (x.Kind < 1)) with c | c
  ·replace hE := hE.dec 7 c (by kernel_rfl)
   have c_ := c
   refine WR.e0 hE [(11, .bool true)] fun a hE => ?_
   refine hk _ _ ⟨?_, H⟩
   try rw [c_] at hE
   try rw [c_]
   exact hE.sel [1, 11] (by kernel_rfl)
  ·replace hE := hE.dec 7 c (by kernel_rfl)
   have c_1 := c
   refine WR.e hE [.int .i64 x.Kind] [(11, .bool (decide (x.Kind > 4)))] (obs := [.cell ⟨r, 0, none⟩ (.int .i64 x.Kind)]) ⟨H.cell 0 rfl rfl, trivial⟩ fun a hE => ?_
   refine hk _ _ ⟨?_, H⟩
   try rw [c_1] at hE
   try rw [c_1]
   exact hE.sel [1, 11] (by kernel_rfl)
 rintro a w ⟨hE, H⟩
 refine Runs.cond hE rfl (fun c => ?_) (fun c => ?_)
 ·replace hm := cond_t c hm
  refine Runs.sr ?_
  refine WR.seg hE 1 [] [2] (Lo := [(2, .bool false)]) (obs := []) rfl (by kernel_rfl) trivial fun a hE => ?_
  refine WR.done rfl ?_
  refine Runs.ret hE Tryz.func37 rfl rfl ?_
  cases hm
  exact ⟨rfl, H.x0⟩
 ·replace hm := cond_f c hm
  refine Runs.skip ?_
  refine Runs.seq ?_
  refine Runs.sr ?_
  refine WR.seg hE 2 [.int .i64 x.Kind] [1, 13] (Lo := [(1, .pointer (some ⟨r, 0, none⟩)), (13, .int .i64 x.Kind)]) (obs := [.cell ⟨r, 0, none⟩ (.int .i64 x.Kind)]) rfl (by kernel_rfl) ⟨H.cell 0 rfl rfl, trivial⟩ fun a hE => ?_
  obtain ⟨t_, et_, hm⟩ := bind_some hm
  refine WR.eff hE rfl rfl rfl rfl (OpTo.fn hE rfl rfl Tryz.call65 (shell_asks_ok et_ H)) ?_
  rintro _ w ⟨rfl, H⟩ a hE
  refine WR.e0 hE [(15, .bool (!t_))] fun a hE => ?_
  refine Runs.cond hE rfl (fun c => ?_) (fun c => ?_)
  ·replace hm := cond_t c hm
   refine Runs.sr ?_
   refine WR.e0 hE [(2, .bool true)] fun a hE => ?_
   refine Runs.ret hE Tryz.func37 rfl rfl ?_
   cases hm
   exact ⟨rfl, H.x0⟩
  ·replace hm := cond_f c hm
   refine Runs.skip ?_
   refine Runs.sr ?_
   refine WR.d hE 2 [.int .i64 x.Command.Kind, .int .i64 x.Command.Queue, .int .i64 x.Command.Job.At, .int .i64 x.Command.Job.Gen, .int .i64 x.Command.Time, .int .i64 x.Command.Data] [(17, .agg #[.int .i64 x.Command.Kind, .int .i64 x.Command.Queue, .int .i64 x.Command.Job.At, .int .i64 x.Command.Job.Gen, .int .i64 x.Command.Time, .int .i64 x.Command.Data])] (obs := [.cell ⟨r, 2, none⟩ (.int .i64 x.Command.Kind), .cell ⟨r, 3, none⟩ (.int .i64 x.Command.Queue), .cell ⟨r, 4, none⟩ (.int .i64 x.Command.Job.At), .cell ⟨r, 5, none⟩ (.int .i64 x.Command.Job.Gen), .cell ⟨r, 6, none⟩ (.int .i64 x.Command.Time), .cell ⟨r, 7, none⟩ (.int .i64 x.Command.Data)]) ⟨H.cell 0 rfl rfl, H.cell 0 rfl rfl, H.cell 0 rfl rfl, H.cell 0 rfl rfl, H.cell 0 rfl rfl, H.cell 0 rfl rfl, trivial⟩ fun a hE => ?_
   refine WR.eff hE rfl rfl rfl rfl (OpTo.new hE H [] (.cells #[.int .i64 0, .int .i64 0, .int .i64 0, .int .i64 0, .int .i64 0, .int .i64 0] 33 (0, 0)) (fun r => .pointer (some ⟨r, 0, none⟩)) (obs := []) rfl (fun _ => by kernel_rfl) trivial) ?_
   rintro _ w ⟨r1, rfl, H⟩ a hE
   refine WR.eff0 hE rfl rfl rfl (OpTo.store hE H rfl rfl rfl rfl rfl rfl (Nat.le_of_ble_eq_true rfl)) ?_
   rintro _ w H a hE
   refine WR.done rfl ?_
   refine Runs.seq ?_
   obtain ⟨s, es, hm⟩ := bind_some hm
   refine Runs.join (fun a w => EnvOk 51 a [(2, .bool s)] ∧ St w0 (As) w) (fun hk => ?_) ?_
   ·replace hm := es; clear es
    refine Runs.region ?_
    refine WR.d hE 4 [.int .i64 x.Kind] [(21, .bool (x.Kind != 1))] (obs := [.cell ⟨r, 0, none⟩ (.int .i64 x.Kind)]) ⟨H.cell 1 rfl rfl, trivial⟩ fun a hE => ?_
    rcases Bool.eq_false_or_eq_true (x.Kind != 1) with c | c
    ·replace hE := hE.dec 21 c (by kernel_rfl)
     replace hm := cond_t c hm
     have c_2 := c
     refine WR.d hE 12 [.int .i64 x.Command.Kind] [(27, .bool true), (29, .int .i64 x.Command.Kind)] (obs := [.cell ⟨r1, 0, none⟩ (.int .i64 x.Command.Kind)]) ⟨H.cell 0 rfl rfl, trivial⟩ fun a hE => ?_
     refine WR.eff hE rfl rfl rfl rfl (OpTo.buildSl (T := 3) hE H ecI_ok ([x.Command.Kind] : List Int) rfl (fun _ => by kernel_rfl) rfl rfl rfl) ?_
     rintro _ w ⟨r2, rfl, H⟩ a hE
     obtain ⟨t_1, et_1, hm⟩ := bind_some hm
     refine WR.eff hE rfl rfl rfl rfl (OpTo.fn hE rfl rfl Tryz.call35 (shell_in_ok (hX_l := (sl_rd 3 ecI 1 _ _ _)) (hC_l := (H.slCap 0 rfl).1) et_1 H)) ?_
     rintro _ w ⟨rfl, H⟩ a hE
     refine WR.d0 hE 16 [(33, .bool t_1)] fun a hE => ?_
     rcases Bool.eq_false_or_eq_true t_1 with c | c
     ·replace hE := hE.dec 33 c (by kernel_rfl)
      replace hm := cond_t c hm
      have c_3 := c
      refine WR.d hE 18 [.int .i64 x.Command.Queue] [(33, .bool true), (35, .int .i64 x.Command.Queue)] (obs := [.cell ⟨r1, 1, none⟩ (.int .i64 x.Command.Queue)]) ⟨H.cell 1 rfl rfl, trivial⟩ fun a hE => ?_
      refine WR.eff hE rfl rfl rfl rfl (OpTo.buildSl (T := 3) hE H ecI_ok ([x.Command.Queue] : List Int) rfl (fun _ => by kernel_rfl) rfl rfl rfl) ?_
      rintro _ w ⟨r3, rfl, H⟩ a hE
      obtain ⟨t_2, et_2, hm⟩ := bind_some hm
      refine WR.eff hE rfl rfl rfl rfl (OpTo.fn hE rfl rfl Tryz.call35 (shell_in_ok (hX_l := (sl_rd 3 ecI 1 _ _ _)) (hC_l := (H.slCap 0 rfl).1) et_2 H)) ?_
      rintro _ w ⟨rfl, H⟩ a hE
      refine WR.d0 hE 22 [(39, .bool t_2)] fun a hE => ?_
      rcases Bool.eq_false_or_eq_true t_2 with c | c
      ·replace hE := hE.dec 39 c (by kernel_rfl)
       replace hm := cond_t c hm
       have c_4 := c
       refine WR.d hE 30 [.int .i64 x.Command.Job.At, .int .i64 x.Command.Job.Gen, .int .i64 x.Command.Data] [(39, .bool true), (42, .int .i64 x.Command.Job.At), (45, .int .i64 x.Command.Job.Gen), (47, .int .i64 x.Command.Data)] (obs := [.cell ⟨r1, 2, none⟩ (.int .i64 x.Command.Job.At), .cell ⟨r1, 3, none⟩ (.int .i64 x.Command.Job.Gen), .cell ⟨r1, 5, none⟩ (.int .i64 x.Command.Data)]) ⟨H.cell 2 rfl rfl, H.cell 2 rfl rfl, H.cell 2 rfl rfl, trivial⟩ fun a hE => ?_
       refine WR.eff hE rfl rfl rfl rfl (OpTo.buildSl (T := 3) hE H ecI_ok ([x.Command.Job.At, x.Command.Job.Gen, x.Command.Data] : List Int) rfl (fun _ => by kernel_rfl) rfl rfl rfl) ?_
       rintro _ w ⟨r4, rfl, H⟩ a hE
       obtain ⟨t_3, et_3, hm⟩ := bind_some hm
       refine WR.eff hE rfl rfl rfl rfl (OpTo.fn hE rfl rfl Tryz.call35 (shell_in_ok (hX_l := (sl_rd 3 ecI 1 _ _ _)) (hC_l := (H.slCap 0 rfl).1) et_3 H)) ?_
       rintro _ w ⟨rfl, H⟩ a hE
       refine WR.e0 hE [(2, .bool t_3)] fun a hE => ?_
       cases hm
       exact hk _ _ ⟨hE.sel [2] (by kernel_rfl), H.x4.x3.x2.x1.x0⟩
      ·replace hE := hE.dec 39 c (by kernel_rfl)
       replace hm := cond_f c hm
       have c_5 := c
       refine WR.e0 hE [(2, .bool false)] fun a hE => ?_
       cases hm
       exact hk _ _ ⟨hE.sel [2] (by kernel_rfl), H.x3.x2.x1.x0⟩
     ·replace hE := hE.dec 33 c (by kernel_rfl)
      replace hm := cond_f c hm
      have c_6 := c
      refine WR.e0 hE [(2, .bool false)] fun a hE => ?_
      cases hm
      exact hk _ _ ⟨hE.sel [2] (by kernel_rfl), H.x2.x1.x0⟩
    ·replace hE := hE.dec 21 c (by kernel_rfl)
     replace hm := cond_f c hm
     have c_7 := c
     refine WR.d hE 6 [.int .i64 x.Box] [(21, .bool false), (23, .int .i64 x.Box)] (obs := [.cell ⟨r, 1, none⟩ (.int .i64 x.Box)]) ⟨H.cell 1 rfl rfl, trivial⟩ fun a hE => ?_
     refine WR.eff hE rfl rfl rfl rfl (OpTo.buildSl (T := 3) hE H ecI_ok ([x.Box] : List Int) rfl (fun _ => by kernel_rfl) rfl rfl rfl) ?_
     rintro _ w ⟨r5, rfl, H⟩ a hE
     obtain ⟨t_4, et_4, hm⟩ := bind_some hm
     refine WR.eff hE rfl rfl rfl rfl (OpTo.fn hE rfl rfl Tryz.call35 (shell_in_ok (hX_l := (sl_rd 3 ecI 1 _ _ _)) (hC_l := (H.slCap 0 rfl).1) et_4 H)) ?_
     rintro _ w ⟨rfl, H⟩ a hE
     refine WR.d0 hE 10 [(27, .bool t_4)] fun a hE => ?_
     rcases Bool.eq_false_or_eq_true t_4 with c | c
     ·replace hE := hE.dec 27 c (by kernel_rfl)
      replace hm := cond_t c hm
      have c_8 := c
      refine WR.d hE 12 [.int .i64 x.Command.Kind] [(27, .bool true), (29, .int .i64 x.Command.Kind)] (obs := [.cell ⟨r1, 0, none⟩ (.int .i64 x.Command.Kind)]) ⟨H.cell 1 rfl rfl, trivial⟩ fun a hE => ?_
      refine WR.eff hE rfl rfl rfl rfl (OpTo.buildSl (T := 3) hE H ecI_ok ([x.Command.Kind] : List Int) rfl (fun _ => by kernel_rfl) rfl rfl rfl) ?_
      rintro _ w ⟨r6, rfl, H⟩ a hE
      obtain ⟨t_5, et_5, hm⟩ := bind_some hm
      refine WR.eff hE rfl rfl rfl rfl (OpTo.fn hE rfl rfl Tryz.call35 (shell_in_ok (hX_l := (sl_rd 3 ecI 1 _ _ _)) (hC_l := (H.slCap 0 rfl).1) et_5 H)) ?_
      rintro _ w ⟨rfl, H⟩ a hE
      refine WR.d0 hE 16 [(33, .bool t_5)] fun a hE => ?_
      rcases Bool.eq_false_or_eq_true t_5 with c | c
      ·replace hE := hE.dec 33 c (by kernel_rfl)
       replace hm := cond_t c hm
       have c_9 := c
       refine WR.d hE 18 [.int .i64 x.Command.Queue] [(33, .bool true), (35, .int .i64 x.Command.Queue)] (obs := [.cell ⟨r1, 1, none⟩ (.int .i64 x.Command.Queue)]) ⟨H.cell 2 rfl rfl, trivial⟩ fun a hE => ?_
       refine WR.eff hE rfl rfl rfl rfl (OpTo.buildSl (T := 3) hE H ecI_ok ([x.Command.Queue] : List Int) rfl (fun _ => by kernel_rfl) rfl rfl rfl) ?_
       rintro _ w ⟨r7, rfl, H⟩ a hE
       obtain ⟨t_6, et_6, hm⟩ := bind_some hm
       refine WR.eff hE rfl rfl rfl rfl (OpTo.fn hE rfl rfl Tryz.call35 (shell_in_ok (hX_l := (sl_rd 3 ecI 1 _ _ _)) (hC_l := (H.slCap 0 rfl).1) et_6 H)) ?_
       rintro _ w ⟨rfl, H⟩ a hE
       refine WR.d0 hE 22 [(39, .bool t_6)] fun a hE => ?_
       rcases Bool.eq_false_or_eq_true t_6 with c | c
       ·replace hE := hE.dec 39 c (by kernel_rfl)
        replace hm := cond_t c hm
        have c_10 := c
        refine WR.d hE 30 [.int .i64 x.Command.Job.At, .int .i64 x.Command.Job.Gen, .int .i64 x.Command.Data] [(39, .bool true), (42, .int .i64 x.Command.Job.At), (45, .int .i64 x.Command.Job.Gen), (47, .int .i64 x.Command.Data)] (obs := [.cell ⟨r1, 2, none⟩ (.int .i64 x.Command.Job.At), .cell ⟨r1, 3, none⟩ (.int .i64 x.Command.Job.Gen), .cell ⟨r1, 5, none⟩ (.int .i64 x.Command.Data)]) ⟨H.cell 3 rfl rfl, H.cell 3 rfl rfl, H.cell 3 rfl rfl, trivial⟩ fun a hE => ?_
        refine WR.eff hE rfl rfl rfl rfl (OpTo.buildSl (T := 3) hE H ecI_ok ([x.Command.Job.At, x.Command.Job.Gen, x.Command.Data] : List Int) rfl (fun _ => by kernel_rfl) rfl rfl rfl) ?_
        rintro _ w ⟨r8, rfl, H⟩ a hE
        obtain ⟨t_7, et_7, hm⟩ := bind_some hm
        refine WR.eff hE rfl rfl rfl rfl (OpTo.fn hE rfl rfl Tryz.call35 (shell_in_ok (hX_l := (sl_rd 3 ecI 1 _ _ _)) (hC_l := (H.slCap 0 rfl).1) et_7 H)) ?_
        rintro _ w ⟨rfl, H⟩ a hE
        refine WR.e0 hE [(2, .bool t_7)] fun a hE => ?_
        cases hm
        exact hk _ _ ⟨hE.sel [2] (by kernel_rfl), H.x5.x4.x3.x2.x1.x0⟩
       ·replace hE := hE.dec 39 c (by kernel_rfl)
        replace hm := cond_f c hm
        have c_11 := c
        refine WR.e0 hE [(2, .bool false)] fun a hE => ?_
        cases hm
        exact hk _ _ ⟨hE.sel [2] (by kernel_rfl), H.x4.x3.x2.x1.x0⟩
      ·replace hE := hE.dec 33 c (by kernel_rfl)
       replace hm := cond_f c hm
       have c_12 := c
       refine WR.e0 hE [(2, .bool false)] fun a hE => ?_
       cases hm
       exact hk _ _ ⟨hE.sel [2] (by kernel_rfl), H.x3.x2.x1.x0⟩
     ·replace hE := hE.dec 27 c (by kernel_rfl)
      replace hm := cond_f c hm
      have c_13 := c
      refine WR.e0 hE [(2, .bool false)] fun a hE => ?_
      cases hm
      exact hk _ _ ⟨hE.sel [2] (by kernel_rfl), H.x2.x1.x0⟩
   rintro a w ⟨hE, H⟩
   refine Runs.ret hE Tryz.func37 rfl rfl ?_
   cases hm
   exact ⟨rfl, H⟩

theorem shell_put_ok {w0 w : World} {As : List HP} {k : Nat} {sb_b : Option Addr} {sc_b : Nat} {b : List Int} {x : api_Act} {t : (List Int)}  (hm : shell_put k b x = some t) (H : St w0 (Sl 5 ecU 1 sb_b sc_b b :: As) w) :
    CallsR Tryz.prog 38 #[.slice sb_b b.length sc_b, .agg #[.int .i64 x.Kind, .int .i64 x.Box, .int .i64 x.Command.Kind, .int .i64 x.Command.Queue, .int .i64 x.Command.Job.At, .int .i64 x.Command.Job.Gen, .int .i64 x.Command.Time, .int .i64 x.Command.Data]] w fun v w' => ∃ (sb0 : Option Addr), ∃ (sc0 : Nat), v = .slice sb0 t.length sc0 ∧ St w0 (Sl 5 ecU 1 sb0 sc0 t :: As) w' := by
 rw [shell_put] at hm
 refine enter (args := [.slice sb_b b.length sc_b, .agg #[.int .i64 x.Kind, .int .i64 x.Box, .int .i64 x.Command.Kind, .int .i64 x.Command.Queue, .int .i64 x.Command.Job.At, .int .i64 x.Command.Job.Gen, .int .i64 x.Command.Time, .int .i64 x.Command.Data]]) Tryz.func38 rfl rfl rfl fun a hE => ?_
 refine Runs.sr ?_
 refine WR.eff hE rfl rfl rfl rfl (OpTo.new hE H [] (.cells #[.int .i64 x.Kind, .int .i64 x.Box, .int .i64 x.Command.Kind, .int .i64 x.Command.Queue, .int .i64 x.Command.Job.At, .int .i64 x.Command.Job.Gen, .int .i64 x.Command.Time, .int .i64 x.Command.Data] 42 (0, 0)) (fun r => .pointer (some ⟨r, 0, none⟩)) (obs := []) rfl (fun _ => by kernel_rfl) trivial) ?_
 rintro _ w ⟨r, rfl, H⟩ a hE
 refine WR.seg hE 2 [] [0, 3] (Lo := [(0, .slice sb_b b.length sc_b), (3, .pointer (some ⟨r, 0, none⟩))]) (obs := []) rfl (by kernel_rfl) trivial fun a hE => ?_
 refine WR.done rfl ?_
 refine Runs.sr ?_
 refine WR.d hE 4 [.int .i64 x.Kind] [(6, .slice sb_b b.length sc_b), (9, .int .u8 (IntKind.wrap .u8 (x.Kind)))] (obs := [.cell ⟨r, 0, none⟩ (.int .i64 x.Kind)]) ⟨H.cell 0 rfl rfl, trivial⟩ fun a hE => ?_
 refine WR.eff hE rfl rfl rfl rfl (OpTo.buildSl (T := 5) hE H ecU_ok ([IntKind.wrap .u8 (x.Kind)] : List Int) rfl (fun _ => by kernel_rfl) rfl rfl rfl) ?_
 rintro _ w ⟨r1, rfl, H⟩ a hE
 obtain ⟨l, el, hm⟩ := bind_some hm
 replace H := H.t2
 refine WR.eff hE rfl rfl rfl rfl (OpTo.appendM el hE H ecU_ok rfl rfl rfl rfl rfl rfl rfl rfl rfl rfl (SlRd.all (sl_rd 5 ecU 1 _ _ _) ecU_ok H 1 rfl) rfl) ?_
 rintro _ w ⟨sb, sc, rfl, H⟩ a hE
 refine WR.e0 hE [(0, .slice sb l.length sc)] fun a hE => ?_
 refine Runs.seq ?_
 refine Runs.sr ?_
 refine WR.e hE [.int .i64 x.Kind] [(14, .bool (x.Kind == 1))] (obs := [.cell ⟨r, 0, none⟩ (.int .i64 x.Kind)]) ⟨H.cell 2 rfl rfl, trivial⟩ fun a hE => ?_
 obtain ⟨s, es, hm⟩ := bind_some hm
 refine Runs.join (fun a w => ∃ (sb1 : Option Addr), ∃ (sc1 : Nat), EnvOk 57 a [(0, .slice sb1 s.length sc1), (3, .pointer (some ⟨r, 0, none⟩))] ∧ St w0 (Sl 5 ecU 1 sb1 sc1 s :: Blk r 42 [.int .i64 x.Kind, .int .i64 x.Box, .int .i64 x.Command.Kind, .int .i64 x.Command.Queue, .int .i64 x.Command.Job.At, .int .i64 x.Command.Job.Gen, .int .i64 x.Command.Time, .int .i64 x.Command.Data] :: As) w) (fun hk => ?_) ?_
 ·replace hm := es; clear es
  refine Runs.cond hE rfl (fun c => ?_) (fun c => ?_)
  ·replace hm := cond_t c hm
   refine Runs.region ?_
   refine WR.d hE 4 [.int .i64 x.Box] [(15, .slice sb l.length sc), (18, .int .u8 (IntKind.wrap .u8 (x.Box)))] (obs := [.cell ⟨r, 1, none⟩ (.int .i64 x.Box)]) ⟨H.cell 2 rfl rfl, trivial⟩ fun a hE => ?_
   refine WR.eff hE rfl rfl rfl rfl (OpTo.buildSl (T := 5) hE H ecU_ok ([IntKind.wrap .u8 (x.Box)] : List Int) rfl (fun _ => by kernel_rfl) rfl rfl rfl) ?_
   rintro _ w ⟨r2, rfl, H⟩ a hE
   obtain ⟨l1, el1, hm⟩ := bind_some hm
   replace H := H.t1
   refine WR.eff hE rfl rfl rfl rfl (OpTo.appendM el1 hE H ecU_ok rfl rfl rfl rfl rfl rfl rfl rfl rfl rfl (SlRd.all (sl_rd 5 ecU 1 _ _ _) ecU_ok H 1 rfl) rfl) ?_
   rintro _ w ⟨sb2, sc2, rfl, H⟩ a hE
   refine WR.e0 hE [(0, .slice sb2 l1.length sc2)] fun a hE => ?_
   cases hm
   exact hk _ _ ⟨sb2, sc2, hE.sel [0, 3] (by kernel_rfl), H.x2.x1.t1.t1⟩
  ·replace hm := cond_f c hm
   refine Runs.skip ?_
   cases hm
   exact hk _ _ ⟨sb, sc, hE.sel [0, 3] (by kernel_rfl), H.x1.t1.t1⟩
 rintro a w ⟨sb1, sc1, hE, H⟩
 refine Runs.seq ?_
 refine Runs.sr ?_
 refine WR.seg hE 2 [.int .i64 x.Kind] [0, 3, 22] (Lo := [(0, .slice sb1 s.length sc1), (3, .pointer (some ⟨r, 0, none⟩)), (22, .int .i64 x.Kind)]) (obs := [.cell ⟨r, 0, none⟩ (.int .i64 x.Kind)]) rfl (by kernel_rfl) ⟨H.cell 1 rfl rfl, trivial⟩ fun a hE => ?_
 obtain ⟨t_, et_, hm⟩ := bind_some hm
 refine WR.eff hE rfl rfl rfl rfl (OpTo.fn hE rfl rfl Tryz.call65 (shell_asks_ok et_ H)) ?_
 rintro _ w ⟨rfl, H⟩ a hE
 refine WR.e0 hE [(24, .bool (!t_))] fun a hE => ?_
 refine Runs.cond hE rfl (fun c => ?_) (fun c => ?_)
 ·replace hm := cond_t c hm
  refine Runs.sr ?_
  refine WR.e0 hE [(4, .slice sb1 s.length sc1)] fun a hE => ?_
  refine Runs.ret hE Tryz.func38 rfl rfl ?_
  cases hm
  exact ⟨sb1, sc1, rfl, H.x1⟩
 ·replace hm := cond_f c hm
  refine Runs.skip ?_
  refine Runs.sr ?_
  refine WR.d hE 2 [.int .i64 x.Command.Kind, .int .i64 x.Command.Queue, .int .i64 x.Command.Job.At, .int .i64 x.Command.Job.Gen, .int .i64 x.Command.Time, .int .i64 x.Command.Data] [(27, .agg #[.int .i64 x.Command.Kind, .int .i64 x.Command.Queue, .int .i64 x.Command.Job.At, .int .i64 x.Command.Job.Gen, .int .i64 x.Command.Time, .int .i64 x.Command.Data])] (obs := [.cell ⟨r, 2, none⟩ (.int .i64 x.Command.Kind), .cell ⟨r, 3, none⟩ (.int .i64 x.Command.Queue), .cell ⟨r, 4, none⟩ (.int .i64 x.Command.Job.At), .cell ⟨r, 5, none⟩ (.int .i64 x.Command.Job.Gen), .cell ⟨r, 6, none⟩ (.int .i64 x.Command.Time), .cell ⟨r, 7, none⟩ (.int .i64 x.Command.Data)]) ⟨H.cell 1 rfl rfl, H.cell 1 rfl rfl, H.cell 1 rfl rfl, H.cell 1 rfl rfl, H.cell 1 rfl rfl, H.cell 1 rfl rfl, trivial⟩ fun a hE => ?_
  refine WR.eff hE rfl rfl rfl rfl (OpTo.new hE H [] (.cells #[.int .i64 0, .int .i64 0, .int .i64 0, .int .i64 0, .int .i64 0, .int .i64 0] 33 (0, 0)) (fun r => .pointer (some ⟨r, 0, none⟩)) (obs := []) rfl (fun _ => by kernel_rfl) trivial) ?_
  rintro _ w ⟨r3, rfl, H⟩ a hE
  refine WR.eff0 hE rfl rfl rfl (OpTo.store hE H rfl rfl rfl rfl rfl rfl (Nat.le_of_ble_eq_true rfl)) ?_
  rintro _ w H a hE
  refine WR.done rfl ?_
  refine Runs.sr ?_
  refine WR.d hE 7 [.int .i64 x.Command.Kind, .int .i64 x.Command.Queue] [(28, .slice sb1 s.length sc1), (31, .int .u8 (IntKind.wrap .u8 (x.Command.Kind))), (34, .int .u8 (IntKind.wrap .u8 (x.Command.Queue)))] (obs := [.cell ⟨r3, 0, none⟩ (.int .i64 x.Command.Kind), .cell ⟨r3, 1, none⟩ (.int .i64 x.Command.Queue)]) ⟨H.cell 0 rfl rfl, H.cell 0 rfl rfl, trivial⟩ fun a hE => ?_
  refine WR.eff hE rfl rfl rfl rfl (OpTo.buildSl (T := 5) hE H ecU_ok ([IntKind.wrap .u8 (x.Command.Kind), IntKind.wrap .u8 (x.Command.Queue)] : List Int) rfl (fun _ => by kernel_rfl) rfl rfl rfl) ?_
  rintro _ w ⟨r4, rfl, H⟩ a hE
  obtain ⟨l2, el2, hm⟩ := bind_some hm
  replace H := H.t2
  refine WR.eff hE rfl rfl rfl rfl (OpTo.appendM el2 hE H ecU_ok rfl rfl rfl rfl rfl rfl rfl rfl rfl rfl (SlRd.all (sl_rd 5 ecU 1 _ _ _) ecU_ok H 1 rfl) rfl) ?_
  rintro _ w ⟨sb3, sc3, rfl, H⟩ a hE
  refine WR.e0 hE [(0, .slice sb3 l2.length sc3)] fun a hE => ?_
  refine Runs.seq ?_
  refine Runs.drawn mixed (by kernel_rfl) ?_
  replace H := H.drew
  refine WQ.d hE [0, 1, 2, 3, 4, 6, 7, 8, 9] [.int .i64 x.Command.Job.At, .int .i64 x.Command.Job.Gen] [(37, .slice sb3 l2.length sc3), (41, .int .u64 (IntKind.wrap .u64 (x.Command.Job.At))), (46, .int .u64 (IntKind.wrap .u64 (x.Command.Job.Gen)))] (obs := [.cell ⟨r3, 2, none⟩ (.int .i64 x.Command.Job.At), .cell ⟨r3, 3, none⟩ (.int .i64 x.Command.Job.Gen)]) ⟨H.cell 2 rfl rfl, H.cell 2 rfl rfl, trivial⟩ fun a hE => ?_
  obtain ⟨t_1, et_1, hm⟩ := bind_some hm
  refine WQ.eff (j := 5) (obs := [.cell ⟨r3, 3, none⟩ (.int .i64 x.Command.Job.Gen)]) hE (by kernel_rfl) rfl rfl rfl rfl (by kernel_rfl) (OpTo.fn hE rfl rfl Tryz.call36 (shell_number_ok et_1 H)) ?_
  rintro _ w ⟨sb4, sc4, rfl, H⟩
  refine ⟨⟨H.cell 2 rfl rfl, trivial⟩, fun a hE => ?_⟩
  obtain ⟨t_2, et_2, hm⟩ := bind_some hm
  refine WQ.eff (j := 10) (obs := []) hE (by kernel_rfl) rfl rfl rfl rfl (by kernel_rfl) (OpTo.fn hE rfl rfl Tryz.call36 (shell_number_ok et_2 H)) ?_
  rintro _ w ⟨sb5, sc5, rfl, H⟩
  refine ⟨trivial, fun a hE => ?_⟩
  refine WQ.d0 hE [11] [(0, .slice sb5 t_2.length sc5)] fun a hE => ?_
  refine WQ.done (by kernel_rfl) ?_
  refine Runs.seq ?_
  refine Runs.drawn mixed (by kernel_rfl) ?_
  replace H := H.drew
  refine WQ.d hE [0, 1, 2, 3, 5, 6, 7] [.int .i64 x.Command.Time, .int .i64 x.Command.Data] [(48, .slice sb5 t_2.length sc5), (51, .int .u64 (IntKind.wrap .u64 (x.Command.Time))), (55, .int .u64 (IntKind.wrap .u64 (x.Command.Data)))] (obs := [.cell ⟨r3, 4, none⟩ (.int .i64 x.Command.Time), .cell ⟨r3, 5, none⟩ (.int .i64 x.Command.Data)]) ⟨H.cell 2 rfl rfl, H.cell 2 rfl rfl, trivial⟩ fun a hE => ?_
  obtain ⟨t_3, et_3, hm⟩ := bind_some hm
  refine WQ.eff (j := 4) (obs := [.cell ⟨r3, 5, none⟩ (.int .i64 x.Command.Data)]) hE (by kernel_rfl) rfl rfl rfl rfl (by kernel_rfl) (OpTo.fn hE rfl rfl Tryz.call36 (shell_number_ok et_3 H)) ?_
  rintro _ w ⟨sb6, sc6, rfl, H⟩
  refine ⟨⟨H.cell 2 rfl rfl, trivial⟩, fun a hE => ?_⟩
  obtain ⟨t_4, et_4, hm⟩ := bind_some hm
  refine WQ.eff (j := 8) (obs := []) hE (by kernel_rfl) rfl rfl rfl rfl (by kernel_rfl) (OpTo.fn hE rfl rfl Tryz.call36 (shell_number_ok et_4 H)) ?_
  rintro _ w ⟨sb7, sc7, rfl, H⟩
  refine ⟨trivial, fun a hE => ?_⟩
  refine WQ.d0 hE [9] [(4, .slice sb7 t_4.length sc7)] fun a hE => ?_
  refine WQ.done (by kernel_rfl) ?_
  refine Runs.ret hE Tryz.func38 rfl rfl ?_
  cases hm
  exact ⟨sb7, sc7, rfl, H.x3.x2.x1⟩

theorem shell_Encode_ok {w0 w : World} {As : List HP} {k : Nat} {s : shell_Script} {al_s : shell_Script.A} {X_s : HP} {t : (List Int) × Int} (hX_s_Acts : SlRd X_s api_Act.enc 8 al_s.Acts_b s.Acts) (hC_s_Acts : s.Acts.length ≤ al_s.Acts_c) (hm : shell_Encode k s = some t) (H : St w0 (X_s :: As) w) :
    CallsR Tryz.prog 16 #[.agg #[.int .i64 s.Kind, .int .i64 s.Jobs, .int .i64 s.Boxes, .int .i64 s.Room, .slice al_s.Acts_b s.Acts.length al_s.Acts_c]] w fun v w' => ∃ (sb0 : Option Addr), ∃ (sc0 : Nat), v = .tuple #[.slice sb0 t.1.length sc0, .int .i64 t.2] ∧ St w0 (Sl 5 ecU 1 sb0 sc0 t.1 :: X_s :: As) w' := by
 rw [shell_Encode] at hm
 refine enter (args := [.agg #[.int .i64 s.Kind, .int .i64 s.Jobs, .int .i64 s.Boxes, .int .i64 s.Room, .slice al_s.Acts_b s.Acts.length al_s.Acts_c]]) Tryz.func16 rfl rfl rfl fun a hE => ?_
 refine Runs.sr ?_
 refine WR.eff hE rfl rfl rfl rfl (OpTo.new hE H [] (.cells #[.int .i64 s.Kind, .int .i64 s.Jobs, .int .i64 s.Boxes, .int .i64 s.Room, .slice al_s.Acts_b s.Acts.length al_s.Acts_c] 45 (0, 0)) (fun r => .pointer (some ⟨r, 0, none⟩)) (obs := []) rfl (fun _ => by kernel_rfl) trivial) ?_
 rintro _ w ⟨r, rfl, H⟩ a hE
 refine WR.seg hE 3 [] [1] (Lo := [(1, .pointer (some ⟨r, 0, none⟩))]) (obs := []) rfl (by kernel_rfl) trivial fun a hE => ?_
 refine WR.done rfl ?_
 refine Runs.seq ?_
 refine Runs.block ?_
 refine Runs.sr ?_
 refine WR.e hE [.slice al_s.Acts_b s.Acts.length al_s.Acts_c] [(7, .bool (decide ((s.Acts.length : Int) > 256)))] (obs := [.cell ⟨r, 4, none⟩ (.slice al_s.Acts_b s.Acts.length al_s.Acts_c)]) ⟨H.cell 0 rfl rfl, trivial⟩ fun a hE => ?_
 refine Runs.cond hE rfl (fun c => ?_) (fun c => ?_)
 ·replace hm := cond_t c hm
  refine Runs.sr ?_
  refine WR.e0 hE [(2, .slice none 0 0), (3, .int .i64 3)] fun a hE => ?_
  replace H := H.slNil 5 ecU 1
  refine Runs.ret hE Tryz.func16 rfl rfl ?_
  cases hm
  exact ⟨none, 0, rfl, H.x1.t1.t1⟩
 ·replace hm := cond_f c hm
  refine Runs.seq ?_
  obtain ⟨s1, es1, hm⟩ := bind_some hm
  refine Runs.join (fun a w => EnvOk 60 a [(1, .pointer (some ⟨r, 0, none⟩)), (12, .bool s1)] ∧ St w0 (Blk r 45 [.int .i64 s.Kind, .int .i64 s.Jobs, .int .i64 s.Boxes, .int .i64 s.Room, .slice al_s.Acts_b s.Acts.length al_s.Acts_c] :: X_s :: As) w) (fun hk => ?_) ?_
  ·replace hm := es1; clear es1
   refine Runs.region ?_
   refine WR.d hE 6 [.int .i64 s.Kind, .int .i64 s.Boxes, .int .i64 s.Room] [(14, .int .i64 s.Kind), (16, .int .i64 s.Boxes), (18, .int .i64 s.Room)] (obs := [.cell ⟨r, 0, none⟩ (.int .i64 s.Kind), .cell ⟨r, 2, none⟩ (.int .i64 s.Boxes), .cell ⟨r, 3, none⟩ (.int .i64 s.Room)]) ⟨H.cell 0 rfl rfl, H.cell 0 rfl rfl, H.cell 0 rfl rfl, trivial⟩ fun a hE => ?_
   refine WR.eff hE rfl rfl rfl rfl (OpTo.buildSl (T := 3) hE H ecI_ok ([s.Kind, s.Boxes, s.Room] : List Int) rfl (fun _ => by kernel_rfl) rfl rfl rfl) ?_
   rintro _ w ⟨r1, rfl, H⟩ a hE
   obtain ⟨t_, et_, hm⟩ := bind_some hm
   refine WR.eff hE rfl rfl rfl rfl (OpTo.fn hE rfl rfl Tryz.call35 (shell_in_ok (hX_l := (sl_rd 3 ecI 1 _ _ _)) (hC_l := (H.slCap 0 rfl).1) et_ H)) ?_
   rintro _ w ⟨rfl, H⟩ a hE
   refine WR.d0 hE 10 [(22, .bool (!t_))] fun a hE => ?_
   rcases Bool.eq_false_or_eq_true (!t_) with c | c
   ·replace hE := hE.dec 22 c (by kernel_rfl)
    replace hm := cond_t c hm
    have c_ := c
    refine WR.e0 hE [(12, .bool true)] fun a hE => ?_
    cases hm
    exact hk _ _ ⟨hE.sel [1, 12] (by kernel_rfl), H.x0.t1.t1⟩
   ·replace hE := hE.dec 22 c (by kernel_rfl)
    replace hm := cond_f c hm
    have c_1 := c
    refine WR.d hE 12 [.int .i64 s.Jobs] [(22, .bool false), (24, .int .i64 s.Jobs)] (obs := [.cell ⟨r, 1, none⟩ (.int .i64 s.Jobs)]) ⟨H.cell 1 rfl rfl, trivial⟩ fun a hE => ?_
    refine WR.eff hE rfl rfl rfl rfl (OpTo.buildSl (T := 3) hE H ecI_ok ([s.Jobs] : List Int) rfl (fun _ => by kernel_rfl) rfl rfl rfl) ?_
    rintro _ w ⟨r2, rfl, H⟩ a hE
    obtain ⟨t_1, et_1, hm⟩ := bind_some hm
    refine WR.eff hE rfl rfl rfl rfl (OpTo.fn hE rfl rfl Tryz.call35 (shell_in_ok (hX_l := (sl_rd 3 ecI 1 _ _ _)) (hC_l := (H.slCap 0 rfl).1) et_1 H)) ?_
    rintro _ w ⟨rfl, H⟩ a hE
    refine WR.e0 hE [(12, .bool (!t_1))] fun a hE => ?_
    cases hm
    exact hk _ _ ⟨hE.sel [1, 12] (by kernel_rfl), H.x1.x0.t1.t1⟩
  rintro a w ⟨hE, H⟩
  refine Runs.cond hE rfl (fun c => ?_) (fun c => ?_)
  ·replace hm := cond_t c hm
   refine Runs.sr ?_
   refine WR.seg hE 2 [] [2, 3] (Lo := [(2, .slice none 0 0), (3, .int .i64 1)]) (obs := []) rfl (by kernel_rfl) trivial fun a hE => ?_
   refine WR.done rfl ?_
   replace H := H.slNil 5 ecU 1
   refine Runs.ret hE Tryz.func16 rfl rfl ?_
   cases hm
   exact ⟨none, 0, rfl, H.x1.t1.t1⟩
  ·replace hm := cond_f c hm
   refine Runs.skip ?_
   refine Runs.inBlock ?_
   refine Runs.seq ?_
   obtain ⟨t_2, et_2, hm⟩ := bind_some hm
   obtain ⟨l, el, hm⟩ := bind_some hm
   refine Runs.join (fun a w => ∃ (sb2 : Option Addr), ∃ (sc2 : Nat), EnvOk 60 a [(1, .pointer (some ⟨r, 0, none⟩)), (4, .slice sb2 l.length sc2)] ∧ St w0 (Sl 5 ecU 1 sb2 sc2 l :: Blk r 45 [.int .i64 s.Kind, .int .i64 s.Jobs, .int .i64 s.Boxes, .int .i64 s.Room, .slice al_s.Acts_b s.Acts.length al_s.Acts_c] :: X_s :: As) w) (fun hk => ?_) ?_
   ·refine Runs.drawn mixed (by kernel_rfl) ?_
    replace H := H.drew
    refine WQ.seg hE [0, 1, 2, 4, 5, 6, 8, 9, 10, 11, 12, 13] [.int .i64 s.Kind, .int .i64 s.Jobs, .int .i64 s.Boxes, .int .i64 s.Room] [1, 31, 35, 39, 42] (Lo := [(1, .pointer (some ⟨r, 0, none⟩)), (31, .int .u8 (IntKind.wrap .u8 (s.Kind))), (35, .int .u64 (IntKind.wrap .u64 (s.Jobs))), (39, .int .u8 (IntKind.wrap .u8 (s.Boxes))), (42, .int .u8 (IntKind.wrap .u8 (s.Room)))]) (obs := [.cell ⟨r, 0, none⟩ (.int .i64 s.Kind), .cell ⟨r, 1, none⟩ (.int .i64 s.Jobs), .cell ⟨r, 2, none⟩ (.int .i64 s.Boxes), .cell ⟨r, 3, none⟩ (.int .i64 s.Room)]) (by kernel_rfl) (by kernel_rfl) ⟨H.cell 0 rfl rfl, H.cell 0 rfl rfl, H.cell 0 rfl rfl, H.cell 0 rfl rfl, trivial⟩ fun a hE => ?_
    refine WQ.act2 3 14 (by kernel_rfl) ?_ ?_
    ·refine AQ.eff (j := 3) (obs := [.cell ⟨r, 3, none⟩ (.int .i64 s.Room), .cell ⟨r, 2, none⟩ (.int .i64 s.Boxes), .cell ⟨r, 1, none⟩ (.int .i64 s.Jobs)]) hE rfl rfl rfl rfl (by kernel_rfl) (OpTo.buildSl (T := 5) hE H ecU_ok ([IntKind.wrap .u8 (s.Kind)] : List Int) rfl (fun _ => by kernel_rfl) rfl rfl rfl) ?_
     rintro _ w ⟨r5, rfl, H⟩
     refine ⟨⟨H.cell 1 rfl rfl, H.cell 1 rfl rfl, H.cell 1 rfl rfl, trivial⟩, fun a hE => ?_⟩
     refine WQ.act2 7 14 (by kernel_rfl) ?_ ?_
     ·refine AQ.eff (j := 7) (obs := [.cell ⟨r, 3, none⟩ (.int .i64 s.Room), .cell ⟨r, 2, none⟩ (.int .i64 s.Boxes)]) hE rfl rfl rfl rfl (by kernel_rfl) (OpTo.fn hE rfl rfl Tryz.call36 (shell_number_ok et_2 H)) ?_
      rintro _ w ⟨sb3, sc3, rfl, H⟩
      refine ⟨⟨H.cell 1 rfl rfl, H.cell 1 rfl rfl, trivial⟩, fun a hE => ?_⟩
      refine WQ.eff (j := 14) (obs := []) hE (by kernel_rfl) rfl rfl rfl rfl (by kernel_rfl) (OpTo.buildSl (T := 5) hE H ecU_ok ([IntKind.wrap .u8 (s.Boxes), IntKind.wrap .u8 (s.Room)] : List Int) rfl (fun _ => by kernel_rfl) rfl rfl rfl) ?_
      rintro _ w ⟨r6, rfl, H⟩
      refine ⟨trivial, fun a hE => ?_⟩
      replace H := H.t1
      refine WQ.eff (j := 15) (obs := []) hE (by kernel_rfl) rfl rfl rfl rfl (by kernel_rfl) (OpTo.appendM el hE H ecU_ok rfl rfl rfl rfl rfl rfl rfl rfl rfl rfl (SlRd.all (sl_rd 5 ecU 1 _ _ _) ecU_ok H 1 rfl) rfl) ?_
      rintro _ w ⟨sb4, sc4, rfl, H⟩
      refine ⟨trivial, fun a hE => ?_⟩
      refine WQ.d0 hE [16] [(4, .slice sb4 l.length sc4)] fun a hE => ?_
      refine WQ.done (by kernel_rfl) ?_
      exact hk _ _ ⟨sb4, sc4, hE.sel [1, 4] (by kernel_rfl), H.x1.t2.t2.t2⟩
     ·refine AQ.eff (j := 14) (obs := [.cell ⟨r, 1, none⟩ (.int .i64 s.Jobs)]) hE rfl rfl rfl rfl (by kernel_rfl) (OpTo.buildSl (T := 5) hE H ecU_ok ([IntKind.wrap .u8 (s.Boxes), IntKind.wrap .u8 (s.Room)] : List Int) rfl (fun _ => by kernel_rfl) rfl rfl rfl) ?_
      rintro _ w ⟨r7, rfl, H⟩
      refine ⟨⟨H.cell 2 rfl rfl, trivial⟩, fun a hE => ?_⟩
      refine WQ.eff (j := 7) (obs := []) hE (by kernel_rfl) rfl rfl rfl rfl (by kernel_rfl) (OpTo.fn hE rfl rfl Tryz.call36 (shell_number_ok et_2 H.t1)) ?_
      rintro _ w ⟨sb5, sc5, rfl, H⟩
      refine ⟨trivial, fun a hE => ?_⟩
      refine WQ.eff (j := 15) (obs := []) hE (by kernel_rfl) rfl rfl rfl rfl (by kernel_rfl) (OpTo.appendM el hE H ecU_ok rfl rfl rfl rfl rfl rfl rfl rfl rfl rfl (SlRd.all (sl_rd 5 ecU 1 _ _ _) ecU_ok H 1 rfl) rfl) ?_
      rintro _ w ⟨sb6, sc6, rfl, H⟩
      refine ⟨trivial, fun a hE => ?_⟩
      refine WQ.d0 hE [16] [(4, .slice sb6 l.length sc6)] fun a hE => ?_
      refine WQ.done (by kernel_rfl) ?_
      exact hk _ _ ⟨sb6, sc6, hE.sel [1, 4] (by kernel_rfl), H.x1.t2.t2.t2⟩
    ·refine AQ.eff (j := 14) (obs := [.cell ⟨r, 1, none⟩ (.int .i64 s.Jobs), .cell ⟨r, 0, none⟩ (.int .i64 s.Kind)]) hE rfl rfl rfl rfl (by kernel_rfl) (OpTo.buildSl (T := 5) hE H ecU_ok ([IntKind.wrap .u8 (s.Boxes), IntKind.wrap .u8 (s.Room)] : List Int) rfl (fun _ => by kernel_rfl) rfl rfl rfl) ?_
     rintro _ w ⟨r8, rfl, H⟩
     refine ⟨⟨H.cell 1 rfl rfl, H.cell 1 rfl rfl, trivial⟩, fun a hE => ?_⟩
     refine WQ.eff (j := 3) (obs := [.cell ⟨r, 1, none⟩ (.int .i64 s.Jobs)]) hE (by kernel_rfl) rfl rfl rfl rfl (by kernel_rfl) (OpTo.buildSl (T := 5) hE H ecU_ok ([IntKind.wrap .u8 (s.Kind)] : List Int) rfl (fun _ => by kernel_rfl) rfl rfl rfl) ?_
     rintro _ w ⟨r9, rfl, H⟩
     refine ⟨⟨H.cell 2 rfl rfl, trivial⟩, fun a hE => ?_⟩
     refine WQ.eff (j := 7) (obs := []) hE (by kernel_rfl) rfl rfl rfl rfl (by kernel_rfl) (OpTo.fn hE rfl rfl Tryz.call36 (shell_number_ok et_2 H)) ?_
     rintro _ w ⟨sb7, sc7, rfl, H⟩
     refine ⟨trivial, fun a hE => ?_⟩
     refine WQ.eff (j := 15) (obs := []) hE (by kernel_rfl) rfl rfl rfl rfl (by kernel_rfl) (OpTo.appendM el hE H ecU_ok rfl rfl rfl rfl rfl rfl rfl rfl rfl rfl (SlRd.all (sl_rd 5 ecU 1 _ _ _) ecU_ok H 1 rfl) rfl) ?_
     rintro _ w ⟨sb8, sc8, rfl, H⟩
     refine ⟨trivial, fun a hE => ?_⟩
     refine WQ.d0 hE [16] [(4, .slice sb8 l.length sc8)] fun a hE => ?_
     refine WQ.done (by kernel_rfl) ?_
     exact hk _ _ ⟨sb8, sc8, hE.sel [1, 4] (by kernel_rfl), H.x1.t2.t2.t2⟩
   rintro a w ⟨sb2, sc2, hE, H⟩
   refine Runs.seq ?_
   refine Runs.sr ?_
   refine WR.seg hE 4 [.slice al_s.Acts_b s.Acts.length al_s.Acts_c] [4, 46, 47, 48] (Lo := [(4, .slice sb2 l.length sc2), (46, .slice al_s.Acts_b s.Acts.length al_s.Acts_c), (47, .int .i64 (s.Acts.length : Int)), (48, .int .i64 0)]) (obs := [.cell ⟨r, 4, none⟩ (.slice al_s.Acts_b s.Acts.length al_s.Acts_c)]) rfl (by kernel_rfl) ⟨H.cell 1 rfl rfl, trivial⟩ fun a hE => ?_
   refine WR.done rfl ?_
   obtain ⟨s2, es2, hR⟩ := bind_some hm
   refine Runs.join (fun a w => ∃ s3, s2 = Sum.inr s3 ∧ ∃ (sb10 : Option Addr), ∃ (sc10 : Nat), EnvOk 60 a [(4, .slice sb10 s3.length sc10)] ∧ St w0 (Sl 5 ecU 1 sb10 sc10 s3 :: X_s :: As) w) (fun hk => ?_) ?_
   ·replace hm := es2; clear es2
    refine Runs.block ?_
    refine Runs.loop (fun m a w => ∃ (b : List Int), ∃ (x : Int), ∃ (sb11 : Option Addr), ∃ (sc11 : Nat), EnvOk 60 a [(4, .slice sb11 b.length sc11), (46, .slice al_s.Acts_b s.Acts.length al_s.Acts_c), (47, .int .i64 (s.Acts.length : Int)), (48, .int .i64 x)] ∧ St w0 (Sl 5 ecU 1 sb11 sc11 b :: X_s :: As) w ∧ shell_Encode_l0 s.Acts (s.Acts.length : Int) m b x = some s2) k ⟨l, 0, sb2, sc2, hE.sel [4, 46, 47, 48] (by kernel_rfl), H.x1.t1.t1, hm⟩ ?_
    rintro m ih a w ⟨b, x, sb11, sc11, hE, H, hm⟩
    cases m with
    | zero => simp [shell_Encode_l0] at hm
    | succ m =>
     rw [shell_Encode_l0] at hm
     refine Runs.sr ?_
     refine WR.seg hE 1 [] [4, 46, 47, 48, 49] (Lo := [(4, .slice sb11 b.length sc11), (46, .slice al_s.Acts_b s.Acts.length al_s.Acts_c), (47, .int .i64 (s.Acts.length : Int)), (48, .int .i64 x), (49, .bool (decide (x < (s.Acts.length : Int))))]) (obs := []) rfl (by kernel_rfl) trivial fun a hE => ?_
     refine WR.done rfl ?_
     refine Runs.seq ?_
     refine Runs.cond hE rfl (fun c => ?_) (fun c => ?_)
     ·replace hm := cond_t c hm
      refine Runs.skip ?_
      refine Runs.seq ?_
      refine Runs.block ?_
      refine Runs.sr ?_
      obtain ⟨x2, ex2, hm⟩ := bind_some hm
      obtain ⟨b1, o, hs, hb⟩ := SlRd.base hX_s_Acts api_Act.enc_ok H 1 rfl ex2
      refine WR.d hE 2 [.pointer (some ⟨b1, o, none⟩), .int .i64 x2.Kind, .int .i64 x2.Box, .int .i64 x2.Command.Kind, .int .i64 x2.Command.Queue, .int .i64 x2.Command.Job.At, .int .i64 x2.Command.Job.Gen, .int .i64 x2.Command.Time, .int .i64 x2.Command.Data] [(51, .agg #[.int .i64 x2.Kind, .int .i64 x2.Box, .int .i64 x2.Command.Kind, .int .i64 x2.Command.Queue, .int .i64 x2.Command.Job.At, .int .i64 x2.Command.Job.Gen, .int .i64 x2.Command.Time, .int .i64 x2.Command.Data])] (obs := [.p ((al_s.Acts_b : Option Addr) = some ⟨b1, o, none⟩), .p (0 ≤ (x : Int) ∧ (x : Int) < ((s.Acts.length : Nat) : Int)), .cell ⟨b1, o + (Int.toNat x) * 8, none⟩ (.int .i64 x2.Kind), .cell ⟨b1, o + (Int.toNat x) * 8 + 1, none⟩ (.int .i64 x2.Box), .cell ⟨b1, o + (Int.toNat x) * 8 + 2, none⟩ (.int .i64 x2.Command.Kind), .cell ⟨b1, o + (Int.toNat x) * 8 + 3, none⟩ (.int .i64 x2.Command.Queue), .cell ⟨b1, o + (Int.toNat x) * 8 + 4, none⟩ (.int .i64 x2.Command.Job.At), .cell ⟨b1, o + (Int.toNat x) * 8 + 5, none⟩ (.int .i64 x2.Command.Job.Gen), .cell ⟨b1, o + (Int.toNat x) * 8 + 6, none⟩ (.int .i64 x2.Command.Time), .cell ⟨b1, o + (Int.toNat x) * 8 + 7, none⟩ (.int .i64 x2.Command.Data)]) ⟨hs, hb, SlRd.cells hX_s_Acts api_Act.enc_ok H 1 rfl hs ex2 0 _ rfl, SlRd.cells hX_s_Acts api_Act.enc_ok H 1 rfl hs ex2 1 _ rfl, SlRd.cells hX_s_Acts api_Act.enc_ok H 1 rfl hs ex2 2 _ rfl, SlRd.cells hX_s_Acts api_Act.enc_ok H 1 rfl hs ex2 3 _ rfl, SlRd.cells hX_s_Acts api_Act.enc_ok H 1 rfl hs ex2 4 _ rfl, SlRd.cells hX_s_Acts api_Act.enc_ok H 1 rfl hs ex2 5 _ rfl, SlRd.cells hX_s_Acts api_Act.enc_ok H 1 rfl hs ex2 6 _ rfl, SlRd.cells hX_s_Acts api_Act.enc_ok H 1 rfl hs ex2 7 _ rfl, trivial⟩ fun a hE => ?_
      refine WR.eff hE rfl rfl rfl rfl (OpTo.new hE H [] (.cells #[.int .i64 0, .int .i64 0, .int .i64 0, .int .i64 0, .int .i64 0, .int .i64 0, .int .i64 0, .int .i64 0] 42 (0, 0)) (fun r => .pointer (some ⟨r, 0, none⟩)) (obs := []) rfl (fun _ => by kernel_rfl) trivial) ?_
      rintro _ w ⟨r10, rfl, H⟩ a hE
      refine WR.eff0 hE rfl rfl rfl (OpTo.store hE H rfl rfl rfl rfl rfl rfl (Nat.le_of_ble_eq_true rfl)) ?_
      rintro _ w H a hE
      refine WR.done rfl ?_
      refine Runs.seq ?_
      refine Runs.sr ?_
      refine WR.d hE 1 [.int .i64 x2.Kind, .int .i64 x2.Box, .int .i64 x2.Command.Kind, .int .i64 x2.Command.Queue, .int .i64 x2.Command.Job.At, .int .i64 x2.Command.Job.Gen, .int .i64 x2.Command.Time, .int .i64 x2.Command.Data] [(52, .agg #[.int .i64 x2.Kind, .int .i64 x2.Box, .int .i64 x2.Command.Kind, .int .i64 x2.Command.Queue, .int .i64 x2.Command.Job.At, .int .i64 x2.Command.Job.Gen, .int .i64 x2.Command.Time, .int .i64 x2.Command.Data])] (obs := [.cell ⟨r10, 0, none⟩ (.int .i64 x2.Kind), .cell ⟨r10, 1, none⟩ (.int .i64 x2.Box), .cell ⟨r10, 2, none⟩ (.int .i64 x2.Command.Kind), .cell ⟨r10, 3, none⟩ (.int .i64 x2.Command.Queue), .cell ⟨r10, 4, none⟩ (.int .i64 x2.Command.Job.At), .cell ⟨r10, 5, none⟩ (.int .i64 x2.Command.Job.Gen), .cell ⟨r10, 6, none⟩ (.int .i64 x2.Command.Time), .cell ⟨r10, 7, none⟩ (.int .i64 x2.Command.Data)]) ⟨H.cell 0 rfl rfl, H.cell 0 rfl rfl, H.cell 0 rfl rfl, H.cell 0 rfl rfl, H.cell 0 rfl rfl, H.cell 0 rfl rfl, H.cell 0 rfl rfl, H.cell 0 rfl rfl, trivial⟩ fun a hE => ?_
      obtain ⟨t_3, et_3, hm⟩ := bind_some hm
      refine WR.eff hE rfl rfl rfl rfl (OpTo.fn hE rfl rfl Tryz.call37 (shell_may_ok et_3 H)) ?_
      rintro _ w ⟨rfl, H⟩ a hE
      refine WR.e0 hE [(54, .bool (!t_3))] fun a hE => ?_
      refine Runs.cond hE rfl (fun c => ?_) (fun c => ?_)
      ·replace hm := cond_t c hm
       refine Runs.sr ?_
       refine WR.e0 hE [(2, .slice none 0 0), (3, .int .i64 1)] fun a hE => ?_
       replace H := H.slNil 5 ecU 1
       refine Runs.ret hE Tryz.func16 rfl rfl ?_
       cases hm
       dsimp only at hR; cases hR
       exact ⟨none, 0, rfl, H.x2.x1.t1.t1⟩
      ·replace hm := cond_f c hm
       refine Runs.skip ?_
       refine Runs.region ?_
       refine WR.d hE 2 [.int .i64 x2.Kind, .int .i64 x2.Box, .int .i64 x2.Command.Kind, .int .i64 x2.Command.Queue, .int .i64 x2.Command.Job.At, .int .i64 x2.Command.Job.Gen, .int .i64 x2.Command.Time, .int .i64 x2.Command.Data] [(55, .slice sb11 b.length sc11), (56, .agg #[.int .i64 x2.Kind, .int .i64 x2.Box, .int .i64 x2.Command.Kind, .int .i64 x2.Command.Queue, .int .i64 x2.Command.Job.At, .int .i64 x2.Command.Job.Gen, .int .i64 x2.Command.Time, .int .i64 x2.Command.Data])] (obs := [.cell ⟨r10, 0, none⟩ (.int .i64 x2.Kind), .cell ⟨r10, 1, none⟩ (.int .i64 x2.Box), .cell ⟨r10, 2, none⟩ (.int .i64 x2.Command.Kind), .cell ⟨r10, 3, none⟩ (.int .i64 x2.Command.Queue), .cell ⟨r10, 4, none⟩ (.int .i64 x2.Command.Job.At), .cell ⟨r10, 5, none⟩ (.int .i64 x2.Command.Job.Gen), .cell ⟨r10, 6, none⟩ (.int .i64 x2.Command.Time), .cell ⟨r10, 7, none⟩ (.int .i64 x2.Command.Data)]) ⟨H.cell 0 rfl rfl, H.cell 0 rfl rfl, H.cell 0 rfl rfl, H.cell 0 rfl rfl, H.cell 0 rfl rfl, H.cell 0 rfl rfl, H.cell 0 rfl rfl, H.cell 0 rfl rfl, trivial⟩ fun a hE => ?_
       obtain ⟨t_4, et_4, hm⟩ := bind_some hm
       refine WR.eff hE rfl rfl rfl rfl (OpTo.fn hE rfl rfl Tryz.call38 (shell_put_ok et_4 H.t1)) ?_
       rintro _ w ⟨sb12, sc12, rfl, H⟩ a hE
       refine WR.e0 hE [(4, .slice sb12 t_4.length sc12)] fun a hE => ?_
       refine Runs.inBlock ?_
       refine Runs.region ?_
       refine WR.e0 hE [(48, .int .i64 (w64 (x + 1)))] fun a hE => ?_
       exact ih m (Nat.lt_succ_self m) _ _ ⟨t_4, w64 (x + 1), sb12, sc12, hE.sel [4, 46, 47, 48] (by kernel_rfl), H.x1.t1.t1, hm⟩
     ·replace hm := cond_f c hm
      refine Runs.exit rfl ?_
      cases hm
      exact hk _ _ ⟨_, rfl, sb11, sc11, hE.sel [4] (by kernel_rfl), H.t1.t1⟩
   rintro a w ⟨s3, rfl, sb10, sc10, hE, H⟩
   replace hm := hR; dsimp only at hm
   refine Runs.sr ?_
   refine WR.seg hE 3 [] [2, 3] (Lo := [(2, .slice sb10 s3.length sc10), (3, .int .i64 0)]) (obs := []) rfl (by kernel_rfl) trivial fun a hE => ?_
   refine WR.done rfl ?_
   refine Runs.ret hE Tryz.func16 rfl rfl ?_
   cases hm
   exact ⟨sb10, sc10, rfl, H.t1.t1⟩

theorem shell_reader_number_ok {w0 w : World} {As : List HP} {k : Nat} {p_r : Nat} {al_r : shell_reader.A} {r : shell_reader} {bytes : Int} {t : Int × shell_reader}  (hm : shell_reader_number k r bytes = some t) (H : St w0 (shell_reader.R p_r al_r r :: al_r.b_X :: As) w) :
    CallsR Tryz.prog 69 #[.pointer (some ⟨p_r, 0, none⟩), .int .i64 bytes] w fun v w' => ∃ (z_r_b_b : Option Addr), ∃ (z_r_b_c : Nat), v = .int .u64 t.1 ∧ St w0 (shell_reader.R p_r (shell_reader.A.mk al_r.b_X z_r_b_b z_r_b_c) t.2 :: al_r.b_X :: As) w' := by
 rw [shell_reader_number] at hm
 refine enter (args := [.pointer (some ⟨p_r, 0, none⟩), .int .i64 bytes]) Tryz.func69 rfl rfl rfl fun a hE => ?_
 refine Runs.sr ?_
 refine WR.seg hE 1 [] [0, 1] (Lo := [(0, .pointer (some ⟨p_r, 0, none⟩)), (1, .int .i64 bytes)]) (obs := []) rfl (by kernel_rfl) trivial fun a hE => ?_
 refine WR.done rfl ?_
 refine Runs.seq ?_
 refine Runs.sr ?_
 replace H := shell_reader.open H
 obtain ⟨⟨hX, hC⟩, H⟩ := St.pure H.t1
 refine WR.e hE [.slice al_r.b_b r.b.length al_r.b_c] [(14, .bool (decide ((r.b.length : Int) < bytes)))] (obs := [.cell ⟨p_r, 0, none⟩ (.slice al_r.b_b r.b.length al_r.b_c)]) ⟨H.cell 0 rfl rfl, trivial⟩ fun a hE => ?_
 refine Runs.cond hE rfl (fun c => ?_) (fun c => ?_)
 ·replace hm := cond_t c hm
  refine Runs.sr ?_
  refine WR.d0 hE 4 [(16, .pointer (some ⟨p_r, 0, none⟩)), (18, .pointer (some ⟨p_r, 0, none⟩))] fun a hE => ?_
  refine WR.eff0 hE rfl rfl rfl (OpTo.store hE H rfl rfl rfl rfl rfl rfl (Nat.le_of_ble_eq_true rfl)) ?_
  rintro _ w H a hE
  refine WR.d0 hE 7 [(20, .pointer (some ⟨p_r, 1, none⟩))] fun a hE => ?_
  refine WR.eff0 hE rfl rfl rfl (OpTo.store hE H rfl rfl rfl rfl rfl rfl (Nat.le_of_ble_eq_true rfl)) ?_
  rintro _ w H a hE
  refine WR.done rfl ?_
  refine Runs.sr ?_
  refine WR.e0 hE [(4, .int .u64 0)] fun a hE => ?_
  replace H : St w0 (Pure (SlRd al_r.b_X ecU 1 none ([] : List Int) ∧ ([] : List Int).length ≤ 0) :: _) _ := St.pureI ⟨(fun _ _ => .inl rfl), (Nat.le_refl _)⟩ H
  replace H := shell_reader.shut (shell_reader.A.mk al_r.b_X none 0) (shell_reader.mk ([] : List Int) true) H.t1
  refine Runs.ret hE Tryz.func69 rfl rfl ?_
  cases hm
  exact ⟨none, 0, rfl, H.t1.t1⟩
 ·replace hm := cond_f c hm
  refine Runs.skip ?_
  refine Runs.sr ?_
  refine WR.e0 hE [(5, .int .u64 0)] fun a hE => ?_
  refine Runs.seq ?_
  refine Runs.sr ?_
  obtain ⟨l, el, hm⟩ := bind_some hm
  obtain ⟨sb, q⟩ : ∃ z, rebase al_r.b_b al_r.b_c (Int.toNat 0) 1 = z := ⟨_, rfl⟩
  obtain ⟨sc, q1⟩ : ∃ z, al_r.b_c - (Int.toNat 0) = z := ⟨_, rfl⟩
  refine WR.e hE [.slice al_r.b_b r.b.length al_r.b_c, .slice sb l.length sc] [(26, .slice sb l.length sc), (27, .int .i64 (l.length : Int)), (28, .int .i64 0)] (obs := [.cell ⟨p_r, 0, none⟩ (.slice al_r.b_b r.b.length al_r.b_c), .p (rebase al_r.b_b al_r.b_c 0 1 = sb), .p ((Int.toNat bytes) - 0 = l.length), .p (al_r.b_c - 0 = sc), .p (0 ≤ (bytes : Int) ∧ (bytes : Int) ≤ ((al_r.b_c : Nat) : Int))]) ⟨H.cell 0 rfl rfl, q, cut_len el, q1, cut_cap el hC, trivial⟩ fun a hE => ?_
  replace H : St w0 (Pure (SlRd al_r.b_X ecU 1 al_r.b_b r.b ∧ r.b.length ≤ al_r.b_c) :: _) _ := St.pureI ⟨hX, hC⟩ H
  replace H := shell_reader.shut al_r (r) H.t1
  obtain ⟨s, es, hm⟩ := bind_some hm
  refine Runs.join (fun a w => EnvOk 48 a [(0, .pointer (some ⟨p_r, 0, none⟩)), (1, .int .i64 bytes), (5, .int .u64 s)] ∧ St w0 (shell_reader.R p_r al_r r :: al_r.b_X :: As) w) (fun hk => ?_) ?_
  ·replace hm := es; clear es
   refine Runs.block ?_
   refine Runs.loop (fun m a w => ∃ (n : Int), ∃ (x : Int), EnvOk 48 a [(0, .pointer (some ⟨p_r, 0, none⟩)), (1, .int .i64 bytes), (5, .int .u64 n), (26, .slice sb l.length sc), (27, .int .i64 (l.length : Int)), (28, .int .i64 x)] ∧ St w0 (shell_reader.R p_r al_r r :: al_r.b_X :: As) w ∧ shell_reader_number_l0 bytes l (l.length : Int) r m n x = some s) k ⟨0, 0, hE.sel [0, 1, 5, 26, 27, 28] (by kernel_rfl), H.t1.t1, hm⟩ ?_
   rintro m ih a w ⟨n, x, hE, H, hm⟩
   cases m with
   | zero => simp [shell_reader_number_l0] at hm
   | succ m =>
    rw [shell_reader_number_l0] at hm
    refine Runs.sr ?_
    refine WR.seg hE 1 [] [0, 1, 5, 26, 27, 28, 29] (Lo := [(0, .pointer (some ⟨p_r, 0, none⟩)), (1, .int .i64 bytes), (5, .int .u64 n), (26, .slice sb l.length sc), (27, .int .i64 (l.length : Int)), (28, .int .i64 x), (29, .bool (decide (x < (l.length : Int))))]) (obs := []) rfl (by kernel_rfl) trivial fun a hE => ?_
    refine WR.done rfl ?_
    refine Runs.seq ?_
    refine Runs.cond hE rfl (fun c => ?_) (fun c => ?_)
    ·replace hm := cond_t c hm
     refine Runs.skip ?_
     refine Runs.seq ?_
     refine Runs.block ?_
     refine Runs.sr ?_
     obtain ⟨x2, ex2, hm⟩ := bind_some hm
     obtain ⟨b, o, hs, hb⟩ := SlRd.base (hX.cut' ecU_ok el (hC) q) ecU_ok H 1 rfl ex2
     refine WR.e hE [.pointer (some ⟨b, o, none⟩), .int .u8 x2] [(7, .int .u8 x2)] (obs := [.p ((sb : Option Addr) = some ⟨b, o, none⟩), .p (0 ≤ (x : Int) ∧ (x : Int) < ((l.length : Nat) : Int)), .cell ⟨b, o + (Int.toNat x) * 1, none⟩ (.int .u8 x2)]) ⟨hs, hb, SlRd.cells (hX.cut' ecU_ok el (hC) q) ecU_ok H 1 rfl hs ex2 0 _ rfl, trivial⟩ fun a hE => ?_
     refine Runs.region ?_
     refine WR.e hE [] [(5, .int .u64 (IntKind.wrap .u64 ((BitVec.ofInt 64 (IntKind.wrap .u64 (n * 2 ^ (min (Int.toNat 8) 64))) ||| BitVec.ofInt 64 (IntKind.wrap .u64 (x2))).toNat : Int)))] (obs := [.p (0 ≤ (8 : Int))]) ⟨(by show _ ≤ _; decide), trivial⟩ fun a hE => ?_
     refine Runs.inBlock ?_
     refine Runs.region ?_
     refine WR.e0 hE [(28, .int .i64 (w64 (x + 1)))] fun a hE => ?_
     exact ih m (Nat.lt_succ_self m) _ _ ⟨IntKind.wrap .u64 ((BitVec.ofInt 64 (IntKind.wrap .u64 (n * 2 ^ (min (Int.toNat 8) 64))) ||| BitVec.ofInt 64 (IntKind.wrap .u64 (x2))).toNat : Int), w64 (x + 1), hE.sel [0, 1, 5, 26, 27, 28] (by kernel_rfl), H.t1.t1, hm⟩
    ·replace hm := cond_f c hm
     refine Runs.exit rfl ?_
     cases hm
     exact hk _ _ ⟨hE.sel [0, 1, 5] (by kernel_rfl), H.t1.t1⟩
  rintro a w ⟨hE, H⟩
  refine Runs.sr ?_
  replace H := shell_reader.open H
  obtain ⟨⟨hX1, hC1⟩, H⟩ := St.pure H.t1
  obtain ⟨l2, el2, hm⟩ := bind_some hm
  obtain ⟨sb1, q2⟩ : ∃ z, rebase al_r.b_b al_r.b_c (Int.toNat bytes) 1 = z := ⟨_, rfl⟩
  obtain ⟨sc1, q3⟩ : ∃ z, al_r.b_c - (Int.toNat bytes) = z := ⟨_, rfl⟩
  refine WR.seg hE 9 [.slice al_r.b_b r.b.length al_r.b_c, .slice sb1 l2.length sc1] [5, 44, 46] (Lo := [(5, .int .u64 s), (44, .slice sb1 l2.length sc1), (46, .pointer (some ⟨p_r, 0, none⟩))]) (obs := [.cell ⟨p_r, 0, none⟩ (.slice al_r.b_b r.b.length al_r.b_c), .p (rebase al_r.b_b al_r.b_c (Int.toNat bytes) 1 = sb1), .p (r.b.length - (Int.toNat bytes) = l2.length), .p (al_r.b_c - (Int.toNat bytes) = sc1), .p (0 ≤ (bytes : Int) ∧ (bytes : Int) ≤ ((r.b.length : Nat) : Int))]) rfl (by kernel_rfl) ⟨H.cell 0 rfl rfl, q2, cut_len el2, q3, cut_bd0 el2, trivial⟩ fun a hE => ?_
  refine WR.eff0 hE rfl rfl rfl (OpTo.store hE H rfl rfl rfl rfl rfl rfl (Nat.le_of_ble_eq_true rfl)) ?_
  rintro _ w H a hE
  refine WR.done rfl ?_
  refine Runs.sr ?_
  refine WR.e0 hE [(4, .int .u64 s)] fun a hE => ?_
  replace H : St w0 (Pure (SlRd al_r.b_X ecU 1 sb1 l2 ∧ l2.length ≤ sc1) :: _) _ := St.pureI ⟨(hX1.cut' ecU_ok el2 (hC1) q2), (cut_cap2 el2 hC1 q3)⟩ H
  replace H := shell_reader.shut (shell_reader.A.mk al_r.b_X sb1 sc1) (shell_reader.mk l2 r.bad) H.t1
  refine Runs.ret hE Tryz.func69 rfl rfl ?_
  cases hm
  exact ⟨sb1, sc1, rfl, H.t1.t1⟩

theorem shell_reader_int_ok {w0 w : World} {As : List HP} {k : Nat} {p_r : Nat} {al_r : shell_reader.A} {r : shell_reader} {bytes : Int} {t : Int × shell_reader}  (hm : shell_reader_int k r bytes = some t) (H : St w0 (shell_reader.R p_r al_r r :: al_r.b_X :: As) w) :
    CallsR Tryz.prog 48 #[.pointer (some ⟨p_r, 0, none⟩), .int .i64 bytes] w fun v w' => ∃ (z_r_b_b : Option Addr), ∃ (z_r_b_c : Nat), v = .int .i64 t.1 ∧ St w0 (shell_reader.R p_r (shell_reader.A.mk al_r.b_X z_r_b_b z_r_b_c) t.2 :: al_r.b_X :: As) w' := by
 rw [shell_reader_int] at hm
 refine enter (args := [.pointer (some ⟨p_r, 0, none⟩), .int .i64 bytes]) Tryz.func48 rfl rfl rfl fun a hE => ?_
 refine Runs.sr ?_
 refine WR.seg hE 1 [] [0, 1] (Lo := [(0, .pointer (some ⟨p_r, 0, none⟩)), (1, .int .i64 bytes)]) (obs := []) rfl (by kernel_rfl) trivial fun a hE => ?_
 refine WR.done rfl ?_
 refine Runs.sr ?_
 refine WR.d0 hE 2 [(5, .pointer (some ⟨p_r, 0, none⟩)), (6, .int .i64 bytes)] fun a hE => ?_
 obtain ⟨t_, et_, hm⟩ := bind_some hm
 refine WR.eff hE rfl rfl rfl rfl (OpTo.fn hE rfl rfl Tryz.call69 (shell_reader_number_ok et_ H.t1.t1)) ?_
 rintro _ w ⟨z, z1, rfl, H⟩ a hE
 refine WR.e0 hE [(4, .int .i64 (w64 (t_.1)))] fun a hE => ?_
 refine Runs.ret hE Tryz.func48 rfl rfl ?_
 cases hm
 exact ⟨z, z1, rfl, H.t1.t1⟩

theorem shell_take_ok {w0 w : World} {As : List HP} {k : Nat} {p_r : Nat} {al_r : shell_reader.A} {r : shell_reader} {kind : Int} {t : api_Act × Bool × shell_reader}  (hm : shell_take k r kind = some t) (H : St w0 (shell_reader.R p_r al_r r :: al_r.b_X :: As) w) :
    CallsR Tryz.prog 49 #[.pointer (some ⟨p_r, 0, none⟩), .int .i64 kind] w fun v w' => ∃ (z_r_b_b : Option Addr), ∃ (z_r_b_c : Nat), v = .tuple #[.agg #[.int .i64 t.1.Kind, .int .i64 t.1.Box, .int .i64 t.1.Command.Kind, .int .i64 t.1.Command.Queue, .int .i64 t.1.Command.Job.At, .int .i64 t.1.Command.Job.Gen, .int .i64 t.1.Command.Time, .int .i64 t.1.Command.Data], .bool t.2.1] ∧ St w0 (shell_reader.R p_r (shell_reader.A.mk al_r.b_X z_r_b_b z_r_b_c) t.2.2 :: al_r.b_X :: As) w' := by
 rw [shell_take] at hm
 refine enter (args := [.pointer (some ⟨p_r, 0, none⟩), .int .i64 kind]) Tryz.func49 rfl rfl rfl fun a hE => ?_
 refine Runs.sr ?_
 refine WR.eff hE rfl rfl rfl rfl (OpTo.new hE H [] (.cells #[.int .i64 0, .int .i64 0, .int .i64 0, .int .i64 0, .int .i64 0, .int .i64 0, .int .i64 0, .int .i64 0] 42 (0, 0)) (fun r => .pointer (some ⟨r, 0, none⟩)) (obs := []) rfl (fun _ => by kernel_rfl) trivial) ?_
 rintro _ w ⟨r1, rfl, H⟩ a hE
 refine WR.seg hE 2 [] [0, 1, 4] (Lo := [(0, .pointer (some ⟨p_r, 0, none⟩)), (1, .int .i64 kind), (4, .pointer (some ⟨r1, 0, none⟩))]) (obs := []) rfl (by kernel_rfl) trivial fun a hE => ?_
 refine WR.done rfl ?_
 refine Runs.sr ?_
 refine WR.d0 hE 2 [(9, .agg #[.int .i64 kind, .int .i64 0, .int .i64 0, .int .i64 0, .int .i64 0, .int .i64 0, .int .i64 0, .int .i64 0])] fun a hE => ?_
 refine WR.eff hE rfl rfl rfl rfl (OpTo.new hE H [] (.cells #[.int .i64 0, .int .i64 0, .int .i64 0, .int .i64 0, .int .i64 0, .int .i64 0, .int .i64 0, .int .i64 0] 42 (0, 0)) (fun r => .pointer (some ⟨r, 0, none⟩)) (obs := []) rfl (fun _ => by kernel_rfl) trivial) ?_
 rintro _ w ⟨r2, rfl, H⟩ a hE
 refine WR.eff0 hE rfl rfl rfl (OpTo.store hE H rfl rfl rfl rfl rfl rfl (Nat.le_of_ble_eq_true rfl)) ?_
 rintro _ w H a hE
 refine WR.done rfl ?_
 refine Runs.seq ?_
 refine Runs.sr ?_
 refine WR.e0 hE [(11, .bool (kind == 1))] fun a hE => ?_
 obtain ⟨s, es, hm⟩ := bind_some hm
 refine Runs.join (fun a w => ∃ (z : Option Addr), ∃ (z1 : Nat), EnvOk 57 a [(0, .pointer (some ⟨p_r, 0, none⟩)), (1, .int .i64 kind), (4, .pointer (some ⟨r1, 0, none⟩)), (6, .pointer (some ⟨r2, 0, none⟩))] ∧ St w0 (Blk r2 42 [.int .i64 kind, .int .i64 s.1, .int .i64 0, .int .i64 0, .int .i64 0, .int .i64 0, .int .i64 0, .int .i64 0] :: Blk r1 42 [.int .i64 0, .int .i64 0, .int .i64 0, .int .i64 0, .int .i64 0, .int .i64 0, .int .i64 0, .int .i64 0] :: shell_reader.R p_r (shell_reader.A.mk al_r.b_X z z1) s.2 :: al_r.b_X :: As) w) (fun hk => ?_) ?_
 ·replace hm := es; clear es
  refine Runs.cond hE rfl (fun c => ?_) (fun c => ?_)
  ·replace hm := cond_t c hm
   refine Runs.region ?_
   refine WR.d0 hE 1 [(12, .pointer (some ⟨p_r, 0, none⟩))] fun a hE => ?_
   obtain ⟨t_, et_, hm⟩ := bind_some hm
   refine WR.eff hE rfl rfl rfl rfl (OpTo.fn hE rfl rfl Tryz.call48 (shell_reader_int_ok et_ H.t3.t3)) ?_
   rintro _ w ⟨z2, z3, rfl, H⟩ a hE
   refine WR.d0 hE 3 [(14, .pointer (some ⟨r2, 1, none⟩))] fun a hE => ?_
   refine WR.eff0 hE rfl rfl rfl (OpTo.store hE H.t2 rfl rfl rfl rfl rfl rfl (Nat.le_of_ble_eq_true rfl)) ?_
   rintro _ w H a hE
   refine WR.done rfl ?_
   cases hm
   exact hk _ _ ⟨z2, z3, hE.sel [0, 1, 4, 6] (by kernel_rfl), H.t2.t2.t3.t3⟩
  ·replace hm := cond_f c hm
   refine Runs.skip ?_
   cases hm
   exact hk _ _ ⟨al_r.b_b, al_r.b_c, hE.sel [0, 1, 4, 6] (by kernel_rfl), H.t3.t3.t3.t3⟩
 rintro a w ⟨z, z1, hE, H⟩
 refine Runs.seq ?_
 refine Runs.sr ?_
 refine WR.seg hE 1 [] [0, 4, 6, 15] (Lo := [(0, .pointer (some ⟨p_r, 0, none⟩)), (4, .pointer (some ⟨r1, 0, none⟩)), (6, .pointer (some ⟨r2, 0, none⟩)), (15, .int .i64 kind)]) (obs := []) rfl (by kernel_rfl) trivial fun a hE => ?_
 obtain ⟨t_1, et_1, hm⟩ := bind_some hm
 refine WR.eff hE rfl rfl rfl rfl (OpTo.fn hE rfl rfl Tryz.call65 (shell_asks_ok et_1 H)) ?_
 rintro _ w ⟨rfl, H⟩ a hE
 refine WR.done rfl ?_
 obtain ⟨s1, es1, hm⟩ := bind_some hm
 refine Runs.join (fun a w => ∃ (z4 : Option Addr), ∃ (z5 : Nat), EnvOk 57 a [(0, .pointer (some ⟨p_r, 0, none⟩)), (4, .pointer (some ⟨r1, 0, none⟩)), (6, .pointer (some ⟨r2, 0, none⟩))] ∧ St w0 (Blk r2 42 [.int .i64 kind, .int .i64 s.1, .int .i64 s1.1, .int .i64 s1.2.1, .int .i64 s1.2.2.1, .int .i64 s1.2.2.2.1, .int .i64 s1.2.2.2.2.1, .int .i64 s1.2.2.2.2.2.1] :: Blk r1 42 [.int .i64 0, .int .i64 0, .int .i64 0, .int .i64 0, .int .i64 0, .int .i64 0, .int .i64 0, .int .i64 0] :: shell_reader.R p_r (shell_reader.A.mk al_r.b_X z4 z5) s1.2.2.2.2.2.2 :: al_r.b_X :: As) w) (fun hk => ?_) ?_
 ·replace hm := es1; clear es1
  refine Runs.cond hE rfl (fun c => ?_) (fun c => ?_)
  ·replace hm := cond_t c hm
   refine Runs.sr ?_
   refine WR.e0 hE [(7, .pointer (some ⟨r2, 2, none⟩))] fun a hE => ?_
   refine Runs.sr ?_
   refine WR.d0 hE 3 [(18, .pointer (some ⟨r2, 2, none⟩)), (19, .pointer (some ⟨r2, 2, none⟩)), (20, .pointer (some ⟨p_r, 0, none⟩))] fun a hE => ?_
   obtain ⟨t_2, et_2, hm⟩ := bind_some hm
   refine WR.eff hE rfl rfl rfl rfl (OpTo.fn hE rfl rfl Tryz.call48 (shell_reader_int_ok et_2 H.t3.t3)) ?_
   rintro _ w ⟨z6, z7, rfl, H⟩ a hE
   refine WR.d0 hE 5 [(22, .pointer (some ⟨p_r, 0, none⟩))] fun a hE => ?_
   obtain ⟨t_3, et_3, hm⟩ := bind_some hm
   refine WR.eff hE rfl rfl rfl rfl (OpTo.fn hE rfl rfl Tryz.call48 (shell_reader_int_ok et_3 H.t1.t1)) ?_
   rintro _ w ⟨z8, z9, rfl, H⟩ a hE
   refine WR.d0 hE 8 [(25, .pointer (some ⟨r2, 2, none⟩))] fun a hE => ?_
   refine WR.eff0 hE rfl rfl rfl (OpTo.store hE H.t2 rfl rfl rfl rfl rfl rfl (Nat.le_of_ble_eq_true rfl)) ?_
   rintro _ w H a hE
   refine WR.d0 hE 11 [(27, .pointer (some ⟨r2, 3, none⟩))] fun a hE => ?_
   refine WR.eff0 hE rfl rfl rfl (OpTo.store hE H rfl rfl rfl rfl rfl rfl (Nat.le_of_ble_eq_true rfl)) ?_
   rintro _ w H a hE
   refine WR.done rfl ?_
   refine Runs.sr ?_
   refine WR.d0 hE 2 [(28, .pointer (some ⟨r2, 2, none⟩)), (29, .pointer (some ⟨p_r, 0, none⟩))] fun a hE => ?_
   obtain ⟨t_4, et_4, hm⟩ := bind_some hm
   refine WR.eff hE rfl rfl rfl rfl (OpTo.fn hE rfl rfl Tryz.call48 (shell_reader_int_ok et_4 H.t2.t2)) ?_
   rintro _ w ⟨z10, z11, rfl, H⟩ a hE
   refine WR.d0 hE 4 [(31, .pointer (some ⟨p_r, 0, none⟩))] fun a hE => ?_
   obtain ⟨t_5, et_5, hm⟩ := bind_some hm
   refine WR.eff hE rfl rfl rfl rfl (OpTo.fn hE rfl rfl Tryz.call48 (shell_reader_int_ok et_5 H.t1.t1)) ?_
   rintro _ w ⟨z12, z13, rfl, H⟩ a hE
   refine WR.d0 hE 8 [(33, .agg #[.int .i64 t_4.1, .int .i64 t_5.1]), (35, .pointer (some ⟨r2, 4, none⟩))] fun a hE => ?_
   refine WR.eff0 hE rfl rfl rfl (OpTo.store hE H.t2 rfl rfl rfl rfl rfl rfl (Nat.le_of_ble_eq_true rfl)) ?_
   rintro _ w H a hE
   refine WR.done rfl ?_
   refine Runs.region ?_
   refine WR.d0 hE 3 [(36, .pointer (some ⟨r2, 2, none⟩)), (37, .pointer (some ⟨r2, 2, none⟩)), (38, .pointer (some ⟨p_r, 0, none⟩))] fun a hE => ?_
   obtain ⟨t_6, et_6, hm⟩ := bind_some hm
   refine WR.eff hE rfl rfl rfl rfl (OpTo.fn hE rfl rfl Tryz.call69 (shell_reader_number_ok et_6 H.t2.t2)) ?_
   rintro _ w ⟨z14, z15, rfl, H⟩ a hE
   refine WR.d0 hE 6 [(40, .int .i64 (w64 (t_6.1))), (41, .pointer (some ⟨p_r, 0, none⟩))] fun a hE => ?_
   obtain ⟨t_7, et_7, hm⟩ := bind_some hm
   refine WR.eff hE rfl rfl rfl rfl (OpTo.fn hE rfl rfl Tryz.call48 (shell_reader_int_ok et_7 H.t1.t1)) ?_
   rintro _ w ⟨z16, z17, rfl, H⟩ a hE
   refine WR.d0 hE 9 [(44, .pointer (some ⟨r2, 6, none⟩))] fun a hE => ?_
   refine WR.eff0 hE rfl rfl rfl (OpTo.store hE H.t2 rfl rfl rfl rfl rfl rfl (Nat.le_of_ble_eq_true rfl)) ?_
   rintro _ w H a hE
   refine WR.d0 hE 12 [(46, .pointer (some ⟨r2, 7, none⟩))] fun a hE => ?_
   refine WR.eff0 hE rfl rfl rfl (OpTo.store hE H rfl rfl rfl rfl rfl rfl (Nat.le_of_ble_eq_true rfl)) ?_
   rintro _ w H a hE
   refine WR.done rfl ?_
   cases hm
   exact hk _ _ ⟨z16, z17, hE.sel [0, 4, 6] (by kernel_rfl), H.t2.t2.t3.t3⟩
  ·replace hm := cond_f c hm
   refine Runs.skip ?_
   cases hm
   exact hk _ _ ⟨z, z1, hE.sel [0, 4, 6] (by kernel_rfl), H.t3.t3.t3.t3⟩
 rintro a w ⟨z4, z5, hE, H⟩
 refine Runs.seq ?_
 obtain ⟨s2, es2, hm⟩ := bind_some hm
 refine Runs.join (fun a w => EnvOk 57 a [(4, .pointer (some ⟨r1, 0, none⟩)), (5, .bool s2.1)] ∧ St w0 (Blk r1 42 [.int .i64 s2.2.1, .int .i64 s2.2.2.1, .int .i64 s2.2.2.2.1, .int .i64 s2.2.2.2.2.1, .int .i64 s2.2.2.2.2.2.1, .int .i64 s2.2.2.2.2.2.2.1, .int .i64 s2.2.2.2.2.2.2.2.1, .int .i64 s2.2.2.2.2.2.2.2.2] :: shell_reader.R p_r (shell_reader.A.mk al_r.b_X z4 z5) s1.2.2.2.2.2.2 :: al_r.b_X :: As) w) (fun hk => ?_) ?_
 ·replace hm := es2; clear es2
  refine Runs.drawn mixed (by kernel_rfl) ?_
  replace H := H.drew
  replace H := shell_reader.open H.t2
  try dsimp only at H
  obtain ⟨⟨hX1, hC1⟩, H⟩ := St.pure H.t1
  refine WQ.seg hE [0, 1, 2, 3, 4, 5, 6] [.int .i64 kind, .int .i64 s.1, .int .i64 s1.1, .int .i64 s1.2.1, .int .i64 s1.2.2.1, .int .i64 s1.2.2.2.1, .int .i64 s1.2.2.2.2.1, .int .i64 s1.2.2.2.2.2.1, .bool s1.2.2.2.2.2.2.bad] [4, 6, 47, 53] (Lo := [(4, .pointer (some ⟨r1, 0, none⟩)), (6, .pointer (some ⟨r2, 0, none⟩)), (47, .agg #[.int .i64 kind, .int .i64 s.1, .int .i64 s1.1, .int .i64 s1.2.1, .int .i64 s1.2.2.1, .int .i64 s1.2.2.2.1, .int .i64 s1.2.2.2.2.1, .int .i64 s1.2.2.2.2.2.1]), (53, .bool (!s1.2.2.2.2.2.2.bad))]) (obs := [.cell ⟨r2, 0, none⟩ (.int .i64 kind), .cell ⟨r2, 1, none⟩ (.int .i64 s.1), .cell ⟨r2, 2, none⟩ (.int .i64 s1.1), .cell ⟨r2, 3, none⟩ (.int .i64 s1.2.1), .cell ⟨r2, 4, none⟩ (.int .i64 s1.2.2.1), .cell ⟨r2, 5, none⟩ (.int .i64 s1.2.2.2.1), .cell ⟨r2, 6, none⟩ (.int .i64 s1.2.2.2.2.1), .cell ⟨r2, 7, none⟩ (.int .i64 s1.2.2.2.2.2.1), .cell ⟨p_r, 1, none⟩ (.bool s1.2.2.2.2.2.2.bad)]) (by kernel_rfl) (by kernel_rfl) ⟨H.cell 1 rfl rfl, H.cell 1 rfl rfl, H.cell 1 rfl rfl, H.cell 1 rfl rfl, H.cell 1 rfl rfl, H.cell 1 rfl rfl, H.cell 1 rfl rfl, H.cell 1 rfl rfl, H.cell 0 rfl rfl, trivial⟩ fun a hE => ?_
  rcases Bool.eq_false_or_eq_true (!s1.2.2.2.2.2.2.bad) with c | c
  ·replace hE := hE.dec 53 c (by kernel_rfl)
   replace hm := cond_t c hm
   have c_ := c
   refine WQ.d hE [7] [.int .i64 kind, .int .i64 s.1, .int .i64 s1.1, .int .i64 s1.2.1, .int .i64 s1.2.2.1, .int .i64 s1.2.2.2.1, .int .i64 s1.2.2.2.2.1, .int .i64 s1.2.2.2.2.2.1] [(53, .bool true), (54, .agg #[.int .i64 kind, .int .i64 s.1, .int .i64 s1.1, .int .i64 s1.2.1, .int .i64 s1.2.2.1, .int .i64 s1.2.2.2.1, .int .i64 s1.2.2.2.2.1, .int .i64 s1.2.2.2.2.2.1])] (obs := [.cell ⟨r2, 0, none⟩ (.int .i64 kind), .cell ⟨r2, 1, none⟩ (.int .i64 s.1), .cell ⟨r2, 2, none⟩ (.int .i64 s1.1), .cell ⟨r2, 3, none⟩ (.int .i64 s1.2.1), .cell ⟨r2, 4, none⟩ (.int .i64 s1.2.2.1), .cell ⟨r2, 5, none⟩ (.int .i64 s1.2.2.2.1), .cell ⟨r2, 6, none⟩ (.int .i64 s1.2.2.2.2.1), .cell ⟨r2, 7, none⟩ (.int .i64 s1.2.2.2.2.2.1)]) ⟨H.cell 1 rfl rfl, H.cell 1 rfl rfl, H.cell 1 rfl rfl, H.cell 1 rfl rfl, H.cell 1 rfl rfl, H.cell 1 rfl rfl, H.cell 1 rfl rfl, H.cell 1 rfl rfl, trivial⟩ fun a hE => ?_
   obtain ⟨t_8, et_8, hm⟩ := bind_some hm
   have hC_ := shell_may_ok et_8 H
   try dsimp only at hC_
   refine WQ.eff (j := 8) (obs := [.cell ⟨r2, 0, none⟩ (.int .i64 kind), .cell ⟨r2, 1, none⟩ (.int .i64 s.1), .cell ⟨r2, 2, none⟩ (.int .i64 s1.1), .cell ⟨r2, 3, none⟩ (.int .i64 s1.2.1), .cell ⟨r2, 4, none⟩ (.int .i64 s1.2.2.1), .cell ⟨r2, 5, none⟩ (.int .i64 s1.2.2.2.1), .cell ⟨r2, 6, none⟩ (.int .i64 s1.2.2.2.2.1), .cell ⟨r2, 7, none⟩ (.int .i64 s1.2.2.2.2.2.1)]) hE (by kernel_rfl) rfl rfl rfl rfl (by kernel_rfl) (OpTo.fn hE rfl rfl Tryz.call37 hC_) ?_
   rintro _ w ⟨rfl, H⟩
   refine ⟨⟨H.cell 1 rfl rfl, H.cell 1 rfl rfl, H.cell 1 rfl rfl, H.cell 1 rfl rfl, H.cell 1 rfl rfl, H.cell 1 rfl rfl, H.cell 1 rfl rfl, H.cell 1 rfl rfl, trivial⟩, fun a hE => ?_⟩
   refine WQ.d0 hE [9] [(56, .bool t_8)] fun a hE => ?_
   refine WQ.eff0 (j := 10) (obs := []) hE (by kernel_rfl) rfl rfl rfl (by kernel_rfl) (OpTo.store hE H.t2 rfl rfl rfl rfl rfl rfl (Nat.le_of_ble_eq_true rfl)) ?_
   rintro _ w H
   refine ⟨trivial, fun a hE => ?_⟩
   refine WQ.d0 hE [11] [(5, .bool t_8)] fun a hE => ?_
   refine WQ.done (by kernel_rfl) ?_
   replace H : St w0 (Pure (SlRd al_r.b_X ecU 1 z4 s1.2.2.2.2.2.2.b ∧ s1.2.2.2.2.2.2.b.length ≤ z5) :: _) _ := St.pureI ⟨hX1, hC1⟩ H
   replace H := shell_reader.shut (shell_reader.A.mk al_r.b_X z4 z5) (s1.2.2.2.2.2.2) H.t2
   cases hm
   exact hk _ _ ⟨hE.sel [4, 5] (by kernel_rfl), H.x2.t2.t1.t2⟩
  ·replace hE := hE.dec 53 c (by kernel_rfl)
   replace hm := cond_f c hm
   have c_1 := c
   refine WQ.d0 hE [7, 8, 9] [(56, .bool false)] fun a hE => ?_
   refine WQ.eff0 (j := 10) (obs := []) hE (by kernel_rfl) rfl rfl rfl (by kernel_rfl) (OpTo.store hE H.t2 rfl rfl rfl rfl rfl rfl (Nat.le_of_ble_eq_true rfl)) ?_
   rintro _ w H
   refine ⟨trivial, fun a hE => ?_⟩
   refine WQ.d0 hE [11] [(5, .bool false)] fun a hE => ?_
   refine WQ.done (by kernel_rfl) ?_
   replace H : St w0 (Pure (SlRd al_r.b_X ecU 1 z4 s1.2.2.2.2.2.2.b ∧ s1.2.2.2.2.2.2.b.length ≤ z5) :: _) _ := St.pureI ⟨hX1, hC1⟩ H
   replace H := shell_reader.shut (shell_reader.A.mk al_r.b_X z4 z5) (s1.2.2.2.2.2.2) H.t2
   cases hm
   exact hk _ _ ⟨hE.sel [4, 5] (by kernel_rfl), H.x2.t2.t1.t2⟩
 rintro a w ⟨hE, H⟩
 refine Runs.retO (vs := [.agg #[.int .i64 s2.2.1, .int .i64 s2.2.2.1, .int .i64 s2.2.2.2.1, .int .i64 s2.2.2.2.2.1, .int .i64 s2.2.2.2.2.2.1, .int .i64 s2.2.2.2.2.2.2.1, .int .i64 s2.2.2.2.2.2.2.2.1, .int .i64 s2.2.2.2.2.2.2.2.2], .bool s2.1]) (obs := [.cell ⟨r1, 0, none⟩ (.int .i64 s2.2.1), .cell ⟨r1, 1, none⟩ (.int .i64 s2.2.2.1), .cell ⟨r1, 2, none⟩ (.int .i64 s2.2.2.2.1), .cell ⟨r1, 3, none⟩ (.int .i64 s2.2.2.2.2.1), .cell ⟨r1, 4, none⟩ (.int .i64 s2.2.2.2.2.2.1), .cell ⟨r1, 5, none⟩ (.int .i64 s2.2.2.2.2.2.2.1), .cell ⟨r1, 6, none⟩ (.int .i64 s2.2.2.2.2.2.2.2.1), .cell ⟨r1, 7, none⟩ (.int .i64 s2.2.2.2.2.2.2.2.2)]) hE Tryz.func49 rfl [.int .i64 s2.2.1, .int .i64 s2.2.2.1, .int .i64 s2.2.2.2.1, .int .i64 s2.2.2.2.2.1, .int .i64 s2.2.2.2.2.2.1, .int .i64 s2.2.2.2.2.2.2.1, .int .i64 s2.2.2.2.2.2.2.2.1, .int .i64 s2.2.2.2.2.2.2.2.2] (by kernel_rfl) ⟨H.cell 0 rfl rfl, H.cell 0 rfl rfl, H.cell 0 rfl rfl, H.cell 0 rfl rfl, H.cell 0 rfl rfl, H.cell 0 rfl rfl, H.cell 0 rfl rfl, H.cell 0 rfl rfl, trivial⟩ ?_
 cases hm
 exact ⟨z4, z5, rfl, H.x0.t1.t1⟩

theorem shell_Decode_ok {w0 w : World} {As : List HP} {k : Nat} {sb_b : Option Addr} {sc_b : Nat} {b : List Int} {X_b : HP} {t : shell_Script × Int} (hX_b : SlRd X_b ecU 1 sb_b b) (hC_b : b.length ≤ sc_b) (hm : shell_Decode k b = some t) (H : St w0 (X_b :: As) w) :
    CallsR Tryz.prog 24 #[.slice sb_b b.length sc_b] w fun v w' => ∃ (sb0_Acts : Option Addr), ∃ (sc0_Acts : Nat), v = .tuple #[.agg #[.int .i64 t.1.Kind, .int .i64 t.1.Jobs, .int .i64 t.1.Boxes, .int .i64 t.1.Room, .slice sb0_Acts t.1.Acts.length sc0_Acts], .int .i64 t.2] ∧ St w0 (Sl 42 api_Act.enc 8 sb0_Acts sc0_Acts t.1.Acts :: X_b :: As) w' := by
 rw [shell_Decode] at hm
 refine enter (args := [.slice sb_b b.length sc_b]) Tryz.func24 rfl rfl rfl fun a hE => ?_
 refine Runs.sr ?_
 refine WR.eff hE rfl rfl rfl rfl (OpTo.new hE H [] (.cells #[.int .i64 0, .int .i64 0, .int .i64 0, .int .i64 0, .slice none 0 0] 45 (0, 0)) (fun r => .pointer (some ⟨r, 0, none⟩)) (obs := []) rfl (fun _ => by kernel_rfl) trivial) ?_
 rintro _ w ⟨r, rfl, H⟩ a hE
 refine WR.seg hE 2 [] [0, 2] (Lo := [(0, .slice sb_b b.length sc_b), (2, .pointer (some ⟨r, 0, none⟩))]) (obs := []) rfl (by kernel_rfl) trivial fun a hE => ?_
 refine WR.done rfl ?_
 refine Runs.seq ?_
 refine Runs.sr ?_
 refine WR.e0 hE [(11, .bool (decide ((b.length : Int) < 5)))] fun a hE => ?_
 refine Runs.cond hE rfl (fun c => ?_) (fun c => ?_)
 ·replace hm := cond_t c hm
  refine Runs.sr ?_
  refine WR.d0 hE 1 [(12, .agg #[.int .i64 0, .int .i64 0, .int .i64 0, .int .i64 0, .slice none 0 0])] fun a hE => ?_
  refine WR.eff0 hE rfl rfl rfl (OpTo.store hE H rfl rfl rfl rfl rfl rfl (Nat.le_of_ble_eq_true rfl)) ?_
  rintro _ w H a hE
  refine WR.e0 hE [(3, .int .i64 12)] fun a hE => ?_
  refine Runs.retO (vs := [.agg #[.int .i64 0, .int .i64 0, .int .i64 0, .int .i64 0, .slice none 0 0], .int .i64 12]) (obs := [.cell ⟨r, 0, none⟩ (.int .i64 0), .cell ⟨r, 1, none⟩ (.int .i64 0), .cell ⟨r, 2, none⟩ (.int .i64 0), .cell ⟨r, 3, none⟩ (.int .i64 0), .cell ⟨r, 4, none⟩ (.slice none 0 0)]) hE Tryz.func24 rfl [.int .i64 0, .int .i64 0, .int .i64 0, .int .i64 0, .slice none 0 0] (by kernel_rfl) ⟨H.cell 0 rfl rfl, H.cell 0 rfl rfl, H.cell 0 rfl rfl, H.cell 0 rfl rfl, H.cell 0 rfl rfl, trivial⟩ ?_
  replace H := H.slNil 42 api_Act.enc 8
  cases hm
  exact ⟨none, 0, rfl, H.x1.t1.t1⟩
 ·replace hm := cond_f c hm
  refine Runs.skip ?_
  refine Runs.sr ?_
  refine WR.d0 hE 2 [(14, .agg #[.slice sb_b b.length sc_b, .bool false])] fun a hE => ?_
  refine WR.eff hE rfl rfl rfl rfl (OpTo.new hE H [] (.cells #[.slice sb_b b.length sc_b, .bool false] 105 (0, 0)) (fun r => .pointer (some ⟨r, 0, none⟩)) (obs := []) rfl (fun _ => by kernel_rfl) trivial) ?_
  rintro _ w ⟨r1, rfl, H⟩ a hE
  refine WR.e0 hE [(4, .pointer (some ⟨r1, 0, none⟩))] fun a hE => ?_
  refine Runs.sr ?_
  refine WR.d0 hE 1 [(16, .pointer (some ⟨r1, 0, none⟩))] fun a hE => ?_
  replace H : St w0 (Pure (SlRd X_b ecU 1 sb_b b ∧ b.length ≤ sc_b) :: _) _ := St.pureI ⟨hX_b, hC_b⟩ H
  replace H := shell_reader.shut (shell_reader.A.mk X_b sb_b sc_b) (shell_reader.mk b false) H.t1
  obtain ⟨t_, et_, hm⟩ := bind_some hm
  refine WR.eff hE rfl rfl rfl rfl (OpTo.fn hE rfl rfl Tryz.call48 (shell_reader_int_ok et_ H.t2.t1)) ?_
  rintro _ w ⟨z, z1, rfl, H⟩ a hE
  refine WR.d0 hE 3 [(18, .pointer (some ⟨r1, 0, none⟩))] fun a hE => ?_
  obtain ⟨t_1, et_1, hm⟩ := bind_some hm
  refine WR.eff hE rfl rfl rfl rfl (OpTo.fn hE rfl rfl Tryz.call48 (shell_reader_int_ok et_1 H.t1.t1)) ?_
  rintro _ w ⟨z2, z3, rfl, H⟩ a hE
  refine WR.d0 hE 5 [(20, .pointer (some ⟨r1, 0, none⟩))] fun a hE => ?_
  obtain ⟨t_2, et_2, hm⟩ := bind_some hm
  refine WR.eff hE rfl rfl rfl rfl (OpTo.fn hE rfl rfl Tryz.call48 (shell_reader_int_ok et_2 H.t1.t1)) ?_
  rintro _ w ⟨z4, z5, rfl, H⟩ a hE
  refine WR.d0 hE 7 [(22, .pointer (some ⟨r1, 0, none⟩))] fun a hE => ?_
  obtain ⟨t_3, et_3, hm⟩ := bind_some hm
  refine WR.eff hE rfl rfl rfl rfl (OpTo.fn hE rfl rfl Tryz.call48 (shell_reader_int_ok et_3 H.t1.t1)) ?_
  rintro _ w ⟨z6, z7, rfl, H⟩ a hE
  refine WR.d0 hE 9 [(24, .agg #[.int .i64 t_.1, .int .i64 t_1.1, .int .i64 t_2.1, .int .i64 t_3.1, .slice none 0 0])] fun a hE => ?_
  refine WR.eff hE rfl rfl rfl rfl (OpTo.new hE H [] (.cells #[.int .i64 0, .int .i64 0, .int .i64 0, .int .i64 0, .slice none 0 0] 45 (0, 0)) (fun r => .pointer (some ⟨r, 0, none⟩)) (obs := []) rfl (fun _ => by kernel_rfl) trivial) ?_
  rintro _ w ⟨r2, rfl, H⟩ a hE
  refine WR.eff0 hE rfl rfl rfl (OpTo.store hE H rfl rfl rfl rfl rfl rfl (Nat.le_of_ble_eq_true rfl)) ?_
  rintro _ w H a hE
  refine WR.done rfl ?_
  refine Runs.seq ?_
  replace H := H.slNil 42 api_Act.enc 8
  replace H := shell_Script.shut (shell_Script.A.mk none 0) (shell_Script.mk t_.1 t_1.1 t_2.1 t_3.1 ([] : List api_Act)) H.t1
  replace H := H.slNil 42 api_Act.enc 8
  replace H := shell_Script.shut (shell_Script.A.mk none 0) (shell_Script.mk 0 0 0 0 ([] : List api_Act)) H.t4
  obtain ⟨s, es, hm⟩ := bind_some hm
  refine Runs.join (fun a w => ∃ (z12 : Option Addr), ∃ (z13 : Nat), ∃ (z14 : Option Addr), ∃ (z15 : Nat), EnvOk 60 a [(2, .pointer (some ⟨r, 0, none⟩)), (5, .pointer (some ⟨r2, 0, none⟩))] ∧ St w0 (shell_Script.R r (shell_Script.A.mk none 0) (shell_Script.mk 0 0 0 0 ([] : List api_Act)) :: shell_Script.R r2 (shell_Script.A.mk z12 z13) s.1 :: shell_reader.R r1 (shell_reader.A.mk X_b z14 z15) s.2 :: X_b :: As) w) (fun hk => ?_) ?_
  ·replace hm := es; clear es
   refine Runs.block ?_
   refine Runs.loop (fun m a w => ∃ (m_ : shell_Script), ∃ (m_1 : shell_reader), ∃ (z16 : Option Addr), ∃ (z17 : Nat), ∃ (z18 : Option Addr), ∃ (z19 : Nat), EnvOk 60 a [(2, .pointer (some ⟨r, 0, none⟩)), (4, .pointer (some ⟨r1, 0, none⟩)), (5, .pointer (some ⟨r2, 0, none⟩))] ∧ St w0 (shell_Script.R r (shell_Script.A.mk none 0) (shell_Script.mk 0 0 0 0 ([] : List api_Act)) :: shell_Script.R r2 (shell_Script.A.mk z16 z17) m_ :: shell_reader.R r1 (shell_reader.A.mk X_b z18 z19) m_1 :: X_b :: As) w ∧ shell_Decode_l0 (shell_Script.mk 0 0 0 0 ([] : List api_Act)) b m m_ m_1 = some s) k ⟨shell_Script.mk t_.1 t_1.1 t_2.1 t_3.1 ([] : List api_Act), t_3.2, none, 0, z6, z7, hE.sel [2, 4, 5] (by kernel_rfl), H.t3.t3.t3.t3, hm⟩ ?_
   rintro m ih a w ⟨m_, m_1, z16, z17, z18, z19, hE, H, hm⟩
   cases m with
   | zero => simp [shell_Decode_l0] at hm
   | succ m =>
    rw [shell_Decode_l0] at hm
    refine Runs.seq ?_
    refine Runs.seq ?_
    obtain ⟨s1, es1, hm⟩ := bind_some hm
    refine Runs.join (fun a w => EnvOk 60 a [(2, .pointer (some ⟨r, 0, none⟩)), (4, .pointer (some ⟨r1, 0, none⟩)), (5, .pointer (some ⟨r2, 0, none⟩)), (36, .bool s1)] ∧ St w0 (shell_Script.R r (shell_Script.A.mk none 0) (shell_Script.mk 0 0 0 0 ([] : List api_Act)) :: shell_Script.R r2 (shell_Script.A.mk z16 z17) m_ :: shell_reader.R r1 (shell_reader.A.mk X_b z18 z19) m_1 :: X_b :: As) w) (fun hk => ?_) ?_
    ·replace hm := es1; clear es1
     refine Runs.region ?_
     replace H := shell_reader.open H.t2
     try dsimp only at H
     obtain ⟨⟨hX1, hC1⟩, H⟩ := St.pure H.t1
     refine WR.seg hE 7 [.slice z18 m_1.b.length z19] [2, 4, 5, 31] (Lo := [(2, .pointer (some ⟨r, 0, none⟩)), (4, .pointer (some ⟨r1, 0, none⟩)), (5, .pointer (some ⟨r2, 0, none⟩)), (31, .bool (decide ((m_1.b.length : Int) > 0)))]) (obs := [.cell ⟨r1, 0, none⟩ (.slice z18 m_1.b.length z19)]) rfl (by kernel_rfl) ⟨H.cell 0 rfl rfl, trivial⟩ fun a hE => ?_
     rcases Bool.eq_false_or_eq_true (decide ((m_1.b.length : Int) > 0)) with c | c
     ·replace hE := hE.dec 31 c (by kernel_rfl)
      replace hm := cond_t c hm
      have c_ := c
      replace H := shell_Script.open H.t2
      try dsimp only at H
      refine WR.e hE [.slice z16 m_.Acts.length z17] [(36, .bool (decide ((m_.Acts.length : Int) < 256)))] (obs := [.cell ⟨r2, 4, none⟩ (.slice z16 m_.Acts.length z17)]) ⟨H.cell 0 rfl rfl, trivial⟩ fun a hE => ?_
      replace H := shell_Script.shut (shell_Script.A.mk z16 z17) (m_) H.t1.t1
      replace H : St w0 (Pure (SlRd X_b ecU 1 z18 m_1.b ∧ m_1.b.length ≤ z19) :: _) _ := St.pureI ⟨hX1, hC1⟩ H
      replace H := shell_reader.shut (shell_reader.A.mk X_b z18 z19) (m_1) H.t2
      cases hm
      exact hk _ _ ⟨hE.sel [2, 4, 5, 36] (by kernel_rfl), H.t3.t1.t2.t3⟩
     ·replace hE := hE.dec 31 c (by kernel_rfl)
      replace hm := cond_f c hm
      have c_1 := c
      refine WR.e0 hE [(36, .bool false)] fun a hE => ?_
      replace H : St w0 (Pure (SlRd X_b ecU 1 z18 m_1.b ∧ m_1.b.length ≤ z19) :: _) _ := St.pureI ⟨hX1, hC1⟩ H
      replace H := shell_reader.shut (shell_reader.A.mk X_b z18 z19) (m_1) H.t1
      cases hm
      exact hk _ _ ⟨hE.sel [2, 4, 5, 36] (by kernel_rfl), H.t3.t1.t3.t3⟩
    rintro a w ⟨hE, H⟩
    refine Runs.cond hE rfl (fun c => ?_) (fun c => ?_)
    ·replace hm := cond_t c hm
     refine Runs.skip ?_
     refine Runs.block ?_
     refine Runs.sr ?_
     refine WR.seg hE 1 [] [2, 4, 5, 37] (Lo := [(2, .pointer (some ⟨r, 0, none⟩)), (4, .pointer (some ⟨r1, 0, none⟩)), (5, .pointer (some ⟨r2, 0, none⟩)), (37, .pointer (some ⟨r1, 0, none⟩))]) (obs := []) rfl (by kernel_rfl) trivial fun a hE => ?_
     obtain ⟨t_4, et_4, hm⟩ := bind_some hm
     refine WR.eff hE rfl rfl rfl rfl (OpTo.fn hE rfl rfl Tryz.call48 (shell_reader_int_ok et_4 H.t3.t3)) ?_
     rintro _ w ⟨z20, z21, rfl, H⟩ a hE
     refine WR.e0 hE [(6, .int .i64 t_4.1)] fun a hE => ?_
     refine Runs.seq ?_
     refine Runs.seq ?_
     refine Runs.join (fun a w => EnvOk 60 a [(2, .pointer (some ⟨r, 0, none⟩)), (4, .pointer (some ⟨r1, 0, none⟩)), (5, .pointer (some ⟨r2, 0, none⟩)), (6, .int .i64 t_4.1), (44, .bool ((decide (t_4.1 < 1)) || (decide (t_4.1 > 4))))] ∧ St w0 (shell_reader.R r1 (shell_reader.A.mk X_b z20 z21) t_4.2 :: X_b :: shell_Script.R r (shell_Script.A.mk none 0) (shell_Script.mk 0 0 0 0 ([] : List api_Act)) :: shell_Script.R r2 (shell_Script.A.mk z16 z17) m_ :: As) w) (fun hk => ?_) ?_
     ·clear hm
      refine Runs.region ?_
      refine WR.d0 hE 3 [(41, .bool (decide (t_4.1 < 1)))] fun a hE => ?_
      rcases Bool.eq_false_or_eq_true (decide (t_4.1 < 1)) with c | c
      ·replace hE := hE.dec 41 c (by kernel_rfl)
       have c_2 := c
       refine WR.e0 hE [(44, .bool true)] fun a hE => ?_
       refine hk _ _ ⟨?_, H.t3.t3.t3.t3⟩
       try rw [c_2] at hE
       try rw [c_2]
       exact hE.sel [2, 4, 5, 6, 44] (by kernel_rfl)
      ·replace hE := hE.dec 41 c (by kernel_rfl)
       have c_3 := c
       refine WR.e0 hE [(44, .bool (decide (t_4.1 > 4)))] fun a hE => ?_
       refine hk _ _ ⟨?_, H.t3.t3.t3.t3⟩
       try rw [c_3] at hE
       try rw [c_3]
       exact hE.sel [2, 4, 5, 6, 44] (by kernel_rfl)
     rintro a w ⟨hE, H⟩
     refine Runs.cond hE rfl (fun c => ?_) (fun c => ?_)
     ·replace hm := cond_t c hm
      refine Runs.exit rfl ?_
      exact ih m (Nat.lt_succ_self m) _ _ ⟨m_, t_4.2, z16, z17, z20, z21, hE.sel [2, 4, 5] (by kernel_rfl), H.t1.t1.t3.t3, hm⟩
     ·replace hm := cond_f c hm
      refine Runs.skip ?_
      refine Runs.sr ?_
      refine WR.seg hE 2 [] [2, 4, 5, 46, 47] (Lo := [(2, .pointer (some ⟨r, 0, none⟩)), (4, .pointer (some ⟨r1, 0, none⟩)), (5, .pointer (some ⟨r2, 0, none⟩)), (46, .pointer (some ⟨r1, 0, none⟩)), (47, .int .i64 t_4.1)]) (obs := []) rfl (by kernel_rfl) trivial fun a hE => ?_
      obtain ⟨t_5, et_5, hm⟩ := bind_some hm
      refine WR.eff hE rfl rfl rfl rfl (OpTo.fn hE rfl rfl Tryz.call49 (shell_take_ok et_5 H.t1.t1)) ?_
      rintro _ w ⟨z22, z23, rfl, H⟩ a hE
      refine WR.d0 hE 6 [(49, .agg #[.int .i64 t_5.1.Kind, .int .i64 t_5.1.Box, .int .i64 t_5.1.Command.Kind, .int .i64 t_5.1.Command.Queue, .int .i64 t_5.1.Command.Job.At, .int .i64 t_5.1.Command.Job.Gen, .int .i64 t_5.1.Command.Time, .int .i64 t_5.1.Command.Data]), (50, .bool t_5.2.1)] fun a hE => ?_
      refine WR.eff hE rfl rfl rfl rfl (OpTo.new hE H [] (.cells #[.int .i64 0, .int .i64 0, .int .i64 0, .int .i64 0, .int .i64 0, .int .i64 0, .int .i64 0, .int .i64 0] 42 (0, 0)) (fun r => .pointer (some ⟨r, 0, none⟩)) (obs := []) rfl (fun _ => by kernel_rfl) trivial) ?_
      rintro _ w ⟨r3, rfl, H⟩ a hE
      refine WR.eff0 hE rfl rfl rfl (OpTo.store hE H rfl rfl rfl rfl rfl rfl (Nat.le_of_ble_eq_true rfl)) ?_
      rintro _ w H a hE
      refine WR.e0 hE [(8, .bool t_5.2.1)] fun a hE => ?_
      refine Runs.seq ?_
      refine Runs.sr ?_
      refine WR.e0 hE [(52, .bool (!t_5.2.1))] fun a hE => ?_
      refine Runs.cond hE rfl (fun c => ?_) (fun c => ?_)
      ·replace hm := cond_t c hm
       refine Runs.exit rfl ?_
       cases hm
       exact hk _ _ ⟨z16, z17, z22, z23, hE.sel [2, 5] (by kernel_rfl), H.x0.t1.t1.t3.t3⟩
      ·replace hm := cond_f c hm
       refine Runs.skip ?_
       refine Runs.region ?_
       replace H := shell_Script.open H.t4
       try dsimp only at H
       refine WR.d hE 3 [.slice z16 m_.Acts.length z17, .int .i64 t_5.1.Kind, .int .i64 t_5.1.Box, .int .i64 t_5.1.Command.Kind, .int .i64 t_5.1.Command.Queue, .int .i64 t_5.1.Command.Job.At, .int .i64 t_5.1.Command.Job.Gen, .int .i64 t_5.1.Command.Time, .int .i64 t_5.1.Command.Data] [(54, .slice z16 m_.Acts.length z17), (55, .agg #[.int .i64 t_5.1.Kind, .int .i64 t_5.1.Box, .int .i64 t_5.1.Command.Kind, .int .i64 t_5.1.Command.Queue, .int .i64 t_5.1.Command.Job.At, .int .i64 t_5.1.Command.Job.Gen, .int .i64 t_5.1.Command.Time, .int .i64 t_5.1.Command.Data])] (obs := [.cell ⟨r2, 4, none⟩ (.slice z16 m_.Acts.length z17), .cell ⟨r3, 0, none⟩ (.int .i64 t_5.1.Kind), .cell ⟨r3, 1, none⟩ (.int .i64 t_5.1.Box), .cell ⟨r3, 2, none⟩ (.int .i64 t_5.1.Command.Kind), .cell ⟨r3, 3, none⟩ (.int .i64 t_5.1.Command.Queue), .cell ⟨r3, 4, none⟩ (.int .i64 t_5.1.Command.Job.At), .cell ⟨r3, 5, none⟩ (.int .i64 t_5.1.Command.Job.Gen), .cell ⟨r3, 6, none⟩ (.int .i64 t_5.1.Command.Time), .cell ⟨r3, 7, none⟩ (.int .i64 t_5.1.Command.Data)]) ⟨H.cell 0 rfl rfl, H.cell 2 rfl rfl, H.cell 2 rfl rfl, H.cell 2 rfl rfl, H.cell 2 rfl rfl, H.cell 2 rfl rfl, H.cell 2 rfl rfl, H.cell 2 rfl rfl, H.cell 2 rfl rfl, trivial⟩ fun a hE => ?_
       refine WR.eff hE rfl rfl rfl rfl (OpTo.buildSl (T := 42) hE H api_Act.enc_ok ([t_5.1] : List api_Act) rfl (fun _ => by kernel_rfl) rfl rfl rfl) ?_
       rintro _ w ⟨r4, rfl, H⟩ a hE
       obtain ⟨l1, el1, hm⟩ := bind_some hm
       replace H := H.t2
       refine WR.eff hE rfl rfl rfl rfl (OpTo.appendM el1 hE H api_Act.enc_ok rfl rfl rfl rfl rfl rfl rfl rfl rfl rfl (SlRd.all (sl_rd 42 api_Act.enc 8 _ _ _) api_Act.enc_ok H 1 rfl) rfl) ?_
       rintro _ w ⟨sb, sc, rfl, H⟩ a hE
       refine WR.d0 hE 6 [(58, .pointer (some ⟨r2, 4, none⟩))] fun a hE => ?_
       refine WR.eff0 hE rfl rfl rfl (OpTo.store hE H.t2 rfl rfl rfl rfl rfl rfl (Nat.le_of_ble_eq_true rfl)) ?_
       rintro _ w H a hE
       refine WR.done rfl ?_
       refine Runs.inBlock ?_
       replace H := shell_Script.shut (shell_Script.A.mk sb sc) (shell_Script.mk m_.Kind m_.Jobs m_.Boxes m_.Room l1) H.t1.t1
       exact ih m (Nat.lt_succ_self m) _ _ ⟨shell_Script.mk m_.Kind m_.Jobs m_.Boxes m_.Room l1, t_5.2.2, sb, sc, z22, z23, hE.sel [2, 4, 5] (by kernel_rfl), H.x2.x1.t2.t2.t2.t3, hm⟩
    ·replace hm := cond_f c hm
     refine Runs.exit rfl ?_
     cases hm
     exact hk _ _ ⟨z16, z17, z18, z19, hE.sel [2, 5] (by kernel_rfl), H.t3.t3.t3.t3⟩
  rintro a w ⟨z12, z13, z14, z15, hE, H⟩
  refine Runs.sr ?_
  replace H := shell_Script.open H.t1
  try dsimp only at H
  refine WR.seg hE 1 [.int .i64 s.1.Kind, .int .i64 s.1.Jobs, .int .i64 s.1.Boxes, .int .i64 s.1.Room, .slice z12 s.1.Acts.length z13] [2, 59] (Lo := [(2, .pointer (some ⟨r, 0, none⟩)), (59, .agg #[.int .i64 s.1.Kind, .int .i64 s.1.Jobs, .int .i64 s.1.Boxes, .int .i64 s.1.Room, .slice z12 s.1.Acts.length z13])]) (obs := [.cell ⟨r2, 0, none⟩ (.int .i64 s.1.Kind), .cell ⟨r2, 1, none⟩ (.int .i64 s.1.Jobs), .cell ⟨r2, 2, none⟩ (.int .i64 s.1.Boxes), .cell ⟨r2, 3, none⟩ (.int .i64 s.1.Room), .cell ⟨r2, 4, none⟩ (.slice z12 s.1.Acts.length z13)]) rfl (by kernel_rfl) ⟨H.cell 0 rfl rfl, H.cell 0 rfl rfl, H.cell 0 rfl rfl, H.cell 0 rfl rfl, H.cell 0 rfl rfl, trivial⟩ fun a hE => ?_
  replace H := shell_Script.open H.t2
  try dsimp only at H
  refine WR.eff0 hE rfl rfl rfl (OpTo.store hE H rfl rfl rfl rfl rfl rfl (Nat.le_of_ble_eq_true rfl)) ?_
  rintro _ w H a hE
  refine WR.e0 hE [(3, .int .i64 0)] fun a hE => ?_
  refine Runs.retO (vs := [.agg #[.int .i64 s.1.Kind, .int .i64 s.1.Jobs, .int .i64 s.1.Boxes, .int .i64 s.1.Room, .slice z12 s.1.Acts.length z13], .int .i64 0]) (obs := [.cell ⟨r, 0, none⟩ (.int .i64 s.1.Kind), .cell ⟨r, 1, none⟩ (.int .i64 s.1.Jobs), .cell ⟨r, 2, none⟩ (.int .i64 s.1.Boxes), .cell ⟨r, 3, none⟩ (.int .i64 s.1.Room), .cell ⟨r, 4, none⟩ (.slice z12 s.1.Acts.length z13)]) hE Tryz.func24 rfl [.int .i64 s.1.Kind, .int .i64 s.1.Jobs, .int .i64 s.1.Boxes, .int .i64 s.1.Room, .slice z12 s.1.Acts.length z13] (by kernel_rfl) ⟨H.cell 0 rfl rfl, H.cell 0 rfl rfl, H.cell 0 rfl rfl, H.cell 0 rfl rfl, H.cell 0 rfl rfl, trivial⟩ ?_
  cases hm
  exact ⟨z12, z13, rfl, H.x4.x2.x1.x0.t1.t1⟩

theorem thicketlaw28_command_ok {w0 w : World} {As : List HP} {k : Nat} {sb_b : Option Addr} {sc_b : Nat} {b : List Int} {X_b : HP} {t : api_Command × Bool} (hX_b : SlRd X_b ecU 1 sb_b b) (hC_b : b.length ≤ sc_b) (hm : thicketlaw28_command k b = some t) (H : St w0 (X_b :: As) w) :
    CallsR Tryz.prog 66 #[.slice sb_b b.length sc_b] w fun v w' => v = .tuple #[.agg #[.int .i64 t.1.Kind, .int .i64 t.1.Queue, .int .i64 t.1.Job.At, .int .i64 t.1.Job.Gen, .int .i64 t.1.Time, .int .i64 t.1.Data], .bool t.2] ∧ St w0 (X_b :: As) w' := by
 rw [thicketlaw28_command] at hm
 refine enter (args := [.slice sb_b b.length sc_b]) Tryz.func66 rfl rfl rfl fun a hE => ?_
 refine Runs.sr ?_
 refine WR.eff hE rfl rfl rfl rfl (OpTo.new hE H [] (.cells #[.int .i64 0, .int .i64 0, .int .i64 0, .int .i64 0, .int .i64 0, .int .i64 0] 33 (0, 0)) (fun r => .pointer (some ⟨r, 0, none⟩)) (obs := []) rfl (fun _ => by kernel_rfl) trivial) ?_
 rintro _ w ⟨r, rfl, H⟩ a hE
 refine WR.seg hE 2 [] [0, 2] (Lo := [(0, .slice sb_b b.length sc_b), (2, .pointer (some ⟨r, 0, none⟩))]) (obs := []) rfl (by kernel_rfl) trivial fun a hE => ?_
 refine WR.done rfl ?_
 refine Runs.seq ?_
 refine Runs.drawn mixed (by kernel_rfl) ?_
 replace H := H.drew
 obtain ⟨x, ex, hm⟩ := bind_some hm
 obtain ⟨b1, o, hs, hb⟩ := SlRd.base hX_b ecU_ok H 1 rfl ex
 obtain ⟨x1, ex1, hm⟩ := bind_some hm
 obtain ⟨b2, o1, hs1, hb1⟩ := SlRd.base hX_b ecU_ok H 1 rfl ex1
 obtain ⟨x2, ex2, hm⟩ := bind_some hm
 obtain ⟨b3, o2, hs2, hb2⟩ := SlRd.base hX_b ecU_ok H 1 rfl ex2
 obtain ⟨x3, ex3, hm⟩ := bind_some hm
 obtain ⟨b4, o3, hs3, hb3⟩ := SlRd.base hX_b ecU_ok H 1 rfl ex3
 obtain ⟨x4, ex4, hm⟩ := bind_some hm
 obtain ⟨b5, o4, hs4, hb4⟩ := SlRd.base hX_b ecU_ok H 1 rfl ex4
 obtain ⟨x5, ex5, hm⟩ := bind_some hm
 obtain ⟨b6, o5, hs5, hb5⟩ := SlRd.base hX_b ecU_ok H 1 rfl ex5
 obtain ⟨x6, ex6, hm⟩ := bind_some hm
 obtain ⟨b7, o6, hs6, hb6⟩ := SlRd.base hX_b ecU_ok H 1 rfl ex6
 obtain ⟨x7, ex7, hm⟩ := bind_some hm
 obtain ⟨b8, o7, hs7, hb7⟩ := SlRd.base hX_b ecU_ok H 1 rfl ex7
 refine WQ.d hE [0, 1, 2, 3, 4, 5, 6, 7, 8, 9, 10, 11, 12, 13, 14, 15, 16, 17, 18, 19, 20, 21, 22, 23, 24, 25, 26, 27, 28, 29, 30, 31, 32, 33, 34, 35, 36, 37, 38, 39] [.pointer (some ⟨b1, o, none⟩), .int .u8 x, .pointer (some ⟨b2, o1, none⟩), .int .u8 x1, .pointer (some ⟨b3, o2, none⟩), .int .u8 x2, .pointer (some ⟨b4, o3, none⟩), .int .u8 x3, .pointer (some ⟨b5, o4, none⟩), .int .u8 x4, .pointer (some ⟨b6, o5, none⟩), .int .u8 x5, .pointer (some ⟨b7, o6, none⟩), .int .u8 x6, .pointer (some ⟨b8, o7, none⟩), .int .u8 x7] [(46, .agg #[.int .i64 (w64 (x)), .int .i64 (w64 (x1)), .int .i64 (IntKind.wrap .i64 ((BitVec.ofInt 64 (w64 ((w64 (x2)) * 2 ^ (min (Int.toNat 8) 64))) ||| BitVec.ofInt 64 (w64 (x3))).toNat : Int)), .int .i64 (IntKind.wrap .i64 ((BitVec.ofInt 64 (w64 ((w64 (x4)) * 2 ^ (min (Int.toNat 8) 64))) ||| BitVec.ofInt 64 (w64 (x5))).toNat : Int)), .int .i64 0, .int .i64 (IntKind.wrap .i64 ((BitVec.ofInt 64 (w64 ((w64 (x6)) * 2 ^ (min (Int.toNat 8) 64))) ||| BitVec.ofInt 64 (w64 (x7))).toNat : Int))])] (obs := [.p ((sb_b : Option Addr) = some ⟨b1, o, none⟩), .p (0 ≤ (0 : Int) ∧ (0 : Int) < ((b.length : Nat) : Int)), .cell ⟨b1, o + (Int.toNat 0) * 1, none⟩ (.int .u8 x), .p ((sb_b : Option Addr) = some ⟨b2, o1, none⟩), .p (0 ≤ (1 : Int) ∧ (1 : Int) < ((b.length : Nat) : Int)), .cell ⟨b2, o1 + (Int.toNat 1) * 1, none⟩ (.int .u8 x1), .p ((sb_b : Option Addr) = some ⟨b3, o2, none⟩), .p (0 ≤ (2 : Int) ∧ (2 : Int) < ((b.length : Nat) : Int)), .cell ⟨b3, o2 + (Int.toNat 2) * 1, none⟩ (.int .u8 x2), .p (0 ≤ (8 : Int)), .p ((sb_b : Option Addr) = some ⟨b4, o3, none⟩), .p (0 ≤ (3 : Int) ∧ (3 : Int) < ((b.length : Nat) : Int)), .cell ⟨b4, o3 + (Int.toNat 3) * 1, none⟩ (.int .u8 x3), .p ((sb_b : Option Addr) = some ⟨b5, o4, none⟩), .p (0 ≤ (4 : Int) ∧ (4 : Int) < ((b.length : Nat) : Int)), .cell ⟨b5, o4 + (Int.toNat 4) * 1, none⟩ (.int .u8 x4), .p (0 ≤ (8 : Int)), .p ((sb_b : Option Addr) = some ⟨b6, o5, none⟩), .p (0 ≤ (5 : Int) ∧ (5 : Int) < ((b.length : Nat) : Int)), .cell ⟨b6, o5 + (Int.toNat 5) * 1, none⟩ (.int .u8 x5), .p ((sb_b : Option Addr) = some ⟨b7, o6, none⟩), .p (0 ≤ (14 : Int) ∧ (14 : Int) < ((b.length : Nat) : Int)), .cell ⟨b7, o6 + (Int.toNat 14) * 1, none⟩ (.int .u8 x6), .p (0 ≤ (8 : Int)), .p ((sb_b : Option Addr) = some ⟨b8, o7, none⟩), .p (0 ≤ (15 : Int) ∧ (15 : Int) < ((b.length : Nat) : Int)), .cell ⟨b8, o7 + (Int.toNat 15) * 1, none⟩ (.int .u8 x7)]) ⟨hs, hb, SlRd.cells hX_b ecU_ok H 1 rfl hs ex 0 _ rfl, hs1, hb1, SlRd.cells hX_b ecU_ok H 1 rfl hs1 ex1 0 _ rfl, hs2, hb2, SlRd.cells hX_b ecU_ok H 1 rfl hs2 ex2 0 _ rfl, (by show _ ≤ _; decide), hs3, hb3, SlRd.cells hX_b ecU_ok H 1 rfl hs3 ex3 0 _ rfl, hs4, hb4, SlRd.cells hX_b ecU_ok H 1 rfl hs4 ex4 0 _ rfl, (by show _ ≤ _; decide), hs5, hb5, SlRd.cells hX_b ecU_ok H 1 rfl hs5 ex5 0 _ rfl, hs6, hb6, SlRd.cells hX_b ecU_ok H 1 rfl hs6 ex6 0 _ rfl, (by show _ ≤ _; decide), hs7, hb7, SlRd.cells hX_b ecU_ok H 1 rfl hs7 ex7 0 _ rfl, trivial⟩ fun a hE => ?_
 refine WQ.eff (j := 40) (obs := [.cell ⟨b8, o7 + (Int.toNat 15) * 1, none⟩ (.int .u8 x7), .p ((sb_b : Option Addr) = some ⟨b8, o7, none⟩), .p (0 ≤ (15 : Int) ∧ (15 : Int) < ((b.length : Nat) : Int)), .p (0 ≤ (8 : Int)), .cell ⟨b7, o6 + (Int.toNat 14) * 1, none⟩ (.int .u8 x6), .p ((sb_b : Option Addr) = some ⟨b7, o6, none⟩), .p (0 ≤ (14 : Int) ∧ (14 : Int) < ((b.length : Nat) : Int)), .cell ⟨b6, o5 + (Int.toNat 5) * 1, none⟩ (.int .u8 x5), .p ((sb_b : Option Addr) = some ⟨b6, o5, none⟩), .p (0 ≤ (5 : Int) ∧ (5 : Int) < ((b.length : Nat) : Int)), .p (0 ≤ (8 : Int)), .cell ⟨b5, o4 + (Int.toNat 4) * 1, none⟩ (.int .u8 x4), .p ((sb_b : Option Addr) = some ⟨b5, o4, none⟩), .p (0 ≤ (4 : Int) ∧ (4 : Int) < ((b.length : Nat) : Int)), .cell ⟨b4, o3 + (Int.toNat 3) * 1, none⟩ (.int .u8 x3), .p ((sb_b : Option Addr) = some ⟨b4, o3, none⟩), .p (0 ≤ (3 : Int) ∧ (3 : Int) < ((b.length : Nat) : Int)), .p (0 ≤ (8 : Int)), .cell ⟨b3, o2 + (Int.toNat 2) * 1, none⟩ (.int .u8 x2), .p ((sb_b : Option Addr) = some ⟨b3, o2, none⟩), .p (0 ≤ (2 : Int) ∧ (2 : Int) < ((b.length : Nat) : Int)), .cell ⟨b2, o1 + (Int.toNat 1) * 1, none⟩ (.int .u8 x1), .p ((sb_b : Option Addr) = some ⟨b2, o1, none⟩), .p (0 ≤ (1 : Int) ∧ (1 : Int) < ((b.length : Nat) : Int)), .cell ⟨b1, o + (Int.toNat 0) * 1, none⟩ (.int .u8 x), .p ((sb_b : Option Addr) = some ⟨b1, o, none⟩), .p (0 ≤ (0 : Int) ∧ (0 : Int) < ((b.length : Nat) : Int))]) hE (by kernel_rfl) rfl rfl rfl rfl (by kernel_rfl) (OpTo.new hE H [] (.cells #[.int .i64 0, .int .i64 0, .int .i64 0, .int .i64 0, .int .i64 0, .int .i64 0] 33 (0, 0)) (fun r => .pointer (some ⟨r, 0, none⟩)) (obs := []) rfl (fun _ => by kernel_rfl) trivial) ?_
 rintro _ w ⟨r1, rfl, H⟩
 refine ⟨⟨SlRd.cells hX_b ecU_ok H 2 rfl hs7 ex7 0 _ rfl, hs7, hb7, (by show _ ≤ _; decide), SlRd.cells hX_b ecU_ok H 2 rfl hs6 ex6 0 _ rfl, hs6, hb6, SlRd.cells hX_b ecU_ok H 2 rfl hs5 ex5 0 _ rfl, hs5, hb5, (by show _ ≤ _; decide), SlRd.cells hX_b ecU_ok H 2 rfl hs4 ex4 0 _ rfl, hs4, hb4, SlRd.cells hX_b ecU_ok H 2 rfl hs3 ex3 0 _ rfl, hs3, hb3, (by show _ ≤ _; decide), SlRd.cells hX_b ecU_ok H 2 rfl hs2 ex2 0 _ rfl, hs2, hb2, SlRd.cells hX_b ecU_ok H 2 rfl hs1 ex1 0 _ rfl, hs1, hb1, SlRd.cells hX_b ecU_ok H 2 rfl hs ex 0 _ rfl, hs, hb, trivial⟩, fun a hE => ?_⟩
 refine WQ.eff0 (j := 41) (obs := []) hE (by kernel_rfl) rfl rfl rfl (by kernel_rfl) (OpTo.store hE H rfl rfl rfl rfl rfl rfl (Nat.le_of_ble_eq_true rfl)) ?_
 rintro _ w H
 refine ⟨trivial, fun a hE => ?_⟩
 refine WQ.done (by kernel_rfl) ?_
 refine Runs.sr ?_
 refine WR.e0 hE [(5, .int .u64 0)] fun a hE => ?_
 refine Runs.seq ?_
 refine Runs.sr ?_
 refine WR.e0 hE [(6, .int .i64 6)] fun a hE => ?_
 obtain ⟨s, es, hm⟩ := bind_some hm
 refine Runs.join (fun a w => EnvOk 66 a [(2, .pointer (some ⟨r, 0, none⟩)), (4, .pointer (some ⟨r1, 0, none⟩)), (5, .int .u64 s)] ∧ St w0 (Blk r1 33 [.int .i64 (w64 (x)), .int .i64 (w64 (x1)), .int .i64 (IntKind.wrap .i64 ((BitVec.ofInt 64 (w64 ((w64 (x2)) * 2 ^ (min (Int.toNat 8) 64))) ||| BitVec.ofInt 64 (w64 (x3))).toNat : Int)), .int .i64 (IntKind.wrap .i64 ((BitVec.ofInt 64 (w64 ((w64 (x4)) * 2 ^ (min (Int.toNat 8) 64))) ||| BitVec.ofInt 64 (w64 (x5))).toNat : Int)), .int .i64 0, .int .i64 (IntKind.wrap .i64 ((BitVec.ofInt 64 (w64 ((w64 (x6)) * 2 ^ (min (Int.toNat 8) 64))) ||| BitVec.ofInt 64 (w64 (x7))).toNat : Int))] :: Blk r 33 [.int .i64 0, .int .i64 0, .int .i64 0, .int .i64 0, .int .i64 0, .int .i64 0] :: X_b :: As) w) (fun hk => ?_) ?_
 ·replace hm := es; clear es
  refine Runs.block ?_
  refine Runs.loop (fun m a w => ∃ (t_ : Int), ∃ (k_ : Int), EnvOk 66 a [(0, .slice sb_b b.length sc_b), (2, .pointer (some ⟨r, 0, none⟩)), (4, .pointer (some ⟨r1, 0, none⟩)), (5, .int .u64 t_), (6, .int .i64 k_)] ∧ St w0 (Blk r1 33 [.int .i64 (w64 (x)), .int .i64 (w64 (x1)), .int .i64 (IntKind.wrap .i64 ((BitVec.ofInt 64 (w64 ((w64 (x2)) * 2 ^ (min (Int.toNat 8) 64))) ||| BitVec.ofInt 64 (w64 (x3))).toNat : Int)), .int .i64 (IntKind.wrap .i64 ((BitVec.ofInt 64 (w64 ((w64 (x4)) * 2 ^ (min (Int.toNat 8) 64))) ||| BitVec.ofInt 64 (w64 (x5))).toNat : Int)), .int .i64 0, .int .i64 (IntKind.wrap .i64 ((BitVec.ofInt 64 (w64 ((w64 (x6)) * 2 ^ (min (Int.toNat 8) 64))) ||| BitVec.ofInt 64 (w64 (x7))).toNat : Int))] :: Blk r 33 [.int .i64 0, .int .i64 0, .int .i64 0, .int .i64 0, .int .i64 0, .int .i64 0] :: X_b :: As) w ∧ thicketlaw28_command_l0 (w64 (x)) (w64 (x1)) (IntKind.wrap .i64 ((BitVec.ofInt 64 (w64 ((w64 (x2)) * 2 ^ (min (Int.toNat 8) 64))) ||| BitVec.ofInt 64 (w64 (x3))).toNat : Int)) (IntKind.wrap .i64 ((BitVec.ofInt 64 (w64 ((w64 (x4)) * 2 ^ (min (Int.toNat 8) 64))) ||| BitVec.ofInt 64 (w64 (x5))).toNat : Int)) (IntKind.wrap .i64 ((BitVec.ofInt 64 (w64 ((w64 (x6)) * 2 ^ (min (Int.toNat 8) 64))) ||| BitVec.ofInt 64 (w64 (x7))).toNat : Int)) b m t_ k_ = some s) k ⟨0, 6, hE.sel [0, 2, 4, 5, 6] (by kernel_rfl), H.t2.t2.t2, hm⟩ ?_
  rintro m ih a w ⟨t_, k_, hE, H, hm⟩
  cases m with
  | zero => simp [thicketlaw28_command_l0] at hm
  | succ m =>
   rw [thicketlaw28_command_l0] at hm
   refine Runs.seq ?_
   refine Runs.sr ?_
   refine WR.seg hE 2 [] [0, 2, 4, 5, 6, 48] (Lo := [(0, .slice sb_b b.length sc_b), (2, .pointer (some ⟨r, 0, none⟩)), (4, .pointer (some ⟨r1, 0, none⟩)), (5, .int .u64 t_), (6, .int .i64 k_), (48, .bool (decide (k_ < 14)))]) (obs := []) rfl (by kernel_rfl) trivial fun a hE => ?_
   refine WR.done rfl ?_
   refine Runs.cond hE rfl (fun c => ?_) (fun c => ?_)
   ·replace hm := cond_t c hm
    refine Runs.skip ?_
    refine Runs.seq ?_
    refine Runs.block ?_
    refine Runs.region ?_
    obtain ⟨x8, ex8, hm⟩ := bind_some hm
    obtain ⟨b9, o8, hs8, hb8⟩ := SlRd.base hX_b ecU_ok H 2 rfl ex8
    refine WR.e hE [.pointer (some ⟨b9, o8, none⟩), .int .u8 x8] [(5, .int .u64 (IntKind.wrap .u64 ((BitVec.ofInt 64 (IntKind.wrap .u64 (t_ * 2 ^ (min (Int.toNat 8) 64))) ||| BitVec.ofInt 64 (IntKind.wrap .u64 (x8))).toNat : Int)))] (obs := [.p (0 ≤ (8 : Int)), .p ((sb_b : Option Addr) = some ⟨b9, o8, none⟩), .p (0 ≤ (k_ : Int) ∧ (k_ : Int) < ((b.length : Nat) : Int)), .cell ⟨b9, o8 + (Int.toNat k_) * 1, none⟩ (.int .u8 x8)]) ⟨(by show _ ≤ _; decide), hs8, hb8, SlRd.cells hX_b ecU_ok H 2 rfl hs8 ex8 0 _ rfl, trivial⟩ fun a hE => ?_
    refine Runs.inBlock ?_
    refine Runs.region ?_
    refine WR.e0 hE [(6, .int .i64 (w64 (k_ + 1)))] fun a hE => ?_
    exact ih m (Nat.lt_succ_self m) _ _ ⟨IntKind.wrap .u64 ((BitVec.ofInt 64 (IntKind.wrap .u64 (t_ * 2 ^ (min (Int.toNat 8) 64))) ||| BitVec.ofInt 64 (IntKind.wrap .u64 (x8))).toNat : Int), w64 (k_ + 1), hE.sel [0, 2, 4, 5, 6] (by kernel_rfl), H.t2.t2.t2, hm⟩
   ·replace hm := cond_f c hm
    refine Runs.exit rfl ?_
    cases hm
    exact hk _ _ ⟨hE.sel [2, 4, 5] (by kernel_rfl), H.t2.t2.t2⟩
 rintro a w ⟨hE, H⟩
 refine Runs.sr ?_
 refine WR.seg hE 3 [] [2, 4, 60, 61] (Lo := [(2, .pointer (some ⟨r, 0, none⟩)), (4, .pointer (some ⟨r1, 0, none⟩)), (60, .int .i64 (w64 (s))), (61, .pointer (some ⟨r1, 4, none⟩))]) (obs := []) rfl (by kernel_rfl) trivial fun a hE => ?_
 refine WR.eff0 hE rfl rfl rfl (OpTo.store hE H rfl rfl rfl rfl rfl rfl (Nat.le_of_ble_eq_true rfl)) ?_
 rintro _ w H a hE
 refine WR.done rfl ?_
 refine Runs.seq ?_
 refine Runs.drawn mixed (by kernel_rfl) ?_
 replace H := H.drew
 refine WQ.d hE [0, 1, 2, 3] [.int .i64 (w64 (x)), .int .i64 (w64 (x1)), .int .i64 (IntKind.wrap .i64 ((BitVec.ofInt 64 (w64 ((w64 (x2)) * 2 ^ (min (Int.toNat 8) 64))) ||| BitVec.ofInt 64 (w64 (x3))).toNat : Int)), .int .i64 (IntKind.wrap .i64 ((BitVec.ofInt 64 (w64 ((w64 (x4)) * 2 ^ (min (Int.toNat 8) 64))) ||| BitVec.ofInt 64 (w64 (x5))).toNat : Int)), .int .i64 (w64 (s)), .int .i64 (IntKind.wrap .i64 ((BitVec.ofInt 64 (w64 ((w64 (x6)) * 2 ^ (min (Int.toNat 8) 64))) ||| BitVec.ofInt 64 (w64 (x7))).toNat : Int)), .int .i64 (w64 (x1))] [(62, .agg #[.int .i64 (w64 (x)), .int .i64 (w64 (x1)), .int .i64 (IntKind.wrap .i64 ((BitVec.ofInt 64 (w64 ((w64 (x2)) * 2 ^ (min (Int.toNat 8) 64))) ||| BitVec.ofInt 64 (w64 (x3))).toNat : Int)), .int .i64 (IntKind.wrap .i64 ((BitVec.ofInt 64 (w64 ((w64 (x4)) * 2 ^ (min (Int.toNat 8) 64))) ||| BitVec.ofInt 64 (w64 (x5))).toNat : Int)), .int .i64 (w64 (s)), .int .i64 (IntKind.wrap .i64 ((BitVec.ofInt 64 (w64 ((w64 (x6)) * 2 ^ (min (Int.toNat 8) 64))) ||| BitVec.ofInt 64 (w64 (x7))).toNat : Int))]), (65, .bool (decide (w64 (x1) ≤ 1)))] (obs := [.cell ⟨r1, 0, none⟩ (.int .i64 (w64 (x))), .cell ⟨r1, 1, none⟩ (.int .i64 (w64 (x1))), .cell ⟨r1, 2, none⟩ (.int .i64 (IntKind.wrap .i64 ((BitVec.ofInt 64 (w64 ((w64 (x2)) * 2 ^ (min (Int.toNat 8) 64))) ||| BitVec.ofInt 64 (w64 (x3))).toNat : Int))), .cell ⟨r1, 3, none⟩ (.int .i64 (IntKind.wrap .i64 ((BitVec.ofInt 64 (w64 ((w64 (x4)) * 2 ^ (min (Int.toNat 8) 64))) ||| BitVec.ofInt 64 (w64 (x5))).toNat : Int))), .cell ⟨r1, 4, none⟩ (.int .i64 (w64 (s))), .cell ⟨r1, 5, none⟩ (.int .i64 (IntKind.wrap .i64 ((BitVec.ofInt 64 (w64 ((w64 (x6)) * 2 ^ (min (Int.toNat 8) 64))) ||| BitVec.ofInt 64 (w64 (x7))).toNat : Int))), .cell ⟨r1, 1, none⟩ (.int .i64 (w64 (x1)))]) ⟨H.cell 0 rfl rfl, H.cell 0 rfl rfl, H.cell 0 rfl rfl, H.cell 0 rfl rfl, H.cell 0 rfl rfl, H.cell 0 rfl rfl, H.cell 0 rfl rfl, trivial⟩ fun a hE => ?_
 refine WQ.eff0 (j := 4) (obs := [.cell ⟨r1, 1, none⟩ (.int .i64 (w64 (x1)))]) hE (by kernel_rfl) rfl rfl rfl (by kernel_rfl) (OpTo.store hE H.t1 rfl rfl rfl rfl rfl rfl (Nat.le_of_ble_eq_true rfl)) ?_
 rintro _ w H
 refine ⟨⟨H.cell 1 rfl rfl, trivial⟩, fun a hE => ?_⟩
 refine WQ.d0 hE [5] [(3, .bool (decide (w64 (x1) ≤ 1)))] fun a hE => ?_
 refine WQ.done (by kernel_rfl) ?_
 refine Runs.retO (vs := [.agg #[.int .i64 (w64 (x)), .int .i64 (w64 (x1)), .int .i64 (IntKind.wrap .i64 ((BitVec.ofInt 64 (w64 ((w64 (x2)) * 2 ^ (min (Int.toNat 8) 64))) ||| BitVec.ofInt 64 (w64 (x3))).toNat : Int)), .int .i64 (IntKind.wrap .i64 ((BitVec.ofInt 64 (w64 ((w64 (x4)) * 2 ^ (min (Int.toNat 8) 64))) ||| BitVec.ofInt 64 (w64 (x5))).toNat : Int)), .int .i64 (w64 (s)), .int .i64 (IntKind.wrap .i64 ((BitVec.ofInt 64 (w64 ((w64 (x6)) * 2 ^ (min (Int.toNat 8) 64))) ||| BitVec.ofInt 64 (w64 (x7))).toNat : Int))], .bool (decide (w64 (x1) ≤ 1))]) (obs := [.cell ⟨r, 0, none⟩ (.int .i64 (w64 (x))), .cell ⟨r, 1, none⟩ (.int .i64 (w64 (x1))), .cell ⟨r, 2, none⟩ (.int .i64 (IntKind.wrap .i64 ((BitVec.ofInt 64 (w64 ((w64 (x2)) * 2 ^ (min (Int.toNat 8) 64))) ||| BitVec.ofInt 64 (w64 (x3))).toNat : Int))), .cell ⟨r, 3, none⟩ (.int .i64 (IntKind.wrap .i64 ((BitVec.ofInt 64 (w64 ((w64 (x4)) * 2 ^ (min (Int.toNat 8) 64))) ||| BitVec.ofInt 64 (w64 (x5))).toNat : Int))), .cell ⟨r, 4, none⟩ (.int .i64 (w64 (s))), .cell ⟨r, 5, none⟩ (.int .i64 (IntKind.wrap .i64 ((BitVec.ofInt 64 (w64 ((w64 (x6)) * 2 ^ (min (Int.toNat 8) 64))) ||| BitVec.ofInt 64 (w64 (x7))).toNat : Int)))]) hE Tryz.func66 rfl [.int .i64 (w64 (x)), .int .i64 (w64 (x1)), .int .i64 (IntKind.wrap .i64 ((BitVec.ofInt 64 (w64 ((w64 (x2)) * 2 ^ (min (Int.toNat 8) 64))) ||| BitVec.ofInt 64 (w64 (x3))).toNat : Int)), .int .i64 (IntKind.wrap .i64 ((BitVec.ofInt 64 (w64 ((w64 (x4)) * 2 ^ (min (Int.toNat 8) 64))) ||| BitVec.ofInt 64 (w64 (x5))).toNat : Int)), .int .i64 (w64 (s)), .int .i64 (IntKind.wrap .i64 ((BitVec.ofInt 64 (w64 ((w64 (x6)) * 2 ^ (min (Int.toNat 8) 64))) ||| BitVec.ofInt 64 (w64 (x7))).toNat : Int))] (by kernel_rfl) ⟨H.cell 0 rfl rfl, H.cell 0 rfl rfl, H.cell 0 rfl rfl, H.cell 0 rfl rfl, H.cell 0 rfl rfl, H.cell 0 rfl rfl, trivial⟩ ?_
 cases hm
 exact ⟨rfl, H.x1.x0⟩

theorem thicketlaw28_parse_ok {w0 w : World} {As : List HP} {k : Nat} {sb_b : Option Addr} {sc_b : Nat} {b : List Int} {X_b : HP} {t : shell_Script × Bool} (hX_b : SlRd X_b ecU 1 sb_b b) (hC_b : b.length ≤ sc_b) (hm : thicketlaw28_parse k b = some t) (H : St w0 (X_b :: As) w) :
    CallsR Tryz.prog 39 #[.slice sb_b b.length sc_b] w fun v w' => ∃ (sb0_Acts : Option Addr), ∃ (sc0_Acts : Nat), v = .tuple #[.agg #[.int .i64 t.1.Kind, .int .i64 t.1.Jobs, .int .i64 t.1.Boxes, .int .i64 t.1.Room, .slice sb0_Acts t.1.Acts.length sc0_Acts], .bool t.2] ∧ St w0 (Sl 42 api_Act.enc 8 sb0_Acts sc0_Acts t.1.Acts :: X_b :: As) w' := by
 rw [thicketlaw28_parse] at hm
 refine enter (args := [.slice sb_b b.length sc_b]) Tryz.func39 rfl rfl rfl fun a hE => ?_
 refine Runs.sr ?_
 refine WR.eff hE rfl rfl rfl rfl (OpTo.new hE H [] (.cells #[.int .i64 0, .int .i64 0, .int .i64 0, .int .i64 0, .slice none 0 0] 45 (0, 0)) (fun r => .pointer (some ⟨r, 0, none⟩)) (obs := []) rfl (fun _ => by kernel_rfl) trivial) ?_
 rintro _ w ⟨r, rfl, H⟩ a hE
 refine WR.seg hE 2 [] [0, 2] (Lo := [(0, .slice sb_b b.length sc_b), (2, .pointer (some ⟨r, 0, none⟩))]) (obs := []) rfl (by kernel_rfl) trivial fun a hE => ?_
 refine WR.done rfl ?_
 refine Runs.seq ?_
 refine Runs.sr ?_
 refine WR.e0 hE [(10, .bool (decide ((b.length : Int) < 5)))] fun a hE => ?_
 refine Runs.cond hE rfl (fun c => ?_) (fun c => ?_)
 ·replace hm := cond_t c hm
  refine Runs.sr ?_
  refine WR.d0 hE 1 [(11, .agg #[.int .i64 0, .int .i64 0, .int .i64 0, .int .i64 0, .slice none 0 0])] fun a hE => ?_
  refine WR.eff0 hE rfl rfl rfl (OpTo.store hE H rfl rfl rfl rfl rfl rfl (Nat.le_of_ble_eq_true rfl)) ?_
  rintro _ w H a hE
  refine WR.e0 hE [(3, .bool false)] fun a hE => ?_
  refine Runs.retO (vs := [.agg #[.int .i64 0, .int .i64 0, .int .i64 0, .int .i64 0, .slice none 0 0], .bool false]) (obs := [.cell ⟨r, 0, none⟩ (.int .i64 0), .cell ⟨r, 1, none⟩ (.int .i64 0), .cell ⟨r, 2, none⟩ (.int .i64 0), .cell ⟨r, 3, none⟩ (.int .i64 0), .cell ⟨r, 4, none⟩ (.slice none 0 0)]) hE Tryz.func39 rfl [.int .i64 0, .int .i64 0, .int .i64 0, .int .i64 0, .slice none 0 0] (by kernel_rfl) ⟨H.cell 0 rfl rfl, H.cell 0 rfl rfl, H.cell 0 rfl rfl, H.cell 0 rfl rfl, H.cell 0 rfl rfl, trivial⟩ ?_
  replace H := H.slNil 42 api_Act.enc 8
  cases hm
  exact ⟨none, 0, rfl, H.x1.t1.t1⟩
 ·replace hm := cond_f c hm
  refine Runs.skip ?_
  refine Runs.seq ?_
  refine Runs.drawn mixed (by kernel_rfl) ?_
  replace H := H.drew
  obtain ⟨x, ex, hm⟩ := bind_some hm
  obtain ⟨b1, o, hs, hb⟩ := SlRd.base hX_b ecU_ok H 1 rfl ex
  obtain ⟨x1, ex1, hm⟩ := bind_some hm
  obtain ⟨b2, o1, hs1, hb1⟩ := SlRd.base hX_b ecU_ok H 1 rfl ex1
  obtain ⟨x2, ex2, hm⟩ := bind_some hm
  obtain ⟨b3, o2, hs2, hb2⟩ := SlRd.base hX_b ecU_ok H 1 rfl ex2
  obtain ⟨x3, ex3, hm⟩ := bind_some hm
  obtain ⟨b4, o3, hs3, hb3⟩ := SlRd.base hX_b ecU_ok H 1 rfl ex3
  obtain ⟨x4, ex4, hm⟩ := bind_some hm
  obtain ⟨b5, o4, hs4, hb4⟩ := SlRd.base hX_b ecU_ok H 1 rfl ex4
  refine WQ.d hE [0, 1, 2, 3, 4, 5, 6, 7, 8, 9, 10, 11, 12, 13, 14, 15, 16, 17, 18, 19, 20, 21, 22] [.pointer (some ⟨b1, o, none⟩), .int .u8 x, .pointer (some ⟨b2, o1, none⟩), .int .u8 x1, .pointer (some ⟨b3, o2, none⟩), .int .u8 x2, .pointer (some ⟨b4, o3, none⟩), .int .u8 x3, .pointer (some ⟨b5, o4, none⟩), .int .u8 x4] [(34, .agg #[.int .i64 (w64 (x)), .int .i64 (IntKind.wrap .i64 ((BitVec.ofInt 64 (w64 ((w64 (x1)) * 2 ^ (min (Int.toNat 8) 64))) ||| BitVec.ofInt 64 (w64 (x2))).toNat : Int)), .int .i64 (w64 (x3)), .int .i64 (w64 (x4)), .slice none 0 0])] (obs := [.p ((sb_b : Option Addr) = some ⟨b1, o, none⟩), .p (0 ≤ (0 : Int) ∧ (0 : Int) < ((b.length : Nat) : Int)), .cell ⟨b1, o + (Int.toNat 0) * 1, none⟩ (.int .u8 x), .p ((sb_b : Option Addr) = some ⟨b2, o1, none⟩), .p (0 ≤ (1 : Int) ∧ (1 : Int) < ((b.length : Nat) : Int)), .cell ⟨b2, o1 + (Int.toNat 1) * 1, none⟩ (.int .u8 x1), .p (0 ≤ (8 : Int)), .p ((sb_b : Option Addr) = some ⟨b3, o2, none⟩), .p (0 ≤ (2 : Int) ∧ (2 : Int) < ((b.length : Nat) : Int)), .cell ⟨b3, o2 + (Int.toNat 2) * 1, none⟩ (.int .u8 x2), .p ((sb_b : Option Addr) = some ⟨b4, o3, none⟩), .p (0 ≤ (3 : Int) ∧ (3 : Int) < ((b.length : Nat) : Int)), .cell ⟨b4, o3 + (Int.toNat 3) * 1, none⟩ (.int .u8 x3), .p ((sb_b : Option Addr) = some ⟨b5, o4, none⟩), .p (0 ≤ (4 : Int) ∧ (4 : Int) < ((b.length : Nat) : Int)), .cell ⟨b5, o4 + (Int.toNat 4) * 1, none⟩ (.int .u8 x4)]) ⟨hs, hb, SlRd.cells hX_b ecU_ok H 1 rfl hs ex 0 _ rfl, hs1, hb1, SlRd.cells hX_b ecU_ok H 1 rfl hs1 ex1 0 _ rfl, (by show _ ≤ _; decide), hs2, hb2, SlRd.cells hX_b ecU_ok H 1 rfl hs2 ex2 0 _ rfl, hs3, hb3, SlRd.cells hX_b ecU_ok H 1 rfl hs3 ex3 0 _ rfl, hs4, hb4, SlRd.cells hX_b ecU_ok H 1 rfl hs4 ex4 0 _ rfl, trivial⟩ fun a hE => ?_
  refine WQ.eff (j := 23) (obs := [.cell ⟨b5, o4 + (Int.toNat 4) * 1, none⟩ (.int .u8 x4), .p ((sb_b : Option Addr) = some ⟨b5, o4, none⟩), .p (0 ≤ (4 : Int) ∧ (4 : Int) < ((b.length : Nat) : Int)), .cell ⟨b4, o3 + (Int.toNat 3) * 1, none⟩ (.int .u8 x3), .p ((sb_b : Option Addr) = some ⟨b4, o3, none⟩), .p (0 ≤ (3 : Int) ∧ (3 : Int) < ((b.length : Nat) : Int)), .cell ⟨b3, o2 + (Int.toNat 2) * 1, none⟩ (.int .u8 x2), .p ((sb_b : Option Addr) = some ⟨b3, o2, none⟩), .p (0 ≤ (2 : Int) ∧ (2 : Int) < ((b.length : Nat) : Int)), .p (0 ≤ (8 : Int)), .cell ⟨b2, o1 + (Int.toNat 1) * 1, none⟩ (.int .u8 x1), .p ((sb_b : Option Addr) = some ⟨b2, o1, none⟩), .p (0 ≤ (1 : Int) ∧ (1 : Int) < ((b.length : Nat) : Int)), .cell ⟨b1, o + (Int.toNat 0) * 1, none⟩ (.int .u8 x), .p ((sb_b : Option Addr) = some ⟨b1, o, none⟩), .p (0 ≤ (0 : Int) ∧ (0 : Int) < ((b.length : Nat) : Int))]) hE (by kernel_rfl) rfl rfl rfl rfl (by kernel_rfl) (OpTo.new hE H [] (.cells #[.int .i64 0, .int .i64 0, .int .i64 0, .int .i64 0, .slice none 0 0] 45 (0, 0)) (fun r => .pointer (some ⟨r, 0, none⟩)) (obs := []) rfl (fun _ => by kernel_rfl) trivial) ?_
  rintro _ w ⟨r1, rfl, H⟩
  refine ⟨⟨SlRd.cells hX_b ecU_ok H 2 rfl hs4 ex4 0 _ rfl, hs4, hb4, SlRd.cells hX_b ecU_ok H 2 rfl hs3 ex3 0 _ rfl, hs3, hb3, SlRd.cells hX_b ecU_ok H 2 rfl hs2 ex2 0 _ rfl, hs2, hb2, (by show _ ≤ _; decide), SlRd.cells hX_b ecU_ok H 2 rfl hs1 ex1 0 _ rfl, hs1, hb1, SlRd.cells hX_b ecU_ok H 2 rfl hs ex 0 _ rfl, hs, hb, trivial⟩, fun a hE => ?_⟩
  refine WQ.eff0 (j := 24) (obs := []) hE (by kernel_rfl) rfl rfl rfl (by kernel_rfl) (OpTo.store hE H rfl rfl rfl rfl rfl rfl (Nat.le_of_ble_eq_true rfl)) ?_
  rintro _ w H
  refine ⟨trivial, fun a hE => ?_⟩
  refine WQ.done (by kernel_rfl) ?_
  refine Runs.sr ?_
  obtain ⟨l, el, hm⟩ := bind_some hm
  obtain ⟨sb, q⟩ : ∃ z, rebase sb_b sc_b (Int.toNat 5) 1 = z := ⟨_, rfl⟩
  obtain ⟨sc, q1⟩ : ∃ z, sc_b - (Int.toNat 5) = z := ⟨_, rfl⟩
  refine WR.e hE [.slice sb l.length sc] [(0, .slice sb l.length sc)] (obs := [.p (rebase sb_b sc_b (Int.toNat 5) 1 = sb), .p (b.length - (Int.toNat 5) = l.length), .p (sc_b - (Int.toNat 5) = sc), .p (0 ≤ (5 : Int) ∧ (5 : Int) ≤ ((b.length : Nat) : Int))]) ⟨q, cut_len el, q1, cut_bd0 el, trivial⟩ fun a hE => ?_
  refine Runs.seq ?_
  replace H := H.slNil 42 api_Act.enc 8
  replace H := shell_Script.shut (shell_Script.A.mk none 0) (shell_Script.mk (w64 (x)) (IntKind.wrap .i64 ((BitVec.ofInt 64 (w64 ((w64 (x1)) * 2 ^ (min (Int.toNat 8) 64))) ||| BitVec.ofInt 64 (w64 (x2))).toNat : Int)) (w64 (x3)) (w64 (x4)) ([] : List api_Act)) H.t1
  replace H := H.slNil 42 api_Act.enc 8
  replace H := shell_Script.shut (shell_Script.A.mk none 0) (shell_Script.mk 0 0 0 0 ([] : List api_Act)) H.t2
  obtain ⟨s, es, hm⟩ := bind_some hm
  refine Runs.join (fun a w => ∃ (z2 : Option Addr), ∃ (z3 : Nat), EnvOk 104 a [(2, .pointer (some ⟨r, 0, none⟩)), (4, .pointer (some ⟨r1, 0, none⟩))] ∧ St w0 (shell_Script.R r (shell_Script.A.mk none 0) (shell_Script.mk 0 0 0 0 ([] : List api_Act)) :: shell_Script.R r1 (shell_Script.A.mk z2 z3) s :: X_b :: As) w) (fun hk => ?_) ?_
  ·replace hm := es; clear es
   refine Runs.block ?_
   refine Runs.loop (fun m a w => ∃ (b6 : List Int), ∃ (m_ : shell_Script), ∃ (sb2 : Option Addr), ∃ (sc2 : Nat), ∃ (z4 : Option Addr), ∃ (z5 : Nat), EnvOk 104 a [(0, .slice sb2 b6.length sc2), (2, .pointer (some ⟨r, 0, none⟩)), (4, .pointer (some ⟨r1, 0, none⟩))] ∧ (SlRd X_b ecU 1 sb2 b6) ∧ (b6.length ≤ sc2) ∧ St w0 (shell_Script.R r (shell_Script.A.mk none 0) (shell_Script.mk 0 0 0 0 ([] : List api_Act)) :: shell_Script.R r1 (shell_Script.A.mk z4 z5) m_ :: X_b :: As) w ∧ thicketlaw28_parse_l0 (shell_Script.mk 0 0 0 0 ([] : List api_Act)) b m b6 m_ = some s) k ⟨l, shell_Script.mk (w64 (x)) (IntKind.wrap .i64 ((BitVec.ofInt 64 (w64 ((w64 (x1)) * 2 ^ (min (Int.toNat 8) 64))) ||| BitVec.ofInt 64 (w64 (x2))).toNat : Int)) (w64 (x3)) (w64 (x4)) ([] : List api_Act), sb, sc, none, 0, hE.sel [0, 2, 4] (by kernel_rfl), (hX_b.cut' ecU_ok el (hC_b) q), (cut_cap2 el hC_b q1), H.t2.t2.t2, hm⟩ ?_
   rintro m ih a w ⟨b6, m_, sb2, sc2, z4, z5, hE, hX1, hC1, H, hm⟩
   cases m with
   | zero => simp [thicketlaw28_parse_l0] at hm
   | succ m =>
    rw [thicketlaw28_parse_l0] at hm
    refine Runs.seq ?_
    refine Runs.seq ?_
    obtain ⟨s1, es1, hm⟩ := bind_some hm
    refine Runs.join (fun a w => EnvOk 104 a [(0, .slice sb2 b6.length sc2), (2, .pointer (some ⟨r, 0, none⟩)), (4, .pointer (some ⟨r1, 0, none⟩)), (45, .bool s1)] ∧ St w0 (shell_Script.R r (shell_Script.A.mk none 0) (shell_Script.mk 0 0 0 0 ([] : List api_Act)) :: shell_Script.R r1 (shell_Script.A.mk z4 z5) m_ :: X_b :: As) w) (fun hk => ?_) ?_
    ·replace hm := es1; clear es1
     refine Runs.region ?_
     refine WR.seg hE 4 [] [0, 2, 4, 40] (Lo := [(0, .slice sb2 b6.length sc2), (2, .pointer (some ⟨r, 0, none⟩)), (4, .pointer (some ⟨r1, 0, none⟩)), (40, .bool (decide ((b6.length : Int) > 0)))]) (obs := []) rfl (by kernel_rfl) trivial fun a hE => ?_
     rcases Bool.eq_false_or_eq_true (decide ((b6.length : Int) > 0)) with c | c
     ·replace hE := hE.dec 40 c (by kernel_rfl)
      replace hm := cond_t c hm
      have c_ := c
      replace H := shell_Script.open H.t1
      try dsimp only at H
      refine WR.e hE [.slice z4 m_.Acts.length z5] [(45, .bool (decide ((m_.Acts.length : Int) < 256)))] (obs := [.cell ⟨r1, 4, none⟩ (.slice z4 m_.Acts.length z5)]) ⟨H.cell 0 rfl rfl, trivial⟩ fun a hE => ?_
      replace H := shell_Script.shut (shell_Script.A.mk z4 z5) (m_) H.t1.t1
      cases hm
      exact hk _ _ ⟨hE.sel [0, 2, 4, 45] (by kernel_rfl), H.t2.t1.t2⟩
     ·replace hE := hE.dec 40 c (by kernel_rfl)
      replace hm := cond_f c hm
      have c_1 := c
      refine WR.e0 hE [(45, .bool false)] fun a hE => ?_
      cases hm
      exact hk _ _ ⟨hE.sel [0, 2, 4, 45] (by kernel_rfl), H.t2.t2.t2⟩
    rintro a w ⟨hE, H⟩
    refine Runs.cond hE rfl (fun c => ?_) (fun c => ?_)
    ·replace hm := cond_t c hm
     refine Runs.skip ?_
     refine Runs.block ?_
     refine Runs.sr ?_
     obtain ⟨x5, ex5, hm⟩ := bind_some hm
     obtain ⟨b7, o5, hs5, hb5⟩ := SlRd.base hX1 ecU_ok H 2 rfl ex5
     refine WR.seg hE 5 [.pointer (some ⟨b7, o5, none⟩), .int .u8 x5] [0, 2, 4, 50] (Lo := [(0, .slice sb2 b6.length sc2), (2, .pointer (some ⟨r, 0, none⟩)), (4, .pointer (some ⟨r1, 0, none⟩)), (50, .agg #[.int .i64 (w64 (x5)), .int .i64 0, .int .i64 0, .int .i64 0, .int .i64 0, .int .i64 0, .int .i64 0, .int .i64 0])]) (obs := [.p ((sb2 : Option Addr) = some ⟨b7, o5, none⟩), .p (0 ≤ (0 : Int) ∧ (0 : Int) < ((b6.length : Nat) : Int)), .cell ⟨b7, o5 + (Int.toNat 0) * 1, none⟩ (.int .u8 x5)]) rfl (by kernel_rfl) ⟨hs5, hb5, SlRd.cells hX1 ecU_ok H 2 rfl hs5 ex5 0 _ rfl, trivial⟩ fun a hE => ?_
     refine WR.eff hE rfl rfl rfl rfl (OpTo.new hE H [] (.cells #[.int .i64 0, .int .i64 0, .int .i64 0, .int .i64 0, .int .i64 0, .int .i64 0, .int .i64 0, .int .i64 0] 42 (0, 0)) (fun r => .pointer (some ⟨r, 0, none⟩)) (obs := []) rfl (fun _ => by kernel_rfl) trivial) ?_
     rintro _ w ⟨r2, rfl, H⟩ a hE
     refine WR.eff0 hE rfl rfl rfl (OpTo.store hE H rfl rfl rfl rfl rfl rfl (Nat.le_of_ble_eq_true rfl)) ?_
     rintro _ w H a hE
     refine WR.done rfl ?_
     refine Runs.sr ?_
     obtain ⟨l2, el2, hm⟩ := bind_some hm
     obtain ⟨sb3, q2⟩ : ∃ z, rebase sb2 sc2 (Int.toNat 1) 1 = z := ⟨_, rfl⟩
     obtain ⟨sc3, q3⟩ : ∃ z, sc2 - (Int.toNat 1) = z := ⟨_, rfl⟩
     refine WR.e hE [.slice sb3 l2.length sc3] [(0, .slice sb3 l2.length sc3)] (obs := [.p (rebase sb2 sc2 (Int.toNat 1) 1 = sb3), .p (b6.length - (Int.toNat 1) = l2.length), .p (sc2 - (Int.toNat 1) = sc3), .p (0 ≤ (1 : Int) ∧ (1 : Int) ≤ ((b6.length : Nat) : Int))]) ⟨q2, cut_len el2, q3, cut_bd0 el2, trivial⟩ fun a hE => ?_
     refine Runs.seq ?_
     refine Runs.seq ?_
     refine Runs.join (fun a w => EnvOk 104 a [(0, .slice sb3 l2.length sc3), (2, .pointer (some ⟨r, 0, none⟩)), (4, .pointer (some ⟨r1, 0, none⟩)), (5, .pointer (some ⟨r2, 0, none⟩)), (60, .bool ((decide (w64 (x5) < 1)) || (decide (w64 (x5) > 4))))] ∧ St w0 (Blk r2 42 [.int .i64 (w64 (x5)), .int .i64 0, .int .i64 0, .int .i64 0, .int .i64 0, .int .i64 0, .int .i64 0, .int .i64 0] :: shell_Script.R r (shell_Script.A.mk none 0) (shell_Script.mk 0 0 0 0 ([] : List api_Act)) :: shell_Script.R r1 (shell_Script.A.mk z4 z5) m_ :: X_b :: As) w) (fun hk => ?_) ?_
     ·clear hm
      refine Runs.region ?_
      refine WR.d hE 4 [.int .i64 (w64 (x5))] [(56, .bool (decide (w64 (x5) < 1)))] (obs := [.cell ⟨r2, 0, none⟩ (.int .i64 (w64 (x5)))]) ⟨H.cell 0 rfl rfl, trivial⟩ fun a hE => ?_
      rcases Bool.eq_false_or_eq_true (decide (w64 (x5) < 1)) with c | c
      ·replace hE := hE.dec 56 c (by kernel_rfl)
       have c_2 := c
       refine WR.e0 hE [(60, .bool true)] fun a hE => ?_
       refine hk _ _ ⟨?_, H.t3.t3.t3.t3⟩
       try rw [c_2] at hE
       try rw [c_2]
       exact hE.sel [0, 2, 4, 5, 60] (by kernel_rfl)
      ·replace hE := hE.dec 56 c (by kernel_rfl)
       have c_3 := c
       refine WR.e hE [.int .i64 (w64 (x5))] [(60, .bool (decide (w64 (x5) > 4)))] (obs := [.cell ⟨r2, 0, none⟩ (.int .i64 (w64 (x5)))]) ⟨H.cell 0 rfl rfl, trivial⟩ fun a hE => ?_
       refine hk _ _ ⟨?_, H.t3.t3.t3.t3⟩
       try rw [c_3] at hE
       try rw [c_3]
       exact hE.sel [0, 2, 4, 5, 60] (by kernel_rfl)
     rintro a w ⟨hE, H⟩
     refine Runs.cond hE rfl (fun c => ?_) (fun c => ?_)
     ·replace hm := cond_t c hm
      refine Runs.exit rfl ?_
      exact ih m (Nat.lt_succ_self m) _ _ ⟨l2, m_, sb3, sc3, z4, z5, hE.sel [0, 2, 4] (by kernel_rfl), (hX1.cut' ecU_ok el2 (hC1) q2), (cut_cap2 el2 hC1 q3), H.x0.t2.t2.t2, hm⟩
     ·replace hm := cond_f c hm
      refine Runs.skip ?_
      refine Runs.seq ?_
      refine Runs.sr ?_
      refine WR.seg hE 3 [.int .i64 (w64 (x5))] [0, 2, 4, 5, 63] (Lo := [(0, .slice sb3 l2.length sc3), (2, .pointer (some ⟨r, 0, none⟩)), (4, .pointer (some ⟨r1, 0, none⟩)), (5, .pointer (some ⟨r2, 0, none⟩)), (63, .bool ((w64 (x5)) == 1))]) (obs := [.cell ⟨r2, 0, none⟩ (.int .i64 (w64 (x5)))]) rfl (by kernel_rfl) ⟨H.cell 0 rfl rfl, trivial⟩ fun a hE => ?_
      refine WR.done rfl ?_
      refine Runs.cond hE rfl (fun c => ?_) (fun c => ?_)
      ·replace hm := cond_t c hm
       refine Runs.seq ?_
       refine Runs.sr ?_
       refine WR.e0 hE [(66, .bool ((l2.length : Int) == 0))] fun a hE => ?_
       refine Runs.cond hE rfl (fun c => ?_) (fun c => ?_)
       ·replace hm := cond_t c hm
        refine Runs.exit rfl ?_
        cases hm
        exact hk _ _ ⟨z4, z5, hE.sel [2, 4] (by kernel_rfl), H.x0.t2.t2.t2⟩
       ·replace hm := cond_f c hm
        refine Runs.skip ?_
        refine Runs.sr ?_
        obtain ⟨x6, ex6, hm⟩ := bind_some hm
        obtain ⟨b8, o6, hs6, hb6⟩ := SlRd.base (hX1.cut' ecU_ok el2 (hC1) q2) ecU_ok H 3 rfl ex6
        refine WR.d hE 5 [.pointer (some ⟨b8, o6, none⟩), .int .u8 x6] [(70, .int .i64 (w64 (x6))), (71, .pointer (some ⟨r2, 1, none⟩))] (obs := [.p ((sb3 : Option Addr) = some ⟨b8, o6, none⟩), .p (0 ≤ (0 : Int) ∧ (0 : Int) < ((l2.length : Nat) : Int)), .cell ⟨b8, o6 + (Int.toNat 0) * 1, none⟩ (.int .u8 x6)]) ⟨hs6, hb6, SlRd.cells (hX1.cut' ecU_ok el2 (hC1) q2) ecU_ok H 3 rfl hs6 ex6 0 _ rfl, trivial⟩ fun a hE => ?_
        refine WR.eff0 hE rfl rfl rfl (OpTo.store hE H rfl rfl rfl rfl rfl rfl (Nat.le_of_ble_eq_true rfl)) ?_
        rintro _ w H a hE
        refine WR.done rfl ?_
        refine Runs.region ?_
        obtain ⟨l3, el3, hm⟩ := bind_some hm
        obtain ⟨sb4, q4⟩ : ∃ z, rebase sb3 sc3 (Int.toNat 1) 1 = z := ⟨_, rfl⟩
        obtain ⟨sc4, q5⟩ : ∃ z, sc3 - (Int.toNat 1) = z := ⟨_, rfl⟩
        refine WR.e hE [.slice sb4 l3.length sc4] [(0, .slice sb4 l3.length sc4)] (obs := [.p (rebase sb3 sc3 (Int.toNat 1) 1 = sb4), .p (l2.length - (Int.toNat 1) = l3.length), .p (sc3 - (Int.toNat 1) = sc4), .p (0 ≤ (1 : Int) ∧ (1 : Int) ≤ ((l2.length : Nat) : Int))]) ⟨q4, cut_len el3, q5, cut_bd0 el3, trivial⟩ fun a hE => ?_
        refine Runs.seq ?_
        refine Runs.seq ?_
        refine Runs.join (fun a w => EnvOk 104 a [(0, .slice sb4 l3.length sc4), (2, .pointer (some ⟨r, 0, none⟩)), (4, .pointer (some ⟨r1, 0, none⟩)), (5, .pointer (some ⟨r2, 0, none⟩)), (81, .bool (((w64 (x5)) == 1) || ((w64 (x5)) == 3)))] ∧ St w0 (Blk r2 42 [.int .i64 (w64 (x5)), .int .i64 (w64 (x6)), .int .i64 0, .int .i64 0, .int .i64 0, .int .i64 0, .int .i64 0, .int .i64 0] :: shell_Script.R r (shell_Script.A.mk none 0) (shell_Script.mk 0 0 0 0 ([] : List api_Act)) :: shell_Script.R r1 (shell_Script.A.mk z4 z5) m_ :: X_b :: As) w) (fun hk => ?_) ?_
        ·clear hm
         refine Runs.region ?_
         refine WR.d hE 4 [.int .i64 (w64 (x5))] [(77, .bool ((w64 (x5)) == 1))] (obs := [.cell ⟨r2, 0, none⟩ (.int .i64 (w64 (x5)))]) ⟨H.cell 0 rfl rfl, trivial⟩ fun a hE => ?_
         rcases Bool.eq_false_or_eq_true ((w64 (x5)) == 1) with c | c
         ·replace hE := hE.dec 77 c (by kernel_rfl)
          have c_4 := c
          refine WR.e0 hE [(81, .bool true)] fun a hE => ?_
          refine hk _ _ ⟨?_, H.t3.t3.t3.t3⟩
          try rw [c_4] at hE
          try rw [c_4]
          exact hE.sel [0, 2, 4, 5, 81] (by kernel_rfl)
         ·replace hE := hE.dec 77 c (by kernel_rfl)
          have c_5 := c
          refine WR.e hE [.int .i64 (w64 (x5))] [(81, .bool ((w64 (x5)) == 3))] (obs := [.cell ⟨r2, 0, none⟩ (.int .i64 (w64 (x5)))]) ⟨H.cell 0 rfl rfl, trivial⟩ fun a hE => ?_
          refine hk _ _ ⟨?_, H.t3.t3.t3.t3⟩
          try rw [c_5] at hE
          try rw [c_5]
          exact hE.sel [0, 2, 4, 5, 81] (by kernel_rfl)
        rintro a w ⟨hE, H⟩
        refine Runs.cond hE rfl (fun c => ?_) (fun c => ?_)
        ·replace hm := cond_t c hm
         refine Runs.seq ?_
         refine Runs.sr ?_
         refine WR.seg hE 3 [] [0, 2, 4, 5, 84] (Lo := [(0, .slice sb4 l3.length sc4), (2, .pointer (some ⟨r, 0, none⟩)), (4, .pointer (some ⟨r1, 0, none⟩)), (5, .pointer (some ⟨r2, 0, none⟩)), (84, .bool (decide ((l3.length : Int) < 16)))]) (obs := []) rfl (by kernel_rfl) trivial fun a hE => ?_
         refine WR.done rfl ?_
         refine Runs.cond hE rfl (fun c => ?_) (fun c => ?_)
         ·replace hm := cond_t c hm
          refine Runs.exit rfl ?_
          cases hm
          exact hk _ _ ⟨z4, z5, hE.sel [2, 4] (by kernel_rfl), H.x0.t2.t2.t2⟩
         ·replace hm := cond_f c hm
          refine Runs.skip ?_
          refine Runs.sr ?_
          obtain ⟨l4, el4, hm⟩ := bind_some hm
          obtain ⟨sb5, q6⟩ : ∃ z, rebase sb4 sc4 (Int.toNat 0) 1 = z := ⟨_, rfl⟩
          obtain ⟨sc5, q7⟩ : ∃ z, sc4 - (Int.toNat 0) = z := ⟨_, rfl⟩
          refine WR.d hE 2 [.slice sb5 l4.length sc5] [(87, .slice sb5 l4.length sc5)] (obs := [.p (rebase sb4 sc4 0 1 = sb5), .p ((Int.toNat 16) - 0 = l4.length), .p (sc4 - 0 = sc5), .p (0 ≤ (16 : Int) ∧ (16 : Int) ≤ ((sc4 : Nat) : Int))]) ⟨q6, cut_len el4, q7, cut_cap el4 (cut_cap2 el3 (cut_cap2 el2 hC1 q3) q5), trivial⟩ fun a hE => ?_
          obtain ⟨t_, et_, hm⟩ := bind_some hm
          replace H := H.t3
          refine WR.eff hE rfl rfl rfl rfl (OpTo.fn hE rfl rfl Tryz.call66 (thicketlaw28_command_ok (hX_b := (((hX1.cut' ecU_ok el2 (hC1) q2).cut' ecU_ok el3 ((cut_cap2 el2 hC1 q3)) q4).cut' ecU_ok el4 ((cut_cap2 el3 (cut_cap2 el2 hC1 q3) q5)) q6)) (hC_b := (cut_cap2 el4 (cut_cap2 el3 (cut_cap2 el2 hC1 q3) q5) q7)) et_ H)) ?_
          rintro _ w ⟨rfl, H⟩ a hE
          refine WR.d0 hE 6 [(89, .agg #[.int .i64 t_.1.Kind, .int .i64 t_.1.Queue, .int .i64 t_.1.Job.At, .int .i64 t_.1.Job.Gen, .int .i64 t_.1.Time, .int .i64 t_.1.Data]), (90, .bool t_.2)] fun a hE => ?_
          refine WR.eff hE rfl rfl rfl rfl (OpTo.new hE H [] (.cells #[.int .i64 0, .int .i64 0, .int .i64 0, .int .i64 0, .int .i64 0, .int .i64 0] 33 (0, 0)) (fun r => .pointer (some ⟨r, 0, none⟩)) (obs := []) rfl (fun _ => by kernel_rfl) trivial) ?_
          rintro _ w ⟨r3, rfl, H⟩ a hE
          refine WR.eff0 hE rfl rfl rfl (OpTo.store hE H rfl rfl rfl rfl rfl rfl (Nat.le_of_ble_eq_true rfl)) ?_
          rintro _ w H a hE
          refine WR.e0 hE [(7, .bool t_.2)] fun a hE => ?_
          refine Runs.seq ?_
          refine Runs.sr ?_
          refine WR.e0 hE [(92, .bool (!t_.2))] fun a hE => ?_
          refine Runs.cond hE rfl (fun c => ?_) (fun c => ?_)
          ·replace hm := cond_t c hm
           refine Runs.exit rfl ?_
           cases hm
           exact hk _ _ ⟨z4, z5, hE.sel [2, 4] (by kernel_rfl), H.x2.x0.t2.t2⟩
          ·replace hm := cond_f c hm
           refine Runs.skip ?_
           refine Runs.sr ?_
           refine WR.d hE 2 [.int .i64 t_.1.Kind, .int .i64 t_.1.Queue, .int .i64 t_.1.Job.At, .int .i64 t_.1.Job.Gen, .int .i64 t_.1.Time, .int .i64 t_.1.Data] [(93, .agg #[.int .i64 t_.1.Kind, .int .i64 t_.1.Queue, .int .i64 t_.1.Job.At, .int .i64 t_.1.Job.Gen, .int .i64 t_.1.Time, .int .i64 t_.1.Data]), (94, .pointer (some ⟨r2, 2, none⟩))] (obs := [.cell ⟨r3, 0, none⟩ (.int .i64 t_.1.Kind), .cell ⟨r3, 1, none⟩ (.int .i64 t_.1.Queue), .cell ⟨r3, 2, none⟩ (.int .i64 t_.1.Job.At), .cell ⟨r3, 3, none⟩ (.int .i64 t_.1.Job.Gen), .cell ⟨r3, 4, none⟩ (.int .i64 t_.1.Time), .cell ⟨r3, 5, none⟩ (.int .i64 t_.1.Data)]) ⟨H.cell 0 rfl rfl, H.cell 0 rfl rfl, H.cell 0 rfl rfl, H.cell 0 rfl rfl, H.cell 0 rfl rfl, H.cell 0 rfl rfl, trivial⟩ fun a hE => ?_
           refine WR.eff0 hE rfl rfl rfl (OpTo.store hE H.t2 rfl rfl rfl rfl rfl rfl (Nat.le_of_ble_eq_true rfl)) ?_
           rintro _ w H a hE
           refine WR.done rfl ?_
           refine Runs.region ?_
           obtain ⟨l5, el5, hm⟩ := bind_some hm
           obtain ⟨sb6, q8⟩ : ∃ z, rebase sb4 sc4 (Int.toNat 16) 1 = z := ⟨_, rfl⟩
           obtain ⟨sc6, q9⟩ : ∃ z, sc4 - (Int.toNat 16) = z := ⟨_, rfl⟩
           refine WR.e hE [.slice sb6 l5.length sc6] [(0, .slice sb6 l5.length sc6)] (obs := [.p (rebase sb4 sc4 (Int.toNat 16) 1 = sb6), .p (l3.length - (Int.toNat 16) = l5.length), .p (sc4 - (Int.toNat 16) = sc6), .p (0 ≤ (16 : Int) ∧ (16 : Int) ≤ ((l3.length : Nat) : Int))]) ⟨q8, cut_len el5, q9, cut_bd0 el5, trivial⟩ fun a hE => ?_
           refine Runs.region ?_
           replace H := shell_Script.open H.t4
           try dsimp only at H
           refine WR.d hE 3 [.slice z4 m_.Acts.length z5, .int .i64 (w64 (x5)), .int .i64 (w64 (x6)), .int .i64 t_.1.Kind, .int .i64 t_.1.Queue, .int .i64 t_.1.Job.At, .int .i64 t_.1.Job.Gen, .int .i64 t_.1.Time, .int .i64 t_.1.Data] [(98, .slice z4 m_.Acts.length z5), (99, .agg #[.int .i64 (w64 (x5)), .int .i64 (w64 (x6)), .int .i64 t_.1.Kind, .int .i64 t_.1.Queue, .int .i64 t_.1.Job.At, .int .i64 t_.1.Job.Gen, .int .i64 t_.1.Time, .int .i64 t_.1.Data])] (obs := [.cell ⟨r1, 4, none⟩ (.slice z4 m_.Acts.length z5), .cell ⟨r2, 0, none⟩ (.int .i64 (w64 (x5))), .cell ⟨r2, 1, none⟩ (.int .i64 (w64 (x6))), .cell ⟨r2, 2, none⟩ (.int .i64 t_.1.Kind), .cell ⟨r2, 3, none⟩ (.int .i64 t_.1.Queue), .cell ⟨r2, 4, none⟩ (.int .i64 t_.1.Job.At), .cell ⟨r2, 5, none⟩ (.int .i64 t_.1.Job.Gen), .cell ⟨r2, 6, none⟩ (.int .i64 t_.1.Time), .cell ⟨r2, 7, none⟩ (.int .i64 t_.1.Data)]) ⟨H.cell 0 rfl rfl, H.cell 2 rfl rfl, H.cell 2 rfl rfl, H.cell 2 rfl rfl, H.cell 2 rfl rfl, H.cell 2 rfl rfl, H.cell 2 rfl rfl, H.cell 2 rfl rfl, H.cell 2 rfl rfl, trivial⟩ fun a hE => ?_
           refine WR.eff hE rfl rfl rfl rfl (OpTo.buildSl (T := 42) hE H api_Act.enc_ok ([api_Act.mk (w64 (x5)) (w64 (x6)) t_.1] : List api_Act) rfl (fun _ => by kernel_rfl) rfl rfl rfl) ?_
           rintro _ w ⟨r4, rfl, H⟩ a hE
           obtain ⟨l6, el6, hm⟩ := bind_some hm
           replace H := H.t2
           refine WR.eff hE rfl rfl rfl rfl (OpTo.appendM el6 hE H api_Act.enc_ok rfl rfl rfl rfl rfl rfl rfl rfl rfl rfl (SlRd.all (sl_rd 42 api_Act.enc 8 _ _ _) api_Act.enc_ok H 1 rfl) rfl) ?_
           rintro _ w ⟨sb7, sc7, rfl, H⟩ a hE
           refine WR.d0 hE 6 [(102, .pointer (some ⟨r1, 4, none⟩))] fun a hE => ?_
           refine WR.eff0 hE rfl rfl rfl (OpTo.store hE H.t2 rfl rfl rfl rfl rfl rfl (Nat.le_of_ble_eq_true rfl)) ?_
           rintro _ w H a hE
           refine WR.done rfl ?_
           refine Runs.inBlock ?_
           replace H := shell_Script.shut (shell_Script.A.mk sb7 sc7) (shell_Script.mk m_.Kind m_.Jobs m_.Boxes m_.Room l6) H.t1.t1
           exact ih m (Nat.lt_succ_self m) _ _ ⟨l5, shell_Script.mk m_.Kind m_.Jobs m_.Boxes m_.Room l6, sb6, sc6, sb7, sc7, hE.sel [0, 2, 4] (by kernel_rfl), (((hX1.cut' ecU_ok el2 (hC1) q2).cut' ecU_ok el3 ((cut_cap2 el2 hC1 q3)) q4).cut' ecU_ok el5 ((cut_cap2 el3 (cut_cap2 el2 hC1 q3) q5)) q8), (cut_cap2 el5 (cut_cap2 el3 (cut_cap2 el2 hC1 q3) q5) q9), H.x3.x2.x1.t1.t1.t2, hm⟩
        ·replace hm := cond_f c hm
         refine Runs.skip ?_
         refine Runs.region ?_
         replace H := shell_Script.open H.t2
         try dsimp only at H
         refine WR.seg hE 3 [.slice z4 m_.Acts.length z5, .int .i64 (w64 (x5)), .int .i64 (w64 (x6)), .int .i64 0, .int .i64 0, .int .i64 0, .int .i64 0, .int .i64 0, .int .i64 0] [0, 2, 4, 98, 99] (Lo := [(0, .slice sb4 l3.length sc4), (2, .pointer (some ⟨r, 0, none⟩)), (4, .pointer (some ⟨r1, 0, none⟩)), (98, .slice z4 m_.Acts.length z5), (99, .agg #[.int .i64 (w64 (x5)), .int .i64 (w64 (x6)), .int .i64 0, .int .i64 0, .int .i64 0, .int .i64 0, .int .i64 0, .int .i64 0])]) (obs := [.cell ⟨r1, 4, none⟩ (.slice z4 m_.Acts.length z5), .cell ⟨r2, 0, none⟩ (.int .i64 (w64 (x5))), .cell ⟨r2, 1, none⟩ (.int .i64 (w64 (x6))), .cell ⟨r2, 2, none⟩ (.int .i64 0), .cell ⟨r2, 3, none⟩ (.int .i64 0), .cell ⟨r2, 4, none⟩ (.int .i64 0), .cell ⟨r2, 5, none⟩ (.int .i64 0), .cell ⟨r2, 6, none⟩ (.int .i64 0), .cell ⟨r2, 7, none⟩ (.int .i64 0)]) rfl (by kernel_rfl) ⟨H.cell 0 rfl rfl, H.cell 2 rfl rfl, H.cell 2 rfl rfl, H.cell 2 rfl rfl, H.cell 2 rfl rfl, H.cell 2 rfl rfl, H.cell 2 rfl rfl, H.cell 2 rfl rfl, H.cell 2 rfl rfl, trivial⟩ fun a hE => ?_
         refine WR.eff hE rfl rfl rfl rfl (OpTo.buildSl (T := 42) hE H api_Act.enc_ok ([api_Act.mk (w64 (x5)) (w64 (x6)) (api_Command.mk 0 0 (api_Ref.mk 0 0) 0 0)] : List api_Act) rfl (fun _ => by kernel_rfl) rfl rfl rfl) ?_
         rintro _ w ⟨r5, rfl, H⟩ a hE
         obtain ⟨l7, el7, hm⟩ := bind_some hm
         replace H := H.t2
         refine WR.eff hE rfl rfl rfl rfl (OpTo.appendM el7 hE H api_Act.enc_ok rfl rfl rfl rfl rfl rfl rfl rfl rfl rfl (SlRd.all (sl_rd 42 api_Act.enc 8 _ _ _) api_Act.enc_ok H 1 rfl) rfl) ?_
         rintro _ w ⟨sb8, sc8, rfl, H⟩ a hE
         refine WR.d0 hE 6 [(102, .pointer (some ⟨r1, 4, none⟩))] fun a hE => ?_
         refine WR.eff0 hE rfl rfl rfl (OpTo.store hE H.t2 rfl rfl rfl rfl rfl rfl (Nat.le_of_ble_eq_true rfl)) ?_
         rintro _ w H a hE
         refine WR.done rfl ?_
         refine Runs.inBlock ?_
         replace H := shell_Script.shut (shell_Script.A.mk sb8 sc8) (shell_Script.mk m_.Kind m_.Jobs m_.Boxes m_.Room l7) H.t1.t1
         exact ih m (Nat.lt_succ_self m) _ _ ⟨l3, shell_Script.mk m_.Kind m_.Jobs m_.Boxes m_.Room l7, sb4, sc4, sb8, sc8, hE.sel [0, 2, 4] (by kernel_rfl), ((hX1.cut' ecU_ok el2 (hC1) q2).cut' ecU_ok el3 ((cut_cap2 el2 hC1 q3)) q4), (cut_cap2 el3 (cut_cap2 el2 hC1 q3) q5), H.x2.x1.t2.t1.t2, hm⟩
      ·replace hm := cond_f c hm
       refine Runs.skip ?_
       refine Runs.seq ?_
       refine Runs.seq ?_
       refine Runs.join (fun a w => EnvOk 104 a [(0, .slice sb3 l2.length sc3), (2, .pointer (some ⟨r, 0, none⟩)), (4, .pointer (some ⟨r1, 0, none⟩)), (5, .pointer (some ⟨r2, 0, none⟩)), (81, .bool (((w64 (x5)) == 1) || ((w64 (x5)) == 3)))] ∧ St w0 (Blk r2 42 [.int .i64 (w64 (x5)), .int .i64 0, .int .i64 0, .int .i64 0, .int .i64 0, .int .i64 0, .int .i64 0, .int .i64 0] :: shell_Script.R r (shell_Script.A.mk none 0) (shell_Script.mk 0 0 0 0 ([] : List api_Act)) :: shell_Script.R r1 (shell_Script.A.mk z4 z5) m_ :: X_b :: As) w) (fun hk => ?_) ?_
       ·clear hm
        refine Runs.region ?_
        refine WR.d hE 4 [.int .i64 (w64 (x5))] [(77, .bool ((w64 (x5)) == 1))] (obs := [.cell ⟨r2, 0, none⟩ (.int .i64 (w64 (x5)))]) ⟨H.cell 0 rfl rfl, trivial⟩ fun a hE => ?_
        rcases Bool.eq_false_or_eq_true ((w64 (x5)) == 1) with c | c
        ·replace hE := hE.dec 77 c (by kernel_rfl)
         have c_6 := c
         refine WR.e0 hE [(81, .bool true)] fun a hE => ?_
         refine hk _ _ ⟨?_, H.t3.t3.t3.t3⟩
         try rw [c_6] at hE
         try rw [c_6]
         exact hE.sel [0, 2, 4, 5, 81] (by kernel_rfl)
        ·replace hE := hE.dec 77 c (by kernel_rfl)
         have c_7 := c
         refine WR.e hE [.int .i64 (w64 (x5))] [(81, .bool ((w64 (x5)) == 3))] (obs := [.cell ⟨r2, 0, none⟩ (.int .i64 (w64 (x5)))]) ⟨H.cell 0 rfl rfl, trivial⟩ fun a hE => ?_
         refine hk _ _ ⟨?_, H.t3.t3.t3.t3⟩
         try rw [c_7] at hE
         try rw [c_7]
         exact hE.sel [0, 2, 4, 5, 81] (by kernel_rfl)
       rintro a w ⟨hE, H⟩
       refine Runs.cond hE rfl (fun c => ?_) (fun c => ?_)
       ·replace hm := cond_t c hm
        refine Runs.seq ?_
        refine Runs.sr ?_
        refine WR.seg hE 3 [] [0, 2, 4, 5, 84] (Lo := [(0, .slice sb3 l2.length sc3), (2, .pointer (some ⟨r, 0, none⟩)), (4, .pointer (some ⟨r1, 0, none⟩)), (5, .pointer (some ⟨r2, 0, none⟩)), (84, .bool (decide ((l2.length : Int) < 16)))]) (obs := []) rfl (by kernel_rfl) trivial fun a hE => ?_
        refine WR.done rfl ?_
        refine Runs.cond hE rfl (fun c => ?_) (fun c => ?_)
        ·replace hm := cond_t c hm
         refine Runs.exit rfl ?_
         cases hm
         exact hk _ _ ⟨z4, z5, hE.sel [2, 4] (by kernel_rfl), H.x0.t2.t2.t2⟩
        ·replace hm := cond_f c hm
         refine Runs.skip ?_
         refine Runs.sr ?_
         obtain ⟨l8, el8, hm⟩ := bind_some hm
         obtain ⟨sb9, q12⟩ : ∃ z, rebase sb3 sc3 (Int.toNat 0) 1 = z := ⟨_, rfl⟩
         obtain ⟨sc9, q13⟩ : ∃ z, sc3 - (Int.toNat 0) = z := ⟨_, rfl⟩
         refine WR.d hE 2 [.slice sb9 l8.length sc9] [(87, .slice sb9 l8.length sc9)] (obs := [.p (rebase sb3 sc3 0 1 = sb9), .p ((Int.toNat 16) - 0 = l8.length), .p (sc3 - 0 = sc9), .p (0 ≤ (16 : Int) ∧ (16 : Int) ≤ ((sc3 : Nat) : Int))]) ⟨q12, cut_len el8, q13, cut_cap el8 (cut_cap2 el2 hC1 q3), trivial⟩ fun a hE => ?_
         obtain ⟨t_1, et_1, hm⟩ := bind_some hm
         replace H := H.t3
         refine WR.eff hE rfl rfl rfl rfl (OpTo.fn hE rfl rfl Tryz.call66 (thicketlaw28_command_ok (hX_b := ((hX1.cut' ecU_ok el2 (hC1) q2).cut' ecU_ok el8 ((cut_cap2 el2 hC1 q3)) q12)) (hC_b := (cut_cap2 el8 (cut_cap2 el2 hC1 q3) q13)) et_1 H)) ?_
         rintro _ w ⟨rfl, H⟩ a hE
         refine WR.d0 hE 6 [(89, .agg #[.int .i64 t_1.1.Kind, .int .i64 t_1.1.Queue, .int .i64 t_1.1.Job.At, .int .i64 t_1.1.Job.Gen, .int .i64 t_1.1.Time, .int .i64 t_1.1.Data]), (90, .bool t_1.2)] fun a hE => ?_
         refine WR.eff hE rfl rfl rfl rfl (OpTo.new hE H [] (.cells #[.int .i64 0, .int .i64 0, .int .i64 0, .int .i64 0, .int .i64 0, .int .i64 0] 33 (0, 0)) (fun r => .pointer (some ⟨r, 0, none⟩)) (obs := []) rfl (fun _ => by kernel_rfl) trivial) ?_
         rintro _ w ⟨r6, rfl, H⟩ a hE
         refine WR.eff0 hE rfl rfl rfl (OpTo.store hE H rfl rfl rfl rfl rfl rfl (Nat.le_of_ble_eq_true rfl)) ?_
         rintro _ w H a hE
         refine WR.e0 hE [(7, .bool t_1.2)] fun a hE => ?_
         refine Runs.seq ?_
         refine Runs.sr ?_
         refine WR.e0 hE [(92, .bool (!t_1.2))] fun a hE => ?_
         refine Runs.cond hE rfl (fun c => ?_) (fun c => ?_)
         ·replace hm := cond_t c hm
          refine Runs.exit rfl ?_
          cases hm
          exact hk _ _ ⟨z4, z5, hE.sel [2, 4] (by kernel_rfl), H.x2.x0.t2.t2⟩
         ·replace hm := cond_f c hm
          refine Runs.skip ?_
          refine Runs.sr ?_
          refine WR.d hE 2 [.int .i64 t_1.1.Kind, .int .i64 t_1.1.Queue, .int .i64 t_1.1.Job.At, .int .i64 t_1.1.Job.Gen, .int .i64 t_1.1.Time, .int .i64 t_1.1.Data] [(93, .agg #[.int .i64 t_1.1.Kind, .int .i64 t_1.1.Queue, .int .i64 t_1.1.Job.At, .int .i64 t_1.1.Job.Gen, .int .i64 t_1.1.Time, .int .i64 t_1.1.Data]), (94, .pointer (some ⟨r2, 2, none⟩))] (obs := [.cell ⟨r6, 0, none⟩ (.int .i64 t_1.1.Kind), .cell ⟨r6, 1, none⟩ (.int .i64 t_1.1.Queue), .cell ⟨r6, 2, none⟩ (.int .i64 t_1.1.Job.At), .cell ⟨r6, 3, none⟩ (.int .i64 t_1.1.Job.Gen), .cell ⟨r6, 4, none⟩ (.int .i64 t_1.1.Time), .cell ⟨r6, 5, none⟩ (.int .i64 t_1.1.Data)]) ⟨H.cell 0 rfl rfl, H.cell 0 rfl rfl, H.cell 0 rfl rfl, H.cell 0 rfl rfl, H.cell 0 rfl rfl, H.cell 0 rfl rfl, trivial⟩ fun a hE => ?_
          refine WR.eff0 hE rfl rfl rfl (OpTo.store hE H.t2 rfl rfl rfl rfl rfl rfl (Nat.le_of_ble_eq_true rfl)) ?_
          rintro _ w H a hE
          refine WR.done rfl ?_
          refine Runs.region ?_
          obtain ⟨l9, el9, hm⟩ := bind_some hm
          obtain ⟨sb10, q14⟩ : ∃ z, rebase sb3 sc3 (Int.toNat 16) 1 = z := ⟨_, rfl⟩
          obtain ⟨sc10, q15⟩ : ∃ z, sc3 - (Int.toNat 16) = z := ⟨_, rfl⟩
          refine WR.e hE [.slice sb10 l9.length sc10] [(0, .slice sb10 l9.length sc10)] (obs := [.p (rebase sb3 sc3 (Int.toNat 16) 1 = sb10), .p (l2.length - (Int.toNat 16) = l9.length), .p (sc3 - (Int.toNat 16) = sc10), .p (0 ≤ (16 : Int) ∧ (16 : Int) ≤ ((l2.length : Nat) : Int))]) ⟨q14, cut_len el9, q15, cut_bd0 el9, trivial⟩ fun a hE => ?_
          refine Runs.region ?_
          replace H := shell_Script.open H.t4
          try dsimp only at H
          refine WR.d hE 3 [.slice z4 m_.Acts.length z5, .int .i64 (w64 (x5)), .int .i64 0, .int .i64 t_1.1.Kind, .int .i64 t_1.1.Queue, .int .i64 t_1.1.Job.At, .int .i64 t_1.1.Job.Gen, .int .i64 t_1.1.Time, .int .i64 t_1.1.Data] [(98, .slice z4 m_.Acts.length z5), (99, .agg #[.int .i64 (w64 (x5)), .int .i64 0, .int .i64 t_1.1.Kind, .int .i64 t_1.1.Queue, .int .i64 t_1.1.Job.At, .int .i64 t_1.1.Job.Gen, .int .i64 t_1.1.Time, .int .i64 t_1.1.Data])] (obs := [.cell ⟨r1, 4, none⟩ (.slice z4 m_.Acts.length z5), .cell ⟨r2, 0, none⟩ (.int .i64 (w64 (x5))), .cell ⟨r2, 1, none⟩ (.int .i64 0), .cell ⟨r2, 2, none⟩ (.int .i64 t_1.1.Kind), .cell ⟨r2, 3, none⟩ (.int .i64 t_1.1.Queue), .cell ⟨r2, 4, none⟩ (.int .i64 t_1.1.Job.At), .cell ⟨r2, 5, none⟩ (.int .i64 t_1.1.Job.Gen), .cell ⟨r2, 6, none⟩ (.int .i64 t_1.1.Time), .cell ⟨r2, 7, none⟩ (.int .i64 t_1.1.Data)]) ⟨H.cell 0 rfl rfl, H.cell 2 rfl rfl, H.cell 2 rfl rfl, H.cell 2 rfl rfl, H.cell 2 rfl rfl, H.cell 2 rfl rfl, H.cell 2 rfl rfl, H.cell 2 rfl rfl, H.cell 2 rfl rfl, trivial⟩ fun a hE => ?_
          refine WR.eff hE rfl rfl rfl rfl (OpTo.buildSl (T := 42) hE H api_Act.enc_ok ([api_Act.mk (w64 (x5)) 0 t_1.1] : List api_Act) rfl (fun _ => by kernel_rfl) rfl rfl rfl) ?_
          rintro _ w ⟨r7, rfl, H⟩ a hE
          obtain ⟨l10, el10, hm⟩ := bind_some hm
          replace H := H.t2
          refine WR.eff hE rfl rfl rfl rfl (OpTo.appendM el10 hE H api_Act.enc_ok rfl rfl rfl rfl rfl rfl rfl rfl rfl rfl (SlRd.all (sl_rd 42 api_Act.enc 8 _ _ _) api_Act.enc_ok H 1 rfl) rfl) ?_
          rintro _ w ⟨sb11, sc11, rfl, H⟩ a hE
          refine WR.d0 hE 6 [(102, .pointer (some ⟨r1, 4, none⟩))] fun a hE => ?_
          refine WR.eff0 hE rfl rfl rfl (OpTo.store hE H.t2 rfl rfl rfl rfl rfl rfl (Nat.le_of_ble_eq_true rfl)) ?_
          rintro _ w H a hE
          refine WR.done rfl ?_
          refine Runs.inBlock ?_
          replace H := shell_Script.shut (shell_Script.A.mk sb11 sc11) (shell_Script.mk m_.Kind m_.Jobs m_.Boxes m_.Room l10) H.t1.t1
          exact ih m (Nat.lt_succ_self m) _ _ ⟨l9, shell_Script.mk m_.Kind m_.Jobs m_.Boxes m_.Room l10, sb10, sc10, sb11, sc11, hE.sel [0, 2, 4] (by kernel_rfl), ((hX1.cut' ecU_ok el2 (hC1) q2).cut' ecU_ok el9 ((cut_cap2 el2 hC1 q3)) q14), (cut_cap2 el9 (cut_cap2 el2 hC1 q3) q15), H.x3.x2.x1.t1.t1.t2, hm⟩
       ·replace hm := cond_f c hm
        refine Runs.skip ?_
        refine Runs.region ?_
        replace H := shell_Script.open H.t2
        try dsimp only at H
        refine WR.seg hE 3 [.slice z4 m_.Acts.length z5, .int .i64 (w64 (x5)), .int .i64 0, .int .i64 0, .int .i64 0, .int .i64 0, .int .i64 0, .int .i64 0, .int .i64 0] [0, 2, 4, 98, 99] (Lo := [(0, .slice sb3 l2.length sc3), (2, .pointer (some ⟨r, 0, none⟩)), (4, .pointer (some ⟨r1, 0, none⟩)), (98, .slice z4 m_.Acts.length z5), (99, .agg #[.int .i64 (w64 (x5)), .int .i64 0, .int .i64 0, .int .i64 0, .int .i64 0, .int .i64 0, .int .i64 0, .int .i64 0])]) (obs := [.cell ⟨r1, 4, none⟩ (.slice z4 m_.Acts.length z5), .cell ⟨r2, 0, none⟩ (.int .i64 (w64 (x5))), .cell ⟨r2, 1, none⟩ (.int .i64 0), .cell ⟨r2, 2, none⟩ (.int .i64 0), .cell ⟨r2, 3, none⟩ (.int .i64 0), .cell ⟨r2, 4, none⟩ (.int .i64 0), .cell ⟨r2, 5, none⟩ (.int .i64 0), .cell ⟨r2, 6, none⟩ (.int .i64 0), .cell ⟨r2, 7, none⟩ (.int .i64 0)]) rfl (by kernel_rfl) ⟨H.cell 0 rfl rfl, H.cell 2 rfl rfl, H.cell 2 rfl rfl, H.cell 2 rfl rfl, H.cell 2 rfl rfl, H.cell 2 rfl rfl, H.cell 2 rfl rfl, H.cell 2 rfl rfl, H.cell 2 rfl rfl, trivial⟩ fun a hE => ?_
        refine WR.eff hE rfl rfl rfl rfl (OpTo.buildSl (T := 42) hE H api_Act.enc_ok ([api_Act.mk (w64 (x5)) 0 (api_Command.mk 0 0 (api_Ref.mk 0 0) 0 0)] : List api_Act) rfl (fun _ => by kernel_rfl) rfl rfl rfl) ?_
        rintro _ w ⟨r8, rfl, H⟩ a hE
        obtain ⟨l11, el11, hm⟩ := bind_some hm
        replace H := H.t2
        refine WR.eff hE rfl rfl rfl rfl (OpTo.appendM el11 hE H api_Act.enc_ok rfl rfl rfl rfl rfl rfl rfl rfl rfl rfl (SlRd.all (sl_rd 42 api_Act.enc 8 _ _ _) api_Act.enc_ok H 1 rfl) rfl) ?_
        rintro _ w ⟨sb12, sc12, rfl, H⟩ a hE
        refine WR.d0 hE 6 [(102, .pointer (some ⟨r1, 4, none⟩))] fun a hE => ?_
        refine WR.eff0 hE rfl rfl rfl (OpTo.store hE H.t2 rfl rfl rfl rfl rfl rfl (Nat.le_of_ble_eq_true rfl)) ?_
        rintro _ w H a hE
        refine WR.done rfl ?_
        refine Runs.inBlock ?_
        replace H := shell_Script.shut (shell_Script.A.mk sb12 sc12) (shell_Script.mk m_.Kind m_.Jobs m_.Boxes m_.Room l11) H.t1.t1
        exact ih m (Nat.lt_succ_self m) _ _ ⟨l2, shell_Script.mk m_.Kind m_.Jobs m_.Boxes m_.Room l11, sb3, sc3, sb12, sc12, hE.sel [0, 2, 4] (by kernel_rfl), (hX1.cut' ecU_ok el2 (hC1) q2), (cut_cap2 el2 hC1 q3), H.x2.x1.t2.t1.t2, hm⟩
    ·replace hm := cond_f c hm
     refine Runs.exit rfl ?_
     cases hm
     exact hk _ _ ⟨z4, z5, hE.sel [2, 4] (by kernel_rfl), H.t2.t2.t2⟩
  rintro a w ⟨z2, z3, hE, H⟩
  refine Runs.sr ?_
  replace H := shell_Script.open H.t1
  try dsimp only at H
  refine WR.seg hE 1 [.int .i64 s.Kind, .int .i64 s.Jobs, .int .i64 s.Boxes, .int .i64 s.Room, .slice z2 s.Acts.length z3] [2, 103] (Lo := [(2, .pointer (some ⟨r, 0, none⟩)), (103, .agg #[.int .i64 s.Kind, .int .i64 s.Jobs, .int .i64 s.Boxes, .int .i64 s.Room, .slice z2 s.Acts.length z3])]) (obs := [.cell ⟨r1, 0, none⟩ (.int .i64 s.Kind), .cell ⟨r1, 1, none⟩ (.int .i64 s.Jobs), .cell ⟨r1, 2, none⟩ (.int .i64 s.Boxes), .cell ⟨r1, 3, none⟩ (.int .i64 s.Room), .cell ⟨r1, 4, none⟩ (.slice z2 s.Acts.length z3)]) rfl (by kernel_rfl) ⟨H.cell 0 rfl rfl, H.cell 0 rfl rfl, H.cell 0 rfl rfl, H.cell 0 rfl rfl, H.cell 0 rfl rfl, trivial⟩ fun a hE => ?_
  replace H := shell_Script.open H.t2
  try dsimp only at H
  refine WR.eff0 hE rfl rfl rfl (OpTo.store hE H rfl rfl rfl rfl rfl rfl (Nat.le_of_ble_eq_true rfl)) ?_
  rintro _ w H a hE
  refine WR.e0 hE [(3, .bool true)] fun a hE => ?_
  refine Runs.retO (vs := [.agg #[.int .i64 s.Kind, .int .i64 s.Jobs, .int .i64 s.Boxes, .int .i64 s.Room, .slice z2 s.Acts.length z3], .bool true]) (obs := [.cell ⟨r, 0, none⟩ (.int .i64 s.Kind), .cell ⟨r, 1, none⟩ (.int .i64 s.Jobs), .cell ⟨r, 2, none⟩ (.int .i64 s.Boxes), .cell ⟨r, 3, none⟩ (.int .i64 s.Room), .cell ⟨r, 4, none⟩ (.slice z2 s.Acts.length z3)]) hE Tryz.func39 rfl [.int .i64 s.Kind, .int .i64 s.Jobs, .int .i64 s.Boxes, .int .i64 s.Room, .slice z2 s.Acts.length z3] (by kernel_rfl) ⟨H.cell 0 rfl rfl, H.cell 0 rfl rfl, H.cell 0 rfl rfl, H.cell 0 rfl rfl, H.cell 0 rfl rfl, trivial⟩ ?_
  cases hm
  exact ⟨z2, z3, rfl, H.x2.x1.x0.t1.t1⟩

theorem thicketbook_Same_api_Act_ok {w0 w : World} {As : List HP} {k : Nat} {sb_a_ : Option Addr} {sc_a_ : Nat} {a_ : List api_Act} {X_a_ : HP} {sb_b : Option Addr} {sc_b : Nat} {b : List api_Act} {X_b : HP} {t : Bool} (hX_a_ : SlRd X_a_ api_Act.enc 8 sb_a_ a_) (hC_a_ : a_.length ≤ sc_a_) (hX_b : SlRd X_b api_Act.enc 8 sb_b b) (hC_b : b.length ≤ sc_b) (hm : thicketbook_Same_api_Act k a_ b = some t) (H : St w0 (X_a_ :: X_b :: As) w) :
    CallsR Tryz.prog 50 #[.slice sb_a_ a_.length sc_a_, .slice sb_b b.length sc_b] w fun v w' => v = .bool t ∧ St w0 (X_a_ :: X_b :: As) w' := by
 rw [thicketbook_Same_api_Act] at hm
 refine enter (args := [.slice sb_a_ a_.length sc_a_, .slice sb_b b.length sc_b]) Tryz.func50 rfl rfl rfl fun a hE => ?_
 refine Runs.sr ?_
 refine WR.seg hE 1 [] [0, 1] (Lo := [(0, .slice sb_a_ a_.length sc_a_), (1, .slice sb_b b.length sc_b)]) (obs := []) rfl (by kernel_rfl) trivial fun a hE => ?_
 refine WR.done rfl ?_
 refine Runs.seq ?_
 refine Runs.sr ?_
 refine WR.e0 hE [(10, .bool ((a_.length : Int) != (b.length : Int)))] fun a hE => ?_
 refine Runs.cond hE rfl (fun c => ?_) (fun c => ?_)
 ·replace hm := cond_t c hm
  refine Runs.sr ?_
  refine WR.e0 hE [(4, .bool false)] fun a hE => ?_
  refine Runs.ret hE Tryz.func50 rfl rfl ?_
  cases hm
  exact ⟨rfl, H.t1.t1⟩
 ·replace hm := cond_f c hm
  refine Runs.skip ?_
  refine Runs.seq ?_
  refine Runs.sr ?_
  refine WR.e0 hE [(5, .int .i64 0)] fun a hE => ?_
  obtain ⟨s, es, hR⟩ := bind_some hm
  refine Runs.join (fun a w => ∃ s1, s = Sum.inr s1 ∧ EnvOk 26 a [] ∧ St w0 (X_a_ :: X_b :: As) w) (fun hk => ?_) ?_
  ·replace hm := es; clear es
   refine Runs.block ?_
   refine Runs.loop (fun m a w => ∃ (i : Int), EnvOk 26 a [(0, .slice sb_a_ a_.length sc_a_), (1, .slice sb_b b.length sc_b), (5, .int .i64 i)] ∧ St w0 (X_a_ :: X_b :: As) w ∧ thicketbook_Same_api_Act_l0 a_ b m i = some s) k ⟨0, hE.sel [0, 1, 5] (by kernel_rfl), H.t1.t1, hm⟩ ?_
   rintro m ih a w ⟨i, hE, H, hm⟩
   cases m with
   | zero => simp [thicketbook_Same_api_Act_l0] at hm
   | succ m =>
    rw [thicketbook_Same_api_Act_l0] at hm
    refine Runs.seq ?_
    refine Runs.sr ?_
    refine WR.seg hE 4 [] [0, 1, 5, 14] (Lo := [(0, .slice sb_a_ a_.length sc_a_), (1, .slice sb_b b.length sc_b), (5, .int .i64 i), (14, .bool (decide (i < (a_.length : Int))))]) (obs := []) rfl (by kernel_rfl) trivial fun a hE => ?_
    refine WR.done rfl ?_
    refine Runs.cond hE rfl (fun c => ?_) (fun c => ?_)
    ·replace hm := cond_t c hm
     refine Runs.skip ?_
     refine Runs.seq ?_
     refine Runs.block ?_
     refine Runs.seq ?_
     refine Runs.drawn mixed (by kernel_rfl) ?_
     replace H := H.drew
     obtain ⟨x, ex, hm⟩ := bind_some hm
     obtain ⟨b1, o, hs, hb⟩ := SlRd.base hX_a_ api_Act.enc_ok H 0 rfl ex
     obtain ⟨x1, ex1, hm⟩ := bind_some hm
     obtain ⟨b2, o1, hs1, hb1⟩ := SlRd.base hX_b api_Act.enc_ok H 1 rfl ex1
     refine WQ.d hE [0, 1, 2, 3, 4, 5, 6, 7] [.pointer (some ⟨b1, o, none⟩), .int .i64 x.Kind, .int .i64 x.Box, .int .i64 x.Command.Kind, .int .i64 x.Command.Queue, .int .i64 x.Command.Job.At, .int .i64 x.Command.Job.Gen, .int .i64 x.Command.Time, .int .i64 x.Command.Data, .pointer (some ⟨b2, o1, none⟩), .int .i64 x1.Kind, .int .i64 x1.Box, .int .i64 x1.Command.Kind, .int .i64 x1.Command.Queue, .int .i64 x1.Command.Job.At, .int .i64 x1.Command.Job.Gen, .int .i64 x1.Command.Time, .int .i64 x1.Command.Data] [(20, .agg #[.int .i64 x.Kind, .int .i64 x.Box, .int .i64 x.Command.Kind, .int .i64 x.Command.Queue, .int .i64 x.Command.Job.At, .int .i64 x.Command.Job.Gen, .int .i64 x.Command.Time, .int .i64 x.Command.Data]), (24, .agg #[.int .i64 x1.Kind, .int .i64 x1.Box, .int .i64 x1.Command.Kind, .int .i64 x1.Command.Queue, .int .i64 x1.Command.Job.At, .int .i64 x1.Command.Job.Gen, .int .i64 x1.Command.Time, .int .i64 x1.Command.Data])] (obs := [.p ((sb_a_ : Option Addr) = some ⟨b1, o, none⟩), .p (0 ≤ (i : Int) ∧ (i : Int) < ((a_.length : Nat) : Int)), .cell ⟨b1, o + (Int.toNat i) * 8, none⟩ (.int .i64 x.Kind), .cell ⟨b1, o + (Int.toNat i) * 8 + 1, none⟩ (.int .i64 x.Box), .cell ⟨b1, o + (Int.toNat i) * 8 + 2, none⟩ (.int .i64 x.Command.Kind), .cell ⟨b1, o + (Int.toNat i) * 8 + 3, none⟩ (.int .i64 x.Command.Queue), .cell ⟨b1, o + (Int.toNat i) * 8 + 4, none⟩ (.int .i64 x.Command.Job.At), .cell ⟨b1, o + (Int.toNat i) * 8 + 5, none⟩ (.int .i64 x.Command.Job.Gen), .cell ⟨b1, o + (Int.toNat i) * 8 + 6, none⟩ (.int .i64 x.Command.Time), .cell ⟨b1, o + (Int.toNat i) * 8 + 7, none⟩ (.int .i64 x.Command.Data), .p ((sb_b : Option Addr) = some ⟨b2, o1, none⟩), .p (0 ≤ (i : Int) ∧ (i : Int) < ((b.length : Nat) : Int)), .cell ⟨b2, o1 + (Int.toNat i) * 8, none⟩ (.int .i64 x1.Kind), .cell ⟨b2, o1 + (Int.toNat i) * 8 + 1, none⟩ (.int .i64 x1.Box), .cell ⟨b2, o1 + (Int.toNat i) * 8 + 2, none⟩ (.int .i64 x1.Command.Kind), .cell ⟨b2, o1 + (Int.toNat i) * 8 + 3, none⟩ (.int .i64 x1.Command.Queue), .cell ⟨b2, o1 + (Int.toNat i) * 8 + 4, none⟩ (.int .i64 x1.Command.Job.At), .cell ⟨b2, o1 + (Int.toNat i) * 8 + 5, none⟩ (.int .i64 x1.Command.Job.Gen), .cell ⟨b2, o1 + (Int.toNat i) * 8 + 6, none⟩ (.int .i64 x1.Command.Time), .cell ⟨b2, o1 + (Int.toNat i) * 8 + 7, none⟩ (.int .i64 x1.Command.Data)]) ⟨hs, hb, SlRd.cells hX_a_ api_Act.enc_ok H 0 rfl hs ex 0 _ rfl, SlRd.cells hX_a_ api_Act.enc_ok H 0 rfl hs ex 1 _ rfl, SlRd.cells hX_a_ api_Act.enc_ok H 0 rfl hs ex 2 _ rfl, SlRd.cells hX_a_ api_Act.enc_ok H 0 rfl hs ex 3 _ rfl, SlRd.cells hX_a_ api_Act.enc_ok H 0 rfl hs ex 4 _ rfl, SlRd.cells hX_a_ api_Act.enc_ok H 0 rfl hs ex 5 _ rfl, SlRd.cells hX_a_ api_Act.enc_ok H 0 rfl hs ex 6 _ rfl, SlRd.cells hX_a_ api_Act.enc_ok H 0 rfl hs ex 7 _ rfl, hs1, hb1, SlRd.cells hX_b api_Act.enc_ok H 1 rfl hs1 ex1 0 _ rfl, SlRd.cells hX_b api_Act.enc_ok H 1 rfl hs1 ex1 1 _ rfl, SlRd.cells hX_b api_Act.enc_ok H 1 rfl hs1 ex1 2 _ rfl, SlRd.cells hX_b api_Act.enc_ok H 1 rfl hs1 ex1 3 _ rfl, SlRd.cells hX_b api_Act.enc_ok H 1 rfl hs1 ex1 4 _ rfl, SlRd.cells hX_b api_Act.enc_ok H 1 rfl hs1 ex1 5 _ rfl, SlRd.cells hX_b api_Act.enc_ok H 1 rfl hs1 ex1 6 _ rfl, SlRd.cells hX_b api_Act.enc_ok H 1 rfl hs1 ex1 7 _ rfl, trivial⟩ fun a hE => ?_
     refine WQ.eff (j := 8) (obs := []) hE (by kernel_rfl) rfl rfl rfl rfl (by kernel_rfl) (OpTo.neS hE rfl rfl rfl (by kernel_rfl) (api_Act.eq_run x x1)) ?_
     rintro _ _ ⟨rfl, rfl⟩
     refine ⟨trivial, fun a hE => ?_⟩
     refine WQ.done (by kernel_rfl) ?_
     refine Runs.cond hE rfl (fun c => ?_) (fun c => ?_)
     ·replace hm := cond_t c hm
      refine Runs.sr ?_
      refine WR.e0 hE [(4, .bool false)] fun a hE => ?_
      refine Runs.ret hE Tryz.func50 rfl rfl ?_
      cases hm
      dsimp only at hR; cases hR
      exact ⟨rfl, H.t1.t1⟩
     ·replace hm := cond_f c hm
      refine Runs.skip ?_
      refine Runs.inBlock ?_
      refine Runs.region ?_
      refine WR.e0 hE [(5, .int .i64 (w64 (i + 1)))] fun a hE => ?_
      exact ih m (Nat.lt_succ_self m) _ _ ⟨w64 (i + 1), hE.sel [0, 1, 5] (by kernel_rfl), H.t1.t1, hm⟩
    ·replace hm := cond_f c hm
     refine Runs.exit rfl ?_
     cases hm
     exact hk _ _ ⟨_, rfl, hE.sel [] (by kernel_rfl), H.t1.t1⟩
  rintro a w ⟨s1, rfl, hE, H⟩
  replace hm := hR; dsimp only at hm
  refine Runs.sr ?_
  refine WR.seg hE 1 [] [4] (Lo := [(4, .bool true)]) (obs := []) rfl (by kernel_rfl) trivial fun a hE => ?_
  refine WR.done rfl ?_
  refine Runs.ret hE Tryz.func50 rfl rfl ?_
  cases hm
  exact ⟨rfl, H.t1.t1⟩

theorem thicketlaw28_same_ok {w0 w : World} {As : List HP} {k : Nat} {a_ : shell_Script} {al_a_ : shell_Script.A} {X_a_ : HP} {b : shell_Script} {al_b : shell_Script.A} {X_b : HP} {t : Bool} (hX_a__Acts : SlRd X_a_ api_Act.enc 8 al_a_.Acts_b a_.Acts) (hC_a__Acts : a_.Acts.length ≤ al_a_.Acts_c) (hX_b_Acts : SlRd X_b api_Act.enc 8 al_b.Acts_b b.Acts) (hC_b_Acts : b.Acts.length ≤ al_b.Acts_c) (hm : thicketlaw28_same k a_ b = some t) (H : St w0 (X_a_ :: X_b :: As) w) :
    CallsR Tryz.prog 25 #[.agg #[.int .i64 a_.Kind, .int .i64 a_.Jobs, .int .i64 a_.Boxes, .int .i64 a_.Room, .slice al_a_.Acts_b a_.Acts.length al_a_.Acts_c], .agg #[.int .i64 b.Kind, .int .i64 b.Jobs, .int .i64 b.Boxes, .int .i64 b.Room, .slice al_b.Acts_b b.Acts.length al_b.Acts_c]] w fun v w' => v = .bool t ∧ St w0 (X_a_ :: X_b :: As) w' := by
 rw [thicketlaw28_same] at hm
 refine enter (args := [.agg #[.int .i64 a_.Kind, .int .i64 a_.Jobs, .int .i64 a_.Boxes, .int .i64 a_.Room, .slice al_a_.Acts_b a_.Acts.length al_a_.Acts_c], .agg #[.int .i64 b.Kind, .int .i64 b.Jobs, .int .i64 b.Boxes, .int .i64 b.Room, .slice al_b.Acts_b b.Acts.length al_b.Acts_c]]) Tryz.func25 rfl rfl rfl fun a hE => ?_
 refine Runs.sr ?_
 refine WR.eff hE rfl rfl rfl rfl (OpTo.new hE H [] (.cells #[.int .i64 a_.Kind, .int .i64 a_.Jobs, .int .i64 a_.Boxes, .int .i64 a_.Room, .slice al_a_.Acts_b a_.Acts.length al_a_.Acts_c] 45 (0, 0)) (fun r => .pointer (some ⟨r, 0, none⟩)) (obs := []) rfl (fun _ => by kernel_rfl) trivial) ?_
 rintro _ w ⟨r, rfl, H⟩ a hE
 refine WR.eff hE rfl rfl rfl rfl (OpTo.new hE H [] (.cells #[.int .i64 b.Kind, .int .i64 b.Jobs, .int .i64 b.Boxes, .int .i64 b.Room, .slice al_b.Acts_b b.Acts.length al_b.Acts_c] 45 (0, 0)) (fun r => .pointer (some ⟨r, 0, none⟩)) (obs := []) rfl (fun _ => by kernel_rfl) trivial) ?_
 rintro _ w ⟨r1, rfl, H⟩ a hE
 refine WR.seg hE 3 [] [2, 3] (Lo := [(2, .pointer (some ⟨r, 0, none⟩)), (3, .pointer (some ⟨r1, 0, none⟩))]) (obs := []) rfl (by kernel_rfl) trivial fun a hE => ?_
 refine WR.done rfl ?_
 refine Runs.seq ?_
 obtain ⟨s, es, hm⟩ := bind_some hm
 refine Runs.join (fun a w => EnvOk 38 a [(4, .bool s)] ∧ St w0 (X_a_ :: X_b :: As) w) (fun hk => ?_) ?_
 ·replace hm := es; clear es
  refine Runs.region ?_
  refine WR.d hE 6 [.int .i64 a_.Kind, .int .i64 b.Kind] [(10, .bool (a_.Kind == b.Kind))] (obs := [.cell ⟨r, 0, none⟩ (.int .i64 a_.Kind), .cell ⟨r1, 0, none⟩ (.int .i64 b.Kind)]) ⟨H.cell 1 rfl rfl, H.cell 0 rfl rfl, trivial⟩ fun a hE => ?_
  rcases Bool.eq_false_or_eq_true (a_.Kind == b.Kind) with c | c
  ·replace hE := hE.dec 10 c (by kernel_rfl)
   replace hm := cond_t c hm
   have c_ := c
   refine WR.d hE 13 [.int .i64 a_.Jobs, .int .i64 b.Jobs] [(17, .bool (a_.Jobs == b.Jobs))] (obs := [.cell ⟨r, 1, none⟩ (.int .i64 a_.Jobs), .cell ⟨r1, 1, none⟩ (.int .i64 b.Jobs)]) ⟨H.cell 1 rfl rfl, H.cell 0 rfl rfl, trivial⟩ fun a hE => ?_
   rcases Bool.eq_false_or_eq_true (a_.Jobs == b.Jobs) with c | c
   ·replace hE := hE.dec 17 c (by kernel_rfl)
    replace hm := cond_t c hm
    have c_1 := c
    refine WR.d hE 20 [.int .i64 a_.Boxes, .int .i64 b.Boxes] [(24, .bool (a_.Boxes == b.Boxes))] (obs := [.cell ⟨r, 2, none⟩ (.int .i64 a_.Boxes), .cell ⟨r1, 2, none⟩ (.int .i64 b.Boxes)]) ⟨H.cell 1 rfl rfl, H.cell 0 rfl rfl, trivial⟩ fun a hE => ?_
    rcases Bool.eq_false_or_eq_true (a_.Boxes == b.Boxes) with c | c
    ·replace hE := hE.dec 24 c (by kernel_rfl)
     replace hm := cond_t c hm
     have c_2 := c
     refine WR.d hE 27 [.int .i64 a_.Room, .int .i64 b.Room] [(31, .bool (a_.Room == b.Room))] (obs := [.cell ⟨r, 3, none⟩ (.int .i64 a_.Room), .cell ⟨r1, 3, none⟩ (.int .i64 b.Room)]) ⟨H.cell 1 rfl rfl, H.cell 0 rfl rfl, trivial⟩ fun a hE => ?_
     rcases Bool.eq_false_or_eq_true (a_.Room == b.Room) with c | c
     ·replace hE := hE.dec 31 c (by kernel_rfl)
      replace hm := cond_t c hm
      have c_3 := c
      refine WR.d hE 31 [.slice al_a_.Acts_b a_.Acts.length al_a_.Acts_c, .slice al_b.Acts_b b.Acts.length al_b.Acts_c] [(31, .bool true), (33, .slice al_a_.Acts_b a_.Acts.length al_a_.Acts_c), (35, .slice al_b.Acts_b b.Acts.length al_b.Acts_c)] (obs := [.cell ⟨r, 4, none⟩ (.slice al_a_.Acts_b a_.Acts.length al_a_.Acts_c), .cell ⟨r1, 4, none⟩ (.slice al_b.Acts_b b.Acts.length al_b.Acts_c)]) ⟨H.cell 1 rfl rfl, H.cell 0 rfl rfl, trivial⟩ fun a hE => ?_
      obtain ⟨t_, et_, hm⟩ := bind_some hm
      replace H := H.t3.t3
      refine WR.eff hE rfl rfl rfl rfl (OpTo.fn hE rfl rfl Tryz.call50 (thicketbook_Same_api_Act_ok (hX_a_ := hX_a__Acts) (hC_a_ := hC_a__Acts) (hX_b := hX_b_Acts) (hC_b := hC_b_Acts) et_ H)) ?_
      rintro _ w ⟨rfl, H⟩ a hE
      refine WR.e0 hE [(4, .bool t_)] fun a hE => ?_
      cases hm
      exact hk _ _ ⟨hE.sel [4] (by kernel_rfl), H.x3.x2.t1.t1⟩
     ·replace hE := hE.dec 31 c (by kernel_rfl)
      replace hm := cond_f c hm
      have c_4 := c
      refine WR.e0 hE [(4, .bool false)] fun a hE => ?_
      cases hm
      exact hk _ _ ⟨hE.sel [4] (by kernel_rfl), H.x1.x0.t1.t1⟩
    ·replace hE := hE.dec 24 c (by kernel_rfl)
     replace hm := cond_f c hm
     have c_5 := c
     refine WR.e0 hE [(4, .bool false)] fun a hE => ?_
     cases hm
     exact hk _ _ ⟨hE.sel [4] (by kernel_rfl), H.x1.x0.t1.t1⟩
   ·replace hE := hE.dec 17 c (by kernel_rfl)
    replace hm := cond_f c hm
    have c_6 := c
    refine WR.e0 hE [(4, .bool false)] fun a hE => ?_
    cases hm
    exact hk _ _ ⟨hE.sel [4] (by kernel_rfl), H.x1.x0.t1.t1⟩
  ·replace hE := hE.dec 10 c (by kernel_rfl)
   replace hm := cond_f c hm
   have c_7 := c
   refine WR.e0 hE [(4, .bool false)] fun a hE => ?_
   cases hm
   exact hk _ _ ⟨hE.sel [4] (by kernel_rfl), H.x1.x0.t1.t1⟩
 rintro a w ⟨hE, H⟩
 refine Runs.ret hE Tryz.func25 rfl rfl ?_
 cases hm
 exact ⟨rfl, H.t1.t1⟩

theorem thicketlaw28_reads_ok {w0 w : World} {As : List HP} {k : Nat} {sb_b : Option Addr} {sc_b : Nat} {b : List Int} {X_b : HP} {t : Bool} (hX_b : SlRd X_b ecU 1 sb_b b) (hC_b : b.length ≤ sc_b) (hm : thicketlaw28_reads k b = some t) (H : St w0 (X_b :: As) w) :
    CallsR Tryz.prog 17 #[.slice sb_b b.length sc_b] w fun v w' => v = .bool t ∧ St w0 (X_b :: As) w' := by
 rw [thicketlaw28_reads] at hm
 refine enter (args := [.slice sb_b b.length sc_b]) Tryz.func17 rfl rfl rfl fun a hE => ?_
 refine Runs.sr ?_
 refine WR.seg hE 1 [] [0] (Lo := [(0, .slice sb_b b.length sc_b)]) (obs := []) rfl (by kernel_rfl) trivial fun a hE => ?_
 refine WR.done rfl ?_
 refine Runs.sr ?_
 refine WR.d0 hE 1 [(8, .slice sb_b b.length sc_b)] fun a hE => ?_
 obtain ⟨t_, et_, hm⟩ := bind_some hm
 refine WR.eff hE rfl rfl rfl rfl (OpTo.fn hE rfl rfl Tryz.call24 (shell_Decode_ok (hX_b := hX_b) (hC_b := hC_b) et_ H)) ?_
 rintro _ w ⟨sb, sc, rfl, H⟩ a hE
 refine WR.d0 hE 5 [(10, .agg #[.int .i64 t_.1.Kind, .int .i64 t_.1.Jobs, .int .i64 t_.1.Boxes, .int .i64 t_.1.Room, .slice sb t_.1.Acts.length sc]), (11, .int .i64 t_.2)] fun a hE => ?_
 refine WR.eff hE rfl rfl rfl rfl (OpTo.new hE H [] (.cells #[.int .i64 0, .int .i64 0, .int .i64 0, .int .i64 0, .slice none 0 0] 45 (0, 0)) (fun r => .pointer (some ⟨r, 0, none⟩)) (obs := []) rfl (fun _ => by kernel_rfl) trivial) ?_
 rintro _ w ⟨r, rfl, H⟩ a hE
 refine WR.eff0 hE rfl rfl rfl (OpTo.store hE H rfl rfl rfl rfl rfl rfl (Nat.le_of_ble_eq_true rfl)) ?_
 rintro _ w H a hE
 refine WR.e0 hE [(4, .int .i64 t_.2)] fun a hE => ?_
 refine Runs.sr ?_
 refine WR.d0 hE 1 [(13, .slice sb_b b.length sc_b)] fun a hE => ?_
 obtain ⟨t_1, et_1, hm⟩ := bind_some hm
 replace H := H.t2
 refine WR.eff hE rfl rfl rfl rfl (OpTo.fn hE rfl rfl Tryz.call39 (thicketlaw28_parse_ok (hX_b := hX_b) (hC_b := hC_b) et_1 H)) ?_
 rintro _ w ⟨sb1, sc1, rfl, H⟩ a hE
 refine WR.d0 hE 5 [(15, .agg #[.int .i64 t_1.1.Kind, .int .i64 t_1.1.Jobs, .int .i64 t_1.1.Boxes, .int .i64 t_1.1.Room, .slice sb1 t_1.1.Acts.length sc1]), (16, .bool t_1.2)] fun a hE => ?_
 refine WR.eff hE rfl rfl rfl rfl (OpTo.new hE H [] (.cells #[.int .i64 0, .int .i64 0, .int .i64 0, .int .i64 0, .slice none 0 0] 45 (0, 0)) (fun r => .pointer (some ⟨r, 0, none⟩)) (obs := []) rfl (fun _ => by kernel_rfl) trivial) ?_
 rintro _ w ⟨r1, rfl, H⟩ a hE
 refine WR.eff0 hE rfl rfl rfl (OpTo.store hE H rfl rfl rfl rfl rfl rfl (Nat.le_of_ble_eq_true rfl)) ?_
 rintro _ w H a hE
 refine WR.e0 hE [(6, .bool t_1.2)] fun a hE => ?_
 refine Runs.seq ?_
 replace H := shell_Script.shut (shell_Script.A.mk sb1 sc1) (t_1.1) H.t1.t1
 replace H := shell_Script.shut (shell_Script.A.mk sb sc) (t_.1) H.t3.t3
 obtain ⟨s, es, hm⟩ := bind_some hm
 refine Runs.join (fun a w => EnvOk 33 a [(2, .bool s)] ∧ St w0 (shell_Script.R r (shell_Script.A.mk sb sc) t_.1 :: shell_Script.R r1 (shell_Script.A.mk sb1 sc1) t_1.1 :: X_b :: As) w) (fun hk => ?_) ?_
 ·replace hm := es; clear es
  refine Runs.region ?_
  refine WR.d0 hE 5 [(21, .bool ((t_.2 == 0) == t_1.2))] fun a hE => ?_
  rcases Bool.eq_false_or_eq_true ((t_.2 == 0) == t_1.2) with c | c
  ·replace hE := hE.dec 21 c (by kernel_rfl)
   replace hm := cond_t c hm
   have c_ := c
   replace H := shell_Script.open H
   try dsimp only at H
   replace H := shell_Script.open H.t2
   try dsimp only at H
   refine WR.d hE 7 [.int .i64 t_.1.Kind, .int .i64 t_.1.Jobs, .int .i64 t_.1.Boxes, .int .i64 t_.1.Room, .slice sb t_.1.Acts.length sc, .int .i64 t_1.1.Kind, .int .i64 t_1.1.Jobs, .int .i64 t_1.1.Boxes, .int .i64 t_1.1.Room, .slice sb1 t_1.1.Acts.length sc1] [(21, .bool true), (22, .agg #[.int .i64 t_.1.Kind, .int .i64 t_.1.Jobs, .int .i64 t_.1.Boxes, .int .i64 t_.1.Room, .slice sb t_.1.Acts.length sc]), (23, .agg #[.int .i64 t_1.1.Kind, .int .i64 t_1.1.Jobs, .int .i64 t_1.1.Boxes, .int .i64 t_1.1.Room, .slice sb1 t_1.1.Acts.length sc1])] (obs := [.cell ⟨r, 0, none⟩ (.int .i64 t_.1.Kind), .cell ⟨r, 1, none⟩ (.int .i64 t_.1.Jobs), .cell ⟨r, 2, none⟩ (.int .i64 t_.1.Boxes), .cell ⟨r, 3, none⟩ (.int .i64 t_.1.Room), .cell ⟨r, 4, none⟩ (.slice sb t_.1.Acts.length sc), .cell ⟨r1, 0, none⟩ (.int .i64 t_1.1.Kind), .cell ⟨r1, 1, none⟩ (.int .i64 t_1.1.Jobs), .cell ⟨r1, 2, none⟩ (.int .i64 t_1.1.Boxes), .cell ⟨r1, 3, none⟩ (.int .i64 t_1.1.Room), .cell ⟨r1, 4, none⟩ (.slice sb1 t_1.1.Acts.length sc1)]) ⟨H.cell 2 rfl rfl, H.cell 2 rfl rfl, H.cell 2 rfl rfl, H.cell 2 rfl rfl, H.cell 2 rfl rfl, H.cell 0 rfl rfl, H.cell 0 rfl rfl, H.cell 0 rfl rfl, H.cell 0 rfl rfl, H.cell 0 rfl rfl, trivial⟩ fun a hE => ?_
   obtain ⟨t_2, et_2, hm⟩ := bind_some hm
   replace H := H.t1.t3
   have hC_ := thicketlaw28_same_ok (al_a_ := shell_Script.A.mk sb sc) (hX_a__Acts := (sl_rd 42 api_Act.enc 8 _ _ _)) (hC_a__Acts := (H.slCap 0 rfl).1) (al_b := shell_Script.A.mk sb1 sc1) (hX_b_Acts := (sl_rd 42 api_Act.enc 8 _ _ _)) (hC_b_Acts := (H.slCap 1 rfl).1) et_2 H
   try dsimp only at hC_
   refine WR.eff hE rfl rfl rfl rfl (OpTo.fn hE rfl rfl Tryz.call25 hC_) ?_
   rintro _ w ⟨rfl, H⟩ a hE
   refine WR.d0 hE 10 [(26, .bool t_2)] fun a hE => ?_
   rcases Bool.eq_false_or_eq_true t_2 with c | c
   ·replace hE := hE.dec 26 c (by kernel_rfl)
    replace hm := cond_t c hm
    have c_1 := c
    refine WR.d0 hE 12 [(26, .bool true), (28, .bool t_1.2)] fun a hE => ?_
    rcases Bool.eq_false_or_eq_true t_1.2 with c | c
    ·replace hE := hE.dec 28 c (by kernel_rfl)
     replace hm := cond_t c hm
     have c_2 := c
     refine WR.e0 hE [(2, .bool true)] fun a hE => ?_
     replace H := shell_Script.shut (shell_Script.A.mk sb1 sc1) (t_1.1) H.t1.t2
     replace H := shell_Script.shut (shell_Script.A.mk sb sc) (t_.1) H.t1.t2
     cases hm
     exact hk _ _ ⟨hE.sel [2] (by kernel_rfl), H.t2.t2.t2⟩
    ·replace hE := hE.dec 28 c (by kernel_rfl)
     replace hm := cond_f c hm
     have c_3 := c
     refine WR.e0 hE [(2, .bool (t_.2 == 12))] fun a hE => ?_
     replace H := shell_Script.shut (shell_Script.A.mk sb1 sc1) (t_1.1) H.t1.t2
     replace H := shell_Script.shut (shell_Script.A.mk sb sc) (t_.1) H.t1.t2
     cases hm
     exact hk _ _ ⟨hE.sel [2] (by kernel_rfl), H.t2.t2.t2⟩
   ·replace hE := hE.dec 26 c (by kernel_rfl)
    replace hm := cond_f c hm
    have c_4 := c
    refine WR.e0 hE [(2, .bool false)] fun a hE => ?_
    replace H := shell_Script.shut (shell_Script.A.mk sb1 sc1) (t_1.1) H.t1.t2
    replace H := shell_Script.shut (shell_Script.A.mk sb sc) (t_.1) H.t1.t2
    cases hm
    exact hk _ _ ⟨hE.sel [2] (by kernel_rfl), H.t2.t2.t2⟩
  ·replace hE := hE.dec 21 c (by kernel_rfl)
   replace hm := cond_f c hm
   have c_5 := c
   refine WR.e0 hE [(2, .bool false)] fun a hE => ?_
   cases hm
   exact hk _ _ ⟨hE.sel [2] (by kernel_rfl), H.t2.t2.t2⟩
 rintro a w ⟨hE, H⟩
 refine Runs.ret hE Tryz.func17 rfl rfl ?_
 cases hm
 exact ⟨rfl, H.x1.x0⟩

theorem thicketlaw28_small_ok {w0 w : World} {As : List HP} {n : Int} {most : Int} {t : Bool}  (hm : thicketlaw28_small n most = some t) (H : St w0 (As) w) :
    CallsR Tryz.prog 40 #[.int .i64 n, .int .i64 most] w fun v w' => v = .bool t ∧ St w0 (As) w' := by
 rw [thicketlaw28_small] at hm
 refine enter (args := [.int .i64 n, .int .i64 most]) Tryz.func40 rfl rfl rfl fun a hE => ?_
 refine Runs.sr ?_
 refine WR.seg hE 1 [] [0, 1] (Lo := [(0, .int .i64 n), (1, .int .i64 most)]) (obs := []) rfl (by kernel_rfl) trivial fun a hE => ?_
 refine WR.done rfl ?_
 refine Runs.seq ?_
 refine Runs.join (fun a w => EnvOk 12 a [(4, .bool ((decide (n ≥ 0)) && (decide (n ≤ most))))] ∧ St w0 (As) w) (fun hk => ?_) ?_
 ·clear hm
  refine Runs.region ?_
  refine WR.d0 hE 3 [(7, .bool (decide (n ≥ 0)))] fun a hE => ?_
  rcases Bool.eq_false_or_eq_true (decide (n ≥ 0)) with c | c
  ·replace hE := hE.dec 7 c (by kernel_rfl)
   have c_ := c
   refine WR.e0 hE [(4, .bool (decide (n ≤ most)))] fun a hE => ?_
   refine hk _ _ ⟨?_, H⟩
   try rw [c_] at hE
   try rw [c_]
   exact hE.sel [4] (by kernel_rfl)
  ·replace hE := hE.dec 7 c (by kernel_rfl)
   have c_1 := c
   refine WR.e0 hE [(4, .bool false)] fun a hE => ?_
   refine hk _ _ ⟨?_, H⟩
   try rw [c_1] at hE
   try rw [c_1]
   exact hE.sel [4] (by kernel_rfl)
 rintro a w ⟨hE, H⟩
 refine Runs.ret hE Tryz.func40 rfl rfl ?_
 cases hm
 exact ⟨rfl, H⟩

theorem thicketlaw28_may_ok {w0 w : World} {As : List HP} {a_ : api_Act} {t : Bool}  (hm : thicketlaw28_may a_ = some t) (H : St w0 (As) w) :
    CallsR Tryz.prog 41 #[.agg #[.int .i64 a_.Kind, .int .i64 a_.Box, .int .i64 a_.Command.Kind, .int .i64 a_.Command.Queue, .int .i64 a_.Command.Job.At, .int .i64 a_.Command.Job.Gen, .int .i64 a_.Command.Time, .int .i64 a_.Command.Data]] w fun v w' => v = .bool t ∧ St w0 (As) w' := by
 rw [thicketlaw28_may] at hm
 refine enter (args := [.agg #[.int .i64 a_.Kind, .int .i64 a_.Box, .int .i64 a_.Command.Kind, .int .i64 a_.Command.Queue, .int .i64 a_.Command.Job.At, .int .i64 a_.Command.Job.Gen, .int .i64 a_.Command.Time, .int .i64 a_.Command.Data]]) Tryz.func41 rfl rfl rfl fun a hE => ?_
 refine Runs.sr ?_
 refine WR.eff hE rfl rfl rfl rfl (OpTo.new hE H [] (.cells #[.int .i64 a_.Kind, .int .i64 a_.Box, .int .i64 a_.Command.Kind, .int .i64 a_.Command.Queue, .int .i64 a_.Command.Job.At, .int .i64 a_.Command.Job.Gen, .int .i64 a_.Command.Time, .int .i64 a_.Command.Data] 42 (0, 0)) (fun r => .pointer (some ⟨r, 0, none⟩)) (obs := []) rfl (fun _ => by kernel_rfl) trivial) ?_
 rintro _ w ⟨r, rfl, H⟩ a hE
 refine WR.seg hE 2 [] [1] (Lo := [(1, .pointer (some ⟨r, 0, none⟩))]) (obs := []) rfl (by kernel_rfl) trivial fun a hE => ?_
 refine WR.done rfl ?_
 refine Runs.sr ?_
 refine WR.d hE 2 [.int .i64 a_.Command.Kind, .int .i64 a_.Command.Queue, .int .i64 a_.Command.Job.At, .int .i64 a_.Command.Job.Gen, .int .i64 a_.Command.Time, .int .i64 a_.Command.Data] [(5, .agg #[.int .i64 a_.Command.Kind, .int .i64 a_.Command.Queue, .int .i64 a_.Command.Job.At, .int .i64 a_.Command.Job.Gen, .int .i64 a_.Command.Time, .int .i64 a_.Command.Data])] (obs := [.cell ⟨r, 2, none⟩ (.int .i64 a_.Command.Kind), .cell ⟨r, 3, none⟩ (.int .i64 a_.Command.Queue), .cell ⟨r, 4, none⟩ (.int .i64 a_.Command.Job.At), .cell ⟨r, 5, none⟩ (.int .i64 a_.Command.Job.Gen), .cell ⟨r, 6, none⟩ (.int .i64 a_.Command.Time), .cell ⟨r, 7, none⟩ (.int .i64 a_.Command.Data)]) ⟨H.cell 0 rfl rfl, H.cell 0 rfl rfl, H.cell 0 rfl rfl, H.cell 0 rfl rfl, H.cell 0 rfl rfl, H.cell 0 rfl rfl, trivial⟩ fun a hE => ?_
 refine WR.eff hE rfl rfl rfl rfl (OpTo.new hE H [] (.cells #[.int .i64 0, .int .i64 0, .int .i64 0, .int .i64 0, .int .i64 0, .int .i64 0] 33 (0, 0)) (fun r => .pointer (some ⟨r, 0, none⟩)) (obs := []) rfl (fun _ => by kernel_rfl) trivial) ?_
 rintro _ w ⟨r1, rfl, H⟩ a hE
 refine WR.eff0 hE rfl rfl rfl (OpTo.store hE H rfl rfl rfl rfl rfl rfl (Nat.le_of_ble_eq_true rfl)) ?_
 rintro _ w H a hE
 refine WR.done rfl ?_
 refine Runs.seq ?_
 refine Runs.sr ?_
 refine WR.e hE [.int .i64 a_.Kind] [(7, .int .i64 a_.Kind)] (obs := [.cell ⟨r, 0, none⟩ (.int .i64 a_.Kind)]) ⟨H.cell 1 rfl rfl, trivial⟩ fun a hE => ?_
 obtain ⟨s, es, hR⟩ := bind_some hm
 refine Runs.join (fun a w => ∃ s1, s = Sum.inr s1 ∧ EnvOk 44 a [(3, .pointer (some ⟨r1, 0, none⟩))] ∧ St w0 (Blk r1 33 [.int .i64 a_.Command.Kind, .int .i64 a_.Command.Queue, .int .i64 a_.Command.Job.At, .int .i64 a_.Command.Job.Gen, .int .i64 a_.Command.Time, .int .i64 a_.Command.Data] :: As) w) (fun hk => ?_) ?_
 ·replace hm := es; clear es
  refine Runs.block ?_
  refine Runs.seq ?_
  refine Runs.sr ?_
  refine WR.e0 hE [(8, .bool (a_.Kind == 2))] fun a hE => ?_
  obtain ⟨s2, es2, hm⟩ := bind_some hm
  refine Runs.join (fun a w => EnvOk 44 a [(1, .pointer (some ⟨r, 0, none⟩)), (3, .pointer (some ⟨r1, 0, none⟩)), (7, .int .i64 a_.Kind), (8, .bool s2)] ∧ St w0 (Blk r1 33 [.int .i64 a_.Command.Kind, .int .i64 a_.Command.Queue, .int .i64 a_.Command.Job.At, .int .i64 a_.Command.Job.Gen, .int .i64 a_.Command.Time, .int .i64 a_.Command.Data] :: Blk r 42 [.int .i64 a_.Kind, .int .i64 a_.Box, .int .i64 a_.Command.Kind, .int .i64 a_.Command.Queue, .int .i64 a_.Command.Job.At, .int .i64 a_.Command.Job.Gen, .int .i64 a_.Command.Time, .int .i64 a_.Command.Data] :: As) w) (fun hk => ?_) ?_
  ·replace hm := es2; clear es2
   refine Runs.cond hE rfl (fun c => ?_) (fun c => ?_)
   ·replace hm := cond_t c hm
    refine Runs.skip ?_
    cases hm
    exact hk _ _ ⟨hE.sel [1, 3, 7, 8] (by kernel_rfl), H.t1.t1⟩
   ·replace hm := cond_f c hm
    refine Runs.region ?_
    refine WR.e0 hE [(8, .bool (a_.Kind == 4))] fun a hE => ?_
    cases hm
    exact hk _ _ ⟨hE.sel [1, 3, 7, 8] (by kernel_rfl), H.t1.t1⟩
  rintro a w ⟨hE, H⟩
  refine Runs.cond hE rfl (fun c => ?_) (fun c => ?_)
  ·replace hm := cond_t c hm
   refine Runs.sr ?_
   refine WR.seg hE 1 [] [2] (Lo := [(2, .bool true)]) (obs := []) rfl (by kernel_rfl) trivial fun a hE => ?_
   refine WR.done rfl ?_
   refine Runs.ret hE Tryz.func41 rfl rfl ?_
   cases hm
   dsimp only at hR; cases hR
   exact ⟨rfl, H.x1.x0⟩
  ·replace hm := cond_f c hm
   refine Runs.sr ?_
   refine WR.seg hE 2 [] [1, 3, 7, 11] (Lo := [(1, .pointer (some ⟨r, 0, none⟩)), (3, .pointer (some ⟨r1, 0, none⟩)), (7, .int .i64 a_.Kind), (11, .bool (a_.Kind == 1))]) (obs := []) rfl (by kernel_rfl) trivial fun a hE => ?_
   refine WR.done rfl ?_
   refine Runs.cond hE rfl (fun c => ?_) (fun c => ?_)
   ·replace hm := cond_t c hm
    refine Runs.sr ?_
    refine WR.d hE 2 [.int .i64 a_.Box] [(14, .int .i64 a_.Box)] (obs := [.cell ⟨r, 1, none⟩ (.int .i64 a_.Box)]) ⟨H.cell 1 rfl rfl, trivial⟩ fun a hE => ?_
    obtain ⟨t_, et_, hm⟩ := bind_some hm
    refine WR.eff hE rfl rfl rfl rfl (OpTo.fn hE rfl rfl Tryz.call40 (thicketlaw28_small_ok et_ H)) ?_
    rintro _ w ⟨rfl, H⟩ a hE
    refine WR.e0 hE [(16, .bool (!t_))] fun a hE => ?_
    refine Runs.cond hE rfl (fun c => ?_) (fun c => ?_)
    ·replace hm := cond_t c hm
     refine Runs.sr ?_
     refine WR.e0 hE [(2, .bool false)] fun a hE => ?_
     refine Runs.ret hE Tryz.func41 rfl rfl ?_
     cases hm
     dsimp only at hR; cases hR
     exact ⟨rfl, H.x1.x0⟩
    ·replace hm := cond_f c hm
     refine Runs.skip ?_
     refine Runs.inBlock ?_
     cases hm
     exact hk _ _ ⟨_, rfl, hE.sel [3] (by kernel_rfl), H.x1⟩
   ·replace hm := cond_f c hm
    refine Runs.sr ?_
    refine WR.e0 hE [(17, .bool (a_.Kind == 3))] fun a hE => ?_
    refine Runs.cond hE rfl (fun c => ?_) (fun c => ?_)
    ·replace hm := cond_t c hm
     refine Runs.skip ?_
     refine Runs.inBlock ?_
     cases hm
     exact hk _ _ ⟨_, rfl, hE.sel [3] (by kernel_rfl), H.x1⟩
    ·replace hm := cond_f c hm
     refine Runs.sr ?_
     refine WR.e0 hE [(2, .bool false)] fun a hE => ?_
     refine Runs.ret hE Tryz.func41 rfl rfl ?_
     cases hm
     dsimp only at hR; cases hR
     exact ⟨rfl, H.x1.x0⟩
 rintro a w ⟨s1, rfl, hE, H⟩
 replace hm := hR; dsimp only at hm
 refine Runs.seq ?_
 obtain ⟨s3, es3, hm⟩ := bind_some hm
 refine Runs.join (fun a w => EnvOk 44 a [(2, .bool s3)] ∧ St w0 (As) w) (fun hk => ?_) ?_
 ·replace hm := es3; clear es3
  refine Runs.region ?_
  refine WR.seg hE 2 [.int .i64 a_.Command.Kind] [3, 20] (Lo := [(3, .pointer (some ⟨r1, 0, none⟩)), (20, .int .i64 a_.Command.Kind)]) (obs := [.cell ⟨r1, 0, none⟩ (.int .i64 a_.Command.Kind)]) rfl (by kernel_rfl) ⟨H.cell 0 rfl rfl, trivial⟩ fun a hE => ?_
  obtain ⟨t_1, et_1, hm⟩ := bind_some hm
  refine WR.eff hE rfl rfl rfl rfl (OpTo.fn hE rfl rfl Tryz.call40 (thicketlaw28_small_ok et_1 H)) ?_
  rintro _ w ⟨rfl, H⟩ a hE
  refine WR.d0 hE 4 [(22, .bool t_1)] fun a hE => ?_
  rcases Bool.eq_false_or_eq_true t_1 with c | c
  ·replace hE := hE.dec 22 c (by kernel_rfl)
   replace hm := cond_t c hm
   have c_ := c
   refine WR.d hE 6 [.int .i64 a_.Command.Queue] [(22, .bool true), (24, .int .i64 a_.Command.Queue)] (obs := [.cell ⟨r1, 1, none⟩ (.int .i64 a_.Command.Queue)]) ⟨H.cell 0 rfl rfl, trivial⟩ fun a hE => ?_
   obtain ⟨t_2, et_2, hm⟩ := bind_some hm
   refine WR.eff hE rfl rfl rfl rfl (OpTo.fn hE rfl rfl Tryz.call40 (thicketlaw28_small_ok et_2 H)) ?_
   rintro _ w ⟨rfl, H⟩ a hE
   refine WR.d0 hE 9 [(27, .bool t_2)] fun a hE => ?_
   rcases Bool.eq_false_or_eq_true t_2 with c | c
   ·replace hE := hE.dec 27 c (by kernel_rfl)
    replace hm := cond_t c hm
    have c_1 := c
    refine WR.d hE 12 [.int .i64 a_.Command.Job.At] [(27, .bool true), (30, .int .i64 a_.Command.Job.At)] (obs := [.cell ⟨r1, 2, none⟩ (.int .i64 a_.Command.Job.At)]) ⟨H.cell 0 rfl rfl, trivial⟩ fun a hE => ?_
    obtain ⟨t_3, et_3, hm⟩ := bind_some hm
    refine WR.eff hE rfl rfl rfl rfl (OpTo.fn hE rfl rfl Tryz.call40 (thicketlaw28_small_ok et_3 H)) ?_
    rintro _ w ⟨rfl, H⟩ a hE
    refine WR.d0 hE 15 [(33, .bool t_3)] fun a hE => ?_
    rcases Bool.eq_false_or_eq_true t_3 with c | c
    ·replace hE := hE.dec 33 c (by kernel_rfl)
     replace hm := cond_t c hm
     have c_2 := c
     refine WR.d hE 18 [.int .i64 a_.Command.Job.Gen] [(33, .bool true), (36, .int .i64 a_.Command.Job.Gen)] (obs := [.cell ⟨r1, 3, none⟩ (.int .i64 a_.Command.Job.Gen)]) ⟨H.cell 0 rfl rfl, trivial⟩ fun a hE => ?_
     obtain ⟨t_4, et_4, hm⟩ := bind_some hm
     refine WR.eff hE rfl rfl rfl rfl (OpTo.fn hE rfl rfl Tryz.call40 (thicketlaw28_small_ok et_4 H)) ?_
     rintro _ w ⟨rfl, H⟩ a hE
     refine WR.d0 hE 21 [(39, .bool t_4)] fun a hE => ?_
     rcases Bool.eq_false_or_eq_true t_4 with c | c
     ·replace hE := hE.dec 39 c (by kernel_rfl)
      replace hm := cond_t c hm
      have c_3 := c
      refine WR.d hE 23 [.int .i64 a_.Command.Data] [(39, .bool true), (41, .int .i64 a_.Command.Data)] (obs := [.cell ⟨r1, 5, none⟩ (.int .i64 a_.Command.Data)]) ⟨H.cell 0 rfl rfl, trivial⟩ fun a hE => ?_
      obtain ⟨t_5, et_5, hm⟩ := bind_some hm
      refine WR.eff hE rfl rfl rfl rfl (OpTo.fn hE rfl rfl Tryz.call40 (thicketlaw28_small_ok et_5 H)) ?_
      rintro _ w ⟨rfl, H⟩ a hE
      refine WR.e0 hE [(2, .bool t_5)] fun a hE => ?_
      cases hm
      exact hk _ _ ⟨hE.sel [2] (by kernel_rfl), H.x0⟩
     ·replace hE := hE.dec 39 c (by kernel_rfl)
      replace hm := cond_f c hm
      have c_4 := c
      refine WR.e0 hE [(2, .bool false)] fun a hE => ?_
      cases hm
      exact hk _ _ ⟨hE.sel [2] (by kernel_rfl), H.x0⟩
    ·replace hE := hE.dec 33 c (by kernel_rfl)
     replace hm := cond_f c hm
     have c_5 := c
     refine WR.e0 hE [(2, .bool false)] fun a hE => ?_
     cases hm
     exact hk _ _ ⟨hE.sel [2] (by kernel_rfl), H.x0⟩
   ·replace hE := hE.dec 27 c (by kernel_rfl)
    replace hm := cond_f c hm
    have c_6 := c
    refine WR.e0 hE [(2, .bool false)] fun a hE => ?_
    cases hm
    exact hk _ _ ⟨hE.sel [2] (by kernel_rfl), H.x0⟩
  ·replace hE := hE.dec 22 c (by kernel_rfl)
   replace hm := cond_f c hm
   have c_7 := c
   refine WR.e0 hE [(2, .bool false)] fun a hE => ?_
   cases hm
   exact hk _ _ ⟨hE.sel [2] (by kernel_rfl), H.x0⟩
 rintro a w ⟨hE, H⟩
 refine Runs.ret hE Tryz.func41 rfl rfl ?_
 cases hm
 exact ⟨rfl, H⟩

theorem thicketlaw28_right_ok {w0 w : World} {As : List HP} {k : Nat} {s : shell_Script} {al_s : shell_Script.A} {X_s : HP} {t : Int} (hX_s_Acts : SlRd X_s api_Act.enc 8 al_s.Acts_b s.Acts) (hC_s_Acts : s.Acts.length ≤ al_s.Acts_c) (hm : thicketlaw28_right k s = some t) (H : St w0 (X_s :: As) w) :
    CallsR Tryz.prog 18 #[.agg #[.int .i64 s.Kind, .int .i64 s.Jobs, .int .i64 s.Boxes, .int .i64 s.Room, .slice al_s.Acts_b s.Acts.length al_s.Acts_c]] w fun v w' => v = .int .i64 t ∧ St w0 (X_s :: As) w' := by
 rw [thicketlaw28_right] at hm
 refine enter (args := [.agg #[.int .i64 s.Kind, .int .i64 s.Jobs, .int .i64 s.Boxes, .int .i64 s.Room, .slice al_s.Acts_b s.Acts.length al_s.Acts_c]]) Tryz.func18 rfl rfl rfl fun a hE => ?_
 refine Runs.sr ?_
 refine WR.eff hE rfl rfl rfl rfl (OpTo.new hE H [] (.cells #[.int .i64 s.Kind, .int .i64 s.Jobs, .int .i64 s.Boxes, .int .i64 s.Room, .slice al_s.Acts_b s.Acts.length al_s.Acts_c] 45 (0, 0)) (fun r => .pointer (some ⟨r, 0, none⟩)) (obs := []) rfl (fun _ => by kernel_rfl) trivial) ?_
 rintro _ w ⟨r, rfl, H⟩ a hE
 refine WR.seg hE 2 [] [1] (Lo := [(1, .pointer (some ⟨r, 0, none⟩))]) (obs := []) rfl (by kernel_rfl) trivial fun a hE => ?_
 refine WR.done rfl ?_
 refine Runs.seq ?_
 refine Runs.sr ?_
 refine WR.e hE [.slice al_s.Acts_b s.Acts.length al_s.Acts_c] [(7, .bool (decide ((s.Acts.length : Int) > 256)))] (obs := [.cell ⟨r, 4, none⟩ (.slice al_s.Acts_b s.Acts.length al_s.Acts_c)]) ⟨H.cell 0 rfl rfl, trivial⟩ fun a hE => ?_
 refine Runs.cond hE rfl (fun c => ?_) (fun c => ?_)
 ·replace hm := cond_t c hm
  refine Runs.sr ?_
  refine WR.e0 hE [(2, .int .i64 3)] fun a hE => ?_
  refine Runs.ret hE Tryz.func18 rfl rfl ?_
  cases hm
  exact ⟨rfl, H.x0⟩
 ·replace hm := cond_f c hm
  refine Runs.skip ?_
  refine Runs.seq ?_
  refine Runs.seq ?_
  obtain ⟨s1, es1, hm⟩ := bind_some hm
  refine Runs.join (fun a w => EnvOk 44 a [(1, .pointer (some ⟨r, 0, none⟩)), (29, .bool s1)] ∧ St w0 (Blk r 45 [.int .i64 s.Kind, .int .i64 s.Jobs, .int .i64 s.Boxes, .int .i64 s.Room, .slice al_s.Acts_b s.Acts.length al_s.Acts_c] :: X_s :: As) w) (fun hk => ?_) ?_
  ·replace hm := es1; clear es1
   refine Runs.region ?_
   refine WR.d hE 2 [.int .i64 s.Kind] [(9, .int .i64 s.Kind)] (obs := [.cell ⟨r, 0, none⟩ (.int .i64 s.Kind)]) ⟨H.cell 0 rfl rfl, trivial⟩ fun a hE => ?_
   obtain ⟨t_, et_, hm⟩ := bind_some hm
   refine WR.eff hE rfl rfl rfl rfl (OpTo.fn hE rfl rfl Tryz.call40 (thicketlaw28_small_ok et_ H)) ?_
   rintro _ w ⟨rfl, H⟩ a hE
   refine WR.d0 hE 5 [(12, .bool (!t_))] fun a hE => ?_
   rcases Bool.eq_false_or_eq_true (!t_) with c | c
   ·replace hE := hE.dec 12 c (by kernel_rfl)
    replace hm := cond_t c hm
    have c_ := c
    refine WR.e0 hE [(29, .bool true)] fun a hE => ?_
    cases hm
    exact hk _ _ ⟨hE.sel [1, 29] (by kernel_rfl), H.t1.t1⟩
   ·replace hE := hE.dec 12 c (by kernel_rfl)
    replace hm := cond_f c hm
    have c_1 := c
    refine WR.d hE 7 [.int .i64 s.Jobs] [(12, .bool false), (14, .int .i64 s.Jobs)] (obs := [.cell ⟨r, 1, none⟩ (.int .i64 s.Jobs)]) ⟨H.cell 0 rfl rfl, trivial⟩ fun a hE => ?_
    obtain ⟨t_1, et_1, hm⟩ := bind_some hm
    refine WR.eff hE rfl rfl rfl rfl (OpTo.fn hE rfl rfl Tryz.call40 (thicketlaw28_small_ok et_1 H)) ?_
    rintro _ w ⟨rfl, H⟩ a hE
    refine WR.d0 hE 11 [(18, .bool (!t_1))] fun a hE => ?_
    rcases Bool.eq_false_or_eq_true (!t_1) with c | c
    ·replace hE := hE.dec 18 c (by kernel_rfl)
     replace hm := cond_t c hm
     have c_2 := c
     refine WR.e0 hE [(29, .bool true)] fun a hE => ?_
     cases hm
     exact hk _ _ ⟨hE.sel [1, 29] (by kernel_rfl), H.t1.t1⟩
    ·replace hE := hE.dec 18 c (by kernel_rfl)
     replace hm := cond_f c hm
     have c_3 := c
     refine WR.d hE 13 [.int .i64 s.Boxes] [(18, .bool false), (20, .int .i64 s.Boxes)] (obs := [.cell ⟨r, 2, none⟩ (.int .i64 s.Boxes)]) ⟨H.cell 0 rfl rfl, trivial⟩ fun a hE => ?_
     obtain ⟨t_2, et_2, hm⟩ := bind_some hm
     refine WR.eff hE rfl rfl rfl rfl (OpTo.fn hE rfl rfl Tryz.call40 (thicketlaw28_small_ok et_2 H)) ?_
     rintro _ w ⟨rfl, H⟩ a hE
     refine WR.d0 hE 17 [(24, .bool (!t_2))] fun a hE => ?_
     rcases Bool.eq_false_or_eq_true (!t_2) with c | c
     ·replace hE := hE.dec 24 c (by kernel_rfl)
      replace hm := cond_t c hm
      have c_4 := c
      refine WR.e0 hE [(29, .bool true)] fun a hE => ?_
      cases hm
      exact hk _ _ ⟨hE.sel [1, 29] (by kernel_rfl), H.t1.t1⟩
     ·replace hE := hE.dec 24 c (by kernel_rfl)
      replace hm := cond_f c hm
      have c_5 := c
      refine WR.d hE 19 [.int .i64 s.Room] [(24, .bool false), (26, .int .i64 s.Room)] (obs := [.cell ⟨r, 3, none⟩ (.int .i64 s.Room)]) ⟨H.cell 0 rfl rfl, trivial⟩ fun a hE => ?_
      obtain ⟨t_3, et_3, hm⟩ := bind_some hm
      refine WR.eff hE rfl rfl rfl rfl (OpTo.fn hE rfl rfl Tryz.call40 (thicketlaw28_small_ok et_3 H)) ?_
      rintro _ w ⟨rfl, H⟩ a hE
      refine WR.e0 hE [(29, .bool (!t_3))] fun a hE => ?_
      cases hm
      exact hk _ _ ⟨hE.sel [1, 29] (by kernel_rfl), H.t1.t1⟩
  rintro a w ⟨hE, H⟩
  refine Runs.cond hE rfl (fun c => ?_) (fun c => ?_)
  ·replace hm := cond_t c hm
   refine Runs.sr ?_
   refine WR.seg hE 1 [] [2] (Lo := [(2, .int .i64 1)]) (obs := []) rfl (by kernel_rfl) trivial fun a hE => ?_
   refine WR.done rfl ?_
   refine Runs.ret hE Tryz.func18 rfl rfl ?_
   cases hm
   exact ⟨rfl, H.x0⟩
  ·replace hm := cond_f c hm
   refine Runs.skip ?_
   refine Runs.seq ?_
   refine Runs.sr ?_
   refine WR.seg hE 1 [] [1, 3] (Lo := [(1, .pointer (some ⟨r, 0, none⟩)), (3, .int .i64 0)]) (obs := []) rfl (by kernel_rfl) trivial fun a hE => ?_
   refine WR.done rfl ?_
   obtain ⟨s2, es2, hR⟩ := bind_some hm
   refine Runs.join (fun a w => ∃ s3, s2 = Sum.inr s3 ∧ EnvOk 44 a [] ∧ St w0 (X_s :: As) w) (fun hk => ?_) ?_
   ·replace hm := es2; clear es2
    refine Runs.block ?_
    refine Runs.loop (fun m a w => ∃ (i : Int), EnvOk 44 a [(1, .pointer (some ⟨r, 0, none⟩)), (3, .int .i64 i)] ∧ St w0 (Blk r 45 [.int .i64 s.Kind, .int .i64 s.Jobs, .int .i64 s.Boxes, .int .i64 s.Room, .slice al_s.Acts_b s.Acts.length al_s.Acts_c] :: X_s :: As) w ∧ thicketlaw28_right_l0 s.Kind s.Jobs s.Boxes s.Room s.Acts m i = some s2) k ⟨0, hE.sel [1, 3] (by kernel_rfl), H.t1.t1, hm⟩ ?_
    rintro m ih a w ⟨i, hE, H, hm⟩
    cases m with
    | zero => simp [thicketlaw28_right_l0] at hm
    | succ m =>
     rw [thicketlaw28_right_l0] at hm
     refine Runs.seq ?_
     refine Runs.sr ?_
     refine WR.seg hE 5 [.slice al_s.Acts_b s.Acts.length al_s.Acts_c] [1, 3, 34] (Lo := [(1, .pointer (some ⟨r, 0, none⟩)), (3, .int .i64 i), (34, .bool (decide (i < (s.Acts.length : Int))))]) (obs := [.cell ⟨r, 4, none⟩ (.slice al_s.Acts_b s.Acts.length al_s.Acts_c)]) rfl (by kernel_rfl) ⟨H.cell 0 rfl rfl, trivial⟩ fun a hE => ?_
     refine WR.done rfl ?_
     refine Runs.cond hE rfl (fun c => ?_) (fun c => ?_)
     ·replace hm := cond_t c hm
      refine Runs.skip ?_
      refine Runs.seq ?_
      refine Runs.block ?_
      refine Runs.sr ?_
      obtain ⟨x, ex, hm⟩ := bind_some hm
      obtain ⟨b, o, hs, hb⟩ := SlRd.base hX_s_Acts api_Act.enc_ok H 1 rfl ex
      refine WR.d hE 5 [.slice al_s.Acts_b s.Acts.length al_s.Acts_c, .pointer (some ⟨b, o, none⟩), .int .i64 x.Kind, .int .i64 x.Box, .int .i64 x.Command.Kind, .int .i64 x.Command.Queue, .int .i64 x.Command.Job.At, .int .i64 x.Command.Job.Gen, .int .i64 x.Command.Time, .int .i64 x.Command.Data] [(41, .agg #[.int .i64 x.Kind, .int .i64 x.Box, .int .i64 x.Command.Kind, .int .i64 x.Command.Queue, .int .i64 x.Command.Job.At, .int .i64 x.Command.Job.Gen, .int .i64 x.Command.Time, .int .i64 x.Command.Data])] (obs := [.cell ⟨r, 4, none⟩ (.slice al_s.Acts_b s.Acts.length al_s.Acts_c), .p ((al_s.Acts_b : Option Addr) = some ⟨b, o, none⟩), .p (0 ≤ (i : Int) ∧ (i : Int) < ((s.Acts.length : Nat) : Int)), .cell ⟨b, o + (Int.toNat i) * 8, none⟩ (.int .i64 x.Kind), .cell ⟨b, o + (Int.toNat i) * 8 + 1, none⟩ (.int .i64 x.Box), .cell ⟨b, o + (Int.toNat i) * 8 + 2, none⟩ (.int .i64 x.Command.Kind), .cell ⟨b, o + (Int.toNat i) * 8 + 3, none⟩ (.int .i64 x.Command.Queue), .cell ⟨b, o + (Int.toNat i) * 8 + 4, none⟩ (.int .i64 x.Command.Job.At), .cell ⟨b, o + (Int.toNat i) * 8 + 5, none⟩ (.int .i64 x.Command.Job.Gen), .cell ⟨b, o + (Int.toNat i) * 8 + 6, none⟩ (.int .i64 x.Command.Time), .cell ⟨b, o + (Int.toNat i) * 8 + 7, none⟩ (.int .i64 x.Command.Data)]) ⟨H.cell 0 rfl rfl, hs, hb, SlRd.cells hX_s_Acts api_Act.enc_ok H 1 rfl hs ex 0 _ rfl, SlRd.cells hX_s_Acts api_Act.enc_ok H 1 rfl hs ex 1 _ rfl, SlRd.cells hX_s_Acts api_Act.enc_ok H 1 rfl hs ex 2 _ rfl, SlRd.cells hX_s_Acts api_Act.enc_ok H 1 rfl hs ex 3 _ rfl, SlRd.cells hX_s_Acts api_Act.enc_ok H 1 rfl hs ex 4 _ rfl, SlRd.cells hX_s_Acts api_Act.enc_ok H 1 rfl hs ex 5 _ rfl, SlRd.cells hX_s_Acts api_Act.enc_ok H 1 rfl hs ex 6 _ rfl, SlRd.cells hX_s_Acts api_Act.enc_ok H 1 rfl hs ex 7 _ rfl, trivial⟩ fun a hE => ?_
      obtain ⟨t_4, et_4, hm⟩ := bind_some hm
      refine WR.eff hE rfl rfl rfl rfl (OpTo.fn hE rfl rfl Tryz.call41 (thicketlaw28_may_ok et_4 H)) ?_
      rintro _ w ⟨rfl, H⟩ a hE
      refine WR.e0 hE [(43, .bool (!t_4))] fun a hE => ?_
      refine Runs.cond hE rfl (fun c => ?_) (fun c => ?_)
      ·replace hm := cond_t c hm
       refine Runs.sr ?_
       refine WR.e0 hE [(2, .int .i64 1)] fun a hE => ?_
       refine Runs.ret hE Tryz.func18 rfl rfl ?_
       cases hm
       dsimp only at hR; cases hR
       exact ⟨rfl, H.x0⟩
      ·replace hm := cond_f c hm
       refine Runs.skip ?_
       refine Runs.inBlock ?_
       refine Runs.region ?_
       refine WR.e0 hE [(3, .int .i64 (w64 (i + 1)))] fun a hE => ?_
       exact ih m (Nat.lt_succ_self m) _ _ ⟨w64 (i + 1), hE.sel [1, 3] (by kernel_rfl), H.t1.t1, hm⟩
     ·replace hm := cond_f c hm
      refine Runs.exit rfl ?_
      cases hm
      exact hk _ _ ⟨_, rfl, hE.sel [] (by kernel_rfl), H.x0⟩
   rintro a w ⟨s3, rfl, hE, H⟩
   replace hm := hR; dsimp only at hm
   refine Runs.sr ?_
   refine WR.seg hE 1 [] [2] (Lo := [(2, .int .i64 0)]) (obs := []) rfl (by kernel_rfl) trivial fun a hE => ?_
   refine WR.done rfl ?_
   refine Runs.ret hE Tryz.func18 rfl rfl ?_
   cases hm
   exact ⟨rfl, H⟩

theorem kind_Worst_ok {w0 w : World} {As : List HP} {k_ : Int} {t : Bool}  (hm : kind_Worst k_ = some t) (H : St w0 (As) w) :
    CallsR Tryz.prog 51 #[.int .i64 k_] w fun v w' => v = .bool t ∧ St w0 (As) w' := by
 rw [kind_Worst] at hm
 refine enter (args := [.int .i64 k_]) Tryz.func51 rfl rfl rfl fun a hE => ?_
 refine Runs.sr ?_
 refine WR.seg hE 1 [] [0] (Lo := [(0, .int .i64 k_)]) (obs := []) rfl (by kernel_rfl) trivial fun a hE => ?_
 refine WR.done rfl ?_
 refine Runs.seq ?_
 refine Runs.join (fun a w => EnvOk 9 a [(2, .bool ((decide (k_ ≥ 1)) && (decide (k_ ≤ 3))))] ∧ St w0 (As) w) (fun hk => ?_) ?_
 ·clear hm
  refine Runs.region ?_
  refine WR.d0 hE 3 [(5, .bool (decide (k_ ≥ 1)))] fun a hE => ?_
  rcases Bool.eq_false_or_eq_true (decide (k_ ≥ 1)) with c | c
  ·replace hE := hE.dec 5 c (by kernel_rfl)
   have c_ := c
   refine WR.e0 hE [(2, .bool (decide (k_ ≤ 3)))] fun a hE => ?_
   refine hk _ _ ⟨?_, H⟩
   try rw [c_] at hE
   try rw [c_]
   exact hE.sel [2] (by kernel_rfl)
  ·replace hE := hE.dec 5 c (by kernel_rfl)
   have c_1 := c
   refine WR.e0 hE [(2, .bool false)] fun a hE => ?_
   refine hk _ _ ⟨?_, H⟩
   try rw [c_1] at hE
   try rw [c_1]
   exact hE.sel [2] (by kernel_rfl)
 rintro a w ⟨hE, H⟩
 refine Runs.ret hE Tryz.func51 rfl rfl ?_
 cases hm
 exact ⟨rfl, H⟩

theorem bits_Len64_ok {w0 w : World} {As : List HP} {x : Int} {t : Int}  (hm : bits_Len64 x = some t) (H : St w0 (As) w) :
    CallsR Tryz.prog 195 #[.int .u64 x] w fun v w' => v = .int .i64 t ∧ St w0 (As) w' := by
 rw [bits_Len64] at hm
 refine enter (args := [.int .u64 x]) Tryz.func195 rfl rfl rfl fun a hE => ?_
 refine Runs.sr ?_
 refine WR.seg hE 1 [] [0, 2] (Lo := [(0, .int .u64 x), (2, .int .i64 0)]) (obs := []) rfl (by kernel_rfl) trivial fun a hE => ?_
 refine WR.done rfl ?_
 refine Runs.seq ?_
 refine Runs.sr ?_
 refine WR.e0 hE [(4, .bool (decide (x ≥ 4294967296)))] fun a hE => ?_
 obtain ⟨s, es, hm⟩ := bind_some hm
 refine Runs.join (fun a w => EnvOk 25 a [(0, .int .u64 s.1), (2, .int .i64 s.2)] ∧ St w0 (As) w) (fun hk => ?_) ?_
 ·replace hm := es; clear es
  refine Runs.cond hE rfl (fun c => ?_) (fun c => ?_)
  ·replace hm := cond_t c hm
   refine Runs.sr ?_
   refine WR.e hE [] [(0, .int .u64 (Int.fdiv x (2 ^ (min (Int.toNat 32) 64))))] (obs := [.p (0 ≤ (32 : Int))]) ⟨(by show _ ≤ _; decide), trivial⟩ fun a hE => ?_
   refine Runs.region ?_
   refine WR.e0 hE [(2, .int .i64 32)] fun a hE => ?_
   cases hm
   exact hk _ _ ⟨hE.sel [0, 2] (by kernel_rfl), H⟩
  ·replace hm := cond_f c hm
   refine Runs.skip ?_
   cases hm
   exact hk _ _ ⟨hE.sel [0, 2] (by kernel_rfl), H⟩
 rintro a w ⟨hE, H⟩
 refine Runs.seq ?_
 refine Runs.sr ?_
 refine WR.seg hE 2 [] [0, 2, 8] (Lo := [(0, .int .u64 s.1), (2, .int .i64 s.2), (8, .bool (decide (s.1 ≥ 65536)))]) (obs := []) rfl (by kernel_rfl) trivial fun a hE => ?_
 refine WR.done rfl ?_
 obtain ⟨s1, es1, hm⟩ := bind_some hm
 refine Runs.join (fun a w => EnvOk 25 a [(0, .int .u64 s1.1), (2, .int .i64 s1.2)] ∧ St w0 (As) w) (fun hk => ?_) ?_
 ·replace hm := es1; clear es1
  refine Runs.cond hE rfl (fun c => ?_) (fun c => ?_)
  ·replace hm := cond_t c hm
   refine Runs.sr ?_
   refine WR.e hE [] [(0, .int .u64 (Int.fdiv s.1 (2 ^ (min (Int.toNat 16) 64))))] (obs := [.p (0 ≤ (16 : Int))]) ⟨(by show _ ≤ _; decide), trivial⟩ fun a hE => ?_
   refine Runs.region ?_
   refine WR.e0 hE [(2, .int .i64 (w64 (s.2 + 16)))] fun a hE => ?_
   cases hm
   exact hk _ _ ⟨hE.sel [0, 2] (by kernel_rfl), H⟩
  ·replace hm := cond_f c hm
   refine Runs.skip ?_
   cases hm
   exact hk _ _ ⟨hE.sel [0, 2] (by kernel_rfl), H⟩
 rintro a w ⟨hE, H⟩
 refine Runs.seq ?_
 refine Runs.sr ?_
 refine WR.seg hE 2 [] [0, 2, 14] (Lo := [(0, .int .u64 s1.1), (2, .int .i64 s1.2), (14, .bool (decide (s1.1 ≥ 256)))]) (obs := []) rfl (by kernel_rfl) trivial fun a hE => ?_
 refine WR.done rfl ?_
 obtain ⟨s2, es2, hm⟩ := bind_some hm
 refine Runs.join (fun a w => EnvOk 25 a [(0, .int .u64 s2.1), (2, .int .i64 s2.2)] ∧ St w0 (As) w) (fun hk => ?_) ?_
 ·replace hm := es2; clear es2
  refine Runs.cond hE rfl (fun c => ?_) (fun c => ?_)
  ·replace hm := cond_t c hm
   refine Runs.sr ?_
   refine WR.e hE [] [(0, .int .u64 (Int.fdiv s1.1 (2 ^ (min (Int.toNat 8) 64))))] (obs := [.p (0 ≤ (8 : Int))]) ⟨(by show _ ≤ _; decide), trivial⟩ fun a hE => ?_
   refine Runs.region ?_
   refine WR.e0 hE [(2, .int .i64 (w64 (s1.2 + 8)))] fun a hE => ?_
   cases hm
   exact hk _ _ ⟨hE.sel [0, 2] (by kernel_rfl), H⟩
  ·replace hm := cond_f c hm
   refine Runs.skip ?_
   cases hm
   exact hk _ _ ⟨hE.sel [0, 2] (by kernel_rfl), H⟩
 rintro a w ⟨hE, H⟩
 refine Runs.sr ?_
 obtain ⟨c_, ec_, hm⟩ := bind_some hm
 refine WR.seg hE 7 [.int .u8 c_] [2] (Lo := [(2, .int .i64 (w64 (s2.2 + (w64 (c_)))))]) (obs := [.p (0 ≤ (IntKind.wrap .u8 (s2.1)) ∧ ∃ u, (ByteArray.mk #[0, 1, 2, 2, 3, 3, 3, 3, 4, 4, 4, 4, 4, 4, 4, 4, 5, 5, 5, 5, 5, 5, 5, 5, 5, 5, 5, 5, 5, 5, 5, 5, 6, 6, 6, 6, 6, 6, 6, 6, 6, 6, 6, 6, 6, 6, 6, 6, 6, 6, 6, 6, 6, 6, 6, 6, 6, 6, 6, 6, 6, 6, 6, 6, 7, 7, 7, 7, 7, 7, 7, 7, 7, 7, 7, 7, 7, 7, 7, 7, 7, 7, 7, 7, 7, 7, 7, 7, 7, 7, 7, 7, 7, 7, 7, 7, 7, 7, 7, 7, 7, 7, 7, 7, 7, 7, 7, 7, 7, 7, 7, 7, 7, 7, 7, 7, 7, 7, 7, 7, 7, 7, 7, 7, 7, 7, 7, 7, 8, 8, 8, 8, 8, 8, 8, 8, 8, 8, 8, 8, 8, 8, 8, 8, 8, 8, 8, 8, 8, 8, 8, 8, 8, 8, 8, 8, 8, 8, 8, 8, 8, 8, 8, 8, 8, 8, 8, 8, 8, 8, 8, 8, 8, 8, 8, 8, 8, 8, 8, 8, 8, 8, 8, 8, 8, 8, 8, 8, 8, 8, 8, 8, 8, 8, 8, 8, 8, 8, 8, 8, 8, 8, 8, 8, 8, 8, 8, 8, 8, 8, 8, 8, 8, 8, 8, 8, 8, 8, 8, 8, 8, 8, 8, 8, 8, 8, 8, 8, 8, 8, 8, 8, 8, 8, 8, 8, 8, 8, 8, 8, 8, 8, 8, 8, 8, 8, 8, 8, 8, 8, 8, 8, 8, 8, 8, 8])[Int.toNat (IntKind.wrap .u8 (s2.1))]? = some u ∧ c_ = (u.toNat : Int))]) rfl (by kernel_rfl) ⟨byte_spec ec_, trivial⟩ fun a hE => ?_
 refine WR.done rfl ?_
 refine Runs.ret hE Tryz.func195 rfl rfl ?_
 cases hm
 exact ⟨rfl, H⟩

theorem bits_Len_ok {w0 w : World} {As : List HP} {x : Int} {t : Int}  (hm : bits_Len x = some t) (H : St w0 (As) w) :
    CallsR Tryz.prog 138 #[.int .u64 x] w fun v w' => v = .int .i64 t ∧ St w0 (As) w' := by
 rw [bits_Len] at hm
 refine enter (args := [.int .u64 x]) Tryz.func138 rfl rfl rfl fun a hE => ?_
 refine Runs.sr ?_
 refine WR.seg hE 1 [] [0] (Lo := [(0, .int .u64 x)]) (obs := []) rfl (by kernel_rfl) trivial fun a hE => ?_
 refine WR.done rfl ?_
 refine Runs.seq ?_
 refine Runs.condF hE rfl ?_
 refine Runs.skip ?_
 refine Runs.sr ?_
 refine WR.d0 hE 1 [(6, .int .u64 x)] fun a hE => ?_
 obtain ⟨t_, et_, hm⟩ := bind_some hm
 refine WR.eff hE rfl rfl rfl rfl (OpTo.fn hE rfl rfl Tryz.call195 (bits_Len64_ok et_ H)) ?_
 rintro _ w ⟨rfl, H⟩ a hE
 refine WR.e0 hE [(2, .int .i64 t_)] fun a hE => ?_
 refine Runs.ret hE Tryz.func138 rfl rfl ?_
 cases hm
 exact ⟨rfl, H⟩

theorem order_Bits_ok {w0 w : World} {As : List HP} {n : Int} {t : Int}  (hm : order_Bits n = some t) (H : St w0 (As) w) :
    CallsR Tryz.prog 98 #[.int .i64 n] w fun v w' => v = .int .i64 t ∧ St w0 (As) w' := by
 rw [order_Bits] at hm
 refine enter (args := [.int .i64 n]) Tryz.func98 rfl rfl rfl fun a hE => ?_
 refine Runs.sr ?_
 refine WR.seg hE 1 [] [0] (Lo := [(0, .int .i64 n)]) (obs := []) rfl (by kernel_rfl) trivial fun a hE => ?_
 refine WR.done rfl ?_
 refine Runs.sr ?_
 refine WR.d0 hE 3 [(5, .int .u64 (IntKind.wrap .u64 ((if n > 0 then n else 0))))] fun a hE => ?_
 obtain ⟨t_, et_, hm⟩ := bind_some hm
 refine WR.eff hE rfl rfl rfl rfl (OpTo.fn hE rfl rfl Tryz.call138 (bits_Len_ok et_ H)) ?_
 rintro _ w ⟨rfl, H⟩ a hE
 refine WR.e0 hE [(2, .int .i64 t_)] fun a hE => ?_
 refine Runs.ret hE Tryz.func98 rfl rfl ?_
 cases hm
 exact ⟨rfl, H⟩

theorem order_Add_ok {w0 w : World} {As : List HP} {a_ : Int} {b : Int} {t : Int}  (hm : order_Add a_ b = some t) (H : St w0 (As) w) :
    CallsR Tryz.prog 99 #[.int .i64 a_, .int .i64 b] w fun v w' => v = .int .i64 t ∧ St w0 (As) w' := by
 rw [order_Add] at hm
 refine enter (args := [.int .i64 a_, .int .i64 b]) Tryz.func99 rfl rfl rfl fun a hE => ?_
 refine Runs.sr ?_
 refine WR.seg hE 1 [] [0, 1] (Lo := [(0, .int .i64 a_), (1, .int .i64 b)]) (obs := []) rfl (by kernel_rfl) trivial fun a hE => ?_
 refine WR.done rfl ?_
 refine Runs.seq ?_
 refine Runs.block ?_
 refine Runs.seq ?_
 refine Runs.join (fun a w => EnvOk 26 a [(0, .int .i64 a_), (1, .int .i64 b), (5, .bool ((decide (b > 0)) && (decide (a_ > w64 (9223372036854775807 - b)))))] ∧ St w0 (As) w) (fun hk => ?_) ?_
 ·clear hm
  refine Runs.region ?_
  refine WR.d0 hE 3 [(8, .bool (decide (b > 0)))] fun a hE => ?_
  rcases Bool.eq_false_or_eq_true (decide (b > 0)) with c | c
  ·replace hE := hE.dec 8 c (by kernel_rfl)
   have c_ := c
   refine WR.e0 hE [(5, .bool (decide (a_ > w64 (9223372036854775807 - b))))] fun a hE => ?_
   refine hk _ _ ⟨?_, H⟩
   try rw [c_] at hE
   try rw [c_]
   exact hE.sel [0, 1, 5] (by kernel_rfl)
  ·replace hE := hE.dec 8 c (by kernel_rfl)
   have c_1 := c
   refine WR.e0 hE [(5, .bool false)] fun a hE => ?_
   refine hk _ _ ⟨?_, H⟩
   try rw [c_1] at hE
   try rw [c_1]
   exact hE.sel [0, 1, 5] (by kernel_rfl)
 rintro a w ⟨hE, H⟩
 refine Runs.cond hE rfl (fun c => ?_) (fun c => ?_)
 ·replace hm := cond_t c hm
  refine Runs.sr ?_
  refine WR.seg hE 1 [] [4] (Lo := [(4, .int .i64 9223372036854775807)]) (obs := []) rfl (by kernel_rfl) trivial fun a hE => ?_
  refine WR.done rfl ?_
  refine Runs.ret hE Tryz.func99 rfl rfl ?_
  cases hm
  exact ⟨rfl, H⟩
 ·replace hm := cond_f c hm
  refine Runs.seq ?_
  refine Runs.join (fun a w => EnvOk 26 a [(0, .int .i64 a_), (1, .int .i64 b), (14, .bool ((decide (b < 0)) && (decide (a_ < w64 ((-9223372036854775808) - b)))))] ∧ St w0 (As) w) (fun hk => ?_) ?_
  ·clear hm
   refine Runs.region ?_
   refine WR.seg hE 3 [] [0, 1, 17] (Lo := [(0, .int .i64 a_), (1, .int .i64 b), (17, .bool (decide (b < 0)))]) (obs := []) rfl (by kernel_rfl) trivial fun a hE => ?_
   rcases Bool.eq_false_or_eq_true (decide (b < 0)) with c | c
   ·replace hE := hE.dec 17 c (by kernel_rfl)
    have c_2 := c
    refine WR.e0 hE [(14, .bool (decide (a_ < w64 ((-9223372036854775808) - b))))] fun a hE => ?_
    refine hk _ _ ⟨?_, H⟩
    try rw [c_2] at hE
    try rw [c_2]
    exact hE.sel [0, 1, 14] (by kernel_rfl)
   ·replace hE := hE.dec 17 c (by kernel_rfl)
    have c_3 := c
    refine WR.e0 hE [(14, .bool false)] fun a hE => ?_
    refine hk _ _ ⟨?_, H⟩
    try rw [c_3] at hE
    try rw [c_3]
    exact hE.sel [0, 1, 14] (by kernel_rfl)
  rintro a w ⟨hE, H⟩
  refine Runs.cond hE rfl (fun c => ?_) (fun c => ?_)
  ·replace hm := cond_t c hm
   refine Runs.sr ?_
   refine WR.seg hE 1 [] [4] (Lo := [(4, .int .i64 (-9223372036854775808))]) (obs := []) rfl (by kernel_rfl) trivial fun a hE => ?_
   refine WR.done rfl ?_
   refine Runs.ret hE Tryz.func99 rfl rfl ?_
   cases hm
   exact ⟨rfl, H⟩
  ·replace hm := cond_f c hm
   refine Runs.skip ?_
   refine Runs.inBlock ?_
   refine Runs.sr ?_
   refine WR.seg hE 4 [] [4] (Lo := [(4, .int .i64 (w64 (a_ + b)))]) (obs := []) rfl (by kernel_rfl) trivial fun a hE => ?_
   refine WR.done rfl ?_
   refine Runs.ret hE Tryz.func99 rfl rfl ?_
   cases hm
   exact ⟨rfl, H⟩

theorem order_Limit_ok {w0 w : World} {As : List HP} {k : Nat} {a_ : Int} {b : Int} {n : Int} {t : Int}  (hm : order_Limit k a_ b n = some t) (H : St w0 (As) w) :
    CallsR Tryz.prog 70 #[.int .i64 a_, .int .i64 b, .int .i64 n] w fun v w' => v = .int .i64 t ∧ St w0 (As) w' := by
 rw [order_Limit] at hm
 refine enter (args := [.int .i64 a_, .int .i64 b, .int .i64 n]) Tryz.func70 rfl rfl rfl fun a hE => ?_
 refine Runs.sr ?_
 refine WR.seg hE 1 [] [0, 1, 2] (Lo := [(0, .int .i64 a_), (1, .int .i64 b), (2, .int .i64 n)]) (obs := []) rfl (by kernel_rfl) trivial fun a hE => ?_
 refine WR.done rfl ?_
 refine Runs.seq ?_
 refine Runs.sr ?_
 refine WR.d0 hE 1 [(7, .int .i64 n)] fun a hE => ?_
 obtain ⟨t_, et_, hm⟩ := bind_some hm
 refine WR.eff hE rfl rfl rfl rfl (OpTo.fn hE rfl rfl Tryz.call98 (order_Bits_ok et_ H)) ?_
 rintro _ w ⟨rfl, H⟩ a hE
 refine WR.e0 hE [(9, .int .i64 0)] fun a hE => ?_
 obtain ⟨s, es, hm⟩ := bind_some hm
 refine Runs.join (fun a w => EnvOk 16 a [(0, .int .i64 s)] ∧ St w0 (As) w) (fun hk => ?_) ?_
 ·replace hm := es; clear es
  refine Runs.block ?_
  refine Runs.loop (fun m a w => ∃ (a_1 : Int), ∃ (x : Int), EnvOk 16 a [(0, .int .i64 a_1), (1, .int .i64 b), (8, .int .i64 t_), (9, .int .i64 x)] ∧ St w0 (As) w ∧ order_Limit_l0 b t_ m a_1 x = some s) k ⟨a_, 0, hE.sel [0, 1, 8, 9] (by kernel_rfl), H, hm⟩ ?_
  rintro m ih a w ⟨a_1, x, hE, H, hm⟩
  cases m with
  | zero => simp [order_Limit_l0] at hm
  | succ m =>
   rw [order_Limit_l0] at hm
   refine Runs.sr ?_
   refine WR.seg hE 1 [] [0, 1, 8, 9, 10] (Lo := [(0, .int .i64 a_1), (1, .int .i64 b), (8, .int .i64 t_), (9, .int .i64 x), (10, .bool (decide (x < t_)))]) (obs := []) rfl (by kernel_rfl) trivial fun a hE => ?_
   refine WR.done rfl ?_
   refine Runs.seq ?_
   refine Runs.cond hE rfl (fun c => ?_) (fun c => ?_)
   ·replace hm := cond_t c hm
    refine Runs.skip ?_
    refine Runs.seq ?_
    refine Runs.block ?_
    refine Runs.region ?_
    refine WR.d0 hE 2 [(11, .int .i64 a_1), (12, .int .i64 b)] fun a hE => ?_
    obtain ⟨t_1, et_1, hm⟩ := bind_some hm
    refine WR.eff hE rfl rfl rfl rfl (OpTo.fn hE rfl rfl Tryz.call99 (order_Add_ok et_1 H)) ?_
    rintro _ w ⟨rfl, H⟩ a hE
    refine WR.e0 hE [(0, .int .i64 t_1)] fun a hE => ?_
    refine Runs.inBlock ?_
    refine Runs.region ?_
    refine WR.e0 hE [(9, .int .i64 (w64 (x + 1)))] fun a hE => ?_
    exact ih m (Nat.lt_succ_self m) _ _ ⟨t_1, w64 (x + 1), hE.sel [0, 1, 8, 9] (by kernel_rfl), H, hm⟩
   ·replace hm := cond_f c hm
    refine Runs.exit rfl ?_
    cases hm
    exact hk _ _ ⟨hE.sel [0] (by kernel_rfl), H⟩
 rintro a w ⟨hE, H⟩
 refine Runs.sr ?_
 refine WR.seg hE 2 [] [6] (Lo := [(6, .int .i64 s)]) (obs := []) rfl (by kernel_rfl) trivial fun a hE => ?_
 refine WR.done rfl ?_
 refine Runs.ret hE Tryz.func70 rfl rfl ?_
 cases hm
 exact ⟨rfl, H⟩

theorem bound_Budget_ok {w0 w : World} {As : List HP} {k : Nat} {k_ : Int} {items : Int} {t : Int × Bool}  (hm : bound_Budget k k_ items = some t) (H : St w0 (As) w) :
    CallsR Tryz.prog 52 #[.int .i64 k_, .int .i64 items] w fun v w' => v = .tuple #[.int .i64 t.1, .bool t.2] ∧ St w0 (As) w' := by
 rw [bound_Budget] at hm
 refine enter (args := [.int .i64 k_, .int .i64 items]) Tryz.func52 rfl rfl rfl fun a hE => ?_
 refine Runs.sr ?_
 refine WR.seg hE 2 [] [0, 1] (Lo := [(0, .int .i64 k_), (1, .int .i64 items)]) (obs := []) rfl (by kernel_rfl) trivial fun a hE => ?_
 refine WR.done rfl ?_
 refine Runs.seq ?_
 refine Runs.seq ?_
 obtain ⟨s, es, hm⟩ := bind_some hm
 refine Runs.join (fun a w => EnvOk 20 a [(1, .int .i64 items), (16, .bool s)] ∧ St w0 (As) w) (fun hk => ?_) ?_
 ·replace hm := es; clear es
  refine Runs.region ?_
  refine WR.d0 hE 1 [(6, .int .i64 k_)] fun a hE => ?_
  obtain ⟨t_, et_, hm⟩ := bind_some hm
  refine WR.eff hE rfl rfl rfl rfl (OpTo.fn hE rfl rfl Tryz.call51 (kind_Worst_ok et_ H)) ?_
  rintro _ w ⟨rfl, H⟩ a hE
  refine WR.d0 hE 4 [(9, .bool (!t_))] fun a hE => ?_
  rcases Bool.eq_false_or_eq_true (!t_) with c | c
  ·replace hE := hE.dec 9 c (by kernel_rfl)
   replace hm := cond_t c hm
   have c_ := c
   refine WR.e0 hE [(16, .bool true)] fun a hE => ?_
   cases hm
   exact hk _ _ ⟨hE.sel [1, 16] (by kernel_rfl), H⟩
  ·replace hE := hE.dec 9 c (by kernel_rfl)
   replace hm := cond_f c hm
   have c_1 := c
   refine WR.d0 hE 8 [(13, .bool (decide (items < 1)))] fun a hE => ?_
   rcases Bool.eq_false_or_eq_true (decide (items < 1)) with c | c
   ·replace hE := hE.dec 13 c (by kernel_rfl)
    replace hm := cond_t c hm
    have c_2 := c
    refine WR.e0 hE [(16, .bool true)] fun a hE => ?_
    cases hm
    exact hk _ _ ⟨hE.sel [1, 16] (by kernel_rfl), H⟩
   ·replace hE := hE.dec 13 c (by kernel_rfl)
    replace hm := cond_f c hm
    have c_3 := c
    refine WR.e0 hE [(16, .bool (decide (items > 4096)))] fun a hE => ?_
    cases hm
    exact hk _ _ ⟨hE.sel [1, 16] (by kernel_rfl), H⟩
 rintro a w ⟨hE, H⟩
 refine Runs.cond hE rfl (fun c => ?_) (fun c => ?_)
 ·replace hm := cond_t c hm
  refine Runs.sr ?_
  refine WR.seg hE 2 [] [4, 5] (Lo := [(4, .int .i64 0), (5, .bool false)]) (obs := []) rfl (by kernel_rfl) trivial fun a hE => ?_
  refine WR.done rfl ?_
  refine Runs.ret hE Tryz.func52 rfl rfl ?_
  cases hm
  exact ⟨rfl, H⟩
 ·replace hm := cond_f c hm
  refine Runs.skip ?_
  refine Runs.sr ?_
  refine WR.seg hE 2 [] [18] (Lo := [(18, .int .i64 (w64 (items + 1)))]) (obs := []) rfl (by kernel_rfl) trivial fun a hE => ?_
  obtain ⟨t_1, et_1, hm⟩ := bind_some hm
  refine WR.eff hE rfl rfl rfl rfl (OpTo.fn hE rfl rfl Tryz.call70 (order_Limit_ok et_1 H)) ?_
  rintro _ w ⟨rfl, H⟩ a hE
  refine WR.e0 hE [(4, .int .i64 t_1), (5, .bool true)] fun a hE => ?_
  refine Runs.ret hE Tryz.func52 rfl rfl ?_
  cases hm
  exact ⟨rfl, H⟩

end Go.Proofs.YtdcjghailibedaaGreat
