import Derived.Test.YtlfiboncgkijkaaGreatSd
import Derived.Test.YtlfiboncgkijkaaGreatProg
import Derived.Test.YtlfiboncgkijkaaGreatSh
set_option linter.unusedVariables false
set_option linter.unusedSimpArgs false
set_option maxRecDepth 10000
set_option maxHeartbeats 4000000
namespace Go.Proofs.YtlfiboncgkijkaaGreat
open Go.Th

theorem mixed : Tryz.prog.follows .mixedOrders = true := by kernel_rfl

theorem arena_cell.get_f_spec {x : arena_cell} {i v : Int} (h : arena_cell.get_f x i = some v) : (arena_cell.enc x)[i.toNat * 1]? = some (.int .i64 v) := by
  by_cases h0 : i = 0
  · subst h0; simp [arena_cell.get_f] at h; subst h; rfl
  by_cases h1 : i = 1
  · subst h1; simp [arena_cell.get_f] at h; subst h; rfl
  by_cases h2 : i = 2
  · subst h2; simp [arena_cell.get_f] at h; subst h; rfl
  by_cases h3 : i = 3
  · subst h3; simp [arena_cell.get_f] at h; subst h; rfl
  by_cases h4 : i = 4
  · subst h4; simp [arena_cell.get_f] at h; subst h; rfl
  by_cases h5 : i = 5
  · subst h5; simp [arena_cell.get_f] at h; subst h; rfl
  by_cases h6 : i = 6
  · subst h6; simp [arena_cell.get_f] at h; subst h; rfl
  by_cases h7 : i = 7
  · subst h7; simp [arena_cell.get_f] at h; subst h; rfl
  by_cases h8 : i = 8
  · subst h8; simp [arena_cell.get_f] at h; subst h; rfl
  by_cases h9 : i = 9
  · subst h9; simp [arena_cell.get_f] at h; subst h; rfl
  · simp [arena_cell.get_f, h0, h1, h2, h3, h4, h5, h6, h7, h8, h9] at h

theorem arena_cell.set_f_spec {x y : arena_cell} {i v : Int} (h : arena_cell.set_f x i v = some y) : arena_cell.enc y = putAt (arena_cell.enc x) (i.toNat * 1) [.int .i64 v] := by
  by_cases h0 : i = 0
  · subst h0; simp [arena_cell.set_f] at h; subst h; rfl
  by_cases h1 : i = 1
  · subst h1; simp [arena_cell.set_f] at h; subst h; rfl
  by_cases h2 : i = 2
  · subst h2; simp [arena_cell.set_f] at h; subst h; rfl
  by_cases h3 : i = 3
  · subst h3; simp [arena_cell.set_f] at h; subst h; rfl
  by_cases h4 : i = 4
  · subst h4; simp [arena_cell.set_f] at h; subst h; rfl
  by_cases h5 : i = 5
  · subst h5; simp [arena_cell.set_f] at h; subst h; rfl
  by_cases h6 : i = 6
  · subst h6; simp [arena_cell.set_f] at h; subst h; rfl
  by_cases h7 : i = 7
  · subst h7; simp [arena_cell.set_f] at h; subst h; rfl
  by_cases h8 : i = 8
  · subst h8; simp [arena_cell.set_f] at h; subst h; rfl
  by_cases h9 : i = 9
  · subst h9; simp [arena_cell.set_f] at h; subst h; rfl
  · simp [arena_cell.set_f, h0, h1, h2, h3, h4, h5, h6, h7, h8, h9] at h

theorem api_Entry.eq_in (w : World) (d : Nat) (x y : api_Entry) : (Op.equalIn (d + 2) 46 (.agg #[.int .i64 x.Key, .int .i64 x.Serial]) (.agg #[.int .i64 y.Key, .int .i64 y.Serial])).run Tryz.prog w = .ok (api_Entry.eq x y) w :=
  eqS_top (d + 1) rfl (by kernel_rfl) (eqF_cons (a := .int .i64 x.Key) (b := .int .i64 y.Key) rfl rfl (by kernel_rfl) (by kernel_rfl) (run_equalIn_int w _ _ _ _ _ _ rfl) (eqF_cons (a := .int .i64 x.Serial) (b := .int .i64 y.Serial) rfl rfl (by kernel_rfl) (by kernel_rfl) (run_equalIn_int w _ _ _ _ _ _ rfl) (eqF_nil rfl)))

theorem api_Entry.eq_run (x y : api_Entry) : EqRuns Tryz.prog 46 #[.int .i64 x.Key, .int .i64 x.Serial] #[.int .i64 y.Key, .int .i64 y.Serial] (api_Entry.eq x y) := fun w => api_Entry.eq_in w 9998 x y

def meter_Meter.R (p : Nat) (m : meter_Meter) : HP := sepL [Blk p 66 [.int .i64 m.steps, .int .i64 m.begun, .int .i64 m.most]]

theorem meter_Meter.open {w0 w : World} {As : List HP} {p : Nat} {m : meter_Meter} (H : St w0 (meter_Meter.R p m :: As) w) : St w0 (Blk p 66 [.int .i64 m.steps, .int .i64 m.begun, .int .i64 m.most] :: As) w := St.flat H

theorem meter_Meter.shut {w0 w : World} {As : List HP} {p : Nat} (m : meter_Meter) (H : St w0 (Blk p 66 [.int .i64 m.steps, .int .i64 m.begun, .int .i64 m.most] :: As) w) : St w0 (meter_Meter.R p m :: As) w := St.group [Blk p 66 [.int .i64 m.steps, .int .i64 m.begun, .int .i64 m.most]] H

structure arena_Arena.A where
  l_b : Option Addr
  l_c : Nat
  free_b : Option Addr
  free_c : Nat
  m__p : Nat

def arena_Arena.R (p : Nat) (al : arena_Arena.A) (m : arena_Arena) : HP := sepL [Blk p 63 [.slice al.l_b m.l.length al.l_c, .int .i64 m.never, .slice al.free_b m.free.length al.free_c, .pointer (some ⟨al.m__p, 0, none⟩)], Sl 72 arena_cell.enc 11 al.l_b al.l_c m.l, Sl 3 ecI 1 al.free_b al.free_c m.free, meter_Meter.R al.m__p m.m_]

theorem arena_Arena.open {w0 w : World} {As : List HP} {p : Nat} {al : arena_Arena.A} {m : arena_Arena} (H : St w0 (arena_Arena.R p al m :: As) w) : St w0 (Blk p 63 [.slice al.l_b m.l.length al.l_c, .int .i64 m.never, .slice al.free_b m.free.length al.free_c, .pointer (some ⟨al.m__p, 0, none⟩)] :: Sl 72 arena_cell.enc 11 al.l_b al.l_c m.l :: Sl 3 ecI 1 al.free_b al.free_c m.free :: meter_Meter.R al.m__p m.m_ :: As) w := St.flat H

theorem arena_Arena.shut {w0 w : World} {As : List HP} {p : Nat} (al : arena_Arena.A) (m : arena_Arena) (H : St w0 (Blk p 63 [.slice al.l_b m.l.length al.l_c, .int .i64 m.never, .slice al.free_b m.free.length al.free_c, .pointer (some ⟨al.m__p, 0, none⟩)] :: Sl 72 arena_cell.enc 11 al.l_b al.l_c m.l :: Sl 3 ecI 1 al.free_b al.free_c m.free :: meter_Meter.R al.m__p m.m_ :: As) w) : St w0 (arena_Arena.R p al m :: As) w := St.group [Blk p 63 [.slice al.l_b m.l.length al.l_c, .int .i64 m.never, .slice al.free_b m.free.length al.free_c, .pointer (some ⟨al.m__p, 0, none⟩)], Sl 72 arena_cell.enc 11 al.l_b al.l_c m.l, Sl 3 ecI 1 al.free_b al.free_c m.free, meter_Meter.R al.m__p m.m_] H

structure thicketlaw11_world.A where
  a__p : Nat
  a__a : arena_Arena.A
  has0_b : Option Addr
  has0_c : Nat
  has1_b : Option Addr
  has1_c : Nat

def thicketlaw11_world.R (p : Nat) (al : thicketlaw11_world.A) (m : thicketlaw11_world) : HP := sepL [Blk p 35 [.pointer (some ⟨al.a__p, 0, none⟩), .int .i64 m.root0, .int .i64 m.root1, .slice al.has0_b m.has0.length al.has0_c, .slice al.has1_b m.has1.length al.has1_c, .int .i64 m.next, .int .i64 m.spent, .int .i64 m.most], arena_Arena.R al.a__p al.a__a m.a_, Sl 48 thicketlaw11_held.enc 3 al.has0_b al.has0_c m.has0, Sl 48 thicketlaw11_held.enc 3 al.has1_b al.has1_c m.has1]

theorem thicketlaw11_world.open {w0 w : World} {As : List HP} {p : Nat} {al : thicketlaw11_world.A} {m : thicketlaw11_world} (H : St w0 (thicketlaw11_world.R p al m :: As) w) : St w0 (Blk p 35 [.pointer (some ⟨al.a__p, 0, none⟩), .int .i64 m.root0, .int .i64 m.root1, .slice al.has0_b m.has0.length al.has0_c, .slice al.has1_b m.has1.length al.has1_c, .int .i64 m.next, .int .i64 m.spent, .int .i64 m.most] :: arena_Arena.R al.a__p al.a__a m.a_ :: Sl 48 thicketlaw11_held.enc 3 al.has0_b al.has0_c m.has0 :: Sl 48 thicketlaw11_held.enc 3 al.has1_b al.has1_c m.has1 :: As) w := St.flat H

theorem thicketlaw11_world.shut {w0 w : World} {As : List HP} {p : Nat} (al : thicketlaw11_world.A) (m : thicketlaw11_world) (H : St w0 (Blk p 35 [.pointer (some ⟨al.a__p, 0, none⟩), .int .i64 m.root0, .int .i64 m.root1, .slice al.has0_b m.has0.length al.has0_c, .slice al.has1_b m.has1.length al.has1_c, .int .i64 m.next, .int .i64 m.spent, .int .i64 m.most] :: arena_Arena.R al.a__p al.a__a m.a_ :: Sl 48 thicketlaw11_held.enc 3 al.has0_b al.has0_c m.has0 :: Sl 48 thicketlaw11_held.enc 3 al.has1_b al.has1_c m.has1 :: As) w) : St w0 (thicketlaw11_world.R p al m :: As) w := St.group [Blk p 35 [.pointer (some ⟨al.a__p, 0, none⟩), .int .i64 m.root0, .int .i64 m.root1, .slice al.has0_b m.has0.length al.has0_c, .slice al.has1_b m.has1.length al.has1_c, .int .i64 m.next, .int .i64 m.spent, .int .i64 m.most], arena_Arena.R al.a__p al.a__a m.a_, Sl 48 thicketlaw11_held.enc 3 al.has0_b al.has0_c m.has0, Sl 48 thicketlaw11_held.enc 3 al.has1_b al.has1_c m.has1] H

theorem meter_New_ok {w0 w : World} {As : List HP}  {t : meter_Meter}  (hm : meter_New = some t) (H : St w0 (As) w) :
    CallsR Tryz.prog 37 #[] w fun v w' => ∃ (q0 : Nat), v = .pointer (some ⟨q0, 0, none⟩) ∧ St w0 (meter_Meter.R q0 t :: As) w' := by
  rw [meter_New] at hm
  refine enter (args := []) Tryz.func37 rfl rfl rfl fun a hE => ?_
  refine Runs.seq ?_
  refine Runs.region ?_
  refine WR.seg hE 1 [] [] (Lo := []) (obs := []) rfl (by kernel_rfl) trivial fun a hE => ?_
  refine WR.done rfl ?_
  refine Runs.seq ?_
  refine Runs.region ?_
  refine WR.seg hE 1 [] [1] (Lo := [(1, .agg #[.int .i64 0, .int .i64 0, .int .i64 0])]) (obs := []) rfl (by kernel_rfl) trivial fun a hE => ?_
  refine WR.eff hE rfl rfl rfl rfl (OpTo.new hE H [] (.cells #[.int .i64 0, .int .i64 0, .int .i64 0] 66 (0, 0)) (fun r => .pointer (some ⟨r, 0, none⟩)) (obs := []) rfl (fun _ => by kernel_rfl) trivial) ?_
  rintro _ w ⟨r, rfl, H⟩ a hE
  refine WR.seg hE 3 [] [0] (Lo := [(0, .pointer (some ⟨r, 0, none⟩))]) (obs := []) rfl (by kernel_rfl) trivial fun a hE => ?_
  refine WR.done rfl ?_
  replace H := meter_Meter.shut (meter_Meter.mk 0 0 0) H
  refine Runs.ret hE Tryz.func37 rfl rfl ?_
  cases hm
  exact ⟨r, rfl, H⟩

theorem arena_New_ok {w0 w : World} {As : List HP} {cells : Int} {t : arena_Arena}  (hm : arena_New cells = some t) (H : St w0 (As) w) :
    CallsR Tryz.prog 14 #[.int .i64 cells] w fun v w' => ∃ (q0 : Nat), ∃ (al0 : arena_Arena.A), v = .pointer (some ⟨q0, 0, none⟩) ∧ St w0 (arena_Arena.R q0 al0 t :: As) w' := by
  rw [arena_New] at hm
  refine enter (args := [.int .i64 cells]) Tryz.func14 rfl rfl rfl fun a hE => ?_
  refine Runs.seq ?_
  refine Runs.region ?_
  refine WR.seg hE 1 [] [0] (Lo := [(0, .int .i64 cells)]) (obs := []) rfl (by kernel_rfl) trivial fun a hE => ?_
  refine WR.done rfl ?_
  refine Runs.seq ?_
  obtain ⟨l, el, hm⟩ := bind_some hm
  obtain ⟨t_, et_, hm⟩ := bind_some hm
  refine Runs.join (fun a w => ∃ (p1 : Nat), ∃ (al : arena_Arena.A), EnvOk 10 a [(2, .pointer (some ⟨p1, 0, none⟩))] ∧ St w0 (arena_Arena.R p1 al (arena_Arena.mk l 0 ([] : List Int) t_) :: As) w) (fun hk => ?_) ?_
  ·
    refine Runs.drawn mixed (by kernel_rfl) ?_
    replace H := H.drew
    refine WQ.seg hE [0, 1, 2] [] [5] (Lo := [(5, .int .i64 (if (if 65536 < cells then 65536 else cells) > 0 then (if 65536 < cells then 65536 else cells) else 0))]) (obs := []) (by kernel_rfl) (by kernel_rfl) trivial fun a hE => ?_
    refine WQ.act2 3 4 (by kernel_rfl) ?_ ?_
    ·
      refine AQ.eff (j := 3) (obs := []) hE rfl rfl rfl rfl (by kernel_rfl) (OpTo.make el hE H arena_cell.enc_ok rfl rfl rfl rfl rfl rfl rfl rfl) ?_
      rintro _ w ⟨r2, rfl, H⟩
      refine ⟨trivial, fun a hE => ?_⟩
      refine WQ.eff (j := 4) (obs := []) hE (by kernel_rfl) rfl rfl rfl rfl (by kernel_rfl) (OpTo.fn hE rfl rfl Tryz.call37 (meter_New_ok et_ H)) ?_
      rintro _ w ⟨p2, rfl, H⟩
      refine ⟨trivial, fun a hE => ?_⟩
      refine WQ.seg hE [5] [] [8] (Lo := [(8, .agg #[.slice (some ⟨r2, 0, none⟩) l.length l.length, .int .i64 0, .slice none 0 0, .pointer (some ⟨p2, 0, none⟩)])]) (obs := []) (by kernel_rfl) (by kernel_rfl) trivial fun a hE => ?_
      refine WQ.eff (j := 6) (obs := []) hE (by kernel_rfl) rfl rfl rfl rfl (by kernel_rfl) (OpTo.new hE H [] (.cells #[.slice (some ⟨r2, 0, none⟩) l.length l.length, .int .i64 0, .slice none 0 0, .pointer (some ⟨p2, 0, none⟩)] 63 (0, 0)) (fun r => .pointer (some ⟨r, 0, none⟩)) (obs := []) rfl (fun _ => by kernel_rfl) trivial) ?_
      rintro _ w ⟨r3, rfl, H⟩
      refine ⟨trivial, fun a hE => ?_⟩
      refine WQ.seg hE [7] [] [2] (Lo := [(2, .pointer (some ⟨r3, 0, none⟩))]) (obs := []) (by kernel_rfl) (by kernel_rfl) trivial fun a hE => ?_
      refine WQ.done (by kernel_rfl) ?_
      replace H := H.slNil 3 ecI 1
      replace H := arena_Arena.shut (arena_Arena.A.mk (some ⟨r2, 0, none⟩) l.length none 0 p2) (arena_Arena.mk l 0 ([] : List Int) t_) H.t2.t1.t3.t3
      exact hk _ _ ⟨r3, arena_Arena.A.mk (some ⟨r2, 0, none⟩) l.length none 0 p2, hE.sel [2] (by kernel_rfl), H⟩
    ·
      refine AQ.eff (j := 4) (obs := []) hE rfl rfl rfl rfl (by kernel_rfl) (OpTo.fn hE rfl rfl Tryz.call37 (meter_New_ok et_ H)) ?_
      rintro _ w ⟨p3, rfl, H⟩
      refine ⟨trivial, fun a hE => ?_⟩
      refine WQ.eff (j := 3) (obs := []) hE (by kernel_rfl) rfl rfl rfl rfl (by kernel_rfl) (OpTo.make el hE H arena_cell.enc_ok rfl rfl rfl rfl rfl rfl rfl rfl) ?_
      rintro _ w ⟨r4, rfl, H⟩
      refine ⟨trivial, fun a hE => ?_⟩
      refine WQ.seg hE [5] [] [8] (Lo := [(8, .agg #[.slice (some ⟨r4, 0, none⟩) l.length l.length, .int .i64 0, .slice none 0 0, .pointer (some ⟨p3, 0, none⟩)])]) (obs := []) (by kernel_rfl) (by kernel_rfl) trivial fun a hE => ?_
      refine WQ.eff (j := 6) (obs := []) hE (by kernel_rfl) rfl rfl rfl rfl (by kernel_rfl) (OpTo.new hE H [] (.cells #[.slice (some ⟨r4, 0, none⟩) l.length l.length, .int .i64 0, .slice none 0 0, .pointer (some ⟨p3, 0, none⟩)] 63 (0, 0)) (fun r => .pointer (some ⟨r, 0, none⟩)) (obs := []) rfl (fun _ => by kernel_rfl) trivial) ?_
      rintro _ w ⟨r5, rfl, H⟩
      refine ⟨trivial, fun a hE => ?_⟩
      refine WQ.seg hE [7] [] [2] (Lo := [(2, .pointer (some ⟨r5, 0, none⟩))]) (obs := []) (by kernel_rfl) (by kernel_rfl) trivial fun a hE => ?_
      refine WQ.done (by kernel_rfl) ?_
      replace H := H.slNil 3 ecI 1
      replace H := arena_Arena.shut (arena_Arena.A.mk (some ⟨r4, 0, none⟩) l.length none 0 p3) (arena_Arena.mk l 0 ([] : List Int) t_) H.t3.t1.t3.t3
      exact hk _ _ ⟨r5, arena_Arena.A.mk (some ⟨r4, 0, none⟩) l.length none 0 p3, hE.sel [2] (by kernel_rfl), H⟩
  rintro a w ⟨p1, al, hE, H⟩
  refine Runs.ret hE Tryz.func14 rfl rfl ?_
  cases hm
  exact ⟨p1, al, rfl, H⟩

theorem arena_Arena_Meter_ok {w0 w : World} {As : List HP} {p_a_ : Nat} {al_a_ : arena_Arena.A} {a_ : arena_Arena} {t : Unit}  (hm : arena_Arena_Meter a_ = some t) (H : St w0 (arena_Arena.R p_a_ al_a_ a_ :: As) w) :
    CallsR Tryz.prog 15 #[.pointer (some ⟨p_a_, 0, none⟩)] w fun v w' => v = .pointer (some ⟨al_a_.m__p, 0, none⟩) ∧ St w0 (arena_Arena.R p_a_ al_a_ a_ :: As) w' := by
  rw [arena_Arena_Meter] at hm
  refine enter (args := [.pointer (some ⟨p_a_, 0, none⟩)]) Tryz.func15 rfl rfl rfl fun a hE => ?_
  refine Runs.seq ?_
  refine Runs.region ?_
  refine WR.seg hE 1 [] [0] (Lo := [(0, .pointer (some ⟨p_a_, 0, none⟩))]) (obs := []) rfl (by kernel_rfl) trivial fun a hE => ?_
  refine WR.done rfl ?_
  refine Runs.seq ?_
  refine Runs.region ?_
  replace H := arena_Arena.open H
  refine WR.seg hE 5 [.pointer (some ⟨al_a_.m__p, 0, none⟩)] [2] (Lo := [(2, .pointer (some ⟨al_a_.m__p, 0, none⟩))]) (obs := [.cell ⟨p_a_, 3, none⟩ (.pointer (some ⟨al_a_.m__p, 0, none⟩))]) rfl (by kernel_rfl) ⟨H.cell 0 rfl rfl, trivial⟩ fun a hE => ?_
  refine WR.done rfl ?_
  replace H := arena_Arena.shut al_a_ (a_) H.t3.t3.t3.t3
  refine Runs.ret hE Tryz.func15 rfl rfl ?_
  cases hm
  exact ⟨rfl, H⟩

theorem thicketlaw11_fresh_ok {w0 w : World} {As : List HP} {cells : Int} {t : thicketlaw11_world}  (hm : thicketlaw11_fresh cells = some t) (H : St w0 (As) w) :
    CallsR Tryz.prog 4 #[.int .i64 cells] w fun v w' => ∃ (q0 : Nat), ∃ (al0 : thicketlaw11_world.A), v = .pointer (some ⟨q0, 0, none⟩) ∧ St w0 (thicketlaw11_world.R q0 al0 t :: As) w' := by
  rw [thicketlaw11_fresh] at hm
  refine enter (args := [.int .i64 cells]) Tryz.func4 rfl rfl rfl fun a hE => ?_
  refine Runs.seq ?_
  refine Runs.region ?_
  refine WR.seg hE 1 [] [0] (Lo := [(0, .int .i64 cells)]) (obs := []) rfl (by kernel_rfl) trivial fun a hE => ?_
  refine WR.done rfl ?_
  refine Runs.seq ?_
  refine Runs.region ?_
  refine WR.seg hE 1 [] [4] (Lo := [(4, .int .i64 cells)]) (obs := []) rfl (by kernel_rfl) trivial fun a hE => ?_
  obtain ⟨t_, et_, hm⟩ := bind_some hm
  refine WR.eff hE rfl rfl rfl rfl (OpTo.fn hE rfl rfl Tryz.call14 (arena_New_ok et_ H)) ?_
  rintro _ w ⟨p, al, rfl, H⟩ a hE
  refine WR.seg hE 4 [] [7] (Lo := [(7, .agg #[.pointer (some ⟨p, 0, none⟩), .int .i64 (-1), .int .i64 (-1), .slice none 0 0, .slice none 0 0, .int .i64 0, .int .i64 0, .int .i64 0])]) (obs := []) rfl (by kernel_rfl) trivial fun a hE => ?_
  refine WR.eff hE rfl rfl rfl rfl (OpTo.new hE H [] (.cells #[.pointer (some ⟨p, 0, none⟩), .int .i64 (-1), .int .i64 (-1), .slice none 0 0, .slice none 0 0, .int .i64 0, .int .i64 0, .int .i64 0] 35 (0, 0)) (fun r => .pointer (some ⟨r, 0, none⟩)) (obs := []) rfl (fun _ => by kernel_rfl) trivial) ?_
  rintro _ w ⟨r, rfl, H⟩ a hE
  refine WR.seg hE 6 [] [3] (Lo := [(3, .pointer (some ⟨r, 0, none⟩))]) (obs := []) rfl (by kernel_rfl) trivial fun a hE => ?_
  refine WR.done rfl ?_
  refine Runs.seq ?_
  refine Runs.seq ?_
  replace H := H.slNil 48 thicketlaw11_held.enc 3
  replace H := H.slNil 48 thicketlaw11_held.enc 3
  replace H := thicketlaw11_world.shut (thicketlaw11_world.A.mk p al none 0 none 0) (thicketlaw11_world.mk t_ (-1) (-1) ([] : List thicketlaw11_held) ([] : List thicketlaw11_held) 0 0 0) H.t1.t3.t3
  obtain ⟨s, es, hm⟩ := bind_some hm
  refine Runs.join (fun a w => EnvOk 23 a [(3, .pointer (some ⟨r, 0, none⟩)), (21, .bool false)] ∧ St w0 (thicketlaw11_world.R r (thicketlaw11_world.A.mk p al none 0 none 0) (thicketlaw11_world.mk t_ (-1) (-1) ([] : List thicketlaw11_held) ([] : List thicketlaw11_held) 0 0 0) :: As) w) (fun hk => ?_) ?_
  · replace hm := es; clear es
    refine Runs.region ?_
    replace H := thicketlaw11_world.open H
    try dsimp only at H
    refine WR.seg hE 10 [.pointer (some ⟨p, 0, none⟩), .pointer (some ⟨p, 0, none⟩)] [3, 14, 18] (Lo := [(3, .pointer (some ⟨r, 0, none⟩)), (14, .bool false), (18, .pointer (some ⟨p, 0, none⟩))]) (obs := [.cell ⟨r, 0, none⟩ (.pointer (some ⟨p, 0, none⟩)), .cell ⟨r, 0, none⟩ (.pointer (some ⟨p, 0, none⟩))]) rfl (by kernel_rfl) ⟨H.cell 0 rfl rfl, H.cell 0 rfl rfl, trivial⟩ fun a hE => ?_
    obtain ⟨t_1, et_1, hm⟩ := bind_some hm
    refine WR.eff hE rfl rfl rfl rfl (OpTo.fn hE rfl rfl Tryz.call15 (arena_Arena_Meter_ok et_1 H.t1)) ?_
    rintro _ w ⟨rfl, H⟩ a hE
    refine WR.seg hE 13 [] [3, 21] (Lo := [(3, .pointer (some ⟨r, 0, none⟩)), (21, .bool false)]) (obs := []) rfl (by kernel_rfl) trivial fun a hE => ?_
    refine WR.done rfl ?_
    replace H := thicketlaw11_world.shut (thicketlaw11_world.A.mk p al none 0 none 0) (thicketlaw11_world.mk t_ (-1) (-1) ([] : List thicketlaw11_held) ([] : List thicketlaw11_held) 0 0 0) H.t3.t3.t2.t3
    cases hm
    exact hk _ _ ⟨hE.sel [3, 21] (by kernel_rfl), H⟩
  rintro a w ⟨hE, H⟩
  refine Runs.condF hE rfl ?_
  refine Runs.skip ?_
  refine Runs.seq ?_
  refine Runs.region ?_
  refine WR.seg hE 2 [] [2] (Lo := [(2, .pointer (some ⟨r, 0, none⟩))]) (obs := []) rfl (by kernel_rfl) trivial fun a hE => ?_
  refine WR.done rfl ?_
  refine Runs.ret hE Tryz.func4 rfl rfl ?_
  cases hm
  exact ⟨r, thicketlaw11_world.A.mk p al none 0 none 0, rfl, H⟩

theorem order_Add_ok {w0 w : World} {As : List HP} {a_ : Int} {b : Int} {t : Int}  (hm : order_Add a_ b = some t) (H : St w0 (As) w) :
    CallsR Tryz.prog 67 #[.int .i64 a_, .int .i64 b] w fun v w' => v = .int .i64 t ∧ St w0 (As) w' := by
  rw [order_Add] at hm
  refine enter (args := [.int .i64 a_, .int .i64 b]) Tryz.func67 rfl rfl rfl fun a hE => ?_
  refine Runs.seq ?_
  refine Runs.region ?_
  refine WR.seg hE 1 [] [0, 1] (Lo := [(0, .int .i64 a_), (1, .int .i64 b)]) (obs := []) rfl (by kernel_rfl) trivial fun a hE => ?_
  refine WR.done rfl ?_
  refine Runs.seq ?_
  refine Runs.block ?_
  refine Runs.seq ?_
  refine Runs.join (fun a w => EnvOk 26 a [(0, .int .i64 a_), (1, .int .i64 b), (5, .bool ((decide (b > 0)) && (decide (a_ > w64 (9223372036854775807 - b)))))] ∧ St w0 (As) w) (fun hk => ?_) ?_
  · clear hm
    refine Runs.region ?_
    refine WR.seg hE 3 [] [0, 1, 8] (Lo := [(0, .int .i64 a_), (1, .int .i64 b), (8, .bool (decide (b > 0)))]) (obs := []) rfl (by kernel_rfl) trivial fun a hE => ?_
    rcases Bool.eq_false_or_eq_true (decide (b > 0)) with c | c
    · replace hE := hE.dec 8 c (by kernel_rfl)
      have c_ := c
      refine WR.seg hE 9 [] [0, 1, 5] (Lo := [(0, .int .i64 a_), (1, .int .i64 b), (5, .bool (decide (a_ > w64 (9223372036854775807 - b))))]) (obs := []) rfl (by kernel_rfl) trivial fun a hE => ?_
      refine WR.done rfl ?_
      refine hk _ _ ⟨?_, H⟩
      try rw [c_] at hE
      try rw [c_]
      exact hE.sel [0, 1, 5] (by kernel_rfl)
    · replace hE := hE.dec 8 c (by kernel_rfl)
      have c_1 := c
      refine WR.seg hE 9 [] [0, 1, 5] (Lo := [(0, .int .i64 a_), (1, .int .i64 b), (5, .bool false)]) (obs := []) rfl (by kernel_rfl) trivial fun a hE => ?_
      refine WR.done rfl ?_
      refine hk _ _ ⟨?_, H⟩
      try rw [c_1] at hE
      try rw [c_1]
      exact hE.sel [0, 1, 5] (by kernel_rfl)
  rintro a w ⟨hE, H⟩
  refine Runs.cond hE rfl (fun c => ?_) (fun c => ?_)
  · replace hm := cond_t c hm
    refine Runs.seq ?_
    refine Runs.region ?_
    refine WR.seg hE 1 [] [4] (Lo := [(4, .int .i64 9223372036854775807)]) (obs := []) rfl (by kernel_rfl) trivial fun a hE => ?_
    refine WR.done rfl ?_
    refine Runs.ret hE Tryz.func67 rfl rfl ?_
    cases hm
    exact ⟨rfl, H⟩
  · replace hm := cond_f c hm
    refine Runs.seq ?_
    refine Runs.join (fun a w => EnvOk 26 a [(0, .int .i64 a_), (1, .int .i64 b), (14, .bool ((decide (b < 0)) && (decide (a_ < w64 ((-9223372036854775808) - b)))))] ∧ St w0 (As) w) (fun hk => ?_) ?_
    · clear hm
      refine Runs.region ?_
      refine WR.seg hE 3 [] [0, 1, 17] (Lo := [(0, .int .i64 a_), (1, .int .i64 b), (17, .bool (decide (b < 0)))]) (obs := []) rfl (by kernel_rfl) trivial fun a hE => ?_
      rcases Bool.eq_false_or_eq_true (decide (b < 0)) with c | c
      · replace hE := hE.dec 17 c (by kernel_rfl)
        have c_2 := c
        refine WR.seg hE 9 [] [0, 1, 14] (Lo := [(0, .int .i64 a_), (1, .int .i64 b), (14, .bool (decide (a_ < w64 ((-9223372036854775808) - b))))]) (obs := []) rfl (by kernel_rfl) trivial fun a hE => ?_
        refine WR.done rfl ?_
        refine hk _ _ ⟨?_, H⟩
        try rw [c_2] at hE
        try rw [c_2]
        exact hE.sel [0, 1, 14] (by kernel_rfl)
      · replace hE := hE.dec 17 c (by kernel_rfl)
        have c_3 := c
        refine WR.seg hE 9 [] [0, 1, 14] (Lo := [(0, .int .i64 a_), (1, .int .i64 b), (14, .bool false)]) (obs := []) rfl (by kernel_rfl) trivial fun a hE => ?_
        refine WR.done rfl ?_
        refine hk _ _ ⟨?_, H⟩
        try rw [c_3] at hE
        try rw [c_3]
        exact hE.sel [0, 1, 14] (by kernel_rfl)
    rintro a w ⟨hE, H⟩
    refine Runs.cond hE rfl (fun c => ?_) (fun c => ?_)
    · replace hm := cond_t c hm
      refine Runs.seq ?_
      refine Runs.region ?_
      refine WR.seg hE 1 [] [4] (Lo := [(4, .int .i64 (-9223372036854775808))]) (obs := []) rfl (by kernel_rfl) trivial fun a hE => ?_
      refine WR.done rfl ?_
      refine Runs.ret hE Tryz.func67 rfl rfl ?_
      cases hm
      exact ⟨rfl, H⟩
    · replace hm := cond_f c hm
      refine Runs.skip ?_
      refine Runs.inBlock ?_
      refine Runs.seq ?_
      refine Runs.region ?_
      refine WR.seg hE 4 [] [4] (Lo := [(4, .int .i64 (w64 (a_ + b)))]) (obs := []) rfl (by kernel_rfl) trivial fun a hE => ?_
      refine WR.done rfl ?_
      refine Runs.ret hE Tryz.func67 rfl rfl ?_
      cases hm
      exact ⟨rfl, H⟩

theorem meter_Meter_Tick_ok {w0 w : World} {As : List HP} {p_m_ : Nat} {m_ : meter_Meter} {n : Int} {t : meter_Meter}  (hm : meter_Meter_Tick m_ n = some t) (H : St w0 (meter_Meter.R p_m_ m_ :: As) w) :
    CallsR Tryz.prog 43 #[.pointer (some ⟨p_m_, 0, none⟩), .int .i64 n] w fun v w' => v = .tuple #[] ∧ St w0 (meter_Meter.R p_m_ t :: As) w' := by
  rw [meter_Meter_Tick] at hm
  refine enter (args := [.pointer (some ⟨p_m_, 0, none⟩), .int .i64 n]) Tryz.func43 rfl rfl rfl fun a hE => ?_
  refine Runs.region ?_
  replace H := meter_Meter.open H
  refine WR.seg hE 7 [.int .i64 m_.steps] [4, 8, 10] (Lo := [(4, .pointer (some ⟨p_m_, 0, none⟩)), (8, .int .i64 m_.steps), (10, .int .i64 (if n > 0 then n else 0))]) (obs := [.cell ⟨p_m_, 0, none⟩ (.int .i64 m_.steps)]) rfl (by kernel_rfl) ⟨H.cell 0 rfl rfl, trivial⟩ fun a hE => ?_
  obtain ⟨t_, et_, hm⟩ := bind_some hm
  refine WR.eff hE rfl rfl rfl rfl (OpTo.fn hE rfl rfl Tryz.call67 (order_Add_ok et_ H)) ?_
  rintro _ w ⟨rfl, H⟩ a hE
  refine WR.seg hE 10 [] [11, 13] (Lo := [(11, .int .i64 t_), (13, .pointer (some ⟨p_m_, 0, none⟩))]) (obs := []) rfl (by kernel_rfl) trivial fun a hE => ?_
  refine WR.eff0 hE rfl rfl rfl (OpTo.store hE H rfl rfl rfl rfl rfl rfl (Nat.le_of_ble_eq_true rfl)) ?_
  rintro _ w H a hE
  refine WR.done rfl ?_
  replace H := meter_Meter.shut (meter_Meter.mk t_ m_.begun m_.most) H
  refine Runs.fin hE Tryz.func43 rfl rfl ?_
  cases hm
  exact ⟨rfl, H⟩

theorem arena_fresh_ok {w0 w : World} {As : List HP}  {t : arena_cell}  (hm : arena_fresh = some t) (H : St w0 (As) w) :
    CallsR Tryz.prog 58 #[] w fun v w' => v = .agg #[.int .i64 t.f0, .int .i64 t.f1, .int .i64 t.f2, .int .i64 t.f3, .int .i64 t.f4, .int .i64 t.f5, .int .i64 t.f6, .int .i64 t.f7, .int .i64 t.f8, .int .i64 t.f9, .bool t.taken] ∧ St w0 (As) w' := by
  rw [arena_fresh] at hm
  refine enter (args := []) Tryz.func58 rfl rfl rfl fun a hE => ?_
  refine Runs.seq ?_
  refine Runs.region ?_
  refine WR.eff hE rfl rfl rfl rfl (OpTo.new hE H [] (.cells #[.int .i64 0, .int .i64 0, .int .i64 0, .int .i64 0, .int .i64 0, .int .i64 0, .int .i64 0, .int .i64 0, .int .i64 0, .int .i64 0, .bool false] 72 (0, 0)) (fun r => .pointer (some ⟨r, 0, none⟩)) (obs := []) rfl (fun _ => by kernel_rfl) trivial) ?_
  rintro _ w ⟨r, rfl, H⟩ a hE
  refine WR.done rfl ?_
  refine Runs.seq ?_
  refine Runs.region ?_
  refine WR.seg hE 1 [] [0, 4] (Lo := [(0, .pointer (some ⟨r, 0, none⟩)), (4, .agg #[.int .i64 0, .int .i64 0, .int .i64 0, .int .i64 0, .int .i64 0, .int .i64 0, .int .i64 0, .int .i64 0, .int .i64 0, .int .i64 0, .bool true])]) (obs := []) rfl (by kernel_rfl) trivial fun a hE => ?_
  refine WR.eff hE rfl rfl rfl rfl (OpTo.new hE H [] (.cells #[.int .i64 0, .int .i64 0, .int .i64 0, .int .i64 0, .int .i64 0, .int .i64 0, .int .i64 0, .int .i64 0, .int .i64 0, .int .i64 0, .bool false] 72 (0, 0)) (fun r => .pointer (some ⟨r, 0, none⟩)) (obs := []) rfl (fun _ => by kernel_rfl) trivial) ?_
  rintro _ w ⟨r1, rfl, H⟩ a hE
  refine WR.eff0 hE rfl rfl rfl (OpTo.store hE H rfl rfl rfl rfl rfl rfl (Nat.le_of_ble_eq_true rfl)) ?_
  rintro _ w H a hE
  refine WR.done rfl ?_
  refine Runs.seq ?_
  refine Runs.seq ?_
  refine Runs.region ?_
  refine WR.eff hE rfl rfl rfl rfl (OpTo.buildSl (T := 3) hE H ecI_ok ([0, 1, 2, 3, 6, 9] : List Int) rfl (fun _ => by kernel_rfl) rfl rfl rfl) ?_
  rintro _ w ⟨r2, rfl, H⟩ a hE
  refine WR.seg hE 3 [] [0, 1, 5, 6, 7] (Lo := [(0, .pointer (some ⟨r, 0, none⟩)), (1, .pointer (some ⟨r1, 0, none⟩)), (5, .slice (some ⟨r2, 0, none⟩) (([0, 1, 2, 3, 6, 9] : List Int).length) 6), (6, .int .i64 6), (7, .int .i64 0)]) (obs := []) rfl (by kernel_rfl) trivial fun a hE => ?_
  refine WR.done rfl ?_
  refine Runs.block ?_
  refine Runs.unroll ?_
  refine Runs.seq ?_
  refine Runs.region ?_
  refine WR.seg hE 1 [] [0, 1, 5, 6, 7, 8] (Lo := [(0, .pointer (some ⟨r, 0, none⟩)), (1, .pointer (some ⟨r1, 0, none⟩)), (5, .slice (some ⟨r2, 0, none⟩) (([0, 1, 2, 3, 6, 9] : List Int).length) 6), (6, .int .i64 6), (7, .int .i64 0), (8, .bool true)]) (obs := []) rfl (by kernel_rfl) trivial fun a hE => ?_
  refine WR.done rfl ?_
  refine Runs.seq ?_
  refine Runs.condT hE rfl ?_
  refine Runs.skip ?_
  refine Runs.seq ?_
  refine Runs.block ?_
  refine Runs.seq ?_
  refine Runs.region ?_
  obtain ⟨b, o, hs, hb⟩ := SlRd.base (sl_rd 3 ecI 1 _ _ _) ecI_ok H 0 rfl (rfl : mIdx ([0, 1, 2, 3, 6, 9] : List Int) (0 : Int) = some 0)
  refine WR.seg hE 3 [.pointer (some ⟨b, o, none⟩), .int .i64 0] [0, 1, 3, 5, 6, 7] (Lo := [(0, .pointer (some ⟨r, 0, none⟩)), (1, .pointer (some ⟨r1, 0, none⟩)), (3, .int .i64 0), (5, .slice (some ⟨r2, 0, none⟩) (([0, 1, 2, 3, 6, 9] : List Int).length) 6), (6, .int .i64 6), (7, .int .i64 0)]) (obs := [.p (((some ⟨r2, 0, none⟩) : Option Addr) = some ⟨b, o, none⟩), .p (0 ≤ (0 : Int) ∧ (0 : Int) < ((([0, 1, 2, 3, 6, 9] : List Int).length : Nat) : Int)), .cell ⟨b, o + (Int.toNat 0) * 1, none⟩ (.int .i64 0)]) rfl (by kernel_rfl) ⟨hs, hb, SlRd.cells (sl_rd 3 ecI 1 _ _ _) ecI_ok H 0 rfl hs (rfl : mIdx ([0, 1, 2, 3, 6, 9] : List Int) (0 : Int) = some 0) 0 _ rfl, trivial⟩ fun a hE => ?_
  refine WR.done rfl ?_
  refine Runs.region ?_
  refine WR.seg hE 3 [] [0, 1, 5, 6, 7, 13] (Lo := [(0, .pointer (some ⟨r, 0, none⟩)), (1, .pointer (some ⟨r1, 0, none⟩)), (5, .slice (some ⟨r2, 0, none⟩) (([0, 1, 2, 3, 6, 9] : List Int).length) 6), (6, .int .i64 6), (7, .int .i64 0), (13, .pointer (some ⟨r1, 0, none⟩))]) (obs := [.p (0 ≤ (0 : Int) ∧ (0 : Int) < ((10 : Nat) : Int))]) rfl (by kernel_rfl) ⟨⟨by decide, by decide⟩, trivial⟩ fun a hE => ?_
  refine WR.eff0 hE rfl rfl rfl (OpTo.store hE H.t1 rfl rfl rfl rfl rfl rfl (Nat.le_of_ble_eq_true rfl)) ?_
  rintro _ w H a hE
  refine WR.done rfl ?_
  refine Runs.inBlock ?_
  refine Runs.region ?_
  refine WR.seg hE 2 [] [0, 1, 5, 6, 7] (Lo := [(0, .pointer (some ⟨r, 0, none⟩)), (1, .pointer (some ⟨r1, 0, none⟩)), (5, .slice (some ⟨r2, 0, none⟩) (([0, 1, 2, 3, 6, 9] : List Int).length) 6), (6, .int .i64 6), (7, .int .i64 1)]) (obs := []) rfl (by kernel_rfl) trivial fun a hE => ?_
  refine WR.done rfl ?_
  refine Runs.inLoop ?_
  refine Runs.seq ?_
  refine Runs.region ?_
  refine WR.seg hE 1 [] [0, 1, 5, 6, 7, 8] (Lo := [(0, .pointer (some ⟨r, 0, none⟩)), (1, .pointer (some ⟨r1, 0, none⟩)), (5, .slice (some ⟨r2, 0, none⟩) (([0, 1, 2, 3, 6, 9] : List Int).length) 6), (6, .int .i64 6), (7, .int .i64 1), (8, .bool true)]) (obs := []) rfl (by kernel_rfl) trivial fun a hE => ?_
  refine WR.done rfl ?_
  refine Runs.seq ?_
  refine Runs.condT hE rfl ?_
  refine Runs.skip ?_
  refine Runs.seq ?_
  refine Runs.block ?_
  refine Runs.seq ?_
  refine Runs.region ?_
  obtain ⟨b1, o1, hs1, hb1⟩ := SlRd.base (sl_rd 3 ecI 1 _ _ _) ecI_ok H 1 rfl (rfl : mIdx ([0, 1, 2, 3, 6, 9] : List Int) (1 : Int) = some 1)
  refine WR.seg hE 3 [.pointer (some ⟨b1, o1, none⟩), .int .i64 1] [0, 1, 3, 5, 6, 7] (Lo := [(0, .pointer (some ⟨r, 0, none⟩)), (1, .pointer (some ⟨r1, 0, none⟩)), (3, .int .i64 1), (5, .slice (some ⟨r2, 0, none⟩) (([0, 1, 2, 3, 6, 9] : List Int).length) 6), (6, .int .i64 6), (7, .int .i64 1)]) (obs := [.p (((some ⟨r2, 0, none⟩) : Option Addr) = some ⟨b1, o1, none⟩), .p (0 ≤ (1 : Int) ∧ (1 : Int) < ((([0, 1, 2, 3, 6, 9] : List Int).length : Nat) : Int)), .cell ⟨b1, o1 + (Int.toNat 1) * 1, none⟩ (.int .i64 1)]) rfl (by kernel_rfl) ⟨hs1, hb1, SlRd.cells (sl_rd 3 ecI 1 _ _ _) ecI_ok H 1 rfl hs1 (rfl : mIdx ([0, 1, 2, 3, 6, 9] : List Int) (1 : Int) = some 1) 0 _ rfl, trivial⟩ fun a hE => ?_
  refine WR.done rfl ?_
  refine Runs.region ?_
  refine WR.seg hE 3 [] [0, 1, 5, 6, 7, 13] (Lo := [(0, .pointer (some ⟨r, 0, none⟩)), (1, .pointer (some ⟨r1, 0, none⟩)), (5, .slice (some ⟨r2, 0, none⟩) (([0, 1, 2, 3, 6, 9] : List Int).length) 6), (6, .int .i64 6), (7, .int .i64 1), (13, .pointer (some ⟨r1, 1, none⟩))]) (obs := [.p (0 ≤ (1 : Int) ∧ (1 : Int) < ((10 : Nat) : Int))]) rfl (by kernel_rfl) ⟨⟨by decide, by decide⟩, trivial⟩ fun a hE => ?_
  refine WR.eff0 hE rfl rfl rfl (OpTo.store hE H rfl rfl rfl rfl rfl rfl (Nat.le_of_ble_eq_true rfl)) ?_
  rintro _ w H a hE
  refine WR.done rfl ?_
  refine Runs.inBlock ?_
  refine Runs.region ?_
  refine WR.seg hE 2 [] [0, 1, 5, 6, 7] (Lo := [(0, .pointer (some ⟨r, 0, none⟩)), (1, .pointer (some ⟨r1, 0, none⟩)), (5, .slice (some ⟨r2, 0, none⟩) (([0, 1, 2, 3, 6, 9] : List Int).length) 6), (6, .int .i64 6), (7, .int .i64 2)]) (obs := []) rfl (by kernel_rfl) trivial fun a hE => ?_
  refine WR.done rfl ?_
  refine Runs.inLoop ?_
  refine Runs.seq ?_
  refine Runs.region ?_
  refine WR.seg hE 1 [] [0, 1, 5, 6, 7, 8] (Lo := [(0, .pointer (some ⟨r, 0, none⟩)), (1, .pointer (some ⟨r1, 0, none⟩)), (5, .slice (some ⟨r2, 0, none⟩) (([0, 1, 2, 3, 6, 9] : List Int).length) 6), (6, .int .i64 6), (7, .int .i64 2), (8, .bool true)]) (obs := []) rfl (by kernel_rfl) trivial fun a hE => ?_
  refine WR.done rfl ?_
  refine Runs.seq ?_
  refine Runs.condT hE rfl ?_
  refine Runs.skip ?_
  refine Runs.seq ?_
  refine Runs.block ?_
  refine Runs.seq ?_
  refine Runs.region ?_
  obtain ⟨b2, o2, hs2, hb2⟩ := SlRd.base (sl_rd 3 ecI 1 _ _ _) ecI_ok H 1 rfl (rfl : mIdx ([0, 1, 2, 3, 6, 9] : List Int) (2 : Int) = some 2)
  refine WR.seg hE 3 [.pointer (some ⟨b2, o2, none⟩), .int .i64 2] [0, 1, 3, 5, 6, 7] (Lo := [(0, .pointer (some ⟨r, 0, none⟩)), (1, .pointer (some ⟨r1, 0, none⟩)), (3, .int .i64 2), (5, .slice (some ⟨r2, 0, none⟩) (([0, 1, 2, 3, 6, 9] : List Int).length) 6), (6, .int .i64 6), (7, .int .i64 2)]) (obs := [.p (((some ⟨r2, 0, none⟩) : Option Addr) = some ⟨b2, o2, none⟩), .p (0 ≤ (2 : Int) ∧ (2 : Int) < ((([0, 1, 2, 3, 6, 9] : List Int).length : Nat) : Int)), .cell ⟨b2, o2 + (Int.toNat 2) * 1, none⟩ (.int .i64 2)]) rfl (by kernel_rfl) ⟨hs2, hb2, SlRd.cells (sl_rd 3 ecI 1 _ _ _) ecI_ok H 1 rfl hs2 (rfl : mIdx ([0, 1, 2, 3, 6, 9] : List Int) (2 : Int) = some 2) 0 _ rfl, trivial⟩ fun a hE => ?_
  refine WR.done rfl ?_
  refine Runs.region ?_
  refine WR.seg hE 3 [] [0, 1, 5, 6, 7, 13] (Lo := [(0, .pointer (some ⟨r, 0, none⟩)), (1, .pointer (some ⟨r1, 0, none⟩)), (5, .slice (some ⟨r2, 0, none⟩) (([0, 1, 2, 3, 6, 9] : List Int).length) 6), (6, .int .i64 6), (7, .int .i64 2), (13, .pointer (some ⟨r1, 2, none⟩))]) (obs := [.p (0 ≤ (2 : Int) ∧ (2 : Int) < ((10 : Nat) : Int))]) rfl (by kernel_rfl) ⟨⟨by decide, by decide⟩, trivial⟩ fun a hE => ?_
  refine WR.eff0 hE rfl rfl rfl (OpTo.store hE H rfl rfl rfl rfl rfl rfl (Nat.le_of_ble_eq_true rfl)) ?_
  rintro _ w H a hE
  refine WR.done rfl ?_
  refine Runs.inBlock ?_
  refine Runs.region ?_
  refine WR.seg hE 2 [] [0, 1, 5, 6, 7] (Lo := [(0, .pointer (some ⟨r, 0, none⟩)), (1, .pointer (some ⟨r1, 0, none⟩)), (5, .slice (some ⟨r2, 0, none⟩) (([0, 1, 2, 3, 6, 9] : List Int).length) 6), (6, .int .i64 6), (7, .int .i64 3)]) (obs := []) rfl (by kernel_rfl) trivial fun a hE => ?_
  refine WR.done rfl ?_
  refine Runs.inLoop ?_
  refine Runs.seq ?_
  refine Runs.region ?_
  refine WR.seg hE 1 [] [0, 1, 5, 6, 7, 8] (Lo := [(0, .pointer (some ⟨r, 0, none⟩)), (1, .pointer (some ⟨r1, 0, none⟩)), (5, .slice (some ⟨r2, 0, none⟩) (([0, 1, 2, 3, 6, 9] : List Int).length) 6), (6, .int .i64 6), (7, .int .i64 3), (8, .bool true)]) (obs := []) rfl (by kernel_rfl) trivial fun a hE => ?_
  refine WR.done rfl ?_
  refine Runs.seq ?_
  refine Runs.condT hE rfl ?_
  refine Runs.skip ?_
  refine Runs.seq ?_
  refine Runs.block ?_
  refine Runs.seq ?_
  refine Runs.region ?_
  obtain ⟨b3, o3, hs3, hb3⟩ := SlRd.base (sl_rd 3 ecI 1 _ _ _) ecI_ok H 1 rfl (rfl : mIdx ([0, 1, 2, 3, 6, 9] : List Int) (3 : Int) = some 3)
  refine WR.seg hE 3 [.pointer (some ⟨b3, o3, none⟩), .int .i64 3] [0, 1, 3, 5, 6, 7] (Lo := [(0, .pointer (some ⟨r, 0, none⟩)), (1, .pointer (some ⟨r1, 0, none⟩)), (3, .int .i64 3), (5, .slice (some ⟨r2, 0, none⟩) (([0, 1, 2, 3, 6, 9] : List Int).length) 6), (6, .int .i64 6), (7, .int .i64 3)]) (obs := [.p (((some ⟨r2, 0, none⟩) : Option Addr) = some ⟨b3, o3, none⟩), .p (0 ≤ (3 : Int) ∧ (3 : Int) < ((([0, 1, 2, 3, 6, 9] : List Int).length : Nat) : Int)), .cell ⟨b3, o3 + (Int.toNat 3) * 1, none⟩ (.int .i64 3)]) rfl (by kernel_rfl) ⟨hs3, hb3, SlRd.cells (sl_rd 3 ecI 1 _ _ _) ecI_ok H 1 rfl hs3 (rfl : mIdx ([0, 1, 2, 3, 6, 9] : List Int) (3 : Int) = some 3) 0 _ rfl, trivial⟩ fun a hE => ?_
  refine WR.done rfl ?_
  refine Runs.region ?_
  refine WR.seg hE 3 [] [0, 1, 5, 6, 7, 13] (Lo := [(0, .pointer (some ⟨r, 0, none⟩)), (1, .pointer (some ⟨r1, 0, none⟩)), (5, .slice (some ⟨r2, 0, none⟩) (([0, 1, 2, 3, 6, 9] : List Int).length) 6), (6, .int .i64 6), (7, .int .i64 3), (13, .pointer (some ⟨r1, 3, none⟩))]) (obs := [.p (0 ≤ (3 : Int) ∧ (3 : Int) < ((10 : Nat) : Int))]) rfl (by kernel_rfl) ⟨⟨by decide, by decide⟩, trivial⟩ fun a hE => ?_
  refine WR.eff0 hE rfl rfl rfl (OpTo.store hE H rfl rfl rfl rfl rfl rfl (Nat.le_of_ble_eq_true rfl)) ?_
  rintro _ w H a hE
  refine WR.done rfl ?_
  refine Runs.inBlock ?_
  refine Runs.region ?_
  refine WR.seg hE 2 [] [0, 1, 5, 6, 7] (Lo := [(0, .pointer (some ⟨r, 0, none⟩)), (1, .pointer (some ⟨r1, 0, none⟩)), (5, .slice (some ⟨r2, 0, none⟩) (([0, 1, 2, 3, 6, 9] : List Int).length) 6), (6, .int .i64 6), (7, .int .i64 4)]) (obs := []) rfl (by kernel_rfl) trivial fun a hE => ?_
  refine WR.done rfl ?_
  refine Runs.inLoop ?_
  refine Runs.seq ?_
  refine Runs.region ?_
  refine WR.seg hE 1 [] [0, 1, 5, 6, 7, 8] (Lo := [(0, .pointer (some ⟨r, 0, none⟩)), (1, .pointer (some ⟨r1, 0, none⟩)), (5, .slice (some ⟨r2, 0, none⟩) (([0, 1, 2, 3, 6, 9] : List Int).length) 6), (6, .int .i64 6), (7, .int .i64 4), (8, .bool true)]) (obs := []) rfl (by kernel_rfl) trivial fun a hE => ?_
  refine WR.done rfl ?_
  refine Runs.seq ?_
  refine Runs.condT hE rfl ?_
  refine Runs.skip ?_
  refine Runs.seq ?_
  refine Runs.block ?_
  refine Runs.seq ?_
  refine Runs.region ?_
  obtain ⟨b4, o4, hs4, hb4⟩ := SlRd.base (sl_rd 3 ecI 1 _ _ _) ecI_ok H 1 rfl (rfl : mIdx ([0, 1, 2, 3, 6, 9] : List Int) (4 : Int) = some 6)
  refine WR.seg hE 3 [.pointer (some ⟨b4, o4, none⟩), .int .i64 6] [0, 1, 3, 5, 6, 7] (Lo := [(0, .pointer (some ⟨r, 0, none⟩)), (1, .pointer (some ⟨r1, 0, none⟩)), (3, .int .i64 6), (5, .slice (some ⟨r2, 0, none⟩) (([0, 1, 2, 3, 6, 9] : List Int).length) 6), (6, .int .i64 6), (7, .int .i64 4)]) (obs := [.p (((some ⟨r2, 0, none⟩) : Option Addr) = some ⟨b4, o4, none⟩), .p (0 ≤ (4 : Int) ∧ (4 : Int) < ((([0, 1, 2, 3, 6, 9] : List Int).length : Nat) : Int)), .cell ⟨b4, o4 + (Int.toNat 4) * 1, none⟩ (.int .i64 6)]) rfl (by kernel_rfl) ⟨hs4, hb4, SlRd.cells (sl_rd 3 ecI 1 _ _ _) ecI_ok H 1 rfl hs4 (rfl : mIdx ([0, 1, 2, 3, 6, 9] : List Int) (4 : Int) = some 6) 0 _ rfl, trivial⟩ fun a hE => ?_
  refine WR.done rfl ?_
  refine Runs.region ?_
  refine WR.seg hE 3 [] [0, 1, 5, 6, 7, 13] (Lo := [(0, .pointer (some ⟨r, 0, none⟩)), (1, .pointer (some ⟨r1, 0, none⟩)), (5, .slice (some ⟨r2, 0, none⟩) (([0, 1, 2, 3, 6, 9] : List Int).length) 6), (6, .int .i64 6), (7, .int .i64 4), (13, .pointer (some ⟨r1, 6, none⟩))]) (obs := [.p (0 ≤ (6 : Int) ∧ (6 : Int) < ((10 : Nat) : Int))]) rfl (by kernel_rfl) ⟨⟨by decide, by decide⟩, trivial⟩ fun a hE => ?_
  refine WR.eff0 hE rfl rfl rfl (OpTo.store hE H rfl rfl rfl rfl rfl rfl (Nat.le_of_ble_eq_true rfl)) ?_
  rintro _ w H a hE
  refine WR.done rfl ?_
  refine Runs.inBlock ?_
  refine Runs.region ?_
  refine WR.seg hE 2 [] [0, 1, 5, 6, 7] (Lo := [(0, .pointer (some ⟨r, 0, none⟩)), (1, .pointer (some ⟨r1, 0, none⟩)), (5, .slice (some ⟨r2, 0, none⟩) (([0, 1, 2, 3, 6, 9] : List Int).length) 6), (6, .int .i64 6), (7, .int .i64 5)]) (obs := []) rfl (by kernel_rfl) trivial fun a hE => ?_
  refine WR.done rfl ?_
  refine Runs.inLoop ?_
  refine Runs.seq ?_
  refine Runs.region ?_
  refine WR.seg hE 1 [] [0, 1, 5, 6, 7, 8] (Lo := [(0, .pointer (some ⟨r, 0, none⟩)), (1, .pointer (some ⟨r1, 0, none⟩)), (5, .slice (some ⟨r2, 0, none⟩) (([0, 1, 2, 3, 6, 9] : List Int).length) 6), (6, .int .i64 6), (7, .int .i64 5), (8, .bool true)]) (obs := []) rfl (by kernel_rfl) trivial fun a hE => ?_
  refine WR.done rfl ?_
  refine Runs.seq ?_
  refine Runs.condT hE rfl ?_
  refine Runs.skip ?_
  refine Runs.seq ?_
  refine Runs.block ?_
  refine Runs.seq ?_
  refine Runs.region ?_
  obtain ⟨b5, o5, hs5, hb5⟩ := SlRd.base (sl_rd 3 ecI 1 _ _ _) ecI_ok H 1 rfl (rfl : mIdx ([0, 1, 2, 3, 6, 9] : List Int) (5 : Int) = some 9)
  refine WR.seg hE 3 [.pointer (some ⟨b5, o5, none⟩), .int .i64 9] [0, 1, 3, 5, 6, 7] (Lo := [(0, .pointer (some ⟨r, 0, none⟩)), (1, .pointer (some ⟨r1, 0, none⟩)), (3, .int .i64 9), (5, .slice (some ⟨r2, 0, none⟩) (([0, 1, 2, 3, 6, 9] : List Int).length) 6), (6, .int .i64 6), (7, .int .i64 5)]) (obs := [.p (((some ⟨r2, 0, none⟩) : Option Addr) = some ⟨b5, o5, none⟩), .p (0 ≤ (5 : Int) ∧ (5 : Int) < ((([0, 1, 2, 3, 6, 9] : List Int).length : Nat) : Int)), .cell ⟨b5, o5 + (Int.toNat 5) * 1, none⟩ (.int .i64 9)]) rfl (by kernel_rfl) ⟨hs5, hb5, SlRd.cells (sl_rd 3 ecI 1 _ _ _) ecI_ok H 1 rfl hs5 (rfl : mIdx ([0, 1, 2, 3, 6, 9] : List Int) (5 : Int) = some 9) 0 _ rfl, trivial⟩ fun a hE => ?_
  refine WR.done rfl ?_
  refine Runs.region ?_
  refine WR.seg hE 3 [] [0, 1, 5, 6, 7, 13] (Lo := [(0, .pointer (some ⟨r, 0, none⟩)), (1, .pointer (some ⟨r1, 0, none⟩)), (5, .slice (some ⟨r2, 0, none⟩) (([0, 1, 2, 3, 6, 9] : List Int).length) 6), (6, .int .i64 6), (7, .int .i64 5), (13, .pointer (some ⟨r1, 9, none⟩))]) (obs := [.p (0 ≤ (9 : Int) ∧ (9 : Int) < ((10 : Nat) : Int))]) rfl (by kernel_rfl) ⟨⟨by decide, by decide⟩, trivial⟩ fun a hE => ?_
  refine WR.eff0 hE rfl rfl rfl (OpTo.store hE H rfl rfl rfl rfl rfl rfl (Nat.le_of_ble_eq_true rfl)) ?_
  rintro _ w H a hE
  refine WR.done rfl ?_
  refine Runs.inBlock ?_
  refine Runs.region ?_
  refine WR.seg hE 2 [] [0, 1, 5, 6, 7] (Lo := [(0, .pointer (some ⟨r, 0, none⟩)), (1, .pointer (some ⟨r1, 0, none⟩)), (5, .slice (some ⟨r2, 0, none⟩) (([0, 1, 2, 3, 6, 9] : List Int).length) 6), (6, .int .i64 6), (7, .int .i64 6)]) (obs := []) rfl (by kernel_rfl) trivial fun a hE => ?_
  refine WR.done rfl ?_
  refine Runs.inLoop ?_
  refine Runs.seq ?_
  refine Runs.region ?_
  refine WR.seg hE 1 [] [0, 1, 5, 6, 7, 8] (Lo := [(0, .pointer (some ⟨r, 0, none⟩)), (1, .pointer (some ⟨r1, 0, none⟩)), (5, .slice (some ⟨r2, 0, none⟩) (([0, 1, 2, 3, 6, 9] : List Int).length) 6), (6, .int .i64 6), (7, .int .i64 6), (8, .bool false)]) (obs := []) rfl (by kernel_rfl) trivial fun a hE => ?_
  refine WR.done rfl ?_
  refine Runs.seq ?_
  refine Runs.condF hE rfl ?_
  refine Runs.exit rfl ?_
  refine Runs.seq ?_
  refine Runs.region ?_
  refine WR.seg hE 1 [.int .i64 (-1), .int .i64 (-1), .int .i64 (-1), .int .i64 (-1), .int .i64 0, .int .i64 0, .int .i64 (-1), .int .i64 0, .int .i64 0, .int .i64 (-1), .bool true] [0, 15] (Lo := [(0, .pointer (some ⟨r, 0, none⟩)), (15, .agg #[.int .i64 (-1), .int .i64 (-1), .int .i64 (-1), .int .i64 (-1), .int .i64 0, .int .i64 0, .int .i64 (-1), .int .i64 0, .int .i64 0, .int .i64 (-1), .bool true])]) (obs := [.cell ⟨r1, 0, none⟩ (.int .i64 (-1)), .cell ⟨r1, 1, none⟩ (.int .i64 (-1)), .cell ⟨r1, 2, none⟩ (.int .i64 (-1)), .cell ⟨r1, 3, none⟩ (.int .i64 (-1)), .cell ⟨r1, 4, none⟩ (.int .i64 0), .cell ⟨r1, 5, none⟩ (.int .i64 0), .cell ⟨r1, 6, none⟩ (.int .i64 (-1)), .cell ⟨r1, 7, none⟩ (.int .i64 0), .cell ⟨r1, 8, none⟩ (.int .i64 0), .cell ⟨r1, 9, none⟩ (.int .i64 (-1)), .cell ⟨r1, 10, none⟩ (.bool true)]) rfl (by kernel_rfl) ⟨H.cell 0 rfl rfl, H.cell 0 rfl rfl, H.cell 0 rfl rfl, H.cell 0 rfl rfl, H.cell 0 rfl rfl, H.cell 0 rfl rfl, H.cell 0 rfl rfl, H.cell 0 rfl rfl, H.cell 0 rfl rfl, H.cell 0 rfl rfl, H.cell 0 rfl rfl, trivial⟩ fun a hE => ?_
  refine WR.eff0 hE rfl rfl rfl (OpTo.store hE H.t2 rfl rfl rfl rfl rfl rfl (Nat.le_of_ble_eq_true rfl)) ?_
  rintro _ w H a hE
  refine WR.done rfl ?_
  refine Runs.retO (vs := [.agg #[.int .i64 (-1), .int .i64 (-1), .int .i64 (-1), .int .i64 (-1), .int .i64 0, .int .i64 0, .int .i64 (-1), .int .i64 0, .int .i64 0, .int .i64 (-1), .bool true]]) (obs := [.cell ⟨r, 0, none⟩ (.int .i64 (-1)), .cell ⟨r, 1, none⟩ (.int .i64 (-1)), .cell ⟨r, 2, none⟩ (.int .i64 (-1)), .cell ⟨r, 3, none⟩ (.int .i64 (-1)), .cell ⟨r, 4, none⟩ (.int .i64 0), .cell ⟨r, 5, none⟩ (.int .i64 0), .cell ⟨r, 6, none⟩ (.int .i64 (-1)), .cell ⟨r, 7, none⟩ (.int .i64 0), .cell ⟨r, 8, none⟩ (.int .i64 0), .cell ⟨r, 9, none⟩ (.int .i64 (-1)), .cell ⟨r, 10, none⟩ (.bool true)]) hE Tryz.func58 rfl [.int .i64 (-1), .int .i64 (-1), .int .i64 (-1), .int .i64 (-1), .int .i64 0, .int .i64 0, .int .i64 (-1), .int .i64 0, .int .i64 0, .int .i64 (-1), .bool true] (by kernel_rfl) ⟨H.cell 0 rfl rfl, H.cell 0 rfl rfl, H.cell 0 rfl rfl, H.cell 0 rfl rfl, H.cell 0 rfl rfl, H.cell 0 rfl rfl, H.cell 0 rfl rfl, H.cell 0 rfl rfl, H.cell 0 rfl rfl, H.cell 0 rfl rfl, H.cell 0 rfl rfl, trivial⟩ ?_
  cases hm
  exact ⟨rfl, H.x2.x1.x0⟩

theorem arena_Arena_Take_ok {w0 w : World} {As : List HP} {p_a_ : Nat} {al_a_ : arena_Arena.A} {a_ : arena_Arena} {t : Int × Bool × arena_Arena}  (hm : arena_Arena_Take a_ = some t) (H : St w0 (arena_Arena.R p_a_ al_a_ a_ :: As) w) :
    CallsR Tryz.prog 38 #[.pointer (some ⟨p_a_, 0, none⟩)] w fun v w' => ∃ (z_a__free_b : Option Addr), ∃ (z_a__free_c : Nat), v = .tuple #[.int .i64 t.1, .bool t.2.1] ∧ St w0 (arena_Arena.R p_a_ (arena_Arena.A.mk al_a_.l_b al_a_.l_c z_a__free_b z_a__free_c al_a_.m__p) t.2.2 :: As) w' := by
  rw [arena_Arena_Take] at hm
  refine enter (args := [.pointer (some ⟨p_a_, 0, none⟩)]) Tryz.func38 rfl rfl rfl fun a hE => ?_
  refine Runs.seq ?_
  refine Runs.region ?_
  refine WR.seg hE 2 [] [0] (Lo := [(0, .pointer (some ⟨p_a_, 0, none⟩))]) (obs := []) rfl (by kernel_rfl) trivial fun a hE => ?_
  refine WR.done rfl ?_
  refine Runs.seq ?_
  refine Runs.region ?_
  replace H := arena_Arena.open H
  refine WR.seg hE 4 [.pointer (some ⟨al_a_.m__p, 0, none⟩)] [0, 9] (Lo := [(0, .pointer (some ⟨p_a_, 0, none⟩)), (9, .pointer (some ⟨al_a_.m__p, 0, none⟩))]) (obs := [.cell ⟨p_a_, 3, none⟩ (.pointer (some ⟨al_a_.m__p, 0, none⟩))]) rfl (by kernel_rfl) ⟨H.cell 0 rfl rfl, trivial⟩ fun a hE => ?_
  obtain ⟨t_, et_, hm⟩ := bind_some hm
  refine WR.eff hE rfl rfl rfl rfl (OpTo.fn hE rfl rfl Tryz.call43 (meter_Meter_Tick_ok et_ H.t3)) ?_
  rintro _ w ⟨rfl, H⟩ a hE
  refine WR.done rfl ?_
  refine Runs.seq ?_
  refine Runs.region ?_
  refine WR.seg hE 5 [.int .i64 a_.never] [0, 4] (Lo := [(0, .pointer (some ⟨p_a_, 0, none⟩)), (4, .int .i64 a_.never)]) (obs := [.cell ⟨p_a_, 1, none⟩ (.int .i64 a_.never)]) rfl (by kernel_rfl) ⟨H.cell 1 rfl rfl, trivial⟩ fun a hE => ?_
  refine WR.done rfl ?_
  refine Runs.seq ?_
  refine Runs.seq ?_
  refine Runs.region ?_
  refine WR.seg hE 7 [.slice al_a_.free_b a_.free.length al_a_.free_c] [0, 4, 5] (Lo := [(0, .pointer (some ⟨p_a_, 0, none⟩)), (4, .int .i64 a_.never), (5, .int .i64 (w64 ((a_.free.length : Int) - 1)))]) (obs := [.cell ⟨p_a_, 2, none⟩ (.slice al_a_.free_b a_.free.length al_a_.free_c)]) rfl (by kernel_rfl) ⟨H.cell 1 rfl rfl, trivial⟩ fun a hE => ?_
  refine WR.done rfl ?_
  refine Runs.seq ?_
  refine Runs.region ?_
  refine WR.seg hE 2 [] [0, 4, 5, 22] (Lo := [(0, .pointer (some ⟨p_a_, 0, none⟩)), (4, .int .i64 a_.never), (5, .int .i64 (w64 ((a_.free.length : Int) - 1))), (22, .bool (decide (w64 ((a_.free.length : Int) - 1) ≥ 0)))]) (obs := []) rfl (by kernel_rfl) trivial fun a hE => ?_
  refine WR.done rfl ?_
  replace H := arena_Arena.shut al_a_ (arena_Arena.mk a_.l a_.never a_.free t_) H.t3.t3.t3
  obtain ⟨s, es, hR⟩ := bind_some hm
  refine Runs.join (fun a w => ∃ s1, s = Sum.inr s1 ∧ ∃ (z : Option Addr), ∃ (z1 : Nat), EnvOk 61 a [(0, .pointer (some ⟨p_a_, 0, none⟩)), (4, .int .i64 s1.1)] ∧ St w0 (arena_Arena.R p_a_ (arena_Arena.A.mk al_a_.l_b al_a_.l_c z z1 al_a_.m__p) s1.2 :: As) w) (fun hk => ?_) ?_
  · replace hm := es; clear es
    refine Runs.cond hE rfl (fun c => ?_) (fun c => ?_)
    · replace hm := cond_t c hm
      refine Runs.seq ?_
      refine Runs.region ?_
      replace H := arena_Arena.open H
      try dsimp only at H
      obtain ⟨x, ex, hm⟩ := bind_some hm
      obtain ⟨b, o, hs, hb⟩ := SlRd.base (sl_rd 3 ecI 1 _ _ _) ecI_ok H 2 rfl ex
      refine WR.seg hE 8 [.slice al_a_.free_b a_.free.length al_a_.free_c, .pointer (some ⟨b, o, none⟩), .int .i64 x] [0, 4, 5] (Lo := [(0, .pointer (some ⟨p_a_, 0, none⟩)), (4, .int .i64 x), (5, .int .i64 (w64 ((a_.free.length : Int) - 1)))]) (obs := [.cell ⟨p_a_, 2, none⟩ (.slice al_a_.free_b a_.free.length al_a_.free_c), .p ((al_a_.free_b : Option Addr) = some ⟨b, o, none⟩), .p (0 ≤ ((w64 ((a_.free.length : Int) - 1)) : Int) ∧ ((w64 ((a_.free.length : Int) - 1)) : Int) < ((a_.free.length : Nat) : Int)), .cell ⟨b, o + (Int.toNat (w64 ((a_.free.length : Int) - 1))) * 1, none⟩ (.int .i64 x)]) rfl (by kernel_rfl) ⟨H.cell 0 rfl rfl, hs, hb, SlRd.cells (sl_rd 3 ecI 1 _ _ _) ecI_ok H 2 rfl hs ex 0 _ rfl, trivial⟩ fun a hE => ?_
      refine WR.done rfl ?_
      refine Runs.region ?_
      obtain ⟨l, el, hm⟩ := bind_some hm
      obtain ⟨sb, q⟩ : ∃ z, rebase al_a_.free_b al_a_.free_c (Int.toNat 0) 1 = z := ⟨_, rfl⟩
      obtain ⟨sc, q1⟩ : ∃ z, al_a_.free_c - (Int.toNat 0) = z := ⟨_, rfl⟩
      refine WR.seg hE 9 [.slice al_a_.free_b a_.free.length al_a_.free_c, .slice sb l.length sc] [0, 4, 36, 38] (Lo := [(0, .pointer (some ⟨p_a_, 0, none⟩)), (4, .int .i64 x), (36, .slice sb l.length sc), (38, .pointer (some ⟨p_a_, 2, none⟩))]) (obs := [.cell ⟨p_a_, 2, none⟩ (.slice al_a_.free_b a_.free.length al_a_.free_c), .p (rebase al_a_.free_b al_a_.free_c 0 1 = sb), .p ((Int.toNat (w64 ((a_.free.length : Int) - 1))) - 0 = l.length), .p (al_a_.free_c - 0 = sc), .p (0 ≤ ((w64 ((a_.free.length : Int) - 1)) : Int) ∧ ((w64 ((a_.free.length : Int) - 1)) : Int) ≤ ((al_a_.free_c : Nat) : Int))]) rfl (by kernel_rfl) ⟨H.cell 0 rfl rfl, q, cut_len el, q1, cut_cap el (H.slCap 2 rfl).1, trivial⟩ fun a hE => ?_
      refine WR.eff0 hE rfl rfl rfl (OpTo.store hE H rfl rfl rfl rfl rfl rfl (Nat.le_of_ble_eq_true rfl)) ?_
      rintro _ w H a hE
      refine WR.done rfl ?_
      replace H := H.t2.slCut' ecI_ok el q q1
      replace H := arena_Arena.shut (arena_Arena.A.mk al_a_.l_b al_a_.l_c sb sc al_a_.m__p) (arena_Arena.mk a_.l a_.never l t_) H.t3.t1.t3.t3
      cases hm
      exact hk _ _ ⟨_, rfl, sb, sc, hE.sel [0, 4] (by kernel_rfl), H⟩
    · replace hm := cond_f c hm
      refine Runs.seq ?_
      refine Runs.region ?_
      replace H := arena_Arena.open H
      try dsimp only at H
      refine WR.seg hE 7 [.slice al_a_.l_b a_.l.length al_a_.l_c] [0, 4, 45] (Lo := [(0, .pointer (some ⟨p_a_, 0, none⟩)), (4, .int .i64 a_.never), (45, .bool (decide (a_.never ≥ (a_.l.length : Int))))]) (obs := [.cell ⟨p_a_, 0, none⟩ (.slice al_a_.l_b a_.l.length al_a_.l_c)]) rfl (by kernel_rfl) ⟨H.cell 0 rfl rfl, trivial⟩ fun a hE => ?_
      refine WR.done rfl ?_
      refine Runs.cond hE rfl (fun c => ?_) (fun c => ?_)
      · replace hm := cond_t c hm
        refine Runs.seq ?_
        refine Runs.region ?_
        refine WR.seg hE 2 [] [2, 3] (Lo := [(2, .int .i64 (-1)), (3, .bool false)]) (obs := []) rfl (by kernel_rfl) trivial fun a hE => ?_
        refine WR.done rfl ?_
        replace H := arena_Arena.shut al_a_ (arena_Arena.mk a_.l a_.never a_.free t_) H.t3.t3.t3.t3
        refine Runs.ret hE Tryz.func38 rfl rfl ?_
        cases hm
        dsimp only at hR; cases hR
        exact ⟨al_a_.free_b, al_a_.free_c, rfl, H⟩
      · replace hm := cond_f c hm
        refine Runs.region ?_
        refine WR.seg hE 7 [.int .i64 a_.never] [0, 4, 50, 52] (Lo := [(0, .pointer (some ⟨p_a_, 0, none⟩)), (4, .int .i64 a_.never), (50, .int .i64 (w64 (a_.never + 1))), (52, .pointer (some ⟨p_a_, 1, none⟩))]) (obs := [.cell ⟨p_a_, 1, none⟩ (.int .i64 a_.never)]) rfl (by kernel_rfl) ⟨H.cell 0 rfl rfl, trivial⟩ fun a hE => ?_
        refine WR.eff0 hE rfl rfl rfl (OpTo.store hE H rfl rfl rfl rfl rfl rfl (Nat.le_of_ble_eq_true rfl)) ?_
        rintro _ w H a hE
        refine WR.done rfl ?_
        replace H := arena_Arena.shut al_a_ (arena_Arena.mk a_.l (w64 (a_.never + 1)) a_.free t_) H.t3.t3.t3.t3
        cases hm
        exact hk _ _ ⟨_, rfl, al_a_.free_b, al_a_.free_c, hE.sel [0, 4] (by kernel_rfl), H⟩
  rintro a w ⟨s1, rfl, z, z1, hE, H⟩
  replace hm := hR; dsimp only at hm
  refine Runs.seq ?_
  refine Runs.drawn mixed (by kernel_rfl) ?_
  replace H := H.drew
  replace H := arena_Arena.open H
  try dsimp only at H
  refine WQ.seg hE [0, 1, 2, 3, 4] [.slice al_a_.l_b s1.2.l.length al_a_.l_c] [4, 56, 57] (Lo := [(4, .int .i64 s1.1), (56, .slice al_a_.l_b s1.2.l.length al_a_.l_c), (57, .int .i64 s1.1)]) (obs := [.cell ⟨p_a_, 0, none⟩ (.slice al_a_.l_b s1.2.l.length al_a_.l_c)]) (by kernel_rfl) (by kernel_rfl) ⟨H.cell 0 rfl rfl, trivial⟩ fun a hE => ?_
  obtain ⟨t_1, et_1, hm⟩ := bind_some hm
  refine WQ.eff (j := 5) (obs := [.cell ⟨p_a_, 0, none⟩ (.slice al_a_.l_b s1.2.l.length al_a_.l_c)]) hE (by kernel_rfl) rfl rfl rfl rfl (by kernel_rfl) (OpTo.fn hE rfl rfl Tryz.call58 (arena_fresh_ok et_1 H)) ?_
  rintro _ w ⟨rfl, H⟩
  refine ⟨⟨H.cell 0 rfl rfl, trivial⟩, fun a hE => ?_⟩
  obtain ⟨x1, ex1, hm⟩ := bind_some hm
  obtain ⟨b1, o1, hs1, hb1⟩ := SlRd.base (sl_rd 72 arena_cell.enc 11 _ _ _) arena_cell.enc_ok H 1 rfl ex1
  refine WQ.seg hE [6] [.pointer (some ⟨b1, o1, none⟩)] [4, 58, 59] (Lo := [(4, .int .i64 s1.1), (58, .agg #[.int .i64 t_1.f0, .int .i64 t_1.f1, .int .i64 t_1.f2, .int .i64 t_1.f3, .int .i64 t_1.f4, .int .i64 t_1.f5, .int .i64 t_1.f6, .int .i64 t_1.f7, .int .i64 t_1.f8, .int .i64 t_1.f9, .bool t_1.taken]), (59, .pointer (some ⟨b1, o1 + (Int.toNat s1.1) * 11, none⟩))]) (obs := [.p ((al_a_.l_b : Option Addr) = some ⟨b1, o1, none⟩), .p (0 ≤ (s1.1 : Int) ∧ (s1.1 : Int) < ((s1.2.l.length : Nat) : Int))]) (by kernel_rfl) (by kernel_rfl) ⟨hs1, hb1, trivial⟩ fun a hE => ?_
  refine WQ.eff0 (j := 7) (obs := []) hE (by kernel_rfl) rfl rfl rfl (by kernel_rfl) (OpTo.storeSl (q := 0) (x' := t_1) hE H.t1 arena_cell.enc_ok rfl hs1 ex1 rfl rfl rfl rfl rfl (Nat.le_of_ble_eq_true rfl) rfl) ?_
  rintro _ w H
  rw [← mSet_len s1.2.l s1.1 t_1] at H
  refine ⟨trivial, fun a hE => ?_⟩
  refine WQ.done (by kernel_rfl) ?_
  refine Runs.seq ?_
  refine Runs.region ?_
  refine WR.seg hE 3 [] [2, 3] (Lo := [(2, .int .i64 s1.1), (3, .bool true)]) (obs := []) rfl (by kernel_rfl) trivial fun a hE => ?_
  refine WR.done rfl ?_
  replace H := arena_Arena.shut (arena_Arena.A.mk al_a_.l_b al_a_.l_c z z1 al_a_.m__p) (arena_Arena.mk (mSet s1.2.l s1.1 t_1) s1.2.never s1.2.free s1.2.m_) H.t3.t3.t2.t3
  refine Runs.ret hE Tryz.func38 rfl rfl ?_
  cases hm
  exact ⟨z, z1, rfl, H⟩

theorem arena_Arena_Live_ok {w0 w : World} {As : List HP} {p_a_ : Nat} {al_a_ : arena_Arena.A} {a_ : arena_Arena} {c_ : Int} {t : Bool}  (hm : arena_Arena_Live a_ c_ = some t) (H : St w0 (arena_Arena.R p_a_ al_a_ a_ :: As) w) :
    CallsR Tryz.prog 44 #[.pointer (some ⟨p_a_, 0, none⟩), .int .i64 c_] w fun v w' => v = .bool t ∧ St w0 (arena_Arena.R p_a_ al_a_ a_ :: As) w' := by
  rw [arena_Arena_Live] at hm
  refine enter (args := [.pointer (some ⟨p_a_, 0, none⟩), .int .i64 c_]) Tryz.func44 rfl rfl rfl fun a hE => ?_
  refine Runs.seq ?_
  refine Runs.region ?_
  refine WR.seg hE 1 [] [0, 1] (Lo := [(0, .pointer (some ⟨p_a_, 0, none⟩)), (1, .int .i64 c_)]) (obs := []) rfl (by kernel_rfl) trivial fun a hE => ?_
  refine WR.done rfl ?_
  refine Runs.seq ?_
  obtain ⟨s, es, hm⟩ := bind_some hm
  refine Runs.join (fun a w => EnvOk 26 a [(4, .bool s)] ∧ St w0 (arena_Arena.R p_a_ al_a_ a_ :: As) w) (fun hk => ?_) ?_
  · replace hm := es; clear es
    refine Runs.region ?_
    refine WR.seg hE 3 [] [0, 1, 7] (Lo := [(0, .pointer (some ⟨p_a_, 0, none⟩)), (1, .int .i64 c_), (7, .bool (decide (c_ ≥ 0)))]) (obs := []) rfl (by kernel_rfl) trivial fun a hE => ?_
    rcases Bool.eq_false_or_eq_true (decide (c_ ≥ 0)) with c | c
    · replace hE := hE.dec 7 c (by kernel_rfl)
      replace hm := cond_t c hm
      have c_1 := c
      replace H := arena_Arena.open H
      refine WR.seg hE 12 [.slice al_a_.l_b a_.l.length al_a_.l_c] [0, 1, 16] (Lo := [(0, .pointer (some ⟨p_a_, 0, none⟩)), (1, .int .i64 c_), (16, .bool (decide (c_ < (a_.l.length : Int))))]) (obs := [.cell ⟨p_a_, 0, none⟩ (.slice al_a_.l_b a_.l.length al_a_.l_c)]) rfl (by kernel_rfl) ⟨H.cell 0 rfl rfl, trivial⟩ fun a hE => ?_
      rcases Bool.eq_false_or_eq_true (decide (c_ < (a_.l.length : Int))) with c | c
      · replace hE := hE.dec 16 c (by kernel_rfl)
        replace hm := cond_t c hm
        have c_2 := c
        obtain ⟨x1, ex1, hm⟩ := bind_some hm
        obtain ⟨b1, o1, hs1, hb1⟩ := SlRd.base (sl_rd 72 arena_cell.enc 11 _ _ _) arena_cell.enc_ok H 1 rfl ex1
        refine WR.seg hE 22 [.slice al_a_.l_b a_.l.length al_a_.l_c, .pointer (some ⟨b1, o1, none⟩), .bool x1.taken] [4] (Lo := [(4, .bool x1.taken)]) (obs := [.cell ⟨p_a_, 0, none⟩ (.slice al_a_.l_b a_.l.length al_a_.l_c), .p ((al_a_.l_b : Option Addr) = some ⟨b1, o1, none⟩), .p (0 ≤ (c_ : Int) ∧ (c_ : Int) < ((a_.l.length : Nat) : Int)), .cell ⟨b1, o1 + (Int.toNat c_) * 11 + 10, none⟩ (.bool x1.taken)]) rfl (by kernel_rfl) ⟨H.cell 0 rfl rfl, hs1, hb1, SlRd.cells (sl_rd 72 arena_cell.enc 11 _ _ _) arena_cell.enc_ok H 1 rfl hs1 ex1 10 _ rfl, trivial⟩ fun a hE => ?_
        refine WR.done rfl ?_
        replace H := arena_Arena.shut al_a_ (a_) H.t3.t3.t3.t3
        cases hm
        exact hk _ _ ⟨hE.sel [4] (by kernel_rfl), H⟩
      · replace hE := hE.dec 16 c (by kernel_rfl)
        replace hm := cond_f c hm
        have c_3 := c
        refine WR.seg hE 22 [] [4] (Lo := [(4, .bool false)]) (obs := []) rfl (by kernel_rfl) trivial fun a hE => ?_
        refine WR.done rfl ?_
        replace H := arena_Arena.shut al_a_ (a_) H.t3.t3.t3.t3
        cases hm
        exact hk _ _ ⟨hE.sel [4] (by kernel_rfl), H⟩
    · replace hE := hE.dec 7 c (by kernel_rfl)
      replace hm := cond_f c hm
      have c_4 := c
      refine WR.seg hE 22 [] [4] (Lo := [(4, .bool false)]) (obs := []) rfl (by kernel_rfl) trivial fun a hE => ?_
      refine WR.done rfl ?_
      cases hm
      exact hk _ _ ⟨hE.sel [4] (by kernel_rfl), H⟩
  rintro a w ⟨hE, H⟩
  refine Runs.ret hE Tryz.func44 rfl rfl ?_
  cases hm
  exact ⟨rfl, H⟩

theorem arena_Arena_has_ok {w0 w : World} {As : List HP} {p_a_ : Nat} {al_a_ : arena_Arena.A} {a_ : arena_Arena} {c_ : Int} {field : Int} {t : Bool}  (hm : arena_Arena_has a_ c_ field = some t) (H : St w0 (arena_Arena.R p_a_ al_a_ a_ :: As) w) :
    CallsR Tryz.prog 59 #[.pointer (some ⟨p_a_, 0, none⟩), .int .i64 c_, .int .i64 field] w fun v w' => v = .bool t ∧ St w0 (arena_Arena.R p_a_ al_a_ a_ :: As) w' := by
  rw [arena_Arena_has] at hm
  refine enter (args := [.pointer (some ⟨p_a_, 0, none⟩), .int .i64 c_, .int .i64 field]) Tryz.func59 rfl rfl rfl fun a hE => ?_
  refine Runs.seq ?_
  refine Runs.region ?_
  refine WR.seg hE 1 [] [0, 1, 2] (Lo := [(0, .pointer (some ⟨p_a_, 0, none⟩)), (1, .int .i64 c_), (2, .int .i64 field)]) (obs := []) rfl (by kernel_rfl) trivial fun a hE => ?_
  refine WR.done rfl ?_
  refine Runs.seq ?_
  obtain ⟨s, es, hm⟩ := bind_some hm
  refine Runs.join (fun a w => EnvOk 18 a [(6, .bool s)] ∧ St w0 (arena_Arena.R p_a_ al_a_ a_ :: As) w) (fun hk => ?_) ?_
  · replace hm := es; clear es
    refine Runs.region ?_
    refine WR.seg hE 2 [] [2, 7, 8] (Lo := [(2, .int .i64 field), (7, .pointer (some ⟨p_a_, 0, none⟩)), (8, .int .i64 c_)]) (obs := []) rfl (by kernel_rfl) trivial fun a hE => ?_
    obtain ⟨t_, et_, hm⟩ := bind_some hm
    refine WR.eff hE rfl rfl rfl rfl (OpTo.fn hE rfl rfl Tryz.call44 (arena_Arena_Live_ok et_ H)) ?_
    rintro _ w ⟨rfl, H⟩ a hE
    refine WR.seg hE 4 [] [2, 10] (Lo := [(2, .int .i64 field), (10, .bool t_)]) (obs := []) rfl (by kernel_rfl) trivial fun a hE => ?_
    rcases Bool.eq_false_or_eq_true t_ with c | c
    · replace hE := hE.dec 10 c (by kernel_rfl)
      replace hm := cond_t c hm
      have c_1 := c
      refine WR.seg hE 8 [] [2, 14] (Lo := [(2, .int .i64 field), (14, .bool (decide (field ≥ 0)))]) (obs := []) rfl (by kernel_rfl) trivial fun a hE => ?_
      rcases Bool.eq_false_or_eq_true (decide (field ≥ 0)) with c | c
      · replace hE := hE.dec 14 c (by kernel_rfl)
        replace hm := cond_t c hm
        have c_2 := c
        refine WR.seg hE 12 [] [6] (Lo := [(6, .bool (decide (field < 10)))]) (obs := []) rfl (by kernel_rfl) trivial fun a hE => ?_
        refine WR.done rfl ?_
        cases hm
        exact hk _ _ ⟨hE.sel [6] (by kernel_rfl), H⟩
      · replace hE := hE.dec 14 c (by kernel_rfl)
        replace hm := cond_f c hm
        have c_3 := c
        refine WR.seg hE 12 [] [6] (Lo := [(6, .bool false)]) (obs := []) rfl (by kernel_rfl) trivial fun a hE => ?_
        refine WR.done rfl ?_
        cases hm
        exact hk _ _ ⟨hE.sel [6] (by kernel_rfl), H⟩
    · replace hE := hE.dec 10 c (by kernel_rfl)
      replace hm := cond_f c hm
      have c_4 := c
      refine WR.seg hE 12 [] [6] (Lo := [(6, .bool false)]) (obs := []) rfl (by kernel_rfl) trivial fun a hE => ?_
      refine WR.done rfl ?_
      cases hm
      exact hk _ _ ⟨hE.sel [6] (by kernel_rfl), H⟩
  rintro a w ⟨hE, H⟩
  refine Runs.ret hE Tryz.func59 rfl rfl ?_
  cases hm
  exact ⟨rfl, H⟩

theorem arena_Arena_Set_ok {w0 w : World} {As : List HP} {p_a_ : Nat} {al_a_ : arena_Arena.A} {a_ : arena_Arena} {c_ : Int} {field : Int} {v_ : Int} {t : Bool × arena_Arena}  (hm : arena_Arena_Set a_ c_ field v_ = some t) (H : St w0 (arena_Arena.R p_a_ al_a_ a_ :: As) w) :
    CallsR Tryz.prog 39 #[.pointer (some ⟨p_a_, 0, none⟩), .int .i64 c_, .int .i64 field, .int .i64 v_] w fun v w' => v = .bool t.1 ∧ t.2.free = a_.free ∧ St w0 (arena_Arena.R p_a_ al_a_ t.2 :: As) w' := by
  rw [arena_Arena_Set] at hm
  refine enter (args := [.pointer (some ⟨p_a_, 0, none⟩), .int .i64 c_, .int .i64 field, .int .i64 v_]) Tryz.func39 rfl rfl rfl fun a hE => ?_
  refine Runs.seq ?_
  refine Runs.region ?_
  refine WR.seg hE 1 [] [0, 1, 2, 3] (Lo := [(0, .pointer (some ⟨p_a_, 0, none⟩)), (1, .int .i64 c_), (2, .int .i64 field), (3, .int .i64 v_)]) (obs := []) rfl (by kernel_rfl) trivial fun a hE => ?_
  refine WR.done rfl ?_
  refine Runs.seq ?_
  refine Runs.region ?_
  replace H := arena_Arena.open H
  refine WR.seg hE 4 [.pointer (some ⟨al_a_.m__p, 0, none⟩)] [0, 1, 2, 3, 12] (Lo := [(0, .pointer (some ⟨p_a_, 0, none⟩)), (1, .int .i64 c_), (2, .int .i64 field), (3, .int .i64 v_), (12, .pointer (some ⟨al_a_.m__p, 0, none⟩))]) (obs := [.cell ⟨p_a_, 3, none⟩ (.pointer (some ⟨al_a_.m__p, 0, none⟩))]) rfl (by kernel_rfl) ⟨H.cell 0 rfl rfl, trivial⟩ fun a hE => ?_
  obtain ⟨t_, et_, hm⟩ := bind_some hm
  refine WR.eff hE rfl rfl rfl rfl (OpTo.fn hE rfl rfl Tryz.call43 (meter_Meter_Tick_ok et_ H.t3)) ?_
  rintro _ w ⟨rfl, H⟩ a hE
  refine WR.done rfl ?_
  refine Runs.seq ?_
  refine Runs.seq ?_
  refine Runs.region ?_
  refine WR.seg hE 3 [] [0, 1, 2, 3, 14, 15, 16] (Lo := [(0, .pointer (some ⟨p_a_, 0, none⟩)), (1, .int .i64 c_), (2, .int .i64 field), (3, .int .i64 v_), (14, .pointer (some ⟨p_a_, 0, none⟩)), (15, .int .i64 c_), (16, .int .i64 field)]) (obs := []) rfl (by kernel_rfl) trivial fun a hE => ?_
  replace H := arena_Arena.shut al_a_ (arena_Arena.mk a_.l a_.never a_.free t_) H.t3.t3.t3
  obtain ⟨t_1, et_1, hm⟩ := bind_some hm
  refine WR.eff hE rfl rfl rfl rfl (OpTo.fn hE rfl rfl Tryz.call59 (arena_Arena_has_ok et_1 H)) ?_
  rintro _ w ⟨rfl, H⟩ a hE
  refine WR.seg hE 5 [] [0, 1, 2, 3, 18] (Lo := [(0, .pointer (some ⟨p_a_, 0, none⟩)), (1, .int .i64 c_), (2, .int .i64 field), (3, .int .i64 v_), (18, .bool (!t_1))]) (obs := []) rfl (by kernel_rfl) trivial fun a hE => ?_
  refine WR.done rfl ?_
  refine Runs.cond hE rfl (fun c => ?_) (fun c => ?_)
  · replace hm := cond_t c hm
    refine Runs.seq ?_
    refine Runs.region ?_
    refine WR.seg hE 1 [] [8] (Lo := [(8, .bool false)]) (obs := []) rfl (by kernel_rfl) trivial fun a hE => ?_
    refine WR.done rfl ?_
    refine Runs.ret hE Tryz.func39 rfl rfl ?_
    cases hm
    exact ⟨rfl, rfl, H⟩
  · replace hm := cond_f c hm
    refine Runs.skip ?_
    refine Runs.seq ?_
    refine Runs.region ?_
    replace H := arena_Arena.open H
    try dsimp only at H
    obtain ⟨x, ex, hm⟩ := bind_some hm
    obtain ⟨b, o, hs, hb⟩ := SlRd.base (sl_rd 72 arena_cell.enc 11 _ _ _) arena_cell.enc_ok H 1 rfl ex
    obtain ⟨u, eu, hm⟩ := bind_some hm
    refine WR.seg hE 10 [.slice al_a_.l_b a_.l.length al_a_.l_c, .pointer (some ⟨b, o, none⟩)] [25, 28] (Lo := [(25, .int .i64 v_), (28, .pointer (some ⟨b, o + (Int.toNat c_) * 11 + (Int.toNat field) * 1, none⟩))]) (obs := [.cell ⟨p_a_, 0, none⟩ (.slice al_a_.l_b a_.l.length al_a_.l_c), .p ((al_a_.l_b : Option Addr) = some ⟨b, o, none⟩), .p (0 ≤ (c_ : Int) ∧ (c_ : Int) < ((a_.l.length : Nat) : Int)), .p (0 ≤ (field : Int) ∧ (field : Int) < ((10 : Nat) : Int))]) rfl (by kernel_rfl) ⟨H.cell 0 rfl rfl, hs, hb, in_spec eu, trivial⟩ fun a hE => ?_
    obtain ⟨y, ey, hm⟩ := bind_some hm
    refine WR.eff0 hE rfl rfl rfl (OpTo.storeSl (q := (Int.toNat field) * 1) (x' := y) hE H.t1 arena_cell.enc_ok rfl hs ex rfl rfl rfl rfl rfl (by have := in_spec eu; show (Int.toNat field) * 1 + 1 ≤ 11; omega) (arena_cell.set_f_spec ey)) ?_
    rintro _ w H a hE
    rw [← mSet_len a_.l c_ y] at H
    refine WR.done rfl ?_
    refine Runs.seq ?_
    refine Runs.region ?_
    refine WR.seg hE 1 [] [8] (Lo := [(8, .bool true)]) (obs := []) rfl (by kernel_rfl) trivial fun a hE => ?_
    refine WR.done rfl ?_
    replace H := arena_Arena.shut al_a_ (arena_Arena.mk (mSet a_.l c_ y) a_.never a_.free t_) H.t3.t3.t2.t3
    refine Runs.ret hE Tryz.func39 rfl rfl ?_
    cases hm
    exact ⟨rfl, rfl, H⟩

theorem item_New_ok {w0 w : World} {As : List HP} {p_a_ : Nat} {al_a_ : arena_Arena.A} {a_ : arena_Arena} {key : Int} {serial : Int} {t : Int × Bool × arena_Arena}  (hm : item_New a_ key serial = some t) (H : St w0 (arena_Arena.R p_a_ al_a_ a_ :: As) w) :
    CallsR Tryz.prog 16 #[.pointer (some ⟨p_a_, 0, none⟩), .int .i64 key, .int .i64 serial] w fun v w' => ∃ (z_a__free_b : Option Addr), ∃ (z_a__free_c : Nat), v = .tuple #[.int .i64 t.1, .bool t.2.1] ∧ St w0 (arena_Arena.R p_a_ (arena_Arena.A.mk al_a_.l_b al_a_.l_c z_a__free_b z_a__free_c al_a_.m__p) t.2.2 :: As) w' := by
  rw [item_New] at hm
  refine enter (args := [.pointer (some ⟨p_a_, 0, none⟩), .int .i64 key, .int .i64 serial]) Tryz.func16 rfl rfl rfl fun a hE => ?_
  refine Runs.seq ?_
  refine Runs.region ?_
  refine WR.seg hE 2 [] [0, 1, 2] (Lo := [(0, .pointer (some ⟨p_a_, 0, none⟩)), (1, .int .i64 key), (2, .int .i64 serial)]) (obs := []) rfl (by kernel_rfl) trivial fun a hE => ?_
  refine WR.done rfl ?_
  refine Runs.seq ?_
  refine Runs.seq ?_
  refine Runs.region ?_
  refine WR.seg hE 2 [] [0, 1, 2, 11] (Lo := [(0, .pointer (some ⟨p_a_, 0, none⟩)), (1, .int .i64 key), (2, .int .i64 serial), (11, .bool false)]) (obs := []) rfl (by kernel_rfl) trivial fun a hE => ?_
  refine WR.done rfl ?_
  refine Runs.condF hE rfl ?_
  refine Runs.skip ?_
  refine Runs.seq ?_
  refine Runs.region ?_
  refine WR.seg hE 1 [] [0, 1, 2, 13] (Lo := [(0, .pointer (some ⟨p_a_, 0, none⟩)), (1, .int .i64 key), (2, .int .i64 serial), (13, .pointer (some ⟨p_a_, 0, none⟩))]) (obs := []) rfl (by kernel_rfl) trivial fun a hE => ?_
  obtain ⟨t_, et_, hm⟩ := bind_some hm
  refine WR.eff hE rfl rfl rfl rfl (OpTo.fn hE rfl rfl Tryz.call38 (arena_Arena_Take_ok et_ H)) ?_
  rintro _ w ⟨z, z1, rfl, H⟩ a hE
  refine WR.seg hE 7 [] [0, 1, 2, 8, 9] (Lo := [(0, .pointer (some ⟨p_a_, 0, none⟩)), (1, .int .i64 key), (2, .int .i64 serial), (8, .int .i64 t_.1), (9, .bool t_.2.1)]) (obs := []) rfl (by kernel_rfl) trivial fun a hE => ?_
  refine WR.done rfl ?_
  refine Runs.seq ?_
  refine Runs.seq ?_
  refine Runs.region ?_
  refine WR.seg hE 1 [] [0, 1, 2, 8, 9, 17] (Lo := [(0, .pointer (some ⟨p_a_, 0, none⟩)), (1, .int .i64 key), (2, .int .i64 serial), (8, .int .i64 t_.1), (9, .bool t_.2.1), (17, .bool t_.2.1)]) (obs := []) rfl (by kernel_rfl) trivial fun a hE => ?_
  refine WR.done rfl ?_
  obtain ⟨s, es, hm⟩ := bind_some hm
  refine Runs.join (fun a w => EnvOk 28 a [(8, .int .i64 t_.1), (9, .bool t_.2.1)] ∧ St w0 (arena_Arena.R p_a_ (arena_Arena.A.mk al_a_.l_b al_a_.l_c z z1 al_a_.m__p) s :: As) w) (fun hk => ?_) ?_
  · replace hm := es; clear es
    refine Runs.cond hE rfl (fun c => ?_) (fun c => ?_)
    · replace hm := cond_t c hm
      refine Runs.seq ?_
      refine Runs.region ?_
      refine WR.seg hE 3 [] [0, 2, 8, 9, 18, 19, 20] (Lo := [(0, .pointer (some ⟨p_a_, 0, none⟩)), (2, .int .i64 serial), (8, .int .i64 t_.1), (9, .bool t_.2.1), (18, .pointer (some ⟨p_a_, 0, none⟩)), (19, .int .i64 t_.1), (20, .int .i64 key)]) (obs := []) rfl (by kernel_rfl) trivial fun a hE => ?_
      obtain ⟨t_1, et_1, hm⟩ := bind_some hm
      refine WR.eff hE rfl rfl rfl rfl (OpTo.fn hE rfl rfl Tryz.call39 (arena_Arena_Set_ok et_1 H)) ?_
      rintro _ w ⟨rfl, hf, H⟩ a hE
      refine WR.done rfl ?_
      refine Runs.region ?_
      refine WR.seg hE 3 [] [8, 9, 22, 23, 24] (Lo := [(8, .int .i64 t_.1), (9, .bool t_.2.1), (22, .pointer (some ⟨p_a_, 0, none⟩)), (23, .int .i64 t_.1), (24, .int .i64 serial)]) (obs := []) rfl (by kernel_rfl) trivial fun a hE => ?_
      obtain ⟨t_2, et_2, hm⟩ := bind_some hm
      refine WR.eff hE rfl rfl rfl rfl (OpTo.fn hE rfl rfl Tryz.call39 (arena_Arena_Set_ok et_2 H)) ?_
      rintro _ w ⟨rfl, hf1, H⟩ a hE
      refine WR.done rfl ?_
      cases hm
      exact hk _ _ ⟨hE.sel [8, 9] (by kernel_rfl), H⟩
    · replace hm := cond_f c hm
      refine Runs.skip ?_
      cases hm
      exact hk _ _ ⟨hE.sel [8, 9] (by kernel_rfl), H⟩
  rintro a w ⟨hE, H⟩
  refine Runs.seq ?_
  refine Runs.region ?_
  refine WR.seg hE 4 [] [6, 7] (Lo := [(6, .int .i64 t_.1), (7, .bool t_.2.1)]) (obs := []) rfl (by kernel_rfl) trivial fun a hE => ?_
  refine WR.done rfl ?_
  refine Runs.ret hE Tryz.func16 rfl rfl ?_
  cases hm
  exact ⟨z, z1, rfl, H⟩

theorem arena_Arena_Len_ok {w0 w : World} {As : List HP} {p_a_ : Nat} {al_a_ : arena_Arena.A} {a_ : arena_Arena} {t : Int}  (hm : arena_Arena_Len a_ = some t) (H : St w0 (arena_Arena.R p_a_ al_a_ a_ :: As) w) :
    CallsR Tryz.prog 12 #[.pointer (some ⟨p_a_, 0, none⟩)] w fun v w' => v = .int .i64 t ∧ St w0 (arena_Arena.R p_a_ al_a_ a_ :: As) w' := by
  rw [arena_Arena_Len] at hm
  refine enter (args := [.pointer (some ⟨p_a_, 0, none⟩)]) Tryz.func12 rfl rfl rfl fun a hE => ?_
  refine Runs.seq ?_
  refine Runs.region ?_
  refine WR.seg hE 1 [] [0] (Lo := [(0, .pointer (some ⟨p_a_, 0, none⟩))]) (obs := []) rfl (by kernel_rfl) trivial fun a hE => ?_
  refine WR.done rfl ?_
  refine Runs.seq ?_
  refine Runs.drawn mixed (by kernel_rfl) ?_
  replace H := H.drew
  replace H := arena_Arena.open H
  refine WQ.seg hE [0, 1, 2, 3, 4, 5, 6, 7, 8, 9, 10] [.int .i64 a_.never, .slice al_a_.free_b a_.free.length al_a_.free_c] [2] (Lo := [(2, .int .i64 (w64 (a_.never - (a_.free.length : Int))))]) (obs := [.cell ⟨p_a_, 1, none⟩ (.int .i64 a_.never), .cell ⟨p_a_, 2, none⟩ (.slice al_a_.free_b a_.free.length al_a_.free_c)]) (by kernel_rfl) (by kernel_rfl) ⟨H.cell 0 rfl rfl, H.cell 0 rfl rfl, trivial⟩ fun a hE => ?_
  refine WQ.done (by kernel_rfl) ?_
  replace H := arena_Arena.shut al_a_ (a_) H.t3.t3.t3.t3
  refine Runs.ret hE Tryz.func12 rfl rfl ?_
  cases hm
  exact ⟨rfl, H⟩

theorem arena_Arena_Cells_ok {w0 w : World} {As : List HP} {p_a_ : Nat} {al_a_ : arena_Arena.A} {a_ : arena_Arena} {t : Int}  (hm : arena_Arena_Cells a_ = some t) (H : St w0 (arena_Arena.R p_a_ al_a_ a_ :: As) w) :
    CallsR Tryz.prog 17 #[.pointer (some ⟨p_a_, 0, none⟩)] w fun v w' => v = .int .i64 t ∧ St w0 (arena_Arena.R p_a_ al_a_ a_ :: As) w' := by
  rw [arena_Arena_Cells] at hm
  refine enter (args := [.pointer (some ⟨p_a_, 0, none⟩)]) Tryz.func17 rfl rfl rfl fun a hE => ?_
  refine Runs.seq ?_
  refine Runs.region ?_
  refine WR.seg hE 1 [] [0] (Lo := [(0, .pointer (some ⟨p_a_, 0, none⟩))]) (obs := []) rfl (by kernel_rfl) trivial fun a hE => ?_
  refine WR.done rfl ?_
  refine Runs.seq ?_
  refine Runs.region ?_
  replace H := arena_Arena.open H
  refine WR.seg hE 6 [.slice al_a_.l_b a_.l.length al_a_.l_c] [2] (Lo := [(2, .int .i64 (a_.l.length : Int))]) (obs := [.cell ⟨p_a_, 0, none⟩ (.slice al_a_.l_b a_.l.length al_a_.l_c)]) rfl (by kernel_rfl) ⟨H.cell 0 rfl rfl, trivial⟩ fun a hE => ?_
  refine WR.done rfl ?_
  replace H := arena_Arena.shut al_a_ (a_) H.t3.t3.t3.t3
  refine Runs.ret hE Tryz.func17 rfl rfl ?_
  cases hm
  exact ⟨rfl, H⟩

theorem meter_Meter_Steps_ok {w0 w : World} {As : List HP} {p_m_ : Nat} {m_ : meter_Meter} {t : Int}  (hm : meter_Meter_Steps m_ = some t) (H : St w0 (meter_Meter.R p_m_ m_ :: As) w) :
    CallsR Tryz.prog 18 #[.pointer (some ⟨p_m_, 0, none⟩)] w fun v w' => v = .int .i64 t ∧ St w0 (meter_Meter.R p_m_ m_ :: As) w' := by
  rw [meter_Meter_Steps] at hm
  refine enter (args := [.pointer (some ⟨p_m_, 0, none⟩)]) Tryz.func18 rfl rfl rfl fun a hE => ?_
  refine Runs.seq ?_
  refine Runs.region ?_
  refine WR.seg hE 1 [] [0] (Lo := [(0, .pointer (some ⟨p_m_, 0, none⟩))]) (obs := []) rfl (by kernel_rfl) trivial fun a hE => ?_
  refine WR.done rfl ?_
  refine Runs.seq ?_
  refine Runs.region ?_
  replace H := meter_Meter.open H
  refine WR.seg hE 5 [.int .i64 m_.steps] [2] (Lo := [(2, .int .i64 m_.steps)]) (obs := [.cell ⟨p_m_, 0, none⟩ (.int .i64 m_.steps)]) rfl (by kernel_rfl) ⟨H.cell 0 rfl rfl, trivial⟩ fun a hE => ?_
  refine WR.done rfl ?_
  replace H := meter_Meter.shut (m_) H
  refine Runs.ret hE Tryz.func18 rfl rfl ?_
  cases hm
  exact ⟨rfl, H⟩

theorem item_Put_ok {w0 w : World} {As : List HP} {p_a_ : Nat} {al_a_ : arena_Arena.A} {a_ : arena_Arena} {n : Int} {i : Int} {t : arena_Arena}  (hm : item_Put a_ n i = some t) (H : St w0 (arena_Arena.R p_a_ al_a_ a_ :: As) w) :
    CallsR Tryz.prog 60 #[.pointer (some ⟨p_a_, 0, none⟩), .int .i64 n, .int .i64 i] w fun v w' => v = .tuple #[] ∧ t.free = a_.free ∧ St w0 (arena_Arena.R p_a_ al_a_ t :: As) w' := by
  rw [item_Put] at hm
  refine enter (args := [.pointer (some ⟨p_a_, 0, none⟩), .int .i64 n, .int .i64 i]) Tryz.func60 rfl rfl rfl fun a hE => ?_
  refine Runs.seq ?_
  refine Runs.region ?_
  refine WR.seg hE 2 [] [0, 1, 2, 7] (Lo := [(0, .pointer (some ⟨p_a_, 0, none⟩)), (1, .int .i64 n), (2, .int .i64 i), (7, .bool true)]) (obs := []) rfl (by kernel_rfl) trivial fun a hE => ?_
  refine WR.done rfl ?_
  refine Runs.condT hE rfl ?_
  refine Runs.seq ?_
  refine Runs.region ?_
  refine WR.seg hE 3 [] [0, 1, 2, 8, 9, 10] (Lo := [(0, .pointer (some ⟨p_a_, 0, none⟩)), (1, .int .i64 n), (2, .int .i64 i), (8, .pointer (some ⟨p_a_, 0, none⟩)), (9, .int .i64 n), (10, .int .i64 i)]) (obs := []) rfl (by kernel_rfl) trivial fun a hE => ?_
  obtain ⟨t_, et_, hm⟩ := bind_some hm
  refine WR.eff hE rfl rfl rfl rfl (OpTo.fn hE rfl rfl Tryz.call39 (arena_Arena_Set_ok et_ H)) ?_
  rintro _ w ⟨rfl, hf, H⟩ a hE
  refine WR.done rfl ?_
  refine Runs.region ?_
  refine WR.seg hE 3 [] [12, 13, 14] (Lo := [(12, .pointer (some ⟨p_a_, 0, none⟩)), (13, .int .i64 i), (14, .int .i64 n)]) (obs := []) rfl (by kernel_rfl) trivial fun a hE => ?_
  obtain ⟨t_1, et_1, hm⟩ := bind_some hm
  refine WR.eff hE rfl rfl rfl rfl (OpTo.fn hE rfl rfl Tryz.call39 (arena_Arena_Set_ok et_1 H)) ?_
  rintro _ w ⟨rfl, hf1, H⟩ a hE
  refine WR.done rfl ?_
  refine Runs.fin hE Tryz.func60 rfl rfl ?_
  cases hm
  exact ⟨rfl, (by simp only [hf1, hf]), H⟩

theorem node_New_ok {w0 w : World} {As : List HP} {p_a_ : Nat} {al_a_ : arena_Arena.A} {a_ : arena_Arena} {i : Int} {t : Int × Bool × arena_Arena}  (hm : node_New a_ i = some t) (H : St w0 (arena_Arena.R p_a_ al_a_ a_ :: As) w) :
    CallsR Tryz.prog 40 #[.pointer (some ⟨p_a_, 0, none⟩), .int .i64 i] w fun v w' => ∃ (z_a__free_b : Option Addr), ∃ (z_a__free_c : Nat), v = .tuple #[.int .i64 t.1, .bool t.2.1] ∧ St w0 (arena_Arena.R p_a_ (arena_Arena.A.mk al_a_.l_b al_a_.l_c z_a__free_b z_a__free_c al_a_.m__p) t.2.2 :: As) w' := by
  rw [node_New] at hm
  refine enter (args := [.pointer (some ⟨p_a_, 0, none⟩), .int .i64 i]) Tryz.func40 rfl rfl rfl fun a hE => ?_
  refine Runs.seq ?_
  refine Runs.region ?_
  refine WR.seg hE 2 [] [0, 1] (Lo := [(0, .pointer (some ⟨p_a_, 0, none⟩)), (1, .int .i64 i)]) (obs := []) rfl (by kernel_rfl) trivial fun a hE => ?_
  refine WR.done rfl ?_
  refine Runs.seq ?_
  refine Runs.region ?_
  refine WR.seg hE 1 [] [0, 1, 9] (Lo := [(0, .pointer (some ⟨p_a_, 0, none⟩)), (1, .int .i64 i), (9, .pointer (some ⟨p_a_, 0, none⟩))]) (obs := []) rfl (by kernel_rfl) trivial fun a hE => ?_
  obtain ⟨t_, et_, hm⟩ := bind_some hm
  refine WR.eff hE rfl rfl rfl rfl (OpTo.fn hE rfl rfl Tryz.call38 (arena_Arena_Take_ok et_ H)) ?_
  rintro _ w ⟨z, z1, rfl, H⟩ a hE
  refine WR.seg hE 7 [] [0, 1, 6, 7] (Lo := [(0, .pointer (some ⟨p_a_, 0, none⟩)), (1, .int .i64 i), (6, .int .i64 t_.1), (7, .bool t_.2.1)]) (obs := []) rfl (by kernel_rfl) trivial fun a hE => ?_
  refine WR.done rfl ?_
  refine Runs.seq ?_
  refine Runs.seq ?_
  refine Runs.region ?_
  refine WR.seg hE 1 [] [0, 1, 6, 7, 13] (Lo := [(0, .pointer (some ⟨p_a_, 0, none⟩)), (1, .int .i64 i), (6, .int .i64 t_.1), (7, .bool t_.2.1), (13, .bool t_.2.1)]) (obs := []) rfl (by kernel_rfl) trivial fun a hE => ?_
  refine WR.done rfl ?_
  obtain ⟨s, es, hm⟩ := bind_some hm
  refine Runs.join (fun a w => EnvOk 20 a [(6, .int .i64 t_.1), (7, .bool t_.2.1)] ∧ St w0 (arena_Arena.R p_a_ (arena_Arena.A.mk al_a_.l_b al_a_.l_c z z1 al_a_.m__p) s :: As) w) (fun hk => ?_) ?_
  · replace hm := es; clear es
    refine Runs.cond hE rfl (fun c => ?_) (fun c => ?_)
    · replace hm := cond_t c hm
      refine Runs.region ?_
      refine WR.seg hE 3 [] [6, 7, 14, 15, 16] (Lo := [(6, .int .i64 t_.1), (7, .bool t_.2.1), (14, .pointer (some ⟨p_a_, 0, none⟩)), (15, .int .i64 t_.1), (16, .int .i64 i)]) (obs := []) rfl (by kernel_rfl) trivial fun a hE => ?_
      obtain ⟨t_1, et_1, hm⟩ := bind_some hm
      refine WR.eff hE rfl rfl rfl rfl (OpTo.fn hE rfl rfl Tryz.call60 (item_Put_ok et_1 H)) ?_
      rintro _ w ⟨rfl, hf, H⟩ a hE
      refine WR.done rfl ?_
      cases hm
      exact hk _ _ ⟨hE.sel [6, 7] (by kernel_rfl), H⟩
    · replace hm := cond_f c hm
      refine Runs.skip ?_
      cases hm
      exact hk _ _ ⟨hE.sel [6, 7] (by kernel_rfl), H⟩
  rintro a w ⟨hE, H⟩
  refine Runs.seq ?_
  refine Runs.region ?_
  refine WR.seg hE 4 [] [4, 5] (Lo := [(4, .int .i64 t_.1), (5, .bool t_.2.1)]) (obs := []) rfl (by kernel_rfl) trivial fun a hE => ?_
  refine WR.done rfl ?_
  refine Runs.ret hE Tryz.func40 rfl rfl ?_
  cases hm
  exact ⟨z, z1, rfl, H⟩

theorem arena_Arena_Get_ok {w0 w : World} {As : List HP} {p_a_ : Nat} {al_a_ : arena_Arena.A} {a_ : arena_Arena} {c_ : Int} {field : Int} {t : Int × arena_Arena}  (hm : arena_Arena_Get a_ c_ field = some t) (H : St w0 (arena_Arena.R p_a_ al_a_ a_ :: As) w) :
    CallsR Tryz.prog 51 #[.pointer (some ⟨p_a_, 0, none⟩), .int .i64 c_, .int .i64 field] w fun v w' => v = .int .i64 t.1 ∧ t.2.free = a_.free ∧ t.2.l = a_.l ∧ St w0 (arena_Arena.R p_a_ al_a_ t.2 :: As) w' := by
  rw [arena_Arena_Get] at hm
  refine enter (args := [.pointer (some ⟨p_a_, 0, none⟩), .int .i64 c_, .int .i64 field]) Tryz.func51 rfl rfl rfl fun a hE => ?_
  refine Runs.seq ?_
  refine Runs.region ?_
  refine WR.seg hE 1 [] [0, 1, 2] (Lo := [(0, .pointer (some ⟨p_a_, 0, none⟩)), (1, .int .i64 c_), (2, .int .i64 field)]) (obs := []) rfl (by kernel_rfl) trivial fun a hE => ?_
  refine WR.done rfl ?_
  refine Runs.seq ?_
  refine Runs.region ?_
  replace H := arena_Arena.open H
  refine WR.seg hE 4 [.pointer (some ⟨al_a_.m__p, 0, none⟩)] [0, 1, 2, 10] (Lo := [(0, .pointer (some ⟨p_a_, 0, none⟩)), (1, .int .i64 c_), (2, .int .i64 field), (10, .pointer (some ⟨al_a_.m__p, 0, none⟩))]) (obs := [.cell ⟨p_a_, 3, none⟩ (.pointer (some ⟨al_a_.m__p, 0, none⟩))]) rfl (by kernel_rfl) ⟨H.cell 0 rfl rfl, trivial⟩ fun a hE => ?_
  obtain ⟨t_, et_, hm⟩ := bind_some hm
  refine WR.eff hE rfl rfl rfl rfl (OpTo.fn hE rfl rfl Tryz.call43 (meter_Meter_Tick_ok et_ H.t3)) ?_
  rintro _ w ⟨rfl, H⟩ a hE
  refine WR.done rfl ?_
  refine Runs.seq ?_
  refine Runs.seq ?_
  refine Runs.region ?_
  refine WR.seg hE 3 [] [0, 1, 2, 12, 13, 14] (Lo := [(0, .pointer (some ⟨p_a_, 0, none⟩)), (1, .int .i64 c_), (2, .int .i64 field), (12, .pointer (some ⟨p_a_, 0, none⟩)), (13, .int .i64 c_), (14, .int .i64 field)]) (obs := []) rfl (by kernel_rfl) trivial fun a hE => ?_
  replace H := arena_Arena.shut al_a_ (arena_Arena.mk a_.l a_.never a_.free t_) H.t3.t3.t3
  obtain ⟨t_1, et_1, hm⟩ := bind_some hm
  refine WR.eff hE rfl rfl rfl rfl (OpTo.fn hE rfl rfl Tryz.call59 (arena_Arena_has_ok et_1 H)) ?_
  rintro _ w ⟨rfl, H⟩ a hE
  refine WR.seg hE 5 [] [0, 1, 2, 16] (Lo := [(0, .pointer (some ⟨p_a_, 0, none⟩)), (1, .int .i64 c_), (2, .int .i64 field), (16, .bool (!t_1))]) (obs := []) rfl (by kernel_rfl) trivial fun a hE => ?_
  refine WR.done rfl ?_
  refine Runs.cond hE rfl (fun c => ?_) (fun c => ?_)
  · replace hm := cond_t c hm
    refine Runs.seq ?_
    refine Runs.region ?_
    refine WR.seg hE 1 [] [6] (Lo := [(6, .int .i64 (-1))]) (obs := []) rfl (by kernel_rfl) trivial fun a hE => ?_
    refine WR.done rfl ?_
    refine Runs.ret hE Tryz.func51 rfl rfl ?_
    cases hm
    exact ⟨rfl, rfl, rfl, H⟩
  · replace hm := cond_f c hm
    refine Runs.skip ?_
    refine Runs.seq ?_
    refine Runs.region ?_
    replace H := arena_Arena.open H
    try dsimp only at H
    obtain ⟨x, ex, hm⟩ := bind_some hm
    obtain ⟨b, o, hs, hb⟩ := SlRd.base (sl_rd 72 arena_cell.enc 11 _ _ _) arena_cell.enc_ok H 1 rfl ex
    obtain ⟨u, eu, hm⟩ := bind_some hm
    obtain ⟨v_, ev_, hm⟩ := bind_some hm
    refine WR.seg hE 11 [.slice al_a_.l_b a_.l.length al_a_.l_c, .pointer (some ⟨b, o, none⟩), .int .i64 v_] [6] (Lo := [(6, .int .i64 v_)]) (obs := [.cell ⟨p_a_, 0, none⟩ (.slice al_a_.l_b a_.l.length al_a_.l_c), .p ((al_a_.l_b : Option Addr) = some ⟨b, o, none⟩), .p (0 ≤ (c_ : Int) ∧ (c_ : Int) < ((a_.l.length : Nat) : Int)), .p (0 ≤ (field : Int) ∧ (field : Int) < ((10 : Nat) : Int)), .cell ⟨b, o + (Int.toNat c_) * 11 + (Int.toNat field) * 1, none⟩ (.int .i64 v_)]) rfl (by kernel_rfl) ⟨H.cell 0 rfl rfl, hs, hb, in_spec eu, SlRd.cells (sl_rd 72 arena_cell.enc 11 _ _ _) arena_cell.enc_ok H 1 rfl hs ex ((Int.toNat field) * 1) _ (arena_cell.get_f_spec ev_), trivial⟩ fun a hE => ?_
    refine WR.done rfl ?_
    replace H := arena_Arena.shut al_a_ (arena_Arena.mk a_.l a_.never a_.free t_) H.t3.t3.t3.t3
    refine Runs.ret hE Tryz.func51 rfl rfl ?_
    cases hm
    exact ⟨rfl, rfl, rfl, H⟩

theorem arena_Arena_Cell_ok {w0 w : World} {As : List HP} {p_a_ : Nat} {al_a_ : arena_Arena.A} {a_ : arena_Arena} {c_ : Int} {field : Int} {t : Int × arena_Arena}  (hm : arena_Arena_Cell a_ c_ field = some t) (H : St w0 (arena_Arena.R p_a_ al_a_ a_ :: As) w) :
    CallsR Tryz.prog 45 #[.pointer (some ⟨p_a_, 0, none⟩), .int .i64 c_, .int .i64 field] w fun v w' => v = .int .i64 t.1 ∧ St w0 (arena_Arena.R p_a_ al_a_ t.2 :: As) w' := by
  rw [arena_Arena_Cell] at hm
  refine enter (args := [.pointer (some ⟨p_a_, 0, none⟩), .int .i64 c_, .int .i64 field]) Tryz.func45 rfl rfl rfl fun a hE => ?_
  refine Runs.seq ?_
  refine Runs.region ?_
  refine WR.seg hE 1 [] [0, 1, 2] (Lo := [(0, .pointer (some ⟨p_a_, 0, none⟩)), (1, .int .i64 c_), (2, .int .i64 field)]) (obs := []) rfl (by kernel_rfl) trivial fun a hE => ?_
  refine WR.done rfl ?_
  refine Runs.seq ?_
  refine Runs.region ?_
  refine WR.seg hE 3 [] [0, 8, 9, 10] (Lo := [(0, .pointer (some ⟨p_a_, 0, none⟩)), (8, .pointer (some ⟨p_a_, 0, none⟩)), (9, .int .i64 c_), (10, .int .i64 field)]) (obs := []) rfl (by kernel_rfl) trivial fun a hE => ?_
  obtain ⟨t_, et_, hm⟩ := bind_some hm
  refine WR.eff hE rfl rfl rfl rfl (OpTo.fn hE rfl rfl Tryz.call51 (arena_Arena_Get_ok et_ H)) ?_
  rintro _ w ⟨rfl, hf1, hf, H⟩ a hE
  refine WR.seg hE 5 [] [0, 7] (Lo := [(0, .pointer (some ⟨p_a_, 0, none⟩)), (7, .int .i64 t_.1)]) (obs := []) rfl (by kernel_rfl) trivial fun a hE => ?_
  refine WR.done rfl ?_
  refine Runs.seq ?_
  refine Runs.seq ?_
  obtain ⟨s, es, hm⟩ := bind_some hm
  refine Runs.join (fun a w => EnvOk 24 a [(7, .int .i64 t_.1), (22, .bool s.1)] ∧ St w0 (arena_Arena.R p_a_ al_a_ s.2 :: As) w) (fun hk => ?_) ?_
  · replace hm := es; clear es
    refine Runs.region ?_
    refine WR.seg hE 3 [] [0, 7, 14] (Lo := [(0, .pointer (some ⟨p_a_, 0, none⟩)), (7, .int .i64 t_.1), (14, .bool (decide (t_.1 < 0)))]) (obs := []) rfl (by kernel_rfl) trivial fun a hE => ?_
    rcases Bool.eq_false_or_eq_true (decide (t_.1 < 0)) with c | c
    · replace hE := hE.dec 14 c (by kernel_rfl)
      replace hm := cond_t c hm
      have c_1 := c
      refine WR.seg hE 11 [] [7, 22] (Lo := [(7, .int .i64 t_.1), (22, .bool true)]) (obs := []) rfl (by kernel_rfl) trivial fun a hE => ?_
      refine WR.done rfl ?_
      cases hm
      exact hk _ _ ⟨hE.sel [7, 22] (by kernel_rfl), H⟩
    · replace hE := hE.dec 14 c (by kernel_rfl)
      replace hm := cond_f c hm
      have c_2 := c
      replace H := arena_Arena.open H
      try rw [hf] at H
      try rw [hf1] at H
      try dsimp only at H
      refine WR.seg hE 11 [.slice al_a_.l_b a_.l.length al_a_.l_c] [7, 22] (Lo := [(7, .int .i64 t_.1), (22, .bool (decide (t_.1 ≥ (a_.l.length : Int))))]) (obs := [.cell ⟨p_a_, 0, none⟩ (.slice al_a_.l_b a_.l.length al_a_.l_c)]) rfl (by kernel_rfl) ⟨H.cell 0 rfl rfl, trivial⟩ fun a hE => ?_
      refine WR.done rfl ?_
      replace H := arena_Arena.shut al_a_ (arena_Arena.mk a_.l t_.2.never a_.free t_.2.m_) H.t3.t3.t3.t3
      cases hm
      exact hk _ _ ⟨hE.sel [7, 22] (by kernel_rfl), H⟩
  rintro a w ⟨hE, H⟩
  refine Runs.cond hE rfl (fun c => ?_) (fun c => ?_)
  · replace hm := cond_t c hm
    refine Runs.seq ?_
    refine Runs.region ?_
    refine WR.seg hE 1 [] [6] (Lo := [(6, .int .i64 (-1))]) (obs := []) rfl (by kernel_rfl) trivial fun a hE => ?_
    refine WR.done rfl ?_
    refine Runs.ret hE Tryz.func45 rfl rfl ?_
    cases hm
    exact ⟨rfl, H⟩
  · replace hm := cond_f c hm
    refine Runs.skip ?_
    refine Runs.seq ?_
    refine Runs.region ?_
    refine WR.seg hE 2 [] [6] (Lo := [(6, .int .i64 t_.1)]) (obs := []) rfl (by kernel_rfl) trivial fun a hE => ?_
    refine WR.done rfl ?_
    refine Runs.ret hE Tryz.func45 rfl rfl ?_
    cases hm
    exact ⟨rfl, H⟩

theorem item_Entry_ok {w0 w : World} {As : List HP} {p_a_ : Nat} {al_a_ : arena_Arena.A} {a_ : arena_Arena} {i : Int} {t : api_Entry × arena_Arena}  (hm : item_Entry a_ i = some t) (H : St w0 (arena_Arena.R p_a_ al_a_ a_ :: As) w) :
    CallsR Tryz.prog 87 #[.pointer (some ⟨p_a_, 0, none⟩), .int .i64 i] w fun v w' => v = .agg #[.int .i64 t.1.Key, .int .i64 t.1.Serial] ∧ t.2.free = a_.free ∧ t.2.l = a_.l ∧ St w0 (arena_Arena.R p_a_ al_a_ t.2 :: As) w' := by
  rw [item_Entry] at hm
  refine enter (args := [.pointer (some ⟨p_a_, 0, none⟩), .int .i64 i]) Tryz.func87 rfl rfl rfl fun a hE => ?_
  refine Runs.seq ?_
  refine Runs.region ?_
  refine WR.eff hE rfl rfl rfl rfl (OpTo.new hE H [] (.cells #[.int .i64 0, .int .i64 0] 46 (0, 0)) (fun r => .pointer (some ⟨r, 0, none⟩)) (obs := []) rfl (fun _ => by kernel_rfl) trivial) ?_
  rintro _ w ⟨r, rfl, H⟩ a hE
  refine WR.done rfl ?_
  refine Runs.seq ?_
  refine Runs.seq ?_
  refine Runs.region ?_
  refine WR.seg hE 2 [] [0, 1, 4, 6] (Lo := [(0, .pointer (some ⟨p_a_, 0, none⟩)), (1, .int .i64 i), (4, .pointer (some ⟨r, 0, none⟩)), (6, .bool false)]) (obs := []) rfl (by kernel_rfl) trivial fun a hE => ?_
  refine WR.done rfl ?_
  refine Runs.condF hE rfl ?_
  refine Runs.skip ?_
  refine Runs.seq ?_
  refine Runs.region ?_
  refine WR.seg hE 2 [] [0, 1, 4, 8, 9] (Lo := [(0, .pointer (some ⟨p_a_, 0, none⟩)), (1, .int .i64 i), (4, .pointer (some ⟨r, 0, none⟩)), (8, .pointer (some ⟨p_a_, 0, none⟩)), (9, .int .i64 i)]) (obs := []) rfl (by kernel_rfl) trivial fun a hE => ?_
  obtain ⟨t_, et_, hm⟩ := bind_some hm
  refine WR.eff hE rfl rfl rfl rfl (OpTo.fn hE rfl rfl Tryz.call51 (arena_Arena_Get_ok et_ H.t1)) ?_
  rintro _ w ⟨rfl, hf1, hf, H⟩ a hE
  refine WR.seg hE 5 [] [4, 10, 11, 12] (Lo := [(4, .pointer (some ⟨r, 0, none⟩)), (10, .int .i64 t_.1), (11, .pointer (some ⟨p_a_, 0, none⟩)), (12, .int .i64 i)]) (obs := []) rfl (by kernel_rfl) trivial fun a hE => ?_
  obtain ⟨t_1, et_1, hm⟩ := bind_some hm
  refine WR.eff hE rfl rfl rfl rfl (OpTo.fn hE rfl rfl Tryz.call51 (arena_Arena_Get_ok et_1 H)) ?_
  rintro _ w ⟨rfl, hf3, hf2, H⟩ a hE
  refine WR.seg hE 7 [] [4, 14] (Lo := [(4, .pointer (some ⟨r, 0, none⟩)), (14, .agg #[.int .i64 t_.1, .int .i64 t_1.1])]) (obs := []) rfl (by kernel_rfl) trivial fun a hE => ?_
  refine WR.eff0 hE rfl rfl rfl (OpTo.store hE H.t1 rfl rfl rfl rfl rfl rfl (Nat.le_of_ble_eq_true rfl)) ?_
  rintro _ w H a hE
  refine WR.done rfl ?_
  refine Runs.retO (vs := [.agg #[.int .i64 t_.1, .int .i64 t_1.1]]) (obs := [.cell ⟨r, 0, none⟩ (.int .i64 t_.1), .cell ⟨r, 1, none⟩ (.int .i64 t_1.1)]) hE Tryz.func87 rfl [.int .i64 t_.1, .int .i64 t_1.1] (by kernel_rfl) ⟨H.cell 0 rfl rfl, H.cell 0 rfl rfl, trivial⟩ ?_
  cases hm
  exact ⟨rfl, (by simp only [hf2, hf3, hf, hf1]), (by simp only [hf2, hf3, hf, hf1]), H.x0⟩

theorem cmp_isNaN_int64_ok {w0 w : World} {As : List HP} {x : Int} {t : Bool}  (hm : cmp_isNaN_int64 x = some t) (H : St w0 (As) w) :
    CallsR Tryz.prog 117 #[.int .i64 x] w fun v w' => v = .bool t ∧ St w0 (As) w' := by
  rw [cmp_isNaN_int64] at hm
  refine enter (args := [.int .i64 x]) Tryz.func117 rfl rfl rfl fun a hE => ?_
  refine Runs.seq ?_
  refine Runs.region ?_
  refine WR.seg hE 1 [] [0] (Lo := [(0, .int .i64 x)]) (obs := []) rfl (by kernel_rfl) trivial fun a hE => ?_
  refine WR.done rfl ?_
  refine Runs.seq ?_
  refine Runs.region ?_
  refine WR.seg hE 4 [] [2] (Lo := [(2, .bool (x != x))]) (obs := []) rfl (by kernel_rfl) trivial fun a hE => ?_
  refine WR.done rfl ?_
  refine Runs.ret hE Tryz.func117 rfl rfl ?_
  cases hm
  exact ⟨rfl, H⟩

theorem cmp_Compare_int64_ok {w0 w : World} {As : List HP} {x : Int} {y : Int} {t : Int}  (hm : cmp_Compare_int64 x y = some t) (H : St w0 (As) w) :
    CallsR Tryz.prog 108 #[.int .i64 x, .int .i64 y] w fun v w' => v = .int .i64 t ∧ St w0 (As) w' := by
  rw [cmp_Compare_int64] at hm
  refine enter (args := [.int .i64 x, .int .i64 y]) Tryz.func108 rfl rfl rfl fun a hE => ?_
  refine Runs.seq ?_
  refine Runs.region ?_
  refine WR.seg hE 1 [] [0, 1] (Lo := [(0, .int .i64 x), (1, .int .i64 y)]) (obs := []) rfl (by kernel_rfl) trivial fun a hE => ?_
  refine WR.done rfl ?_
  refine Runs.seq ?_
  refine Runs.region ?_
  refine WR.seg hE 1 [] [0, 1, 7] (Lo := [(0, .int .i64 x), (1, .int .i64 y), (7, .int .i64 x)]) (obs := []) rfl (by kernel_rfl) trivial fun a hE => ?_
  obtain ⟨t_, et_, hm⟩ := bind_some hm
  refine WR.eff hE rfl rfl rfl rfl (OpTo.fn hE rfl rfl Tryz.call117 (cmp_isNaN_int64_ok et_ H)) ?_
  rintro _ w ⟨rfl, H⟩ a hE
  refine WR.seg hE 3 [] [0, 1, 5] (Lo := [(0, .int .i64 x), (1, .int .i64 y), (5, .bool t_)]) (obs := []) rfl (by kernel_rfl) trivial fun a hE => ?_
  refine WR.done rfl ?_
  refine Runs.seq ?_
  refine Runs.region ?_
  refine WR.seg hE 1 [] [0, 1, 5, 9] (Lo := [(0, .int .i64 x), (1, .int .i64 y), (5, .bool t_), (9, .int .i64 y)]) (obs := []) rfl (by kernel_rfl) trivial fun a hE => ?_
  obtain ⟨t_1, et_1, hm⟩ := bind_some hm
  refine WR.eff hE rfl rfl rfl rfl (OpTo.fn hE rfl rfl Tryz.call117 (cmp_isNaN_int64_ok et_1 H)) ?_
  rintro _ w ⟨rfl, H⟩ a hE
  refine WR.seg hE 3 [] [0, 1, 5, 6] (Lo := [(0, .int .i64 x), (1, .int .i64 y), (5, .bool t_), (6, .bool t_1)]) (obs := []) rfl (by kernel_rfl) trivial fun a hE => ?_
  refine WR.done rfl ?_
  refine Runs.seq ?_
  refine Runs.seq ?_
  refine Runs.region ?_
  refine WR.seg hE 1 [] [0, 1, 6, 11] (Lo := [(0, .int .i64 x), (1, .int .i64 y), (6, .bool t_1), (11, .bool t_)]) (obs := []) rfl (by kernel_rfl) trivial fun a hE => ?_
  refine WR.done rfl ?_
  refine Runs.cond hE rfl (fun c => ?_) (fun c => ?_)
  · replace hm := cond_t c hm
    refine Runs.seq ?_
    refine Runs.seq ?_
    refine Runs.region ?_
    refine WR.seg hE 1 [] [12] (Lo := [(12, .bool t_1)]) (obs := []) rfl (by kernel_rfl) trivial fun a hE => ?_
    refine WR.done rfl ?_
    refine Runs.cond hE rfl (fun c => ?_) (fun c => ?_)
    · replace hm := cond_t c hm
      refine Runs.seq ?_
      refine Runs.region ?_
      refine WR.seg hE 1 [] [4] (Lo := [(4, .int .i64 0)]) (obs := []) rfl (by kernel_rfl) trivial fun a hE => ?_
      refine WR.done rfl ?_
      refine Runs.ret hE Tryz.func108 rfl rfl ?_
      cases hm
      exact ⟨rfl, H⟩
    · replace hm := cond_f c hm
      refine Runs.skip ?_
      refine Runs.seq ?_
      refine Runs.region ?_
      refine WR.seg hE 1 [] [4] (Lo := [(4, .int .i64 (-1))]) (obs := []) rfl (by kernel_rfl) trivial fun a hE => ?_
      refine WR.done rfl ?_
      refine Runs.ret hE Tryz.func108 rfl rfl ?_
      cases hm
      exact ⟨rfl, H⟩
  · replace hm := cond_f c hm
    refine Runs.skip ?_
    refine Runs.seq ?_
    refine Runs.seq ?_
    refine Runs.region ?_
    refine WR.seg hE 1 [] [0, 1, 13] (Lo := [(0, .int .i64 x), (1, .int .i64 y), (13, .bool t_1)]) (obs := []) rfl (by kernel_rfl) trivial fun a hE => ?_
    refine WR.done rfl ?_
    refine Runs.cond hE rfl (fun c => ?_) (fun c => ?_)
    · replace hm := cond_t c hm
      refine Runs.seq ?_
      refine Runs.region ?_
      refine WR.seg hE 1 [] [4] (Lo := [(4, .int .i64 1)]) (obs := []) rfl (by kernel_rfl) trivial fun a hE => ?_
      refine WR.done rfl ?_
      refine Runs.ret hE Tryz.func108 rfl rfl ?_
      cases hm
      exact ⟨rfl, H⟩
    · replace hm := cond_f c hm
      refine Runs.skip ?_
      refine Runs.seq ?_
      refine Runs.seq ?_
      refine Runs.region ?_
      refine WR.seg hE 3 [] [0, 1, 16] (Lo := [(0, .int .i64 x), (1, .int .i64 y), (16, .bool (decide (x < y)))]) (obs := []) rfl (by kernel_rfl) trivial fun a hE => ?_
      refine WR.done rfl ?_
      refine Runs.cond hE rfl (fun c => ?_) (fun c => ?_)
      · replace hm := cond_t c hm
        refine Runs.seq ?_
        refine Runs.region ?_
        refine WR.seg hE 1 [] [4] (Lo := [(4, .int .i64 (-1))]) (obs := []) rfl (by kernel_rfl) trivial fun a hE => ?_
        refine WR.done rfl ?_
        refine Runs.ret hE Tryz.func108 rfl rfl ?_
        cases hm
        exact ⟨rfl, H⟩
      · replace hm := cond_f c hm
        refine Runs.skip ?_
        refine Runs.seq ?_
        refine Runs.seq ?_
        refine Runs.region ?_
        refine WR.seg hE 3 [] [19] (Lo := [(19, .bool (decide (x > y)))]) (obs := []) rfl (by kernel_rfl) trivial fun a hE => ?_
        refine WR.done rfl ?_
        refine Runs.cond hE rfl (fun c => ?_) (fun c => ?_)
        · replace hm := cond_t c hm
          refine Runs.seq ?_
          refine Runs.region ?_
          refine WR.seg hE 1 [] [4] (Lo := [(4, .int .i64 1)]) (obs := []) rfl (by kernel_rfl) trivial fun a hE => ?_
          refine WR.done rfl ?_
          refine Runs.ret hE Tryz.func108 rfl rfl ?_
          cases hm
          exact ⟨rfl, H⟩
        · replace hm := cond_f c hm
          refine Runs.skip ?_
          refine Runs.seq ?_
          refine Runs.region ?_
          refine WR.seg hE 1 [] [4] (Lo := [(4, .int .i64 0)]) (obs := []) rfl (by kernel_rfl) trivial fun a hE => ?_
          refine WR.done rfl ?_
          refine Runs.ret hE Tryz.func108 rfl rfl ?_
          cases hm
          exact ⟨rfl, H⟩

theorem cmp_Or_int_ok {w0 w : World} {As : List HP} {k : Nat} {sb_vals : Option Addr} {sc_vals : Nat} {vals : List Int} {X_vals : HP} {t : Int} (hX_vals : SlRd X_vals ecI 1 sb_vals vals) (hC_vals : vals.length ≤ sc_vals) (hm : cmp_Or_int k vals = some t) (H : St w0 (X_vals :: As) w) :
    CallsR Tryz.prog 107 #[.slice sb_vals vals.length sc_vals] w fun v w' => v = .int .i64 t ∧ St w0 (X_vals :: As) w' := by
  rw [cmp_Or_int] at hm
  refine enter (args := [.slice sb_vals vals.length sc_vals]) Tryz.func107 rfl rfl rfl fun a hE => ?_
  refine Runs.seq ?_
  refine Runs.region ?_
  refine WR.seg hE 1 [] [0] (Lo := [(0, .slice sb_vals vals.length sc_vals)]) (obs := []) rfl (by kernel_rfl) trivial fun a hE => ?_
  refine WR.done rfl ?_
  refine Runs.seq ?_
  refine Runs.region ?_
  refine WR.seg hE 1 [] [0, 3] (Lo := [(0, .slice sb_vals vals.length sc_vals), (3, .int .i64 0)]) (obs := []) rfl (by kernel_rfl) trivial fun a hE => ?_
  refine WR.done rfl ?_
  refine Runs.seq ?_
  refine Runs.seq ?_
  refine Runs.region ?_
  refine WR.seg hE 3 [] [3, 6, 7, 8] (Lo := [(3, .int .i64 0), (6, .slice sb_vals vals.length sc_vals), (7, .int .i64 (vals.length : Int)), (8, .int .i64 0)]) (obs := []) rfl (by kernel_rfl) trivial fun a hE => ?_
  refine WR.done rfl ?_
  obtain ⟨s, es, hR⟩ := bind_some hm
  refine Runs.join (fun a w => ∃ s1, s = Sum.inr s1 ∧ EnvOk 18 a [(3, .int .i64 0)] ∧ St w0 (X_vals :: As) w) (fun hk => ?_) ?_
  · replace hm := es; clear es
    refine Runs.block ?_
    refine Runs.loop (fun m a w => ∃ (x : Int), EnvOk 18 a [(3, .int .i64 0), (6, .slice sb_vals vals.length sc_vals), (7, .int .i64 (vals.length : Int)), (8, .int .i64 x)] ∧ St w0 (X_vals :: As) w ∧ cmp_Or_int_l0 (vals.length : Int) vals m x = some s) k ⟨0, hE.sel [3, 6, 7, 8] (by kernel_rfl), H, hm⟩ ?_
    rintro m ih a w ⟨x, hE, H, hm⟩
    cases m with
    | zero => simp [cmp_Or_int_l0] at hm
    | succ m =>
      rw [cmp_Or_int_l0] at hm
      refine Runs.seq ?_
      refine Runs.region ?_
      refine WR.seg hE 1 [] [3, 6, 7, 8, 9] (Lo := [(3, .int .i64 0), (6, .slice sb_vals vals.length sc_vals), (7, .int .i64 (vals.length : Int)), (8, .int .i64 x), (9, .bool (decide (x < (vals.length : Int))))]) (obs := []) rfl (by kernel_rfl) trivial fun a hE => ?_
      refine WR.done rfl ?_
      refine Runs.seq ?_
      refine Runs.cond hE rfl (fun c => ?_) (fun c => ?_)
      · replace hm := cond_t c hm
        refine Runs.skip ?_
        refine Runs.seq ?_
        refine Runs.block ?_
        refine Runs.seq ?_
        refine Runs.region ?_
        obtain ⟨x2, ex2, hm⟩ := bind_some hm
        obtain ⟨b, o, hs, hb⟩ := SlRd.base hX_vals ecI_ok H 0 rfl ex2
        refine WR.seg hE 3 [.pointer (some ⟨b, o, none⟩), .int .i64 x2] [3, 5, 6, 7, 8] (Lo := [(3, .int .i64 0), (5, .int .i64 x2), (6, .slice sb_vals vals.length sc_vals), (7, .int .i64 (vals.length : Int)), (8, .int .i64 x)]) (obs := [.p ((sb_vals : Option Addr) = some ⟨b, o, none⟩), .p (0 ≤ (x : Int) ∧ (x : Int) < ((vals.length : Nat) : Int)), .cell ⟨b, o + (Int.toNat x) * 1, none⟩ (.int .i64 x2)]) rfl (by kernel_rfl) ⟨hs, hb, SlRd.cells hX_vals ecI_ok H 0 rfl hs ex2 0 _ rfl, trivial⟩ fun a hE => ?_
        refine WR.done rfl ?_
        refine Runs.seq ?_
        refine Runs.region ?_
        refine WR.seg hE 3 [] [3, 5, 6, 7, 8, 14] (Lo := [(3, .int .i64 0), (5, .int .i64 x2), (6, .slice sb_vals vals.length sc_vals), (7, .int .i64 (vals.length : Int)), (8, .int .i64 x), (14, .bool (x2 != 0))]) (obs := []) rfl (by kernel_rfl) trivial fun a hE => ?_
        refine WR.done rfl ?_
        refine Runs.cond hE rfl (fun c => ?_) (fun c => ?_)
        · replace hm := cond_t c hm
          refine Runs.seq ?_
          refine Runs.region ?_
          refine WR.seg hE 2 [] [2] (Lo := [(2, .int .i64 x2)]) (obs := []) rfl (by kernel_rfl) trivial fun a hE => ?_
          refine WR.done rfl ?_
          refine Runs.ret hE Tryz.func107 rfl rfl ?_
          cases hm
          dsimp only at hR; cases hR
          exact ⟨rfl, H⟩
        · replace hm := cond_f c hm
          refine Runs.skip ?_
          refine Runs.inBlock ?_
          refine Runs.region ?_
          refine WR.seg hE 2 [] [3, 6, 7, 8] (Lo := [(3, .int .i64 0), (6, .slice sb_vals vals.length sc_vals), (7, .int .i64 (vals.length : Int)), (8, .int .i64 (w64 (x + 1)))]) (obs := []) rfl (by kernel_rfl) trivial fun a hE => ?_
          refine WR.done rfl ?_
          exact ih m (Nat.lt_succ_self m) _ _ ⟨w64 (x + 1), hE.sel [3, 6, 7, 8] (by kernel_rfl), H, hm⟩
      · replace hm := cond_f c hm
        refine Runs.exit rfl ?_
        cases hm
        exact hk _ _ ⟨_, rfl, hE.sel [3] (by kernel_rfl), H⟩
  rintro a w ⟨s1, rfl, hE, H⟩
  replace hm := hR; dsimp only at hm
  refine Runs.seq ?_
  refine Runs.region ?_
  refine WR.seg hE 2 [] [2] (Lo := [(2, .int .i64 0)]) (obs := []) rfl (by kernel_rfl) trivial fun a hE => ?_
  refine WR.done rfl ?_
  refine Runs.ret hE Tryz.func107 rfl rfl ?_
  cases hm
  exact ⟨rfl, H⟩

theorem order_Compare_ok {w0 w : World} {As : List HP} {k : Nat} {a_ : api_Entry} {b : api_Entry} {t : Int}  (hm : order_Compare k a_ b = some t) (H : St w0 (As) w) :
    CallsR Tryz.prog 92 #[.agg #[.int .i64 a_.Key, .int .i64 a_.Serial], .agg #[.int .i64 b.Key, .int .i64 b.Serial]] w fun v w' => v = .int .i64 t ∧ St w0 (As) w' := by
  rw [order_Compare] at hm
  refine enter (args := [.agg #[.int .i64 a_.Key, .int .i64 a_.Serial], .agg #[.int .i64 b.Key, .int .i64 b.Serial]]) Tryz.func92 rfl rfl rfl fun a hE => ?_
  refine Runs.seq ?_
  refine Runs.region ?_
  refine WR.eff hE rfl rfl rfl rfl (OpTo.new hE H [] (.cells #[.int .i64 a_.Key, .int .i64 a_.Serial] 46 (0, 0)) (fun r => .pointer (some ⟨r, 0, none⟩)) (obs := []) rfl (fun _ => by kernel_rfl) trivial) ?_
  rintro _ w ⟨r, rfl, H⟩ a hE
  refine WR.eff hE rfl rfl rfl rfl (OpTo.new hE H [] (.cells #[.int .i64 b.Key, .int .i64 b.Serial] 46 (0, 0)) (fun r => .pointer (some ⟨r, 0, none⟩)) (obs := []) rfl (fun _ => by kernel_rfl) trivial) ?_
  rintro _ w ⟨r1, rfl, H⟩ a hE
  refine WR.seg hE 3 [] [2, 3] (Lo := [(2, .pointer (some ⟨r, 0, none⟩)), (3, .pointer (some ⟨r1, 0, none⟩))]) (obs := []) rfl (by kernel_rfl) trivial fun a hE => ?_
  refine WR.done rfl ?_
  refine Runs.seq ?_
  refine Runs.drawn mixed (by kernel_rfl) ?_
  replace H := H.drew
  refine WQ.seg hE [0, 1, 2, 3, 5, 6, 7, 8] [.int .i64 a_.Key, .int .i64 b.Key, .int .i64 a_.Serial, .int .i64 b.Serial] [6, 8, 11, 13] (Lo := [(6, .int .i64 a_.Key), (8, .int .i64 b.Key), (11, .int .i64 a_.Serial), (13, .int .i64 b.Serial)]) (obs := [.cell ⟨r, 0, none⟩ (.int .i64 a_.Key), .cell ⟨r1, 0, none⟩ (.int .i64 b.Key), .cell ⟨r, 1, none⟩ (.int .i64 a_.Serial), .cell ⟨r1, 1, none⟩ (.int .i64 b.Serial)]) (by kernel_rfl) (by kernel_rfl) ⟨H.cell 1 rfl rfl, H.cell 0 rfl rfl, H.cell 1 rfl rfl, H.cell 0 rfl rfl, trivial⟩ fun a hE => ?_
  obtain ⟨t_, et_, hm⟩ := bind_some hm
  refine WQ.eff (j := 4) (obs := [.cell ⟨r1, 1, none⟩ (.int .i64 b.Serial), .cell ⟨r, 1, none⟩ (.int .i64 a_.Serial)]) hE (by kernel_rfl) rfl rfl rfl rfl (by kernel_rfl) (OpTo.fn hE rfl rfl Tryz.call108 (cmp_Compare_int64_ok et_ H)) ?_
  rintro _ w ⟨rfl, H⟩
  refine ⟨⟨H.cell 0 rfl rfl, H.cell 1 rfl rfl, trivial⟩, fun a hE => ?_⟩
  obtain ⟨t_1, et_1, hm⟩ := bind_some hm
  refine WQ.eff (j := 9) (obs := []) hE (by kernel_rfl) rfl rfl rfl rfl (by kernel_rfl) (OpTo.fn hE rfl rfl Tryz.call108 (cmp_Compare_int64_ok et_1 H)) ?_
  rintro _ w ⟨rfl, H⟩
  refine ⟨trivial, fun a hE => ?_⟩
  refine WQ.eff (j := 10) (obs := []) hE (by kernel_rfl) rfl rfl rfl rfl (by kernel_rfl) (OpTo.buildSl (T := 3) hE H ecI_ok ([t_, t_1] : List Int) rfl (fun _ => by kernel_rfl) rfl rfl rfl) ?_
  rintro _ w ⟨r2, rfl, H⟩
  refine ⟨trivial, fun a hE => ?_⟩
  obtain ⟨t_2, et_2, hm⟩ := bind_some hm
  refine WQ.eff (j := 11) (obs := []) hE (by kernel_rfl) rfl rfl rfl rfl (by kernel_rfl) (OpTo.fn hE rfl rfl Tryz.call107 (cmp_Or_int_ok (hX_vals := (sl_rd 3 ecI 1 _ _ _)) (hC_vals := (H.slCap 0 rfl).1) et_2 H)) ?_
  rintro _ w ⟨rfl, H⟩
  refine ⟨trivial, fun a hE => ?_⟩
  refine WQ.seg hE [12] [] [4] (Lo := [(4, .int .i64 t_2)]) (obs := []) (by kernel_rfl) (by kernel_rfl) trivial fun a hE => ?_
  refine WQ.done (by kernel_rfl) ?_
  refine Runs.ret hE Tryz.func92 rfl rfl ?_
  cases hm
  exact ⟨rfl, H.x2.x1.x0⟩

theorem item_Before_ok {w0 w : World} {As : List HP} {k : Nat} {p_a_ : Nat} {al_a_ : arena_Arena.A} {a_ : arena_Arena} {i : Int} {j : Int} {t : Bool × arena_Arena}  (hm : item_Before k a_ i j = some t) (H : St w0 (arena_Arena.R p_a_ al_a_ a_ :: As) w) :
    CallsR Tryz.prog 83 #[.pointer (some ⟨p_a_, 0, none⟩), .int .i64 i, .int .i64 j] w fun v w' => v = .bool t.1 ∧ t.2.free = a_.free ∧ t.2.l = a_.l ∧ St w0 (arena_Arena.R p_a_ al_a_ t.2 :: As) w' := by
  rw [item_Before] at hm
  refine enter (args := [.pointer (some ⟨p_a_, 0, none⟩), .int .i64 i, .int .i64 j]) Tryz.func83 rfl rfl rfl fun a hE => ?_
  refine Runs.seq ?_
  refine Runs.region ?_
  refine WR.seg hE 1 [] [0, 1, 2] (Lo := [(0, .pointer (some ⟨p_a_, 0, none⟩)), (1, .int .i64 i), (2, .int .i64 j)]) (obs := []) rfl (by kernel_rfl) trivial fun a hE => ?_
  refine WR.done rfl ?_
  refine Runs.seq ?_
  refine Runs.region ?_
  refine WR.seg hE 2 [] [0, 1, 2, 8, 9] (Lo := [(0, .pointer (some ⟨p_a_, 0, none⟩)), (1, .int .i64 i), (2, .int .i64 j), (8, .pointer (some ⟨p_a_, 0, none⟩)), (9, .int .i64 i)]) (obs := []) rfl (by kernel_rfl) trivial fun a hE => ?_
  obtain ⟨t_, et_, hm⟩ := bind_some hm
  refine WR.eff hE rfl rfl rfl rfl (OpTo.fn hE rfl rfl Tryz.call87 (item_Entry_ok et_ H)) ?_
  rintro _ w ⟨rfl, hf1, hf, H⟩ a hE
  refine WR.seg hE 5 [] [1, 2, 10, 11, 12] (Lo := [(1, .int .i64 i), (2, .int .i64 j), (10, .agg #[.int .i64 t_.1.Key, .int .i64 t_.1.Serial]), (11, .pointer (some ⟨p_a_, 0, none⟩)), (12, .int .i64 j)]) (obs := []) rfl (by kernel_rfl) trivial fun a hE => ?_
  obtain ⟨t_1, et_1, hm⟩ := bind_some hm
  refine WR.eff hE rfl rfl rfl rfl (OpTo.fn hE rfl rfl Tryz.call87 (item_Entry_ok et_1 H)) ?_
  rintro _ w ⟨rfl, hf3, hf2, H⟩ a hE
  obtain ⟨t_2, et_2, hm⟩ := bind_some hm
  refine WR.eff hE rfl rfl rfl rfl (OpTo.fn hE rfl rfl Tryz.call92 (order_Compare_ok et_2 H)) ?_
  rintro _ w ⟨rfl, H⟩ a hE
  refine WR.seg hE 8 [] [1, 2, 7] (Lo := [(1, .int .i64 i), (2, .int .i64 j), (7, .int .i64 t_2)]) (obs := []) rfl (by kernel_rfl) trivial fun a hE => ?_
  refine WR.done rfl ?_
  refine Runs.seq ?_
  refine Runs.join (fun a w => EnvOk 26 a [(6, .bool ((decide (t_2 < 0)) || ((t_2 == 0) && (decide (i < j)))))] ∧ St w0 (arena_Arena.R p_a_ al_a_ t_1.2 :: As) w) (fun hk => ?_) ?_
  · clear hm
    refine Runs.region ?_
    refine WR.seg hE 3 [] [1, 2, 7, 17] (Lo := [(1, .int .i64 i), (2, .int .i64 j), (7, .int .i64 t_2), (17, .bool (decide (t_2 < 0)))]) (obs := []) rfl (by kernel_rfl) trivial fun a hE => ?_
    rcases Bool.eq_false_or_eq_true (decide (t_2 < 0)) with c | c
    · replace hE := hE.dec 17 c (by kernel_rfl)
      have c_ := c
      refine WR.seg hE 12 [] [6] (Lo := [(6, .bool true)]) (obs := []) rfl (by kernel_rfl) trivial fun a hE => ?_
      refine WR.done rfl ?_
      refine hk _ _ ⟨?_, H⟩
      try rw [c_] at hE
      try rw [c_]
      exact hE.sel [6] (by kernel_rfl)
    · replace hE := hE.dec 17 c (by kernel_rfl)
      have c_1 := c
      refine WR.seg hE 6 [] [1, 2, 17, 20] (Lo := [(1, .int .i64 i), (2, .int .i64 j), (17, .bool false), (20, .bool (t_2 == 0))]) (obs := []) rfl (by kernel_rfl) trivial fun a hE => ?_
      rcases Bool.eq_false_or_eq_true (t_2 == 0) with c | c
      · replace hE := hE.dec 20 c (by kernel_rfl)
        have c_2 := c
        refine WR.seg hE 12 [] [6] (Lo := [(6, .bool (decide (i < j)))]) (obs := []) rfl (by kernel_rfl) trivial fun a hE => ?_
        refine WR.done rfl ?_
        refine hk _ _ ⟨?_, H⟩
        try rw [c_1] at hE
        try rw [c_1]
        try rw [c_2] at hE
        try rw [c_2]
        exact hE.sel [6] (by kernel_rfl)
      · replace hE := hE.dec 20 c (by kernel_rfl)
        have c_3 := c
        refine WR.seg hE 12 [] [6] (Lo := [(6, .bool false)]) (obs := []) rfl (by kernel_rfl) trivial fun a hE => ?_
        refine WR.done rfl ?_
        refine hk _ _ ⟨?_, H⟩
        try rw [c_1] at hE
        try rw [c_1]
        try rw [c_3] at hE
        try rw [c_3]
        exact hE.sel [6] (by kernel_rfl)
  rintro a w ⟨hE, H⟩
  refine Runs.ret hE Tryz.func83 rfl rfl ?_
  cases hm
  exact ⟨rfl, (by simp only [hf2, hf3, hf, hf1]), (by simp only [hf2, hf3, hf, hf1]), H⟩

theorem node_Before_ok {w0 w : World} {As : List HP} {k : Nat} {p_a_ : Nat} {al_a_ : arena_Arena.A} {a_ : arena_Arena} {n : Int} {m_ : Int} {t : Bool × arena_Arena}  (hm : node_Before k a_ n m_ = some t) (H : St w0 (arena_Arena.R p_a_ al_a_ a_ :: As) w) :
    CallsR Tryz.prog 62 #[.pointer (some ⟨p_a_, 0, none⟩), .int .i64 n, .int .i64 m_] w fun v w' => v = .bool t.1 ∧ St w0 (arena_Arena.R p_a_ al_a_ t.2 :: As) w' := by
  rw [node_Before] at hm
  refine enter (args := [.pointer (some ⟨p_a_, 0, none⟩), .int .i64 n, .int .i64 m_]) Tryz.func62 rfl rfl rfl fun a hE => ?_
  refine Runs.seq ?_
  refine Runs.region ?_
  refine WR.seg hE 1 [] [0, 1, 2] (Lo := [(0, .pointer (some ⟨p_a_, 0, none⟩)), (1, .int .i64 n), (2, .int .i64 m_)]) (obs := []) rfl (by kernel_rfl) trivial fun a hE => ?_
  refine WR.done rfl ?_
  refine Runs.seq ?_
  refine Runs.region ?_
  refine WR.seg hE 3 [] [0, 2, 7, 8, 9] (Lo := [(0, .pointer (some ⟨p_a_, 0, none⟩)), (2, .int .i64 m_), (7, .pointer (some ⟨p_a_, 0, none⟩)), (8, .pointer (some ⟨p_a_, 0, none⟩)), (9, .int .i64 n)]) (obs := []) rfl (by kernel_rfl) trivial fun a hE => ?_
  obtain ⟨t_, et_, hm⟩ := bind_some hm
  refine WR.eff hE rfl rfl rfl rfl (OpTo.fn hE rfl rfl Tryz.call45 (arena_Arena_Cell_ok et_ H)) ?_
  rintro _ w ⟨rfl, H⟩ a hE
  refine WR.seg hE 6 [] [7, 10, 11, 12] (Lo := [(7, .pointer (some ⟨p_a_, 0, none⟩)), (10, .int .i64 t_.1), (11, .pointer (some ⟨p_a_, 0, none⟩)), (12, .int .i64 m_)]) (obs := []) rfl (by kernel_rfl) trivial fun a hE => ?_
  obtain ⟨t_1, et_1, hm⟩ := bind_some hm
  refine WR.eff hE rfl rfl rfl rfl (OpTo.fn hE rfl rfl Tryz.call45 (arena_Arena_Cell_ok et_1 H)) ?_
  rintro _ w ⟨rfl, H⟩ a hE
  obtain ⟨t_2, et_2, hm⟩ := bind_some hm
  refine WR.eff hE rfl rfl rfl rfl (OpTo.fn hE rfl rfl Tryz.call83 (item_Before_ok et_2 H)) ?_
  rintro _ w ⟨rfl, hf1, hf, H⟩ a hE
  refine WR.seg hE 9 [] [6] (Lo := [(6, .bool t_2.1)]) (obs := []) rfl (by kernel_rfl) trivial fun a hE => ?_
  refine WR.done rfl ?_
  refine Runs.ret hE Tryz.func62 rfl rfl ?_
  cases hm
  exact ⟨rfl, H⟩

theorem trees_Under_ok {w0 w : World} {As : List HP} {p_a_ : Nat} {al_a_ : arena_Arena.A} {a_ : arena_Arena} {n : Int} {up : Int} {t : arena_Arena}  (hm : trees_Under a_ n up = some t) (H : St w0 (arena_Arena.R p_a_ al_a_ a_ :: As) w) :
    CallsR Tryz.prog 64 #[.pointer (some ⟨p_a_, 0, none⟩), .int .i64 n, .int .i64 up] w fun v w' => v = .tuple #[] ∧ St w0 (arena_Arena.R p_a_ al_a_ t :: As) w' := by
  rw [trees_Under] at hm
  refine enter (args := [.pointer (some ⟨p_a_, 0, none⟩), .int .i64 n, .int .i64 up]) Tryz.func64 rfl rfl rfl fun a hE => ?_
  refine Runs.seq ?_
  refine Runs.region ?_
  refine WR.seg hE 4 [] [0, 1, 2, 6, 7, 8, 9] (Lo := [(0, .pointer (some ⟨p_a_, 0, none⟩)), (1, .int .i64 n), (2, .int .i64 up), (6, .pointer (some ⟨p_a_, 0, none⟩)), (7, .int .i64 n), (8, .pointer (some ⟨p_a_, 0, none⟩)), (9, .int .i64 up)]) (obs := []) rfl (by kernel_rfl) trivial fun a hE => ?_
  obtain ⟨t_, et_, hm⟩ := bind_some hm
  refine WR.eff hE rfl rfl rfl rfl (OpTo.fn hE rfl rfl Tryz.call45 (arena_Arena_Cell_ok et_ H)) ?_
  rintro _ w ⟨rfl, H⟩ a hE
  obtain ⟨t_1, et_1, hm⟩ := bind_some hm
  refine WR.eff hE rfl rfl rfl rfl (OpTo.fn hE rfl rfl Tryz.call39 (arena_Arena_Set_ok et_1 H)) ?_
  rintro _ w ⟨rfl, hf, H⟩ a hE
  refine WR.done rfl ?_
  refine Runs.seq ?_
  refine Runs.region ?_
  refine WR.seg hE 3 [] [0, 1, 2, 12, 13, 14] (Lo := [(0, .pointer (some ⟨p_a_, 0, none⟩)), (1, .int .i64 n), (2, .int .i64 up), (12, .pointer (some ⟨p_a_, 0, none⟩)), (13, .int .i64 n), (14, .int .i64 up)]) (obs := []) rfl (by kernel_rfl) trivial fun a hE => ?_
  obtain ⟨t_2, et_2, hm⟩ := bind_some hm
  refine WR.eff hE rfl rfl rfl rfl (OpTo.fn hE rfl rfl Tryz.call39 (arena_Arena_Set_ok et_2 H)) ?_
  rintro _ w ⟨rfl, hf1, H⟩ a hE
  refine WR.done rfl ?_
  refine Runs.region ?_
  refine WR.seg hE 3 [] [16, 17, 18] (Lo := [(16, .pointer (some ⟨p_a_, 0, none⟩)), (17, .int .i64 up), (18, .int .i64 n)]) (obs := []) rfl (by kernel_rfl) trivial fun a hE => ?_
  obtain ⟨t_3, et_3, hm⟩ := bind_some hm
  refine WR.eff hE rfl rfl rfl rfl (OpTo.fn hE rfl rfl Tryz.call39 (arena_Arena_Set_ok et_3 H)) ?_
  rintro _ w ⟨rfl, hf2, H⟩ a hE
  refine WR.done rfl ?_
  refine Runs.fin hE Tryz.func64 rfl rfl ?_
  cases hm
  exact ⟨rfl, H⟩

theorem trees_Link_ok {w0 w : World} {As : List HP} {k : Nat} {p_a_ : Nat} {al_a_ : arena_Arena.A} {a_ : arena_Arena} {n : Int} {m_ : Int} {rank : Int} {t : Int × arena_Arena}  (hm : trees_Link k a_ n m_ rank = some t) (H : St w0 (arena_Arena.R p_a_ al_a_ a_ :: As) w) :
    CallsR Tryz.prog 61 #[.pointer (some ⟨p_a_, 0, none⟩), .int .i64 n, .int .i64 m_, .int .i64 rank] w fun v w' => v = .int .i64 t.1 ∧ St w0 (arena_Arena.R p_a_ al_a_ t.2 :: As) w' := by
  rw [trees_Link] at hm
  refine enter (args := [.pointer (some ⟨p_a_, 0, none⟩), .int .i64 n, .int .i64 m_, .int .i64 rank]) Tryz.func61 rfl rfl rfl fun a hE => ?_
  refine Runs.seq ?_
  refine Runs.region ?_
  refine WR.seg hE 1 [] [0, 1, 2, 3] (Lo := [(0, .pointer (some ⟨p_a_, 0, none⟩)), (1, .int .i64 n), (2, .int .i64 m_), (3, .int .i64 rank)]) (obs := []) rfl (by kernel_rfl) trivial fun a hE => ?_
  refine WR.done rfl ?_
  refine Runs.seq ?_
  refine Runs.seq ?_
  refine Runs.region ?_
  refine WR.seg hE 3 [] [0, 1, 2, 3, 9, 10, 11] (Lo := [(0, .pointer (some ⟨p_a_, 0, none⟩)), (1, .int .i64 n), (2, .int .i64 m_), (3, .int .i64 rank), (9, .pointer (some ⟨p_a_, 0, none⟩)), (10, .int .i64 m_), (11, .int .i64 n)]) (obs := []) rfl (by kernel_rfl) trivial fun a hE => ?_
  obtain ⟨t_, et_, hm⟩ := bind_some hm
  refine WR.eff hE rfl rfl rfl rfl (OpTo.fn hE rfl rfl Tryz.call62 (node_Before_ok et_ H)) ?_
  rintro _ w ⟨rfl, H⟩ a hE
  refine WR.done rfl ?_
  obtain ⟨s, es, hm⟩ := bind_some hm
  refine Runs.join (fun a w => EnvOk 25 a [(0, .pointer (some ⟨p_a_, 0, none⟩)), (1, .int .i64 s.1), (2, .int .i64 s.2), (3, .int .i64 rank)] ∧ St w0 (arena_Arena.R p_a_ al_a_ t_.2 :: As) w) (fun hk => ?_) ?_
  · replace hm := es; clear es
    refine Runs.cond hE rfl (fun c => ?_) (fun c => ?_)
    · replace hm := cond_t c hm
      refine Runs.region ?_
      refine WR.seg hE 4 [] [0, 1, 2, 3] (Lo := [(0, .pointer (some ⟨p_a_, 0, none⟩)), (1, .int .i64 m_), (2, .int .i64 n), (3, .int .i64 rank)]) (obs := []) rfl (by kernel_rfl) trivial fun a hE => ?_
      refine WR.done rfl ?_
      cases hm
      exact hk _ _ ⟨hE.sel [0, 1, 2, 3] (by kernel_rfl), H⟩
    · replace hm := cond_f c hm
      refine Runs.skip ?_
      cases hm
      exact hk _ _ ⟨hE.sel [0, 1, 2, 3] (by kernel_rfl), H⟩
  rintro a w ⟨hE, H⟩
  refine Runs.seq ?_
  refine Runs.region ?_
  refine WR.seg hE 3 [] [0, 1, 3, 15, 16, 17] (Lo := [(0, .pointer (some ⟨p_a_, 0, none⟩)), (1, .int .i64 s.1), (3, .int .i64 rank), (15, .pointer (some ⟨p_a_, 0, none⟩)), (16, .int .i64 s.2), (17, .int .i64 s.1)]) (obs := []) rfl (by kernel_rfl) trivial fun a hE => ?_
  obtain ⟨t_1, et_1, hm⟩ := bind_some hm
  refine WR.eff hE rfl rfl rfl rfl (OpTo.fn hE rfl rfl Tryz.call64 (trees_Under_ok et_1 H)) ?_
  rintro _ w ⟨rfl, H⟩ a hE
  refine WR.done rfl ?_
  refine Runs.seq ?_
  refine Runs.region ?_
  refine WR.seg hE 4 [] [1, 19, 20, 22] (Lo := [(1, .int .i64 s.1), (19, .pointer (some ⟨p_a_, 0, none⟩)), (20, .int .i64 s.1), (22, .int .i64 (w64 (rank + 1)))]) (obs := []) rfl (by kernel_rfl) trivial fun a hE => ?_
  obtain ⟨t_2, et_2, hm⟩ := bind_some hm
  refine WR.eff hE rfl rfl rfl rfl (OpTo.fn hE rfl rfl Tryz.call39 (arena_Arena_Set_ok et_2 H)) ?_
  rintro _ w ⟨rfl, hf, H⟩ a hE
  refine WR.done rfl ?_
  refine Runs.seq ?_
  refine Runs.region ?_
  refine WR.seg hE 2 [] [8] (Lo := [(8, .int .i64 s.1)]) (obs := []) rfl (by kernel_rfl) trivial fun a hE => ?_
  refine WR.done rfl ?_
  refine Runs.ret hE Tryz.func61 rfl rfl ?_
  cases hm
  exact ⟨rfl, H⟩

theorem item_Swap_ok {w0 w : World} {As : List HP} {p_a_ : Nat} {al_a_ : arena_Arena.A} {a_ : arena_Arena} {n : Int} {m_ : Int} {t : arena_Arena}  (hm : item_Swap a_ n m_ = some t) (H : St w0 (arena_Arena.R p_a_ al_a_ a_ :: As) w) :
    CallsR Tryz.prog 63 #[.pointer (some ⟨p_a_, 0, none⟩), .int .i64 n, .int .i64 m_] w fun v w' => v = .tuple #[] ∧ St w0 (arena_Arena.R p_a_ al_a_ t :: As) w' := by
  rw [item_Swap] at hm
  refine enter (args := [.pointer (some ⟨p_a_, 0, none⟩), .int .i64 n, .int .i64 m_]) Tryz.func63 rfl rfl rfl fun a hE => ?_
  refine Runs.seq ?_
  refine Runs.seq ?_
  refine Runs.region ?_
  refine WR.seg hE 2 [] [0, 1, 2, 9] (Lo := [(0, .pointer (some ⟨p_a_, 0, none⟩)), (1, .int .i64 n), (2, .int .i64 m_), (9, .bool false)]) (obs := []) rfl (by kernel_rfl) trivial fun a hE => ?_
  refine WR.done rfl ?_
  refine Runs.condF hE rfl ?_
  refine Runs.skip ?_
  refine Runs.seq ?_
  refine Runs.region ?_
  refine WR.seg hE 2 [] [0, 1, 2, 10, 11] (Lo := [(0, .pointer (some ⟨p_a_, 0, none⟩)), (1, .int .i64 n), (2, .int .i64 m_), (10, .pointer (some ⟨p_a_, 0, none⟩)), (11, .int .i64 n)]) (obs := []) rfl (by kernel_rfl) trivial fun a hE => ?_
  obtain ⟨t_, et_, hm⟩ := bind_some hm
  refine WR.eff hE rfl rfl rfl rfl (OpTo.fn hE rfl rfl Tryz.call45 (arena_Arena_Cell_ok et_ H)) ?_
  rintro _ w ⟨rfl, H⟩ a hE
  refine WR.seg hE 5 [] [0, 1, 2, 12, 13, 14] (Lo := [(0, .pointer (some ⟨p_a_, 0, none⟩)), (1, .int .i64 n), (2, .int .i64 m_), (12, .int .i64 t_.1), (13, .pointer (some ⟨p_a_, 0, none⟩)), (14, .int .i64 m_)]) (obs := []) rfl (by kernel_rfl) trivial fun a hE => ?_
  obtain ⟨t_1, et_1, hm⟩ := bind_some hm
  refine WR.eff hE rfl rfl rfl rfl (OpTo.fn hE rfl rfl Tryz.call45 (arena_Arena_Cell_ok et_1 H)) ?_
  rintro _ w ⟨rfl, H⟩ a hE
  refine WR.seg hE 8 [] [0, 1, 2, 6, 7] (Lo := [(0, .pointer (some ⟨p_a_, 0, none⟩)), (1, .int .i64 n), (2, .int .i64 m_), (6, .int .i64 t_.1), (7, .int .i64 t_1.1)]) (obs := []) rfl (by kernel_rfl) trivial fun a hE => ?_
  refine WR.done rfl ?_
  refine Runs.seq ?_
  refine Runs.region ?_
  refine WR.seg hE 3 [] [0, 2, 6, 16, 17, 18] (Lo := [(0, .pointer (some ⟨p_a_, 0, none⟩)), (2, .int .i64 m_), (6, .int .i64 t_.1), (16, .pointer (some ⟨p_a_, 0, none⟩)), (17, .int .i64 n), (18, .int .i64 t_1.1)]) (obs := []) rfl (by kernel_rfl) trivial fun a hE => ?_
  obtain ⟨t_2, et_2, hm⟩ := bind_some hm
  refine WR.eff hE rfl rfl rfl rfl (OpTo.fn hE rfl rfl Tryz.call60 (item_Put_ok et_2 H)) ?_
  rintro _ w ⟨rfl, hf, H⟩ a hE
  refine WR.done rfl ?_
  refine Runs.region ?_
  refine WR.seg hE 3 [] [20, 21, 22] (Lo := [(20, .pointer (some ⟨p_a_, 0, none⟩)), (21, .int .i64 m_), (22, .int .i64 t_.1)]) (obs := []) rfl (by kernel_rfl) trivial fun a hE => ?_
  obtain ⟨t_3, et_3, hm⟩ := bind_some hm
  refine WR.eff hE rfl rfl rfl rfl (OpTo.fn hE rfl rfl Tryz.call60 (item_Put_ok et_3 H)) ?_
  rintro _ w ⟨rfl, hf1, H⟩ a hE
  refine WR.done rfl ?_
  refine Runs.fin hE Tryz.func63 rfl rfl ?_
  cases hm
  exact ⟨rfl, H⟩

theorem skew_single_ok {w0 w : World} {As : List HP} {k : Nat} {p_a_ : Nat} {al_a_ : arena_Arena.A} {a_ : arena_Arena} {r : Int} {n : Int} {t : Int × arena_Arena}  (hm : skew_single k a_ r n = some t) (H : St w0 (arena_Arena.R p_a_ al_a_ a_ :: As) w) :
    CallsR Tryz.prog 41 #[.pointer (some ⟨p_a_, 0, none⟩), .int .i64 r, .int .i64 n] w fun v w' => v = .int .i64 t.1 ∧ St w0 (arena_Arena.R p_a_ al_a_ t.2 :: As) w' := by
  rw [skew_single] at hm
  refine enter (args := [.pointer (some ⟨p_a_, 0, none⟩), .int .i64 r, .int .i64 n]) Tryz.func41 rfl rfl rfl fun a hE => ?_
  refine Runs.seq ?_
  refine Runs.region ?_
  refine WR.seg hE 1 [] [0, 1, 2] (Lo := [(0, .pointer (some ⟨p_a_, 0, none⟩)), (1, .int .i64 r), (2, .int .i64 n)]) (obs := []) rfl (by kernel_rfl) trivial fun a hE => ?_
  refine WR.done rfl ?_
  refine Runs.seq ?_
  refine Runs.region ?_
  refine WR.seg hE 1 [] [0, 1, 2, 7] (Lo := [(0, .pointer (some ⟨p_a_, 0, none⟩)), (1, .int .i64 r), (2, .int .i64 n), (7, .int .i64 (-1))]) (obs := []) rfl (by kernel_rfl) trivial fun a hE => ?_
  refine WR.done rfl ?_
  refine Runs.seq ?_
  refine Runs.seq ?_
  refine Runs.region ?_
  refine WR.seg hE 2 [] [0, 1, 2, 7, 12] (Lo := [(0, .pointer (some ⟨p_a_, 0, none⟩)), (1, .int .i64 r), (2, .int .i64 n), (7, .int .i64 (-1)), (12, .bool (r != (-1)))]) (obs := []) rfl (by kernel_rfl) trivial fun a hE => ?_
  refine WR.done rfl ?_
  obtain ⟨s, es, hm⟩ := bind_some hm
  refine Runs.join (fun a w => EnvOk 61 a [(0, .pointer (some ⟨p_a_, 0, none⟩)), (1, .int .i64 r), (2, .int .i64 n), (7, .int .i64 s.1)] ∧ St w0 (arena_Arena.R p_a_ al_a_ s.2 :: As) w) (fun hk => ?_) ?_
  · replace hm := es; clear es
    refine Runs.cond hE rfl (fun c => ?_) (fun c => ?_)
    · replace hm := cond_t c hm
      refine Runs.region ?_
      refine WR.seg hE 2 [] [0, 1, 2, 7, 13, 14] (Lo := [(0, .pointer (some ⟨p_a_, 0, none⟩)), (1, .int .i64 r), (2, .int .i64 n), (7, .int .i64 (-1)), (13, .pointer (some ⟨p_a_, 0, none⟩)), (14, .int .i64 r)]) (obs := []) rfl (by kernel_rfl) trivial fun a hE => ?_
      obtain ⟨t_, et_, hm⟩ := bind_some hm
      refine WR.eff hE rfl rfl rfl rfl (OpTo.fn hE rfl rfl Tryz.call45 (arena_Arena_Cell_ok et_ H)) ?_
      rintro _ w ⟨rfl, H⟩ a hE
      refine WR.seg hE 4 [] [0, 1, 2, 7] (Lo := [(0, .pointer (some ⟨p_a_, 0, none⟩)), (1, .int .i64 r), (2, .int .i64 n), (7, .int .i64 t_.1)]) (obs := []) rfl (by kernel_rfl) trivial fun a hE => ?_
      refine WR.done rfl ?_
      cases hm
      exact hk _ _ ⟨hE.sel [0, 1, 2, 7] (by kernel_rfl), H⟩
    · replace hm := cond_f c hm
      refine Runs.skip ?_
      cases hm
      exact hk _ _ ⟨hE.sel [0, 1, 2, 7] (by kernel_rfl), H⟩
  rintro a w ⟨hE, H⟩
  refine Runs.seq ?_
  refine Runs.region ?_
  refine WR.seg hE 2 [] [0, 1, 2, 7, 16, 17] (Lo := [(0, .pointer (some ⟨p_a_, 0, none⟩)), (1, .int .i64 r), (2, .int .i64 n), (7, .int .i64 s.1), (16, .pointer (some ⟨p_a_, 0, none⟩)), (17, .int .i64 r)]) (obs := []) rfl (by kernel_rfl) trivial fun a hE => ?_
  obtain ⟨t_1, et_1, hm⟩ := bind_some hm
  refine WR.eff hE rfl rfl rfl rfl (OpTo.fn hE rfl rfl Tryz.call51 (arena_Arena_Get_ok et_1 H)) ?_
  rintro _ w ⟨rfl, hf1, hf, H⟩ a hE
  refine WR.seg hE 4 [] [0, 1, 2, 7, 8] (Lo := [(0, .pointer (some ⟨p_a_, 0, none⟩)), (1, .int .i64 r), (2, .int .i64 n), (7, .int .i64 s.1), (8, .int .i64 t_1.1)]) (obs := []) rfl (by kernel_rfl) trivial fun a hE => ?_
  refine WR.done rfl ?_
  refine Runs.seq ?_
  refine Runs.seq ?_
  obtain ⟨s1, es1, hm⟩ := bind_some hm
  refine Runs.join (fun a w => EnvOk 61 a [(0, .pointer (some ⟨p_a_, 0, none⟩)), (1, .int .i64 r), (2, .int .i64 n), (7, .int .i64 s.1), (8, .int .i64 t_1.1), (27, .bool s1.1)] ∧ St w0 (arena_Arena.R p_a_ al_a_ s1.2 :: As) w) (fun hk => ?_) ?_
  · replace hm := es1; clear es1
    refine Runs.region ?_
    refine WR.seg hE 3 [] [0, 1, 2, 7, 8, 21] (Lo := [(0, .pointer (some ⟨p_a_, 0, none⟩)), (1, .int .i64 r), (2, .int .i64 n), (7, .int .i64 s.1), (8, .int .i64 t_1.1), (21, .bool (s.1 == (-1)))]) (obs := []) rfl (by kernel_rfl) trivial fun a hE => ?_
    rcases Bool.eq_false_or_eq_true (s.1 == (-1)) with c | c
    · replace hE := hE.dec 21 c (by kernel_rfl)
      replace hm := cond_t c hm
      have c_ := c
      refine WR.seg hE 9 [] [0, 1, 2, 7, 8, 27] (Lo := [(0, .pointer (some ⟨p_a_, 0, none⟩)), (1, .int .i64 r), (2, .int .i64 n), (7, .int .i64 s.1), (8, .int .i64 t_1.1), (27, .bool true)]) (obs := []) rfl (by kernel_rfl) trivial fun a hE => ?_
      refine WR.done rfl ?_
      cases hm
      exact hk _ _ ⟨hE.sel [0, 1, 2, 7, 8, 27] (by kernel_rfl), H⟩
    · replace hE := hE.dec 21 c (by kernel_rfl)
      replace hm := cond_f c hm
      have c_1 := c
      refine WR.seg hE 5 [] [0, 1, 2, 7, 8, 21, 22, 23] (Lo := [(0, .pointer (some ⟨p_a_, 0, none⟩)), (1, .int .i64 r), (2, .int .i64 n), (7, .int .i64 s.1), (8, .int .i64 t_1.1), (21, .bool false), (22, .pointer (some ⟨p_a_, 0, none⟩)), (23, .int .i64 s.1)]) (obs := []) rfl (by kernel_rfl) trivial fun a hE => ?_
      obtain ⟨t_2, et_2, hm⟩ := bind_some hm
      refine WR.eff hE rfl rfl rfl rfl (OpTo.fn hE rfl rfl Tryz.call51 (arena_Arena_Get_ok et_2 H)) ?_
      rintro _ w ⟨rfl, hf3, hf2, H⟩ a hE
      refine WR.seg hE 9 [] [0, 1, 2, 7, 8, 27] (Lo := [(0, .pointer (some ⟨p_a_, 0, none⟩)), (1, .int .i64 r), (2, .int .i64 n), (7, .int .i64 s.1), (8, .int .i64 t_1.1), (27, .bool (t_2.1 != t_1.1))]) (obs := []) rfl (by kernel_rfl) trivial fun a hE => ?_
      refine WR.done rfl ?_
      cases hm
      exact hk _ _ ⟨hE.sel [0, 1, 2, 7, 8, 27] (by kernel_rfl), H⟩
  rintro a w ⟨hE, H⟩
  refine Runs.cond hE rfl (fun c => ?_) (fun c => ?_)
  · replace hm := cond_t c hm
    refine Runs.seq ?_
    refine Runs.region ?_
    refine WR.seg hE 3 [] [0, 2, 28, 29, 30] (Lo := [(0, .pointer (some ⟨p_a_, 0, none⟩)), (2, .int .i64 n), (28, .pointer (some ⟨p_a_, 0, none⟩)), (29, .int .i64 n), (30, .int .i64 r)]) (obs := []) rfl (by kernel_rfl) trivial fun a hE => ?_
    obtain ⟨t_3, et_3, hm⟩ := bind_some hm
    refine WR.eff hE rfl rfl rfl rfl (OpTo.fn hE rfl rfl Tryz.call39 (arena_Arena_Set_ok et_3 H)) ?_
    rintro _ w ⟨rfl, hf4, H⟩ a hE
    refine WR.done rfl ?_
    refine Runs.seq ?_
    refine Runs.region ?_
    refine WR.seg hE 2 [] [2, 32, 33] (Lo := [(2, .int .i64 n), (32, .pointer (some ⟨p_a_, 0, none⟩)), (33, .int .i64 n)]) (obs := []) rfl (by kernel_rfl) trivial fun a hE => ?_
    obtain ⟨t_4, et_4, hm⟩ := bind_some hm
    refine WR.eff hE rfl rfl rfl rfl (OpTo.fn hE rfl rfl Tryz.call39 (arena_Arena_Set_ok et_4 H)) ?_
    rintro _ w ⟨rfl, hf5, H⟩ a hE
    refine WR.done rfl ?_
    refine Runs.seq ?_
    refine Runs.region ?_
    refine WR.seg hE 2 [] [6] (Lo := [(6, .int .i64 n)]) (obs := []) rfl (by kernel_rfl) trivial fun a hE => ?_
    refine WR.done rfl ?_
    refine Runs.ret hE Tryz.func41 rfl rfl ?_
    cases hm
    exact ⟨rfl, H⟩
  · replace hm := cond_f c hm
    refine Runs.skip ?_
    refine Runs.seq ?_
    refine Runs.region ?_
    refine WR.seg hE 2 [] [0, 1, 2, 7, 8, 36, 37] (Lo := [(0, .pointer (some ⟨p_a_, 0, none⟩)), (1, .int .i64 r), (2, .int .i64 n), (7, .int .i64 s.1), (8, .int .i64 t_1.1), (36, .pointer (some ⟨p_a_, 0, none⟩)), (37, .int .i64 s.1)]) (obs := []) rfl (by kernel_rfl) trivial fun a hE => ?_
    obtain ⟨t_5, et_5, hm⟩ := bind_some hm
    refine WR.eff hE rfl rfl rfl rfl (OpTo.fn hE rfl rfl Tryz.call45 (arena_Arena_Cell_ok et_5 H)) ?_
    rintro _ w ⟨rfl, H⟩ a hE
    refine WR.seg hE 4 [] [0, 1, 2, 7, 8, 9] (Lo := [(0, .pointer (some ⟨p_a_, 0, none⟩)), (1, .int .i64 r), (2, .int .i64 n), (7, .int .i64 s.1), (8, .int .i64 t_1.1), (9, .int .i64 t_5.1)]) (obs := []) rfl (by kernel_rfl) trivial fun a hE => ?_
    refine WR.done rfl ?_
    refine Runs.seq ?_
    refine Runs.region ?_
    refine WR.seg hE 4 [] [0, 2, 9, 39, 40, 41, 42] (Lo := [(0, .pointer (some ⟨p_a_, 0, none⟩)), (2, .int .i64 n), (9, .int .i64 t_5.1), (39, .pointer (some ⟨p_a_, 0, none⟩)), (40, .int .i64 r), (41, .int .i64 s.1), (42, .int .i64 t_1.1)]) (obs := []) rfl (by kernel_rfl) trivial fun a hE => ?_
    obtain ⟨t_6, et_6, hm⟩ := bind_some hm
    refine WR.eff hE rfl rfl rfl rfl (OpTo.fn hE rfl rfl Tryz.call61 (trees_Link_ok et_6 H)) ?_
    rintro _ w ⟨rfl, H⟩ a hE
    refine WR.seg hE 6 [] [0, 2, 9, 10] (Lo := [(0, .pointer (some ⟨p_a_, 0, none⟩)), (2, .int .i64 n), (9, .int .i64 t_5.1), (10, .int .i64 t_6.1)]) (obs := []) rfl (by kernel_rfl) trivial fun a hE => ?_
    refine WR.done rfl ?_
    refine Runs.seq ?_
    refine Runs.seq ?_
    refine Runs.region ?_
    refine WR.seg hE 3 [] [0, 2, 9, 10, 44, 45, 46] (Lo := [(0, .pointer (some ⟨p_a_, 0, none⟩)), (2, .int .i64 n), (9, .int .i64 t_5.1), (10, .int .i64 t_6.1), (44, .pointer (some ⟨p_a_, 0, none⟩)), (45, .int .i64 n), (46, .int .i64 t_6.1)]) (obs := []) rfl (by kernel_rfl) trivial fun a hE => ?_
    obtain ⟨t_7, et_7, hm⟩ := bind_some hm
    refine WR.eff hE rfl rfl rfl rfl (OpTo.fn hE rfl rfl Tryz.call62 (node_Before_ok et_7 H)) ?_
    rintro _ w ⟨rfl, H⟩ a hE
    refine WR.done rfl ?_
    obtain ⟨s2, es2, hm⟩ := bind_some hm
    refine Runs.join (fun a w => EnvOk 61 a [(0, .pointer (some ⟨p_a_, 0, none⟩)), (2, .int .i64 n), (9, .int .i64 t_5.1), (10, .int .i64 t_6.1)] ∧ St w0 (arena_Arena.R p_a_ al_a_ s2 :: As) w) (fun hk => ?_) ?_
    · replace hm := es2; clear es2
      refine Runs.cond hE rfl (fun c => ?_) (fun c => ?_)
      · replace hm := cond_t c hm
        refine Runs.region ?_
        refine WR.seg hE 3 [] [0, 2, 9, 10, 48, 49, 50] (Lo := [(0, .pointer (some ⟨p_a_, 0, none⟩)), (2, .int .i64 n), (9, .int .i64 t_5.1), (10, .int .i64 t_6.1), (48, .pointer (some ⟨p_a_, 0, none⟩)), (49, .int .i64 n), (50, .int .i64 t_6.1)]) (obs := []) rfl (by kernel_rfl) trivial fun a hE => ?_
        obtain ⟨t_8, et_8, hm⟩ := bind_some hm
        refine WR.eff hE rfl rfl rfl rfl (OpTo.fn hE rfl rfl Tryz.call63 (item_Swap_ok et_8 H)) ?_
        rintro _ w ⟨rfl, H⟩ a hE
        refine WR.done rfl ?_
        cases hm
        exact hk _ _ ⟨hE.sel [0, 2, 9, 10] (by kernel_rfl), H⟩
      · replace hm := cond_f c hm
        refine Runs.skip ?_
        cases hm
        exact hk _ _ ⟨hE.sel [0, 2, 9, 10] (by kernel_rfl), H⟩
    rintro a w ⟨hE, H⟩
    refine Runs.seq ?_
    refine Runs.region ?_
    refine WR.seg hE 3 [] [0, 9, 10, 52, 53, 54] (Lo := [(0, .pointer (some ⟨p_a_, 0, none⟩)), (9, .int .i64 t_5.1), (10, .int .i64 t_6.1), (52, .pointer (some ⟨p_a_, 0, none⟩)), (53, .int .i64 n), (54, .int .i64 t_6.1)]) (obs := []) rfl (by kernel_rfl) trivial fun a hE => ?_
    obtain ⟨t_9, et_9, hm⟩ := bind_some hm
    refine WR.eff hE rfl rfl rfl rfl (OpTo.fn hE rfl rfl Tryz.call64 (trees_Under_ok et_9 H)) ?_
    rintro _ w ⟨rfl, H⟩ a hE
    refine WR.done rfl ?_
    refine Runs.seq ?_
    refine Runs.region ?_
    refine WR.seg hE 3 [] [10, 56, 57, 58] (Lo := [(10, .int .i64 t_6.1), (56, .pointer (some ⟨p_a_, 0, none⟩)), (57, .int .i64 t_6.1), (58, .int .i64 t_5.1)]) (obs := []) rfl (by kernel_rfl) trivial fun a hE => ?_
    obtain ⟨t_10, et_10, hm⟩ := bind_some hm
    refine WR.eff hE rfl rfl rfl rfl (OpTo.fn hE rfl rfl Tryz.call39 (arena_Arena_Set_ok et_10 H)) ?_
    rintro _ w ⟨rfl, hf6, H⟩ a hE
    refine WR.done rfl ?_
    refine Runs.seq ?_
    refine Runs.region ?_
    refine WR.seg hE 2 [] [6] (Lo := [(6, .int .i64 t_6.1)]) (obs := []) rfl (by kernel_rfl) trivial fun a hE => ?_
    refine WR.done rfl ?_
    refine Runs.ret hE Tryz.func41 rfl rfl ?_
    cases hm
    exact ⟨rfl, H⟩

theorem skew_Push_ok {w0 w : World} {As : List HP} {k : Nat} {p_a_ : Nat} {al_a_ : arena_Arena.A} {a_ : arena_Arena} {r : Int} {i : Int} {t : Int × Bool × arena_Arena}  (hm : skew_Push k a_ r i = some t) (H : St w0 (arena_Arena.R p_a_ al_a_ a_ :: As) w) :
    CallsR Tryz.prog 19 #[.pointer (some ⟨p_a_, 0, none⟩), .int .i64 r, .int .i64 i] w fun v w' => ∃ (z_a__free_b : Option Addr), ∃ (z_a__free_c : Nat), v = .tuple #[.int .i64 t.1, .bool t.2.1] ∧ St w0 (arena_Arena.R p_a_ (arena_Arena.A.mk al_a_.l_b al_a_.l_c z_a__free_b z_a__free_c al_a_.m__p) t.2.2 :: As) w' := by
  rw [skew_Push] at hm
  refine enter (args := [.pointer (some ⟨p_a_, 0, none⟩), .int .i64 r, .int .i64 i]) Tryz.func19 rfl rfl rfl fun a hE => ?_
  refine Runs.seq ?_
  refine Runs.region ?_
  refine WR.seg hE 2 [] [0, 1, 2] (Lo := [(0, .pointer (some ⟨p_a_, 0, none⟩)), (1, .int .i64 r), (2, .int .i64 i)]) (obs := []) rfl (by kernel_rfl) trivial fun a hE => ?_
  refine WR.done rfl ?_
  refine Runs.seq ?_
  refine Runs.seq ?_
  refine Runs.region ?_
  refine WR.seg hE 2 [] [0, 1, 2, 11] (Lo := [(0, .pointer (some ⟨p_a_, 0, none⟩)), (1, .int .i64 r), (2, .int .i64 i), (11, .bool false)]) (obs := []) rfl (by kernel_rfl) trivial fun a hE => ?_
  refine WR.done rfl ?_
  refine Runs.condF hE rfl ?_
  refine Runs.skip ?_
  refine Runs.seq ?_
  refine Runs.region ?_
  refine WR.seg hE 2 [] [0, 1, 13, 14] (Lo := [(0, .pointer (some ⟨p_a_, 0, none⟩)), (1, .int .i64 r), (13, .pointer (some ⟨p_a_, 0, none⟩)), (14, .int .i64 i)]) (obs := []) rfl (by kernel_rfl) trivial fun a hE => ?_
  obtain ⟨t_, et_, hm⟩ := bind_some hm
  refine WR.eff hE rfl rfl rfl rfl (OpTo.fn hE rfl rfl Tryz.call40 (node_New_ok et_ H)) ?_
  rintro _ w ⟨z, z1, rfl, H⟩ a hE
  refine WR.seg hE 8 [] [0, 1, 8, 9] (Lo := [(0, .pointer (some ⟨p_a_, 0, none⟩)), (1, .int .i64 r), (8, .int .i64 t_.1), (9, .bool t_.2.1)]) (obs := []) rfl (by kernel_rfl) trivial fun a hE => ?_
  refine WR.done rfl ?_
  refine Runs.seq ?_
  refine Runs.seq ?_
  refine Runs.region ?_
  refine WR.seg hE 2 [] [0, 1, 8, 19] (Lo := [(0, .pointer (some ⟨p_a_, 0, none⟩)), (1, .int .i64 r), (8, .int .i64 t_.1), (19, .bool (!t_.2.1))]) (obs := []) rfl (by kernel_rfl) trivial fun a hE => ?_
  refine WR.done rfl ?_
  refine Runs.cond hE rfl (fun c => ?_) (fun c => ?_)
  · replace hm := cond_t c hm
    refine Runs.seq ?_
    refine Runs.region ?_
    refine WR.seg hE 3 [] [6, 7] (Lo := [(6, .int .i64 r), (7, .bool false)]) (obs := []) rfl (by kernel_rfl) trivial fun a hE => ?_
    refine WR.done rfl ?_
    refine Runs.ret hE Tryz.func19 rfl rfl ?_
    cases hm
    exact ⟨z, z1, rfl, H⟩
  · replace hm := cond_f c hm
    refine Runs.skip ?_
    refine Runs.seq ?_
    refine Runs.region ?_
    refine WR.seg hE 3 [] [21, 22, 23] (Lo := [(21, .pointer (some ⟨p_a_, 0, none⟩)), (22, .int .i64 r), (23, .int .i64 t_.1)]) (obs := []) rfl (by kernel_rfl) trivial fun a hE => ?_
    obtain ⟨t_1, et_1, hm⟩ := bind_some hm
    refine WR.eff hE rfl rfl rfl rfl (OpTo.fn hE rfl rfl Tryz.call41 (skew_single_ok et_1 H)) ?_
    rintro _ w ⟨rfl, H⟩ a hE
    refine WR.seg hE 6 [] [6, 7] (Lo := [(6, .int .i64 t_1.1), (7, .bool true)]) (obs := []) rfl (by kernel_rfl) trivial fun a hE => ?_
    refine WR.done rfl ?_
    refine Runs.ret hE Tryz.func19 rfl rfl ?_
    cases hm
    exact ⟨z, z1, rfl, H⟩

theorem thicketref1_Bits_ok {w0 w : World} {As : List HP} {k : Nat} {n : Int} {t : Int}  (hm : thicketref1_Bits k n = some t) (H : St w0 (As) w) :
    CallsR Tryz.prog 65 #[.int .i64 n] w fun v w' => v = .int .i64 t ∧ St w0 (As) w' := by
  rw [thicketref1_Bits] at hm
  refine enter (args := [.int .i64 n]) Tryz.func65 rfl rfl rfl fun a hE => ?_
  refine Runs.seq ?_
  refine Runs.region ?_
  refine WR.seg hE 1 [] [0] (Lo := [(0, .int .i64 n)]) (obs := []) rfl (by kernel_rfl) trivial fun a hE => ?_
  refine WR.done rfl ?_
  refine Runs.seq ?_
  refine Runs.region ?_
  refine WR.seg hE 1 [] [0, 3] (Lo := [(0, .int .i64 n), (3, .int .i64 0)]) (obs := []) rfl (by kernel_rfl) trivial fun a hE => ?_
  refine WR.done rfl ?_
  refine Runs.seq ?_
  obtain ⟨s, es, hm⟩ := bind_some hm
  refine Runs.join (fun a w => EnvOk 11 a [(3, .int .i64 s)] ∧ St w0 (As) w) (fun hk => ?_) ?_
  · replace hm := es; clear es
    refine Runs.block ?_
    refine Runs.loop (fun m a w => ∃ (n1 : Int), ∃ (k_ : Int), EnvOk 11 a [(0, .int .i64 n1), (3, .int .i64 k_)] ∧ St w0 (As) w ∧ thicketref1_Bits_l0 m n1 k_ = some s) k ⟨n, 0, hE.sel [0, 3] (by kernel_rfl), H, hm⟩ ?_
    rintro m ih a w ⟨n1, k_, hE, H, hm⟩
    cases m with
    | zero => simp [thicketref1_Bits_l0] at hm
    | succ m =>
      rw [thicketref1_Bits_l0] at hm
      refine Runs.seq ?_
      refine Runs.seq ?_
      refine Runs.region ?_
      refine WR.seg hE 2 [] [0, 3, 5] (Lo := [(0, .int .i64 n1), (3, .int .i64 k_), (5, .bool (decide (n1 > 0)))]) (obs := []) rfl (by kernel_rfl) trivial fun a hE => ?_
      refine WR.done rfl ?_
      refine Runs.cond hE rfl (fun c => ?_) (fun c => ?_)
      · replace hm := cond_t c hm
        refine Runs.skip ?_
        refine Runs.block ?_
        refine Runs.seq ?_
        refine Runs.region ?_
        refine WR.seg hE 3 [] [0, 3] (Lo := [(0, .int .i64 (w64 (Int.tdiv n1 2))), (3, .int .i64 k_)]) (obs := [.p ((2 : Int) ≠ 0)]) rfl (by kernel_rfl) ⟨(by show _ ≠ _; decide), trivial⟩ fun a hE => ?_
        refine WR.done rfl ?_
        refine Runs.region ?_
        refine WR.seg hE 3 [] [0, 3] (Lo := [(0, .int .i64 (w64 (Int.tdiv n1 2))), (3, .int .i64 (w64 (k_ + 1)))]) (obs := []) rfl (by kernel_rfl) trivial fun a hE => ?_
        refine WR.done rfl ?_
        refine Runs.inBlock ?_
        exact ih m (Nat.lt_succ_self m) _ _ ⟨w64 (Int.tdiv n1 2), w64 (k_ + 1), hE.sel [0, 3] (by kernel_rfl), H, hm⟩
      · replace hm := cond_f c hm
        refine Runs.exit rfl ?_
        cases hm
        exact hk _ _ ⟨hE.sel [3] (by kernel_rfl), H⟩
  rintro a w ⟨hE, H⟩
  refine Runs.seq ?_
  refine Runs.region ?_
  refine WR.seg hE 2 [] [2] (Lo := [(2, .int .i64 s)]) (obs := []) rfl (by kernel_rfl) trivial fun a hE => ?_
  refine WR.done rfl ?_
  refine Runs.ret hE Tryz.func65 rfl rfl ?_
  cases hm
  exact ⟨rfl, H⟩

theorem thicketref1_Add_ok {w0 w : World} {As : List HP} {a_ : Int} {b : Int} {t : Int}  (hm : thicketref1_Add a_ b = some t) (H : St w0 (As) w) :
    CallsR Tryz.prog 66 #[.int .i64 a_, .int .i64 b] w fun v w' => v = .int .i64 t ∧ St w0 (As) w' := by
  rw [thicketref1_Add] at hm
  refine enter (args := [.int .i64 a_, .int .i64 b]) Tryz.func66 rfl rfl rfl fun a hE => ?_
  refine Runs.seq ?_
  refine Runs.region ?_
  refine WR.seg hE 1 [] [0, 1] (Lo := [(0, .int .i64 a_), (1, .int .i64 b)]) (obs := []) rfl (by kernel_rfl) trivial fun a hE => ?_
  refine WR.done rfl ?_
  refine Runs.seq ?_
  refine Runs.seq ?_
  refine Runs.join (fun a w => EnvOk 24 a [(0, .int .i64 a_), (1, .int .i64 b), (12, .bool ((decide (a_ > 0)) && (decide (b > w64 (9223372036854775807 - a_)))))] ∧ St w0 (As) w) (fun hk => ?_) ?_
  · clear hm
    refine Runs.region ?_
    refine WR.seg hE 3 [] [0, 1, 7] (Lo := [(0, .int .i64 a_), (1, .int .i64 b), (7, .bool (decide (a_ > 0)))]) (obs := []) rfl (by kernel_rfl) trivial fun a hE => ?_
    rcases Bool.eq_false_or_eq_true (decide (a_ > 0)) with c | c
    · replace hE := hE.dec 7 c (by kernel_rfl)
      have c_ := c
      refine WR.seg hE 8 [] [0, 1, 12] (Lo := [(0, .int .i64 a_), (1, .int .i64 b), (12, .bool (decide (b > w64 (9223372036854775807 - a_))))]) (obs := []) rfl (by kernel_rfl) trivial fun a hE => ?_
      refine WR.done rfl ?_
      refine hk _ _ ⟨?_, H⟩
      try rw [c_] at hE
      try rw [c_]
      exact hE.sel [0, 1, 12] (by kernel_rfl)
    · replace hE := hE.dec 7 c (by kernel_rfl)
      have c_1 := c
      refine WR.seg hE 8 [] [0, 1, 12] (Lo := [(0, .int .i64 a_), (1, .int .i64 b), (12, .bool false)]) (obs := []) rfl (by kernel_rfl) trivial fun a hE => ?_
      refine WR.done rfl ?_
      refine hk _ _ ⟨?_, H⟩
      try rw [c_1] at hE
      try rw [c_1]
      exact hE.sel [0, 1, 12] (by kernel_rfl)
  rintro a w ⟨hE, H⟩
  refine Runs.cond hE rfl (fun c => ?_) (fun c => ?_)
  · replace hm := cond_t c hm
    refine Runs.seq ?_
    refine Runs.region ?_
    refine WR.seg hE 1 [] [4] (Lo := [(4, .int .i64 9223372036854775807)]) (obs := []) rfl (by kernel_rfl) trivial fun a hE => ?_
    refine WR.done rfl ?_
    refine Runs.ret hE Tryz.func66 rfl rfl ?_
    cases hm
    exact ⟨rfl, H⟩
  · replace hm := cond_f c hm
    refine Runs.skip ?_
    refine Runs.seq ?_
    refine Runs.seq ?_
    refine Runs.join (fun a w => EnvOk 24 a [(0, .int .i64 a_), (1, .int .i64 b), (20, .bool ((decide (a_ < 0)) && (decide (b < w64 ((-9223372036854775808) - a_)))))] ∧ St w0 (As) w) (fun hk => ?_) ?_
    · clear hm
      refine Runs.region ?_
      refine WR.seg hE 3 [] [0, 1, 15] (Lo := [(0, .int .i64 a_), (1, .int .i64 b), (15, .bool (decide (a_ < 0)))]) (obs := []) rfl (by kernel_rfl) trivial fun a hE => ?_
      rcases Bool.eq_false_or_eq_true (decide (a_ < 0)) with c | c
      · replace hE := hE.dec 15 c (by kernel_rfl)
        have c_2 := c
        refine WR.seg hE 8 [] [0, 1, 20] (Lo := [(0, .int .i64 a_), (1, .int .i64 b), (20, .bool (decide (b < w64 ((-9223372036854775808) - a_))))]) (obs := []) rfl (by kernel_rfl) trivial fun a hE => ?_
        refine WR.done rfl ?_
        refine hk _ _ ⟨?_, H⟩
        try rw [c_2] at hE
        try rw [c_2]
        exact hE.sel [0, 1, 20] (by kernel_rfl)
      · replace hE := hE.dec 15 c (by kernel_rfl)
        have c_3 := c
        refine WR.seg hE 8 [] [0, 1, 20] (Lo := [(0, .int .i64 a_), (1, .int .i64 b), (20, .bool false)]) (obs := []) rfl (by kernel_rfl) trivial fun a hE => ?_
        refine WR.done rfl ?_
        refine hk _ _ ⟨?_, H⟩
        try rw [c_3] at hE
        try rw [c_3]
        exact hE.sel [0, 1, 20] (by kernel_rfl)
    rintro a w ⟨hE, H⟩
    refine Runs.cond hE rfl (fun c => ?_) (fun c => ?_)
    · replace hm := cond_t c hm
      refine Runs.seq ?_
      refine Runs.region ?_
      refine WR.seg hE 1 [] [4] (Lo := [(4, .int .i64 (-9223372036854775808))]) (obs := []) rfl (by kernel_rfl) trivial fun a hE => ?_
      refine WR.done rfl ?_
      refine Runs.ret hE Tryz.func66 rfl rfl ?_
      cases hm
      exact ⟨rfl, H⟩
    · replace hm := cond_f c hm
      refine Runs.skip ?_
      refine Runs.seq ?_
      refine Runs.region ?_
      refine WR.seg hE 4 [] [4] (Lo := [(4, .int .i64 (w64 (a_ + b)))]) (obs := []) rfl (by kernel_rfl) trivial fun a hE => ?_
      refine WR.done rfl ?_
      refine Runs.ret hE Tryz.func66 rfl rfl ?_
      cases hm
      exact ⟨rfl, H⟩

theorem thicketref1_Limit_ok {w0 w : World} {As : List HP} {k : Nat} {a_ : Int} {b : Int} {n : Int} {t : Int}  (hm : thicketref1_Limit k a_ b n = some t) (H : St w0 (As) w) :
    CallsR Tryz.prog 42 #[.int .i64 a_, .int .i64 b, .int .i64 n] w fun v w' => v = .int .i64 t ∧ St w0 (As) w' := by
  rw [thicketref1_Limit] at hm
  refine enter (args := [.int .i64 a_, .int .i64 b, .int .i64 n]) Tryz.func42 rfl rfl rfl fun a hE => ?_
  refine Runs.seq ?_
  refine Runs.region ?_
  refine WR.seg hE 1 [] [0, 1, 2] (Lo := [(0, .int .i64 a_), (1, .int .i64 b), (2, .int .i64 n)]) (obs := []) rfl (by kernel_rfl) trivial fun a hE => ?_
  refine WR.done rfl ?_
  refine Runs.seq ?_
  refine Runs.region ?_
  refine WR.seg hE 2 [] [1, 2, 7] (Lo := [(1, .int .i64 b), (2, .int .i64 n), (7, .int .i64 a_)]) (obs := []) rfl (by kernel_rfl) trivial fun a hE => ?_
  refine WR.done rfl ?_
  refine Runs.seq ?_
  refine Runs.seq ?_
  refine Runs.region ?_
  refine WR.seg hE 1 [] [1, 7, 10] (Lo := [(1, .int .i64 b), (7, .int .i64 a_), (10, .int .i64 n)]) (obs := []) rfl (by kernel_rfl) trivial fun a hE => ?_
  obtain ⟨t_, et_, hm⟩ := bind_some hm
  refine WR.eff hE rfl rfl rfl rfl (OpTo.fn hE rfl rfl Tryz.call65 (thicketref1_Bits_ok et_ H)) ?_
  rintro _ w ⟨rfl, H⟩ a hE
  refine WR.seg hE 3 [] [1, 7, 8] (Lo := [(1, .int .i64 b), (7, .int .i64 a_), (8, .int .i64 t_)]) (obs := []) rfl (by kernel_rfl) trivial fun a hE => ?_
  refine WR.done rfl ?_
  obtain ⟨s, es, hm⟩ := bind_some hm
  refine Runs.join (fun a w => EnvOk 20 a [(7, .int .i64 s)] ∧ St w0 (As) w) (fun hk => ?_) ?_
  · replace hm := es; clear es
    refine Runs.block ?_
    refine Runs.loop (fun m a w => ∃ (x : Int), ∃ (k_ : Int), EnvOk 20 a [(1, .int .i64 b), (7, .int .i64 x), (8, .int .i64 k_)] ∧ St w0 (As) w ∧ thicketref1_Limit_l0 b m x k_ = some s) k ⟨a_, t_, hE.sel [1, 7, 8] (by kernel_rfl), H, hm⟩ ?_
    rintro m ih a w ⟨x, k_, hE, H, hm⟩
    cases m with
    | zero => simp [thicketref1_Limit_l0] at hm
    | succ m =>
      rw [thicketref1_Limit_l0] at hm
      refine Runs.seq ?_
      refine Runs.seq ?_
      refine Runs.region ?_
      refine WR.seg hE 2 [] [1, 7, 8, 13] (Lo := [(1, .int .i64 b), (7, .int .i64 x), (8, .int .i64 k_), (13, .bool (decide (k_ > 0)))]) (obs := []) rfl (by kernel_rfl) trivial fun a hE => ?_
      refine WR.done rfl ?_
      refine Runs.cond hE rfl (fun c => ?_) (fun c => ?_)
      · replace hm := cond_t c hm
        refine Runs.skip ?_
        refine Runs.seq ?_
        refine Runs.block ?_
        refine Runs.region ?_
        refine WR.seg hE 2 [] [1, 7, 8, 16, 17] (Lo := [(1, .int .i64 b), (7, .int .i64 x), (8, .int .i64 k_), (16, .int .i64 x), (17, .int .i64 b)]) (obs := []) rfl (by kernel_rfl) trivial fun a hE => ?_
        obtain ⟨t_1, et_1, hm⟩ := bind_some hm
        refine WR.eff hE rfl rfl rfl rfl (OpTo.fn hE rfl rfl Tryz.call66 (thicketref1_Add_ok et_1 H)) ?_
        rintro _ w ⟨rfl, H⟩ a hE
        refine WR.seg hE 4 [] [1, 7, 8] (Lo := [(1, .int .i64 b), (7, .int .i64 t_1), (8, .int .i64 k_)]) (obs := []) rfl (by kernel_rfl) trivial fun a hE => ?_
        refine WR.done rfl ?_
        refine Runs.inBlock ?_
        refine Runs.region ?_
        refine WR.seg hE 3 [] [1, 7, 8] (Lo := [(1, .int .i64 b), (7, .int .i64 t_1), (8, .int .i64 (w64 (k_ - 1)))]) (obs := []) rfl (by kernel_rfl) trivial fun a hE => ?_
        refine WR.done rfl ?_
        exact ih m (Nat.lt_succ_self m) _ _ ⟨t_1, w64 (k_ - 1), hE.sel [1, 7, 8] (by kernel_rfl), H, hm⟩
      · replace hm := cond_f c hm
        refine Runs.exit rfl ?_
        cases hm
        exact hk _ _ ⟨hE.sel [7] (by kernel_rfl), H⟩
  rintro a w ⟨hE, H⟩
  refine Runs.seq ?_
  refine Runs.region ?_
  refine WR.seg hE 2 [] [6] (Lo := [(6, .int .i64 s)]) (obs := []) rfl (by kernel_rfl) trivial fun a hE => ?_
  refine WR.done rfl ?_
  refine Runs.ret hE Tryz.func42 rfl rfl ?_
  cases hm
  exact ⟨rfl, H⟩

theorem thicketlaw11_world_cost_ok {w0 w : World} {As : List HP} {k : Nat} {p_w_ : Nat} {al_w_ : thicketlaw11_world.A} {w_ : thicketlaw11_world} {since : Int} {kind : Int} {n : Int} {t : Bool × thicketlaw11_world}  (hm : thicketlaw11_world_cost k w_ since kind n = some t) (H : St w0 (thicketlaw11_world.R p_w_ al_w_ w_ :: As) w) :
    CallsR Tryz.prog 20 #[.pointer (some ⟨p_w_, 0, none⟩), .int .i64 since, .int .i64 kind, .int .i64 n] w fun v w' => v = .bool t.1 ∧ t.2.has0 = w_.has0 ∧ t.2.has1 = w_.has1 ∧ St w0 (thicketlaw11_world.R p_w_ al_w_ t.2 :: As) w' := by
  rw [thicketlaw11_world_cost] at hm
  refine enter (args := [.pointer (some ⟨p_w_, 0, none⟩), .int .i64 since, .int .i64 kind, .int .i64 n]) Tryz.func20 rfl rfl rfl fun a hE => ?_
  refine Runs.seq ?_
  refine Runs.region ?_
  refine WR.seg hE 1 [] [0, 1, 2, 3] (Lo := [(0, .pointer (some ⟨p_w_, 0, none⟩)), (1, .int .i64 since), (2, .int .i64 kind), (3, .int .i64 n)]) (obs := []) rfl (by kernel_rfl) trivial fun a hE => ?_
  refine WR.done rfl ?_
  refine Runs.seq ?_
  refine Runs.region ?_
  replace H := thicketlaw11_world.open H
  refine WR.seg hE 4 [.pointer (some ⟨al_w_.a__p, 0, none⟩)] [0, 1, 2, 3, 14] (Lo := [(0, .pointer (some ⟨p_w_, 0, none⟩)), (1, .int .i64 since), (2, .int .i64 kind), (3, .int .i64 n), (14, .pointer (some ⟨al_w_.a__p, 0, none⟩))]) (obs := [.cell ⟨p_w_, 0, none⟩ (.pointer (some ⟨al_w_.a__p, 0, none⟩))]) rfl (by kernel_rfl) ⟨H.cell 0 rfl rfl, trivial⟩ fun a hE => ?_
  obtain ⟨t_, et_, hm⟩ := bind_some hm
  refine WR.eff hE rfl rfl rfl rfl (OpTo.fn hE rfl rfl Tryz.call15 (arena_Arena_Meter_ok et_ H.t1)) ?_
  rintro _ w ⟨rfl, H⟩ a hE
  replace H := arena_Arena.open H
  obtain ⟨t_1, et_1, hm⟩ := bind_some hm
  refine WR.eff hE rfl rfl rfl rfl (OpTo.fn hE rfl rfl Tryz.call18 (meter_Meter_Steps_ok et_1 H.t3)) ?_
  rintro _ w ⟨rfl, H⟩ a hE
  refine WR.seg hE 9 [] [0, 2, 3, 9] (Lo := [(0, .pointer (some ⟨p_w_, 0, none⟩)), (2, .int .i64 kind), (3, .int .i64 n), (9, .int .i64 (w64 (t_1 - since)))]) (obs := []) rfl (by kernel_rfl) trivial fun a hE => ?_
  refine WR.done rfl ?_
  refine Runs.seq ?_
  refine Runs.region ?_
  refine WR.seg hE 1 [] [0, 2, 3, 9, 10] (Lo := [(0, .pointer (some ⟨p_w_, 0, none⟩)), (2, .int .i64 kind), (3, .int .i64 n), (9, .int .i64 (w64 (t_1 - since))), (10, .int .i64 500)]) (obs := []) rfl (by kernel_rfl) trivial fun a hE => ?_
  refine WR.done rfl ?_
  refine Runs.seq ?_
  refine Runs.seq ?_
  refine Runs.region ?_
  refine WR.seg hE 2 [] [0, 3, 9, 10, 20] (Lo := [(0, .pointer (some ⟨p_w_, 0, none⟩)), (3, .int .i64 n), (9, .int .i64 (w64 (t_1 - since))), (10, .int .i64 500), (20, .bool (kind == 1))]) (obs := []) rfl (by kernel_rfl) trivial fun a hE => ?_
  refine WR.done rfl ?_
  replace H := arena_Arena.shut al_w_.a__a (w_.a_) H.t3.t3.t3
  replace H := thicketlaw11_world.shut al_w_ (w_) H.t3.t3.t2.t3
  obtain ⟨s, es, hm⟩ := bind_some hm
  refine Runs.join (fun a w => EnvOk 44 a [(0, .pointer (some ⟨p_w_, 0, none⟩)), (9, .int .i64 (w64 (t_1 - since))), (10, .int .i64 s)] ∧ St w0 (thicketlaw11_world.R p_w_ al_w_ w_ :: As) w) (fun hk => ?_) ?_
  · replace hm := es; clear es
    refine Runs.cond hE rfl (fun c => ?_) (fun c => ?_)
    · replace hm := cond_t c hm
      refine Runs.region ?_
      refine WR.seg hE 1 [] [0, 9, 10, 21] (Lo := [(0, .pointer (some ⟨p_w_, 0, none⟩)), (9, .int .i64 (w64 (t_1 - since))), (10, .int .i64 500), (21, .int .i64 n)]) (obs := []) rfl (by kernel_rfl) trivial fun a hE => ?_
      obtain ⟨t_2, et_2, hm⟩ := bind_some hm
      refine WR.eff hE rfl rfl rfl rfl (OpTo.fn hE rfl rfl Tryz.call42 (thicketref1_Limit_ok et_2 H)) ?_
      rintro _ w ⟨rfl, H⟩ a hE
      refine WR.seg hE 3 [] [0, 9, 10] (Lo := [(0, .pointer (some ⟨p_w_, 0, none⟩)), (9, .int .i64 (w64 (t_1 - since))), (10, .int .i64 t_2)]) (obs := []) rfl (by kernel_rfl) trivial fun a hE => ?_
      refine WR.done rfl ?_
      cases hm
      exact hk _ _ ⟨hE.sel [0, 9, 10] (by kernel_rfl), H⟩
    · replace hm := cond_f c hm
      refine Runs.skip ?_
      cases hm
      exact hk _ _ ⟨hE.sel [0, 9, 10] (by kernel_rfl), H⟩
  rintro a w ⟨hE, H⟩
  refine Runs.seq ?_
  refine Runs.drawn mixed (by kernel_rfl) ?_
  replace H := H.drew
  replace H := thicketlaw11_world.open H
  refine WQ.seg hE [0, 1, 2, 3, 4, 5, 6, 7, 8, 9, 10, 11, 12, 13, 14, 15] [.int .i64 w_.spent, .int .i64 w_.most] [9, 10, 24, 30, 36, 38] (Lo := [(9, .int .i64 (w64 (t_1 - since))), (10, .int .i64 s), (24, .pointer (some ⟨p_w_, 0, none⟩)), (30, .int .i64 (w64 (w_.spent + (w64 (t_1 - since))))), (36, .int .i64 (w64 (w_.most + s))), (38, .pointer (some ⟨p_w_, 6, none⟩))]) (obs := [.cell ⟨p_w_, 6, none⟩ (.int .i64 w_.spent), .cell ⟨p_w_, 7, none⟩ (.int .i64 w_.most)]) (by kernel_rfl) (by kernel_rfl) ⟨H.cell 0 rfl rfl, H.cell 0 rfl rfl, trivial⟩ fun a hE => ?_
  refine WQ.eff0 (j := 16) (obs := []) hE (by kernel_rfl) rfl rfl rfl (by kernel_rfl) (OpTo.store hE H rfl rfl rfl rfl rfl rfl (Nat.le_of_ble_eq_true rfl)) ?_
  rintro _ w H
  refine ⟨trivial, fun a hE => ?_⟩
  refine WQ.seg hE [17, 18] [] [9, 10, 36, 40] (Lo := [(9, .int .i64 (w64 (t_1 - since))), (10, .int .i64 s), (36, .int .i64 (w64 (w_.most + s))), (40, .pointer (some ⟨p_w_, 7, none⟩))]) (obs := []) (by kernel_rfl) (by kernel_rfl) trivial fun a hE => ?_
  refine WQ.eff0 (j := 19) (obs := []) hE (by kernel_rfl) rfl rfl rfl (by kernel_rfl) (OpTo.store hE H rfl rfl rfl rfl rfl rfl (Nat.le_of_ble_eq_true rfl)) ?_
  rintro _ w H
  refine ⟨trivial, fun a hE => ?_⟩
  refine WQ.done (by kernel_rfl) ?_
  refine Runs.seq ?_
  refine Runs.region ?_
  refine WR.seg hE 4 [] [8] (Lo := [(8, .bool (decide (w64 (t_1 - since) ≤ s)))]) (obs := []) rfl (by kernel_rfl) trivial fun a hE => ?_
  refine WR.done rfl ?_
  replace H := thicketlaw11_world.shut al_w_ (thicketlaw11_world.mk w_.a_ w_.root0 w_.root1 w_.has0 w_.has1 w_.next (w64 (w_.spent + (w64 (t_1 - since)))) (w64 (w_.most + s))) H.t3.t3.t3.t3
  refine Runs.ret hE Tryz.func20 rfl rfl ?_
  cases hm
  exact ⟨rfl, rfl, rfl, H⟩

theorem arena_Arena_Give_ok {w0 w : World} {As : List HP} {p_a_ : Nat} {al_a_ : arena_Arena.A} {a_ : arena_Arena} {c_ : Int} {t : Bool × arena_Arena}  (hm : arena_Arena_Give a_ c_ = some t) (H : St w0 (arena_Arena.R p_a_ al_a_ a_ :: As) w) :
    CallsR Tryz.prog 21 #[.pointer (some ⟨p_a_, 0, none⟩), .int .i64 c_] w fun v w' => ∃ (z_a__free_b : Option Addr), ∃ (z_a__free_c : Nat), v = .bool t.1 ∧ St w0 (arena_Arena.R p_a_ (arena_Arena.A.mk al_a_.l_b al_a_.l_c z_a__free_b z_a__free_c al_a_.m__p) t.2 :: As) w' := by
  rw [arena_Arena_Give] at hm
  refine enter (args := [.pointer (some ⟨p_a_, 0, none⟩), .int .i64 c_]) Tryz.func21 rfl rfl rfl fun a hE => ?_
  refine Runs.seq ?_
  refine Runs.region ?_
  refine WR.seg hE 1 [] [0, 1] (Lo := [(0, .pointer (some ⟨p_a_, 0, none⟩)), (1, .int .i64 c_)]) (obs := []) rfl (by kernel_rfl) trivial fun a hE => ?_
  refine WR.done rfl ?_
  refine Runs.seq ?_
  refine Runs.region ?_
  replace H := arena_Arena.open H
  refine WR.seg hE 4 [.pointer (some ⟨al_a_.m__p, 0, none⟩)] [0, 1, 8] (Lo := [(0, .pointer (some ⟨p_a_, 0, none⟩)), (1, .int .i64 c_), (8, .pointer (some ⟨al_a_.m__p, 0, none⟩))]) (obs := [.cell ⟨p_a_, 3, none⟩ (.pointer (some ⟨al_a_.m__p, 0, none⟩))]) rfl (by kernel_rfl) ⟨H.cell 0 rfl rfl, trivial⟩ fun a hE => ?_
  obtain ⟨t_, et_, hm⟩ := bind_some hm
  refine WR.eff hE rfl rfl rfl rfl (OpTo.fn hE rfl rfl Tryz.call43 (meter_Meter_Tick_ok et_ H.t3)) ?_
  rintro _ w ⟨rfl, H⟩ a hE
  refine WR.done rfl ?_
  refine Runs.seq ?_
  refine Runs.seq ?_
  refine Runs.region ?_
  refine WR.seg hE 2 [] [0, 1, 10, 11] (Lo := [(0, .pointer (some ⟨p_a_, 0, none⟩)), (1, .int .i64 c_), (10, .pointer (some ⟨p_a_, 0, none⟩)), (11, .int .i64 c_)]) (obs := []) rfl (by kernel_rfl) trivial fun a hE => ?_
  replace H := arena_Arena.shut al_a_ (arena_Arena.mk a_.l a_.never a_.free t_) H.t3.t3.t3
  obtain ⟨t_1, et_1, hm⟩ := bind_some hm
  refine WR.eff hE rfl rfl rfl rfl (OpTo.fn hE rfl rfl Tryz.call44 (arena_Arena_Live_ok et_1 H)) ?_
  rintro _ w ⟨rfl, H⟩ a hE
  refine WR.seg hE 4 [] [0, 1, 13] (Lo := [(0, .pointer (some ⟨p_a_, 0, none⟩)), (1, .int .i64 c_), (13, .bool (!t_1))]) (obs := []) rfl (by kernel_rfl) trivial fun a hE => ?_
  refine WR.done rfl ?_
  refine Runs.cond hE rfl (fun c => ?_) (fun c => ?_)
  · replace hm := cond_t c hm
    refine Runs.seq ?_
    refine Runs.region ?_
    refine WR.seg hE 1 [] [4] (Lo := [(4, .bool false)]) (obs := []) rfl (by kernel_rfl) trivial fun a hE => ?_
    refine WR.done rfl ?_
    refine Runs.ret hE Tryz.func21 rfl rfl ?_
    cases hm
    exact ⟨al_a_.free_b, al_a_.free_c, rfl, H⟩
  · replace hm := cond_f c hm
    refine Runs.skip ?_
    refine Runs.seq ?_
    refine Runs.region ?_
    replace H := arena_Arena.open H
    try dsimp only at H
    obtain ⟨x, ex, hm⟩ := bind_some hm
    obtain ⟨b, o, hs, hb⟩ := SlRd.base (sl_rd 72 arena_cell.enc 11 _ _ _) arena_cell.enc_ok H 1 rfl ex
    refine WR.seg hE 7 [.slice al_a_.l_b a_.l.length al_a_.l_c, .pointer (some ⟨b, o, none⟩)] [0, 1, 20] (Lo := [(0, .pointer (some ⟨p_a_, 0, none⟩)), (1, .int .i64 c_), (20, .pointer (some ⟨b, o + (Int.toNat c_) * 11 + 10, none⟩))]) (obs := [.cell ⟨p_a_, 0, none⟩ (.slice al_a_.l_b a_.l.length al_a_.l_c), .p ((al_a_.l_b : Option Addr) = some ⟨b, o, none⟩), .p (0 ≤ (c_ : Int) ∧ (c_ : Int) < ((a_.l.length : Nat) : Int))]) rfl (by kernel_rfl) ⟨H.cell 0 rfl rfl, hs, hb, trivial⟩ fun a hE => ?_
    refine WR.eff0 hE rfl rfl rfl (OpTo.storeSl (q := 10) (x' := (arena_cell.mk x.f0 x.f1 x.f2 x.f3 x.f4 x.f5 x.f6 x.f7 x.f8 x.f9 false)) hE H.t1 arena_cell.enc_ok rfl hs ex rfl rfl rfl rfl rfl (Nat.le_of_ble_eq_true rfl) rfl) ?_
    rintro _ w H a hE
    rw [← mSet_len a_.l c_ (arena_cell.mk x.f0 x.f1 x.f2 x.f3 x.f4 x.f5 x.f6 x.f7 x.f8 x.f9 false)] at H
    refine WR.done rfl ?_
    refine Runs.seq ?_
    refine Runs.region ?_
    refine WR.seg hE 6 [.slice al_a_.free_b a_.free.length al_a_.free_c] [21, 25, 26] (Lo := [(21, .pointer (some ⟨p_a_, 0, none⟩)), (25, .slice al_a_.free_b a_.free.length al_a_.free_c), (26, .int .i64 c_)]) (obs := [.cell ⟨p_a_, 2, none⟩ (.slice al_a_.free_b a_.free.length al_a_.free_c)]) rfl (by kernel_rfl) ⟨H.cell 1 rfl rfl, trivial⟩ fun a hE => ?_
    refine WR.eff hE rfl rfl rfl rfl (OpTo.buildSl (T := 3) hE H ecI_ok ([c_] : List Int) rfl (fun _ => by kernel_rfl) rfl rfl rfl) ?_
    rintro _ w ⟨r, rfl, H⟩ a hE
    obtain ⟨l, el, hm⟩ := bind_some hm
    replace H := H.t3
    refine WR.eff hE rfl rfl rfl rfl (OpTo.appendM el hE H ecI_ok rfl rfl rfl rfl rfl rfl rfl rfl rfl rfl (SlRd.all (sl_rd 3 ecI 1 _ _ _) ecI_ok H 1 rfl) rfl) ?_
    rintro _ w ⟨sb, sc, rfl, H⟩ a hE
    refine WR.seg hE 10 [] [28, 30] (Lo := [(28, .slice sb l.length sc), (30, .pointer (some ⟨p_a_, 2, none⟩))]) (obs := []) rfl (by kernel_rfl) trivial fun a hE => ?_
    refine WR.eff0 hE rfl rfl rfl (OpTo.store hE H.t3 rfl rfl rfl rfl rfl rfl (Nat.le_of_ble_eq_true rfl)) ?_
    rintro _ w H a hE
    refine WR.done rfl ?_
    refine Runs.seq ?_
    refine Runs.region ?_
    refine WR.seg hE 1 [] [4] (Lo := [(4, .bool true)]) (obs := []) rfl (by kernel_rfl) trivial fun a hE => ?_
    refine WR.done rfl ?_
    replace H := arena_Arena.shut (arena_Arena.A.mk al_a_.l_b al_a_.l_c sb sc al_a_.m__p) (arena_Arena.mk (mSet a_.l c_ (arena_cell.mk x.f0 x.f1 x.f2 x.f3 x.f4 x.f5 x.f6 x.f7 x.f8 x.f9 false)) a_.never l t_) H.t4.t2.t4.t3
    refine Runs.ret hE Tryz.func21 rfl rfl ?_
    cases hm
    exact ⟨sb, sc, rfl, H.x1⟩

theorem thicketlaw11_world_push_at0_ok {w0 w : World} {As : List HP} {k : Nat} {p_w_ : Nat} {al_w_ : thicketlaw11_world.A} {w_ : thicketlaw11_world} {key : Int} {t : Bool × thicketlaw11_world}  (hm : thicketlaw11_world_push_at0 k w_ key = some t) (H : St w0 (thicketlaw11_world.R p_w_ al_w_ w_ :: As) w) :
    CallsR Tryz.prog 5 #[.pointer (some ⟨p_w_, 0, none⟩), .int .i64 0, .int .i64 key] w fun v w' => ∃ (z_w__a__a : arena_Arena.A), ∃ (z_w__has0_b : Option Addr), ∃ (z_w__has0_c : Nat), v = .bool t.1 ∧ St w0 (thicketlaw11_world.R p_w_ (thicketlaw11_world.A.mk al_w_.a__p z_w__a__a z_w__has0_b z_w__has0_c al_w_.has1_b al_w_.has1_c) t.2 :: As) w' := by
  rw [thicketlaw11_world_push_at0] at hm
  refine enter (args := [.pointer (some ⟨p_w_, 0, none⟩), .int .i64 0, .int .i64 key]) Tryz.func5 rfl rfl rfl fun a hE => ?_
  refine Runs.seq ?_
  refine Runs.region ?_
  refine WR.seg hE 1 [] [0, 1, 2] (Lo := [(0, .pointer (some ⟨p_w_, 0, none⟩)), (1, .int .i64 0), (2, .int .i64 key)]) (obs := []) rfl (by kernel_rfl) trivial fun a hE => ?_
  refine WR.done rfl ?_
  refine Runs.seq ?_
  refine Runs.drawn mixed (by kernel_rfl) ?_
  replace H := H.drew
  replace H := thicketlaw11_world.open H
  refine WQ.seg hE [0, 1, 2, 3, 4, 5, 6, 7, 8] [.pointer (some ⟨al_w_.a__p, 0, none⟩), .int .i64 w_.next] [0, 1, 2, 17, 18, 22] (Lo := [(0, .pointer (some ⟨p_w_, 0, none⟩)), (1, .int .i64 0), (2, .int .i64 key), (17, .pointer (some ⟨al_w_.a__p, 0, none⟩)), (18, .int .i64 key), (22, .int .i64 w_.next)]) (obs := [.cell ⟨p_w_, 0, none⟩ (.pointer (some ⟨al_w_.a__p, 0, none⟩)), .cell ⟨p_w_, 5, none⟩ (.int .i64 w_.next)]) (by kernel_rfl) (by kernel_rfl) ⟨H.cell 0 rfl rfl, H.cell 0 rfl rfl, trivial⟩ fun a hE => ?_
  obtain ⟨t_, et_, hm⟩ := bind_some hm
  refine WQ.eff (j := 9) (obs := []) hE (by kernel_rfl) rfl rfl rfl rfl (by kernel_rfl) (OpTo.fn hE rfl rfl Tryz.call16 (item_New_ok et_ H.t1)) ?_
  rintro _ w ⟨z, z1, rfl, H⟩
  refine ⟨trivial, fun a hE => ?_⟩
  refine WQ.seg hE [10, 11, 12, 13, 14] [] [0, 1, 2, 7, 8] (Lo := [(0, .pointer (some ⟨p_w_, 0, none⟩)), (1, .int .i64 0), (2, .int .i64 key), (7, .int .i64 t_.1), (8, .bool t_.2.1)]) (obs := []) (by kernel_rfl) (by kernel_rfl) trivial fun a hE => ?_
  refine WQ.done (by kernel_rfl) ?_
  refine Runs.seq ?_
  refine Runs.seq ?_
  refine Runs.region ?_
  refine WR.seg hE 2 [] [0, 1, 2, 7, 27] (Lo := [(0, .pointer (some ⟨p_w_, 0, none⟩)), (1, .int .i64 0), (2, .int .i64 key), (7, .int .i64 t_.1), (27, .bool (!t_.2.1))]) (obs := []) rfl (by kernel_rfl) trivial fun a hE => ?_
  refine WR.done rfl ?_
  refine Runs.cond hE rfl (fun c => ?_) (fun c => ?_)
  · replace hm := cond_t c hm
    refine Runs.seq ?_
    refine Runs.drawn mixed (by kernel_rfl) ?_
    replace H := H.drew
    refine WQ.seg hE [0, 1, 2, 3, 5, 6, 7, 8] [.pointer (some ⟨al_w_.a__p, 0, none⟩), .pointer (some ⟨al_w_.a__p, 0, none⟩)] [31, 36] (Lo := [(31, .pointer (some ⟨al_w_.a__p, 0, none⟩)), (36, .pointer (some ⟨al_w_.a__p, 0, none⟩))]) (obs := [.cell ⟨p_w_, 0, none⟩ (.pointer (some ⟨al_w_.a__p, 0, none⟩)), .cell ⟨p_w_, 0, none⟩ (.pointer (some ⟨al_w_.a__p, 0, none⟩))]) (by kernel_rfl) (by kernel_rfl) ⟨H.cell 1 rfl rfl, H.cell 1 rfl rfl, trivial⟩ fun a hE => ?_
    obtain ⟨t_1, et_1, hm⟩ := bind_some hm
    refine WQ.eff (j := 4) (obs := [.cell ⟨p_w_, 0, none⟩ (.pointer (some ⟨al_w_.a__p, 0, none⟩))]) hE (by kernel_rfl) rfl rfl rfl rfl (by kernel_rfl) (OpTo.fn hE rfl rfl Tryz.call12 (arena_Arena_Len_ok et_1 H)) ?_
    rintro _ w ⟨rfl, H⟩
    refine ⟨⟨H.cell 1 rfl rfl, trivial⟩, fun a hE => ?_⟩
    obtain ⟨t_2, et_2, hm⟩ := bind_some hm
    refine WQ.eff (j := 9) (obs := []) hE (by kernel_rfl) rfl rfl rfl rfl (by kernel_rfl) (OpTo.fn hE rfl rfl Tryz.call17 (arena_Arena_Cells_ok et_2 H)) ?_
    rintro _ w ⟨rfl, H⟩
    refine ⟨trivial, fun a hE => ?_⟩
    refine WQ.seg hE [10, 11] [] [6] (Lo := [(6, .bool (t_1 == t_2))]) (obs := []) (by kernel_rfl) (by kernel_rfl) trivial fun a hE => ?_
    refine WQ.done (by kernel_rfl) ?_
    replace H := thicketlaw11_world.shut (thicketlaw11_world.A.mk al_w_.a__p (arena_Arena.A.mk al_w_.a__a.l_b al_w_.a__a.l_c z z1 al_w_.a__a.m__p) al_w_.has0_b al_w_.has0_c al_w_.has1_b al_w_.has1_c) (thicketlaw11_world.mk t_.2.2 w_.root0 w_.root1 w_.has0 w_.has1 w_.next w_.spent w_.most) H.t3.t3.t2.t3
    refine Runs.ret hE Tryz.func5 rfl rfl ?_
    cases hm
    exact ⟨arena_Arena.A.mk al_w_.a__a.l_b al_w_.a__a.l_c z z1 al_w_.a__a.m__p, al_w_.has0_b, al_w_.has0_c, rfl, H⟩
  · replace hm := cond_f c hm
    refine Runs.skip ?_
    refine Runs.seq ?_
    refine Runs.drawn mixed (by kernel_rfl) ?_
    replace H := H.drew
    refine WQ.seg hE [0, 1, 2, 3, 5, 6, 7, 8] [.pointer (some ⟨al_w_.a__p, 0, none⟩), .pointer (some ⟨al_w_.a__p, 0, none⟩)] [0, 1, 2, 7, 42, 47] (Lo := [(0, .pointer (some ⟨p_w_, 0, none⟩)), (1, .int .i64 0), (2, .int .i64 key), (7, .int .i64 t_.1), (42, .pointer (some ⟨al_w_.a__p, 0, none⟩)), (47, .pointer (some ⟨al_w_.a__p, 0, none⟩))]) (obs := [.cell ⟨p_w_, 0, none⟩ (.pointer (some ⟨al_w_.a__p, 0, none⟩)), .cell ⟨p_w_, 0, none⟩ (.pointer (some ⟨al_w_.a__p, 0, none⟩))]) (by kernel_rfl) (by kernel_rfl) ⟨H.cell 1 rfl rfl, H.cell 1 rfl rfl, trivial⟩ fun a hE => ?_
    obtain ⟨t_3, et_3, hm⟩ := bind_some hm
    refine WQ.eff (j := 4) (obs := [.cell ⟨p_w_, 0, none⟩ (.pointer (some ⟨al_w_.a__p, 0, none⟩))]) hE (by kernel_rfl) rfl rfl rfl rfl (by kernel_rfl) (OpTo.fn hE rfl rfl Tryz.call12 (arena_Arena_Len_ok et_3 H)) ?_
    rintro _ w ⟨rfl, H⟩
    refine ⟨⟨H.cell 1 rfl rfl, trivial⟩, fun a hE => ?_⟩
    obtain ⟨t_4, et_4, hm⟩ := bind_some hm
    refine WQ.eff (j := 9) (obs := []) hE (by kernel_rfl) rfl rfl rfl rfl (by kernel_rfl) (OpTo.fn hE rfl rfl Tryz.call17 (arena_Arena_Cells_ok et_4 H)) ?_
    rintro _ w ⟨rfl, H⟩
    refine ⟨trivial, fun a hE => ?_⟩
    refine WQ.seg hE [10, 11] [] [0, 1, 2, 7, 9] (Lo := [(0, .pointer (some ⟨p_w_, 0, none⟩)), (1, .int .i64 0), (2, .int .i64 key), (7, .int .i64 t_.1), (9, .bool (decide (t_3 < t_4)))]) (obs := []) (by kernel_rfl) (by kernel_rfl) trivial fun a hE => ?_
    refine WQ.done (by kernel_rfl) ?_
    refine Runs.seq ?_
    refine Runs.region ?_
    refine WR.seg hE 4 [.pointer (some ⟨al_w_.a__p, 0, none⟩)] [0, 1, 2, 7, 9, 53] (Lo := [(0, .pointer (some ⟨p_w_, 0, none⟩)), (1, .int .i64 0), (2, .int .i64 key), (7, .int .i64 t_.1), (9, .bool (decide (t_3 < t_4))), (53, .pointer (some ⟨al_w_.a__p, 0, none⟩))]) (obs := [.cell ⟨p_w_, 0, none⟩ (.pointer (some ⟨al_w_.a__p, 0, none⟩))]) rfl (by kernel_rfl) ⟨H.cell 1 rfl rfl, trivial⟩ fun a hE => ?_
    obtain ⟨t_5, et_5, hm⟩ := bind_some hm
    refine WR.eff hE rfl rfl rfl rfl (OpTo.fn hE rfl rfl Tryz.call15 (arena_Arena_Meter_ok et_5 H)) ?_
    rintro _ w ⟨rfl, H⟩ a hE
    replace H := arena_Arena.open H
    try dsimp only at H
    obtain ⟨t_6, et_6, hm⟩ := bind_some hm
    refine WR.eff hE rfl rfl rfl rfl (OpTo.fn hE rfl rfl Tryz.call18 (meter_Meter_Steps_ok et_6 H.t3)) ?_
    rintro _ w ⟨rfl, H⟩ a hE
    refine WR.seg hE 7 [] [0, 1, 2, 7, 9, 10] (Lo := [(0, .pointer (some ⟨p_w_, 0, none⟩)), (1, .int .i64 0), (2, .int .i64 key), (7, .int .i64 t_.1), (9, .bool (decide (t_3 < t_4))), (10, .int .i64 t_6)]) (obs := []) rfl (by kernel_rfl) trivial fun a hE => ?_
    refine WR.done rfl ?_
    refine Runs.seq ?_
    refine Runs.drawn mixed (by kernel_rfl) ?_
    replace H := H.drew
    refine WQ.seg hE [0, 1, 2, 3, 4, 5, 6, 7, 8, 9, 10] [.pointer (some ⟨al_w_.a__p, 0, none⟩), .int .i64 w_.root0] [0, 1, 2, 7, 9, 10, 60, 66, 67] (Lo := [(0, .pointer (some ⟨p_w_, 0, none⟩)), (1, .int .i64 0), (2, .int .i64 key), (7, .int .i64 t_.1), (9, .bool (decide (t_3 < t_4))), (10, .int .i64 t_6), (60, .pointer (some ⟨al_w_.a__p, 0, none⟩)), (66, .int .i64 w_.root0), (67, .int .i64 t_.1)]) (obs := [.cell ⟨p_w_, 0, none⟩ (.pointer (some ⟨al_w_.a__p, 0, none⟩)), .p (0 ≤ (0 : Int) ∧ (0 : Int) < ((2 : Nat) : Int)), .cell ⟨p_w_, 1, none⟩ (.int .i64 w_.root0)]) (by kernel_rfl) (by kernel_rfl) ⟨H.cell 4 rfl rfl, ⟨by decide, by decide⟩, H.cell 4 rfl rfl, trivial⟩ fun a hE => ?_
    replace H := arena_Arena.shut (arena_Arena.A.mk al_w_.a__a.l_b al_w_.a__a.l_c z z1 al_w_.a__a.m__p) (t_.2.2) H.t3.t3.t3
    obtain ⟨t_7, et_7, hm⟩ := bind_some hm
    refine WQ.eff (j := 11) (obs := []) hE (by kernel_rfl) rfl rfl rfl rfl (by kernel_rfl) (OpTo.fn hE rfl rfl Tryz.call19 (skew_Push_ok et_7 H)) ?_
    rintro _ w ⟨z2, z3, rfl, H⟩
    refine ⟨trivial, fun a hE => ?_⟩
    refine WQ.seg hE [12, 13, 14, 15, 16] [] [0, 1, 2, 7, 9, 10, 11, 12] (Lo := [(0, .pointer (some ⟨p_w_, 0, none⟩)), (1, .int .i64 0), (2, .int .i64 key), (7, .int .i64 t_.1), (9, .bool (decide (t_3 < t_4))), (10, .int .i64 t_6), (11, .int .i64 t_7.1), (12, .bool t_7.2.1)]) (obs := []) (by kernel_rfl) (by kernel_rfl) trivial fun a hE => ?_
    refine WQ.done (by kernel_rfl) ?_
    refine Runs.seq ?_
    refine Runs.seq ?_
    replace H := thicketlaw11_world.shut (thicketlaw11_world.A.mk al_w_.a__p (arena_Arena.A.mk al_w_.a__a.l_b al_w_.a__a.l_c z2 z3 al_w_.a__a.m__p) al_w_.has0_b al_w_.has0_c al_w_.has1_b al_w_.has1_c) (thicketlaw11_world.mk t_7.2.2 w_.root0 w_.root1 w_.has0 w_.has1 w_.next w_.spent w_.most) H.t3.t3.t2.t3
    obtain ⟨s, es, hm⟩ := bind_some hm
    refine Runs.join (fun a w => EnvOk 142 a [(0, .pointer (some ⟨p_w_, 0, none⟩)), (1, .int .i64 0), (2, .int .i64 key), (7, .int .i64 t_.1), (11, .int .i64 t_7.1), (12, .bool t_7.2.1), (87, .bool s.1)] ∧ St w0 (thicketlaw11_world.R p_w_ (thicketlaw11_world.A.mk al_w_.a__p (arena_Arena.A.mk al_w_.a__a.l_b al_w_.a__a.l_c z2 z3 al_w_.a__a.m__p) al_w_.has0_b al_w_.has0_c al_w_.has1_b al_w_.has1_c) s.2 :: As) w) (fun hk => ?_) ?_
    · replace hm := es; clear es
      refine Runs.region ?_
      replace H := thicketlaw11_world.open H
      try dsimp only at H
      refine WR.seg hE 10 [.slice al_w_.has0_b w_.has0.length al_w_.has0_c] [0, 1, 2, 7, 9, 11, 12, 71, 72, 80] (Lo := [(0, .pointer (some ⟨p_w_, 0, none⟩)), (1, .int .i64 0), (2, .int .i64 key), (7, .int .i64 t_.1), (9, .bool (decide (t_3 < t_4))), (11, .int .i64 t_7.1), (12, .bool t_7.2.1), (71, .pointer (some ⟨p_w_, 0, none⟩)), (72, .int .i64 t_6), (80, .int .i64 (w64 ((w_.has0.length : Int) + 1)))]) (obs := [.p (0 ≤ (0 : Int) ∧ (0 : Int) < ((2 : Nat) : Int)), .cell ⟨p_w_, 3, none⟩ (.slice al_w_.has0_b w_.has0.length al_w_.has0_c)]) rfl (by kernel_rfl) ⟨⟨by decide, by decide⟩, H.cell 0 rfl rfl, trivial⟩ fun a hE => ?_
      replace H := thicketlaw11_world.shut (thicketlaw11_world.A.mk al_w_.a__p (arena_Arena.A.mk al_w_.a__a.l_b al_w_.a__a.l_c z2 z3 al_w_.a__a.m__p) al_w_.has0_b al_w_.has0_c al_w_.has1_b al_w_.has1_c) (thicketlaw11_world.mk t_7.2.2 w_.root0 w_.root1 w_.has0 w_.has1 w_.next w_.spent w_.most) H.t3.t3.t3.t3
      obtain ⟨t_8, et_8, hm⟩ := bind_some hm
      refine WR.eff hE rfl rfl rfl rfl (OpTo.fn hE rfl rfl Tryz.call20 (thicketlaw11_world_cost_ok et_8 H)) ?_
      rintro _ w ⟨rfl, hf, hf1, H⟩ a hE
      refine WR.seg hE 13 [] [0, 1, 2, 7, 9, 11, 12, 83] (Lo := [(0, .pointer (some ⟨p_w_, 0, none⟩)), (1, .int .i64 0), (2, .int .i64 key), (7, .int .i64 t_.1), (9, .bool (decide (t_3 < t_4))), (11, .int .i64 t_7.1), (12, .bool t_7.2.1), (83, .bool (!t_8.1))]) (obs := []) rfl (by kernel_rfl) trivial fun a hE => ?_
      rcases Bool.eq_false_or_eq_true (!t_8.1) with c | c
      · replace hE := hE.dec 83 c (by kernel_rfl)
        replace hm := cond_t c hm
        have c_ := c
        refine WR.seg hE 17 [] [0, 1, 2, 7, 11, 12, 87] (Lo := [(0, .pointer (some ⟨p_w_, 0, none⟩)), (1, .int .i64 0), (2, .int .i64 key), (7, .int .i64 t_.1), (11, .int .i64 t_7.1), (12, .bool t_7.2.1), (87, .bool true)]) (obs := []) rfl (by kernel_rfl) trivial fun a hE => ?_
        refine WR.done rfl ?_
        cases hm
        exact hk _ _ ⟨hE.sel [0, 1, 2, 7, 11, 12, 87] (by kernel_rfl), H⟩
      · replace hE := hE.dec 83 c (by kernel_rfl)
        replace hm := cond_f c hm
        have c_1 := c
        refine WR.seg hE 17 [] [0, 1, 2, 7, 11, 12, 87] (Lo := [(0, .pointer (some ⟨p_w_, 0, none⟩)), (1, .int .i64 0), (2, .int .i64 key), (7, .int .i64 t_.1), (11, .int .i64 t_7.1), (12, .bool t_7.2.1), (87, .bool (!(t_7.2.1 == (decide (t_3 < t_4)))))]) (obs := []) rfl (by kernel_rfl) trivial fun a hE => ?_
        refine WR.done rfl ?_
        cases hm
        exact hk _ _ ⟨hE.sel [0, 1, 2, 7, 11, 12, 87] (by kernel_rfl), H⟩
    rintro a w ⟨hE, H⟩
    refine Runs.cond hE rfl (fun c => ?_) (fun c => ?_)
    · replace hm := cond_t c hm
      refine Runs.seq ?_
      refine Runs.region ?_
      refine WR.seg hE 1 [] [6] (Lo := [(6, .bool false)]) (obs := []) rfl (by kernel_rfl) trivial fun a hE => ?_
      refine WR.done rfl ?_
      refine Runs.ret hE Tryz.func5 rfl rfl ?_
      cases hm
      exact ⟨arena_Arena.A.mk al_w_.a__a.l_b al_w_.a__a.l_c z2 z3 al_w_.a__a.m__p, al_w_.has0_b, al_w_.has0_c, rfl, H⟩
    · replace hm := cond_f c hm
      refine Runs.skip ?_
      refine Runs.seq ?_
      refine Runs.seq ?_
      refine Runs.region ?_
      refine WR.seg hE 2 [] [0, 1, 2, 7, 11, 89] (Lo := [(0, .pointer (some ⟨p_w_, 0, none⟩)), (1, .int .i64 0), (2, .int .i64 key), (7, .int .i64 t_.1), (11, .int .i64 t_7.1), (89, .bool (!t_7.2.1))]) (obs := []) rfl (by kernel_rfl) trivial fun a hE => ?_
      refine WR.done rfl ?_
      refine Runs.cond hE rfl (fun c => ?_) (fun c => ?_)
      · replace hm := cond_t c hm
        refine Runs.seq ?_
        obtain ⟨s1, es1, hm⟩ := bind_some hm
        refine Runs.join (fun a w => ∃ (z4 : arena_Arena.A), EnvOk 142 a [(6, .bool s1.1)] ∧ St w0 (thicketlaw11_world.R p_w_ (thicketlaw11_world.A.mk al_w_.a__p z4 al_w_.has0_b al_w_.has0_c al_w_.has1_b al_w_.has1_c) s1.2 :: As) w) (fun hk => ?_) ?_
        · replace hm := es1; clear es1
          refine Runs.region ?_
          replace H := thicketlaw11_world.open H
          try dsimp only at H
          refine WR.seg hE 9 [.int .i64 s.2.root0] [0, 7, 98] (Lo := [(0, .pointer (some ⟨p_w_, 0, none⟩)), (7, .int .i64 t_.1), (98, .bool (t_7.1 == s.2.root0))]) (obs := [.p (0 ≤ (0 : Int) ∧ (0 : Int) < ((2 : Nat) : Int)), .cell ⟨p_w_, 1, none⟩ (.int .i64 s.2.root0)]) rfl (by kernel_rfl) ⟨⟨by decide, by decide⟩, H.cell 0 rfl rfl, trivial⟩ fun a hE => ?_
          rcases Bool.eq_false_or_eq_true (t_7.1 == s.2.root0) with c | c
          · replace hE := hE.dec 98 c (by kernel_rfl)
            replace hm := cond_t c hm
            have c_2 := c
            refine WR.seg hE 14 [.pointer (some ⟨al_w_.a__p, 0, none⟩)] [98, 102, 103] (Lo := [(98, .bool true), (102, .pointer (some ⟨al_w_.a__p, 0, none⟩)), (103, .int .i64 t_.1)]) (obs := [.cell ⟨p_w_, 0, none⟩ (.pointer (some ⟨al_w_.a__p, 0, none⟩))]) rfl (by kernel_rfl) ⟨H.cell 0 rfl rfl, trivial⟩ fun a hE => ?_
            obtain ⟨t_9, et_9, hm⟩ := bind_some hm
            refine WR.eff hE rfl rfl rfl rfl (OpTo.fn hE rfl rfl Tryz.call21 (arena_Arena_Give_ok et_9 H.t1)) ?_
            rintro _ w ⟨z5, z6, rfl, H⟩ a hE
            refine WR.seg hE 17 [] [6] (Lo := [(6, .bool t_9.1)]) (obs := []) rfl (by kernel_rfl) trivial fun a hE => ?_
            refine WR.done rfl ?_
            replace H := thicketlaw11_world.shut (thicketlaw11_world.A.mk al_w_.a__p (arena_Arena.A.mk ((arena_Arena.A.mk al_w_.a__a.l_b al_w_.a__a.l_c z2 z3 al_w_.a__a.m__p).l_b) ((arena_Arena.A.mk al_w_.a__a.l_b al_w_.a__a.l_c z2 z3 al_w_.a__a.m__p).l_c) z5 z6 ((arena_Arena.A.mk al_w_.a__a.l_b al_w_.a__a.l_c z2 z3 al_w_.a__a.m__p).m__p)) al_w_.has0_b al_w_.has0_c al_w_.has1_b al_w_.has1_c) (thicketlaw11_world.mk t_9.2 s.2.root0 s.2.root1 s.2.has0 s.2.has1 s.2.next s.2.spent s.2.most) H.t3.t3.t2.t3
            cases hm
            exact hk _ _ ⟨arena_Arena.A.mk ((arena_Arena.A.mk al_w_.a__a.l_b al_w_.a__a.l_c z2 z3 al_w_.a__a.m__p).l_b) ((arena_Arena.A.mk al_w_.a__a.l_b al_w_.a__a.l_c z2 z3 al_w_.a__a.m__p).l_c) z5 z6 ((arena_Arena.A.mk al_w_.a__a.l_b al_w_.a__a.l_c z2 z3 al_w_.a__a.m__p).m__p), hE.sel [6] (by kernel_rfl), H⟩
          · replace hE := hE.dec 98 c (by kernel_rfl)
            replace hm := cond_f c hm
            have c_3 := c
            refine WR.seg hE 17 [] [6] (Lo := [(6, .bool false)]) (obs := []) rfl (by kernel_rfl) trivial fun a hE => ?_
            refine WR.done rfl ?_
            replace H := thicketlaw11_world.shut (thicketlaw11_world.A.mk al_w_.a__p (arena_Arena.A.mk al_w_.a__a.l_b al_w_.a__a.l_c z2 z3 al_w_.a__a.m__p) al_w_.has0_b al_w_.has0_c al_w_.has1_b al_w_.has1_c) (s.2) H.t3.t3.t3.t3
            cases hm
            exact hk _ _ ⟨arena_Arena.A.mk al_w_.a__a.l_b al_w_.a__a.l_c z2 z3 al_w_.a__a.m__p, hE.sel [6] (by kernel_rfl), H⟩
        rintro a w ⟨z4, hE, H⟩
        refine Runs.ret hE Tryz.func5 rfl rfl ?_
        cases hm
        exact ⟨z4, al_w_.has0_b, al_w_.has0_c, rfl, H⟩
      · replace hm := cond_f c hm
        refine Runs.skip ?_
        refine Runs.seq ?_
        refine Runs.region ?_
        refine WR.seg hE 6 [] [0, 1, 2, 7, 108, 111] (Lo := [(0, .pointer (some ⟨p_w_, 0, none⟩)), (1, .int .i64 0), (2, .int .i64 key), (7, .int .i64 t_.1), (108, .int .i64 t_7.1), (111, .pointer (some ⟨p_w_, 1, none⟩))]) (obs := [.p (0 ≤ (0 : Int) ∧ (0 : Int) < ((2 : Nat) : Int))]) rfl (by kernel_rfl) ⟨⟨by decide, by decide⟩, trivial⟩ fun a hE => ?_
        replace H := thicketlaw11_world.open H
        try dsimp only at H
        refine WR.eff0 hE rfl rfl rfl (OpTo.store hE H rfl rfl rfl rfl rfl rfl (Nat.le_of_ble_eq_true rfl)) ?_
        rintro _ w H a hE
        refine WR.done rfl ?_
        refine Runs.seq ?_
        replace H := thicketlaw11_world.shut (thicketlaw11_world.A.mk al_w_.a__p (arena_Arena.A.mk al_w_.a__a.l_b al_w_.a__a.l_c z2 z3 al_w_.a__a.m__p) al_w_.has0_b al_w_.has0_c al_w_.has1_b al_w_.has1_c) (thicketlaw11_world.mk s.2.a_ t_7.1 s.2.root1 s.2.has0 s.2.has1 s.2.next s.2.spent s.2.most) H.t3.t3.t3.t3
        obtain ⟨l, el, hm⟩ := bind_some hm
        obtain ⟨l1, el1, hm⟩ := bind_some hm
        refine Runs.join (fun a w => ∃ (z7 : Option Addr), ∃ (z8 : Nat), EnvOk 142 a [(0, .pointer (some ⟨p_w_, 0, none⟩))] ∧ St w0 (thicketlaw11_world.R p_w_ (thicketlaw11_world.A.mk al_w_.a__p (arena_Arena.A.mk al_w_.a__a.l_b al_w_.a__a.l_c z2 z3 al_w_.a__a.m__p) z7 z8 al_w_.has1_b al_w_.has1_c) (thicketlaw11_world.mk s.2.a_ t_7.1 s.2.root1 l1 s.2.has1 s.2.next s.2.spent s.2.most) :: As) w) (fun hk => ?_) ?_
        ·
          refine Runs.drawn mixed (by kernel_rfl) ?_
          replace H := H.drew
          replace H := thicketlaw11_world.open H
          try dsimp only at H
          refine WQ.seg hE [0, 1, 3, 4, 5, 6, 7, 8, 10, 11, 12, 13, 14, 15, 16, 17, 20, 21] [.slice al_w_.has0_b s.2.has0.length al_w_.has0_c, .int .i64 s.2.next] [0, 113, 120, 129, 133] (Lo := [(0, .pointer (some ⟨p_w_, 0, none⟩)), (113, .int .i64 0), (120, .slice al_w_.has0_b s.2.has0.length al_w_.has0_c), (129, .agg #[.int .i64 t_.1, .int .i64 key, .int .i64 s.2.next]), (133, .pointer (some ⟨p_w_, 3, none⟩))]) (obs := [.p (0 ≤ (0 : Int) ∧ (0 : Int) < ((2 : Nat) : Int)), .cell ⟨p_w_, 3, none⟩ (.slice al_w_.has0_b s.2.has0.length al_w_.has0_c), .cell ⟨p_w_, 5, none⟩ (.int .i64 s.2.next)]) (by kernel_rfl) (by kernel_rfl) ⟨⟨by decide, by decide⟩, H.cell 0 rfl rfl, H.cell 0 rfl rfl, trivial⟩ fun a hE => ?_
          refine WQ.act2 2 18 (by kernel_rfl) ?_ ?_
          ·
            refine AQ.eff (j := 2) (obs := [.cell ⟨p_w_, 5, none⟩ (.int .i64 s.2.next), .cell ⟨p_w_, 3, none⟩ (.slice al_w_.has0_b s.2.has0.length al_w_.has0_c), .p (0 ≤ (0 : Int) ∧ (0 : Int) < ((2 : Nat) : Int))]) hE rfl rfl rfl rfl (by kernel_rfl) (OpTo.buildSl (T := 48) hE H thicketlaw11_held.enc_ok ([] : List thicketlaw11_held) rfl (fun _ => by kernel_rfl) rfl rfl rfl) ?_
            rintro _ w ⟨r2, rfl, H⟩
            refine ⟨⟨H.cell 1 rfl rfl, H.cell 1 rfl rfl, ⟨by decide, by decide⟩, trivial⟩, fun a hE => ?_⟩
            refine WQ.act2 9 18 (by kernel_rfl) ?_ ?_
            ·
              refine AQ.eff (j := 9) (obs := [.cell ⟨p_w_, 5, none⟩ (.int .i64 s.2.next)]) hE rfl rfl rfl rfl (by kernel_rfl) (OpTo.appendM el hE H thicketlaw11_held.enc_ok rfl rfl rfl rfl rfl rfl rfl rfl rfl rfl (SlRd.all (sl_rd 48 thicketlaw11_held.enc 3 _ _ _) thicketlaw11_held.enc_ok H 3 rfl) rfl) ?_
              rintro _ w ⟨sb2, sc2, rfl, H⟩
              refine ⟨⟨H.cell 1 rfl rfl, trivial⟩, fun a hE => ?_⟩
              refine WQ.eff (j := 18) (obs := []) hE (by kernel_rfl) rfl rfl rfl rfl (by kernel_rfl) (OpTo.buildSl (T := 48) hE H thicketlaw11_held.enc_ok ([thicketlaw11_held.mk t_.1 (api_Entry.mk key s.2.next)] : List thicketlaw11_held) rfl (fun _ => by kernel_rfl) rfl rfl rfl) ?_
              rintro _ w ⟨r3, rfl, H⟩
              refine ⟨trivial, fun a hE => ?_⟩
              replace H := H.t1
              refine WQ.eff (j := 19) (obs := []) hE (by kernel_rfl) rfl rfl rfl rfl (by kernel_rfl) (OpTo.appendM el1 hE H thicketlaw11_held.enc_ok rfl rfl rfl rfl rfl rfl rfl rfl rfl rfl (SlRd.all (sl_rd 48 thicketlaw11_held.enc 3 _ _ _) thicketlaw11_held.enc_ok H 1 rfl) rfl) ?_
              rintro _ w ⟨sb3, sc3, rfl, H⟩
              refine ⟨trivial, fun a hE => ?_⟩
              refine WQ.seg hE [22] [] [0, 131, 134] (Lo := [(0, .pointer (some ⟨p_w_, 0, none⟩)), (131, .slice sb3 l1.length sc3), (134, .pointer (some ⟨p_w_, 3, none⟩))]) (obs := [.p (0 ≤ (0 : Int) ∧ (0 : Int) < ((2 : Nat) : Int))]) (by kernel_rfl) (by kernel_rfl) ⟨⟨by decide, by decide⟩, trivial⟩ fun a hE => ?_
              refine WQ.eff0 (j := 23) (obs := []) hE (by kernel_rfl) rfl rfl rfl (by kernel_rfl) (OpTo.store hE H.t2 rfl rfl rfl rfl rfl rfl (Nat.le_of_ble_eq_true rfl)) ?_
              rintro _ w H
              refine ⟨trivial, fun a hE => ?_⟩
              refine WQ.done (by kernel_rfl) ?_
              replace H := thicketlaw11_world.shut (thicketlaw11_world.A.mk al_w_.a__p (arena_Arena.A.mk al_w_.a__a.l_b al_w_.a__a.l_c z2 z3 al_w_.a__a.m__p) sb3 sc3 al_w_.has1_b al_w_.has1_c) (thicketlaw11_world.mk s.2.a_ t_7.1 s.2.root1 l1 s.2.has1 s.2.next s.2.spent s.2.most) H.t5.t2.t4.t3
              exact hk _ _ ⟨sb3, sc3, hE.sel [0] (by kernel_rfl), H.x2.x1⟩
            ·
              refine AQ.eff (j := 18) (obs := [.cell ⟨p_w_, 3, none⟩ (.slice al_w_.has0_b s.2.has0.length al_w_.has0_c), .p (0 ≤ (0 : Int) ∧ (0 : Int) < ((2 : Nat) : Int))]) hE rfl rfl rfl rfl (by kernel_rfl) (OpTo.buildSl (T := 48) hE H thicketlaw11_held.enc_ok ([thicketlaw11_held.mk t_.1 (api_Entry.mk key s.2.next)] : List thicketlaw11_held) rfl (fun _ => by kernel_rfl) rfl rfl rfl) ?_
              rintro _ w ⟨r4, rfl, H⟩
              refine ⟨⟨H.cell 2 rfl rfl, ⟨by decide, by decide⟩, trivial⟩, fun a hE => ?_⟩
              replace H := H.t1
              refine WQ.eff (j := 9) (obs := []) hE (by kernel_rfl) rfl rfl rfl rfl (by kernel_rfl) (OpTo.appendM el hE H thicketlaw11_held.enc_ok rfl rfl rfl rfl rfl rfl rfl rfl rfl rfl (SlRd.all (sl_rd 48 thicketlaw11_held.enc 3 _ _ _) thicketlaw11_held.enc_ok H 4 rfl) rfl) ?_
              rintro _ w ⟨sb4, sc4, rfl, H⟩
              refine ⟨trivial, fun a hE => ?_⟩
              refine WQ.eff (j := 19) (obs := []) hE (by kernel_rfl) rfl rfl rfl rfl (by kernel_rfl) (OpTo.appendM el1 hE H thicketlaw11_held.enc_ok rfl rfl rfl rfl rfl rfl rfl rfl rfl rfl (SlRd.all (sl_rd 48 thicketlaw11_held.enc 3 _ _ _) thicketlaw11_held.enc_ok H 1 rfl) rfl) ?_
              rintro _ w ⟨sb5, sc5, rfl, H⟩
              refine ⟨trivial, fun a hE => ?_⟩
              refine WQ.seg hE [22] [] [0, 131, 134] (Lo := [(0, .pointer (some ⟨p_w_, 0, none⟩)), (131, .slice sb5 l1.length sc5), (134, .pointer (some ⟨p_w_, 3, none⟩))]) (obs := [.p (0 ≤ (0 : Int) ∧ (0 : Int) < ((2 : Nat) : Int))]) (by kernel_rfl) (by kernel_rfl) ⟨⟨by decide, by decide⟩, trivial⟩ fun a hE => ?_
              refine WQ.eff0 (j := 23) (obs := []) hE (by kernel_rfl) rfl rfl rfl (by kernel_rfl) (OpTo.store hE H.t2 rfl rfl rfl rfl rfl rfl (Nat.le_of_ble_eq_true rfl)) ?_
              rintro _ w H
              refine ⟨trivial, fun a hE => ?_⟩
              refine WQ.done (by kernel_rfl) ?_
              replace H := thicketlaw11_world.shut (thicketlaw11_world.A.mk al_w_.a__p (arena_Arena.A.mk al_w_.a__a.l_b al_w_.a__a.l_c z2 z3 al_w_.a__a.m__p) sb5 sc5 al_w_.has1_b al_w_.has1_c) (thicketlaw11_world.mk s.2.a_ t_7.1 s.2.root1 l1 s.2.has1 s.2.next s.2.spent s.2.most) H.t5.t2.t4.t3
              exact hk _ _ ⟨sb5, sc5, hE.sel [0] (by kernel_rfl), H.x2.x1⟩
          ·
            refine AQ.eff (j := 18) (obs := [.cell ⟨p_w_, 3, none⟩ (.slice al_w_.has0_b s.2.has0.length al_w_.has0_c), .p (0 ≤ (0 : Int) ∧ (0 : Int) < ((2 : Nat) : Int))]) hE rfl rfl rfl rfl (by kernel_rfl) (OpTo.buildSl (T := 48) hE H thicketlaw11_held.enc_ok ([thicketlaw11_held.mk t_.1 (api_Entry.mk key s.2.next)] : List thicketlaw11_held) rfl (fun _ => by kernel_rfl) rfl rfl rfl) ?_
            rintro _ w ⟨r5, rfl, H⟩
            refine ⟨⟨H.cell 1 rfl rfl, ⟨by decide, by decide⟩, trivial⟩, fun a hE => ?_⟩
            refine WQ.eff (j := 2) (obs := [.cell ⟨p_w_, 3, none⟩ (.slice al_w_.has0_b s.2.has0.length al_w_.has0_c), .p (0 ≤ (0 : Int) ∧ (0 : Int) < ((2 : Nat) : Int))]) hE (by kernel_rfl) rfl rfl rfl rfl (by kernel_rfl) (OpTo.buildSl (T := 48) hE H thicketlaw11_held.enc_ok ([] : List thicketlaw11_held) rfl (fun _ => by kernel_rfl) rfl rfl rfl) ?_
            rintro _ w ⟨r6, rfl, H⟩
            refine ⟨⟨H.cell 2 rfl rfl, ⟨by decide, by decide⟩, trivial⟩, fun a hE => ?_⟩
            refine WQ.eff (j := 9) (obs := []) hE (by kernel_rfl) rfl rfl rfl rfl (by kernel_rfl) (OpTo.appendM el hE H thicketlaw11_held.enc_ok rfl rfl rfl rfl rfl rfl rfl rfl rfl rfl (SlRd.all (sl_rd 48 thicketlaw11_held.enc 3 _ _ _) thicketlaw11_held.enc_ok H 4 rfl) rfl) ?_
            rintro _ w ⟨sb6, sc6, rfl, H⟩
            refine ⟨trivial, fun a hE => ?_⟩
            refine WQ.eff (j := 19) (obs := []) hE (by kernel_rfl) rfl rfl rfl rfl (by kernel_rfl) (OpTo.appendM el1 hE H thicketlaw11_held.enc_ok rfl rfl rfl rfl rfl rfl rfl rfl rfl rfl (SlRd.all (sl_rd 48 thicketlaw11_held.enc 3 _ _ _) thicketlaw11_held.enc_ok H 1 rfl) rfl) ?_
            rintro _ w ⟨sb7, sc7, rfl, H⟩
            refine ⟨trivial, fun a hE => ?_⟩
            refine WQ.seg hE [22] [] [0, 131, 134] (Lo := [(0, .pointer (some ⟨p_w_, 0, none⟩)), (131, .slice sb7 l1.length sc7), (134, .pointer (some ⟨p_w_, 3, none⟩))]) (obs := [.p (0 ≤ (0 : Int) ∧ (0 : Int) < ((2 : Nat) : Int))]) (by kernel_rfl) (by kernel_rfl) ⟨⟨by decide, by decide⟩, trivial⟩ fun a hE => ?_
            refine WQ.eff0 (j := 23) (obs := []) hE (by kernel_rfl) rfl rfl rfl (by kernel_rfl) (OpTo.store hE H.t2 rfl rfl rfl rfl rfl rfl (Nat.le_of_ble_eq_true rfl)) ?_
            rintro _ w H
            refine ⟨trivial, fun a hE => ?_⟩
            refine WQ.done (by kernel_rfl) ?_
            replace H := thicketlaw11_world.shut (thicketlaw11_world.A.mk al_w_.a__p (arena_Arena.A.mk al_w_.a__a.l_b al_w_.a__a.l_c z2 z3 al_w_.a__a.m__p) sb7 sc7 al_w_.has1_b al_w_.has1_c) (thicketlaw11_world.mk s.2.a_ t_7.1 s.2.root1 l1 s.2.has1 s.2.next s.2.spent s.2.most) H.t5.t2.t4.t3
            exact hk _ _ ⟨sb7, sc7, hE.sel [0] (by kernel_rfl), H.x2.x1⟩
        rintro a w ⟨z7, z8, hE, H⟩
        refine Runs.seq ?_
        refine Runs.region ?_
        replace H := thicketlaw11_world.open H
        try dsimp only at H
        refine WR.seg hE 7 [.int .i64 ((thicketlaw11_world.mk s.2.a_ t_7.1 s.2.root1 l1 s.2.has1 s.2.next s.2.spent s.2.most).next)] [139, 141] (Lo := [(139, .int .i64 (w64 (((thicketlaw11_world.mk s.2.a_ t_7.1 s.2.root1 l1 s.2.has1 s.2.next s.2.spent s.2.most).next) + 1))), (141, .pointer (some ⟨p_w_, 5, none⟩))]) (obs := [.cell ⟨p_w_, 5, none⟩ (.int .i64 ((thicketlaw11_world.mk s.2.a_ t_7.1 s.2.root1 l1 s.2.has1 s.2.next s.2.spent s.2.most).next))]) rfl (by kernel_rfl) ⟨H.cell 0 rfl rfl, trivial⟩ fun a hE => ?_
        refine WR.eff0 hE rfl rfl rfl (OpTo.store hE H rfl rfl rfl rfl rfl rfl (Nat.le_of_ble_eq_true rfl)) ?_
        rintro _ w H a hE
        refine WR.done rfl ?_
        refine Runs.seq ?_
        refine Runs.region ?_
        refine WR.seg hE 1 [] [6] (Lo := [(6, .bool true)]) (obs := []) rfl (by kernel_rfl) trivial fun a hE => ?_
        refine WR.done rfl ?_
        replace H := thicketlaw11_world.shut (thicketlaw11_world.A.mk al_w_.a__p (arena_Arena.A.mk al_w_.a__a.l_b al_w_.a__a.l_c z2 z3 al_w_.a__a.m__p) z7 z8 al_w_.has1_b al_w_.has1_c) (thicketlaw11_world.mk ((thicketlaw11_world.mk s.2.a_ t_7.1 s.2.root1 l1 s.2.has1 s.2.next s.2.spent s.2.most).a_) ((thicketlaw11_world.mk s.2.a_ t_7.1 s.2.root1 l1 s.2.has1 s.2.next s.2.spent s.2.most).root0) ((thicketlaw11_world.mk s.2.a_ t_7.1 s.2.root1 l1 s.2.has1 s.2.next s.2.spent s.2.most).root1) ((thicketlaw11_world.mk s.2.a_ t_7.1 s.2.root1 l1 s.2.has1 s.2.next s.2.spent s.2.most).has0) ((thicketlaw11_world.mk s.2.a_ t_7.1 s.2.root1 l1 s.2.has1 s.2.next s.2.spent s.2.most).has1) (w64 (((thicketlaw11_world.mk s.2.a_ t_7.1 s.2.root1 l1 s.2.has1 s.2.next s.2.spent s.2.most).next) + 1)) ((thicketlaw11_world.mk s.2.a_ t_7.1 s.2.root1 l1 s.2.has1 s.2.next s.2.spent s.2.most).spent) ((thicketlaw11_world.mk s.2.a_ t_7.1 s.2.root1 l1 s.2.has1 s.2.next s.2.spent s.2.most).most)) H.t3.t3.t3.t3
        refine Runs.ret hE Tryz.func5 rfl rfl ?_
        cases hm
        exact ⟨arena_Arena.A.mk al_w_.a__a.l_b al_w_.a__a.l_c z2 z3 al_w_.a__a.m__p, z7, z8, rfl, H⟩

theorem thicketlaw11_world_push_at1_ok {w0 w : World} {As : List HP} {k : Nat} {p_w_ : Nat} {al_w_ : thicketlaw11_world.A} {w_ : thicketlaw11_world} {key : Int} {t : Bool × thicketlaw11_world}  (hm : thicketlaw11_world_push_at1 k w_ key = some t) (H : St w0 (thicketlaw11_world.R p_w_ al_w_ w_ :: As) w) :
    CallsR Tryz.prog 5 #[.pointer (some ⟨p_w_, 0, none⟩), .int .i64 1, .int .i64 key] w fun v w' => ∃ (z_w__a__a : arena_Arena.A), ∃ (z_w__has1_b : Option Addr), ∃ (z_w__has1_c : Nat), v = .bool t.1 ∧ St w0 (thicketlaw11_world.R p_w_ (thicketlaw11_world.A.mk al_w_.a__p z_w__a__a al_w_.has0_b al_w_.has0_c z_w__has1_b z_w__has1_c) t.2 :: As) w' := by
  rw [thicketlaw11_world_push_at1] at hm
  refine enter (args := [.pointer (some ⟨p_w_, 0, none⟩), .int .i64 1, .int .i64 key]) Tryz.func5 rfl rfl rfl fun a hE => ?_
  refine Runs.seq ?_
  refine Runs.region ?_
  refine WR.seg hE 1 [] [0, 1, 2] (Lo := [(0, .pointer (some ⟨p_w_, 0, none⟩)), (1, .int .i64 1), (2, .int .i64 key)]) (obs := []) rfl (by kernel_rfl) trivial fun a hE => ?_
  refine WR.done rfl ?_
  refine Runs.seq ?_
  refine Runs.drawn mixed (by kernel_rfl) ?_
  replace H := H.drew
  replace H := thicketlaw11_world.open H
  refine WQ.seg hE [0, 1, 2, 3, 4, 5, 6, 7, 8] [.pointer (some ⟨al_w_.a__p, 0, none⟩), .int .i64 w_.next] [0, 1, 2, 17, 18, 22] (Lo := [(0, .pointer (some ⟨p_w_, 0, none⟩)), (1, .int .i64 1), (2, .int .i64 key), (17, .pointer (some ⟨al_w_.a__p, 0, none⟩)), (18, .int .i64 key), (22, .int .i64 w_.next)]) (obs := [.cell ⟨p_w_, 0, none⟩ (.pointer (some ⟨al_w_.a__p, 0, none⟩)), .cell ⟨p_w_, 5, none⟩ (.int .i64 w_.next)]) (by kernel_rfl) (by kernel_rfl) ⟨H.cell 0 rfl rfl, H.cell 0 rfl rfl, trivial⟩ fun a hE => ?_
  obtain ⟨t_, et_, hm⟩ := bind_some hm
  refine WQ.eff (j := 9) (obs := []) hE (by kernel_rfl) rfl rfl rfl rfl (by kernel_rfl) (OpTo.fn hE rfl rfl Tryz.call16 (item_New_ok et_ H.t1)) ?_
  rintro _ w ⟨z, z1, rfl, H⟩
  refine ⟨trivial, fun a hE => ?_⟩
  refine WQ.seg hE [10, 11, 12, 13, 14] [] [0, 1, 2, 7, 8] (Lo := [(0, .pointer (some ⟨p_w_, 0, none⟩)), (1, .int .i64 1), (2, .int .i64 key), (7, .int .i64 t_.1), (8, .bool t_.2.1)]) (obs := []) (by kernel_rfl) (by kernel_rfl) trivial fun a hE => ?_
  refine WQ.done (by kernel_rfl) ?_
  refine Runs.seq ?_
  refine Runs.seq ?_
  refine Runs.region ?_
  refine WR.seg hE 2 [] [0, 1, 2, 7, 27] (Lo := [(0, .pointer (some ⟨p_w_, 0, none⟩)), (1, .int .i64 1), (2, .int .i64 key), (7, .int .i64 t_.1), (27, .bool (!t_.2.1))]) (obs := []) rfl (by kernel_rfl) trivial fun a hE => ?_
  refine WR.done rfl ?_
  refine Runs.cond hE rfl (fun c => ?_) (fun c => ?_)
  · replace hm := cond_t c hm
    refine Runs.seq ?_
    refine Runs.drawn mixed (by kernel_rfl) ?_
    replace H := H.drew
    refine WQ.seg hE [0, 1, 2, 3, 5, 6, 7, 8] [.pointer (some ⟨al_w_.a__p, 0, none⟩), .pointer (some ⟨al_w_.a__p, 0, none⟩)] [31, 36] (Lo := [(31, .pointer (some ⟨al_w_.a__p, 0, none⟩)), (36, .pointer (some ⟨al_w_.a__p, 0, none⟩))]) (obs := [.cell ⟨p_w_, 0, none⟩ (.pointer (some ⟨al_w_.a__p, 0, none⟩)), .cell ⟨p_w_, 0, none⟩ (.pointer (some ⟨al_w_.a__p, 0, none⟩))]) (by kernel_rfl) (by kernel_rfl) ⟨H.cell 1 rfl rfl, H.cell 1 rfl rfl, trivial⟩ fun a hE => ?_
    obtain ⟨t_1, et_1, hm⟩ := bind_some hm
    refine WQ.eff (j := 4) (obs := [.cell ⟨p_w_, 0, none⟩ (.pointer (some ⟨al_w_.a__p, 0, none⟩))]) hE (by kernel_rfl) rfl rfl rfl rfl (by kernel_rfl) (OpTo.fn hE rfl rfl Tryz.call12 (arena_Arena_Len_ok et_1 H)) ?_
    rintro _ w ⟨rfl, H⟩
    refine ⟨⟨H.cell 1 rfl rfl, trivial⟩, fun a hE => ?_⟩
    obtain ⟨t_2, et_2, hm⟩ := bind_some hm
    refine WQ.eff (j := 9) (obs := []) hE (by kernel_rfl) rfl rfl rfl rfl (by kernel_rfl) (OpTo.fn hE rfl rfl Tryz.call17 (arena_Arena_Cells_ok et_2 H)) ?_
    rintro _ w ⟨rfl, H⟩
    refine ⟨trivial, fun a hE => ?_⟩
    refine WQ.seg hE [10, 11] [] [6] (Lo := [(6, .bool (t_1 == t_2))]) (obs := []) (by kernel_rfl) (by kernel_rfl) trivial fun a hE => ?_
    refine WQ.done (by kernel_rfl) ?_
    replace H := thicketlaw11_world.shut (thicketlaw11_world.A.mk al_w_.a__p (arena_Arena.A.mk al_w_.a__a.l_b al_w_.a__a.l_c z z1 al_w_.a__a.m__p) al_w_.has0_b al_w_.has0_c al_w_.has1_b al_w_.has1_c) (thicketlaw11_world.mk t_.2.2 w_.root0 w_.root1 w_.has0 w_.has1 w_.next w_.spent w_.most) H.t3.t3.t2.t3
    refine Runs.ret hE Tryz.func5 rfl rfl ?_
    cases hm
    exact ⟨arena_Arena.A.mk al_w_.a__a.l_b al_w_.a__a.l_c z z1 al_w_.a__a.m__p, al_w_.has1_b, al_w_.has1_c, rfl, H⟩
  · replace hm := cond_f c hm
    refine Runs.skip ?_
    refine Runs.seq ?_
    refine Runs.drawn mixed (by kernel_rfl) ?_
    replace H := H.drew
    refine WQ.seg hE [0, 1, 2, 3, 5, 6, 7, 8] [.pointer (some ⟨al_w_.a__p, 0, none⟩), .pointer (some ⟨al_w_.a__p, 0, none⟩)] [0, 1, 2, 7, 42, 47] (Lo := [(0, .pointer (some ⟨p_w_, 0, none⟩)), (1, .int .i64 1), (2, .int .i64 key), (7, .int .i64 t_.1), (42, .pointer (some ⟨al_w_.a__p, 0, none⟩)), (47, .pointer (some ⟨al_w_.a__p, 0, none⟩))]) (obs := [.cell ⟨p_w_, 0, none⟩ (.pointer (some ⟨al_w_.a__p, 0, none⟩)), .cell ⟨p_w_, 0, none⟩ (.pointer (some ⟨al_w_.a__p, 0, none⟩))]) (by kernel_rfl) (by kernel_rfl) ⟨H.cell 1 rfl rfl, H.cell 1 rfl rfl, trivial⟩ fun a hE => ?_
    obtain ⟨t_3, et_3, hm⟩ := bind_some hm
    refine WQ.eff (j := 4) (obs := [.cell ⟨p_w_, 0, none⟩ (.pointer (some ⟨al_w_.a__p, 0, none⟩))]) hE (by kernel_rfl) rfl rfl rfl rfl (by kernel_rfl) (OpTo.fn hE rfl rfl Tryz.call12 (arena_Arena_Len_ok et_3 H)) ?_
    rintro _ w ⟨rfl, H⟩
    refine ⟨⟨H.cell 1 rfl rfl, trivial⟩, fun a hE => ?_⟩
    obtain ⟨t_4, et_4, hm⟩ := bind_some hm
    refine WQ.eff (j := 9) (obs := []) hE (by kernel_rfl) rfl rfl rfl rfl (by kernel_rfl) (OpTo.fn hE rfl rfl Tryz.call17 (arena_Arena_Cells_ok et_4 H)) ?_
    rintro _ w ⟨rfl, H⟩
    refine ⟨trivial, fun a hE => ?_⟩
    refine WQ.seg hE [10, 11] [] [0, 1, 2, 7, 9] (Lo := [(0, .pointer (some ⟨p_w_, 0, none⟩)), (1, .int .i64 1), (2, .int .i64 key), (7, .int .i64 t_.1), (9, .bool (decide (t_3 < t_4)))]) (obs := []) (by kernel_rfl) (by kernel_rfl) trivial fun a hE => ?_
    refine WQ.done (by kernel_rfl) ?_
    refine Runs.seq ?_
    refine Runs.region ?_
    refine WR.seg hE 4 [.pointer (some ⟨al_w_.a__p, 0, none⟩)] [0, 1, 2, 7, 9, 53] (Lo := [(0, .pointer (some ⟨p_w_, 0, none⟩)), (1, .int .i64 1), (2, .int .i64 key), (7, .int .i64 t_.1), (9, .bool (decide (t_3 < t_4))), (53, .pointer (some ⟨al_w_.a__p, 0, none⟩))]) (obs := [.cell ⟨p_w_, 0, none⟩ (.pointer (some ⟨al_w_.a__p, 0, none⟩))]) rfl (by kernel_rfl) ⟨H.cell 1 rfl rfl, trivial⟩ fun a hE => ?_
    obtain ⟨t_5, et_5, hm⟩ := bind_some hm
    refine WR.eff hE rfl rfl rfl rfl (OpTo.fn hE rfl rfl Tryz.call15 (arena_Arena_Meter_ok et_5 H)) ?_
    rintro _ w ⟨rfl, H⟩ a hE
    replace H := arena_Arena.open H
    try dsimp only at H
    obtain ⟨t_6, et_6, hm⟩ := bind_some hm
    refine WR.eff hE rfl rfl rfl rfl (OpTo.fn hE rfl rfl Tryz.call18 (meter_Meter_Steps_ok et_6 H.t3)) ?_
    rintro _ w ⟨rfl, H⟩ a hE
    refine WR.seg hE 7 [] [0, 1, 2, 7, 9, 10] (Lo := [(0, .pointer (some ⟨p_w_, 0, none⟩)), (1, .int .i64 1), (2, .int .i64 key), (7, .int .i64 t_.1), (9, .bool (decide (t_3 < t_4))), (10, .int .i64 t_6)]) (obs := []) rfl (by kernel_rfl) trivial fun a hE => ?_
    refine WR.done rfl ?_
    refine Runs.seq ?_
    refine Runs.drawn mixed (by kernel_rfl) ?_
    replace H := H.drew
    refine WQ.seg hE [0, 1, 2, 3, 4, 5, 6, 7, 8, 9, 10] [.pointer (some ⟨al_w_.a__p, 0, none⟩), .int .i64 w_.root1] [0, 1, 2, 7, 9, 10, 60, 66, 67] (Lo := [(0, .pointer (some ⟨p_w_, 0, none⟩)), (1, .int .i64 1), (2, .int .i64 key), (7, .int .i64 t_.1), (9, .bool (decide (t_3 < t_4))), (10, .int .i64 t_6), (60, .pointer (some ⟨al_w_.a__p, 0, none⟩)), (66, .int .i64 w_.root1), (67, .int .i64 t_.1)]) (obs := [.cell ⟨p_w_, 0, none⟩ (.pointer (some ⟨al_w_.a__p, 0, none⟩)), .p (0 ≤ (1 : Int) ∧ (1 : Int) < ((2 : Nat) : Int)), .cell ⟨p_w_, 2, none⟩ (.int .i64 w_.root1)]) (by kernel_rfl) (by kernel_rfl) ⟨H.cell 4 rfl rfl, ⟨by decide, by decide⟩, H.cell 4 rfl rfl, trivial⟩ fun a hE => ?_
    replace H := arena_Arena.shut (arena_Arena.A.mk al_w_.a__a.l_b al_w_.a__a.l_c z z1 al_w_.a__a.m__p) (t_.2.2) H.t3.t3.t3
    obtain ⟨t_7, et_7, hm⟩ := bind_some hm
    refine WQ.eff (j := 11) (obs := []) hE (by kernel_rfl) rfl rfl rfl rfl (by kernel_rfl) (OpTo.fn hE rfl rfl Tryz.call19 (skew_Push_ok et_7 H)) ?_
    rintro _ w ⟨z2, z3, rfl, H⟩
    refine ⟨trivial, fun a hE => ?_⟩
    refine WQ.seg hE [12, 13, 14, 15, 16] [] [0, 1, 2, 7, 9, 10, 11, 12] (Lo := [(0, .pointer (some ⟨p_w_, 0, none⟩)), (1, .int .i64 1), (2, .int .i64 key), (7, .int .i64 t_.1), (9, .bool (decide (t_3 < t_4))), (10, .int .i64 t_6), (11, .int .i64 t_7.1), (12, .bool t_7.2.1)]) (obs := []) (by kernel_rfl) (by kernel_rfl) trivial fun a hE => ?_
    refine WQ.done (by kernel_rfl) ?_
    refine Runs.seq ?_
    refine Runs.seq ?_
    replace H := thicketlaw11_world.shut (thicketlaw11_world.A.mk al_w_.a__p (arena_Arena.A.mk al_w_.a__a.l_b al_w_.a__a.l_c z2 z3 al_w_.a__a.m__p) al_w_.has0_b al_w_.has0_c al_w_.has1_b al_w_.has1_c) (thicketlaw11_world.mk t_7.2.2 w_.root0 w_.root1 w_.has0 w_.has1 w_.next w_.spent w_.most) H.t3.t3.t2.t3
    obtain ⟨s, es, hm⟩ := bind_some hm
    refine Runs.join (fun a w => EnvOk 142 a [(0, .pointer (some ⟨p_w_, 0, none⟩)), (1, .int .i64 1), (2, .int .i64 key), (7, .int .i64 t_.1), (11, .int .i64 t_7.1), (12, .bool t_7.2.1), (87, .bool s.1)] ∧ St w0 (thicketlaw11_world.R p_w_ (thicketlaw11_world.A.mk al_w_.a__p (arena_Arena.A.mk al_w_.a__a.l_b al_w_.a__a.l_c z2 z3 al_w_.a__a.m__p) al_w_.has0_b al_w_.has0_c al_w_.has1_b al_w_.has1_c) s.2 :: As) w) (fun hk => ?_) ?_
    · replace hm := es; clear es
      refine Runs.region ?_
      replace H := thicketlaw11_world.open H
      try dsimp only at H
      refine WR.seg hE 10 [.slice al_w_.has1_b w_.has1.length al_w_.has1_c] [0, 1, 2, 7, 9, 11, 12, 71, 72, 80] (Lo := [(0, .pointer (some ⟨p_w_, 0, none⟩)), (1, .int .i64 1), (2, .int .i64 key), (7, .int .i64 t_.1), (9, .bool (decide (t_3 < t_4))), (11, .int .i64 t_7.1), (12, .bool t_7.2.1), (71, .pointer (some ⟨p_w_, 0, none⟩)), (72, .int .i64 t_6), (80, .int .i64 (w64 ((w_.has1.length : Int) + 1)))]) (obs := [.p (0 ≤ (1 : Int) ∧ (1 : Int) < ((2 : Nat) : Int)), .cell ⟨p_w_, 4, none⟩ (.slice al_w_.has1_b w_.has1.length al_w_.has1_c)]) rfl (by kernel_rfl) ⟨⟨by decide, by decide⟩, H.cell 0 rfl rfl, trivial⟩ fun a hE => ?_
      replace H := thicketlaw11_world.shut (thicketlaw11_world.A.mk al_w_.a__p (arena_Arena.A.mk al_w_.a__a.l_b al_w_.a__a.l_c z2 z3 al_w_.a__a.m__p) al_w_.has0_b al_w_.has0_c al_w_.has1_b al_w_.has1_c) (thicketlaw11_world.mk t_7.2.2 w_.root0 w_.root1 w_.has0 w_.has1 w_.next w_.spent w_.most) H.t3.t3.t3.t3
      obtain ⟨t_8, et_8, hm⟩ := bind_some hm
      refine WR.eff hE rfl rfl rfl rfl (OpTo.fn hE rfl rfl Tryz.call20 (thicketlaw11_world_cost_ok et_8 H)) ?_
      rintro _ w ⟨rfl, hf, hf1, H⟩ a hE
      refine WR.seg hE 13 [] [0, 1, 2, 7, 9, 11, 12, 83] (Lo := [(0, .pointer (some ⟨p_w_, 0, none⟩)), (1, .int .i64 1), (2, .int .i64 key), (7, .int .i64 t_.1), (9, .bool (decide (t_3 < t_4))), (11, .int .i64 t_7.1), (12, .bool t_7.2.1), (83, .bool (!t_8.1))]) (obs := []) rfl (by kernel_rfl) trivial fun a hE => ?_
      rcases Bool.eq_false_or_eq_true (!t_8.1) with c | c
      · replace hE := hE.dec 83 c (by kernel_rfl)
        replace hm := cond_t c hm
        have c_ := c
        refine WR.seg hE 17 [] [0, 1, 2, 7, 11, 12, 87] (Lo := [(0, .pointer (some ⟨p_w_, 0, none⟩)), (1, .int .i64 1), (2, .int .i64 key), (7, .int .i64 t_.1), (11, .int .i64 t_7.1), (12, .bool t_7.2.1), (87, .bool true)]) (obs := []) rfl (by kernel_rfl) trivial fun a hE => ?_
        refine WR.done rfl ?_
        cases hm
        exact hk _ _ ⟨hE.sel [0, 1, 2, 7, 11, 12, 87] (by kernel_rfl), H⟩
      · replace hE := hE.dec 83 c (by kernel_rfl)
        replace hm := cond_f c hm
        have c_1 := c
        refine WR.seg hE 17 [] [0, 1, 2, 7, 11, 12, 87] (Lo := [(0, .pointer (some ⟨p_w_, 0, none⟩)), (1, .int .i64 1), (2, .int .i64 key), (7, .int .i64 t_.1), (11, .int .i64 t_7.1), (12, .bool t_7.2.1), (87, .bool (!(t_7.2.1 == (decide (t_3 < t_4)))))]) (obs := []) rfl (by kernel_rfl) trivial fun a hE => ?_
        refine WR.done rfl ?_
        cases hm
        exact hk _ _ ⟨hE.sel [0, 1, 2, 7, 11, 12, 87] (by kernel_rfl), H⟩
    rintro a w ⟨hE, H⟩
    refine Runs.cond hE rfl (fun c => ?_) (fun c => ?_)
    · replace hm := cond_t c hm
      refine Runs.seq ?_
      refine Runs.region ?_
      refine WR.seg hE 1 [] [6] (Lo := [(6, .bool false)]) (obs := []) rfl (by kernel_rfl) trivial fun a hE => ?_
      refine WR.done rfl ?_
      refine Runs.ret hE Tryz.func5 rfl rfl ?_
      cases hm
      exact ⟨arena_Arena.A.mk al_w_.a__a.l_b al_w_.a__a.l_c z2 z3 al_w_.a__a.m__p, al_w_.has1_b, al_w_.has1_c, rfl, H⟩
    · replace hm := cond_f c hm
      refine Runs.skip ?_
      refine Runs.seq ?_
      refine Runs.seq ?_
      refine Runs.region ?_
      refine WR.seg hE 2 [] [0, 1, 2, 7, 11, 89] (Lo := [(0, .pointer (some ⟨p_w_, 0, none⟩)), (1, .int .i64 1), (2, .int .i64 key), (7, .int .i64 t_.1), (11, .int .i64 t_7.1), (89, .bool (!t_7.2.1))]) (obs := []) rfl (by kernel_rfl) trivial fun a hE => ?_
      refine WR.done rfl ?_
      refine Runs.cond hE rfl (fun c => ?_) (fun c => ?_)
      · replace hm := cond_t c hm
        refine Runs.seq ?_
        obtain ⟨s1, es1, hm⟩ := bind_some hm
        refine Runs.join (fun a w => ∃ (z4 : arena_Arena.A), EnvOk 142 a [(6, .bool s1.1)] ∧ St w0 (thicketlaw11_world.R p_w_ (thicketlaw11_world.A.mk al_w_.a__p z4 al_w_.has0_b al_w_.has0_c al_w_.has1_b al_w_.has1_c) s1.2 :: As) w) (fun hk => ?_) ?_
        · replace hm := es1; clear es1
          refine Runs.region ?_
          replace H := thicketlaw11_world.open H
          try dsimp only at H
          refine WR.seg hE 9 [.int .i64 s.2.root1] [0, 7, 98] (Lo := [(0, .pointer (some ⟨p_w_, 0, none⟩)), (7, .int .i64 t_.1), (98, .bool (t_7.1 == s.2.root1))]) (obs := [.p (0 ≤ (1 : Int) ∧ (1 : Int) < ((2 : Nat) : Int)), .cell ⟨p_w_, 2, none⟩ (.int .i64 s.2.root1)]) rfl (by kernel_rfl) ⟨⟨by decide, by decide⟩, H.cell 0 rfl rfl, trivial⟩ fun a hE => ?_
          rcases Bool.eq_false_or_eq_true (t_7.1 == s.2.root1) with c | c
          · replace hE := hE.dec 98 c (by kernel_rfl)
            replace hm := cond_t c hm
            have c_2 := c
            refine WR.seg hE 14 [.pointer (some ⟨al_w_.a__p, 0, none⟩)] [98, 102, 103] (Lo := [(98, .bool true), (102, .pointer (some ⟨al_w_.a__p, 0, none⟩)), (103, .int .i64 t_.1)]) (obs := [.cell ⟨p_w_, 0, none⟩ (.pointer (some ⟨al_w_.a__p, 0, none⟩))]) rfl (by kernel_rfl) ⟨H.cell 0 rfl rfl, trivial⟩ fun a hE => ?_
            obtain ⟨t_9, et_9, hm⟩ := bind_some hm
            refine WR.eff hE rfl rfl rfl rfl (OpTo.fn hE rfl rfl Tryz.call21 (arena_Arena_Give_ok et_9 H.t1)) ?_
            rintro _ w ⟨z5, z6, rfl, H⟩ a hE
            refine WR.seg hE 17 [] [6] (Lo := [(6, .bool t_9.1)]) (obs := []) rfl (by kernel_rfl) trivial fun a hE => ?_
            refine WR.done rfl ?_
            replace H := thicketlaw11_world.shut (thicketlaw11_world.A.mk al_w_.a__p (arena_Arena.A.mk ((arena_Arena.A.mk al_w_.a__a.l_b al_w_.a__a.l_c z2 z3 al_w_.a__a.m__p).l_b) ((arena_Arena.A.mk al_w_.a__a.l_b al_w_.a__a.l_c z2 z3 al_w_.a__a.m__p).l_c) z5 z6 ((arena_Arena.A.mk al_w_.a__a.l_b al_w_.a__a.l_c z2 z3 al_w_.a__a.m__p).m__p)) al_w_.has0_b al_w_.has0_c al_w_.has1_b al_w_.has1_c) (thicketlaw11_world.mk t_9.2 s.2.root0 s.2.root1 s.2.has0 s.2.has1 s.2.next s.2.spent s.2.most) H.t3.t3.t2.t3
            cases hm
            exact hk _ _ ⟨arena_Arena.A.mk ((arena_Arena.A.mk al_w_.a__a.l_b al_w_.a__a.l_c z2 z3 al_w_.a__a.m__p).l_b) ((arena_Arena.A.mk al_w_.a__a.l_b al_w_.a__a.l_c z2 z3 al_w_.a__a.m__p).l_c) z5 z6 ((arena_Arena.A.mk al_w_.a__a.l_b al_w_.a__a.l_c z2 z3 al_w_.a__a.m__p).m__p), hE.sel [6] (by kernel_rfl), H⟩
          · replace hE := hE.dec 98 c (by kernel_rfl)
            replace hm := cond_f c hm
            have c_3 := c
            refine WR.seg hE 17 [] [6] (Lo := [(6, .bool false)]) (obs := []) rfl (by kernel_rfl) trivial fun a hE => ?_
            refine WR.done rfl ?_
            replace H := thicketlaw11_world.shut (thicketlaw11_world.A.mk al_w_.a__p (arena_Arena.A.mk al_w_.a__a.l_b al_w_.a__a.l_c z2 z3 al_w_.a__a.m__p) al_w_.has0_b al_w_.has0_c al_w_.has1_b al_w_.has1_c) (s.2) H.t3.t3.t3.t3
            cases hm
            exact hk _ _ ⟨arena_Arena.A.mk al_w_.a__a.l_b al_w_.a__a.l_c z2 z3 al_w_.a__a.m__p, hE.sel [6] (by kernel_rfl), H⟩
        rintro a w ⟨z4, hE, H⟩
        refine Runs.ret hE Tryz.func5 rfl rfl ?_
        cases hm
        exact ⟨z4, al_w_.has1_b, al_w_.has1_c, rfl, H⟩
      · replace hm := cond_f c hm
        refine Runs.skip ?_
        refine Runs.seq ?_
        refine Runs.region ?_
        refine WR.seg hE 6 [] [0, 1, 2, 7, 108, 111] (Lo := [(0, .pointer (some ⟨p_w_, 0, none⟩)), (1, .int .i64 1), (2, .int .i64 key), (7, .int .i64 t_.1), (108, .int .i64 t_7.1), (111, .pointer (some ⟨p_w_, 2, none⟩))]) (obs := [.p (0 ≤ (1 : Int) ∧ (1 : Int) < ((2 : Nat) : Int))]) rfl (by kernel_rfl) ⟨⟨by decide, by decide⟩, trivial⟩ fun a hE => ?_
        replace H := thicketlaw11_world.open H
        try dsimp only at H
        refine WR.eff0 hE rfl rfl rfl (OpTo.store hE H rfl rfl rfl rfl rfl rfl (Nat.le_of_ble_eq_true rfl)) ?_
        rintro _ w H a hE
        refine WR.done rfl ?_
        refine Runs.seq ?_
        replace H := thicketlaw11_world.shut (thicketlaw11_world.A.mk al_w_.a__p (arena_Arena.A.mk al_w_.a__a.l_b al_w_.a__a.l_c z2 z3 al_w_.a__a.m__p) al_w_.has0_b al_w_.has0_c al_w_.has1_b al_w_.has1_c) (thicketlaw11_world.mk s.2.a_ s.2.root0 t_7.1 s.2.has0 s.2.has1 s.2.next s.2.spent s.2.most) H.t3.t3.t3.t3
        obtain ⟨l, el, hm⟩ := bind_some hm
        obtain ⟨l1, el1, hm⟩ := bind_some hm
        refine Runs.join (fun a w => ∃ (z7 : Option Addr), ∃ (z8 : Nat), EnvOk 142 a [(0, .pointer (some ⟨p_w_, 0, none⟩))] ∧ St w0 (thicketlaw11_world.R p_w_ (thicketlaw11_world.A.mk al_w_.a__p (arena_Arena.A.mk al_w_.a__a.l_b al_w_.a__a.l_c z2 z3 al_w_.a__a.m__p) al_w_.has0_b al_w_.has0_c z7 z8) (thicketlaw11_world.mk s.2.a_ s.2.root0 t_7.1 s.2.has0 l1 s.2.next s.2.spent s.2.most) :: As) w) (fun hk => ?_) ?_
        ·
          refine Runs.drawn mixed (by kernel_rfl) ?_
          replace H := H.drew
          replace H := thicketlaw11_world.open H
          try dsimp only at H
          refine WQ.seg hE [0, 1, 3, 4, 5, 6, 7, 8, 10, 11, 12, 13, 14, 15, 16, 17, 20, 21] [.slice al_w_.has1_b s.2.has1.length al_w_.has1_c, .int .i64 s.2.next] [0, 113, 120, 129, 133] (Lo := [(0, .pointer (some ⟨p_w_, 0, none⟩)), (113, .int .i64 1), (120, .slice al_w_.has1_b s.2.has1.length al_w_.has1_c), (129, .agg #[.int .i64 t_.1, .int .i64 key, .int .i64 s.2.next]), (133, .pointer (some ⟨p_w_, 3, none⟩))]) (obs := [.p (0 ≤ (1 : Int) ∧ (1 : Int) < ((2 : Nat) : Int)), .cell ⟨p_w_, 4, none⟩ (.slice al_w_.has1_b s.2.has1.length al_w_.has1_c), .cell ⟨p_w_, 5, none⟩ (.int .i64 s.2.next)]) (by kernel_rfl) (by kernel_rfl) ⟨⟨by decide, by decide⟩, H.cell 0 rfl rfl, H.cell 0 rfl rfl, trivial⟩ fun a hE => ?_
          refine WQ.act2 2 18 (by kernel_rfl) ?_ ?_
          ·
            refine AQ.eff (j := 2) (obs := [.cell ⟨p_w_, 5, none⟩ (.int .i64 s.2.next), .cell ⟨p_w_, 4, none⟩ (.slice al_w_.has1_b s.2.has1.length al_w_.has1_c), .p (0 ≤ (1 : Int) ∧ (1 : Int) < ((2 : Nat) : Int))]) hE rfl rfl rfl rfl (by kernel_rfl) (OpTo.buildSl (T := 48) hE H thicketlaw11_held.enc_ok ([] : List thicketlaw11_held) rfl (fun _ => by kernel_rfl) rfl rfl rfl) ?_
            rintro _ w ⟨r2, rfl, H⟩
            refine ⟨⟨H.cell 1 rfl rfl, H.cell 1 rfl rfl, ⟨by decide, by decide⟩, trivial⟩, fun a hE => ?_⟩
            refine WQ.act2 9 18 (by kernel_rfl) ?_ ?_
            ·
              refine AQ.eff (j := 9) (obs := [.cell ⟨p_w_, 5, none⟩ (.int .i64 s.2.next)]) hE rfl rfl rfl rfl (by kernel_rfl) (OpTo.appendM el hE H thicketlaw11_held.enc_ok rfl rfl rfl rfl rfl rfl rfl rfl rfl rfl (SlRd.all (sl_rd 48 thicketlaw11_held.enc 3 _ _ _) thicketlaw11_held.enc_ok H 4 rfl) rfl) ?_
              rintro _ w ⟨sb2, sc2, rfl, H⟩
              refine ⟨⟨H.cell 1 rfl rfl, trivial⟩, fun a hE => ?_⟩
              refine WQ.eff (j := 18) (obs := []) hE (by kernel_rfl) rfl rfl rfl rfl (by kernel_rfl) (OpTo.buildSl (T := 48) hE H thicketlaw11_held.enc_ok ([thicketlaw11_held.mk t_.1 (api_Entry.mk key s.2.next)] : List thicketlaw11_held) rfl (fun _ => by kernel_rfl) rfl rfl rfl) ?_
              rintro _ w ⟨r3, rfl, H⟩
              refine ⟨trivial, fun a hE => ?_⟩
              replace H := H.t1
              refine WQ.eff (j := 19) (obs := []) hE (by kernel_rfl) rfl rfl rfl rfl (by kernel_rfl) (OpTo.appendM el1 hE H thicketlaw11_held.enc_ok rfl rfl rfl rfl rfl rfl rfl rfl rfl rfl (SlRd.all (sl_rd 48 thicketlaw11_held.enc 3 _ _ _) thicketlaw11_held.enc_ok H 1 rfl) rfl) ?_
              rintro _ w ⟨sb3, sc3, rfl, H⟩
              refine ⟨trivial, fun a hE => ?_⟩
              refine WQ.seg hE [22] [] [0, 131, 134] (Lo := [(0, .pointer (some ⟨p_w_, 0, none⟩)), (131, .slice sb3 l1.length sc3), (134, .pointer (some ⟨p_w_, 4, none⟩))]) (obs := [.p (0 ≤ (1 : Int) ∧ (1 : Int) < ((2 : Nat) : Int))]) (by kernel_rfl) (by kernel_rfl) ⟨⟨by decide, by decide⟩, trivial⟩ fun a hE => ?_
              refine WQ.eff0 (j := 23) (obs := []) hE (by kernel_rfl) rfl rfl rfl (by kernel_rfl) (OpTo.store hE H.t2 rfl rfl rfl rfl rfl rfl (Nat.le_of_ble_eq_true rfl)) ?_
              rintro _ w H
              refine ⟨trivial, fun a hE => ?_⟩
              refine WQ.done (by kernel_rfl) ?_
              replace H := thicketlaw11_world.shut (thicketlaw11_world.A.mk al_w_.a__p (arena_Arena.A.mk al_w_.a__a.l_b al_w_.a__a.l_c z2 z3 al_w_.a__a.m__p) al_w_.has0_b al_w_.has0_c sb3 sc3) (thicketlaw11_world.mk s.2.a_ s.2.root0 t_7.1 s.2.has0 l1 s.2.next s.2.spent s.2.most) H.t1.t4.t4.t3
              exact hk _ _ ⟨sb3, sc3, hE.sel [0] (by kernel_rfl), H.x2.x1⟩
            ·
              refine AQ.eff (j := 18) (obs := [.cell ⟨p_w_, 4, none⟩ (.slice al_w_.has1_b s.2.has1.length al_w_.has1_c), .p (0 ≤ (1 : Int) ∧ (1 : Int) < ((2 : Nat) : Int))]) hE rfl rfl rfl rfl (by kernel_rfl) (OpTo.buildSl (T := 48) hE H thicketlaw11_held.enc_ok ([thicketlaw11_held.mk t_.1 (api_Entry.mk key s.2.next)] : List thicketlaw11_held) rfl (fun _ => by kernel_rfl) rfl rfl rfl) ?_
              rintro _ w ⟨r4, rfl, H⟩
              refine ⟨⟨H.cell 2 rfl rfl, ⟨by decide, by decide⟩, trivial⟩, fun a hE => ?_⟩
              replace H := H.t1
              refine WQ.eff (j := 9) (obs := []) hE (by kernel_rfl) rfl rfl rfl rfl (by kernel_rfl) (OpTo.appendM el hE H thicketlaw11_held.enc_ok rfl rfl rfl rfl rfl rfl rfl rfl rfl rfl (SlRd.all (sl_rd 48 thicketlaw11_held.enc 3 _ _ _) thicketlaw11_held.enc_ok H 5 rfl) rfl) ?_
              rintro _ w ⟨sb4, sc4, rfl, H⟩
              refine ⟨trivial, fun a hE => ?_⟩
              refine WQ.eff (j := 19) (obs := []) hE (by kernel_rfl) rfl rfl rfl rfl (by kernel_rfl) (OpTo.appendM el1 hE H thicketlaw11_held.enc_ok rfl rfl rfl rfl rfl rfl rfl rfl rfl rfl (SlRd.all (sl_rd 48 thicketlaw11_held.enc 3 _ _ _) thicketlaw11_held.enc_ok H 1 rfl) rfl) ?_
              rintro _ w ⟨sb5, sc5, rfl, H⟩
              refine ⟨trivial, fun a hE => ?_⟩
              refine WQ.seg hE [22] [] [0, 131, 134] (Lo := [(0, .pointer (some ⟨p_w_, 0, none⟩)), (131, .slice sb5 l1.length sc5), (134, .pointer (some ⟨p_w_, 4, none⟩))]) (obs := [.p (0 ≤ (1 : Int) ∧ (1 : Int) < ((2 : Nat) : Int))]) (by kernel_rfl) (by kernel_rfl) ⟨⟨by decide, by decide⟩, trivial⟩ fun a hE => ?_
              refine WQ.eff0 (j := 23) (obs := []) hE (by kernel_rfl) rfl rfl rfl (by kernel_rfl) (OpTo.store hE H.t2 rfl rfl rfl rfl rfl rfl (Nat.le_of_ble_eq_true rfl)) ?_
              rintro _ w H
              refine ⟨trivial, fun a hE => ?_⟩
              refine WQ.done (by kernel_rfl) ?_
              replace H := thicketlaw11_world.shut (thicketlaw11_world.A.mk al_w_.a__p (arena_Arena.A.mk al_w_.a__a.l_b al_w_.a__a.l_c z2 z3 al_w_.a__a.m__p) al_w_.has0_b al_w_.has0_c sb5 sc5) (thicketlaw11_world.mk s.2.a_ s.2.root0 t_7.1 s.2.has0 l1 s.2.next s.2.spent s.2.most) H.t1.t4.t4.t3
              exact hk _ _ ⟨sb5, sc5, hE.sel [0] (by kernel_rfl), H.x2.x1⟩
          ·
            refine AQ.eff (j := 18) (obs := [.cell ⟨p_w_, 4, none⟩ (.slice al_w_.has1_b s.2.has1.length al_w_.has1_c), .p (0 ≤ (1 : Int) ∧ (1 : Int) < ((2 : Nat) : Int))]) hE rfl rfl rfl rfl (by kernel_rfl) (OpTo.buildSl (T := 48) hE H thicketlaw11_held.enc_ok ([thicketlaw11_held.mk t_.1 (api_Entry.mk key s.2.next)] : List thicketlaw11_held) rfl (fun _ => by kernel_rfl) rfl rfl rfl) ?_
            rintro _ w ⟨r5, rfl, H⟩
            refine ⟨⟨H.cell 1 rfl rfl, ⟨by decide, by decide⟩, trivial⟩, fun a hE => ?_⟩
            refine WQ.eff (j := 2) (obs := [.cell ⟨p_w_, 4, none⟩ (.slice al_w_.has1_b s.2.has1.length al_w_.has1_c), .p (0 ≤ (1 : Int) ∧ (1 : Int) < ((2 : Nat) : Int))]) hE (by kernel_rfl) rfl rfl rfl rfl (by kernel_rfl) (OpTo.buildSl (T := 48) hE H thicketlaw11_held.enc_ok ([] : List thicketlaw11_held) rfl (fun _ => by kernel_rfl) rfl rfl rfl) ?_
            rintro _ w ⟨r6, rfl, H⟩
            refine ⟨⟨H.cell 2 rfl rfl, ⟨by decide, by decide⟩, trivial⟩, fun a hE => ?_⟩
            refine WQ.eff (j := 9) (obs := []) hE (by kernel_rfl) rfl rfl rfl rfl (by kernel_rfl) (OpTo.appendM el hE H thicketlaw11_held.enc_ok rfl rfl rfl rfl rfl rfl rfl rfl rfl rfl (SlRd.all (sl_rd 48 thicketlaw11_held.enc 3 _ _ _) thicketlaw11_held.enc_ok H 5 rfl) rfl) ?_
            rintro _ w ⟨sb6, sc6, rfl, H⟩
            refine ⟨trivial, fun a hE => ?_⟩
            refine WQ.eff (j := 19) (obs := []) hE (by kernel_rfl) rfl rfl rfl rfl (by kernel_rfl) (OpTo.appendM el1 hE H thicketlaw11_held.enc_ok rfl rfl rfl rfl rfl rfl rfl rfl rfl rfl (SlRd.all (sl_rd 48 thicketlaw11_held.enc 3 _ _ _) thicketlaw11_held.enc_ok H 1 rfl) rfl) ?_
            rintro _ w ⟨sb7, sc7, rfl, H⟩
            refine ⟨trivial, fun a hE => ?_⟩
            refine WQ.seg hE [22] [] [0, 131, 134] (Lo := [(0, .pointer (some ⟨p_w_, 0, none⟩)), (131, .slice sb7 l1.length sc7), (134, .pointer (some ⟨p_w_, 4, none⟩))]) (obs := [.p (0 ≤ (1 : Int) ∧ (1 : Int) < ((2 : Nat) : Int))]) (by kernel_rfl) (by kernel_rfl) ⟨⟨by decide, by decide⟩, trivial⟩ fun a hE => ?_
            refine WQ.eff0 (j := 23) (obs := []) hE (by kernel_rfl) rfl rfl rfl (by kernel_rfl) (OpTo.store hE H.t2 rfl rfl rfl rfl rfl rfl (Nat.le_of_ble_eq_true rfl)) ?_
            rintro _ w H
            refine ⟨trivial, fun a hE => ?_⟩
            refine WQ.done (by kernel_rfl) ?_
            replace H := thicketlaw11_world.shut (thicketlaw11_world.A.mk al_w_.a__p (arena_Arena.A.mk al_w_.a__a.l_b al_w_.a__a.l_c z2 z3 al_w_.a__a.m__p) al_w_.has0_b al_w_.has0_c sb7 sc7) (thicketlaw11_world.mk s.2.a_ s.2.root0 t_7.1 s.2.has0 l1 s.2.next s.2.spent s.2.most) H.t1.t4.t4.t3
            exact hk _ _ ⟨sb7, sc7, hE.sel [0] (by kernel_rfl), H.x2.x1⟩
        rintro a w ⟨z7, z8, hE, H⟩
        refine Runs.seq ?_
        refine Runs.region ?_
        replace H := thicketlaw11_world.open H
        try dsimp only at H
        refine WR.seg hE 7 [.int .i64 ((thicketlaw11_world.mk s.2.a_ s.2.root0 t_7.1 s.2.has0 l1 s.2.next s.2.spent s.2.most).next)] [139, 141] (Lo := [(139, .int .i64 (w64 (((thicketlaw11_world.mk s.2.a_ s.2.root0 t_7.1 s.2.has0 l1 s.2.next s.2.spent s.2.most).next) + 1))), (141, .pointer (some ⟨p_w_, 5, none⟩))]) (obs := [.cell ⟨p_w_, 5, none⟩ (.int .i64 ((thicketlaw11_world.mk s.2.a_ s.2.root0 t_7.1 s.2.has0 l1 s.2.next s.2.spent s.2.most).next))]) rfl (by kernel_rfl) ⟨H.cell 0 rfl rfl, trivial⟩ fun a hE => ?_
        refine WR.eff0 hE rfl rfl rfl (OpTo.store hE H rfl rfl rfl rfl rfl rfl (Nat.le_of_ble_eq_true rfl)) ?_
        rintro _ w H a hE
        refine WR.done rfl ?_
        refine Runs.seq ?_
        refine Runs.region ?_
        refine WR.seg hE 1 [] [6] (Lo := [(6, .bool true)]) (obs := []) rfl (by kernel_rfl) trivial fun a hE => ?_
        refine WR.done rfl ?_
        replace H := thicketlaw11_world.shut (thicketlaw11_world.A.mk al_w_.a__p (arena_Arena.A.mk al_w_.a__a.l_b al_w_.a__a.l_c z2 z3 al_w_.a__a.m__p) al_w_.has0_b al_w_.has0_c z7 z8) (thicketlaw11_world.mk ((thicketlaw11_world.mk s.2.a_ s.2.root0 t_7.1 s.2.has0 l1 s.2.next s.2.spent s.2.most).a_) ((thicketlaw11_world.mk s.2.a_ s.2.root0 t_7.1 s.2.has0 l1 s.2.next s.2.spent s.2.most).root0) ((thicketlaw11_world.mk s.2.a_ s.2.root0 t_7.1 s.2.has0 l1 s.2.next s.2.spent s.2.most).root1) ((thicketlaw11_world.mk s.2.a_ s.2.root0 t_7.1 s.2.has0 l1 s.2.next s.2.spent s.2.most).has0) ((thicketlaw11_world.mk s.2.a_ s.2.root0 t_7.1 s.2.has0 l1 s.2.next s.2.spent s.2.most).has1) (w64 (((thicketlaw11_world.mk s.2.a_ s.2.root0 t_7.1 s.2.has0 l1 s.2.next s.2.spent s.2.most).next) + 1)) ((thicketlaw11_world.mk s.2.a_ s.2.root0 t_7.1 s.2.has0 l1 s.2.next s.2.spent s.2.most).spent) ((thicketlaw11_world.mk s.2.a_ s.2.root0 t_7.1 s.2.has0 l1 s.2.next s.2.spent s.2.most).most)) H.t3.t3.t3.t3
        refine Runs.ret hE Tryz.func5 rfl rfl ?_
        cases hm
        exact ⟨arena_Arena.A.mk al_w_.a__a.l_b al_w_.a__a.l_c z2 z3 al_w_.a__a.m__p, z7, z8, rfl, H⟩

theorem thicketlaw11_world_push_ok {w0 w : World} {As : List HP} {k : Nat} {p_w_ : Nat} {al_w_ : thicketlaw11_world.A} {w_ : thicketlaw11_world} {key : Int} {h_ : Int} {t : Bool × thicketlaw11_world}  (hm : thicketlaw11_world_push k w_ h_ key = some t) (H : St w0 (thicketlaw11_world.R p_w_ al_w_ w_ :: As) w) :
    CallsR Tryz.prog 5 #[.pointer (some ⟨p_w_, 0, none⟩), .int .i64 h_, .int .i64 key] w fun v w' => ∃ (z_w__a__a : arena_Arena.A), ∃ (z_w__has0_b : Option Addr), ∃ (z_w__has0_c : Nat), ∃ (z_w__has1_b : Option Addr), ∃ (z_w__has1_c : Nat), v = .bool t.1 ∧ St w0 (thicketlaw11_world.R p_w_ (thicketlaw11_world.A.mk al_w_.a__p z_w__a__a z_w__has0_b z_w__has0_c z_w__has1_b z_w__has1_c) t.2 :: As) w' := by
  rw [thicketlaw11_world_push] at hm
  by_cases h0 : h_ = 0
  · subst h0; simp only [if_pos] at hm
    refine (thicketlaw11_world_push_at0_ok hm H).mono ?_
    rintro v w' ⟨y_0, y_1, y_2, hv, H⟩; exact ⟨y_0, y_1, y_2, al_w_.has1_b, al_w_.has1_c, hv, H⟩
  rw [if_neg h0] at hm
  by_cases h1 : h_ = 1
  · subst h1; simp only [if_pos] at hm
    refine (thicketlaw11_world_push_at1_ok hm H).mono ?_
    rintro v w' ⟨y_0, y_1, y_2, hv, H⟩; exact ⟨y_0, al_w_.has0_b, al_w_.has0_c, y_1, y_2, hv, H⟩
  rw [if_neg h1] at hm
  cases hm

theorem node_Row_ok {w0 w : World} {As : List HP} {k : Nat} {p_a_ : Nat} {al_a_ : arena_Arena.A} {a_ : arena_Arena} {n : Int} {field : Int} {t : (List Int) × arena_Arena}  (hm : node_Row k a_ n field = some t) (H : St w0 (arena_Arena.R p_a_ al_a_ a_ :: As) w) :
    CallsR Tryz.prog 68 #[.pointer (some ⟨p_a_, 0, none⟩), .int .i64 n, .int .i64 field] w fun v w' => ∃ (sb0 : Option Addr), ∃ (sc0 : Nat), v = .slice sb0 t.1.length sc0 ∧ St w0 (Sl 3 ecI 1 sb0 sc0 t.1 :: arena_Arena.R p_a_ al_a_ t.2 :: As) w' := by
  rw [node_Row] at hm
  refine enter (args := [.pointer (some ⟨p_a_, 0, none⟩), .int .i64 n, .int .i64 field]) Tryz.func68 rfl rfl rfl fun a hE => ?_
  refine Runs.seq ?_
  refine Runs.region ?_
  refine WR.seg hE 1 [] [0, 1, 2] (Lo := [(0, .pointer (some ⟨p_a_, 0, none⟩)), (1, .int .i64 n), (2, .int .i64 field)]) (obs := []) rfl (by kernel_rfl) trivial fun a hE => ?_
  refine WR.done rfl ?_
  refine Runs.seq ?_
  refine Runs.region ?_
  refine WR.seg hE 1 [] [0, 1, 2, 7] (Lo := [(0, .pointer (some ⟨p_a_, 0, none⟩)), (1, .int .i64 n), (2, .int .i64 field), (7, .slice none 0 0)]) (obs := []) rfl (by kernel_rfl) trivial fun a hE => ?_
  refine WR.done rfl ?_
  refine Runs.seq ?_
  obtain ⟨s, es, hm⟩ := bind_some hm
  refine Runs.join (fun a w => ∃ (sb1 : Option Addr), ∃ (sc1 : Nat), EnvOk 27 a [(7, .slice sb1 s.1.length sc1)] ∧ St w0 (Sl 3 ecI 1 sb1 sc1 s.1 :: arena_Arena.R p_a_ al_a_ s.2 :: As) w) (fun hk => ?_) ?_
  · replace hm := es; clear es
    replace H := H.slNil 3 ecI 1
    refine Runs.block ?_
    refine Runs.loop (fun m a w => ∃ (n1 : Int), ∃ (out : List Int), ∃ (m_ : arena_Arena), ∃ (sb2 : Option Addr), ∃ (sc2 : Nat), EnvOk 27 a [(0, .pointer (some ⟨p_a_, 0, none⟩)), (1, .int .i64 n1), (2, .int .i64 field), (7, .slice sb2 out.length sc2)] ∧ St w0 (Sl 3 ecI 1 sb2 sc2 out :: arena_Arena.R p_a_ al_a_ m_ :: As) w ∧ node_Row_l0 field m n1 out m_ = some s) k ⟨n, ([] : List Int), a_, none, 0, hE.sel [0, 1, 2, 7] (by kernel_rfl), H.t1.t1, hm⟩ ?_
    rintro m ih a w ⟨n1, out, m_, sb2, sc2, hE, H, hm⟩
    cases m with
    | zero => simp [node_Row_l0] at hm
    | succ m =>
      rw [node_Row_l0] at hm
      refine Runs.seq ?_
      refine Runs.seq ?_
      obtain ⟨s1, es1, hm⟩ := bind_some hm
      refine Runs.join (fun a w => EnvOk 27 a [(0, .pointer (some ⟨p_a_, 0, none⟩)), (1, .int .i64 n1), (2, .int .i64 field), (7, .slice sb2 out.length sc2), (17, .bool s1)] ∧ St w0 (Sl 3 ecI 1 sb2 sc2 out :: arena_Arena.R p_a_ al_a_ m_ :: As) w) (fun hk => ?_) ?_
      · replace hm := es1; clear es1
        refine Runs.region ?_
        refine WR.seg hE 2 [] [0, 1, 2, 7, 8, 9] (Lo := [(0, .pointer (some ⟨p_a_, 0, none⟩)), (1, .int .i64 n1), (2, .int .i64 field), (7, .slice sb2 out.length sc2), (8, .pointer (some ⟨p_a_, 0, none⟩)), (9, .int .i64 n1)]) (obs := []) rfl (by kernel_rfl) trivial fun a hE => ?_
        obtain ⟨t_, et_, hm⟩ := bind_some hm
        refine WR.eff hE rfl rfl rfl rfl (OpTo.fn hE rfl rfl Tryz.call44 (arena_Arena_Live_ok et_ H.t1)) ?_
        rintro _ w ⟨rfl, H⟩ a hE
        refine WR.seg hE 4 [] [0, 1, 2, 7, 11] (Lo := [(0, .pointer (some ⟨p_a_, 0, none⟩)), (1, .int .i64 n1), (2, .int .i64 field), (7, .slice sb2 out.length sc2), (11, .bool t_)]) (obs := []) rfl (by kernel_rfl) trivial fun a hE => ?_
        rcases Bool.eq_false_or_eq_true t_ with c | c
        · replace hE := hE.dec 11 c (by kernel_rfl)
          replace hm := cond_t c hm
          have c_ := c
          refine WR.seg hE 7 [] [0, 1, 2, 7, 11, 13, 14] (Lo := [(0, .pointer (some ⟨p_a_, 0, none⟩)), (1, .int .i64 n1), (2, .int .i64 field), (7, .slice sb2 out.length sc2), (11, .bool true), (13, .int .i64 (out.length : Int)), (14, .pointer (some ⟨p_a_, 0, none⟩))]) (obs := []) rfl (by kernel_rfl) trivial fun a hE => ?_
          obtain ⟨t_1, et_1, hm⟩ := bind_some hm
          refine WR.eff hE rfl rfl rfl rfl (OpTo.fn hE rfl rfl Tryz.call17 (arena_Arena_Cells_ok et_1 H)) ?_
          rintro _ w ⟨rfl, H⟩ a hE
          refine WR.seg hE 10 [] [0, 1, 2, 7, 17] (Lo := [(0, .pointer (some ⟨p_a_, 0, none⟩)), (1, .int .i64 n1), (2, .int .i64 field), (7, .slice sb2 out.length sc2), (17, .bool (decide ((out.length : Int) < t_1)))]) (obs := []) rfl (by kernel_rfl) trivial fun a hE => ?_
          refine WR.done rfl ?_
          cases hm
          exact hk _ _ ⟨hE.sel [0, 1, 2, 7, 17] (by kernel_rfl), H.t1⟩
        · replace hE := hE.dec 11 c (by kernel_rfl)
          replace hm := cond_f c hm
          have c_1 := c
          refine WR.seg hE 10 [] [0, 1, 2, 7, 17] (Lo := [(0, .pointer (some ⟨p_a_, 0, none⟩)), (1, .int .i64 n1), (2, .int .i64 field), (7, .slice sb2 out.length sc2), (17, .bool false)]) (obs := []) rfl (by kernel_rfl) trivial fun a hE => ?_
          refine WR.done rfl ?_
          cases hm
          exact hk _ _ ⟨hE.sel [0, 1, 2, 7, 17] (by kernel_rfl), H.t1⟩
      rintro a w ⟨hE, H⟩
      refine Runs.cond hE rfl (fun c => ?_) (fun c => ?_)
      · replace hm := cond_t c hm
        refine Runs.skip ?_
        refine Runs.block ?_
        refine Runs.seq ?_
        refine Runs.region ?_
        refine WR.seg hE 2 [] [0, 1, 2, 7, 18, 19] (Lo := [(0, .pointer (some ⟨p_a_, 0, none⟩)), (1, .int .i64 n1), (2, .int .i64 field), (7, .slice sb2 out.length sc2), (18, .slice sb2 out.length sc2), (19, .int .i64 n1)]) (obs := []) rfl (by kernel_rfl) trivial fun a hE => ?_
        refine WR.eff hE rfl rfl rfl rfl (OpTo.buildSl (T := 3) hE H ecI_ok ([n1] : List Int) rfl (fun _ => by kernel_rfl) rfl rfl rfl) ?_
        rintro _ w ⟨r, rfl, H⟩ a hE
        obtain ⟨l, el, hm⟩ := bind_some hm
        replace H := H.t1
        refine WR.eff hE rfl rfl rfl rfl (OpTo.appendM el hE H ecI_ok rfl rfl rfl rfl rfl rfl rfl rfl rfl rfl (SlRd.all (sl_rd 3 ecI 1 _ _ _) ecI_ok H 1 rfl) rfl) ?_
        rintro _ w ⟨sb3, sc3, rfl, H⟩ a hE
        refine WR.seg hE 5 [] [0, 1, 2, 7] (Lo := [(0, .pointer (some ⟨p_a_, 0, none⟩)), (1, .int .i64 n1), (2, .int .i64 field), (7, .slice sb3 l.length sc3)]) (obs := []) rfl (by kernel_rfl) trivial fun a hE => ?_
        refine WR.done rfl ?_
        refine Runs.region ?_
        refine WR.seg hE 3 [] [0, 1, 2, 7, 22, 23, 24] (Lo := [(0, .pointer (some ⟨p_a_, 0, none⟩)), (1, .int .i64 n1), (2, .int .i64 field), (7, .slice sb3 l.length sc3), (22, .pointer (some ⟨p_a_, 0, none⟩)), (23, .int .i64 n1), (24, .int .i64 field)]) (obs := []) rfl (by kernel_rfl) trivial fun a hE => ?_
        obtain ⟨t_2, et_2, hm⟩ := bind_some hm
        refine WR.eff hE rfl rfl rfl rfl (OpTo.fn hE rfl rfl Tryz.call45 (arena_Arena_Cell_ok et_2 H.t2)) ?_
        rintro _ w ⟨rfl, H⟩ a hE
        refine WR.seg hE 5 [] [0, 1, 2, 7] (Lo := [(0, .pointer (some ⟨p_a_, 0, none⟩)), (1, .int .i64 t_2.1), (2, .int .i64 field), (7, .slice sb3 l.length sc3)]) (obs := []) rfl (by kernel_rfl) trivial fun a hE => ?_
        refine WR.done rfl ?_
        refine Runs.inBlock ?_
        exact ih m (Nat.lt_succ_self m) _ _ ⟨t_2.1, l, t_2.2, sb3, sc3, hE.sel [0, 1, 2, 7] (by kernel_rfl), H.x2.t1, hm⟩
      · replace hm := cond_f c hm
        refine Runs.exit rfl ?_
        cases hm
        exact hk _ _ ⟨sb2, sc2, hE.sel [7] (by kernel_rfl), H.t1.t1⟩
  rintro a w ⟨sb1, sc1, hE, H⟩
  refine Runs.seq ?_
  refine Runs.region ?_
  refine WR.seg hE 2 [] [6] (Lo := [(6, .slice sb1 s.1.length sc1)]) (obs := []) rfl (by kernel_rfl) trivial fun a hE => ?_
  refine WR.done rfl ?_
  refine Runs.ret hE Tryz.func68 rfl rfl ?_
  cases hm
  exact ⟨sb1, sc1, rfl, H.t1.t1⟩

theorem trees_List_ok {w0 w : World} {As : List HP} {k : Nat} {p_a_ : Nat} {al_a_ : arena_Arena.A} {a_ : arena_Arena} {r : Int} {t : (List Int) × arena_Arena}  (hm : trees_List k a_ r = some t) (H : St w0 (arena_Arena.R p_a_ al_a_ a_ :: As) w) :
    CallsR Tryz.prog 47 #[.pointer (some ⟨p_a_, 0, none⟩), .int .i64 r] w fun v w' => ∃ (sb0 : Option Addr), ∃ (sc0 : Nat), v = .slice sb0 t.1.length sc0 ∧ St w0 (Sl 3 ecI 1 sb0 sc0 t.1 :: arena_Arena.R p_a_ al_a_ t.2 :: As) w' := by
  rw [trees_List] at hm
  refine enter (args := [.pointer (some ⟨p_a_, 0, none⟩), .int .i64 r]) Tryz.func47 rfl rfl rfl fun a hE => ?_
  refine Runs.seq ?_
  refine Runs.region ?_
  refine WR.seg hE 1 [] [0, 1] (Lo := [(0, .pointer (some ⟨p_a_, 0, none⟩)), (1, .int .i64 r)]) (obs := []) rfl (by kernel_rfl) trivial fun a hE => ?_
  refine WR.done rfl ?_
  refine Runs.seq ?_
  refine Runs.region ?_
  refine WR.seg hE 2 [] [5, 6] (Lo := [(5, .pointer (some ⟨p_a_, 0, none⟩)), (6, .int .i64 r)]) (obs := []) rfl (by kernel_rfl) trivial fun a hE => ?_
  obtain ⟨t_, et_, hm⟩ := bind_some hm
  refine WR.eff hE rfl rfl rfl rfl (OpTo.fn hE rfl rfl Tryz.call68 (node_Row_ok et_ H)) ?_
  rintro _ w ⟨sb, sc, rfl, H⟩ a hE
  refine WR.seg hE 4 [] [4] (Lo := [(4, .slice sb t_.1.length sc)]) (obs := []) rfl (by kernel_rfl) trivial fun a hE => ?_
  refine WR.done rfl ?_
  refine Runs.ret hE Tryz.func47 rfl rfl ?_
  cases hm
  exact ⟨sb, sc, rfl, H.t1.t1⟩

theorem trees_Best_ok {w0 w : World} {As : List HP} {k : Nat} {p_a_ : Nat} {al_a_ : arena_Arena.A} {a_ : arena_Arena} {sb_l : Option Addr} {sc_l : Nat} {l : List Int} {X_l : HP} {t : Int × arena_Arena} (hX_l : SlRd X_l ecI 1 sb_l l) (hC_l : l.length ≤ sc_l) (hm : trees_Best k a_ l = some t) (H : St w0 (arena_Arena.R p_a_ al_a_ a_ :: X_l :: As) w) :
    CallsR Tryz.prog 46 #[.pointer (some ⟨p_a_, 0, none⟩), .slice sb_l l.length sc_l] w fun v w' => v = .int .i64 t.1 ∧ St w0 (arena_Arena.R p_a_ al_a_ t.2 :: X_l :: As) w' := by
  rw [trees_Best] at hm
  refine enter (args := [.pointer (some ⟨p_a_, 0, none⟩), .slice sb_l l.length sc_l]) Tryz.func46 rfl rfl rfl fun a hE => ?_
  refine Runs.seq ?_
  refine Runs.region ?_
  refine WR.seg hE 1 [] [0, 1] (Lo := [(0, .pointer (some ⟨p_a_, 0, none⟩)), (1, .slice sb_l l.length sc_l)]) (obs := []) rfl (by kernel_rfl) trivial fun a hE => ?_
  refine WR.done rfl ?_
  refine Runs.seq ?_
  refine Runs.region ?_
  refine WR.seg hE 1 [] [0, 1, 5] (Lo := [(0, .pointer (some ⟨p_a_, 0, none⟩)), (1, .slice sb_l l.length sc_l), (5, .int .i64 (-1))]) (obs := []) rfl (by kernel_rfl) trivial fun a hE => ?_
  refine WR.done rfl ?_
  refine Runs.seq ?_
  refine Runs.seq ?_
  refine Runs.region ?_
  refine WR.seg hE 3 [] [0, 5, 8, 9, 10] (Lo := [(0, .pointer (some ⟨p_a_, 0, none⟩)), (5, .int .i64 (-1)), (8, .slice sb_l l.length sc_l), (9, .int .i64 (l.length : Int)), (10, .int .i64 0)]) (obs := []) rfl (by kernel_rfl) trivial fun a hE => ?_
  refine WR.done rfl ?_
  obtain ⟨s, es, hm⟩ := bind_some hm
  refine Runs.join (fun a w => EnvOk 25 a [(5, .int .i64 s.1)] ∧ St w0 (arena_Arena.R p_a_ al_a_ s.2 :: X_l :: As) w) (fun hk => ?_) ?_
  · replace hm := es; clear es
    refine Runs.block ?_
    refine Runs.loop (fun m a w => ∃ (best : Int), ∃ (x : Int), ∃ (m_ : arena_Arena), EnvOk 25 a [(0, .pointer (some ⟨p_a_, 0, none⟩)), (5, .int .i64 best), (8, .slice sb_l l.length sc_l), (9, .int .i64 (l.length : Int)), (10, .int .i64 x)] ∧ St w0 (arena_Arena.R p_a_ al_a_ m_ :: X_l :: As) w ∧ trees_Best_l0 (l.length : Int) l m best x m_ = some s) k ⟨(-1), 0, a_, hE.sel [0, 5, 8, 9, 10] (by kernel_rfl), H.t1.t1, hm⟩ ?_
    rintro m ih a w ⟨best, x, m_, hE, H, hm⟩
    cases m with
    | zero => simp [trees_Best_l0] at hm
    | succ m =>
      rw [trees_Best_l0] at hm
      refine Runs.seq ?_
      refine Runs.region ?_
      refine WR.seg hE 1 [] [0, 5, 8, 9, 10, 11] (Lo := [(0, .pointer (some ⟨p_a_, 0, none⟩)), (5, .int .i64 best), (8, .slice sb_l l.length sc_l), (9, .int .i64 (l.length : Int)), (10, .int .i64 x), (11, .bool (decide (x < (l.length : Int))))]) (obs := []) rfl (by kernel_rfl) trivial fun a hE => ?_
      refine WR.done rfl ?_
      refine Runs.seq ?_
      refine Runs.cond hE rfl (fun c => ?_) (fun c => ?_)
      · replace hm := cond_t c hm
        refine Runs.skip ?_
        refine Runs.seq ?_
        obtain ⟨s1, es1, hm⟩ := bind_some hm
        refine Runs.join (fun a w => EnvOk 25 a [(0, .pointer (some ⟨p_a_, 0, none⟩)), (5, .int .i64 s1.1), (8, .slice sb_l l.length sc_l), (9, .int .i64 (l.length : Int)), (10, .int .i64 x)] ∧ St w0 (arena_Arena.R p_a_ al_a_ s1.2 :: X_l :: As) w) (fun hk => ?_) ?_
        · replace hm := es1; clear es1
          refine Runs.block ?_
          refine Runs.seq ?_
          refine Runs.region ?_
          obtain ⟨x2, ex2, hm⟩ := bind_some hm
          obtain ⟨b, o, hs, hb⟩ := SlRd.base hX_l ecI_ok H 1 rfl ex2
          refine WR.seg hE 3 [.pointer (some ⟨b, o, none⟩), .int .i64 x2] [0, 5, 7, 8, 9, 10] (Lo := [(0, .pointer (some ⟨p_a_, 0, none⟩)), (5, .int .i64 best), (7, .int .i64 x2), (8, .slice sb_l l.length sc_l), (9, .int .i64 (l.length : Int)), (10, .int .i64 x)]) (obs := [.p ((sb_l : Option Addr) = some ⟨b, o, none⟩), .p (0 ≤ (x : Int) ∧ (x : Int) < ((l.length : Nat) : Int)), .cell ⟨b, o + (Int.toNat x) * 1, none⟩ (.int .i64 x2)]) rfl (by kernel_rfl) ⟨hs, hb, SlRd.cells hX_l ecI_ok H 1 rfl hs ex2 0 _ rfl, trivial⟩ fun a hE => ?_
          refine WR.done rfl ?_
          refine Runs.seq ?_
          obtain ⟨s2, es2, hm⟩ := bind_some hm
          refine Runs.join (fun a w => EnvOk 25 a [(0, .pointer (some ⟨p_a_, 0, none⟩)), (5, .int .i64 best), (7, .int .i64 x2), (8, .slice sb_l l.length sc_l), (9, .int .i64 (l.length : Int)), (10, .int .i64 x), (21, .bool s2.1)] ∧ St w0 (arena_Arena.R p_a_ al_a_ s2.2 :: X_l :: As) w) (fun hk => ?_) ?_
          · replace hm := es2; clear es2
            refine Runs.region ?_
            refine WR.seg hE 3 [] [0, 5, 7, 8, 9, 10, 16] (Lo := [(0, .pointer (some ⟨p_a_, 0, none⟩)), (5, .int .i64 best), (7, .int .i64 x2), (8, .slice sb_l l.length sc_l), (9, .int .i64 (l.length : Int)), (10, .int .i64 x), (16, .bool (best == (-1)))]) (obs := []) rfl (by kernel_rfl) trivial fun a hE => ?_
            rcases Bool.eq_false_or_eq_true (best == (-1)) with c | c
            · replace hE := hE.dec 16 c (by kernel_rfl)
              replace hm := cond_t c hm
              have c_ := c
              refine WR.seg hE 8 [] [0, 5, 7, 8, 9, 10, 21] (Lo := [(0, .pointer (some ⟨p_a_, 0, none⟩)), (5, .int .i64 best), (7, .int .i64 x2), (8, .slice sb_l l.length sc_l), (9, .int .i64 (l.length : Int)), (10, .int .i64 x), (21, .bool true)]) (obs := []) rfl (by kernel_rfl) trivial fun a hE => ?_
              refine WR.done rfl ?_
              cases hm
              exact hk _ _ ⟨hE.sel [0, 5, 7, 8, 9, 10, 21] (by kernel_rfl), H.t1.t1⟩
            · replace hE := hE.dec 16 c (by kernel_rfl)
              replace hm := cond_f c hm
              have c_1 := c
              refine WR.seg hE 6 [] [0, 5, 7, 8, 9, 10, 16, 17, 18, 19] (Lo := [(0, .pointer (some ⟨p_a_, 0, none⟩)), (5, .int .i64 best), (7, .int .i64 x2), (8, .slice sb_l l.length sc_l), (9, .int .i64 (l.length : Int)), (10, .int .i64 x), (16, .bool false), (17, .pointer (some ⟨p_a_, 0, none⟩)), (18, .int .i64 x2), (19, .int .i64 best)]) (obs := []) rfl (by kernel_rfl) trivial fun a hE => ?_
              obtain ⟨t_, et_, hm⟩ := bind_some hm
              refine WR.eff hE rfl rfl rfl rfl (OpTo.fn hE rfl rfl Tryz.call62 (node_Before_ok et_ H)) ?_
              rintro _ w ⟨rfl, H⟩ a hE
              refine WR.seg hE 8 [] [0, 5, 7, 8, 9, 10, 21] (Lo := [(0, .pointer (some ⟨p_a_, 0, none⟩)), (5, .int .i64 best), (7, .int .i64 x2), (8, .slice sb_l l.length sc_l), (9, .int .i64 (l.length : Int)), (10, .int .i64 x), (21, .bool t_.1)]) (obs := []) rfl (by kernel_rfl) trivial fun a hE => ?_
              refine WR.done rfl ?_
              cases hm
              exact hk _ _ ⟨hE.sel [0, 5, 7, 8, 9, 10, 21] (by kernel_rfl), H.t1.t1⟩
          rintro a w ⟨hE, H⟩
          refine Runs.cond hE rfl (fun c => ?_) (fun c => ?_)
          · replace hm := cond_t c hm
            refine Runs.region ?_
            refine WR.seg hE 2 [] [0, 5, 8, 9, 10] (Lo := [(0, .pointer (some ⟨p_a_, 0, none⟩)), (5, .int .i64 x2), (8, .slice sb_l l.length sc_l), (9, .int .i64 (l.length : Int)), (10, .int .i64 x)]) (obs := []) rfl (by kernel_rfl) trivial fun a hE => ?_
            refine WR.done rfl ?_
            refine Runs.inBlock ?_
            cases hm
            exact hk _ _ ⟨hE.sel [0, 5, 8, 9, 10] (by kernel_rfl), H.t1.t1⟩
          · replace hm := cond_f c hm
            refine Runs.skip ?_
            refine Runs.inBlock ?_
            cases hm
            exact hk _ _ ⟨hE.sel [0, 5, 8, 9, 10] (by kernel_rfl), H.t1.t1⟩
        rintro a w ⟨hE, H⟩
        refine Runs.region ?_
        refine WR.seg hE 2 [] [0, 5, 8, 9, 10] (Lo := [(0, .pointer (some ⟨p_a_, 0, none⟩)), (5, .int .i64 s1.1), (8, .slice sb_l l.length sc_l), (9, .int .i64 (l.length : Int)), (10, .int .i64 (w64 (x + 1)))]) (obs := []) rfl (by kernel_rfl) trivial fun a hE => ?_
        refine WR.done rfl ?_
        exact ih m (Nat.lt_succ_self m) _ _ ⟨s1.1, w64 (x + 1), s1.2, hE.sel [0, 5, 8, 9, 10] (by kernel_rfl), H.t1.t1, hm⟩
      · replace hm := cond_f c hm
        refine Runs.exit rfl ?_
        cases hm
        exact hk _ _ ⟨hE.sel [5] (by kernel_rfl), H.t1.t1⟩
  rintro a w ⟨hE, H⟩
  refine Runs.seq ?_
  refine Runs.region ?_
  refine WR.seg hE 2 [] [4] (Lo := [(4, .int .i64 s.1)]) (obs := []) rfl (by kernel_rfl) trivial fun a hE => ?_
  refine WR.done rfl ?_
  refine Runs.ret hE Tryz.func46 rfl rfl ?_
  cases hm
  exact ⟨rfl, H.t1.t1⟩

theorem skew_Min_ok {w0 w : World} {As : List HP} {k : Nat} {p_a_ : Nat} {al_a_ : arena_Arena.A} {a_ : arena_Arena} {r : Int} {t : Int × arena_Arena}  (hm : skew_Min k a_ r = some t) (H : St w0 (arena_Arena.R p_a_ al_a_ a_ :: As) w) :
    CallsR Tryz.prog 22 #[.pointer (some ⟨p_a_, 0, none⟩), .int .i64 r] w fun v w' => v = .int .i64 t.1 ∧ St w0 (arena_Arena.R p_a_ al_a_ t.2 :: As) w' := by
  rw [skew_Min] at hm
  refine enter (args := [.pointer (some ⟨p_a_, 0, none⟩), .int .i64 r]) Tryz.func22 rfl rfl rfl fun a hE => ?_
  refine Runs.seq ?_
  refine Runs.region ?_
  refine WR.seg hE 1 [] [0, 1] (Lo := [(0, .pointer (some ⟨p_a_, 0, none⟩)), (1, .int .i64 r)]) (obs := []) rfl (by kernel_rfl) trivial fun a hE => ?_
  refine WR.done rfl ?_
  refine Runs.seq ?_
  refine Runs.seq ?_
  refine Runs.region ?_
  refine WR.seg hE 2 [] [0, 1, 6] (Lo := [(0, .pointer (some ⟨p_a_, 0, none⟩)), (1, .int .i64 r), (6, .bool false)]) (obs := []) rfl (by kernel_rfl) trivial fun a hE => ?_
  refine WR.done rfl ?_
  refine Runs.condF hE rfl ?_
  refine Runs.skip ?_
  refine Runs.seq ?_
  refine Runs.region ?_
  refine WR.seg hE 4 [] [7, 8, 9, 10] (Lo := [(7, .pointer (some ⟨p_a_, 0, none⟩)), (8, .pointer (some ⟨p_a_, 0, none⟩)), (9, .pointer (some ⟨p_a_, 0, none⟩)), (10, .int .i64 r)]) (obs := []) rfl (by kernel_rfl) trivial fun a hE => ?_
  obtain ⟨t_, et_, hm⟩ := bind_some hm
  refine WR.eff hE rfl rfl rfl rfl (OpTo.fn hE rfl rfl Tryz.call47 (trees_List_ok et_ H)) ?_
  rintro _ w ⟨sb, sc, rfl, H⟩ a hE
  obtain ⟨t_1, et_1, hm⟩ := bind_some hm
  replace H := H.t1
  refine WR.eff hE rfl rfl rfl rfl (OpTo.fn hE rfl rfl Tryz.call46 (trees_Best_ok (hX_l := (sl_rd 3 ecI 1 _ _ _)) (hC_l := (H.slCap 1 rfl).1) et_1 H)) ?_
  rintro _ w ⟨rfl, H⟩ a hE
  obtain ⟨t_2, et_2, hm⟩ := bind_some hm
  refine WR.eff hE rfl rfl rfl rfl (OpTo.fn hE rfl rfl Tryz.call45 (arena_Arena_Cell_ok et_2 H)) ?_
  rintro _ w ⟨rfl, H⟩ a hE
  refine WR.seg hE 8 [] [4] (Lo := [(4, .int .i64 t_2.1)]) (obs := []) rfl (by kernel_rfl) trivial fun a hE => ?_
  refine WR.done rfl ?_
  refine Runs.ret hE Tryz.func22 rfl rfl ?_
  cases hm
  exact ⟨rfl, H.x1⟩

theorem thicketref1_Before_ok {w0 w : World} {As : List HP} {a_ : api_Entry} {b : api_Entry} {t : Bool}  (hm : thicketref1_Before a_ b = some t) (H : St w0 (As) w) :
    CallsR Tryz.prog 69 #[.agg #[.int .i64 a_.Key, .int .i64 a_.Serial], .agg #[.int .i64 b.Key, .int .i64 b.Serial]] w fun v w' => v = .bool t ∧ St w0 (As) w' := by
  rw [thicketref1_Before] at hm
  refine enter (args := [.agg #[.int .i64 a_.Key, .int .i64 a_.Serial], .agg #[.int .i64 b.Key, .int .i64 b.Serial]]) Tryz.func69 rfl rfl rfl fun a hE => ?_
  refine Runs.seq ?_
  refine Runs.region ?_
  refine WR.eff hE rfl rfl rfl rfl (OpTo.new hE H [] (.cells #[.int .i64 a_.Key, .int .i64 a_.Serial] 46 (0, 0)) (fun r => .pointer (some ⟨r, 0, none⟩)) (obs := []) rfl (fun _ => by kernel_rfl) trivial) ?_
  rintro _ w ⟨r, rfl, H⟩ a hE
  refine WR.eff hE rfl rfl rfl rfl (OpTo.new hE H [] (.cells #[.int .i64 b.Key, .int .i64 b.Serial] 46 (0, 0)) (fun r => .pointer (some ⟨r, 0, none⟩)) (obs := []) rfl (fun _ => by kernel_rfl) trivial) ?_
  rintro _ w ⟨r1, rfl, H⟩ a hE
  refine WR.seg hE 3 [] [2, 3] (Lo := [(2, .pointer (some ⟨r, 0, none⟩)), (3, .pointer (some ⟨r1, 0, none⟩))]) (obs := []) rfl (by kernel_rfl) trivial fun a hE => ?_
  refine WR.done rfl ?_
  refine Runs.seq ?_
  refine Runs.join (fun a w => EnvOk 24 a [(4, .bool ((decide (a_.Key < b.Key)) || ((a_.Key == b.Key) && (decide (a_.Serial < b.Serial)))))] ∧ St w0 (Blk r1 46 [.int .i64 b.Key, .int .i64 b.Serial] :: Blk r 46 [.int .i64 a_.Key, .int .i64 a_.Serial] :: As) w) (fun hk => ?_) ?_
  · clear hm
    refine Runs.region ?_
    refine WR.seg hE 6 [.int .i64 a_.Key, .int .i64 b.Key] [2, 3, 10] (Lo := [(2, .pointer (some ⟨r, 0, none⟩)), (3, .pointer (some ⟨r1, 0, none⟩)), (10, .bool (decide (a_.Key < b.Key)))]) (obs := [.cell ⟨r, 0, none⟩ (.int .i64 a_.Key), .cell ⟨r1, 0, none⟩ (.int .i64 b.Key)]) rfl (by kernel_rfl) ⟨H.cell 1 rfl rfl, H.cell 0 rfl rfl, trivial⟩ fun a hE => ?_
    rcases Bool.eq_false_or_eq_true (decide (a_.Key < b.Key)) with c | c
    · replace hE := hE.dec 10 c (by kernel_rfl)
      have c_ := c
      refine WR.seg hE 20 [] [4] (Lo := [(4, .bool true)]) (obs := []) rfl (by kernel_rfl) trivial fun a hE => ?_
      refine WR.done rfl ?_
      refine hk _ _ ⟨?_, H.t1.t1⟩
      try rw [c_] at hE
      try rw [c_]
      exact hE.sel [4] (by kernel_rfl)
    · replace hE := hE.dec 10 c (by kernel_rfl)
      have c_1 := c
      refine WR.seg hE 12 [.int .i64 a_.Key, .int .i64 b.Key] [2, 3, 10, 16] (Lo := [(2, .pointer (some ⟨r, 0, none⟩)), (3, .pointer (some ⟨r1, 0, none⟩)), (10, .bool false), (16, .bool (a_.Key == b.Key))]) (obs := [.cell ⟨r, 0, none⟩ (.int .i64 a_.Key), .cell ⟨r1, 0, none⟩ (.int .i64 b.Key)]) rfl (by kernel_rfl) ⟨H.cell 1 rfl rfl, H.cell 0 rfl rfl, trivial⟩ fun a hE => ?_
      rcases Bool.eq_false_or_eq_true (a_.Key == b.Key) with c | c
      · replace hE := hE.dec 16 c (by kernel_rfl)
        have c_2 := c
        refine WR.seg hE 20 [.int .i64 a_.Serial, .int .i64 b.Serial] [4] (Lo := [(4, .bool (decide (a_.Serial < b.Serial)))]) (obs := [.cell ⟨r, 1, none⟩ (.int .i64 a_.Serial), .cell ⟨r1, 1, none⟩ (.int .i64 b.Serial)]) rfl (by kernel_rfl) ⟨H.cell 1 rfl rfl, H.cell 0 rfl rfl, trivial⟩ fun a hE => ?_
        refine WR.done rfl ?_
        refine hk _ _ ⟨?_, H.t1.t1⟩
        try rw [c_1] at hE
        try rw [c_1]
        try rw [c_2] at hE
        try rw [c_2]
        exact hE.sel [4] (by kernel_rfl)
      · replace hE := hE.dec 16 c (by kernel_rfl)
        have c_3 := c
        refine WR.seg hE 20 [] [4] (Lo := [(4, .bool false)]) (obs := []) rfl (by kernel_rfl) trivial fun a hE => ?_
        refine WR.done rfl ?_
        refine hk _ _ ⟨?_, H.t1.t1⟩
        try rw [c_1] at hE
        try rw [c_1]
        try rw [c_3] at hE
        try rw [c_3]
        exact hE.sel [4] (by kernel_rfl)
  rintro a w ⟨hE, H⟩
  refine Runs.ret hE Tryz.func69 rfl rfl ?_
  cases hm
  exact ⟨rfl, H.x1.x0⟩

theorem thicketlaw11_before_ok {w0 w : World} {As : List HP} {x : thicketlaw11_held} {y : thicketlaw11_held} {t : Bool}  (hm : thicketlaw11_before x y = some t) (H : St w0 (As) w) :
    CallsR Tryz.prog 48 #[.agg #[.int .i64 x.cell, .int .i64 x.e.Key, .int .i64 x.e.Serial], .agg #[.int .i64 y.cell, .int .i64 y.e.Key, .int .i64 y.e.Serial]] w fun v w' => v = .bool t ∧ St w0 (As) w' := by
  rw [thicketlaw11_before] at hm
  refine enter (args := [.agg #[.int .i64 x.cell, .int .i64 x.e.Key, .int .i64 x.e.Serial], .agg #[.int .i64 y.cell, .int .i64 y.e.Key, .int .i64 y.e.Serial]]) Tryz.func48 rfl rfl rfl fun a hE => ?_
  refine Runs.seq ?_
  refine Runs.region ?_
  refine WR.eff hE rfl rfl rfl rfl (OpTo.new hE H [] (.cells #[.int .i64 x.cell, .int .i64 x.e.Key, .int .i64 x.e.Serial] 48 (0, 0)) (fun r => .pointer (some ⟨r, 0, none⟩)) (obs := []) rfl (fun _ => by kernel_rfl) trivial) ?_
  rintro _ w ⟨r, rfl, H⟩ a hE
  refine WR.eff hE rfl rfl rfl rfl (OpTo.new hE H [] (.cells #[.int .i64 y.cell, .int .i64 y.e.Key, .int .i64 y.e.Serial] 48 (0, 0)) (fun r => .pointer (some ⟨r, 0, none⟩)) (obs := []) rfl (fun _ => by kernel_rfl) trivial) ?_
  rintro _ w ⟨r1, rfl, H⟩ a hE
  refine WR.seg hE 3 [] [2, 3] (Lo := [(2, .pointer (some ⟨r, 0, none⟩)), (3, .pointer (some ⟨r1, 0, none⟩))]) (obs := []) rfl (by kernel_rfl) trivial fun a hE => ?_
  refine WR.done rfl ?_
  refine Runs.seq ?_
  obtain ⟨s, es, hm⟩ := bind_some hm
  refine Runs.join (fun a w => EnvOk 24 a [(4, .bool s)] ∧ St w0 (As) w) (fun hk => ?_) ?_
  · replace hm := es; clear es
    refine Runs.region ?_
    refine WR.seg hE 4 [.int .i64 x.e.Key, .int .i64 x.e.Serial, .int .i64 y.e.Key, .int .i64 y.e.Serial] [2, 3, 6, 8] (Lo := [(2, .pointer (some ⟨r, 0, none⟩)), (3, .pointer (some ⟨r1, 0, none⟩)), (6, .agg #[.int .i64 x.e.Key, .int .i64 x.e.Serial]), (8, .agg #[.int .i64 y.e.Key, .int .i64 y.e.Serial])]) (obs := [.cell ⟨r, 1, none⟩ (.int .i64 x.e.Key), .cell ⟨r, 2, none⟩ (.int .i64 x.e.Serial), .cell ⟨r1, 1, none⟩ (.int .i64 y.e.Key), .cell ⟨r1, 2, none⟩ (.int .i64 y.e.Serial)]) rfl (by kernel_rfl) ⟨H.cell 1 rfl rfl, H.cell 1 rfl rfl, H.cell 0 rfl rfl, H.cell 0 rfl rfl, trivial⟩ fun a hE => ?_
    obtain ⟨t_, et_, hm⟩ := bind_some hm
    refine WR.eff hE rfl rfl rfl rfl (OpTo.fn hE rfl rfl Tryz.call69 (thicketref1_Before_ok et_ H)) ?_
    rintro _ w ⟨rfl, H⟩ a hE
    refine WR.seg hE 6 [] [2, 3, 10] (Lo := [(2, .pointer (some ⟨r, 0, none⟩)), (3, .pointer (some ⟨r1, 0, none⟩)), (10, .bool t_)]) (obs := []) rfl (by kernel_rfl) trivial fun a hE => ?_
    rcases Bool.eq_false_or_eq_true t_ with c | c
    · replace hE := hE.dec 10 c (by kernel_rfl)
      replace hm := cond_t c hm
      have c_ := c
      refine WR.seg hE 20 [] [4] (Lo := [(4, .bool true)]) (obs := []) rfl (by kernel_rfl) trivial fun a hE => ?_
      refine WR.done rfl ?_
      cases hm
      exact hk _ _ ⟨hE.sel [4] (by kernel_rfl), H.x1.x0⟩
    · replace hE := hE.dec 10 c (by kernel_rfl)
      replace hm := cond_f c hm
      have c_1 := c
      refine WR.seg hE 10 [.int .i64 x.e.Key, .int .i64 x.e.Serial, .int .i64 y.e.Key, .int .i64 y.e.Serial] [2, 3, 10, 12, 14] (Lo := [(2, .pointer (some ⟨r, 0, none⟩)), (3, .pointer (some ⟨r1, 0, none⟩)), (10, .bool false), (12, .agg #[.int .i64 x.e.Key, .int .i64 x.e.Serial]), (14, .agg #[.int .i64 y.e.Key, .int .i64 y.e.Serial])]) (obs := [.cell ⟨r, 1, none⟩ (.int .i64 x.e.Key), .cell ⟨r, 2, none⟩ (.int .i64 x.e.Serial), .cell ⟨r1, 1, none⟩ (.int .i64 y.e.Key), .cell ⟨r1, 2, none⟩ (.int .i64 y.e.Serial)]) rfl (by kernel_rfl) ⟨H.cell 1 rfl rfl, H.cell 1 rfl rfl, H.cell 0 rfl rfl, H.cell 0 rfl rfl, trivial⟩ fun a hE => ?_
      refine WR.eff hE rfl rfl rfl rfl (OpTo.eqS hE rfl rfl rfl (by kernel_rfl) (api_Entry.eq_run x.e y.e)) ?_
      rintro _ _ ⟨rfl, rfl⟩ a hE
      refine WR.seg hE 12 [] [2, 3, 10, 16] (Lo := [(2, .pointer (some ⟨r, 0, none⟩)), (3, .pointer (some ⟨r1, 0, none⟩)), (10, .bool false), (16, .bool (api_Entry.eq x.e y.e))]) (obs := []) rfl (by kernel_rfl) trivial fun a hE => ?_
      rcases Bool.eq_false_or_eq_true (api_Entry.eq x.e y.e) with c | c
      · replace hE := hE.dec 16 c (by kernel_rfl)
        replace hm := cond_t c hm
        have c_2 := c
        refine WR.seg hE 20 [.int .i64 x.cell, .int .i64 y.cell] [4] (Lo := [(4, .bool (decide (x.cell < y.cell)))]) (obs := [.cell ⟨r, 0, none⟩ (.int .i64 x.cell), .cell ⟨r1, 0, none⟩ (.int .i64 y.cell)]) rfl (by kernel_rfl) ⟨H.cell 1 rfl rfl, H.cell 0 rfl rfl, trivial⟩ fun a hE => ?_
        refine WR.done rfl ?_
        cases hm
        exact hk _ _ ⟨hE.sel [4] (by kernel_rfl), H.x1.x0⟩
      · replace hE := hE.dec 16 c (by kernel_rfl)
        replace hm := cond_f c hm
        have c_3 := c
        refine WR.seg hE 20 [] [4] (Lo := [(4, .bool false)]) (obs := []) rfl (by kernel_rfl) trivial fun a hE => ?_
        refine WR.done rfl ?_
        cases hm
        exact hk _ _ ⟨hE.sel [4] (by kernel_rfl), H.x1.x0⟩
  rintro a w ⟨hE, H⟩
  refine Runs.ret hE Tryz.func48 rfl rfl ?_
  cases hm
  exact ⟨rfl, H⟩

theorem thicketlaw11_least_ok {w0 w : World} {As : List HP} {k : Nat} {sb_l : Option Addr} {sc_l : Nat} {l : List thicketlaw11_held} {X_l : HP} {t : Int} (hX_l : SlRd X_l thicketlaw11_held.enc 3 sb_l l) (hC_l : l.length ≤ sc_l) (hm : thicketlaw11_least k l = some t) (H : St w0 (X_l :: As) w) :
    CallsR Tryz.prog 23 #[.slice sb_l l.length sc_l] w fun v w' => v = .int .i64 t ∧ St w0 (X_l :: As) w' := by
  rw [thicketlaw11_least] at hm
  refine enter (args := [.slice sb_l l.length sc_l]) Tryz.func23 rfl rfl rfl fun a hE => ?_
  refine Runs.seq ?_
  refine Runs.region ?_
  refine WR.seg hE 1 [] [0] (Lo := [(0, .slice sb_l l.length sc_l)]) (obs := []) rfl (by kernel_rfl) trivial fun a hE => ?_
  refine WR.done rfl ?_
  refine Runs.seq ?_
  refine Runs.region ?_
  refine WR.seg hE 1 [] [0, 3] (Lo := [(0, .slice sb_l l.length sc_l), (3, .int .i64 0)]) (obs := []) rfl (by kernel_rfl) trivial fun a hE => ?_
  refine WR.done rfl ?_
  refine Runs.seq ?_
  refine Runs.seq ?_
  refine Runs.region ?_
  refine WR.seg hE 1 [] [0, 3, 4] (Lo := [(0, .slice sb_l l.length sc_l), (3, .int .i64 0), (4, .int .i64 1)]) (obs := []) rfl (by kernel_rfl) trivial fun a hE => ?_
  refine WR.done rfl ?_
  obtain ⟨s, es, hm⟩ := bind_some hm
  refine Runs.join (fun a w => EnvOk 22 a [(3, .int .i64 s)] ∧ St w0 (X_l :: As) w) (fun hk => ?_) ?_
  · replace hm := es; clear es
    refine Runs.block ?_
    refine Runs.loop (fun m a w => ∃ (k_ : Int), ∃ (i : Int), EnvOk 22 a [(0, .slice sb_l l.length sc_l), (3, .int .i64 k_), (4, .int .i64 i)] ∧ St w0 (X_l :: As) w ∧ thicketlaw11_least_l0 l m k_ i = some s) k ⟨0, 1, hE.sel [0, 3, 4] (by kernel_rfl), H, hm⟩ ?_
    rintro m ih a w ⟨k_, i, hE, H, hm⟩
    cases m with
    | zero => simp [thicketlaw11_least_l0] at hm
    | succ m =>
      rw [thicketlaw11_least_l0] at hm
      refine Runs.seq ?_
      refine Runs.seq ?_
      refine Runs.region ?_
      refine WR.seg hE 4 [] [0, 3, 4, 8] (Lo := [(0, .slice sb_l l.length sc_l), (3, .int .i64 k_), (4, .int .i64 i), (8, .bool (decide (i < (l.length : Int))))]) (obs := []) rfl (by kernel_rfl) trivial fun a hE => ?_
      refine WR.done rfl ?_
      refine Runs.cond hE rfl (fun c => ?_) (fun c => ?_)
      · replace hm := cond_t c hm
        refine Runs.skip ?_
        refine Runs.seq ?_
        obtain ⟨s1, es1, hm⟩ := bind_some hm
        refine Runs.join (fun a w => EnvOk 22 a [(0, .slice sb_l l.length sc_l), (3, .int .i64 s1), (4, .int .i64 i)] ∧ St w0 (X_l :: As) w) (fun hk => ?_) ?_
        · replace hm := es1; clear es1
          refine Runs.block ?_
          refine Runs.seq ?_
          refine Runs.drawn mixed (by kernel_rfl) ?_
          replace H := H.drew
          obtain ⟨x, ex, hm⟩ := bind_some hm
          obtain ⟨b, o, hs, hb⟩ := SlRd.base hX_l thicketlaw11_held.enc_ok H 0 rfl ex
          obtain ⟨x1, ex1, hm⟩ := bind_some hm
          obtain ⟨b1, o1, hs1, hb1⟩ := SlRd.base hX_l thicketlaw11_held.enc_ok H 0 rfl ex1
          refine WQ.seg hE [0, 1, 2, 3, 4, 5, 6, 7] [.pointer (some ⟨b, o, none⟩), .int .i64 x.cell, .int .i64 x.e.Key, .int .i64 x.e.Serial, .pointer (some ⟨b1, o1, none⟩), .int .i64 x1.cell, .int .i64 x1.e.Key, .int .i64 x1.e.Serial] [0, 3, 4, 14, 18] (Lo := [(0, .slice sb_l l.length sc_l), (3, .int .i64 k_), (4, .int .i64 i), (14, .agg #[.int .i64 x.cell, .int .i64 x.e.Key, .int .i64 x.e.Serial]), (18, .agg #[.int .i64 x1.cell, .int .i64 x1.e.Key, .int .i64 x1.e.Serial])]) (obs := [.p ((sb_l : Option Addr) = some ⟨b, o, none⟩), .p (0 ≤ (i : Int) ∧ (i : Int) < ((l.length : Nat) : Int)), .cell ⟨b, o + (Int.toNat i) * 3, none⟩ (.int .i64 x.cell), .cell ⟨b, o + (Int.toNat i) * 3 + 1, none⟩ (.int .i64 x.e.Key), .cell ⟨b, o + (Int.toNat i) * 3 + 2, none⟩ (.int .i64 x.e.Serial), .p ((sb_l : Option Addr) = some ⟨b1, o1, none⟩), .p (0 ≤ (k_ : Int) ∧ (k_ : Int) < ((l.length : Nat) : Int)), .cell ⟨b1, o1 + (Int.toNat k_) * 3, none⟩ (.int .i64 x1.cell), .cell ⟨b1, o1 + (Int.toNat k_) * 3 + 1, none⟩ (.int .i64 x1.e.Key), .cell ⟨b1, o1 + (Int.toNat k_) * 3 + 2, none⟩ (.int .i64 x1.e.Serial)]) (by kernel_rfl) (by kernel_rfl) ⟨hs, hb, SlRd.cells hX_l thicketlaw11_held.enc_ok H 0 rfl hs ex 0 _ rfl, SlRd.cells hX_l thicketlaw11_held.enc_ok H 0 rfl hs ex 1 _ rfl, SlRd.cells hX_l thicketlaw11_held.enc_ok H 0 rfl hs ex 2 _ rfl, hs1, hb1, SlRd.cells hX_l thicketlaw11_held.enc_ok H 0 rfl hs1 ex1 0 _ rfl, SlRd.cells hX_l thicketlaw11_held.enc_ok H 0 rfl hs1 ex1 1 _ rfl, SlRd.cells hX_l thicketlaw11_held.enc_ok H 0 rfl hs1 ex1 2 _ rfl, trivial⟩ fun a hE => ?_
          obtain ⟨t_, et_, hm⟩ := bind_some hm
          refine WQ.eff (j := 8) (obs := []) hE (by kernel_rfl) rfl rfl rfl rfl (by kernel_rfl) (OpTo.fn hE rfl rfl Tryz.call48 (thicketlaw11_before_ok et_ H)) ?_
          rintro _ w ⟨rfl, H⟩
          refine ⟨trivial, fun a hE => ?_⟩
          refine WQ.done (by kernel_rfl) ?_
          refine Runs.cond hE rfl (fun c => ?_) (fun c => ?_)
          · replace hm := cond_t c hm
            refine Runs.region ?_
            refine WR.seg hE 2 [] [0, 3, 4] (Lo := [(0, .slice sb_l l.length sc_l), (3, .int .i64 i), (4, .int .i64 i)]) (obs := []) rfl (by kernel_rfl) trivial fun a hE => ?_
            refine WR.done rfl ?_
            refine Runs.inBlock ?_
            cases hm
            exact hk _ _ ⟨hE.sel [0, 3, 4] (by kernel_rfl), H⟩
          · replace hm := cond_f c hm
            refine Runs.skip ?_
            refine Runs.inBlock ?_
            cases hm
            exact hk _ _ ⟨hE.sel [0, 3, 4] (by kernel_rfl), H⟩
        rintro a w ⟨hE, H⟩
        refine Runs.region ?_
        refine WR.seg hE 3 [] [0, 3, 4] (Lo := [(0, .slice sb_l l.length sc_l), (3, .int .i64 s1), (4, .int .i64 (w64 (i + 1)))]) (obs := []) rfl (by kernel_rfl) trivial fun a hE => ?_
        refine WR.done rfl ?_
        exact ih m (Nat.lt_succ_self m) _ _ ⟨s1, w64 (i + 1), hE.sel [0, 3, 4] (by kernel_rfl), H, hm⟩
      · replace hm := cond_f c hm
        refine Runs.exit rfl ?_
        cases hm
        exact hk _ _ ⟨hE.sel [3] (by kernel_rfl), H⟩
  rintro a w ⟨hE, H⟩
  refine Runs.seq ?_
  refine Runs.region ?_
  refine WR.seg hE 2 [] [2] (Lo := [(2, .int .i64 s)]) (obs := []) rfl (by kernel_rfl) trivial fun a hE => ?_
  refine WR.done rfl ?_
  refine Runs.ret hE Tryz.func23 rfl rfl ?_
  cases hm
  exact ⟨rfl, H⟩

theorem slices_Clone_int_ok {w0 w : World} {As : List HP} {sb_s : Option Addr} {sc_s : Nat} {s : List Int} {X_s : HP} {t : List Int} (hX_s : SlRd X_s ecI 1 sb_s s) (hC_s : s.length ≤ sc_s) (hm : lClone s = some t) (H : St w0 (X_s :: As) w) :
    CallsR Tryz.prog 86 #[.slice sb_s s.length sc_s] w fun v w' => ∃ (sb0 : Option Addr) (sc0 : Nat), v = .slice sb0 t.length sc0 ∧ St w0 (Sl 3 ecI 1 sb0 sc0 t :: X_s :: As) w' := by
  unfold lClone at hm
  split at hm
  · rename_i hmx
    cases hm
    have he := ecI_ok
    refine enter (args := [.slice sb_s s.length sc_s]) Tryz.func86 rfl rfl rfl fun a hE => ?_
    refine Runs.seq ?_
    refine Runs.region ?_
    refine WR.seg hE 1 [] [0] (Lo := [(0, .slice sb_s s.length sc_s)]) (obs := []) rfl (by kernel_rfl) trivial fun a hE => ?_
    refine WR.done rfl ?_
    refine Runs.seq ?_
    refine Runs.seq ?_
    refine Runs.region ?_
    cases sb_s with
    | none =>
      have hs : s = [] := by
        obtain ⟨h1, _, h⟩ := H.at 0 rfl
        rcases hX_s h1 h with h | ⟨b, off, cs, T, fr, h, _⟩
        · exact h
        · cases h
      subst hs
      refine WR.seg hE 2 [] [4] (Lo := [(4, .bool true)]) (obs := []) rfl (by kernel_rfl) trivial fun a hE => ?_
      refine WR.done rfl ?_
      refine Runs.condT hE rfl ?_
      refine Runs.seq ?_
      refine Runs.region ?_
      refine WR.seg hE 1 [] [2] (Lo := [(2, .slice none 0 0)]) (obs := []) rfl (by kernel_rfl) trivial fun a hE => ?_
      refine WR.done rfl ?_
      refine Runs.ret hE Tryz.func86 rfl rfl ?_
      exact ⟨none, 0, rfl, H.slNil 3 ecI 1⟩
    | some ad =>
      refine WR.seg hE 2 [] [0, 4] (Lo := [(0, .slice (some ad) s.length sc_s), (4, .bool false)]) (obs := []) rfl (by kernel_rfl) trivial fun a hE => ?_
      refine WR.done rfl ?_
      refine Runs.condF hE rfl ?_
      refine Runs.skip ?_
      refine Runs.seq ?_
      refine Runs.region ?_
      refine WR.eff hE rfl rfl rfl rfl (OpTo.buildSl (T := 3) hE H he ([] : List Int) rfl (fun _ => by kernel_rfl) rfl rfl rfl) ?_
      rintro _ w ⟨r, rfl, H⟩ a hE
      refine WR.seg hE 2 [] [5, 6] (Lo := [(5, .slice (some ⟨r, 0, none⟩) ([] : List Int).length 0), (6, .slice (some ad) s.length sc_s)]) (obs := []) rfl (by kernel_rfl) trivial fun a hE => ?_
      have happ : mApp ([] : List Int) s = some s := by unfold mApp; rw [if_pos (by simpa using hmx)]; simp
      refine WR.eff hE rfl rfl rfl rfl (OpTo.appendM happ hE H he rfl rfl rfl rfl rfl rfl rfl rfl rfl rfl (SlRd.all hX_s he H 1 rfl) rfl) ?_
      rintro _ w ⟨sb, sc, rfl, H⟩ a hE
      refine WR.seg hE 4 [] [2] (Lo := [(2, .slice sb s.length sc)]) (obs := []) rfl (by kernel_rfl) trivial fun a hE => ?_
      refine WR.done rfl ?_
      refine Runs.ret hE Tryz.func86 rfl rfl ?_
      exact ⟨sb, sc, rfl, H⟩
  · cases hm

theorem trees_Kids_ok {w0 w : World} {As : List HP} {k : Nat} {p_a_ : Nat} {al_a_ : arena_Arena.A} {a_ : arena_Arena} {n : Int} {t : (List Int) × arena_Arena}  (hm : trees_Kids k a_ n = some t) (H : St w0 (arena_Arena.R p_a_ al_a_ a_ :: As) w) :
    CallsR Tryz.prog 73 #[.pointer (some ⟨p_a_, 0, none⟩), .int .i64 n] w fun v w' => ∃ (sb0 : Option Addr), ∃ (sc0 : Nat), v = .slice sb0 t.1.length sc0 ∧ St w0 (Sl 3 ecI 1 sb0 sc0 t.1 :: arena_Arena.R p_a_ al_a_ t.2 :: As) w' := by
  rw [trees_Kids] at hm
  refine enter (args := [.pointer (some ⟨p_a_, 0, none⟩), .int .i64 n]) Tryz.func73 rfl rfl rfl fun a hE => ?_
  refine Runs.seq ?_
  refine Runs.region ?_
  refine WR.seg hE 1 [] [0, 1] (Lo := [(0, .pointer (some ⟨p_a_, 0, none⟩)), (1, .int .i64 n)]) (obs := []) rfl (by kernel_rfl) trivial fun a hE => ?_
  refine WR.done rfl ?_
  refine Runs.seq ?_
  refine Runs.region ?_
  refine WR.seg hE 3 [] [5, 6, 7] (Lo := [(5, .pointer (some ⟨p_a_, 0, none⟩)), (6, .pointer (some ⟨p_a_, 0, none⟩)), (7, .int .i64 n)]) (obs := []) rfl (by kernel_rfl) trivial fun a hE => ?_
  obtain ⟨t_, et_, hm⟩ := bind_some hm
  refine WR.eff hE rfl rfl rfl rfl (OpTo.fn hE rfl rfl Tryz.call45 (arena_Arena_Cell_ok et_ H)) ?_
  rintro _ w ⟨rfl, H⟩ a hE
  obtain ⟨t_1, et_1, hm⟩ := bind_some hm
  refine WR.eff hE rfl rfl rfl rfl (OpTo.fn hE rfl rfl Tryz.call68 (node_Row_ok et_1 H)) ?_
  rintro _ w ⟨sb, sc, rfl, H⟩ a hE
  refine WR.seg hE 6 [] [4] (Lo := [(4, .slice sb t_1.1.length sc)]) (obs := []) rfl (by kernel_rfl) trivial fun a hE => ?_
  refine WR.done rfl ?_
  refine Runs.ret hE Tryz.func73 rfl rfl ?_
  cases hm
  exact ⟨sb, sc, rfl, H.t1.t1⟩

theorem trees_Nodes_f1_ok {w0 w : World} {As : List HP} {k : Nat} {n : Int} {r : Nat} {p_a_ : Nat} {al_a_ : arena_Arena.A} {a_ : arena_Arena} {t : (List Int) × arena_Arena}  (hm : trees_Nodes_f1 k n a_ = some t) (H : St w0 (Blk r 30 [.pointer (some ⟨p_a_, 0, none⟩)] :: arena_Arena.R p_a_ al_a_ a_ :: As) w) :
    CallsR Tryz.prog 72 #[.int .i64 n, .pointer (some ⟨r, 0, none⟩)] w fun v w' => ∃ (sb0 : Option Addr), ∃ (sc0 : Nat), v = .slice sb0 t.1.length sc0 ∧ St w0 (Sl 3 ecI 1 sb0 sc0 t.1 :: Blk r 30 [.pointer (some ⟨p_a_, 0, none⟩)] :: arena_Arena.R p_a_ al_a_ t.2 :: As) w' := by
  rw [trees_Nodes_f1] at hm
  refine enter (args := [.int .i64 n, .pointer (some ⟨r, 0, none⟩)]) Tryz.func72 rfl rfl rfl fun a hE => ?_
  refine Runs.seq ?_
  refine Runs.region ?_
  refine WR.seg hE 1 [] [0, 1] (Lo := [(0, .int .i64 n), (1, .pointer (some ⟨r, 0, none⟩))]) (obs := []) rfl (by kernel_rfl) trivial fun a hE => ?_
  refine WR.done rfl ?_
  refine Runs.seq ?_
  refine Runs.region ?_
  refine WR.seg hE 2 [.pointer (some ⟨p_a_, 0, none⟩)] [4, 5] (Lo := [(4, .pointer (some ⟨p_a_, 0, none⟩)), (5, .int .i64 n)]) (obs := [.cell ⟨r, 0, none⟩ (.pointer (some ⟨p_a_, 0, none⟩))]) rfl (by kernel_rfl) ⟨H.cell 0 rfl rfl, trivial⟩ fun a hE => ?_
  obtain ⟨t_, et_, hm⟩ := bind_some hm
  refine WR.eff hE rfl rfl rfl rfl (OpTo.fn hE rfl rfl Tryz.call73 (trees_Kids_ok et_ H.t1)) ?_
  rintro _ w ⟨sb, sc, rfl, H⟩ a hE
  refine WR.seg hE 4 [] [3] (Lo := [(3, .slice sb t_.1.length sc)]) (obs := []) rfl (by kernel_rfl) trivial fun a hE => ?_
  refine WR.done rfl ?_
  refine Runs.ret hE Tryz.func72 rfl rfl ?_
  cases hm
  exact ⟨sb, sc, rfl, H.t1.t2.t2⟩

end Go.Proofs.YtlfiboncgkijkaaGreat
