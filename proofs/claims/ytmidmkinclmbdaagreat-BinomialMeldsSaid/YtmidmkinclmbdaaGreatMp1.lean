import Derived.Test.YtmidmkinclmbdaaGreatBd
import Derived.Test.YtmidmkinclmbdaaGreatProg
import Derived.Test.YtmidmkinclmbdaaGreatSh
set_option linter.unusedVariables false
set_option linter.unusedSimpArgs false
set_option maxRecDepth 10000
set_option maxHeartbeats 4000000
namespace Go.Proofs.YtmidmkinclmbdaaGreat
open Go.Th

theorem mixed : Tryz.prog.follows .mixedOrders = true := by kernel_rfl

theorem arena_cell.get_f_spec {x : arena_cell} {i v : Int} (h : arena_cell.get_f x i = some v) : (arena_cell.enc x)[i.toNat * 1]? = some (.int .i64 v) := by
  by_cases h0 : i = 0
  · subst h0; simp [arena_cell.get_f] at h; subst h; rfl
  by_cases h1 : i = 1
  · subst h1; simp [arena_cell.get_f] at h; subst h; rfl
  by_cases h2 : i = 2
  · subst h2; simp [arena_cell.get_f] at h; subst h; rfl
  by_cases h3 : i = 3
  · subst h3; simp [arena_cell.get_f] at h; subst h; rfl
  by_cases h4 : i = 4
  · subst h4; simp [arena_cell.get_f] at h; subst h; rfl
  by_cases h5 : i = 5
  · subst h5; simp [arena_cell.get_f] at h; subst h; rfl
  by_cases h6 : i = 6
  · subst h6; simp [arena_cell.get_f] at h; subst h; rfl
  by_cases h7 : i = 7
  · subst h7; simp [arena_cell.get_f] at h; subst h; rfl
  by_cases h8 : i = 8
  · subst h8; simp [arena_cell.get_f] at h; subst h; rfl
  by_cases h9 : i = 9
  · subst h9; simp [arena_cell.get_f] at h; subst h; rfl
  · simp [arena_cell.get_f, h0, h1, h2, h3, h4, h5, h6, h7, h8, h9] at h

theorem arena_cell.set_f_spec {x y : arena_cell} {i v : Int} (h : arena_cell.set_f x i v = some y) : arena_cell.enc y = putAt (arena_cell.enc x) (i.toNat * 1) [.int .i64 v] := by
  by_cases h0 : i = 0
  · subst h0; simp [arena_cell.set_f] at h; subst h; rfl
  by_cases h1 : i = 1
  · subst h1; simp [arena_cell.set_f] at h; subst h; rfl
  by_cases h2 : i = 2
  · subst h2; simp [arena_cell.set_f] at h; subst h; rfl
  by_cases h3 : i = 3
  · subst h3; simp [arena_cell.set_f] at h; subst h; rfl
  by_cases h4 : i = 4
  · subst h4; simp [arena_cell.set_f] at h; subst h; rfl
  by_cases h5 : i = 5
  · subst h5; simp [arena_cell.set_f] at h; subst h; rfl
  by_cases h6 : i = 6
  · subst h6; simp [arena_cell.set_f] at h; subst h; rfl
  by_cases h7 : i = 7
  · subst h7; simp [arena_cell.set_f] at h; subst h; rfl
  by_cases h8 : i = 8
  · subst h8; simp [arena_cell.set_f] at h; subst h; rfl
  by_cases h9 : i = 9
  · subst h9; simp [arena_cell.set_f] at h; subst h; rfl
  · simp [arena_cell.set_f, h0, h1, h2, h3, h4, h5, h6, h7, h8, h9] at h

theorem api_Entry.eq_in (w : World) (d : Nat) (x y : api_Entry) : (Op.equalIn (d + 2) 40 (.agg #[.int .i64 x.Key, .int .i64 x.Serial]) (.agg #[.int .i64 y.Key, .int .i64 y.Serial])).run Tryz.prog w = .ok (api_Entry.eq x y) w :=
  eqS_top (d + 1) rfl (by kernel_rfl) (eqF_cons (a := .int .i64 x.Key) (b := .int .i64 y.Key) rfl rfl (by kernel_rfl) (by kernel_rfl) (run_equalIn_int w _ _ _ _ _ _ rfl) (eqF_cons (a := .int .i64 x.Serial) (b := .int .i64 y.Serial) rfl rfl (by kernel_rfl) (by kernel_rfl) (run_equalIn_int w _ _ _ _ _ _ rfl) (eqF_nil rfl)))

theorem api_Entry.eq_run (x y : api_Entry) : EqRuns Tryz.prog 40 #[.int .i64 x.Key, .int .i64 x.Serial] #[.int .i64 y.Key, .int .i64 y.Serial] (api_Entry.eq x y) := fun w => api_Entry.eq_in w 9998 x y

def meter_Meter.R (p : Nat) (m : meter_Meter) : HP := sepL [Blk p 90 [.int .i64 m.steps, .int .i64 m.begun, .int .i64 m.most]]

theorem meter_Meter.open {w0 w : World} {As : List HP} {p : Nat} {m : meter_Meter} (H : St w0 (meter_Meter.R p m :: As) w) : St w0 (Blk p 90 [.int .i64 m.steps, .int .i64 m.begun, .int .i64 m.most] :: As) w := St.flat H

theorem meter_Meter.shut {w0 w : World} {As : List HP} {p : Nat} (m : meter_Meter) (H : St w0 (Blk p 90 [.int .i64 m.steps, .int .i64 m.begun, .int .i64 m.most] :: As) w) : St w0 (meter_Meter.R p m :: As) w := St.group [Blk p 90 [.int .i64 m.steps, .int .i64 m.begun, .int .i64 m.most]] H

structure arena_Arena.A where
  l_b : Option Addr
  l_c : Nat
  free_b : Option Addr
  free_c : Nat
  m__p : Nat

def arena_Arena.R (p : Nat) (al : arena_Arena.A) (m : arena_Arena) : HP := sepL [Blk p 88 [.slice al.l_b m.l.length al.l_c, .int .i64 m.never, .slice al.free_b m.free.length al.free_c, .pointer (some ⟨al.m__p, 0, none⟩)], Sl 100 arena_cell.enc 11 al.l_b al.l_c m.l, Sl 3 ecI 1 al.free_b al.free_c m.free, meter_Meter.R al.m__p m.m_]

theorem arena_Arena.open {w0 w : World} {As : List HP} {p : Nat} {al : arena_Arena.A} {m : arena_Arena} (H : St w0 (arena_Arena.R p al m :: As) w) : St w0 (Blk p 88 [.slice al.l_b m.l.length al.l_c, .int .i64 m.never, .slice al.free_b m.free.length al.free_c, .pointer (some ⟨al.m__p, 0, none⟩)] :: Sl 100 arena_cell.enc 11 al.l_b al.l_c m.l :: Sl 3 ecI 1 al.free_b al.free_c m.free :: meter_Meter.R al.m__p m.m_ :: As) w := St.flat H

theorem arena_Arena.shut {w0 w : World} {As : List HP} {p : Nat} (al : arena_Arena.A) (m : arena_Arena) (H : St w0 (Blk p 88 [.slice al.l_b m.l.length al.l_c, .int .i64 m.never, .slice al.free_b m.free.length al.free_c, .pointer (some ⟨al.m__p, 0, none⟩)] :: Sl 100 arena_cell.enc 11 al.l_b al.l_c m.l :: Sl 3 ecI 1 al.free_b al.free_c m.free :: meter_Meter.R al.m__p m.m_ :: As) w) : St w0 (arena_Arena.R p al m :: As) w := St.group [Blk p 88 [.slice al.l_b m.l.length al.l_c, .int .i64 m.never, .slice al.free_b m.free.length al.free_c, .pointer (some ⟨al.m__p, 0, none⟩)], Sl 100 arena_cell.enc 11 al.l_b al.l_c m.l, Sl 3 ecI 1 al.free_b al.free_c m.free, meter_Meter.R al.m__p m.m_] H

structure thicketlaw9_world.A where
  a__p : Nat
  a__a : arena_Arena.A
  has0_b : Option Addr
  has0_c : Nat
  has1_b : Option Addr
  has1_c : Nat

def thicketlaw9_world.R (p : Nat) (al : thicketlaw9_world.A) (m : thicketlaw9_world) : HP := sepL [Blk p 33 [.pointer (some ⟨al.a__p, 0, none⟩), .int .i64 m.root0, .int .i64 m.root1, .slice al.has0_b m.has0.length al.has0_c, .slice al.has1_b m.has1.length al.has1_c, .int .i64 m.next, .int .i64 m.spent, .int .i64 m.most], arena_Arena.R al.a__p al.a__a m.a_, Sl 64 thicketlaw9_held.enc 3 al.has0_b al.has0_c m.has0, Sl 64 thicketlaw9_held.enc 3 al.has1_b al.has1_c m.has1]

theorem thicketlaw9_world.open {w0 w : World} {As : List HP} {p : Nat} {al : thicketlaw9_world.A} {m : thicketlaw9_world} (H : St w0 (thicketlaw9_world.R p al m :: As) w) : St w0 (Blk p 33 [.pointer (some ⟨al.a__p, 0, none⟩), .int .i64 m.root0, .int .i64 m.root1, .slice al.has0_b m.has0.length al.has0_c, .slice al.has1_b m.has1.length al.has1_c, .int .i64 m.next, .int .i64 m.spent, .int .i64 m.most] :: arena_Arena.R al.a__p al.a__a m.a_ :: Sl 64 thicketlaw9_held.enc 3 al.has0_b al.has0_c m.has0 :: Sl 64 thicketlaw9_held.enc 3 al.has1_b al.has1_c m.has1 :: As) w := St.flat H

theorem thicketlaw9_world.shut {w0 w : World} {As : List HP} {p : Nat} (al : thicketlaw9_world.A) (m : thicketlaw9_world) (H : St w0 (Blk p 33 [.pointer (some ⟨al.a__p, 0, none⟩), .int .i64 m.root0, .int .i64 m.root1, .slice al.has0_b m.has0.length al.has0_c, .slice al.has1_b m.has1.length al.has1_c, .int .i64 m.next, .int .i64 m.spent, .int .i64 m.most] :: arena_Arena.R al.a__p al.a__a m.a_ :: Sl 64 thicketlaw9_held.enc 3 al.has0_b al.has0_c m.has0 :: Sl 64 thicketlaw9_held.enc 3 al.has1_b al.has1_c m.has1 :: As) w) : St w0 (thicketlaw9_world.R p al m :: As) w := St.group [Blk p 33 [.pointer (some ⟨al.a__p, 0, none⟩), .int .i64 m.root0, .int .i64 m.root1, .slice al.has0_b m.has0.length al.has0_c, .slice al.has1_b m.has1.length al.has1_c, .int .i64 m.next, .int .i64 m.spent, .int .i64 m.most], arena_Arena.R al.a__p al.a__a m.a_, Sl 64 thicketlaw9_held.enc 3 al.has0_b al.has0_c m.has0, Sl 64 thicketlaw9_held.enc 3 al.has1_b al.has1_c m.has1] H

theorem arena_Arena_Meter_ok {w0 w : World} {As : List HP} {p_a_ : Nat} {al_a_ : arena_Arena.A} {a_ : arena_Arena} {t : Unit}  (hm : arena_Arena_Meter a_ = some t) (H : St w0 (arena_Arena.R p_a_ al_a_ a_ :: As) w) :
    CallsR Tryz.prog 20 #[.pointer (some ⟨p_a_, 0, none⟩)] w fun v w' => v = .pointer (some ⟨al_a_.m__p, 0, none⟩) ∧ St w0 (arena_Arena.R p_a_ al_a_ a_ :: As) w' := by
 rw [arena_Arena_Meter] at hm
 refine enter (args := [.pointer (some ⟨p_a_, 0, none⟩)]) Tryz.func20 rfl rfl rfl fun a hE => ?_
 refine Runs.sr ?_
 refine WR.seg hE 1 [] [0] (Lo := [(0, .pointer (some ⟨p_a_, 0, none⟩))]) (obs := []) rfl (by kernel_rfl) trivial fun a hE => ?_
 refine WR.done rfl ?_
 refine Runs.sr ?_
 replace H := arena_Arena.open H
 refine WR.e hE [.pointer (some ⟨al_a_.m__p, 0, none⟩)] [(2, .pointer (some ⟨al_a_.m__p, 0, none⟩))] (obs := [.cell ⟨p_a_, 3, none⟩ (.pointer (some ⟨al_a_.m__p, 0, none⟩))]) ⟨H.cell 0 rfl rfl, trivial⟩ fun a hE => ?_
 replace H := arena_Arena.shut al_a_ (a_) H.t3.t3.t3.t3
 refine Runs.ret hE Tryz.func20 rfl rfl ?_
 cases hm
 exact ⟨rfl, H⟩

theorem meter_Meter_Steps_ok {w0 w : World} {As : List HP} {p_m_ : Nat} {m_ : meter_Meter} {t : Int}  (hm : meter_Meter_Steps m_ = some t) (H : St w0 (meter_Meter.R p_m_ m_ :: As) w) :
    CallsR Tryz.prog 21 #[.pointer (some ⟨p_m_, 0, none⟩)] w fun v w' => v = .int .i64 t ∧ St w0 (meter_Meter.R p_m_ m_ :: As) w' := by
 rw [meter_Meter_Steps] at hm
 refine enter (args := [.pointer (some ⟨p_m_, 0, none⟩)]) Tryz.func21 rfl rfl rfl fun a hE => ?_
 refine Runs.sr ?_
 refine WR.seg hE 1 [] [0] (Lo := [(0, .pointer (some ⟨p_m_, 0, none⟩))]) (obs := []) rfl (by kernel_rfl) trivial fun a hE => ?_
 refine WR.done rfl ?_
 refine Runs.sr ?_
 replace H := meter_Meter.open H
 refine WR.e hE [.int .i64 m_.steps] [(2, .int .i64 m_.steps)] (obs := [.cell ⟨p_m_, 0, none⟩ (.int .i64 m_.steps)]) ⟨H.cell 0 rfl rfl, trivial⟩ fun a hE => ?_
 replace H := meter_Meter.shut (m_) H
 refine Runs.ret hE Tryz.func21 rfl rfl ?_
 cases hm
 exact ⟨rfl, H⟩

theorem thicketref1_Bits_ok {w0 w : World} {As : List HP} {k : Nat} {n : Int} {t : Int}  (hm : thicketref1_Bits k n = some t) (H : St w0 (As) w) :
    CallsR Tryz.prog 102 #[.int .i64 n] w fun v w' => v = .int .i64 t ∧ St w0 (As) w' := by
 rw [thicketref1_Bits] at hm
 refine enter (args := [.int .i64 n]) Tryz.func102 rfl rfl rfl fun a hE => ?_
 refine Runs.sr ?_
 refine WR.seg hE 1 [] [0] (Lo := [(0, .int .i64 n)]) (obs := []) rfl (by kernel_rfl) trivial fun a hE => ?_
 refine WR.done rfl ?_
 refine Runs.sr ?_
 refine WR.e0 hE [(3, .int .i64 0)] fun a hE => ?_
 refine Runs.seq ?_
 obtain ⟨s, es, hm⟩ := bind_some hm
 refine Runs.join (fun a w => EnvOk 11 a [(3, .int .i64 s)] ∧ St w0 (As) w) (fun hk => ?_) ?_
 ·replace hm := es; clear es
  refine Runs.block ?_
  refine Runs.loop (fun m a w => ∃ (n1 : Int), ∃ (k_ : Int), EnvOk 11 a [(0, .int .i64 n1), (3, .int .i64 k_)] ∧ St w0 (As) w ∧ thicketref1_Bits_l0 m n1 k_ = some s) k ⟨n, 0, hE.sel [0, 3] (by kernel_rfl), H, hm⟩ ?_
  rintro m ih a w ⟨n1, k_, hE, H, hm⟩
  cases m with
  | zero => simp [thicketref1_Bits_l0] at hm
  | succ m =>
   rw [thicketref1_Bits_l0] at hm
   refine Runs.seq ?_
   refine Runs.sr ?_
   refine WR.seg hE 2 [] [0, 3, 5] (Lo := [(0, .int .i64 n1), (3, .int .i64 k_), (5, .bool (decide (n1 > 0)))]) (obs := []) rfl (by kernel_rfl) trivial fun a hE => ?_
   refine WR.done rfl ?_
   refine Runs.cond hE rfl (fun c => ?_) (fun c => ?_)
   ·replace hm := cond_t c hm
    refine Runs.skip ?_
    refine Runs.block ?_
    refine Runs.sr ?_
    refine WR.e hE [] [(0, .int .i64 (w64 (Int.tdiv n1 2)))] (obs := [.p ((2 : Int) ≠ 0)]) ⟨(by show _ ≠ _; decide), trivial⟩ fun a hE => ?_
    refine Runs.region ?_
    refine WR.e0 hE [(3, .int .i64 (w64 (k_ + 1)))] fun a hE => ?_
    refine Runs.inBlock ?_
    exact ih m (Nat.lt_succ_self m) _ _ ⟨w64 (Int.tdiv n1 2), w64 (k_ + 1), hE.sel [0, 3] (by kernel_rfl), H, hm⟩
   ·replace hm := cond_f c hm
    refine Runs.exit rfl ?_
    cases hm
    exact hk _ _ ⟨hE.sel [3] (by kernel_rfl), H⟩
 rintro a w ⟨hE, H⟩
 refine Runs.sr ?_
 refine WR.seg hE 2 [] [2] (Lo := [(2, .int .i64 s)]) (obs := []) rfl (by kernel_rfl) trivial fun a hE => ?_
 refine WR.done rfl ?_
 refine Runs.ret hE Tryz.func102 rfl rfl ?_
 cases hm
 exact ⟨rfl, H⟩

theorem thicketref1_Add_ok {w0 w : World} {As : List HP} {a_ : Int} {b : Int} {t : Int}  (hm : thicketref1_Add a_ b = some t) (H : St w0 (As) w) :
    CallsR Tryz.prog 103 #[.int .i64 a_, .int .i64 b] w fun v w' => v = .int .i64 t ∧ St w0 (As) w' := by
 rw [thicketref1_Add] at hm
 refine enter (args := [.int .i64 a_, .int .i64 b]) Tryz.func103 rfl rfl rfl fun a hE => ?_
 refine Runs.sr ?_
 refine WR.seg hE 1 [] [0, 1] (Lo := [(0, .int .i64 a_), (1, .int .i64 b)]) (obs := []) rfl (by kernel_rfl) trivial fun a hE => ?_
 refine WR.done rfl ?_
 refine Runs.seq ?_
 refine Runs.seq ?_
 refine Runs.join (fun a w => EnvOk 24 a [(0, .int .i64 a_), (1, .int .i64 b), (12, .bool ((decide (a_ > 0)) && (decide (b > w64 (9223372036854775807 - a_)))))] ∧ St w0 (As) w) (fun hk => ?_) ?_
 ·clear hm
  refine Runs.region ?_
  refine WR.d0 hE 3 [(7, .bool (decide (a_ > 0)))] fun a hE => ?_
  rcases Bool.eq_false_or_eq_true (decide (a_ > 0)) with c | c
  ·replace hE := hE.dec 7 c (by kernel_rfl)
   have c_ := c
   refine WR.e0 hE [(12, .bool (decide (b > w64 (9223372036854775807 - a_))))] fun a hE => ?_
   refine hk _ _ ⟨?_, H⟩
   try rw [c_] at hE
   try rw [c_]
   exact hE.sel [0, 1, 12] (by kernel_rfl)
  ·replace hE := hE.dec 7 c (by kernel_rfl)
   have c_1 := c
   refine WR.e0 hE [(12, .bool false)] fun a hE => ?_
   refine hk _ _ ⟨?_, H⟩
   try rw [c_1] at hE
   try rw [c_1]
   exact hE.sel [0, 1, 12] (by kernel_rfl)
 rintro a w ⟨hE, H⟩
 refine Runs.cond hE rfl (fun c => ?_) (fun c => ?_)
 ·replace hm := cond_t c hm
  refine Runs.sr ?_
  refine WR.seg hE 1 [] [4] (Lo := [(4, .int .i64 9223372036854775807)]) (obs := []) rfl (by kernel_rfl) trivial fun a hE => ?_
  refine WR.done rfl ?_
  refine Runs.ret hE Tryz.func103 rfl rfl ?_
  cases hm
  exact ⟨rfl, H⟩
 ·replace hm := cond_f c hm
  refine Runs.skip ?_
  refine Runs.seq ?_
  refine Runs.seq ?_
  refine Runs.join (fun a w => EnvOk 24 a [(0, .int .i64 a_), (1, .int .i64 b), (20, .bool ((decide (a_ < 0)) && (decide (b < w64 ((-9223372036854775808) - a_)))))] ∧ St w0 (As) w) (fun hk => ?_) ?_
  ·clear hm
   refine Runs.region ?_
   refine WR.seg hE 3 [] [0, 1, 15] (Lo := [(0, .int .i64 a_), (1, .int .i64 b), (15, .bool (decide (a_ < 0)))]) (obs := []) rfl (by kernel_rfl) trivial fun a hE => ?_
   rcases Bool.eq_false_or_eq_true (decide (a_ < 0)) with c | c
   ·replace hE := hE.dec 15 c (by kernel_rfl)
    have c_2 := c
    refine WR.e0 hE [(20, .bool (decide (b < w64 ((-9223372036854775808) - a_))))] fun a hE => ?_
    refine hk _ _ ⟨?_, H⟩
    try rw [c_2] at hE
    try rw [c_2]
    exact hE.sel [0, 1, 20] (by kernel_rfl)
   ·replace hE := hE.dec 15 c (by kernel_rfl)
    have c_3 := c
    refine WR.e0 hE [(20, .bool false)] fun a hE => ?_
    refine hk _ _ ⟨?_, H⟩
    try rw [c_3] at hE
    try rw [c_3]
    exact hE.sel [0, 1, 20] (by kernel_rfl)
  rintro a w ⟨hE, H⟩
  refine Runs.cond hE rfl (fun c => ?_) (fun c => ?_)
  ·replace hm := cond_t c hm
   refine Runs.sr ?_
   refine WR.seg hE 1 [] [4] (Lo := [(4, .int .i64 (-9223372036854775808))]) (obs := []) rfl (by kernel_rfl) trivial fun a hE => ?_
   refine WR.done rfl ?_
   refine Runs.ret hE Tryz.func103 rfl rfl ?_
   cases hm
   exact ⟨rfl, H⟩
  ·replace hm := cond_f c hm
   refine Runs.skip ?_
   refine Runs.sr ?_
   refine WR.seg hE 4 [] [4] (Lo := [(4, .int .i64 (w64 (a_ + b)))]) (obs := []) rfl (by kernel_rfl) trivial fun a hE => ?_
   refine WR.done rfl ?_
   refine Runs.ret hE Tryz.func103 rfl rfl ?_
   cases hm
   exact ⟨rfl, H⟩

theorem thicketref1_Limit_ok {w0 w : World} {As : List HP} {k : Nat} {a_ : Int} {b : Int} {n : Int} {t : Int}  (hm : thicketref1_Limit k a_ b n = some t) (H : St w0 (As) w) :
    CallsR Tryz.prog 61 #[.int .i64 a_, .int .i64 b, .int .i64 n] w fun v w' => v = .int .i64 t ∧ St w0 (As) w' := by
 rw [thicketref1_Limit] at hm
 refine enter (args := [.int .i64 a_, .int .i64 b, .int .i64 n]) Tryz.func61 rfl rfl rfl fun a hE => ?_
 refine Runs.sr ?_
 refine WR.seg hE 1 [] [0, 1, 2] (Lo := [(0, .int .i64 a_), (1, .int .i64 b), (2, .int .i64 n)]) (obs := []) rfl (by kernel_rfl) trivial fun a hE => ?_
 refine WR.done rfl ?_
 refine Runs.sr ?_
 refine WR.e0 hE [(7, .int .i64 a_)] fun a hE => ?_
 refine Runs.seq ?_
 refine Runs.sr ?_
 refine WR.d0 hE 1 [(10, .int .i64 n)] fun a hE => ?_
 obtain ⟨t_, et_, hm⟩ := bind_some hm
 refine WR.eff hE rfl rfl rfl rfl (OpTo.fn hE rfl rfl Tryz.call102 (thicketref1_Bits_ok et_ H)) ?_
 rintro _ w ⟨rfl, H⟩ a hE
 refine WR.e0 hE [(8, .int .i64 t_)] fun a hE => ?_
 obtain ⟨s, es, hm⟩ := bind_some hm
 refine Runs.join (fun a w => EnvOk 20 a [(7, .int .i64 s)] ∧ St w0 (As) w) (fun hk => ?_) ?_
 ·replace hm := es; clear es
  refine Runs.block ?_
  refine Runs.loop (fun m a w => ∃ (x : Int), ∃ (k_ : Int), EnvOk 20 a [(1, .int .i64 b), (7, .int .i64 x), (8, .int .i64 k_)] ∧ St w0 (As) w ∧ thicketref1_Limit_l0 b m x k_ = some s) k ⟨a_, t_, hE.sel [1, 7, 8] (by kernel_rfl), H, hm⟩ ?_
  rintro m ih a w ⟨x, k_, hE, H, hm⟩
  cases m with
  | zero => simp [thicketref1_Limit_l0] at hm
  | succ m =>
   rw [thicketref1_Limit_l0] at hm
   refine Runs.seq ?_
   refine Runs.sr ?_
   refine WR.seg hE 2 [] [1, 7, 8, 13] (Lo := [(1, .int .i64 b), (7, .int .i64 x), (8, .int .i64 k_), (13, .bool (decide (k_ > 0)))]) (obs := []) rfl (by kernel_rfl) trivial fun a hE => ?_
   refine WR.done rfl ?_
   refine Runs.cond hE rfl (fun c => ?_) (fun c => ?_)
   ·replace hm := cond_t c hm
    refine Runs.skip ?_
    refine Runs.seq ?_
    refine Runs.block ?_
    refine Runs.region ?_
    refine WR.d0 hE 2 [(16, .int .i64 x), (17, .int .i64 b)] fun a hE => ?_
    obtain ⟨t_1, et_1, hm⟩ := bind_some hm
    refine WR.eff hE rfl rfl rfl rfl (OpTo.fn hE rfl rfl Tryz.call103 (thicketref1_Add_ok et_1 H)) ?_
    rintro _ w ⟨rfl, H⟩ a hE
    refine WR.e0 hE [(7, .int .i64 t_1)] fun a hE => ?_
    refine Runs.inBlock ?_
    refine Runs.region ?_
    refine WR.e0 hE [(8, .int .i64 (w64 (k_ - 1)))] fun a hE => ?_
    exact ih m (Nat.lt_succ_self m) _ _ ⟨t_1, w64 (k_ - 1), hE.sel [1, 7, 8] (by kernel_rfl), H, hm⟩
   ·replace hm := cond_f c hm
    refine Runs.exit rfl ?_
    cases hm
    exact hk _ _ ⟨hE.sel [7] (by kernel_rfl), H⟩
 rintro a w ⟨hE, H⟩
 refine Runs.sr ?_
 refine WR.seg hE 2 [] [6] (Lo := [(6, .int .i64 s)]) (obs := []) rfl (by kernel_rfl) trivial fun a hE => ?_
 refine WR.done rfl ?_
 refine Runs.ret hE Tryz.func61 rfl rfl ?_
 cases hm
 exact ⟨rfl, H⟩

theorem thicketlaw9_world_cost_ok {w0 w : World} {As : List HP} {k : Nat} {p_w_ : Nat} {al_w_ : thicketlaw9_world.A} {w_ : thicketlaw9_world} {since : Int} {kind : Int} {n : Int} {t : Bool × thicketlaw9_world}  (hm : thicketlaw9_world_cost k w_ since kind n = some t) (H : St w0 (thicketlaw9_world.R p_w_ al_w_ w_ :: As) w) :
    CallsR Tryz.prog 23 #[.pointer (some ⟨p_w_, 0, none⟩), .int .i64 since, .int .i64 kind, .int .i64 n] w fun v w' => v = .bool t.1 ∧ t.2.has0 = w_.has0 ∧ t.2.has1 = w_.has1 ∧ St w0 (thicketlaw9_world.R p_w_ al_w_ t.2 :: As) w' := by
 rw [thicketlaw9_world_cost] at hm
 refine enter (args := [.pointer (some ⟨p_w_, 0, none⟩), .int .i64 since, .int .i64 kind, .int .i64 n]) Tryz.func23 rfl rfl rfl fun a hE => ?_
 refine Runs.sr ?_
 refine WR.seg hE 1 [] [0, 1, 2, 3] (Lo := [(0, .pointer (some ⟨p_w_, 0, none⟩)), (1, .int .i64 since), (2, .int .i64 kind), (3, .int .i64 n)]) (obs := []) rfl (by kernel_rfl) trivial fun a hE => ?_
 refine WR.done rfl ?_
 refine Runs.sr ?_
 replace H := thicketlaw9_world.open H
 refine WR.d hE 4 [.pointer (some ⟨al_w_.a__p, 0, none⟩)] [(14, .pointer (some ⟨al_w_.a__p, 0, none⟩))] (obs := [.cell ⟨p_w_, 0, none⟩ (.pointer (some ⟨al_w_.a__p, 0, none⟩))]) ⟨H.cell 0 rfl rfl, trivial⟩ fun a hE => ?_
 obtain ⟨t_, et_, hm⟩ := bind_some hm
 refine WR.eff hE rfl rfl rfl rfl (OpTo.fn hE rfl rfl Tryz.call20 (arena_Arena_Meter_ok et_ H.t1)) ?_
 rintro _ w ⟨rfl, H⟩ a hE
 replace H := arena_Arena.open H
 obtain ⟨t_1, et_1, hm⟩ := bind_some hm
 refine WR.eff hE rfl rfl rfl rfl (OpTo.fn hE rfl rfl Tryz.call21 (meter_Meter_Steps_ok et_1 H.t3)) ?_
 rintro _ w ⟨rfl, H⟩ a hE
 refine WR.e0 hE [(9, .int .i64 (w64 (t_1 - since)))] fun a hE => ?_
 refine Runs.sr ?_
 refine WR.e0 hE [(10, .int .i64 500)] fun a hE => ?_
 refine Runs.seq ?_
 refine Runs.sr ?_
 refine WR.e0 hE [(20, .bool (kind == 1))] fun a hE => ?_
 replace H := arena_Arena.shut al_w_.a__a (w_.a_) H.t3.t3.t3
 replace H := thicketlaw9_world.shut al_w_ (w_) H.t3.t3.t2.t3
 obtain ⟨s, es, hm⟩ := bind_some hm
 refine Runs.join (fun a w => EnvOk 44 a [(0, .pointer (some ⟨p_w_, 0, none⟩)), (9, .int .i64 (w64 (t_1 - since))), (10, .int .i64 s)] ∧ St w0 (thicketlaw9_world.R p_w_ al_w_ w_ :: As) w) (fun hk => ?_) ?_
 ·replace hm := es; clear es
  refine Runs.cond hE rfl (fun c => ?_) (fun c => ?_)
  ·replace hm := cond_t c hm
   refine Runs.region ?_
   refine WR.d0 hE 1 [(21, .int .i64 n)] fun a hE => ?_
   obtain ⟨t_2, et_2, hm⟩ := bind_some hm
   refine WR.eff hE rfl rfl rfl rfl (OpTo.fn hE rfl rfl Tryz.call61 (thicketref1_Limit_ok et_2 H)) ?_
   rintro _ w ⟨rfl, H⟩ a hE
   refine WR.e0 hE [(10, .int .i64 t_2)] fun a hE => ?_
   cases hm
   exact hk _ _ ⟨hE.sel [0, 9, 10] (by kernel_rfl), H⟩
  ·replace hm := cond_f c hm
   refine Runs.skip ?_
   cases hm
   exact hk _ _ ⟨hE.sel [0, 9, 10] (by kernel_rfl), H⟩
 rintro a w ⟨hE, H⟩
 refine Runs.seq ?_
 refine Runs.drawn mixed (by kernel_rfl) ?_
 replace H := H.drew
 replace H := thicketlaw9_world.open H
 refine WQ.seg hE [0, 1, 2, 3, 4, 5, 6, 7, 8, 9, 10, 11, 12, 13, 14, 15] [.int .i64 w_.spent, .int .i64 w_.most] [9, 10, 24, 30, 36, 38] (Lo := [(9, .int .i64 (w64 (t_1 - since))), (10, .int .i64 s), (24, .pointer (some ⟨p_w_, 0, none⟩)), (30, .int .i64 (w64 (w_.spent + (w64 (t_1 - since))))), (36, .int .i64 (w64 (w_.most + s))), (38, .pointer (some ⟨p_w_, 6, none⟩))]) (obs := [.cell ⟨p_w_, 6, none⟩ (.int .i64 w_.spent), .cell ⟨p_w_, 7, none⟩ (.int .i64 w_.most)]) (by kernel_rfl) (by kernel_rfl) ⟨H.cell 0 rfl rfl, H.cell 0 rfl rfl, trivial⟩ fun a hE => ?_
 refine WQ.eff0 (j := 16) (obs := []) hE (by kernel_rfl) rfl rfl rfl (by kernel_rfl) (OpTo.store hE H rfl rfl rfl rfl rfl rfl (Nat.le_of_ble_eq_true rfl)) ?_
 rintro _ w H
 refine ⟨trivial, fun a hE => ?_⟩
 refine WQ.d0 hE [17, 18] [(40, .pointer (some ⟨p_w_, 7, none⟩))] fun a hE => ?_
 refine WQ.eff0 (j := 19) (obs := []) hE (by kernel_rfl) rfl rfl rfl (by kernel_rfl) (OpTo.store hE H rfl rfl rfl rfl rfl rfl (Nat.le_of_ble_eq_true rfl)) ?_
 rintro _ w H
 refine ⟨trivial, fun a hE => ?_⟩
 refine WQ.done (by kernel_rfl) ?_
 refine Runs.sr ?_
 refine WR.e0 hE [(8, .bool (decide (w64 (t_1 - since) ≤ s)))] fun a hE => ?_
 replace H := thicketlaw9_world.shut al_w_ (thicketlaw9_world.mk w_.a_ w_.root0 w_.root1 w_.has0 w_.has1 w_.next (w64 (w_.spent + (w64 (t_1 - since)))) (w64 (w_.most + s))) H.t3.t3.t3.t3
 refine Runs.ret hE Tryz.func23 rfl rfl ?_
 cases hm
 exact ⟨rfl, rfl, rfl, H⟩

theorem order_Add_ok {w0 w : World} {As : List HP} {a_ : Int} {b : Int} {t : Int}  (hm : order_Add a_ b = some t) (H : St w0 (As) w) :
    CallsR Tryz.prog 109 #[.int .i64 a_, .int .i64 b] w fun v w' => v = .int .i64 t ∧ St w0 (As) w' := by
 rw [order_Add] at hm
 refine enter (args := [.int .i64 a_, .int .i64 b]) Tryz.func109 rfl rfl rfl fun a hE => ?_
 refine Runs.sr ?_
 refine WR.seg hE 1 [] [0, 1] (Lo := [(0, .int .i64 a_), (1, .int .i64 b)]) (obs := []) rfl (by kernel_rfl) trivial fun a hE => ?_
 refine WR.done rfl ?_
 refine Runs.seq ?_
 refine Runs.block ?_
 refine Runs.seq ?_
 refine Runs.join (fun a w => EnvOk 26 a [(0, .int .i64 a_), (1, .int .i64 b), (5, .bool ((decide (b > 0)) && (decide (a_ > w64 (9223372036854775807 - b)))))] ∧ St w0 (As) w) (fun hk => ?_) ?_
 ·clear hm
  refine Runs.region ?_
  refine WR.d0 hE 3 [(8, .bool (decide (b > 0)))] fun a hE => ?_
  rcases Bool.eq_false_or_eq_true (decide (b > 0)) with c | c
  ·replace hE := hE.dec 8 c (by kernel_rfl)
   have c_ := c
   refine WR.e0 hE [(5, .bool (decide (a_ > w64 (9223372036854775807 - b))))] fun a hE => ?_
   refine hk _ _ ⟨?_, H⟩
   try rw [c_] at hE
   try rw [c_]
   exact hE.sel [0, 1, 5] (by kernel_rfl)
  ·replace hE := hE.dec 8 c (by kernel_rfl)
   have c_1 := c
   refine WR.e0 hE [(5, .bool false)] fun a hE => ?_
   refine hk _ _ ⟨?_, H⟩
   try rw [c_1] at hE
   try rw [c_1]
   exact hE.sel [0, 1, 5] (by kernel_rfl)
 rintro a w ⟨hE, H⟩
 refine Runs.cond hE rfl (fun c => ?_) (fun c => ?_)
 ·replace hm := cond_t c hm
  refine Runs.sr ?_
  refine WR.seg hE 1 [] [4] (Lo := [(4, .int .i64 9223372036854775807)]) (obs := []) rfl (by kernel_rfl) trivial fun a hE => ?_
  refine WR.done rfl ?_
  refine Runs.ret hE Tryz.func109 rfl rfl ?_
  cases hm
  exact ⟨rfl, H⟩
 ·replace hm := cond_f c hm
  refine Runs.seq ?_
  refine Runs.join (fun a w => EnvOk 26 a [(0, .int .i64 a_), (1, .int .i64 b), (14, .bool ((decide (b < 0)) && (decide (a_ < w64 ((-9223372036854775808) - b)))))] ∧ St w0 (As) w) (fun hk => ?_) ?_
  ·clear hm
   refine Runs.region ?_
   refine WR.seg hE 3 [] [0, 1, 17] (Lo := [(0, .int .i64 a_), (1, .int .i64 b), (17, .bool (decide (b < 0)))]) (obs := []) rfl (by kernel_rfl) trivial fun a hE => ?_
   rcases Bool.eq_false_or_eq_true (decide (b < 0)) with c | c
   ·replace hE := hE.dec 17 c (by kernel_rfl)
    have c_2 := c
    refine WR.e0 hE [(14, .bool (decide (a_ < w64 ((-9223372036854775808) - b))))] fun a hE => ?_
    refine hk _ _ ⟨?_, H⟩
    try rw [c_2] at hE
    try rw [c_2]
    exact hE.sel [0, 1, 14] (by kernel_rfl)
   ·replace hE := hE.dec 17 c (by kernel_rfl)
    have c_3 := c
    refine WR.e0 hE [(14, .bool false)] fun a hE => ?_
    refine hk _ _ ⟨?_, H⟩
    try rw [c_3] at hE
    try rw [c_3]
    exact hE.sel [0, 1, 14] (by kernel_rfl)
  rintro a w ⟨hE, H⟩
  refine Runs.cond hE rfl (fun c => ?_) (fun c => ?_)
  ·replace hm := cond_t c hm
   refine Runs.sr ?_
   refine WR.seg hE 1 [] [4] (Lo := [(4, .int .i64 (-9223372036854775808))]) (obs := []) rfl (by kernel_rfl) trivial fun a hE => ?_
   refine WR.done rfl ?_
   refine Runs.ret hE Tryz.func109 rfl rfl ?_
   cases hm
   exact ⟨rfl, H⟩
  ·replace hm := cond_f c hm
   refine Runs.skip ?_
   refine Runs.inBlock ?_
   refine Runs.sr ?_
   refine WR.seg hE 4 [] [4] (Lo := [(4, .int .i64 (w64 (a_ + b)))]) (obs := []) rfl (by kernel_rfl) trivial fun a hE => ?_
   refine WR.done rfl ?_
   refine Runs.ret hE Tryz.func109 rfl rfl ?_
   cases hm
   exact ⟨rfl, H⟩

theorem meter_Meter_Tick_ok {w0 w : World} {As : List HP} {p_m_ : Nat} {m_ : meter_Meter} {n : Int} {t : meter_Meter}  (hm : meter_Meter_Tick m_ n = some t) (H : St w0 (meter_Meter.R p_m_ m_ :: As) w) :
    CallsR Tryz.prog 66 #[.pointer (some ⟨p_m_, 0, none⟩), .int .i64 n] w fun v w' => v = .tuple #[] ∧ St w0 (meter_Meter.R p_m_ t :: As) w' := by
 rw [meter_Meter_Tick] at hm
 refine enter (args := [.pointer (some ⟨p_m_, 0, none⟩), .int .i64 n]) Tryz.func66 rfl rfl rfl fun a hE => ?_
 refine Runs.region ?_
 replace H := meter_Meter.open H
 refine WR.seg hE 7 [.int .i64 m_.steps] [4, 8, 10] (Lo := [(4, .pointer (some ⟨p_m_, 0, none⟩)), (8, .int .i64 m_.steps), (10, .int .i64 (if n > 0 then n else 0))]) (obs := [.cell ⟨p_m_, 0, none⟩ (.int .i64 m_.steps)]) rfl (by kernel_rfl) ⟨H.cell 0 rfl rfl, trivial⟩ fun a hE => ?_
 obtain ⟨t_, et_, hm⟩ := bind_some hm
 refine WR.eff hE rfl rfl rfl rfl (OpTo.fn hE rfl rfl Tryz.call109 (order_Add_ok et_ H)) ?_
 rintro _ w ⟨rfl, H⟩ a hE
 refine WR.d0 hE 10 [(13, .pointer (some ⟨p_m_, 0, none⟩))] fun a hE => ?_
 refine WR.eff0 hE rfl rfl rfl (OpTo.store hE H rfl rfl rfl rfl rfl rfl (Nat.le_of_ble_eq_true rfl)) ?_
 rintro _ w H a hE
 refine WR.done rfl ?_
 replace H := meter_Meter.shut (meter_Meter.mk t_ m_.begun m_.most) H
 refine Runs.fin hE Tryz.func66 rfl rfl ?_
 cases hm
 exact ⟨rfl, H⟩

theorem arena_fresh_ok {w0 w : World} {As : List HP}  {t : arena_cell}  (hm : arena_fresh = some t) (H : St w0 (As) w) :
    CallsR Tryz.prog 93 #[] w fun v w' => v = .agg #[.int .i64 t.f0, .int .i64 t.f1, .int .i64 t.f2, .int .i64 t.f3, .int .i64 t.f4, .int .i64 t.f5, .int .i64 t.f6, .int .i64 t.f7, .int .i64 t.f8, .int .i64 t.f9, .bool t.taken] ∧ St w0 (As) w' := by
 rw [arena_fresh] at hm
 refine enter (args := []) Tryz.func93 rfl rfl rfl fun a hE => ?_
 refine Runs.sr ?_
 refine WR.eff hE rfl rfl rfl rfl (OpTo.new hE H [] (.cells #[.int .i64 0, .int .i64 0, .int .i64 0, .int .i64 0, .int .i64 0, .int .i64 0, .int .i64 0, .int .i64 0, .int .i64 0, .int .i64 0, .bool false] 100 (0, 0)) (fun r => .pointer (some ⟨r, 0, none⟩)) (obs := []) rfl (fun _ => by kernel_rfl) trivial) ?_
 rintro _ w ⟨r, rfl, H⟩ a hE
 refine WR.done rfl ?_
 refine Runs.sr ?_
 refine WR.seg hE 1 [] [0, 4] (Lo := [(0, .pointer (some ⟨r, 0, none⟩)), (4, .agg #[.int .i64 0, .int .i64 0, .int .i64 0, .int .i64 0, .int .i64 0, .int .i64 0, .int .i64 0, .int .i64 0, .int .i64 0, .int .i64 0, .bool true])]) (obs := []) rfl (by kernel_rfl) trivial fun a hE => ?_
 refine WR.eff hE rfl rfl rfl rfl (OpTo.new hE H [] (.cells #[.int .i64 0, .int .i64 0, .int .i64 0, .int .i64 0, .int .i64 0, .int .i64 0, .int .i64 0, .int .i64 0, .int .i64 0, .int .i64 0, .bool false] 100 (0, 0)) (fun r => .pointer (some ⟨r, 0, none⟩)) (obs := []) rfl (fun _ => by kernel_rfl) trivial) ?_
 rintro _ w ⟨r1, rfl, H⟩ a hE
 refine WR.eff0 hE rfl rfl rfl (OpTo.store hE H rfl rfl rfl rfl rfl rfl (Nat.le_of_ble_eq_true rfl)) ?_
 rintro _ w H a hE
 refine WR.done rfl ?_
 refine Runs.seq ?_
 refine Runs.sr ?_
 refine WR.eff hE rfl rfl rfl rfl (OpTo.buildSl (T := 3) hE H ecI_ok ([0, 1, 2, 3, 6, 9] : List Int) rfl (fun _ => by kernel_rfl) rfl rfl rfl) ?_
 rintro _ w ⟨r2, rfl, H⟩ a hE
 refine WR.e0 hE [(6, .int .i64 6), (7, .int .i64 0)] fun a hE => ?_
 refine Runs.block ?_
 refine Runs.unroll ?_
 refine Runs.sr ?_
 refine WR.e0 hE [(8, .bool true)] fun a hE => ?_
 refine Runs.seq ?_
 refine Runs.condT hE rfl ?_
 refine Runs.skip ?_
 refine Runs.seq ?_
 refine Runs.block ?_
 refine Runs.sr ?_
 obtain ⟨b, o, hs, hb⟩ := SlRd.base (sl_rd 3 ecI 1 _ _ _) ecI_ok H 0 rfl (rfl : mIdx ([0, 1, 2, 3, 6, 9] : List Int) (0 : Int) = some 0)
 refine WR.e hE [.pointer (some ⟨b, o, none⟩), .int .i64 0] [(3, .int .i64 0)] (obs := [.p (((some ⟨r2, 0, none⟩) : Option Addr) = some ⟨b, o, none⟩), .p (0 ≤ (0 : Int) ∧ (0 : Int) < ((([0, 1, 2, 3, 6, 9] : List Int).length : Nat) : Int)), .cell ⟨b, o + (Int.toNat 0) * 1, none⟩ (.int .i64 0)]) ⟨hs, hb, SlRd.cells (sl_rd 3 ecI 1 _ _ _) ecI_ok H 0 rfl hs (rfl : mIdx ([0, 1, 2, 3, 6, 9] : List Int) (0 : Int) = some 0) 0 _ rfl, trivial⟩ fun a hE => ?_
 refine Runs.region ?_
 refine WR.d hE 3 [] [(13, .pointer (some ⟨r1, 0, none⟩))] (obs := [.p (0 ≤ (0 : Int) ∧ (0 : Int) < ((10 : Nat) : Int))]) ⟨⟨by decide, by decide⟩, trivial⟩ fun a hE => ?_
 refine WR.eff0 hE rfl rfl rfl (OpTo.store hE H.t1 rfl rfl rfl rfl rfl rfl (Nat.le_of_ble_eq_true rfl)) ?_
 rintro _ w H a hE
 refine WR.done rfl ?_
 refine Runs.inBlock ?_
 refine Runs.region ?_
 refine WR.e0 hE [(7, .int .i64 1)] fun a hE => ?_
 refine Runs.inLoop ?_
 refine Runs.sr ?_
 refine WR.e0 hE [(8, .bool true)] fun a hE => ?_
 refine Runs.seq ?_
 refine Runs.condT hE rfl ?_
 refine Runs.skip ?_
 refine Runs.seq ?_
 refine Runs.block ?_
 refine Runs.sr ?_
 obtain ⟨b1, o1, hs1, hb1⟩ := SlRd.base (sl_rd 3 ecI 1 _ _ _) ecI_ok H 1 rfl (rfl : mIdx ([0, 1, 2, 3, 6, 9] : List Int) (1 : Int) = some 1)
 refine WR.e hE [.pointer (some ⟨b1, o1, none⟩), .int .i64 1] [(3, .int .i64 1)] (obs := [.p (((some ⟨r2, 0, none⟩) : Option Addr) = some ⟨b1, o1, none⟩), .p (0 ≤ (1 : Int) ∧ (1 : Int) < ((([0, 1, 2, 3, 6, 9] : List Int).length : Nat) : Int)), .cell ⟨b1, o1 + (Int.toNat 1) * 1, none⟩ (.int .i64 1)]) ⟨hs1, hb1, SlRd.cells (sl_rd 3 ecI 1 _ _ _) ecI_ok H 1 rfl hs1 (rfl : mIdx ([0, 1, 2, 3, 6, 9] : List Int) (1 : Int) = some 1) 0 _ rfl, trivial⟩ fun a hE => ?_
 refine Runs.region ?_
 refine WR.d hE 3 [] [(13, .pointer (some ⟨r1, 1, none⟩))] (obs := [.p (0 ≤ (1 : Int) ∧ (1 : Int) < ((10 : Nat) : Int))]) ⟨⟨by decide, by decide⟩, trivial⟩ fun a hE => ?_
 refine WR.eff0 hE rfl rfl rfl (OpTo.store hE H rfl rfl rfl rfl rfl rfl (Nat.le_of_ble_eq_true rfl)) ?_
 rintro _ w H a hE
 refine WR.done rfl ?_
 refine Runs.inBlock ?_
 refine Runs.region ?_
 refine WR.e0 hE [(7, .int .i64 2)] fun a hE => ?_
 refine Runs.inLoop ?_
 refine Runs.sr ?_
 refine WR.e0 hE [(8, .bool true)] fun a hE => ?_
 refine Runs.seq ?_
 refine Runs.condT hE rfl ?_
 refine Runs.skip ?_
 refine Runs.seq ?_
 refine Runs.block ?_
 refine Runs.sr ?_
 obtain ⟨b2, o2, hs2, hb2⟩ := SlRd.base (sl_rd 3 ecI 1 _ _ _) ecI_ok H 1 rfl (rfl : mIdx ([0, 1, 2, 3, 6, 9] : List Int) (2 : Int) = some 2)
 refine WR.e hE [.pointer (some ⟨b2, o2, none⟩), .int .i64 2] [(3, .int .i64 2)] (obs := [.p (((some ⟨r2, 0, none⟩) : Option Addr) = some ⟨b2, o2, none⟩), .p (0 ≤ (2 : Int) ∧ (2 : Int) < ((([0, 1, 2, 3, 6, 9] : List Int).length : Nat) : Int)), .cell ⟨b2, o2 + (Int.toNat 2) * 1, none⟩ (.int .i64 2)]) ⟨hs2, hb2, SlRd.cells (sl_rd 3 ecI 1 _ _ _) ecI_ok H 1 rfl hs2 (rfl : mIdx ([0, 1, 2, 3, 6, 9] : List Int) (2 : Int) = some 2) 0 _ rfl, trivial⟩ fun a hE => ?_
 refine Runs.region ?_
 refine WR.d hE 3 [] [(13, .pointer (some ⟨r1, 2, none⟩))] (obs := [.p (0 ≤ (2 : Int) ∧ (2 : Int) < ((10 : Nat) : Int))]) ⟨⟨by decide, by decide⟩, trivial⟩ fun a hE => ?_
 refine WR.eff0 hE rfl rfl rfl (OpTo.store hE H rfl rfl rfl rfl rfl rfl (Nat.le_of_ble_eq_true rfl)) ?_
 rintro _ w H a hE
 refine WR.done rfl ?_
 refine Runs.inBlock ?_
 refine Runs.region ?_
 refine WR.e0 hE [(7, .int .i64 3)] fun a hE => ?_
 refine Runs.inLoop ?_
 refine Runs.sr ?_
 refine WR.e0 hE [(8, .bool true)] fun a hE => ?_
 refine Runs.seq ?_
 refine Runs.condT hE rfl ?_
 refine Runs.skip ?_
 refine Runs.seq ?_
 refine Runs.block ?_
 refine Runs.sr ?_
 obtain ⟨b3, o3, hs3, hb3⟩ := SlRd.base (sl_rd 3 ecI 1 _ _ _) ecI_ok H 1 rfl (rfl : mIdx ([0, 1, 2, 3, 6, 9] : List Int) (3 : Int) = some 3)
 refine WR.e hE [.pointer (some ⟨b3, o3, none⟩), .int .i64 3] [(3, .int .i64 3)] (obs := [.p (((some ⟨r2, 0, none⟩) : Option Addr) = some ⟨b3, o3, none⟩), .p (0 ≤ (3 : Int) ∧ (3 : Int) < ((([0, 1, 2, 3, 6, 9] : List Int).length : Nat) : Int)), .cell ⟨b3, o3 + (Int.toNat 3) * 1, none⟩ (.int .i64 3)]) ⟨hs3, hb3, SlRd.cells (sl_rd 3 ecI 1 _ _ _) ecI_ok H 1 rfl hs3 (rfl : mIdx ([0, 1, 2, 3, 6, 9] : List Int) (3 : Int) = some 3) 0 _ rfl, trivial⟩ fun a hE => ?_
 refine Runs.region ?_
 refine WR.d hE 3 [] [(13, .pointer (some ⟨r1, 3, none⟩))] (obs := [.p (0 ≤ (3 : Int) ∧ (3 : Int) < ((10 : Nat) : Int))]) ⟨⟨by decide, by decide⟩, trivial⟩ fun a hE => ?_
 refine WR.eff0 hE rfl rfl rfl (OpTo.store hE H rfl rfl rfl rfl rfl rfl (Nat.le_of_ble_eq_true rfl)) ?_
 rintro _ w H a hE
 refine WR.done rfl ?_
 refine Runs.inBlock ?_
 refine Runs.region ?_
 refine WR.e0 hE [(7, .int .i64 4)] fun a hE => ?_
 refine Runs.inLoop ?_
 refine Runs.sr ?_
 refine WR.e0 hE [(8, .bool true)] fun a hE => ?_
 refine Runs.seq ?_
 refine Runs.condT hE rfl ?_
 refine Runs.skip ?_
 refine Runs.seq ?_
 refine Runs.block ?_
 refine Runs.sr ?_
 obtain ⟨b4, o4, hs4, hb4⟩ := SlRd.base (sl_rd 3 ecI 1 _ _ _) ecI_ok H 1 rfl (rfl : mIdx ([0, 1, 2, 3, 6, 9] : List Int) (4 : Int) = some 6)
 refine WR.e hE [.pointer (some ⟨b4, o4, none⟩), .int .i64 6] [(3, .int .i64 6)] (obs := [.p (((some ⟨r2, 0, none⟩) : Option Addr) = some ⟨b4, o4, none⟩), .p (0 ≤ (4 : Int) ∧ (4 : Int) < ((([0, 1, 2, 3, 6, 9] : List Int).length : Nat) : Int)), .cell ⟨b4, o4 + (Int.toNat 4) * 1, none⟩ (.int .i64 6)]) ⟨hs4, hb4, SlRd.cells (sl_rd 3 ecI 1 _ _ _) ecI_ok H 1 rfl hs4 (rfl : mIdx ([0, 1, 2, 3, 6, 9] : List Int) (4 : Int) = some 6) 0 _ rfl, trivial⟩ fun a hE => ?_
 refine Runs.region ?_
 refine WR.d hE 3 [] [(13, .pointer (some ⟨r1, 6, none⟩))] (obs := [.p (0 ≤ (6 : Int) ∧ (6 : Int) < ((10 : Nat) : Int))]) ⟨⟨by decide, by decide⟩, trivial⟩ fun a hE => ?_
 refine WR.eff0 hE rfl rfl rfl (OpTo.store hE H rfl rfl rfl rfl rfl rfl (Nat.le_of_ble_eq_true rfl)) ?_
 rintro _ w H a hE
 refine WR.done rfl ?_
 refine Runs.inBlock ?_
 refine Runs.region ?_
 refine WR.e0 hE [(7, .int .i64 5)] fun a hE => ?_
 refine Runs.inLoop ?_
 refine Runs.sr ?_
 refine WR.e0 hE [(8, .bool true)] fun a hE => ?_
 refine Runs.seq ?_
 refine Runs.condT hE rfl ?_
 refine Runs.skip ?_
 refine Runs.seq ?_
 refine Runs.block ?_
 refine Runs.sr ?_
 obtain ⟨b5, o5, hs5, hb5⟩ := SlRd.base (sl_rd 3 ecI 1 _ _ _) ecI_ok H 1 rfl (rfl : mIdx ([0, 1, 2, 3, 6, 9] : List Int) (5 : Int) = some 9)
 refine WR.e hE [.pointer (some ⟨b5, o5, none⟩), .int .i64 9] [(3, .int .i64 9)] (obs := [.p (((some ⟨r2, 0, none⟩) : Option Addr) = some ⟨b5, o5, none⟩), .p (0 ≤ (5 : Int) ∧ (5 : Int) < ((([0, 1, 2, 3, 6, 9] : List Int).length : Nat) : Int)), .cell ⟨b5, o5 + (Int.toNat 5) * 1, none⟩ (.int .i64 9)]) ⟨hs5, hb5, SlRd.cells (sl_rd 3 ecI 1 _ _ _) ecI_ok H 1 rfl hs5 (rfl : mIdx ([0, 1, 2, 3, 6, 9] : List Int) (5 : Int) = some 9) 0 _ rfl, trivial⟩ fun a hE => ?_
 refine Runs.region ?_
 refine WR.d hE 3 [] [(13, .pointer (some ⟨r1, 9, none⟩))] (obs := [.p (0 ≤ (9 : Int) ∧ (9 : Int) < ((10 : Nat) : Int))]) ⟨⟨by decide, by decide⟩, trivial⟩ fun a hE => ?_
 refine WR.eff0 hE rfl rfl rfl (OpTo.store hE H rfl rfl rfl rfl rfl rfl (Nat.le_of_ble_eq_true rfl)) ?_
 rintro _ w H a hE
 refine WR.done rfl ?_
 refine Runs.inBlock ?_
 refine Runs.region ?_
 refine WR.e0 hE [(7, .int .i64 6)] fun a hE => ?_
 refine Runs.inLoop ?_
 refine Runs.sr ?_
 refine WR.e0 hE [(8, .bool false)] fun a hE => ?_
 refine Runs.seq ?_
 refine Runs.condF hE rfl ?_
 refine Runs.exit rfl ?_
 refine Runs.sr ?_
 refine WR.d hE 1 [.int .i64 (-1), .int .i64 (-1), .int .i64 (-1), .int .i64 (-1), .int .i64 0, .int .i64 0, .int .i64 (-1), .int .i64 0, .int .i64 0, .int .i64 (-1), .bool true] [(15, .agg #[.int .i64 (-1), .int .i64 (-1), .int .i64 (-1), .int .i64 (-1), .int .i64 0, .int .i64 0, .int .i64 (-1), .int .i64 0, .int .i64 0, .int .i64 (-1), .bool true])] (obs := [.cell ⟨r1, 0, none⟩ (.int .i64 (-1)), .cell ⟨r1, 1, none⟩ (.int .i64 (-1)), .cell ⟨r1, 2, none⟩ (.int .i64 (-1)), .cell ⟨r1, 3, none⟩ (.int .i64 (-1)), .cell ⟨r1, 4, none⟩ (.int .i64 0), .cell ⟨r1, 5, none⟩ (.int .i64 0), .cell ⟨r1, 6, none⟩ (.int .i64 (-1)), .cell ⟨r1, 7, none⟩ (.int .i64 0), .cell ⟨r1, 8, none⟩ (.int .i64 0), .cell ⟨r1, 9, none⟩ (.int .i64 (-1)), .cell ⟨r1, 10, none⟩ (.bool true)]) ⟨H.cell 0 rfl rfl, H.cell 0 rfl rfl, H.cell 0 rfl rfl, H.cell 0 rfl rfl, H.cell 0 rfl rfl, H.cell 0 rfl rfl, H.cell 0 rfl rfl, H.cell 0 rfl rfl, H.cell 0 rfl rfl, H.cell 0 rfl rfl, H.cell 0 rfl rfl, trivial⟩ fun a hE => ?_
 refine WR.eff0 hE rfl rfl rfl (OpTo.store hE H.t2 rfl rfl rfl rfl rfl rfl (Nat.le_of_ble_eq_true rfl)) ?_
 rintro _ w H a hE
 refine WR.done rfl ?_
 refine Runs.retO (vs := [.agg #[.int .i64 (-1), .int .i64 (-1), .int .i64 (-1), .int .i64 (-1), .int .i64 0, .int .i64 0, .int .i64 (-1), .int .i64 0, .int .i64 0, .int .i64 (-1), .bool true]]) (obs := [.cell ⟨r, 0, none⟩ (.int .i64 (-1)), .cell ⟨r, 1, none⟩ (.int .i64 (-1)), .cell ⟨r, 2, none⟩ (.int .i64 (-1)), .cell ⟨r, 3, none⟩ (.int .i64 (-1)), .cell ⟨r, 4, none⟩ (.int .i64 0), .cell ⟨r, 5, none⟩ (.int .i64 0), .cell ⟨r, 6, none⟩ (.int .i64 (-1)), .cell ⟨r, 7, none⟩ (.int .i64 0), .cell ⟨r, 8, none⟩ (.int .i64 0), .cell ⟨r, 9, none⟩ (.int .i64 (-1)), .cell ⟨r, 10, none⟩ (.bool true)]) hE Tryz.func93 rfl [.int .i64 (-1), .int .i64 (-1), .int .i64 (-1), .int .i64 (-1), .int .i64 0, .int .i64 0, .int .i64 (-1), .int .i64 0, .int .i64 0, .int .i64 (-1), .bool true] (by kernel_rfl) ⟨H.cell 0 rfl rfl, H.cell 0 rfl rfl, H.cell 0 rfl rfl, H.cell 0 rfl rfl, H.cell 0 rfl rfl, H.cell 0 rfl rfl, H.cell 0 rfl rfl, H.cell 0 rfl rfl, H.cell 0 rfl rfl, H.cell 0 rfl rfl, H.cell 0 rfl rfl, trivial⟩ ?_
 cases hm
 exact ⟨rfl, H.x2.x1.x0⟩

theorem arena_Arena_Take_ok {w0 w : World} {As : List HP} {p_a_ : Nat} {al_a_ : arena_Arena.A} {a_ : arena_Arena} {t : Int × Bool × arena_Arena}  (hm : arena_Arena_Take a_ = some t) (H : St w0 (arena_Arena.R p_a_ al_a_ a_ :: As) w) :
    CallsR Tryz.prog 56 #[.pointer (some ⟨p_a_, 0, none⟩)] w fun v w' => ∃ (z_a__free_b : Option Addr), ∃ (z_a__free_c : Nat), v = .tuple #[.int .i64 t.1, .bool t.2.1] ∧ St w0 (arena_Arena.R p_a_ (arena_Arena.A.mk al_a_.l_b al_a_.l_c z_a__free_b z_a__free_c al_a_.m__p) t.2.2 :: As) w' := by
 rw [arena_Arena_Take] at hm
 refine enter (args := [.pointer (some ⟨p_a_, 0, none⟩)]) Tryz.func56 rfl rfl rfl fun a hE => ?_
 refine Runs.sr ?_
 refine WR.seg hE 2 [] [0] (Lo := [(0, .pointer (some ⟨p_a_, 0, none⟩))]) (obs := []) rfl (by kernel_rfl) trivial fun a hE => ?_
 refine WR.done rfl ?_
 refine Runs.sr ?_
 replace H := arena_Arena.open H
 refine WR.d hE 4 [.pointer (some ⟨al_a_.m__p, 0, none⟩)] [(9, .pointer (some ⟨al_a_.m__p, 0, none⟩))] (obs := [.cell ⟨p_a_, 3, none⟩ (.pointer (some ⟨al_a_.m__p, 0, none⟩))]) ⟨H.cell 0 rfl rfl, trivial⟩ fun a hE => ?_
 obtain ⟨t_, et_, hm⟩ := bind_some hm
 refine WR.eff hE rfl rfl rfl rfl (OpTo.fn hE rfl rfl Tryz.call66 (meter_Meter_Tick_ok et_ H.t3)) ?_
 rintro _ w ⟨rfl, H⟩ a hE
 refine WR.done rfl ?_
 refine Runs.sr ?_
 refine WR.e hE [.int .i64 a_.never] [(4, .int .i64 a_.never)] (obs := [.cell ⟨p_a_, 1, none⟩ (.int .i64 a_.never)]) ⟨H.cell 1 rfl rfl, trivial⟩ fun a hE => ?_
 refine Runs.seq ?_
 refine Runs.sr ?_
 refine WR.e hE [.slice al_a_.free_b a_.free.length al_a_.free_c] [(5, .int .i64 (w64 ((a_.free.length : Int) - 1)))] (obs := [.cell ⟨p_a_, 2, none⟩ (.slice al_a_.free_b a_.free.length al_a_.free_c)]) ⟨H.cell 1 rfl rfl, trivial⟩ fun a hE => ?_
 refine Runs.sr ?_
 refine WR.e0 hE [(22, .bool (decide (w64 ((a_.free.length : Int) - 1) ≥ 0)))] fun a hE => ?_
 replace H := arena_Arena.shut al_a_ (arena_Arena.mk a_.l a_.never a_.free t_) H.t3.t3.t3
 obtain ⟨s, es, hR⟩ := bind_some hm
 refine Runs.join (fun a w => ∃ s1, s = Sum.inr s1 ∧ ∃ (z : Option Addr), ∃ (z1 : Nat), EnvOk 61 a [(0, .pointer (some ⟨p_a_, 0, none⟩)), (4, .int .i64 s1.1)] ∧ St w0 (arena_Arena.R p_a_ (arena_Arena.A.mk al_a_.l_b al_a_.l_c z z1 al_a_.m__p) s1.2 :: As) w) (fun hk => ?_) ?_
 ·replace hm := es; clear es
  refine Runs.cond hE rfl (fun c => ?_) (fun c => ?_)
  ·replace hm := cond_t c hm
   refine Runs.sr ?_
   replace H := arena_Arena.open H
   try dsimp only at H
   obtain ⟨x, ex, hm⟩ := bind_some hm
   obtain ⟨b, o, hs, hb⟩ := SlRd.base (sl_rd 3 ecI 1 _ _ _) ecI_ok H 2 rfl ex
   refine WR.e hE [.slice al_a_.free_b a_.free.length al_a_.free_c, .pointer (some ⟨b, o, none⟩), .int .i64 x] [(4, .int .i64 x)] (obs := [.cell ⟨p_a_, 2, none⟩ (.slice al_a_.free_b a_.free.length al_a_.free_c), .p ((al_a_.free_b : Option Addr) = some ⟨b, o, none⟩), .p (0 ≤ ((w64 ((a_.free.length : Int) - 1)) : Int) ∧ ((w64 ((a_.free.length : Int) - 1)) : Int) < ((a_.free.length : Nat) : Int)), .cell ⟨b, o + (Int.toNat (w64 ((a_.free.length : Int) - 1))) * 1, none⟩ (.int .i64 x)]) ⟨H.cell 0 rfl rfl, hs, hb, SlRd.cells (sl_rd 3 ecI 1 _ _ _) ecI_ok H 2 rfl hs ex 0 _ rfl, trivial⟩ fun a hE => ?_
   refine Runs.region ?_
   obtain ⟨l, el, hm⟩ := bind_some hm
   obtain ⟨sb, q⟩ : ∃ z, rebase al_a_.free_b al_a_.free_c (Int.toNat 0) 1 = z := ⟨_, rfl⟩
   obtain ⟨sc, q1⟩ : ∃ z, al_a_.free_c - (Int.toNat 0) = z := ⟨_, rfl⟩
   refine WR.d hE 9 [.slice al_a_.free_b a_.free.length al_a_.free_c, .slice sb l.length sc] [(36, .slice sb l.length sc), (38, .pointer (some ⟨p_a_, 2, none⟩))] (obs := [.cell ⟨p_a_, 2, none⟩ (.slice al_a_.free_b a_.free.length al_a_.free_c), .p (rebase al_a_.free_b al_a_.free_c 0 1 = sb), .p ((Int.toNat (w64 ((a_.free.length : Int) - 1))) - 0 = l.length), .p (al_a_.free_c - 0 = sc), .p (0 ≤ ((w64 ((a_.free.length : Int) - 1)) : Int) ∧ ((w64 ((a_.free.length : Int) - 1)) : Int) ≤ ((al_a_.free_c : Nat) : Int))]) ⟨H.cell 0 rfl rfl, q, cut_len el, q1, cut_cap el (H.slCap 2 rfl).1, trivial⟩ fun a hE => ?_
   refine WR.eff0 hE rfl rfl rfl (OpTo.store hE H rfl rfl rfl rfl rfl rfl (Nat.le_of_ble_eq_true rfl)) ?_
   rintro _ w H a hE
   refine WR.done rfl ?_
   replace H := H.t2.slCut' ecI_ok el q q1
   replace H := arena_Arena.shut (arena_Arena.A.mk al_a_.l_b al_a_.l_c sb sc al_a_.m__p) (arena_Arena.mk a_.l a_.never l t_) H.t3.t1.t3.t3
   cases hm
   exact hk _ _ ⟨_, rfl, sb, sc, hE.sel [0, 4] (by kernel_rfl), H⟩
  ·replace hm := cond_f c hm
   refine Runs.sr ?_
   replace H := arena_Arena.open H
   try dsimp only at H
   refine WR.e hE [.slice al_a_.l_b a_.l.length al_a_.l_c] [(45, .bool (decide (a_.never ≥ (a_.l.length : Int))))] (obs := [.cell ⟨p_a_, 0, none⟩ (.slice al_a_.l_b a_.l.length al_a_.l_c)]) ⟨H.cell 0 rfl rfl, trivial⟩ fun a hE => ?_
   refine Runs.cond hE rfl (fun c => ?_) (fun c => ?_)
   ·replace hm := cond_t c hm
    refine Runs.sr ?_
    refine WR.e0 hE [(2, .int .i64 (-1)), (3, .bool false)] fun a hE => ?_
    replace H := arena_Arena.shut al_a_ (arena_Arena.mk a_.l a_.never a_.free t_) H.t3.t3.t3.t3
    refine Runs.ret hE Tryz.func56 rfl rfl ?_
    cases hm
    dsimp only at hR; cases hR
    exact ⟨al_a_.free_b, al_a_.free_c, rfl, H⟩
   ·replace hm := cond_f c hm
    refine Runs.region ?_
    refine WR.d hE 7 [.int .i64 a_.never] [(50, .int .i64 (w64 (a_.never + 1))), (52, .pointer (some ⟨p_a_, 1, none⟩))] (obs := [.cell ⟨p_a_, 1, none⟩ (.int .i64 a_.never)]) ⟨H.cell 0 rfl rfl, trivial⟩ fun a hE => ?_
    refine WR.eff0 hE rfl rfl rfl (OpTo.store hE H rfl rfl rfl rfl rfl rfl (Nat.le_of_ble_eq_true rfl)) ?_
    rintro _ w H a hE
    refine WR.done rfl ?_
    replace H := arena_Arena.shut al_a_ (arena_Arena.mk a_.l (w64 (a_.never + 1)) a_.free t_) H.t3.t3.t3.t3
    cases hm
    exact hk _ _ ⟨_, rfl, al_a_.free_b, al_a_.free_c, hE.sel [0, 4] (by kernel_rfl), H⟩
 rintro a w ⟨s1, rfl, z, z1, hE, H⟩
 replace hm := hR; dsimp only at hm
 refine Runs.seq ?_
 refine Runs.drawn mixed (by kernel_rfl) ?_
 replace H := H.drew
 replace H := arena_Arena.open H
 try dsimp only at H
 refine WQ.seg hE [0, 1, 2, 3, 4] [.slice al_a_.l_b s1.2.l.length al_a_.l_c] [4, 56, 57] (Lo := [(4, .int .i64 s1.1), (56, .slice al_a_.l_b s1.2.l.length al_a_.l_c), (57, .int .i64 s1.1)]) (obs := [.cell ⟨p_a_, 0, none⟩ (.slice al_a_.l_b s1.2.l.length al_a_.l_c)]) (by kernel_rfl) (by kernel_rfl) ⟨H.cell 0 rfl rfl, trivial⟩ fun a hE => ?_
 obtain ⟨t_1, et_1, hm⟩ := bind_some hm
 refine WQ.eff (j := 5) (obs := [.cell ⟨p_a_, 0, none⟩ (.slice al_a_.l_b s1.2.l.length al_a_.l_c)]) hE (by kernel_rfl) rfl rfl rfl rfl (by kernel_rfl) (OpTo.fn hE rfl rfl Tryz.call93 (arena_fresh_ok et_1 H)) ?_
 rintro _ w ⟨rfl, H⟩
 refine ⟨⟨H.cell 0 rfl rfl, trivial⟩, fun a hE => ?_⟩
 obtain ⟨x1, ex1, hm⟩ := bind_some hm
 obtain ⟨b1, o1, hs1, hb1⟩ := SlRd.base (sl_rd 100 arena_cell.enc 11 _ _ _) arena_cell.enc_ok H 1 rfl ex1
 refine WQ.d hE [6] [.pointer (some ⟨b1, o1, none⟩)] [(59, .pointer (some ⟨b1, o1 + (Int.toNat s1.1) * 11, none⟩))] (obs := [.p ((al_a_.l_b : Option Addr) = some ⟨b1, o1, none⟩), .p (0 ≤ (s1.1 : Int) ∧ (s1.1 : Int) < ((s1.2.l.length : Nat) : Int))]) ⟨hs1, hb1, trivial⟩ fun a hE => ?_
 refine WQ.eff0 (j := 7) (obs := []) hE (by kernel_rfl) rfl rfl rfl (by kernel_rfl) (OpTo.storeSl (q := 0) (x' := t_1) hE H.t1 arena_cell.enc_ok rfl hs1 ex1 rfl rfl rfl rfl rfl (Nat.le_of_ble_eq_true rfl) rfl) ?_
 rintro _ w H
 rw [← mSet_len s1.2.l s1.1 t_1] at H
 refine ⟨trivial, fun a hE => ?_⟩
 refine WQ.done (by kernel_rfl) ?_
 refine Runs.sr ?_
 refine WR.e0 hE [(2, .int .i64 s1.1), (3, .bool true)] fun a hE => ?_
 replace H := arena_Arena.shut (arena_Arena.A.mk al_a_.l_b al_a_.l_c z z1 al_a_.m__p) (arena_Arena.mk (mSet s1.2.l s1.1 t_1) s1.2.never s1.2.free s1.2.m_) H.t3.t3.t2.t3
 refine Runs.ret hE Tryz.func56 rfl rfl ?_
 cases hm
 exact ⟨z, z1, rfl, H⟩

theorem arena_Arena_Live_ok {w0 w : World} {As : List HP} {p_a_ : Nat} {al_a_ : arena_Arena.A} {a_ : arena_Arena} {c_ : Int} {t : Bool}  (hm : arena_Arena_Live a_ c_ = some t) (H : St w0 (arena_Arena.R p_a_ al_a_ a_ :: As) w) :
    CallsR Tryz.prog 62 #[.pointer (some ⟨p_a_, 0, none⟩), .int .i64 c_] w fun v w' => v = .bool t ∧ St w0 (arena_Arena.R p_a_ al_a_ a_ :: As) w' := by
 rw [arena_Arena_Live] at hm
 refine enter (args := [.pointer (some ⟨p_a_, 0, none⟩), .int .i64 c_]) Tryz.func62 rfl rfl rfl fun a hE => ?_
 refine Runs.sr ?_
 refine WR.seg hE 1 [] [0, 1] (Lo := [(0, .pointer (some ⟨p_a_, 0, none⟩)), (1, .int .i64 c_)]) (obs := []) rfl (by kernel_rfl) trivial fun a hE => ?_
 refine WR.done rfl ?_
 refine Runs.seq ?_
 obtain ⟨s, es, hm⟩ := bind_some hm
 refine Runs.join (fun a w => EnvOk 26 a [(4, .bool s)] ∧ St w0 (arena_Arena.R p_a_ al_a_ a_ :: As) w) (fun hk => ?_) ?_
 ·replace hm := es; clear es
  refine Runs.region ?_
  refine WR.d0 hE 3 [(7, .bool (decide (c_ ≥ 0)))] fun a hE => ?_
  rcases Bool.eq_false_or_eq_true (decide (c_ ≥ 0)) with c | c
  ·replace hE := hE.dec 7 c (by kernel_rfl)
   replace hm := cond_t c hm
   have c_1 := c
   replace H := arena_Arena.open H
   refine WR.d hE 12 [.slice al_a_.l_b a_.l.length al_a_.l_c] [(16, .bool (decide (c_ < (a_.l.length : Int))))] (obs := [.cell ⟨p_a_, 0, none⟩ (.slice al_a_.l_b a_.l.length al_a_.l_c)]) ⟨H.cell 0 rfl rfl, trivial⟩ fun a hE => ?_
   rcases Bool.eq_false_or_eq_true (decide (c_ < (a_.l.length : Int))) with c | c
   ·replace hE := hE.dec 16 c (by kernel_rfl)
    replace hm := cond_t c hm
    have c_2 := c
    obtain ⟨x1, ex1, hm⟩ := bind_some hm
    obtain ⟨b1, o1, hs1, hb1⟩ := SlRd.base (sl_rd 100 arena_cell.enc 11 _ _ _) arena_cell.enc_ok H 1 rfl ex1
    refine WR.e hE [.slice al_a_.l_b a_.l.length al_a_.l_c, .pointer (some ⟨b1, o1, none⟩), .bool x1.taken] [(4, .bool x1.taken)] (obs := [.cell ⟨p_a_, 0, none⟩ (.slice al_a_.l_b a_.l.length al_a_.l_c), .p ((al_a_.l_b : Option Addr) = some ⟨b1, o1, none⟩), .p (0 ≤ (c_ : Int) ∧ (c_ : Int) < ((a_.l.length : Nat) : Int)), .cell ⟨b1, o1 + (Int.toNat c_) * 11 + 10, none⟩ (.bool x1.taken)]) ⟨H.cell 0 rfl rfl, hs1, hb1, SlRd.cells (sl_rd 100 arena_cell.enc 11 _ _ _) arena_cell.enc_ok H 1 rfl hs1 ex1 10 _ rfl, trivial⟩ fun a hE => ?_
    replace H := arena_Arena.shut al_a_ (a_) H.t3.t3.t3.t3
    cases hm
    exact hk _ _ ⟨hE.sel [4] (by kernel_rfl), H⟩
   ·replace hE := hE.dec 16 c (by kernel_rfl)
    replace hm := cond_f c hm
    have c_3 := c
    refine WR.e0 hE [(4, .bool false)] fun a hE => ?_
    replace H := arena_Arena.shut al_a_ (a_) H.t3.t3.t3.t3
    cases hm
    exact hk _ _ ⟨hE.sel [4] (by kernel_rfl), H⟩
  ·replace hE := hE.dec 7 c (by kernel_rfl)
   replace hm := cond_f c hm
   have c_4 := c
   refine WR.e0 hE [(4, .bool false)] fun a hE => ?_
   cases hm
   exact hk _ _ ⟨hE.sel [4] (by kernel_rfl), H⟩
 rintro a w ⟨hE, H⟩
 refine Runs.ret hE Tryz.func62 rfl rfl ?_
 cases hm
 exact ⟨rfl, H⟩

theorem arena_Arena_has_ok {w0 w : World} {As : List HP} {p_a_ : Nat} {al_a_ : arena_Arena.A} {a_ : arena_Arena} {c_ : Int} {field : Int} {t : Bool}  (hm : arena_Arena_has a_ c_ field = some t) (H : St w0 (arena_Arena.R p_a_ al_a_ a_ :: As) w) :
    CallsR Tryz.prog 94 #[.pointer (some ⟨p_a_, 0, none⟩), .int .i64 c_, .int .i64 field] w fun v w' => v = .bool t ∧ St w0 (arena_Arena.R p_a_ al_a_ a_ :: As) w' := by
 rw [arena_Arena_has] at hm
 refine enter (args := [.pointer (some ⟨p_a_, 0, none⟩), .int .i64 c_, .int .i64 field]) Tryz.func94 rfl rfl rfl fun a hE => ?_
 refine Runs.sr ?_
 refine WR.seg hE 1 [] [0, 1, 2] (Lo := [(0, .pointer (some ⟨p_a_, 0, none⟩)), (1, .int .i64 c_), (2, .int .i64 field)]) (obs := []) rfl (by kernel_rfl) trivial fun a hE => ?_
 refine WR.done rfl ?_
 refine Runs.seq ?_
 obtain ⟨s, es, hm⟩ := bind_some hm
 refine Runs.join (fun a w => EnvOk 18 a [(6, .bool s)] ∧ St w0 (arena_Arena.R p_a_ al_a_ a_ :: As) w) (fun hk => ?_) ?_
 ·replace hm := es; clear es
  refine Runs.region ?_
  refine WR.d0 hE 2 [(7, .pointer (some ⟨p_a_, 0, none⟩)), (8, .int .i64 c_)] fun a hE => ?_
  obtain ⟨t_, et_, hm⟩ := bind_some hm
  refine WR.eff hE rfl rfl rfl rfl (OpTo.fn hE rfl rfl Tryz.call62 (arena_Arena_Live_ok et_ H)) ?_
  rintro _ w ⟨rfl, H⟩ a hE
  refine WR.d0 hE 4 [(10, .bool t_)] fun a hE => ?_
  rcases Bool.eq_false_or_eq_true t_ with c | c
  ·replace hE := hE.dec 10 c (by kernel_rfl)
   replace hm := cond_t c hm
   have c_1 := c
   refine WR.d0 hE 8 [(14, .bool (decide (field ≥ 0)))] fun a hE => ?_
   rcases Bool.eq_false_or_eq_true (decide (field ≥ 0)) with c | c
   ·replace hE := hE.dec 14 c (by kernel_rfl)
    replace hm := cond_t c hm
    have c_2 := c
    refine WR.e0 hE [(6, .bool (decide (field < 10)))] fun a hE => ?_
    cases hm
    exact hk _ _ ⟨hE.sel [6] (by kernel_rfl), H⟩
   ·replace hE := hE.dec 14 c (by kernel_rfl)
    replace hm := cond_f c hm
    have c_3 := c
    refine WR.e0 hE [(6, .bool false)] fun a hE => ?_
    cases hm
    exact hk _ _ ⟨hE.sel [6] (by kernel_rfl), H⟩
  ·replace hE := hE.dec 10 c (by kernel_rfl)
   replace hm := cond_f c hm
   have c_4 := c
   refine WR.e0 hE [(6, .bool false)] fun a hE => ?_
   cases hm
   exact hk _ _ ⟨hE.sel [6] (by kernel_rfl), H⟩
 rintro a w ⟨hE, H⟩
 refine Runs.ret hE Tryz.func94 rfl rfl ?_
 cases hm
 exact ⟨rfl, H⟩

theorem arena_Arena_Set_ok {w0 w : World} {As : List HP} {p_a_ : Nat} {al_a_ : arena_Arena.A} {a_ : arena_Arena} {c_ : Int} {field : Int} {v_ : Int} {t : Bool × arena_Arena}  (hm : arena_Arena_Set a_ c_ field v_ = some t) (H : St w0 (arena_Arena.R p_a_ al_a_ a_ :: As) w) :
    CallsR Tryz.prog 57 #[.pointer (some ⟨p_a_, 0, none⟩), .int .i64 c_, .int .i64 field, .int .i64 v_] w fun v w' => v = .bool t.1 ∧ t.2.free = a_.free ∧ St w0 (arena_Arena.R p_a_ al_a_ t.2 :: As) w' := by
 rw [arena_Arena_Set] at hm
 refine enter (args := [.pointer (some ⟨p_a_, 0, none⟩), .int .i64 c_, .int .i64 field, .int .i64 v_]) Tryz.func57 rfl rfl rfl fun a hE => ?_
 refine Runs.sr ?_
 refine WR.seg hE 1 [] [0, 1, 2, 3] (Lo := [(0, .pointer (some ⟨p_a_, 0, none⟩)), (1, .int .i64 c_), (2, .int .i64 field), (3, .int .i64 v_)]) (obs := []) rfl (by kernel_rfl) trivial fun a hE => ?_
 refine WR.done rfl ?_
 refine Runs.sr ?_
 replace H := arena_Arena.open H
 refine WR.d hE 4 [.pointer (some ⟨al_a_.m__p, 0, none⟩)] [(12, .pointer (some ⟨al_a_.m__p, 0, none⟩))] (obs := [.cell ⟨p_a_, 3, none⟩ (.pointer (some ⟨al_a_.m__p, 0, none⟩))]) ⟨H.cell 0 rfl rfl, trivial⟩ fun a hE => ?_
 obtain ⟨t_, et_, hm⟩ := bind_some hm
 refine WR.eff hE rfl rfl rfl rfl (OpTo.fn hE rfl rfl Tryz.call66 (meter_Meter_Tick_ok et_ H.t3)) ?_
 rintro _ w ⟨rfl, H⟩ a hE
 refine WR.done rfl ?_
 refine Runs.seq ?_
 refine Runs.sr ?_
 refine WR.d0 hE 3 [(14, .pointer (some ⟨p_a_, 0, none⟩)), (15, .int .i64 c_), (16, .int .i64 field)] fun a hE => ?_
 replace H := arena_Arena.shut al_a_ (arena_Arena.mk a_.l a_.never a_.free t_) H.t3.t3.t3
 obtain ⟨t_1, et_1, hm⟩ := bind_some hm
 refine WR.eff hE rfl rfl rfl rfl (OpTo.fn hE rfl rfl Tryz.call94 (arena_Arena_has_ok et_1 H)) ?_
 rintro _ w ⟨rfl, H⟩ a hE
 refine WR.e0 hE [(18, .bool (!t_1))] fun a hE => ?_
 refine Runs.cond hE rfl (fun c => ?_) (fun c => ?_)
 ·replace hm := cond_t c hm
  refine Runs.sr ?_
  refine WR.e0 hE [(8, .bool false)] fun a hE => ?_
  refine Runs.ret hE Tryz.func57 rfl rfl ?_
  cases hm
  exact ⟨rfl, rfl, H⟩
 ·replace hm := cond_f c hm
  refine Runs.skip ?_
  refine Runs.sr ?_
  replace H := arena_Arena.open H
  try dsimp only at H
  obtain ⟨x, ex, hm⟩ := bind_some hm
  obtain ⟨b, o, hs, hb⟩ := SlRd.base (sl_rd 100 arena_cell.enc 11 _ _ _) arena_cell.enc_ok H 1 rfl ex
  obtain ⟨u, eu, hm⟩ := bind_some hm
  refine WR.d hE 10 [.slice al_a_.l_b a_.l.length al_a_.l_c, .pointer (some ⟨b, o, none⟩)] [(25, .int .i64 v_), (28, .pointer (some ⟨b, o + (Int.toNat c_) * 11 + (Int.toNat field) * 1, none⟩))] (obs := [.cell ⟨p_a_, 0, none⟩ (.slice al_a_.l_b a_.l.length al_a_.l_c), .p ((al_a_.l_b : Option Addr) = some ⟨b, o, none⟩), .p (0 ≤ (c_ : Int) ∧ (c_ : Int) < ((a_.l.length : Nat) : Int)), .p (0 ≤ (field : Int) ∧ (field : Int) < ((10 : Nat) : Int))]) ⟨H.cell 0 rfl rfl, hs, hb, in_spec eu, trivial⟩ fun a hE => ?_
  obtain ⟨y, ey, hm⟩ := bind_some hm
  refine WR.eff0 hE rfl rfl rfl (OpTo.storeSl (q := (Int.toNat field) * 1) (x' := y) hE H.t1 arena_cell.enc_ok rfl hs ex rfl rfl rfl rfl rfl (by have := in_spec eu; show (Int.toNat field) * 1 + 1 ≤ 11; omega) (arena_cell.set_f_spec ey)) ?_
  rintro _ w H a hE
  rw [← mSet_len a_.l c_ y] at H
  refine WR.done rfl ?_
  refine Runs.sr ?_
  refine WR.e0 hE [(8, .bool true)] fun a hE => ?_
  replace H := arena_Arena.shut al_a_ (arena_Arena.mk (mSet a_.l c_ y) a_.never a_.free t_) H.t3.t3.t2.t3
  refine Runs.ret hE Tryz.func57 rfl rfl ?_
  cases hm
  exact ⟨rfl, rfl, H⟩

theorem item_New_ok {w0 w : World} {As : List HP} {p_a_ : Nat} {al_a_ : arena_Arena.A} {a_ : arena_Arena} {key : Int} {serial : Int} {t : Int × Bool × arena_Arena}  (hm : item_New a_ key serial = some t) (H : St w0 (arena_Arena.R p_a_ al_a_ a_ :: As) w) :
    CallsR Tryz.prog 19 #[.pointer (some ⟨p_a_, 0, none⟩), .int .i64 key, .int .i64 serial] w fun v w' => ∃ (z_a__free_b : Option Addr), ∃ (z_a__free_c : Nat), v = .tuple #[.int .i64 t.1, .bool t.2.1] ∧ St w0 (arena_Arena.R p_a_ (arena_Arena.A.mk al_a_.l_b al_a_.l_c z_a__free_b z_a__free_c al_a_.m__p) t.2.2 :: As) w' := by
 rw [item_New] at hm
 refine enter (args := [.pointer (some ⟨p_a_, 0, none⟩), .int .i64 key, .int .i64 serial]) Tryz.func19 rfl rfl rfl fun a hE => ?_
 refine Runs.sr ?_
 refine WR.seg hE 2 [] [0, 1, 2] (Lo := [(0, .pointer (some ⟨p_a_, 0, none⟩)), (1, .int .i64 key), (2, .int .i64 serial)]) (obs := []) rfl (by kernel_rfl) trivial fun a hE => ?_
 refine WR.done rfl ?_
 refine Runs.seq ?_
 refine Runs.sr ?_
 refine WR.e0 hE [(11, .bool false)] fun a hE => ?_
 refine Runs.condF hE rfl ?_
 refine Runs.skip ?_
 refine Runs.sr ?_
 refine WR.d0 hE 1 [(13, .pointer (some ⟨p_a_, 0, none⟩))] fun a hE => ?_
 obtain ⟨t_, et_, hm⟩ := bind_some hm
 refine WR.eff hE rfl rfl rfl rfl (OpTo.fn hE rfl rfl Tryz.call56 (arena_Arena_Take_ok et_ H)) ?_
 rintro _ w ⟨z, z1, rfl, H⟩ a hE
 refine WR.e0 hE [(8, .int .i64 t_.1), (9, .bool t_.2.1)] fun a hE => ?_
 refine Runs.seq ?_
 refine Runs.sr ?_
 refine WR.e0 hE [(17, .bool t_.2.1)] fun a hE => ?_
 obtain ⟨s, es, hm⟩ := bind_some hm
 refine Runs.join (fun a w => EnvOk 28 a [(8, .int .i64 t_.1), (9, .bool t_.2.1)] ∧ St w0 (arena_Arena.R p_a_ (arena_Arena.A.mk al_a_.l_b al_a_.l_c z z1 al_a_.m__p) s :: As) w) (fun hk => ?_) ?_
 ·replace hm := es; clear es
  refine Runs.cond hE rfl (fun c => ?_) (fun c => ?_)
  ·replace hm := cond_t c hm
   refine Runs.sr ?_
   refine WR.d0 hE 3 [(18, .pointer (some ⟨p_a_, 0, none⟩)), (19, .int .i64 t_.1), (20, .int .i64 key)] fun a hE => ?_
   obtain ⟨t_1, et_1, hm⟩ := bind_some hm
   refine WR.eff hE rfl rfl rfl rfl (OpTo.fn hE rfl rfl Tryz.call57 (arena_Arena_Set_ok et_1 H)) ?_
   rintro _ w ⟨rfl, hf, H⟩ a hE
   refine WR.done rfl ?_
   refine Runs.region ?_
   refine WR.d0 hE 3 [(22, .pointer (some ⟨p_a_, 0, none⟩)), (23, .int .i64 t_.1), (24, .int .i64 serial)] fun a hE => ?_
   obtain ⟨t_2, et_2, hm⟩ := bind_some hm
   refine WR.eff hE rfl rfl rfl rfl (OpTo.fn hE rfl rfl Tryz.call57 (arena_Arena_Set_ok et_2 H)) ?_
   rintro _ w ⟨rfl, hf1, H⟩ a hE
   refine WR.done rfl ?_
   cases hm
   exact hk _ _ ⟨hE.sel [8, 9] (by kernel_rfl), H⟩
  ·replace hm := cond_f c hm
   refine Runs.skip ?_
   cases hm
   exact hk _ _ ⟨hE.sel [8, 9] (by kernel_rfl), H⟩
 rintro a w ⟨hE, H⟩
 refine Runs.sr ?_
 refine WR.seg hE 4 [] [6, 7] (Lo := [(6, .int .i64 t_.1), (7, .bool t_.2.1)]) (obs := []) rfl (by kernel_rfl) trivial fun a hE => ?_
 refine WR.done rfl ?_
 refine Runs.ret hE Tryz.func19 rfl rfl ?_
 cases hm
 exact ⟨z, z1, rfl, H⟩

theorem arena_Arena_Len_ok {w0 w : World} {As : List HP} {p_a_ : Nat} {al_a_ : arena_Arena.A} {a_ : arena_Arena} {t : Int}  (hm : arena_Arena_Len a_ = some t) (H : St w0 (arena_Arena.R p_a_ al_a_ a_ :: As) w) :
    CallsR Tryz.prog 28 #[.pointer (some ⟨p_a_, 0, none⟩)] w fun v w' => v = .int .i64 t ∧ St w0 (arena_Arena.R p_a_ al_a_ a_ :: As) w' := by
 rw [arena_Arena_Len] at hm
 refine enter (args := [.pointer (some ⟨p_a_, 0, none⟩)]) Tryz.func28 rfl rfl rfl fun a hE => ?_
 refine Runs.sr ?_
 refine WR.seg hE 1 [] [0] (Lo := [(0, .pointer (some ⟨p_a_, 0, none⟩))]) (obs := []) rfl (by kernel_rfl) trivial fun a hE => ?_
 refine WR.done rfl ?_
 refine Runs.seq ?_
 refine Runs.drawn mixed (by kernel_rfl) ?_
 replace H := H.drew
 replace H := arena_Arena.open H
 refine WQ.d hE [0, 1, 2, 3, 4, 5, 6, 7, 8, 9, 10] [.int .i64 a_.never, .slice al_a_.free_b a_.free.length al_a_.free_c] [(2, .int .i64 (w64 (a_.never - (a_.free.length : Int))))] (obs := [.cell ⟨p_a_, 1, none⟩ (.int .i64 a_.never), .cell ⟨p_a_, 2, none⟩ (.slice al_a_.free_b a_.free.length al_a_.free_c)]) ⟨H.cell 0 rfl rfl, H.cell 0 rfl rfl, trivial⟩ fun a hE => ?_
 refine WQ.done (by kernel_rfl) ?_
 replace H := arena_Arena.shut al_a_ (a_) H.t3.t3.t3.t3
 refine Runs.ret hE Tryz.func28 rfl rfl ?_
 cases hm
 exact ⟨rfl, H⟩

theorem arena_Arena_Cells_ok {w0 w : World} {As : List HP} {p_a_ : Nat} {al_a_ : arena_Arena.A} {a_ : arena_Arena} {t : Int}  (hm : arena_Arena_Cells a_ = some t) (H : St w0 (arena_Arena.R p_a_ al_a_ a_ :: As) w) :
    CallsR Tryz.prog 67 #[.pointer (some ⟨p_a_, 0, none⟩)] w fun v w' => v = .int .i64 t ∧ St w0 (arena_Arena.R p_a_ al_a_ a_ :: As) w' := by
 rw [arena_Arena_Cells] at hm
 refine enter (args := [.pointer (some ⟨p_a_, 0, none⟩)]) Tryz.func67 rfl rfl rfl fun a hE => ?_
 refine Runs.sr ?_
 refine WR.seg hE 1 [] [0] (Lo := [(0, .pointer (some ⟨p_a_, 0, none⟩))]) (obs := []) rfl (by kernel_rfl) trivial fun a hE => ?_
 refine WR.done rfl ?_
 refine Runs.sr ?_
 replace H := arena_Arena.open H
 refine WR.e hE [.slice al_a_.l_b a_.l.length al_a_.l_c] [(2, .int .i64 (a_.l.length : Int))] (obs := [.cell ⟨p_a_, 0, none⟩ (.slice al_a_.l_b a_.l.length al_a_.l_c)]) ⟨H.cell 0 rfl rfl, trivial⟩ fun a hE => ?_
 replace H := arena_Arena.shut al_a_ (a_) H.t3.t3.t3.t3
 refine Runs.ret hE Tryz.func67 rfl rfl ?_
 cases hm
 exact ⟨rfl, H⟩

theorem item_Put_ok {w0 w : World} {As : List HP} {p_a_ : Nat} {al_a_ : arena_Arena.A} {a_ : arena_Arena} {n : Int} {i : Int} {t : arena_Arena}  (hm : item_Put a_ n i = some t) (H : St w0 (arena_Arena.R p_a_ al_a_ a_ :: As) w) :
    CallsR Tryz.prog 95 #[.pointer (some ⟨p_a_, 0, none⟩), .int .i64 n, .int .i64 i] w fun v w' => v = .tuple #[] ∧ t.free = a_.free ∧ St w0 (arena_Arena.R p_a_ al_a_ t :: As) w' := by
 rw [item_Put] at hm
 refine enter (args := [.pointer (some ⟨p_a_, 0, none⟩), .int .i64 n, .int .i64 i]) Tryz.func95 rfl rfl rfl fun a hE => ?_
 refine Runs.sr ?_
 refine WR.seg hE 2 [] [0, 1, 2, 7] (Lo := [(0, .pointer (some ⟨p_a_, 0, none⟩)), (1, .int .i64 n), (2, .int .i64 i), (7, .bool true)]) (obs := []) rfl (by kernel_rfl) trivial fun a hE => ?_
 refine WR.done rfl ?_
 refine Runs.condT hE rfl ?_
 refine Runs.sr ?_
 refine WR.d0 hE 3 [(8, .pointer (some ⟨p_a_, 0, none⟩)), (9, .int .i64 n), (10, .int .i64 i)] fun a hE => ?_
 obtain ⟨t_, et_, hm⟩ := bind_some hm
 refine WR.eff hE rfl rfl rfl rfl (OpTo.fn hE rfl rfl Tryz.call57 (arena_Arena_Set_ok et_ H)) ?_
 rintro _ w ⟨rfl, hf, H⟩ a hE
 refine WR.done rfl ?_
 refine Runs.region ?_
 refine WR.d0 hE 3 [(12, .pointer (some ⟨p_a_, 0, none⟩)), (13, .int .i64 i), (14, .int .i64 n)] fun a hE => ?_
 obtain ⟨t_1, et_1, hm⟩ := bind_some hm
 refine WR.eff hE rfl rfl rfl rfl (OpTo.fn hE rfl rfl Tryz.call57 (arena_Arena_Set_ok et_1 H)) ?_
 rintro _ w ⟨rfl, hf1, H⟩ a hE
 refine WR.done rfl ?_
 refine Runs.fin hE Tryz.func95 rfl rfl ?_
 cases hm
 exact ⟨rfl, (by simp only [hf1, hf]), H⟩

theorem node_New_ok {w0 w : World} {As : List HP} {p_a_ : Nat} {al_a_ : arena_Arena.A} {a_ : arena_Arena} {i : Int} {t : Int × Bool × arena_Arena}  (hm : node_New a_ i = some t) (H : St w0 (arena_Arena.R p_a_ al_a_ a_ :: As) w) :
    CallsR Tryz.prog 58 #[.pointer (some ⟨p_a_, 0, none⟩), .int .i64 i] w fun v w' => ∃ (z_a__free_b : Option Addr), ∃ (z_a__free_c : Nat), v = .tuple #[.int .i64 t.1, .bool t.2.1] ∧ St w0 (arena_Arena.R p_a_ (arena_Arena.A.mk al_a_.l_b al_a_.l_c z_a__free_b z_a__free_c al_a_.m__p) t.2.2 :: As) w' := by
 rw [node_New] at hm
 refine enter (args := [.pointer (some ⟨p_a_, 0, none⟩), .int .i64 i]) Tryz.func58 rfl rfl rfl fun a hE => ?_
 refine Runs.sr ?_
 refine WR.seg hE 2 [] [0, 1] (Lo := [(0, .pointer (some ⟨p_a_, 0, none⟩)), (1, .int .i64 i)]) (obs := []) rfl (by kernel_rfl) trivial fun a hE => ?_
 refine WR.done rfl ?_
 refine Runs.sr ?_
 refine WR.d0 hE 1 [(9, .pointer (some ⟨p_a_, 0, none⟩))] fun a hE => ?_
 obtain ⟨t_, et_, hm⟩ := bind_some hm
 refine WR.eff hE rfl rfl rfl rfl (OpTo.fn hE rfl rfl Tryz.call56 (arena_Arena_Take_ok et_ H)) ?_
 rintro _ w ⟨z, z1, rfl, H⟩ a hE
 refine WR.e0 hE [(6, .int .i64 t_.1), (7, .bool t_.2.1)] fun a hE => ?_
 refine Runs.seq ?_
 refine Runs.sr ?_
 refine WR.e0 hE [(13, .bool t_.2.1)] fun a hE => ?_
 obtain ⟨s, es, hm⟩ := bind_some hm
 refine Runs.join (fun a w => EnvOk 20 a [(6, .int .i64 t_.1), (7, .bool t_.2.1)] ∧ St w0 (arena_Arena.R p_a_ (arena_Arena.A.mk al_a_.l_b al_a_.l_c z z1 al_a_.m__p) s :: As) w) (fun hk => ?_) ?_
 ·replace hm := es; clear es
  refine Runs.cond hE rfl (fun c => ?_) (fun c => ?_)
  ·replace hm := cond_t c hm
   refine Runs.region ?_
   refine WR.d0 hE 3 [(14, .pointer (some ⟨p_a_, 0, none⟩)), (15, .int .i64 t_.1), (16, .int .i64 i)] fun a hE => ?_
   obtain ⟨t_1, et_1, hm⟩ := bind_some hm
   refine WR.eff hE rfl rfl rfl rfl (OpTo.fn hE rfl rfl Tryz.call95 (item_Put_ok et_1 H)) ?_
   rintro _ w ⟨rfl, hf, H⟩ a hE
   refine WR.done rfl ?_
   cases hm
   exact hk _ _ ⟨hE.sel [6, 7] (by kernel_rfl), H⟩
  ·replace hm := cond_f c hm
   refine Runs.skip ?_
   cases hm
   exact hk _ _ ⟨hE.sel [6, 7] (by kernel_rfl), H⟩
 rintro a w ⟨hE, H⟩
 refine Runs.sr ?_
 refine WR.seg hE 4 [] [4, 5] (Lo := [(4, .int .i64 t_.1), (5, .bool t_.2.1)]) (obs := []) rfl (by kernel_rfl) trivial fun a hE => ?_
 refine WR.done rfl ?_
 refine Runs.ret hE Tryz.func58 rfl rfl ?_
 cases hm
 exact ⟨z, z1, rfl, H⟩

theorem arena_Arena_Get_ok {w0 w : World} {As : List HP} {p_a_ : Nat} {al_a_ : arena_Arena.A} {a_ : arena_Arena} {c_ : Int} {field : Int} {t : Int × arena_Arena}  (hm : arena_Arena_Get a_ c_ field = some t) (H : St w0 (arena_Arena.R p_a_ al_a_ a_ :: As) w) :
    CallsR Tryz.prog 65 #[.pointer (some ⟨p_a_, 0, none⟩), .int .i64 c_, .int .i64 field] w fun v w' => v = .int .i64 t.1 ∧ t.2.free = a_.free ∧ t.2.l = a_.l ∧ St w0 (arena_Arena.R p_a_ al_a_ t.2 :: As) w' := by
 rw [arena_Arena_Get] at hm
 refine enter (args := [.pointer (some ⟨p_a_, 0, none⟩), .int .i64 c_, .int .i64 field]) Tryz.func65 rfl rfl rfl fun a hE => ?_
 refine Runs.sr ?_
 refine WR.seg hE 1 [] [0, 1, 2] (Lo := [(0, .pointer (some ⟨p_a_, 0, none⟩)), (1, .int .i64 c_), (2, .int .i64 field)]) (obs := []) rfl (by kernel_rfl) trivial fun a hE => ?_
 refine WR.done rfl ?_
 refine Runs.sr ?_
 replace H := arena_Arena.open H
 refine WR.d hE 4 [.pointer (some ⟨al_a_.m__p, 0, none⟩)] [(10, .pointer (some ⟨al_a_.m__p, 0, none⟩))] (obs := [.cell ⟨p_a_, 3, none⟩ (.pointer (some ⟨al_a_.m__p, 0, none⟩))]) ⟨H.cell 0 rfl rfl, trivial⟩ fun a hE => ?_
 obtain ⟨t_, et_, hm⟩ := bind_some hm
 refine WR.eff hE rfl rfl rfl rfl (OpTo.fn hE rfl rfl Tryz.call66 (meter_Meter_Tick_ok et_ H.t3)) ?_
 rintro _ w ⟨rfl, H⟩ a hE
 refine WR.done rfl ?_
 refine Runs.seq ?_
 refine Runs.sr ?_
 refine WR.d0 hE 3 [(12, .pointer (some ⟨p_a_, 0, none⟩)), (13, .int .i64 c_), (14, .int .i64 field)] fun a hE => ?_
 replace H := arena_Arena.shut al_a_ (arena_Arena.mk a_.l a_.never a_.free t_) H.t3.t3.t3
 obtain ⟨t_1, et_1, hm⟩ := bind_some hm
 refine WR.eff hE rfl rfl rfl rfl (OpTo.fn hE rfl rfl Tryz.call94 (arena_Arena_has_ok et_1 H)) ?_
 rintro _ w ⟨rfl, H⟩ a hE
 refine WR.e0 hE [(16, .bool (!t_1))] fun a hE => ?_
 refine Runs.cond hE rfl (fun c => ?_) (fun c => ?_)
 ·replace hm := cond_t c hm
  refine Runs.sr ?_
  refine WR.e0 hE [(6, .int .i64 (-1))] fun a hE => ?_
  refine Runs.ret hE Tryz.func65 rfl rfl ?_
  cases hm
  exact ⟨rfl, rfl, rfl, H⟩
 ·replace hm := cond_f c hm
  refine Runs.skip ?_
  refine Runs.sr ?_
  replace H := arena_Arena.open H
  try dsimp only at H
  obtain ⟨x, ex, hm⟩ := bind_some hm
  obtain ⟨b, o, hs, hb⟩ := SlRd.base (sl_rd 100 arena_cell.enc 11 _ _ _) arena_cell.enc_ok H 1 rfl ex
  obtain ⟨u, eu, hm⟩ := bind_some hm
  obtain ⟨v_, ev_, hm⟩ := bind_some hm
  refine WR.e hE [.slice al_a_.l_b a_.l.length al_a_.l_c, .pointer (some ⟨b, o, none⟩), .int .i64 v_] [(6, .int .i64 v_)] (obs := [.cell ⟨p_a_, 0, none⟩ (.slice al_a_.l_b a_.l.length al_a_.l_c), .p ((al_a_.l_b : Option Addr) = some ⟨b, o, none⟩), .p (0 ≤ (c_ : Int) ∧ (c_ : Int) < ((a_.l.length : Nat) : Int)), .p (0 ≤ (field : Int) ∧ (field : Int) < ((10 : Nat) : Int)), .cell ⟨b, o + (Int.toNat c_) * 11 + (Int.toNat field) * 1, none⟩ (.int .i64 v_)]) ⟨H.cell 0 rfl rfl, hs, hb, in_spec eu, SlRd.cells (sl_rd 100 arena_cell.enc 11 _ _ _) arena_cell.enc_ok H 1 rfl hs ex ((Int.toNat field) * 1) _ (arena_cell.get_f_spec ev_), trivial⟩ fun a hE => ?_
  replace H := arena_Arena.shut al_a_ (arena_Arena.mk a_.l a_.never a_.free t_) H.t3.t3.t3.t3
  refine Runs.ret hE Tryz.func65 rfl rfl ?_
  cases hm
  exact ⟨rfl, rfl, rfl, H⟩

theorem arena_Arena_Cell_ok {w0 w : World} {As : List HP} {p_a_ : Nat} {al_a_ : arena_Arena.A} {a_ : arena_Arena} {c_ : Int} {field : Int} {t : Int × arena_Arena}  (hm : arena_Arena_Cell a_ c_ field = some t) (H : St w0 (arena_Arena.R p_a_ al_a_ a_ :: As) w) :
    CallsR Tryz.prog 78 #[.pointer (some ⟨p_a_, 0, none⟩), .int .i64 c_, .int .i64 field] w fun v w' => v = .int .i64 t.1 ∧ St w0 (arena_Arena.R p_a_ al_a_ t.2 :: As) w' := by
 rw [arena_Arena_Cell] at hm
 refine enter (args := [.pointer (some ⟨p_a_, 0, none⟩), .int .i64 c_, .int .i64 field]) Tryz.func78 rfl rfl rfl fun a hE => ?_
 refine Runs.sr ?_
 refine WR.seg hE 1 [] [0, 1, 2] (Lo := [(0, .pointer (some ⟨p_a_, 0, none⟩)), (1, .int .i64 c_), (2, .int .i64 field)]) (obs := []) rfl (by kernel_rfl) trivial fun a hE => ?_
 refine WR.done rfl ?_
 refine Runs.sr ?_
 refine WR.d0 hE 3 [(8, .pointer (some ⟨p_a_, 0, none⟩)), (9, .int .i64 c_), (10, .int .i64 field)] fun a hE => ?_
 obtain ⟨t_, et_, hm⟩ := bind_some hm
 refine WR.eff hE rfl rfl rfl rfl (OpTo.fn hE rfl rfl Tryz.call65 (arena_Arena_Get_ok et_ H)) ?_
 rintro _ w ⟨rfl, hf1, hf, H⟩ a hE
 refine WR.e0 hE [(7, .int .i64 t_.1)] fun a hE => ?_
 refine Runs.seq ?_
 refine Runs.seq ?_
 obtain ⟨s, es, hm⟩ := bind_some hm
 refine Runs.join (fun a w => EnvOk 24 a [(7, .int .i64 t_.1), (22, .bool s.1)] ∧ St w0 (arena_Arena.R p_a_ al_a_ s.2 :: As) w) (fun hk => ?_) ?_
 ·replace hm := es; clear es
  refine Runs.region ?_
  refine WR.d0 hE 3 [(14, .bool (decide (t_.1 < 0)))] fun a hE => ?_
  rcases Bool.eq_false_or_eq_true (decide (t_.1 < 0)) with c | c
  ·replace hE := hE.dec 14 c (by kernel_rfl)
   replace hm := cond_t c hm
   have c_1 := c
   refine WR.e0 hE [(22, .bool true)] fun a hE => ?_
   cases hm
   exact hk _ _ ⟨hE.sel [7, 22] (by kernel_rfl), H⟩
  ·replace hE := hE.dec 14 c (by kernel_rfl)
   replace hm := cond_f c hm
   have c_2 := c
   replace H := arena_Arena.open H
   try rw [hf] at H
   try rw [hf1] at H
   try dsimp only at H
   refine WR.e hE [.slice al_a_.l_b a_.l.length al_a_.l_c] [(22, .bool (decide (t_.1 ≥ (a_.l.length : Int))))] (obs := [.cell ⟨p_a_, 0, none⟩ (.slice al_a_.l_b a_.l.length al_a_.l_c)]) ⟨H.cell 0 rfl rfl, trivial⟩ fun a hE => ?_
   replace H := arena_Arena.shut al_a_ (arena_Arena.mk a_.l t_.2.never a_.free t_.2.m_) H.t3.t3.t3.t3
   cases hm
   exact hk _ _ ⟨hE.sel [7, 22] (by kernel_rfl), H⟩
 rintro a w ⟨hE, H⟩
 refine Runs.cond hE rfl (fun c => ?_) (fun c => ?_)
 ·replace hm := cond_t c hm
  refine Runs.sr ?_
  refine WR.seg hE 1 [] [6] (Lo := [(6, .int .i64 (-1))]) (obs := []) rfl (by kernel_rfl) trivial fun a hE => ?_
  refine WR.done rfl ?_
  refine Runs.ret hE Tryz.func78 rfl rfl ?_
  cases hm
  exact ⟨rfl, H⟩
 ·replace hm := cond_f c hm
  refine Runs.skip ?_
  refine Runs.sr ?_
  refine WR.seg hE 2 [] [6] (Lo := [(6, .int .i64 t_.1)]) (obs := []) rfl (by kernel_rfl) trivial fun a hE => ?_
  refine WR.done rfl ?_
  refine Runs.ret hE Tryz.func78 rfl rfl ?_
  cases hm
  exact ⟨rfl, H⟩

theorem node_Row_ok {w0 w : World} {As : List HP} {k : Nat} {p_a_ : Nat} {al_a_ : arena_Arena.A} {a_ : arena_Arena} {n : Int} {field : Int} {t : (List Int) × arena_Arena}  (hm : node_Row k a_ n field = some t) (H : St w0 (arena_Arena.R p_a_ al_a_ a_ :: As) w) :
    CallsR Tryz.prog 101 #[.pointer (some ⟨p_a_, 0, none⟩), .int .i64 n, .int .i64 field] w fun v w' => ∃ (sb0 : Option Addr), ∃ (sc0 : Nat), v = .slice sb0 t.1.length sc0 ∧ St w0 (Sl 3 ecI 1 sb0 sc0 t.1 :: arena_Arena.R p_a_ al_a_ t.2 :: As) w' := by
 rw [node_Row] at hm
 refine enter (args := [.pointer (some ⟨p_a_, 0, none⟩), .int .i64 n, .int .i64 field]) Tryz.func101 rfl rfl rfl fun a hE => ?_
 refine Runs.sr ?_
 refine WR.seg hE 1 [] [0, 1, 2] (Lo := [(0, .pointer (some ⟨p_a_, 0, none⟩)), (1, .int .i64 n), (2, .int .i64 field)]) (obs := []) rfl (by kernel_rfl) trivial fun a hE => ?_
 refine WR.done rfl ?_
 refine Runs.sr ?_
 refine WR.e0 hE [(7, .slice none 0 0)] fun a hE => ?_
 refine Runs.seq ?_
 obtain ⟨s, es, hm⟩ := bind_some hm
 refine Runs.join (fun a w => ∃ (sb1 : Option Addr), ∃ (sc1 : Nat), EnvOk 27 a [(7, .slice sb1 s.1.length sc1)] ∧ St w0 (Sl 3 ecI 1 sb1 sc1 s.1 :: arena_Arena.R p_a_ al_a_ s.2 :: As) w) (fun hk => ?_) ?_
 ·replace hm := es; clear es
  replace H := H.slNil 3 ecI 1
  refine Runs.block ?_
  refine Runs.loop (fun m a w => ∃ (n1 : Int), ∃ (out : List Int), ∃ (m_ : arena_Arena), ∃ (sb2 : Option Addr), ∃ (sc2 : Nat), EnvOk 27 a [(0, .pointer (some ⟨p_a_, 0, none⟩)), (1, .int .i64 n1), (2, .int .i64 field), (7, .slice sb2 out.length sc2)] ∧ St w0 (Sl 3 ecI 1 sb2 sc2 out :: arena_Arena.R p_a_ al_a_ m_ :: As) w ∧ node_Row_l0 field m n1 out m_ = some s) k ⟨n, ([] : List Int), a_, none, 0, hE.sel [0, 1, 2, 7] (by kernel_rfl), H.t1.t1, hm⟩ ?_
  rintro m ih a w ⟨n1, out, m_, sb2, sc2, hE, H, hm⟩
  cases m with
  | zero => simp [node_Row_l0] at hm
  | succ m =>
   rw [node_Row_l0] at hm
   refine Runs.seq ?_
   refine Runs.seq ?_
   obtain ⟨s1, es1, hm⟩ := bind_some hm
   refine Runs.join (fun a w => EnvOk 27 a [(0, .pointer (some ⟨p_a_, 0, none⟩)), (1, .int .i64 n1), (2, .int .i64 field), (7, .slice sb2 out.length sc2), (17, .bool s1)] ∧ St w0 (Sl 3 ecI 1 sb2 sc2 out :: arena_Arena.R p_a_ al_a_ m_ :: As) w) (fun hk => ?_) ?_
   ·replace hm := es1; clear es1
    refine Runs.region ?_
    refine WR.seg hE 2 [] [0, 1, 2, 7, 8, 9] (Lo := [(0, .pointer (some ⟨p_a_, 0, none⟩)), (1, .int .i64 n1), (2, .int .i64 field), (7, .slice sb2 out.length sc2), (8, .pointer (some ⟨p_a_, 0, none⟩)), (9, .int .i64 n1)]) (obs := []) rfl (by kernel_rfl) trivial fun a hE => ?_
    obtain ⟨t_, et_, hm⟩ := bind_some hm
    refine WR.eff hE rfl rfl rfl rfl (OpTo.fn hE rfl rfl Tryz.call62 (arena_Arena_Live_ok et_ H.t1)) ?_
    rintro _ w ⟨rfl, H⟩ a hE
    refine WR.d0 hE 4 [(11, .bool t_)] fun a hE => ?_
    rcases Bool.eq_false_or_eq_true t_ with c | c
    ·replace hE := hE.dec 11 c (by kernel_rfl)
     replace hm := cond_t c hm
     have c_ := c
     refine WR.d0 hE 7 [(11, .bool true), (13, .int .i64 (out.length : Int)), (14, .pointer (some ⟨p_a_, 0, none⟩))] fun a hE => ?_
     obtain ⟨t_1, et_1, hm⟩ := bind_some hm
     refine WR.eff hE rfl rfl rfl rfl (OpTo.fn hE rfl rfl Tryz.call67 (arena_Arena_Cells_ok et_1 H)) ?_
     rintro _ w ⟨rfl, H⟩ a hE
     refine WR.e0 hE [(17, .bool (decide ((out.length : Int) < t_1)))] fun a hE => ?_
     cases hm
     exact hk _ _ ⟨hE.sel [0, 1, 2, 7, 17] (by kernel_rfl), H.t1⟩
    ·replace hE := hE.dec 11 c (by kernel_rfl)
     replace hm := cond_f c hm
     have c_1 := c
     refine WR.e0 hE [(17, .bool false)] fun a hE => ?_
     cases hm
     exact hk _ _ ⟨hE.sel [0, 1, 2, 7, 17] (by kernel_rfl), H.t1⟩
   rintro a w ⟨hE, H⟩
   refine Runs.cond hE rfl (fun c => ?_) (fun c => ?_)
   ·replace hm := cond_t c hm
    refine Runs.skip ?_
    refine Runs.block ?_
    refine Runs.sr ?_
    refine WR.seg hE 2 [] [0, 1, 2, 7, 18, 19] (Lo := [(0, .pointer (some ⟨p_a_, 0, none⟩)), (1, .int .i64 n1), (2, .int .i64 field), (7, .slice sb2 out.length sc2), (18, .slice sb2 out.length sc2), (19, .int .i64 n1)]) (obs := []) rfl (by kernel_rfl) trivial fun a hE => ?_
    refine WR.eff hE rfl rfl rfl rfl (OpTo.buildSl (T := 3) hE H ecI_ok ([n1] : List Int) rfl (fun _ => by kernel_rfl) rfl rfl rfl) ?_
    rintro _ w ⟨r, rfl, H⟩ a hE
    obtain ⟨l, el, hm⟩ := bind_some hm
    replace H := H.t1
    refine WR.eff hE rfl rfl rfl rfl (OpTo.appendM el hE H ecI_ok rfl rfl rfl rfl rfl rfl rfl rfl rfl rfl (SlRd.all (sl_rd 3 ecI 1 _ _ _) ecI_ok H 1 rfl) rfl) ?_
    rintro _ w ⟨sb3, sc3, rfl, H⟩ a hE
    refine WR.e0 hE [(7, .slice sb3 l.length sc3)] fun a hE => ?_
    refine Runs.region ?_
    refine WR.d0 hE 3 [(22, .pointer (some ⟨p_a_, 0, none⟩)), (23, .int .i64 n1), (24, .int .i64 field)] fun a hE => ?_
    obtain ⟨t_2, et_2, hm⟩ := bind_some hm
    refine WR.eff hE rfl rfl rfl rfl (OpTo.fn hE rfl rfl Tryz.call78 (arena_Arena_Cell_ok et_2 H.t2)) ?_
    rintro _ w ⟨rfl, H⟩ a hE
    refine WR.e0 hE [(1, .int .i64 t_2.1)] fun a hE => ?_
    refine Runs.inBlock ?_
    exact ih m (Nat.lt_succ_self m) _ _ ⟨t_2.1, l, t_2.2, sb3, sc3, hE.sel [0, 1, 2, 7] (by kernel_rfl), H.x2.t1, hm⟩
   ·replace hm := cond_f c hm
    refine Runs.exit rfl ?_
    cases hm
    exact hk _ _ ⟨sb2, sc2, hE.sel [7] (by kernel_rfl), H.t1.t1⟩
 rintro a w ⟨sb1, sc1, hE, H⟩
 refine Runs.sr ?_
 refine WR.seg hE 2 [] [6] (Lo := [(6, .slice sb1 s.1.length sc1)]) (obs := []) rfl (by kernel_rfl) trivial fun a hE => ?_
 refine WR.done rfl ?_
 refine Runs.ret hE Tryz.func101 rfl rfl ?_
 cases hm
 exact ⟨sb1, sc1, rfl, H.t1.t1⟩

theorem trees_List_ok {w0 w : World} {As : List HP} {k : Nat} {p_a_ : Nat} {al_a_ : arena_Arena.A} {a_ : arena_Arena} {r : Int} {t : (List Int) × arena_Arena}  (hm : trees_List k a_ r = some t) (H : St w0 (arena_Arena.R p_a_ al_a_ a_ :: As) w) :
    CallsR Tryz.prog 60 #[.pointer (some ⟨p_a_, 0, none⟩), .int .i64 r] w fun v w' => ∃ (sb0 : Option Addr), ∃ (sc0 : Nat), v = .slice sb0 t.1.length sc0 ∧ St w0 (Sl 3 ecI 1 sb0 sc0 t.1 :: arena_Arena.R p_a_ al_a_ t.2 :: As) w' := by
 rw [trees_List] at hm
 refine enter (args := [.pointer (some ⟨p_a_, 0, none⟩), .int .i64 r]) Tryz.func60 rfl rfl rfl fun a hE => ?_
 refine Runs.sr ?_
 refine WR.seg hE 1 [] [0, 1] (Lo := [(0, .pointer (some ⟨p_a_, 0, none⟩)), (1, .int .i64 r)]) (obs := []) rfl (by kernel_rfl) trivial fun a hE => ?_
 refine WR.done rfl ?_
 refine Runs.sr ?_
 refine WR.d0 hE 2 [(5, .pointer (some ⟨p_a_, 0, none⟩)), (6, .int .i64 r)] fun a hE => ?_
 obtain ⟨t_, et_, hm⟩ := bind_some hm
 refine WR.eff hE rfl rfl rfl rfl (OpTo.fn hE rfl rfl Tryz.call101 (node_Row_ok et_ H)) ?_
 rintro _ w ⟨sb, sc, rfl, H⟩ a hE
 refine WR.e0 hE [(4, .slice sb t_.1.length sc)] fun a hE => ?_
 refine Runs.ret hE Tryz.func60 rfl rfl ?_
 cases hm
 exact ⟨sb, sc, rfl, H.t1.t1⟩

theorem trees_Carry_f1_ok {w0 w : World} {As : List HP} {x : trees_ranked} {y : trees_ranked} {t : Int}  (hm : trees_Carry_f1 x y = some t) (H : St w0 (As) w) :
    CallsR Tryz.prog 97 #[.agg #[.int .i64 x.n, .int .i64 x.rank], .agg #[.int .i64 y.n, .int .i64 y.rank]] w fun v w' => v = .int .i64 t ∧ St w0 (As) w' := by
 rw [trees_Carry_f1] at hm
 refine enter (args := [.agg #[.int .i64 x.n, .int .i64 x.rank], .agg #[.int .i64 y.n, .int .i64 y.rank]]) Tryz.func97 rfl rfl rfl fun a hE => ?_
 refine Runs.sr ?_
 refine WR.eff hE rfl rfl rfl rfl (OpTo.new hE H [] (.cells #[.int .i64 x.n, .int .i64 x.rank] 115 (0, 0)) (fun r => .pointer (some ⟨r, 0, none⟩)) (obs := []) rfl (fun _ => by kernel_rfl) trivial) ?_
 rintro _ w ⟨r, rfl, H⟩ a hE
 refine WR.eff hE rfl rfl rfl rfl (OpTo.new hE H [] (.cells #[.int .i64 y.n, .int .i64 y.rank] 115 (0, 0)) (fun r => .pointer (some ⟨r, 0, none⟩)) (obs := []) rfl (fun _ => by kernel_rfl) trivial) ?_
 rintro _ w ⟨r1, rfl, H⟩ a hE
 refine WR.seg hE 3 [] [2, 3] (Lo := [(2, .pointer (some ⟨r, 0, none⟩)), (3, .pointer (some ⟨r1, 0, none⟩))]) (obs := []) rfl (by kernel_rfl) trivial fun a hE => ?_
 refine WR.done rfl ?_
 refine Runs.sr ?_
 refine WR.e hE [.int .i64 x.rank, .int .i64 y.rank] [(4, .int .i64 (if (if 1 < w64 (x.rank - y.rank) then 1 else w64 (x.rank - y.rank)) > (-1) then (if 1 < w64 (x.rank - y.rank) then 1 else w64 (x.rank - y.rank)) else (-1)))] (obs := [.cell ⟨r, 1, none⟩ (.int .i64 x.rank), .cell ⟨r1, 1, none⟩ (.int .i64 y.rank)]) ⟨H.cell 1 rfl rfl, H.cell 0 rfl rfl, trivial⟩ fun a hE => ?_
 refine Runs.ret hE Tryz.func97 rfl rfl ?_
 cases hm
 exact ⟨rfl, H.x1.x0⟩

theorem slices_insertionSortCmpFunc_trees_ranked_g97_ok {w0 w : World} {As : List HP} {k : Nat} {sb_data : Option Addr} {sc_data : Nat} {data : List trees_ranked} {a_ : Int} {b : Int} {t : (List trees_ranked)}  (hm : slices_insertionSortCmpFunc_trees_ranked_g97 k data a_ b = some t) (H : St w0 (Sl 115 trees_ranked.enc 2 sb_data sc_data data :: As) w) :
    CallsR Tryz.prog 133 #[.slice sb_data data.length sc_data, .int .i64 a_, .int .i64 b, .func (.func 97) #[] #[]] w fun v w' => v = .tuple #[] ∧ t.length = data.length ∧ St w0 (Sl 115 trees_ranked.enc 2 sb_data sc_data t :: As) w' := by
 rw [slices_insertionSortCmpFunc_trees_ranked_g97] at hm
 refine enter (args := [.slice sb_data data.length sc_data, .int .i64 a_, .int .i64 b, .func (.func 97) #[] #[]]) Tryz.func133 rfl rfl rfl fun a hE => ?_
 refine Runs.sr ?_
 refine WR.seg hE 3 [] [0, 1, 2, 3, 8] (Lo := [(0, .slice sb_data data.length sc_data), (1, .int .i64 a_), (2, .int .i64 b), (3, .func (.func 97) #[] #[]), (8, .int .i64 (w64 (a_ + 1)))]) (obs := []) rfl (by kernel_rfl) trivial fun a hE => ?_
 refine WR.done rfl ?_
 obtain ⟨s, es, hm⟩ := bind_some hm
 refine Runs.join (fun a w => EnvOk 53 a [] ∧ St w0 (Sl 115 trees_ranked.enc 2 sb_data sc_data s :: As) w) (fun hk => ?_) ?_
 ·replace hm := es; clear es
  refine Runs.block ?_
  refine Runs.loop (fun m a w => ∃ (i : Int), ∃ (m_ : List trees_ranked), EnvOk 53 a [(0, .slice sb_data m_.length sc_data), (1, .int .i64 a_), (2, .int .i64 b), (3, .func (.func 97) #[] #[]), (8, .int .i64 i)] ∧ St w0 (Sl 115 trees_ranked.enc 2 sb_data sc_data m_ :: As) w ∧ slices_insertionSortCmpFunc_trees_ranked_g97_l0 a_ b m i m_ = some s) k ⟨w64 (a_ + 1), data, hE.sel [0, 1, 2, 3, 8] (by kernel_rfl), H, hm⟩ ?_
  rintro m ih a w ⟨i, m_, hE, H, hm⟩
  cases m with
  | zero => simp [slices_insertionSortCmpFunc_trees_ranked_g97_l0] at hm
  | succ m =>
   rw [slices_insertionSortCmpFunc_trees_ranked_g97_l0] at hm
   refine Runs.seq ?_
   refine Runs.sr ?_
   refine WR.seg hE 3 [] [0, 1, 2, 3, 8, 14] (Lo := [(0, .slice sb_data m_.length sc_data), (1, .int .i64 a_), (2, .int .i64 b), (3, .func (.func 97) #[] #[]), (8, .int .i64 i), (14, .bool (decide (i < b)))]) (obs := []) rfl (by kernel_rfl) trivial fun a hE => ?_
   refine WR.done rfl ?_
   refine Runs.cond hE rfl (fun c => ?_) (fun c => ?_)
   ·replace hm := cond_t c hm
    refine Runs.skip ?_
    refine Runs.seq ?_
    refine Runs.block ?_
    refine Runs.sr ?_
    refine WR.e0 hE [(9, .int .i64 i)] fun a hE => ?_
    obtain ⟨s1, es1, hm⟩ := bind_some hm
    refine Runs.join (fun a w => EnvOk 53 a [(0, .slice sb_data s1.length sc_data), (1, .int .i64 a_), (2, .int .i64 b), (3, .func (.func 97) #[] #[]), (8, .int .i64 i)] ∧ St w0 (Sl 115 trees_ranked.enc 2 sb_data sc_data s1 :: As) w) (fun hk => ?_) ?_
    ·replace hm := es1; clear es1
     refine Runs.block ?_
     refine Runs.loop (fun m a w => ∃ (j : Int), ∃ (m_1 : List trees_ranked), EnvOk 53 a [(0, .slice sb_data m_1.length sc_data), (1, .int .i64 a_), (2, .int .i64 b), (3, .func (.func 97) #[] #[]), (8, .int .i64 i), (9, .int .i64 j)] ∧ St w0 (Sl 115 trees_ranked.enc 2 sb_data sc_data m_1 :: As) w ∧ slices_insertionSortCmpFunc_trees_ranked_g97_l1 a_ b i m j m_1 = some s1) m ⟨i, m_, hE.sel [0, 1, 2, 3, 8, 9] (by kernel_rfl), H, hm⟩ ?_
     rintro m ih a w ⟨j, m_1, hE, H, hm⟩
     cases m with
     | zero => simp [slices_insertionSortCmpFunc_trees_ranked_g97_l1] at hm
     | succ m =>
      rw [slices_insertionSortCmpFunc_trees_ranked_g97_l1] at hm
      refine Runs.seq ?_
      refine Runs.seq ?_
      obtain ⟨s2, es2, hm⟩ := bind_some hm
      refine Runs.join (fun a w => EnvOk 53 a [(0, .slice sb_data m_1.length sc_data), (1, .int .i64 a_), (2, .int .i64 b), (3, .func (.func 97) #[] #[]), (8, .int .i64 i), (9, .int .i64 j), (34, .bool s2)] ∧ St w0 (Sl 115 trees_ranked.enc 2 sb_data sc_data m_1 :: As) w) (fun hk => ?_) ?_
      ·replace hm := es2; clear es2
       refine Runs.drawn mixed (by kernel_rfl) ?_
       replace H := H.drew
       refine WQ.seg hE [0, 1, 2, 3] [] [0, 1, 2, 3, 8, 9, 21] (Lo := [(0, .slice sb_data m_1.length sc_data), (1, .int .i64 a_), (2, .int .i64 b), (3, .func (.func 97) #[] #[]), (8, .int .i64 i), (9, .int .i64 j), (21, .bool (decide (j > a_)))]) (obs := []) (by kernel_rfl) (by kernel_rfl) trivial fun a hE => ?_
       rcases Bool.eq_false_or_eq_true (decide (j > a_)) with c | c
       ·replace hE := hE.dec 21 c (by kernel_rfl)
        replace hm := cond_t c hm
        have c_ := c
        obtain ⟨x1, ex1, hm⟩ := bind_some hm
        obtain ⟨b4, o1, hs1, hb1⟩ := SlRd.base (sl_rd 115 trees_ranked.enc 2 _ _ _) trees_ranked.enc_ok H 0 rfl ex1
        obtain ⟨x2, ex2, hm⟩ := bind_some hm
        obtain ⟨b5, o2, hs2, hb2⟩ := SlRd.base (sl_rd 115 trees_ranked.enc 2 _ _ _) trees_ranked.enc_ok H 0 rfl ex2
        refine WQ.d hE [4, 5, 6, 7, 8, 9, 10, 11, 12, 13] [.pointer (some ⟨b4, o1, none⟩), .int .i64 x1.n, .int .i64 x1.rank, .pointer (some ⟨b5, o2, none⟩), .int .i64 x2.n, .int .i64 x2.rank] [(21, .bool true), (22, .func (.func 97) #[] #[]), (26, .agg #[.int .i64 x1.n, .int .i64 x1.rank]), (31, .agg #[.int .i64 x2.n, .int .i64 x2.rank])] (obs := [.p ((sb_data : Option Addr) = some ⟨b4, o1, none⟩), .p (0 ≤ (j : Int) ∧ (j : Int) < ((m_1.length : Nat) : Int)), .cell ⟨b4, o1 + (Int.toNat j) * 2, none⟩ (.int .i64 x1.n), .cell ⟨b4, o1 + (Int.toNat j) * 2 + 1, none⟩ (.int .i64 x1.rank), .p ((sb_data : Option Addr) = some ⟨b5, o2, none⟩), .p (0 ≤ ((w64 (j - 1)) : Int) ∧ ((w64 (j - 1)) : Int) < ((m_1.length : Nat) : Int)), .cell ⟨b5, o2 + (Int.toNat (w64 (j - 1))) * 2, none⟩ (.int .i64 x2.n), .cell ⟨b5, o2 + (Int.toNat (w64 (j - 1))) * 2 + 1, none⟩ (.int .i64 x2.rank)]) ⟨hs1, hb1, SlRd.cells (sl_rd 115 trees_ranked.enc 2 _ _ _) trees_ranked.enc_ok H 0 rfl hs1 ex1 0 _ rfl, SlRd.cells (sl_rd 115 trees_ranked.enc 2 _ _ _) trees_ranked.enc_ok H 0 rfl hs1 ex1 1 _ rfl, hs2, hb2, SlRd.cells (sl_rd 115 trees_ranked.enc 2 _ _ _) trees_ranked.enc_ok H 0 rfl hs2 ex2 0 _ rfl, SlRd.cells (sl_rd 115 trees_ranked.enc 2 _ _ _) trees_ranked.enc_ok H 0 rfl hs2 ex2 1 _ rfl, trivial⟩ fun a hE => ?_
        obtain ⟨t_, et_, hm⟩ := bind_some hm
        refine WQ.eff (j := 14) (obs := []) hE (by kernel_rfl) rfl rfl rfl rfl (by kernel_rfl) (OpTo.fv hE rfl rfl rfl Tryz.call97 (trees_Carry_f1_ok et_ H)) ?_
        rintro _ w ⟨rfl, H⟩
        refine ⟨trivial, fun a hE => ?_⟩
        refine WQ.d0 hE [15, 16] [(34, .bool (decide (t_ < 0)))] fun a hE => ?_
        refine WQ.done (by kernel_rfl) ?_
        cases hm
        exact hk _ _ ⟨hE.sel [0, 1, 2, 3, 8, 9, 34] (by kernel_rfl), H⟩
       ·replace hE := hE.dec 21 c (by kernel_rfl)
        replace hm := cond_f c hm
        have c_1 := c
        refine WQ.d0 hE [4, 5, 6, 7, 8, 9, 10, 11, 12, 13, 14, 15, 16] [(34, .bool false)] fun a hE => ?_
        refine WQ.done (by kernel_rfl) ?_
        cases hm
        exact hk _ _ ⟨hE.sel [0, 1, 2, 3, 8, 9, 34] (by kernel_rfl), H⟩
      rintro a w ⟨hE, H⟩
      refine Runs.cond hE rfl (fun c => ?_) (fun c => ?_)
      ·replace hm := cond_t c hm
       refine Runs.skip ?_
       refine Runs.seq ?_
       refine Runs.block ?_
       refine Runs.drawn mixed (by kernel_rfl) ?_
       replace H := H.drew
       obtain ⟨x3, ex3, hm⟩ := bind_some hm
       obtain ⟨b6, o3, hs3, hb3⟩ := SlRd.base (sl_rd 115 trees_ranked.enc 2 _ _ _) trees_ranked.enc_ok H 0 rfl ex3
       obtain ⟨x4, ex4, hm⟩ := bind_some hm
       obtain ⟨b7, o4, hs4, hb4⟩ := SlRd.base (sl_rd 115 trees_ranked.enc 2 _ _ _) trees_ranked.enc_ok H 0 rfl ex4
       obtain ⟨x5, ex5, hm⟩ := bind_some hm
       obtain ⟨b8, o5, hs5, hb5⟩ := SlRd.base (sl_rd 115 trees_ranked.enc 2 _ _ _) trees_ranked.enc_ok H 0 rfl ex5
       refine WQ.seg hE [0, 1, 2, 3, 4, 5, 6, 7, 8, 9, 10, 11, 12, 13, 14] [.pointer (some ⟨b6, o3, none⟩), .int .i64 x3.n, .int .i64 x3.rank, .pointer (some ⟨b7, o4, none⟩), .int .i64 x4.n, .int .i64 x4.rank, .pointer (some ⟨b8, o5, none⟩)] [0, 1, 2, 3, 8, 9, 39, 41, 46, 50, 51] (Lo := [(0, .slice sb_data m_1.length sc_data), (1, .int .i64 a_), (2, .int .i64 b), (3, .func (.func 97) #[] #[]), (8, .int .i64 i), (9, .int .i64 j), (39, .slice sb_data m_1.length sc_data), (41, .int .i64 (w64 (j - 1))), (46, .agg #[.int .i64 x3.n, .int .i64 x3.rank]), (50, .agg #[.int .i64 x4.n, .int .i64 x4.rank]), (51, .pointer (some ⟨b8, o5 + (Int.toNat j) * 2, none⟩))]) (obs := [.p ((sb_data : Option Addr) = some ⟨b6, o3, none⟩), .p (0 ≤ ((w64 (j - 1)) : Int) ∧ ((w64 (j - 1)) : Int) < ((m_1.length : Nat) : Int)), .cell ⟨b6, o3 + (Int.toNat (w64 (j - 1))) * 2, none⟩ (.int .i64 x3.n), .cell ⟨b6, o3 + (Int.toNat (w64 (j - 1))) * 2 + 1, none⟩ (.int .i64 x3.rank), .p ((sb_data : Option Addr) = some ⟨b7, o4, none⟩), .p (0 ≤ (j : Int) ∧ (j : Int) < ((m_1.length : Nat) : Int)), .cell ⟨b7, o4 + (Int.toNat j) * 2, none⟩ (.int .i64 x4.n), .cell ⟨b7, o4 + (Int.toNat j) * 2 + 1, none⟩ (.int .i64 x4.rank), .p ((sb_data : Option Addr) = some ⟨b8, o5, none⟩), .p (0 ≤ (j : Int) ∧ (j : Int) < ((m_1.length : Nat) : Int))]) (by kernel_rfl) (by kernel_rfl) ⟨hs3, hb3, SlRd.cells (sl_rd 115 trees_ranked.enc 2 _ _ _) trees_ranked.enc_ok H 0 rfl hs3 ex3 0 _ rfl, SlRd.cells (sl_rd 115 trees_ranked.enc 2 _ _ _) trees_ranked.enc_ok H 0 rfl hs3 ex3 1 _ rfl, hs4, hb4, SlRd.cells (sl_rd 115 trees_ranked.enc 2 _ _ _) trees_ranked.enc_ok H 0 rfl hs4 ex4 0 _ rfl, SlRd.cells (sl_rd 115 trees_ranked.enc 2 _ _ _) trees_ranked.enc_ok H 0 rfl hs4 ex4 1 _ rfl, hs5, hb5, trivial⟩ fun a hE => ?_
       refine WQ.eff0 (j := 15) (obs := []) hE (by kernel_rfl) rfl rfl rfl (by kernel_rfl) (OpTo.storeSl (q := 0) (x' := x3) hE H trees_ranked.enc_ok rfl hs5 ex5 rfl rfl rfl rfl rfl (Nat.le_of_ble_eq_true rfl) rfl) ?_
       rintro _ w H
       refine ⟨trivial, fun a hE => ?_⟩
       try rw [← mSet_len m_1 j x3] at hE
       obtain ⟨x6, ex6, hm⟩ := bind_some hm
       obtain ⟨b9, o6, hs6, hb6⟩ := SlRd.base (sl_rd 115 trees_ranked.enc 2 _ _ _) trees_ranked.enc_ok H 0 rfl ex6
       refine WQ.seg hE [16] [.pointer (some ⟨b9, o6, none⟩)] [0, 1, 2, 3, 8, 9, 50, 52] (Lo := [(0, .slice sb_data ((mSet m_1 j x3).length) sc_data), (1, .int .i64 a_), (2, .int .i64 b), (3, .func (.func 97) #[] #[]), (8, .int .i64 i), (9, .int .i64 j), (50, .agg #[.int .i64 x4.n, .int .i64 x4.rank]), (52, .pointer (some ⟨b9, o6 + (Int.toNat (w64 (j - 1))) * 2, none⟩))]) (obs := [.p ((sb_data : Option Addr) = some ⟨b9, o6, none⟩), .p (0 ≤ ((w64 (j - 1)) : Int) ∧ ((w64 (j - 1)) : Int) < (((mSet m_1 j x3).length : Nat) : Int))]) (by kernel_rfl) (by kernel_rfl) ⟨hs6, hb6, trivial⟩ fun a hE => ?_
       refine WQ.eff0 (j := 17) (obs := []) hE (by kernel_rfl) rfl rfl rfl (by kernel_rfl) (OpTo.storeSl (q := 0) (x' := x4) hE H trees_ranked.enc_ok rfl hs6 ex6 rfl rfl rfl rfl rfl (Nat.le_of_ble_eq_true rfl) rfl) ?_
       rintro _ w H
       refine ⟨trivial, fun a hE => ?_⟩
       try rw [← mSet_len (mSet m_1 j x3) (w64 (j - 1)) x4] at hE
       refine WQ.done (by kernel_rfl) ?_
       refine Runs.inBlock ?_
       refine Runs.region ?_
       refine WR.seg hE 3 [] [0, 1, 2, 3, 8, 9] (Lo := [(0, .slice sb_data ((mSet (mSet m_1 j x3) (w64 (j - 1)) x4).length) sc_data), (1, .int .i64 a_), (2, .int .i64 b), (3, .func (.func 97) #[] #[]), (8, .int .i64 i), (9, .int .i64 (w64 (j - 1)))]) (obs := []) rfl (by kernel_rfl) trivial fun a hE => ?_
       refine WR.done rfl ?_
       exact ih m (Nat.lt_succ_self m) _ _ ⟨w64 (j - 1), mSet (mSet m_1 j x3) (w64 (j - 1)) x4, hE.sel [0, 1, 2, 3, 8, 9] (by kernel_rfl), H, hm⟩
      ·replace hm := cond_f c hm
       refine Runs.exit rfl ?_
       cases hm
       exact hk _ _ ⟨hE.sel [0, 1, 2, 3, 8] (by kernel_rfl), H⟩
    rintro a w ⟨hE, H⟩
    refine Runs.inBlock ?_
    refine Runs.region ?_
    refine WR.seg hE 3 [] [0, 1, 2, 3, 8] (Lo := [(0, .slice sb_data s1.length sc_data), (1, .int .i64 a_), (2, .int .i64 b), (3, .func (.func 97) #[] #[]), (8, .int .i64 (w64 (i + 1)))]) (obs := []) rfl (by kernel_rfl) trivial fun a hE => ?_
    refine WR.done rfl ?_
    exact ih m (Nat.lt_succ_self m) _ _ ⟨w64 (i + 1), s1, hE.sel [0, 1, 2, 3, 8] (by kernel_rfl), H, hm⟩
   ·replace hm := cond_f c hm
    refine Runs.exit rfl ?_
    cases hm
    exact hk _ _ ⟨hE.sel [] (by kernel_rfl), H⟩
 rintro a w ⟨hE, H⟩
 refine Runs.fin hE Tryz.func133 rfl rfl ?_
 obtain ⟨u, eu, hm⟩ := bind_some hm
 cases hm
 exact ⟨rfl, same_spec eu, H⟩

theorem slices_stableCmpFunc_trees_ranked_g97_ok {w0 w : World} {As : List HP} {k : Nat} {sb_data : Option Addr} {sc_data : Nat} {data : List trees_ranked} {n : Int} {t : (List trees_ranked)}  (hm : slices_stableCmpFunc_trees_ranked_g97 k data n = some t) (H : St w0 (Sl 115 trees_ranked.enc 2 sb_data sc_data data :: As) w) :
    CallsR Tryz.prog 122 #[.slice sb_data data.length sc_data, .int .i64 n, .func (.func 97) #[] #[]] w fun v w' => v = .tuple #[] ∧ t.length = data.length ∧ St w0 (Sl 115 trees_ranked.enc 2 sb_data sc_data t :: As) w' := by
 rw [slices_stableCmpFunc_trees_ranked_g97] at hm
 refine enter (args := [.slice sb_data data.length sc_data, .int .i64 n, .func (.func 97) #[] #[]]) Tryz.func122 rfl rfl rfl fun a hE => ?_
 refine Runs.sr ?_
 refine WR.seg hE 1 [] [0, 1, 2, 6] (Lo := [(0, .slice sb_data data.length sc_data), (1, .int .i64 n), (2, .func (.func 97) #[] #[]), (6, .int .i64 20)]) (obs := []) rfl (by kernel_rfl) trivial fun a hE => ?_
 refine WR.done rfl ?_
 refine Runs.sr ?_
 refine WR.e0 hE [(7, .int .i64 0), (8, .int .i64 20)] fun a hE => ?_
 refine Runs.seq ?_
 obtain ⟨s, es, hm⟩ := bind_some hm
 refine Runs.join (fun a w => EnvOk 63 a [(0, .slice sb_data s.2.length sc_data), (1, .int .i64 n), (2, .func (.func 97) #[] #[]), (6, .int .i64 20), (7, .int .i64 s.1)] ∧ St w0 (Sl 115 trees_ranked.enc 2 sb_data sc_data s.2 :: As) w) (fun hk => ?_) ?_
 ·replace hm := es; clear es
  refine Runs.block ?_
  refine Runs.loop (fun m a w => ∃ (a_ : Int), ∃ (b : Int), ∃ (m_ : List trees_ranked), EnvOk 63 a [(0, .slice sb_data m_.length sc_data), (1, .int .i64 n), (2, .func (.func 97) #[] #[]), (6, .int .i64 20), (7, .int .i64 a_), (8, .int .i64 b)] ∧ St w0 (Sl 115 trees_ranked.enc 2 sb_data sc_data m_ :: As) w ∧ slices_stableCmpFunc_trees_ranked_g97_l0 n m a_ b m_ = some s) k ⟨0, 20, data, hE.sel [0, 1, 2, 6, 7, 8] (by kernel_rfl), H, hm⟩ ?_
  rintro m ih a w ⟨a_, b, m_, hE, H, hm⟩
  cases m with
  | zero => simp [slices_stableCmpFunc_trees_ranked_g97_l0] at hm
  | succ m =>
   rw [slices_stableCmpFunc_trees_ranked_g97_l0] at hm
   refine Runs.seq ?_
   refine Runs.sr ?_
   refine WR.seg hE 3 [] [0, 1, 2, 6, 7, 8, 13] (Lo := [(0, .slice sb_data m_.length sc_data), (1, .int .i64 n), (2, .func (.func 97) #[] #[]), (6, .int .i64 20), (7, .int .i64 a_), (8, .int .i64 b), (13, .bool (decide (b ≤ n)))]) (obs := []) rfl (by kernel_rfl) trivial fun a hE => ?_
   refine WR.done rfl ?_
   refine Runs.cond hE rfl (fun c => ?_) (fun c => ?_)
   ·replace hm := cond_t c hm
    refine Runs.skip ?_
    refine Runs.block ?_
    refine Runs.sr ?_
    refine WR.d0 hE 4 [(14, .slice sb_data m_.length sc_data), (15, .int .i64 a_), (16, .int .i64 b), (17, .func (.func 97) #[] #[])] fun a hE => ?_
    obtain ⟨t_, et_, hm⟩ := bind_some hm
    refine WR.eff hE rfl rfl rfl rfl (OpTo.fn hE rfl rfl Tryz.call133 (slices_insertionSortCmpFunc_trees_ranked_g97_ok et_ H)) ?_
    rintro _ w ⟨rfl, hl0, H⟩ a hE
    try rw [← hl0] at hE
    refine WR.done rfl ?_
    refine Runs.sr ?_
    refine WR.seg hE 2 [] [0, 1, 2, 6, 7, 8] (Lo := [(0, .slice sb_data t_.length sc_data), (1, .int .i64 n), (2, .func (.func 97) #[] #[]), (6, .int .i64 20), (7, .int .i64 b), (8, .int .i64 b)]) (obs := []) rfl (by kernel_rfl) trivial fun a hE => ?_
    refine WR.done rfl ?_
    refine Runs.region ?_
    refine WR.e0 hE [(8, .int .i64 (w64 (b + 20)))] fun a hE => ?_
    refine Runs.inBlock ?_
    exact ih m (Nat.lt_succ_self m) _ _ ⟨b, w64 (b + 20), t_, hE.sel [0, 1, 2, 6, 7, 8] (by kernel_rfl), H, hm⟩
   ·replace hm := cond_f c hm
    refine Runs.exit rfl ?_
    cases hm
    exact hk _ _ ⟨hE.sel [0, 1, 2, 6, 7] (by kernel_rfl), H⟩
 rintro a w ⟨hE, H⟩
 refine Runs.sr ?_
 refine WR.seg hE 4 [] [0, 1, 2, 6, 23, 24, 25, 26] (Lo := [(0, .slice sb_data s.2.length sc_data), (1, .int .i64 n), (2, .func (.func 97) #[] #[]), (6, .int .i64 20), (23, .slice sb_data s.2.length sc_data), (24, .int .i64 s.1), (25, .int .i64 n), (26, .func (.func 97) #[] #[])]) (obs := []) rfl (by kernel_rfl) trivial fun a hE => ?_
 obtain ⟨t_1, et_1, hm⟩ := bind_some hm
 refine WR.eff hE rfl rfl rfl rfl (OpTo.fn hE rfl rfl Tryz.call133 (slices_insertionSortCmpFunc_trees_ranked_g97_ok et_1 H)) ?_
 rintro _ w ⟨rfl, hl0, H⟩ a hE
 try rw [← hl0] at hE
 refine WR.done rfl ?_
 obtain ⟨s1, es1, hm⟩ := bind_some hm
 refine Runs.join (fun a w => EnvOk 63 a [] ∧ St w0 (Sl 115 trees_ranked.enc 2 sb_data sc_data t_1 :: As) w) (fun hk => ?_) ?_
 ·replace hm := es1; clear es1
  refine Runs.block ?_
  refine Runs.loop (fun m a w => ∃ (blockSize : Int), EnvOk 63 a [(0, .slice sb_data t_1.length sc_data), (1, .int .i64 n), (2, .func (.func 97) #[] #[]), (6, .int .i64 blockSize)] ∧ St w0 (Sl 115 trees_ranked.enc 2 sb_data sc_data t_1 :: As) w ∧ slices_stableCmpFunc_trees_ranked_g97_l1 n t_1 m blockSize = some s1) k ⟨20, hE.sel [0, 1, 2, 6] (by kernel_rfl), H, hm⟩ ?_
  rintro m ih a w ⟨blockSize, hE, H, hm⟩
  cases m with
  | zero => simp [slices_stableCmpFunc_trees_ranked_g97_l1] at hm
  | succ m =>
   rw [slices_stableCmpFunc_trees_ranked_g97_l1] at hm
   refine Runs.seq ?_
   refine Runs.sr ?_
   refine WR.seg hE 3 [] [0, 1, 2, 6, 30] (Lo := [(0, .slice sb_data t_1.length sc_data), (1, .int .i64 n), (2, .func (.func 97) #[] #[]), (6, .int .i64 blockSize), (30, .bool (decide (blockSize < n)))]) (obs := []) rfl (by kernel_rfl) trivial fun a hE => ?_
   refine WR.done rfl ?_
   refine Runs.cond hE rfl (fun c => ?_) (fun c => ?_)
   ·replace hm := cond_t c hm
    refine Runs.skip ?_
    refine Runs.block ?_
    refine Runs.sr ?_
    refine WR.e0 hE [(7, .int .i64 0), (8, .int .i64 (w64 (2 * blockSize)))] fun a hE => ?_
    refine Runs.seq ?_
    obtain ⟨s2, es2, hm⟩ := bind_some hm
    refine Runs.join (fun a w => EnvOk 63 a [(0, .slice sb_data t_1.length sc_data), (1, .int .i64 n), (2, .func (.func 97) #[] #[]), (6, .int .i64 blockSize), (7, .int .i64 s2)] ∧ St w0 (Sl 115 trees_ranked.enc 2 sb_data sc_data t_1 :: As) w) (fun hk => ?_) ?_
    ·replace hm := es2; clear es2
     refine Runs.block ?_
     refine Runs.loop (fun m a w => ∃ (a_1 : Int), ∃ (b1 : Int), EnvOk 63 a [(0, .slice sb_data t_1.length sc_data), (1, .int .i64 n), (2, .func (.func 97) #[] #[]), (6, .int .i64 blockSize), (7, .int .i64 a_1), (8, .int .i64 b1)] ∧ St w0 (Sl 115 trees_ranked.enc 2 sb_data sc_data t_1 :: As) w ∧ slices_stableCmpFunc_trees_ranked_g97_l2 n blockSize t_1 m a_1 b1 = some s2) m ⟨0, w64 (2 * blockSize), hE.sel [0, 1, 2, 6, 7, 8] (by kernel_rfl), H, hm⟩ ?_
     rintro m ih a w ⟨a_1, b1, hE, H, hm⟩
     cases m with
     | zero => simp [slices_stableCmpFunc_trees_ranked_g97_l2] at hm
     | succ m =>
      rw [slices_stableCmpFunc_trees_ranked_g97_l2] at hm
      refine Runs.seq ?_
      refine Runs.sr ?_
      refine WR.seg hE 3 [] [0, 1, 2, 6, 7, 8, 35] (Lo := [(0, .slice sb_data t_1.length sc_data), (1, .int .i64 n), (2, .func (.func 97) #[] #[]), (6, .int .i64 blockSize), (7, .int .i64 a_1), (8, .int .i64 b1), (35, .bool (decide (b1 ≤ n)))]) (obs := []) rfl (by kernel_rfl) trivial fun a hE => ?_
      refine WR.done rfl ?_
      refine Runs.cond hE rfl (fun c => ?_) (fun c => ?_)
      ·replace hm := cond_t c hm
       refine Runs.skip ?_
       refine Runs.block ?_
       refine Runs.sr ?_
       cases hm
      ·replace hm := cond_f c hm
       refine Runs.exit rfl ?_
       cases hm
       exact hk _ _ ⟨hE.sel [0, 1, 2, 6, 7] (by kernel_rfl), H⟩
    rintro a w ⟨hE, H⟩
    refine Runs.seq ?_
    refine Runs.sr ?_
    refine WR.seg hE 4 [] [0, 1, 2, 6, 7, 9] (Lo := [(0, .slice sb_data t_1.length sc_data), (1, .int .i64 n), (2, .func (.func 97) #[] #[]), (6, .int .i64 blockSize), (7, .int .i64 s2), (9, .int .i64 (w64 (s2 + blockSize)))]) (obs := []) rfl (by kernel_rfl) trivial fun a hE => ?_
    refine WR.done rfl ?_
    refine Runs.sr ?_
    refine WR.e0 hE [(54, .bool (decide (w64 (s2 + blockSize) < n)))] fun a hE => ?_
    obtain ⟨s3, es3, hm⟩ := bind_some hm
    refine Runs.join (fun a w => EnvOk 63 a [(0, .slice sb_data t_1.length sc_data), (1, .int .i64 n), (2, .func (.func 97) #[] #[]), (6, .int .i64 blockSize)] ∧ St w0 (Sl 115 trees_ranked.enc 2 sb_data sc_data t_1 :: As) w) (fun hk => ?_) ?_
    ·replace hm := es3; clear es3
     refine Runs.cond hE rfl (fun c => ?_) (fun c => ?_)
     ·replace hm := cond_t c hm
      refine Runs.region ?_
      cases hm
     ·replace hm := cond_f c hm
      refine Runs.skip ?_
      cases hm
      exact hk _ _ ⟨hE.sel [0, 1, 2, 6] (by kernel_rfl), H⟩
    rintro a w ⟨hE, H⟩
    refine Runs.region ?_
    refine WR.seg hE 3 [] [0, 1, 2, 6] (Lo := [(0, .slice sb_data t_1.length sc_data), (1, .int .i64 n), (2, .func (.func 97) #[] #[]), (6, .int .i64 (w64 (blockSize * 2)))]) (obs := []) rfl (by kernel_rfl) trivial fun a hE => ?_
    refine WR.done rfl ?_
    refine Runs.inBlock ?_
    exact ih m (Nat.lt_succ_self m) _ _ ⟨w64 (blockSize * 2), hE.sel [0, 1, 2, 6] (by kernel_rfl), H, hm⟩
   ·replace hm := cond_f c hm
    refine Runs.exit rfl ?_
    cases hm
    exact hk _ _ ⟨hE.sel [] (by kernel_rfl), H⟩
 rintro a w ⟨hE, H⟩
 refine Runs.fin hE Tryz.func122 rfl rfl ?_
 obtain ⟨u, eu, hm⟩ := bind_some hm
 cases hm
 exact ⟨rfl, same_spec eu, H⟩

theorem slices_SortStableFunc_trees_ranked_g97_ok {w0 w : World} {As : List HP} {k : Nat} {sb_x : Option Addr} {sc_x : Nat} {x : List trees_ranked} {t : (List trees_ranked)}  (hm : slices_SortStableFunc_trees_ranked_g97 k x = some t) (H : St w0 (Sl 115 trees_ranked.enc 2 sb_x sc_x x :: As) w) :
    CallsR Tryz.prog 96 #[.slice sb_x x.length sc_x, .func (.func 97) #[] #[]] w fun v w' => v = .tuple #[] ∧ t.length = x.length ∧ St w0 (Sl 115 trees_ranked.enc 2 sb_x sc_x t :: As) w' := by
 rw [slices_SortStableFunc_trees_ranked_g97] at hm
 refine enter (args := [.slice sb_x x.length sc_x, .func (.func 97) #[] #[]]) Tryz.func96 rfl rfl rfl fun a hE => ?_
 refine Runs.region ?_
 refine WR.seg hE 4 [] [4, 6, 7] (Lo := [(4, .slice sb_x x.length sc_x), (6, .int .i64 (x.length : Int)), (7, .func (.func 97) #[] #[])]) (obs := []) rfl (by kernel_rfl) trivial fun a hE => ?_
 obtain ⟨t_, et_, hm⟩ := bind_some hm
 refine WR.eff hE rfl rfl rfl rfl (OpTo.fn hE rfl rfl Tryz.call122 (slices_stableCmpFunc_trees_ranked_g97_ok et_ H)) ?_
 rintro _ w ⟨rfl, hl0, H⟩ a hE
 try rw [← hl0] at hE
 refine WR.done rfl ?_
 refine Runs.fin hE Tryz.func96 rfl rfl ?_
 obtain ⟨u, eu, hm⟩ := bind_some hm
 cases hm
 exact ⟨rfl, same_spec eu, H⟩

theorem item_Entry_ok {w0 w : World} {As : List HP} {p_a_ : Nat} {al_a_ : arena_Arena.A} {a_ : arena_Arena} {i : Int} {t : api_Entry × arena_Arena}  (hm : item_Entry a_ i = some t) (H : St w0 (arena_Arena.R p_a_ al_a_ a_ :: As) w) :
    CallsR Tryz.prog 25 #[.pointer (some ⟨p_a_, 0, none⟩), .int .i64 i] w fun v w' => v = .agg #[.int .i64 t.1.Key, .int .i64 t.1.Serial] ∧ t.2.free = a_.free ∧ t.2.l = a_.l ∧ St w0 (arena_Arena.R p_a_ al_a_ t.2 :: As) w' := by
 rw [item_Entry] at hm
 refine enter (args := [.pointer (some ⟨p_a_, 0, none⟩), .int .i64 i]) Tryz.func25 rfl rfl rfl fun a hE => ?_
 refine Runs.sr ?_
 refine WR.eff hE rfl rfl rfl rfl (OpTo.new hE H [] (.cells #[.int .i64 0, .int .i64 0] 40 (0, 0)) (fun r => .pointer (some ⟨r, 0, none⟩)) (obs := []) rfl (fun _ => by kernel_rfl) trivial) ?_
 rintro _ w ⟨r, rfl, H⟩ a hE
 refine WR.done rfl ?_
 refine Runs.seq ?_
 refine Runs.sr ?_
 refine WR.seg hE 2 [] [0, 1, 4, 6] (Lo := [(0, .pointer (some ⟨p_a_, 0, none⟩)), (1, .int .i64 i), (4, .pointer (some ⟨r, 0, none⟩)), (6, .bool false)]) (obs := []) rfl (by kernel_rfl) trivial fun a hE => ?_
 refine WR.done rfl ?_
 refine Runs.condF hE rfl ?_
 refine Runs.skip ?_
 refine Runs.sr ?_
 refine WR.d0 hE 2 [(8, .pointer (some ⟨p_a_, 0, none⟩)), (9, .int .i64 i)] fun a hE => ?_
 obtain ⟨t_, et_, hm⟩ := bind_some hm
 refine WR.eff hE rfl rfl rfl rfl (OpTo.fn hE rfl rfl Tryz.call65 (arena_Arena_Get_ok et_ H.t1)) ?_
 rintro _ w ⟨rfl, hf1, hf, H⟩ a hE
 refine WR.d0 hE 5 [(11, .pointer (some ⟨p_a_, 0, none⟩)), (12, .int .i64 i)] fun a hE => ?_
 obtain ⟨t_1, et_1, hm⟩ := bind_some hm
 refine WR.eff hE rfl rfl rfl rfl (OpTo.fn hE rfl rfl Tryz.call65 (arena_Arena_Get_ok et_1 H)) ?_
 rintro _ w ⟨rfl, hf3, hf2, H⟩ a hE
 refine WR.d0 hE 7 [(14, .agg #[.int .i64 t_.1, .int .i64 t_1.1])] fun a hE => ?_
 refine WR.eff0 hE rfl rfl rfl (OpTo.store hE H.t1 rfl rfl rfl rfl rfl rfl (Nat.le_of_ble_eq_true rfl)) ?_
 rintro _ w H a hE
 refine WR.done rfl ?_
 refine Runs.retO (vs := [.agg #[.int .i64 t_.1, .int .i64 t_1.1]]) (obs := [.cell ⟨r, 0, none⟩ (.int .i64 t_.1), .cell ⟨r, 1, none⟩ (.int .i64 t_1.1)]) hE Tryz.func25 rfl [.int .i64 t_.1, .int .i64 t_1.1] (by kernel_rfl) ⟨H.cell 0 rfl rfl, H.cell 0 rfl rfl, trivial⟩ ?_
 cases hm
 exact ⟨rfl, (by simp only [hf2, hf3, hf, hf1]), (by simp only [hf2, hf3, hf, hf1]), H.x0⟩

theorem cmp_isNaN_int64_ok {w0 w : World} {As : List HP} {x : Int} {t : Bool}  (hm : cmp_isNaN_int64 x = some t) (H : St w0 (As) w) :
    CallsR Tryz.prog 156 #[.int .i64 x] w fun v w' => v = .bool t ∧ St w0 (As) w' := by
 rw [cmp_isNaN_int64] at hm
 refine enter (args := [.int .i64 x]) Tryz.func156 rfl rfl rfl fun a hE => ?_
 refine Runs.sr ?_
 refine WR.seg hE 1 [] [0] (Lo := [(0, .int .i64 x)]) (obs := []) rfl (by kernel_rfl) trivial fun a hE => ?_
 refine WR.done rfl ?_
 refine Runs.sr ?_
 refine WR.e0 hE [(2, .bool (x != x))] fun a hE => ?_
 refine Runs.ret hE Tryz.func156 rfl rfl ?_
 cases hm
 exact ⟨rfl, H⟩

theorem cmp_Compare_int64_ok {w0 w : World} {As : List HP} {x : Int} {y : Int} {t : Int}  (hm : cmp_Compare_int64 x y = some t) (H : St w0 (As) w) :
    CallsR Tryz.prog 143 #[.int .i64 x, .int .i64 y] w fun v w' => v = .int .i64 t ∧ St w0 (As) w' := by
 rw [cmp_Compare_int64] at hm
 refine enter (args := [.int .i64 x, .int .i64 y]) Tryz.func143 rfl rfl rfl fun a hE => ?_
 refine Runs.sr ?_
 refine WR.seg hE 1 [] [0, 1] (Lo := [(0, .int .i64 x), (1, .int .i64 y)]) (obs := []) rfl (by kernel_rfl) trivial fun a hE => ?_
 refine WR.done rfl ?_
 refine Runs.sr ?_
 refine WR.d0 hE 1 [(7, .int .i64 x)] fun a hE => ?_
 obtain ⟨t_, et_, hm⟩ := bind_some hm
 refine WR.eff hE rfl rfl rfl rfl (OpTo.fn hE rfl rfl Tryz.call156 (cmp_isNaN_int64_ok et_ H)) ?_
 rintro _ w ⟨rfl, H⟩ a hE
 refine WR.e0 hE [(5, .bool t_)] fun a hE => ?_
 refine Runs.sr ?_
 refine WR.d0 hE 1 [(9, .int .i64 y)] fun a hE => ?_
 obtain ⟨t_1, et_1, hm⟩ := bind_some hm
 refine WR.eff hE rfl rfl rfl rfl (OpTo.fn hE rfl rfl Tryz.call156 (cmp_isNaN_int64_ok et_1 H)) ?_
 rintro _ w ⟨rfl, H⟩ a hE
 refine WR.e0 hE [(6, .bool t_1)] fun a hE => ?_
 refine Runs.seq ?_
 refine Runs.sr ?_
 refine WR.e0 hE [(11, .bool t_)] fun a hE => ?_
 refine Runs.cond hE rfl (fun c => ?_) (fun c => ?_)
 ·replace hm := cond_t c hm
  refine Runs.seq ?_
  refine Runs.sr ?_
  refine WR.e0 hE [(12, .bool t_1)] fun a hE => ?_
  refine Runs.cond hE rfl (fun c => ?_) (fun c => ?_)
  ·replace hm := cond_t c hm
   refine Runs.sr ?_
   refine WR.e0 hE [(4, .int .i64 0)] fun a hE => ?_
   refine Runs.ret hE Tryz.func143 rfl rfl ?_
   cases hm
   exact ⟨rfl, H⟩
  ·replace hm := cond_f c hm
   refine Runs.skip ?_
   refine Runs.sr ?_
   refine WR.e0 hE [(4, .int .i64 (-1))] fun a hE => ?_
   refine Runs.ret hE Tryz.func143 rfl rfl ?_
   cases hm
   exact ⟨rfl, H⟩
 ·replace hm := cond_f c hm
  refine Runs.skip ?_
  refine Runs.seq ?_
  refine Runs.sr ?_
  refine WR.e0 hE [(13, .bool t_1)] fun a hE => ?_
  refine Runs.cond hE rfl (fun c => ?_) (fun c => ?_)
  ·replace hm := cond_t c hm
   refine Runs.sr ?_
   refine WR.e0 hE [(4, .int .i64 1)] fun a hE => ?_
   refine Runs.ret hE Tryz.func143 rfl rfl ?_
   cases hm
   exact ⟨rfl, H⟩
  ·replace hm := cond_f c hm
   refine Runs.skip ?_
   refine Runs.seq ?_
   refine Runs.sr ?_
   refine WR.e0 hE [(16, .bool (decide (x < y)))] fun a hE => ?_
   refine Runs.cond hE rfl (fun c => ?_) (fun c => ?_)
   ·replace hm := cond_t c hm
    refine Runs.sr ?_
    refine WR.e0 hE [(4, .int .i64 (-1))] fun a hE => ?_
    refine Runs.ret hE Tryz.func143 rfl rfl ?_
    cases hm
    exact ⟨rfl, H⟩
   ·replace hm := cond_f c hm
    refine Runs.skip ?_
    refine Runs.seq ?_
    refine Runs.sr ?_
    refine WR.e0 hE [(19, .bool (decide (x > y)))] fun a hE => ?_
    refine Runs.cond hE rfl (fun c => ?_) (fun c => ?_)
    ·replace hm := cond_t c hm
     refine Runs.sr ?_
     refine WR.e0 hE [(4, .int .i64 1)] fun a hE => ?_
     refine Runs.ret hE Tryz.func143 rfl rfl ?_
     cases hm
     exact ⟨rfl, H⟩
    ·replace hm := cond_f c hm
     refine Runs.skip ?_
     refine Runs.sr ?_
     refine WR.e0 hE [(4, .int .i64 0)] fun a hE => ?_
     refine Runs.ret hE Tryz.func143 rfl rfl ?_
     cases hm
     exact ⟨rfl, H⟩

theorem cmp_Or_int_ok {w0 w : World} {As : List HP} {k : Nat} {sb_vals : Option Addr} {sc_vals : Nat} {vals : List Int} {X_vals : HP} {t : Int} (hX_vals : SlRd X_vals ecI 1 sb_vals vals) (hC_vals : vals.length ≤ sc_vals) (hm : cmp_Or_int k vals = some t) (H : St w0 (X_vals :: As) w) :
    CallsR Tryz.prog 142 #[.slice sb_vals vals.length sc_vals] w fun v w' => v = .int .i64 t ∧ St w0 (X_vals :: As) w' := by
 rw [cmp_Or_int] at hm
 refine enter (args := [.slice sb_vals vals.length sc_vals]) Tryz.func142 rfl rfl rfl fun a hE => ?_
 refine Runs.sr ?_
 refine WR.seg hE 1 [] [0] (Lo := [(0, .slice sb_vals vals.length sc_vals)]) (obs := []) rfl (by kernel_rfl) trivial fun a hE => ?_
 refine WR.done rfl ?_
 refine Runs.sr ?_
 refine WR.e0 hE [(3, .int .i64 0)] fun a hE => ?_
 refine Runs.seq ?_
 refine Runs.sr ?_
 refine WR.e0 hE [(6, .slice sb_vals vals.length sc_vals), (7, .int .i64 (vals.length : Int)), (8, .int .i64 0)] fun a hE => ?_
 obtain ⟨s, es, hR⟩ := bind_some hm
 refine Runs.join (fun a w => ∃ s1, s = Sum.inr s1 ∧ EnvOk 18 a [(3, .int .i64 0)] ∧ St w0 (X_vals :: As) w) (fun hk => ?_) ?_
 ·replace hm := es; clear es
  refine Runs.block ?_
  refine Runs.loop (fun m a w => ∃ (x : Int), EnvOk 18 a [(3, .int .i64 0), (6, .slice sb_vals vals.length sc_vals), (7, .int .i64 (vals.length : Int)), (8, .int .i64 x)] ∧ St w0 (X_vals :: As) w ∧ cmp_Or_int_l0 (vals.length : Int) vals m x = some s) k ⟨0, hE.sel [3, 6, 7, 8] (by kernel_rfl), H, hm⟩ ?_
  rintro m ih a w ⟨x, hE, H, hm⟩
  cases m with
  | zero => simp [cmp_Or_int_l0] at hm
  | succ m =>
   rw [cmp_Or_int_l0] at hm
   refine Runs.sr ?_
   refine WR.seg hE 1 [] [3, 6, 7, 8, 9] (Lo := [(3, .int .i64 0), (6, .slice sb_vals vals.length sc_vals), (7, .int .i64 (vals.length : Int)), (8, .int .i64 x), (9, .bool (decide (x < (vals.length : Int))))]) (obs := []) rfl (by kernel_rfl) trivial fun a hE => ?_
   refine WR.done rfl ?_
   refine Runs.seq ?_
   refine Runs.cond hE rfl (fun c => ?_) (fun c => ?_)
   ·replace hm := cond_t c hm
    refine Runs.skip ?_
    refine Runs.seq ?_
    refine Runs.block ?_
    refine Runs.sr ?_
    obtain ⟨x2, ex2, hm⟩ := bind_some hm
    obtain ⟨b, o, hs, hb⟩ := SlRd.base hX_vals ecI_ok H 0 rfl ex2
    refine WR.e hE [.pointer (some ⟨b, o, none⟩), .int .i64 x2] [(5, .int .i64 x2)] (obs := [.p ((sb_vals : Option Addr) = some ⟨b, o, none⟩), .p (0 ≤ (x : Int) ∧ (x : Int) < ((vals.length : Nat) : Int)), .cell ⟨b, o + (Int.toNat x) * 1, none⟩ (.int .i64 x2)]) ⟨hs, hb, SlRd.cells hX_vals ecI_ok H 0 rfl hs ex2 0 _ rfl, trivial⟩ fun a hE => ?_
    refine Runs.sr ?_
    refine WR.e0 hE [(14, .bool (x2 != 0))] fun a hE => ?_
    refine Runs.cond hE rfl (fun c => ?_) (fun c => ?_)
    ·replace hm := cond_t c hm
     refine Runs.sr ?_
     refine WR.e0 hE [(2, .int .i64 x2)] fun a hE => ?_
     refine Runs.ret hE Tryz.func142 rfl rfl ?_
     cases hm
     dsimp only at hR; cases hR
     exact ⟨rfl, H⟩
    ·replace hm := cond_f c hm
     refine Runs.skip ?_
     refine Runs.inBlock ?_
     refine Runs.region ?_
     refine WR.e0 hE [(8, .int .i64 (w64 (x + 1)))] fun a hE => ?_
     exact ih m (Nat.lt_succ_self m) _ _ ⟨w64 (x + 1), hE.sel [3, 6, 7, 8] (by kernel_rfl), H, hm⟩
   ·replace hm := cond_f c hm
    refine Runs.exit rfl ?_
    cases hm
    exact hk _ _ ⟨_, rfl, hE.sel [3] (by kernel_rfl), H⟩
 rintro a w ⟨s1, rfl, hE, H⟩
 replace hm := hR; dsimp only at hm
 refine Runs.sr ?_
 refine WR.seg hE 2 [] [2] (Lo := [(2, .int .i64 0)]) (obs := []) rfl (by kernel_rfl) trivial fun a hE => ?_
 refine WR.done rfl ?_
 refine Runs.ret hE Tryz.func142 rfl rfl ?_
 cases hm
 exact ⟨rfl, H⟩

theorem order_Compare_ok {w0 w : World} {As : List HP} {k : Nat} {a_ : api_Entry} {b : api_Entry} {t : Int}  (hm : order_Compare k a_ b = some t) (H : St w0 (As) w) :
    CallsR Tryz.prog 136 #[.agg #[.int .i64 a_.Key, .int .i64 a_.Serial], .agg #[.int .i64 b.Key, .int .i64 b.Serial]] w fun v w' => v = .int .i64 t ∧ St w0 (As) w' := by
 rw [order_Compare] at hm
 refine enter (args := [.agg #[.int .i64 a_.Key, .int .i64 a_.Serial], .agg #[.int .i64 b.Key, .int .i64 b.Serial]]) Tryz.func136 rfl rfl rfl fun a hE => ?_
 refine Runs.sr ?_
 refine WR.eff hE rfl rfl rfl rfl (OpTo.new hE H [] (.cells #[.int .i64 a_.Key, .int .i64 a_.Serial] 40 (0, 0)) (fun r => .pointer (some ⟨r, 0, none⟩)) (obs := []) rfl (fun _ => by kernel_rfl) trivial) ?_
 rintro _ w ⟨r, rfl, H⟩ a hE
 refine WR.eff hE rfl rfl rfl rfl (OpTo.new hE H [] (.cells #[.int .i64 b.Key, .int .i64 b.Serial] 40 (0, 0)) (fun r => .pointer (some ⟨r, 0, none⟩)) (obs := []) rfl (fun _ => by kernel_rfl) trivial) ?_
 rintro _ w ⟨r1, rfl, H⟩ a hE
 refine WR.seg hE 3 [] [2, 3] (Lo := [(2, .pointer (some ⟨r, 0, none⟩)), (3, .pointer (some ⟨r1, 0, none⟩))]) (obs := []) rfl (by kernel_rfl) trivial fun a hE => ?_
 refine WR.done rfl ?_
 refine Runs.seq ?_
 refine Runs.drawn mixed (by kernel_rfl) ?_
 replace H := H.drew
 refine WQ.d hE [0, 1, 2, 3, 5, 6, 7, 8] [.int .i64 a_.Key, .int .i64 b.Key, .int .i64 a_.Serial, .int .i64 b.Serial] [(6, .int .i64 a_.Key), (8, .int .i64 b.Key), (11, .int .i64 a_.Serial), (13, .int .i64 b.Serial)] (obs := [.cell ⟨r, 0, none⟩ (.int .i64 a_.Key), .cell ⟨r1, 0, none⟩ (.int .i64 b.Key), .cell ⟨r, 1, none⟩ (.int .i64 a_.Serial), .cell ⟨r1, 1, none⟩ (.int .i64 b.Serial)]) ⟨H.cell 1 rfl rfl, H.cell 0 rfl rfl, H.cell 1 rfl rfl, H.cell 0 rfl rfl, trivial⟩ fun a hE => ?_
 obtain ⟨t_, et_, hm⟩ := bind_some hm
 refine WQ.eff (j := 4) (obs := [.cell ⟨r1, 1, none⟩ (.int .i64 b.Serial), .cell ⟨r, 1, none⟩ (.int .i64 a_.Serial)]) hE (by kernel_rfl) rfl rfl rfl rfl (by kernel_rfl) (OpTo.fn hE rfl rfl Tryz.call143 (cmp_Compare_int64_ok et_ H)) ?_
 rintro _ w ⟨rfl, H⟩
 refine ⟨⟨H.cell 0 rfl rfl, H.cell 1 rfl rfl, trivial⟩, fun a hE => ?_⟩
 obtain ⟨t_1, et_1, hm⟩ := bind_some hm
 refine WQ.eff (j := 9) (obs := []) hE (by kernel_rfl) rfl rfl rfl rfl (by kernel_rfl) (OpTo.fn hE rfl rfl Tryz.call143 (cmp_Compare_int64_ok et_1 H)) ?_
 rintro _ w ⟨rfl, H⟩
 refine ⟨trivial, fun a hE => ?_⟩
 refine WQ.eff (j := 10) (obs := []) hE (by kernel_rfl) rfl rfl rfl rfl (by kernel_rfl) (OpTo.buildSl (T := 3) hE H ecI_ok ([t_, t_1] : List Int) rfl (fun _ => by kernel_rfl) rfl rfl rfl) ?_
 rintro _ w ⟨r2, rfl, H⟩
 refine ⟨trivial, fun a hE => ?_⟩
 obtain ⟨t_2, et_2, hm⟩ := bind_some hm
 refine WQ.eff (j := 11) (obs := []) hE (by kernel_rfl) rfl rfl rfl rfl (by kernel_rfl) (OpTo.fn hE rfl rfl Tryz.call142 (cmp_Or_int_ok (hX_vals := (sl_rd 3 ecI 1 _ _ _)) (hC_vals := (H.slCap 0 rfl).1) et_2 H)) ?_
 rintro _ w ⟨rfl, H⟩
 refine ⟨trivial, fun a hE => ?_⟩
 refine WQ.d0 hE [12] [(4, .int .i64 t_2)] fun a hE => ?_
 refine WQ.done (by kernel_rfl) ?_
 refine Runs.ret hE Tryz.func136 rfl rfl ?_
 cases hm
 exact ⟨rfl, H.x2.x1.x0⟩

theorem item_Before_ok {w0 w : World} {As : List HP} {k : Nat} {p_a_ : Nat} {al_a_ : arena_Arena.A} {a_ : arena_Arena} {i : Int} {j : Int} {t : Bool × arena_Arena}  (hm : item_Before k a_ i j = some t) (H : St w0 (arena_Arena.R p_a_ al_a_ a_ :: As) w) :
    CallsR Tryz.prog 126 #[.pointer (some ⟨p_a_, 0, none⟩), .int .i64 i, .int .i64 j] w fun v w' => v = .bool t.1 ∧ t.2.free = a_.free ∧ t.2.l = a_.l ∧ St w0 (arena_Arena.R p_a_ al_a_ t.2 :: As) w' := by
 rw [item_Before] at hm
 refine enter (args := [.pointer (some ⟨p_a_, 0, none⟩), .int .i64 i, .int .i64 j]) Tryz.func126 rfl rfl rfl fun a hE => ?_
 refine Runs.sr ?_
 refine WR.seg hE 1 [] [0, 1, 2] (Lo := [(0, .pointer (some ⟨p_a_, 0, none⟩)), (1, .int .i64 i), (2, .int .i64 j)]) (obs := []) rfl (by kernel_rfl) trivial fun a hE => ?_
 refine WR.done rfl ?_
 refine Runs.sr ?_
 refine WR.d0 hE 2 [(8, .pointer (some ⟨p_a_, 0, none⟩)), (9, .int .i64 i)] fun a hE => ?_
 obtain ⟨t_, et_, hm⟩ := bind_some hm
 refine WR.eff hE rfl rfl rfl rfl (OpTo.fn hE rfl rfl Tryz.call25 (item_Entry_ok et_ H)) ?_
 rintro _ w ⟨rfl, hf1, hf, H⟩ a hE
 refine WR.d0 hE 5 [(11, .pointer (some ⟨p_a_, 0, none⟩)), (12, .int .i64 j)] fun a hE => ?_
 obtain ⟨t_1, et_1, hm⟩ := bind_some hm
 refine WR.eff hE rfl rfl rfl rfl (OpTo.fn hE rfl rfl Tryz.call25 (item_Entry_ok et_1 H)) ?_
 rintro _ w ⟨rfl, hf3, hf2, H⟩ a hE
 obtain ⟨t_2, et_2, hm⟩ := bind_some hm
 refine WR.eff hE rfl rfl rfl rfl (OpTo.fn hE rfl rfl Tryz.call136 (order_Compare_ok et_2 H)) ?_
 rintro _ w ⟨rfl, H⟩ a hE
 refine WR.e0 hE [(7, .int .i64 t_2)] fun a hE => ?_
 refine Runs.seq ?_
 refine Runs.join (fun a w => EnvOk 26 a [(6, .bool ((decide (t_2 < 0)) || ((t_2 == 0) && (decide (i < j)))))] ∧ St w0 (arena_Arena.R p_a_ al_a_ t_1.2 :: As) w) (fun hk => ?_) ?_
 ·clear hm
  refine Runs.region ?_
  refine WR.d0 hE 3 [(17, .bool (decide (t_2 < 0)))] fun a hE => ?_
  rcases Bool.eq_false_or_eq_true (decide (t_2 < 0)) with c | c
  ·replace hE := hE.dec 17 c (by kernel_rfl)
   have c_ := c
   refine WR.e0 hE [(6, .bool true)] fun a hE => ?_
   refine hk _ _ ⟨?_, H⟩
   try rw [c_] at hE
   try rw [c_]
   exact hE.sel [6] (by kernel_rfl)
  ·replace hE := hE.dec 17 c (by kernel_rfl)
   have c_1 := c
   refine WR.d0 hE 6 [(17, .bool false), (20, .bool (t_2 == 0))] fun a hE => ?_
   rcases Bool.eq_false_or_eq_true (t_2 == 0) with c | c
   ·replace hE := hE.dec 20 c (by kernel_rfl)
    have c_2 := c
    refine WR.e0 hE [(6, .bool (decide (i < j)))] fun a hE => ?_
    refine hk _ _ ⟨?_, H⟩
    try rw [c_1] at hE
    try rw [c_1]
    try rw [c_2] at hE
    try rw [c_2]
    exact hE.sel [6] (by kernel_rfl)
   ·replace hE := hE.dec 20 c (by kernel_rfl)
    have c_3 := c
    refine WR.e0 hE [(6, .bool false)] fun a hE => ?_
    refine hk _ _ ⟨?_, H⟩
    try rw [c_1] at hE
    try rw [c_1]
    try rw [c_3] at hE
    try rw [c_3]
    exact hE.sel [6] (by kernel_rfl)
 rintro a w ⟨hE, H⟩
 refine Runs.ret hE Tryz.func126 rfl rfl ?_
 cases hm
 exact ⟨rfl, (by simp only [hf2, hf3, hf, hf1]), (by simp only [hf2, hf3, hf, hf1]), H⟩

theorem node_Before_ok {w0 w : World} {As : List HP} {k : Nat} {p_a_ : Nat} {al_a_ : arena_Arena.A} {a_ : arena_Arena} {n : Int} {m_ : Int} {t : Bool × arena_Arena}  (hm : node_Before k a_ n m_ = some t) (H : St w0 (arena_Arena.R p_a_ al_a_ a_ :: As) w) :
    CallsR Tryz.prog 108 #[.pointer (some ⟨p_a_, 0, none⟩), .int .i64 n, .int .i64 m_] w fun v w' => v = .bool t.1 ∧ St w0 (arena_Arena.R p_a_ al_a_ t.2 :: As) w' := by
 rw [node_Before] at hm
 refine enter (args := [.pointer (some ⟨p_a_, 0, none⟩), .int .i64 n, .int .i64 m_]) Tryz.func108 rfl rfl rfl fun a hE => ?_
 refine Runs.sr ?_
 refine WR.seg hE 1 [] [0, 1, 2] (Lo := [(0, .pointer (some ⟨p_a_, 0, none⟩)), (1, .int .i64 n), (2, .int .i64 m_)]) (obs := []) rfl (by kernel_rfl) trivial fun a hE => ?_
 refine WR.done rfl ?_
 refine Runs.sr ?_
 refine WR.d0 hE 3 [(7, .pointer (some ⟨p_a_, 0, none⟩)), (8, .pointer (some ⟨p_a_, 0, none⟩)), (9, .int .i64 n)] fun a hE => ?_
 obtain ⟨t_, et_, hm⟩ := bind_some hm
 refine WR.eff hE rfl rfl rfl rfl (OpTo.fn hE rfl rfl Tryz.call78 (arena_Arena_Cell_ok et_ H)) ?_
 rintro _ w ⟨rfl, H⟩ a hE
 refine WR.d0 hE 6 [(11, .pointer (some ⟨p_a_, 0, none⟩)), (12, .int .i64 m_)] fun a hE => ?_
 obtain ⟨t_1, et_1, hm⟩ := bind_some hm
 refine WR.eff hE rfl rfl rfl rfl (OpTo.fn hE rfl rfl Tryz.call78 (arena_Arena_Cell_ok et_1 H)) ?_
 rintro _ w ⟨rfl, H⟩ a hE
 obtain ⟨t_2, et_2, hm⟩ := bind_some hm
 refine WR.eff hE rfl rfl rfl rfl (OpTo.fn hE rfl rfl Tryz.call126 (item_Before_ok et_2 H)) ?_
 rintro _ w ⟨rfl, hf1, hf, H⟩ a hE
 refine WR.e0 hE [(6, .bool t_2.1)] fun a hE => ?_
 refine Runs.ret hE Tryz.func108 rfl rfl ?_
 cases hm
 exact ⟨rfl, H⟩

theorem trees_Under_ok {w0 w : World} {As : List HP} {p_a_ : Nat} {al_a_ : arena_Arena.A} {a_ : arena_Arena} {n : Int} {up : Int} {t : arena_Arena}  (hm : trees_Under a_ n up = some t) (H : St w0 (arena_Arena.R p_a_ al_a_ a_ :: As) w) :
    CallsR Tryz.prog 116 #[.pointer (some ⟨p_a_, 0, none⟩), .int .i64 n, .int .i64 up] w fun v w' => v = .tuple #[] ∧ St w0 (arena_Arena.R p_a_ al_a_ t :: As) w' := by
 rw [trees_Under] at hm
 refine enter (args := [.pointer (some ⟨p_a_, 0, none⟩), .int .i64 n, .int .i64 up]) Tryz.func116 rfl rfl rfl fun a hE => ?_
 refine Runs.sr ?_
 refine WR.seg hE 4 [] [0, 1, 2, 6, 7, 8, 9] (Lo := [(0, .pointer (some ⟨p_a_, 0, none⟩)), (1, .int .i64 n), (2, .int .i64 up), (6, .pointer (some ⟨p_a_, 0, none⟩)), (7, .int .i64 n), (8, .pointer (some ⟨p_a_, 0, none⟩)), (9, .int .i64 up)]) (obs := []) rfl (by kernel_rfl) trivial fun a hE => ?_
 obtain ⟨t_, et_, hm⟩ := bind_some hm
 refine WR.eff hE rfl rfl rfl rfl (OpTo.fn hE rfl rfl Tryz.call78 (arena_Arena_Cell_ok et_ H)) ?_
 rintro _ w ⟨rfl, H⟩ a hE
 obtain ⟨t_1, et_1, hm⟩ := bind_some hm
 refine WR.eff hE rfl rfl rfl rfl (OpTo.fn hE rfl rfl Tryz.call57 (arena_Arena_Set_ok et_1 H)) ?_
 rintro _ w ⟨rfl, hf, H⟩ a hE
 refine WR.done rfl ?_
 refine Runs.sr ?_
 refine WR.d0 hE 3 [(12, .pointer (some ⟨p_a_, 0, none⟩)), (13, .int .i64 n), (14, .int .i64 up)] fun a hE => ?_
 obtain ⟨t_2, et_2, hm⟩ := bind_some hm
 refine WR.eff hE rfl rfl rfl rfl (OpTo.fn hE rfl rfl Tryz.call57 (arena_Arena_Set_ok et_2 H)) ?_
 rintro _ w ⟨rfl, hf1, H⟩ a hE
 refine WR.done rfl ?_
 refine Runs.region ?_
 refine WR.d0 hE 3 [(16, .pointer (some ⟨p_a_, 0, none⟩)), (17, .int .i64 up), (18, .int .i64 n)] fun a hE => ?_
 obtain ⟨t_3, et_3, hm⟩ := bind_some hm
 refine WR.eff hE rfl rfl rfl rfl (OpTo.fn hE rfl rfl Tryz.call57 (arena_Arena_Set_ok et_3 H)) ?_
 rintro _ w ⟨rfl, hf2, H⟩ a hE
 refine WR.done rfl ?_
 refine Runs.fin hE Tryz.func116 rfl rfl ?_
 cases hm
 exact ⟨rfl, H⟩

theorem trees_Link_ok {w0 w : World} {As : List HP} {k : Nat} {p_a_ : Nat} {al_a_ : arena_Arena.A} {a_ : arena_Arena} {n : Int} {m_ : Int} {rank : Int} {t : Int × arena_Arena}  (hm : trees_Link k a_ n m_ rank = some t) (H : St w0 (arena_Arena.R p_a_ al_a_ a_ :: As) w) :
    CallsR Tryz.prog 98 #[.pointer (some ⟨p_a_, 0, none⟩), .int .i64 n, .int .i64 m_, .int .i64 rank] w fun v w' => v = .int .i64 t.1 ∧ St w0 (arena_Arena.R p_a_ al_a_ t.2 :: As) w' := by
 rw [trees_Link] at hm
 refine enter (args := [.pointer (some ⟨p_a_, 0, none⟩), .int .i64 n, .int .i64 m_, .int .i64 rank]) Tryz.func98 rfl rfl rfl fun a hE => ?_
 refine Runs.sr ?_
 refine WR.seg hE 1 [] [0, 1, 2, 3] (Lo := [(0, .pointer (some ⟨p_a_, 0, none⟩)), (1, .int .i64 n), (2, .int .i64 m_), (3, .int .i64 rank)]) (obs := []) rfl (by kernel_rfl) trivial fun a hE => ?_
 refine WR.done rfl ?_
 refine Runs.seq ?_
 refine Runs.sr ?_
 refine WR.d0 hE 3 [(9, .pointer (some ⟨p_a_, 0, none⟩)), (10, .int .i64 m_), (11, .int .i64 n)] fun a hE => ?_
 obtain ⟨t_, et_, hm⟩ := bind_some hm
 refine WR.eff hE rfl rfl rfl rfl (OpTo.fn hE rfl rfl Tryz.call108 (node_Before_ok et_ H)) ?_
 rintro _ w ⟨rfl, H⟩ a hE
 refine WR.done rfl ?_
 obtain ⟨s, es, hm⟩ := bind_some hm
 refine Runs.join (fun a w => EnvOk 25 a [(0, .pointer (some ⟨p_a_, 0, none⟩)), (1, .int .i64 s.1), (2, .int .i64 s.2), (3, .int .i64 rank)] ∧ St w0 (arena_Arena.R p_a_ al_a_ t_.2 :: As) w) (fun hk => ?_) ?_
 ·replace hm := es; clear es
  refine Runs.cond hE rfl (fun c => ?_) (fun c => ?_)
  ·replace hm := cond_t c hm
   refine Runs.region ?_
   refine WR.e0 hE [(1, .int .i64 m_), (2, .int .i64 n)] fun a hE => ?_
   cases hm
   exact hk _ _ ⟨hE.sel [0, 1, 2, 3] (by kernel_rfl), H⟩
  ·replace hm := cond_f c hm
   refine Runs.skip ?_
   cases hm
   exact hk _ _ ⟨hE.sel [0, 1, 2, 3] (by kernel_rfl), H⟩
 rintro a w ⟨hE, H⟩
 refine Runs.sr ?_
 refine WR.seg hE 3 [] [0, 1, 3, 15, 16, 17] (Lo := [(0, .pointer (some ⟨p_a_, 0, none⟩)), (1, .int .i64 s.1), (3, .int .i64 rank), (15, .pointer (some ⟨p_a_, 0, none⟩)), (16, .int .i64 s.2), (17, .int .i64 s.1)]) (obs := []) rfl (by kernel_rfl) trivial fun a hE => ?_
 obtain ⟨t_1, et_1, hm⟩ := bind_some hm
 refine WR.eff hE rfl rfl rfl rfl (OpTo.fn hE rfl rfl Tryz.call116 (trees_Under_ok et_1 H)) ?_
 rintro _ w ⟨rfl, H⟩ a hE
 refine WR.done rfl ?_
 refine Runs.sr ?_
 refine WR.d0 hE 4 [(19, .pointer (some ⟨p_a_, 0, none⟩)), (20, .int .i64 s.1), (22, .int .i64 (w64 (rank + 1)))] fun a hE => ?_
 obtain ⟨t_2, et_2, hm⟩ := bind_some hm
 refine WR.eff hE rfl rfl rfl rfl (OpTo.fn hE rfl rfl Tryz.call57 (arena_Arena_Set_ok et_2 H)) ?_
 rintro _ w ⟨rfl, hf, H⟩ a hE
 refine WR.done rfl ?_
 refine Runs.sr ?_
 refine WR.e0 hE [(8, .int .i64 s.1)] fun a hE => ?_
 refine Runs.ret hE Tryz.func98 rfl rfl ?_
 cases hm
 exact ⟨rfl, H⟩

theorem slices_Insert_trees_ranked_ok {w0 w : World} {As : List HP} {sb_s : Option Addr} {sc_s : Nat} {s : List trees_ranked} {i : Int} {sb_v : Option Addr} {sc_v : Nat} {v : List trees_ranked} {t : List trees_ranked} (hm : lInsert s i v = some t) (H : St w0 (Sl 115 trees_ranked.enc 2 sb_s sc_s s :: Sl 115 trees_ranked.enc 2 sb_v sc_v v :: As) w) :
    CallsR Tryz.prog 99 #[.slice sb_s s.length sc_s, .int .i64 i, .slice sb_v v.length sc_v] w fun u w' => ∃ (sb0 : Option Addr) (sc0 : Nat), u = .slice sb0 t.length sc0 ∧ St w0 (Sl 115 trees_ranked.enc 2 sb0 sc0 t :: As) w' := by
  unfold lInsert at hm
  split at hm
  · rename_i hI
    cases hm
    obtain ⟨h0, h1, hmx⟩ := hI
    obtain ⟨q, rfl⟩ := Int.eq_ofNat_of_zero_le h0
    have hq : q ≤ s.length := by omega
    have he := trees_ranked.enc_ok
    have hcs := (H.slCap 0 rfl)
    have hcv := (H.slCap 1 rfl)
    refine enter (args := [.slice sb_s s.length sc_s, .int .i64 (q : Int), .slice sb_v v.length sc_v]) Tryz.func99 rfl rfl rfl fun a hE => ?_
    refine Runs.seq ?_
    refine Runs.region ?_
    refine WR.seg hE 1 [] [0, 1, 2] (Lo := [(0, .slice sb_s s.length sc_s), (1, .int .i64 (q : Int)), (2, .slice sb_v v.length sc_v)]) (obs := []) rfl (by kernel_rfl) trivial fun a hE => ?_
    refine WR.done rfl ?_
    refine Runs.seq ?_
    refine Runs.region ?_
    refine WR.seg hE 3 [.slice (rebase sb_s sc_s q 2) (s.length - q) (sc_s - q)] [0, 1, 2] (Lo := [(0, .slice sb_s s.length sc_s), (1, .int .i64 (q : Int)), (2, .slice sb_v v.length sc_v)])
      (obs := [.p (rebase sb_s sc_s q 2 = rebase sb_s sc_s q 2), .p (s.length - q = s.length - q), .p (sc_s - q = sc_s - q), .p (0 ≤ (q : Int) ∧ (q : Int) ≤ (s.length : Int))]) rfl (by kernel_rfl) ⟨rfl, rfl, rfl, ⟨h0, h1⟩, trivial⟩ fun a hE => ?_
    refine WR.done rfl ?_
    refine Runs.seq ?_
    refine Runs.region ?_
    refine WR.seg hE 3 [] [0, 1, 2, 7] (Lo := [(0, .slice sb_s s.length sc_s), (1, .int .i64 (q : Int)), (2, .slice sb_v v.length sc_v), (7, .int .i64 (v.length : Int))]) (obs := []) rfl (by kernel_rfl) trivial fun a hE => ?_
    refine WR.done rfl ?_
    refine Runs.seq ?_
    refine Runs.seq ?_
    refine Runs.region ?_
    refine WR.seg hE 2 [] [0, 1, 2, 7, 16] (Lo := [(0, .slice sb_s s.length sc_s), (1, .int .i64 (q : Int)), (2, .slice sb_v v.length sc_v), (7, .int .i64 (v.length : Int)), (16, .bool ((v.length : Int) == 0))]) (obs := []) rfl (by kernel_rfl) trivial fun a hE => ?_
    refine WR.done rfl ?_
    refine Runs.cond hE rfl (fun c => ?_) (fun c => ?_)
    · have hv : v = [] := List.eq_nil_of_length_eq_zero (by simpa using c)
      refine Runs.seq ?_
      refine Runs.region ?_
      refine WR.seg hE 2 [] [6] (Lo := [(6, .slice sb_s s.length sc_s)]) (obs := []) rfl (by kernel_rfl) trivial fun a hE => ?_
      refine WR.done rfl ?_
      refine Runs.ret hE Tryz.func99 rfl rfl ?_
      subst hv
      have e : s.take q ++ ([] ++ s.drop q) = s := by simp
      simp only [Int.toNat_natCast]
      rw [e]
      exact ⟨_, _, rfl, H.x1⟩
    · have hvp : 0 < v.length := by have := c; simp at this; exact List.length_pos_iff.2 this
      refine Runs.skip ?_
      refine Runs.seq ?_
      refine Runs.region ?_
      refine WR.seg hE 3 [] [0, 1, 2, 7, 8] (Lo := [(0, .slice sb_s s.length sc_s), (1, .int .i64 (q : Int)), (2, .slice sb_v v.length sc_v), (7, .int .i64 (v.length : Int)), (8, .int .i64 (s.length : Int))]) (obs := []) rfl (by kernel_rfl) trivial fun a hE => ?_
      refine WR.done rfl ?_
      refine Runs.seq ?_
      refine Runs.seq ?_
      refine Runs.region ?_
      refine WR.seg hE 3 [] [0, 1, 2, 7, 8, 22] (Lo := [(0, .slice sb_s s.length sc_s), (1, .int .i64 (q : Int)), (2, .slice sb_v v.length sc_v), (7, .int .i64 (v.length : Int)), (8, .int .i64 (s.length : Int)), (22, .bool ((q : Int) == (s.length : Int)))]) (obs := []) rfl (by kernel_rfl) trivial fun a hE => ?_
      refine WR.done rfl ?_
      refine Runs.cond hE rfl (fun c2 => ?_) (fun c2 => ?_)
      · have hqn : q = s.length := by have := c2; simp at this; omega
        refine Runs.seq ?_
        refine Runs.region ?_
        refine WR.seg hE 2 [] [23, 24] (Lo := [(23, .slice sb_s s.length sc_s), (24, .slice sb_v v.length sc_v)]) (obs := []) rfl (by kernel_rfl) trivial fun a hE => ?_
        have happ : mApp s v = some (s ++ v) := by unfold mApp; rw [if_pos hmx]
        refine WR.eff hE rfl rfl rfl rfl (OpTo.appendM happ hE H he rfl rfl rfl rfl rfl rfl rfl rfl rfl rfl (SlRd.all (sl_rd 115 trees_ranked.enc 2 sb_v sc_v v) he H 1 rfl) rfl) ?_
        rintro _ w ⟨sb, sc, rfl, H⟩ a hE
        refine WR.seg hE 4 [] [6] (Lo := [(6, .slice sb (s ++ v).length sc)]) (obs := []) rfl (by kernel_rfl) trivial fun a hE => ?_
        refine WR.done rfl ?_
        refine Runs.ret hE Tryz.func99 rfl rfl ?_
        subst hqn
        have e : s.take s.length ++ (v ++ s.drop s.length) = s ++ v := by simp
        simp only [Int.toNat_natCast]
        rw [e]
        exact ⟨_, _, rfl, H.x1⟩
      · have hqn : q < s.length := by have := c2; simp at this; omega
        have hw1 : w64 ((s.length : Int) + (v.length : Int)) = ((s.length + v.length : Nat) : Int) := by unfold w64; rw [i64_small (by omega) (by omega)]; omega
        have hw2 : w64 ((q : Int) + (v.length : Int)) = ((q + v.length : Nat) : Int) := by unfold w64; rw [i64_small (by omega) (by omega)]; omega
        have hw3 : w64 (((s.length + v.length : Nat) : Int) - (q : Int)) = ((s.length + v.length - q : Nat) : Int) := by unfold w64; rw [i64_small (by omega) (by omega)]; omega
        have hfs := flat_length he s
        have hfv := flat_length he v
        have hft := flat_length he (s.take q)
        have hfd := flat_length he (s.drop q)
        have hsp : s.flatMap trees_ranked.enc = (s.take q).flatMap trees_ranked.enc ++ (s.drop q).flatMap trees_ranked.enc := by rw [← List.flatMap_append, List.take_append_drop]
        simp only [List.length_take, List.length_drop] at hft hfd
        rw [Nat.min_eq_left hq] at hft
        refine Runs.skip ?_
        refine Runs.seq ?_
        refine Runs.seq ?_
        refine Runs.region ?_
        refine WR.seg hE 6 [] [0, 1, 2, 7, 8, 31] (Lo := [(0, .slice sb_s s.length sc_s), (1, .int .i64 (q : Int)), (2, .slice sb_v v.length sc_v), (7, .int .i64 (v.length : Int)), (8, .int .i64 (s.length : Int)), (31, .bool (decide (w64 ((s.length : Int) + (v.length : Int)) > (sc_s : Int))))]) (obs := []) rfl (by kernel_rfl) trivial fun a hE => ?_
        refine WR.done rfl ?_
        refine Runs.cond hE rfl (fun c3 => ?_) (fun c3 => ?_)
        · have hgr : sc_s < s.length + v.length := by have := c3; rw [hw1] at this; simp only [decide_eq_true_eq] at this; omega
          refine Runs.seq ?_
          refine Runs.region ?_
          refine WR.seg hE 8 [.slice (rebase sb_s sc_s 0 2) q sc_s] [0, 1, 2, 7, 34, 39] (Lo := [(0, .slice sb_s s.length sc_s), (1, .int .i64 (q : Int)), (2, .slice sb_v v.length sc_v), (7, .int .i64 (v.length : Int)), (34, .slice (rebase sb_s sc_s 0 2) q sc_s), (39, .int .i64 (w64 (w64 ((s.length : Int) + (v.length : Int)) - (q : Int))))])
            (obs := [.p (rebase sb_s sc_s 0 2 = rebase sb_s sc_s 0 2), .p (q - 0 = q), .p (sc_s - 0 = sc_s), .p (0 ≤ (q : Int) ∧ (q : Int) ≤ (sc_s : Int))]) rfl (by kernel_rfl) ⟨rfl, rfl, rfl, ⟨h0, by omega⟩, trivial⟩ fun a hE => ?_
          rw [hw1, hw3] at hE
          have hrb : rebase sb_s sc_s 0 2 = sb_s := by
            unfold rebase
            split
            · rfl
            · cases sb_s <;> simp [Addr.add]
          rw [hrb] at hE
          have hrd0 : Rd w sb_s ((s.take q).flatMap trees_ranked.enc) := by
            rcases SlRd.all (sl_rd 115 trees_ranked.enc 2 sb_s sc_s s) he H 0 rfl with h | ⟨xa, h1, h2⟩
            · exfalso
              have h0' : s.length * 2 = 0 := by rw [← hfs, h]; rfl
              omega
            · exact .inr ⟨xa, h1, fun j u hj => h2 j u (by rw [hsp]; exact List.getElem?_append_left (List.getElem?_eq_some_iff.1 hj).1 ▸ hj)⟩
          refine WR.eff hE rfl rfl rfl rfl (OpTo.appendZ (sz := 2) ((s.take q).flatMap trees_ranked.enc) hE H rfl rfl rfl rfl rfl rfl rfl rfl rfl (by decide) hrd0 (by rw [hft]) (by omega) (by omega) (by omega) rfl) ?_
          rintro _ w ⟨r, cc, Z, rfl, hc1, hc2, hZ, H⟩ a hE
          have hlen : q + (s.length + v.length - q) = s.length + v.length := by omega
          rw [hlen] at hE hc1
          refine WR.seg hE 10 [] [0, 1, 2, 7, 9] (Lo := [(0, .slice sb_s s.length sc_s), (1, .int .i64 (q : Int)), (2, .slice sb_v v.length sc_v), (7, .int .i64 (v.length : Int)), (9, .slice (some ⟨r, 0, none⟩) (s.length + v.length) cc)]) (obs := []) rfl (by kernel_rfl) trivial fun a hE => ?_
          refine WR.done rfl ?_
          obtain ⟨Z1, Z2, Z3, hZe, hZ1, hZ2⟩ : ∃ Z1 Z2 Z3 : List Value, Z = Z1 ++ (Z2 ++ Z3) ∧ Z1.length = v.length * 2 ∧ Z2.length = (s.length - q) * 2 := by
            refine ⟨Z.take (v.length * 2), (Z.drop (v.length * 2)).take ((s.length - q) * 2), (Z.drop (v.length * 2)).drop ((s.length - q) * 2), by rw [List.take_append_drop, List.take_append_drop], ?_, ?_⟩ <;> simp only [List.length_take, List.length_drop, hZ] <;> omega
          subst hZe
          -- copy(s2[i:], v)
          refine Runs.seq ?_
          refine Runs.region ?_
          refine WR.seg hE 4 [.slice (some ⟨r, 0 + q * 2, none⟩) (s.length + v.length - q) (cc - q)] [0, 1, 2, 7, 9, 43, 44] (Lo := [(0, .slice sb_s s.length sc_s), (1, .int .i64 (q : Int)), (2, .slice sb_v v.length sc_v), (7, .int .i64 (v.length : Int)), (9, .slice (some ⟨r, 0, none⟩) (s.length + v.length) cc), (43, .slice (some ⟨r, 0 + q * 2, none⟩) (s.length + v.length - q) (cc - q)), (44, .slice sb_v v.length sc_v)])
            (obs := [.p (rebase (some ⟨r, 0, none⟩) cc q 2 = some ⟨r, 0 + q * 2, none⟩), .p (s.length + v.length - q = s.length + v.length - q), .p (cc - q = cc - q), .p (0 ≤ (q : Int) ∧ (q : Int) ≤ ((s.length + v.length : Nat) : Int))]) rfl (by kernel_rfl) ⟨(by show _ = _; unfold rebase; rw [if_neg (by omega)]; simp [addr_add]), rfl, rfl, ⟨h0, by omega⟩, trivial⟩ fun a hE => ?_
          refine WR.eff hE rfl rfl rfl rfl (OpTo.copyBlk (sz := 2) (v.flatMap trees_ranked.enc) hE H rfl rfl rfl rfl rfl rfl (SlRd.all (sl_rd 115 trees_ranked.enc 2 sb_v sc_v v) he H 2 rfl) (by rw [hfv]; congr 1; simp only [Nat.min_def]; split <;> omega) (flat_one he v) (by simp only [List.length_append, hft, hfv, hZ1]; omega)) ?_
          rintro _ w ⟨⟨kk, rfl⟩, H⟩ a hE
          rw [putAt_midN _ _ _ _ _ (by rw [hft]; omega) (by rw [hfv, hZ1])] at H
          refine WR.done rfl ?_
          replace hE := hE.sel [0, 1, 2, 7, 9] (Lo := [(0, .slice sb_s s.length sc_s), (1, .int .i64 (q : Int)), (2, .slice sb_v v.length sc_v), (7, .int .i64 (v.length : Int)), (9, .slice (some ⟨r, 0, none⟩) (s.length + v.length) cc)]) (by kernel_rfl)
          -- copy(s2[i+m:], s[i:])
          refine Runs.seq ?_
          refine Runs.drawn mixed (by kernel_rfl) ?_
          replace H := H.drew
          obtain ⟨b, off, A, R, rfl, hA, _, _, hR, H2⟩ := (H.t1).slParts he (by omega)
          have hrb2 : rebase (some ⟨b, off, none⟩ : Option Addr) sc_s q 2 = some ⟨b, off + q * 2, none⟩ := by unfold rebase; rw [if_neg (by omega)]; simp [addr_add]
          refine WQ.seg hE [0, 1, 2, 3, 4, 5, 6, 7] [.slice (some ⟨r, 0 + (q + v.length) * 2, none⟩) (s.length - q) (cc - (q + v.length)), .slice (some ⟨b, off + q * 2, none⟩) (s.length - q) (sc_s - q)] [9, 50, 53] (Lo := [(9, .slice (some ⟨r, 0, none⟩) (s.length + v.length) cc), (50, .slice (some ⟨r, 0 + (q + v.length) * 2, none⟩) (s.length - q) (cc - (q + v.length))), (53, .slice (some ⟨b, off + q * 2, none⟩) (s.length - q) (sc_s - q))])
            (obs := [.p (rebase (some ⟨r, 0, none⟩) cc (Int.toNat (w64 ((q : Int) + (v.length : Int)))) 2 = some ⟨r, 0 + (q + v.length) * 2, none⟩), .p (s.length + v.length - Int.toNat (w64 ((q : Int) + (v.length : Int))) = s.length - q), .p (cc - Int.toNat (w64 ((q : Int) + (v.length : Int))) = cc - (q + v.length)), .p (0 ≤ w64 ((q : Int) + (v.length : Int)) ∧ w64 ((q : Int) + (v.length : Int)) ≤ ((s.length + v.length : Nat) : Int)),
              .p (rebase (some ⟨b, off, none⟩) sc_s q 2 = some ⟨b, off + q * 2, none⟩), .p (s.length - q = s.length - q), .p (sc_s - q = sc_s - q), .p (0 ≤ (q : Int) ∧ (q : Int) ≤ (s.length : Int))]) (by kernel_rfl) (by kernel_rfl)
            ⟨(by show _ = _; rw [hw2, Int.toNat_natCast]; unfold rebase; rw [if_neg (by omega)]; simp [addr_add]), (by show _ - _ = _; rw [hw2, Int.toNat_natCast]; omega), (by show _ - _ = _; rw [hw2, Int.toNat_natCast]), (by show _ ∧ _; rw [hw2]; constructor <;> omega), hrb2, rfl, rfl, ⟨h0, h1⟩, trivial⟩ fun a hE => ?_
          have hrd1 : Rd { w with drawn := w.drawn + 1 } (some ⟨b, off + q * 2, none⟩) ((s.drop q).flatMap trees_ranked.enc) := rdBlk (H2) 0 rfl (off := off + q * 2) fun j u hj => by
            rw [hsp, List.append_assoc, ← List.append_assoc A, List.getElem?_append_right (by simp only [List.length_append, hA, hft]; omega)]
            simp only [List.length_append, hA, hft]
            rw [List.getElem?_append_left (by have := (List.getElem?_eq_some_iff.1 hj).1; omega)]
            rw [← hj]; congr 1; omega
          refine WQ.eff (j := 8) (obs := []) hE (by kernel_rfl) rfl rfl rfl rfl (by kernel_rfl) (OpTo.copyBlk (sz := 2) ((s.drop q).flatMap trees_ranked.enc) hE H2.t1 rfl rfl rfl rfl rfl rfl hrd1 (by rw [hfd]; congr 1; simp only [Nat.min_def]; split <;> omega) (flat_one he _) (by simp only [List.length_append, hft, hfv, hZ2, hfd, Nat.add_mul]; omega)) ?_
          rintro _ w ⟨⟨kk2, rfl⟩, H⟩
          refine ⟨trivial, fun a hE => ?_⟩
          refine WQ.done (by kernel_rfl) ?_
          rw [← List.append_assoc, putAt_midN _ _ _ _ _ (by simp only [List.length_append, hft, hfv, Nat.add_mul]; omega) (by rw [hfd, hZ2])] at H
          refine Runs.seq ?_
          refine Runs.region ?_
          refine WR.seg hE 2 [] [6] (Lo := [(6, .slice (some ⟨r, 0, none⟩) (s.length + v.length) cc)]) (obs := []) rfl (by kernel_rfl) trivial fun a hE => ?_
          refine WR.done rfl ?_
          refine Runs.ret hE Tryz.func99 rfl rfl ?_
          simp only [Int.toNat_natCast]
          have hln : (s.take q ++ (v ++ s.drop q)).length = s.length + v.length := by simp; omega
          have hfl3 : (s.take q).flatMap trees_ranked.enc ++ v.flatMap trees_ranked.enc ++ ((s.drop q).flatMap trees_ranked.enc ++ Z3) = [] ++ ((s.take q ++ (v ++ s.drop q)).flatMap trees_ranked.enc ++ Z3) := by simp [List.append_assoc]
          rw [hfl3] at H
          have hZ3 : (cc - (s.take q ++ (v ++ s.drop q)).length) * 2 ≤ Z3.length := by
            simp only [List.length_append, hZ1, hZ2] at hZ
            rw [hln]; omega
          have H3 := St.slBack H he (sc := cc) (by rw [hln]; exact hc1) hc2 hZ3
          exact ⟨some ⟨r, 0, none⟩, cc, by rw [hln]; rfl, H3.x1.x1⟩
        · have hroom : s.length + v.length ≤ sc_s := by have := c3; rw [hw1] at this; simp only [decide_eq_false_iff_not] at this; omega
          obtain ⟨b, off, A, R, rfl, hA, _, hmxl, hR, H1⟩ := H.slParts he (by omega)
          obtain ⟨R1, R2, hRe, hR1⟩ : ∃ R1 R2 : List Value, R = R1 ++ R2 ∧ R1.length = v.length * 2 := by
            have : v.length * 2 ≤ (sc_s - s.length) * 2 := Nat.mul_le_mul_right _ (by omega)
            exact ⟨R.take (v.length * 2), R.drop (v.length * 2), by rw [List.take_append_drop], by simp only [List.length_take]; omega⟩
          subst hRe
          have hrbq : ∀ k : Nat, k < sc_s → rebase (some ⟨b, off, none⟩ : Option Addr) sc_s k 2 = some ⟨b, off + k * 2, none⟩ := fun k hk => by unfold rebase; rw [if_neg (by omega)]; simp [addr_add]
          have hrb0 : rebase (some ⟨b, off, none⟩ : Option Addr) sc_s 0 2 = some ⟨b, off, none⟩ := by rw [hrbq 0 (by omega)]; simp
          refine Runs.skip ?_
          refine Runs.seq ?_
          refine Runs.region ?_
          refine WR.seg hE 6 [.slice (some ⟨b, off, none⟩) (s.length + v.length) sc_s] [0, 1, 2, 7] (Lo := [(0, .slice (some ⟨b, off, none⟩) (s.length + v.length) sc_s), (1, .int .i64 (q : Int)), (2, .slice sb_v v.length sc_v), (7, .int .i64 (v.length : Int))])
            (obs := [.p (rebase (some ⟨b, off, none⟩) sc_s 0 2 = some ⟨b, off, none⟩), .p (Int.toNat (w64 ((s.length : Int) + (v.length : Int))) - 0 = s.length + v.length), .p (sc_s - 0 = sc_s), .p (0 ≤ w64 ((s.length : Int) + (v.length : Int)) ∧ w64 ((s.length : Int) + (v.length : Int)) ≤ (sc_s : Int))]) rfl (by kernel_rfl)
            ⟨hrb0, (by show _ - 0 = _; rw [hw1, Int.toNat_natCast]; rfl), rfl, (by show _ ∧ _; rw [hw1]; constructor <;> omega), trivial⟩ fun a hE => ?_
          refine WR.done rfl ?_
          -- overlaps?
          obtain ⟨vb, vo, Av, Rv, rfl, hAv, _, _, hRv, Hv⟩ := (H1.t1).slParts he hvp
          have hne : vb ≠ b := by
            obtain ⟨g1, g2, gd, s1, s2, hB1, g3, g4, gd2, s3, s4, hB2, _⟩ := Hv.heap
            intro h
            subst h
            rcases gd vb with e | e
            · have : g1 vb = _ := hB1
              rw [this] at e; cases e
            · have : g3 vb = _ := hB2
              have := s3 _ _ this
              rw [e] at this; cases this
          refine Runs.seq ?_
          refine Runs.seq ?_
          refine Runs.region ?_
          refine WR.seg hE 6 [.slice (rebase (some ⟨b, off, none⟩) sc_s (q + v.length) 2) (s.length - q) (sc_s - (q + v.length))] [0, 1, 2, 7, 61, 66] (Lo := [(0, .slice (some ⟨b, off, none⟩) (s.length + v.length) sc_s), (1, .int .i64 (q : Int)), (2, .slice (some ⟨vb, vo, none⟩) v.length sc_v), (7, .int .i64 (v.length : Int)), (61, .slice (some ⟨vb, vo, none⟩) v.length sc_v), (66, .slice (rebase (some ⟨b, off, none⟩) sc_s (q + v.length) 2) (s.length - q) (sc_s - (q + v.length)))])
            (obs := [.p (rebase (some ⟨b, off, none⟩) sc_s (Int.toNat (w64 ((q : Int) + (v.length : Int)))) 2 = rebase (some ⟨b, off, none⟩) sc_s (q + v.length) 2), .p (s.length + v.length - Int.toNat (w64 ((q : Int) + (v.length : Int))) = s.length - q), .p (sc_s - Int.toNat (w64 ((q : Int) + (v.length : Int))) = sc_s - (q + v.length)), .p (0 ≤ w64 ((q : Int) + (v.length : Int)) ∧ w64 ((q : Int) + (v.length : Int)) ≤ ((s.length + v.length : Nat) : Int))]) rfl (by kernel_rfl)
            ⟨(by show _ = _; rw [hw2, Int.toNat_natCast]), (by show _ - _ = _; rw [hw2, Int.toNat_natCast]; omega), (by show _ - _ = _; rw [hw2, Int.toNat_natCast]), (by show _ ∧ _; rw [hw2]; constructor <;> omega), trivial⟩ fun a hE => ?_
          rw [hrbq (q + v.length) (by omega)] at hE
          refine WR.eff hE rfl rfl rfl rfl (OpTo.overlapsNo (tS := 113) (tR := 4) (e := 115) hE Hv 0 1 rfl rfl hne (by simp only [List.size_toArray, List.length_append, hfs]; omega) rfl rfl (fn := Tryz.f123) (by kernel_rfl) (by kernel_rfl) (by kernel_rfl) (by kernel_rfl) (by kernel_rfl) rfl rfl) ?_
          rintro _ w ⟨rfl, ew⟩ a hE
          subst ew
          refine WR.seg hE 8 [] [0, 1, 2, 7, 68] (Lo := [(0, .slice (some ⟨b, off, none⟩) (s.length + v.length) sc_s), (1, .int .i64 (q : Int)), (2, .slice (some ⟨vb, vo, none⟩) v.length sc_v), (7, .int .i64 (v.length : Int)), (68, .bool true)]) (obs := []) rfl (by kernel_rfl) trivial fun a hE => ?_
          refine WR.done rfl ?_
          refine Runs.condT hE rfl ?_
          -- copy(s[i+m:], s[i:])
          refine Runs.seq ?_
          refine Runs.drawn mixed (by kernel_rfl) ?_
          replace Hv := Hv.drew
          refine WQ.seg hE [0, 1, 2, 3, 4, 5, 6, 7] [.slice (some ⟨b, off + (q + v.length) * 2, none⟩) (s.length - q) (sc_s - (q + v.length)), .slice (some ⟨b, off + q * 2, none⟩) (s.length + v.length - q) (sc_s - q)] [0, 1, 2, 73, 76] (Lo := [(0, .slice (some ⟨b, off, none⟩) (s.length + v.length) sc_s), (1, .int .i64 (q : Int)), (2, .slice (some ⟨vb, vo, none⟩) v.length sc_v), (73, .slice (some ⟨b, off + (q + v.length) * 2, none⟩) (s.length - q) (sc_s - (q + v.length))), (76, .slice (some ⟨b, off + q * 2, none⟩) (s.length + v.length - q) (sc_s - q))])
            (obs := [.p (rebase (some ⟨b, off, none⟩) sc_s (Int.toNat (w64 ((q : Int) + (v.length : Int)))) 2 = some ⟨b, off + (q + v.length) * 2, none⟩), .p (s.length + v.length - Int.toNat (w64 ((q : Int) + (v.length : Int))) = s.length - q), .p (sc_s - Int.toNat (w64 ((q : Int) + (v.length : Int))) = sc_s - (q + v.length)), .p (0 ≤ w64 ((q : Int) + (v.length : Int)) ∧ w64 ((q : Int) + (v.length : Int)) ≤ ((s.length + v.length : Nat) : Int)),
              .p (rebase (some ⟨b, off, none⟩) sc_s q 2 = some ⟨b, off + q * 2, none⟩), .p (s.length + v.length - q = s.length + v.length - q), .p (sc_s - q = sc_s - q), .p (0 ≤ (q : Int) ∧ (q : Int) ≤ ((s.length + v.length : Nat) : Int))]) (by kernel_rfl) (by kernel_rfl)
            ⟨(by show _ = _; rw [hw2, Int.toNat_natCast]; exact hrbq _ (by omega)), (by show _ - _ = _; rw [hw2, Int.toNat_natCast]; omega), (by show _ - _ = _; rw [hw2, Int.toNat_natCast]), (by show _ ∧ _; rw [hw2]; constructor <;> omega), hrbq q (by omega), rfl, rfl, ⟨h0, by omega⟩, trivial⟩ fun a hE => ?_
          have hrd1 : Rd { w with drawn := w.drawn + 1 } (some ⟨b, off + q * 2, none⟩) ((s.drop q).flatMap trees_ranked.enc) := rdBlk Hv 1 rfl (off := off + q * 2) fun j u hj => by
            rw [hsp, List.append_assoc, ← List.append_assoc A, List.getElem?_append_right (by simp only [List.length_append, hA, hft]; omega)]
            simp only [List.length_append, hA, hft]
            rw [List.getElem?_append_left (by have := (List.getElem?_eq_some_iff.1 hj).1; omega)]
            rw [← hj]; congr 1; omega
          refine WQ.eff (j := 8) (obs := []) hE (by kernel_rfl) rfl rfl rfl rfl (by kernel_rfl) (OpTo.copyBlk (sz := 2) ((s.drop q).flatMap trees_ranked.enc) hE Hv.t1 rfl rfl rfl rfl rfl rfl hrd1 (by rw [hfd]; congr 1; simp only [Nat.min_def]; split <;> omega) (flat_one he _) (by simp only [List.length_append, hA, hfs, hR1, hfd, Nat.add_mul]; rw [Nat.sub_mul]; have : q * 2 ≤ s.length * 2 := Nat.mul_le_mul_right _ hq; omega)) ?_
          rintro _ w ⟨⟨kk2, rfl⟩, H⟩
          refine ⟨trivial, fun a hE => ?_⟩
          refine WQ.done (by kernel_rfl) ?_
          obtain ⟨X1, X2, hX, hX1, hX2⟩ : ∃ X1 X2 : List Value, (s.drop q).flatMap trees_ranked.enc ++ R1 = X1 ++ X2 ∧ X1.length = v.length * 2 ∧ X2.length = (s.length - q) * 2 := by
            refine ⟨((s.drop q).flatMap trees_ranked.enc ++ R1).take (v.length * 2), ((s.drop q).flatMap trees_ranked.enc ++ R1).drop (v.length * 2), by rw [List.take_append_drop], ?_, ?_⟩ <;> simp only [List.length_take, List.length_drop, List.length_append, hfd, hR1] <;> omega
          have hall : A ++ (s.flatMap trees_ranked.enc ++ (R1 ++ R2)) = (A ++ ((s.take q).flatMap trees_ranked.enc ++ X1)) ++ (X2 ++ R2) := by
            rw [hsp]
            calc A ++ (((s.take q).flatMap trees_ranked.enc ++ (s.drop q).flatMap trees_ranked.enc) ++ (R1 ++ R2)) = A ++ ((s.take q).flatMap trees_ranked.enc ++ (((s.drop q).flatMap trees_ranked.enc ++ R1) ++ R2)) := by simp [List.append_assoc]
              _ = _ := by rw [hX]; simp [List.append_assoc]
          rw [hall, putAt_midN _ _ _ _ _ (by simp only [List.length_append, hA, hft, hX1, Nat.add_mul, Nat.add_assoc]) (by rw [hfd, hX2])] at H
          have hall2 : (A ++ ((s.take q).flatMap trees_ranked.enc ++ X1)) ++ ((s.drop q).flatMap trees_ranked.enc ++ R2) = (A ++ (s.take q).flatMap trees_ranked.enc) ++ (X1 ++ ((s.drop q).flatMap trees_ranked.enc ++ R2)) := by simp [List.append_assoc]
          rw [hall2] at H
          -- copy(s[i:], v)
          refine Runs.seq ?_
          refine Runs.region ?_
          refine WR.seg hE 4 [.slice (some ⟨b, off + q * 2, none⟩) (s.length + v.length - q) (sc_s - q)] [0, 80, 81] (Lo := [(0, .slice (some ⟨b, off, none⟩) (s.length + v.length) sc_s), (80, .slice (some ⟨b, off + q * 2, none⟩) (s.length + v.length - q) (sc_s - q)), (81, .slice (some ⟨vb, vo, none⟩) v.length sc_v)])
            (obs := [.p (rebase (some ⟨b, off, none⟩) sc_s q 2 = some ⟨b, off + q * 2, none⟩), .p (s.length + v.length - q = s.length + v.length - q), .p (sc_s - q = sc_s - q), .p (0 ≤ (q : Int) ∧ (q : Int) ≤ ((s.length + v.length : Nat) : Int))]) rfl (by kernel_rfl) ⟨hrbq q (by omega), rfl, rfl, ⟨h0, by omega⟩, trivial⟩ fun a hE => ?_
          have hrd2 : Rd w (some ⟨vb, vo, none⟩) (v.flatMap trees_ranked.enc) := rdBlk H 1 rfl fun j u hj => by
            rw [List.getElem?_append_right (by omega), hAv, Nat.add_sub_cancel_left, List.getElem?_append_left (List.getElem?_eq_some_iff.1 hj).1]
            exact hj
          refine WR.eff hE rfl rfl rfl rfl (OpTo.copyBlk (sz := 2) (v.flatMap trees_ranked.enc) hE H rfl rfl rfl rfl rfl rfl hrd2 (by rw [hfv]; congr 1; simp only [Nat.min_def]; split <;> omega) (flat_one he v) (by simp only [List.length_append, hA, hft, hX1, hfv]; omega)) ?_
          rintro _ w ⟨⟨kk3, rfl⟩, H⟩ a hE
          rw [putAt_midN _ _ _ _ _ (by simp only [List.length_append, hA, hft]) (by rw [hfv, hX1])] at H
          refine WR.done rfl ?_
          refine Runs.seq ?_
          refine Runs.region ?_
          refine WR.seg hE 2 [] [6] (Lo := [(6, .slice (some ⟨b, off, none⟩) (s.length + v.length) sc_s)]) (obs := []) rfl (by kernel_rfl) trivial fun a hE => ?_
          refine WR.done rfl ?_
          refine Runs.ret hE Tryz.func99 rfl rfl ?_
          simp only [Int.toNat_natCast]
          have hln : (s.take q ++ (v ++ s.drop q)).length = s.length + v.length := by simp; omega
          have hfl3 : (A ++ (s.take q).flatMap trees_ranked.enc) ++ (v.flatMap trees_ranked.enc ++ ((s.drop q).flatMap trees_ranked.enc ++ R2)) = A ++ ((s.take q ++ (v ++ s.drop q)).flatMap trees_ranked.enc ++ R2) := by simp [List.append_assoc]
          rw [hfl3] at H
          have hR2 : (sc_s - (s.take q ++ (v ++ s.drop q)).length) * 2 ≤ R2.length := by
            simp only [List.length_append, hR1] at hR
            rw [hln]; omega
          have H3 := St.slBack H he (sc := sc_s) (by rw [hln]; exact hroom) hmxl hR2
          rw [hA] at H3
          exact ⟨some ⟨b, off, none⟩, sc_s, by rw [hln]; rfl, H3.x1⟩
  · cases hm

theorem trees_Row_ok {w0 w : World} {As : List HP} {k : Nat} {p_a_ : Nat} {al_a_ : arena_Arena.A} {a_ : arena_Arena} {sb_l : Option Addr} {sc_l : Nat} {l : List Int} {X_l : HP} {t : Int × arena_Arena} (hX_l : SlRd X_l ecI 1 sb_l l) (hC_l : l.length ≤ sc_l) (hm : trees_Row k a_ l = some t) (H : St w0 (arena_Arena.R p_a_ al_a_ a_ :: X_l :: As) w) :
    CallsR Tryz.prog 100 #[.pointer (some ⟨p_a_, 0, none⟩), .slice sb_l l.length sc_l] w fun v w' => v = .int .i64 t.1 ∧ St w0 (arena_Arena.R p_a_ al_a_ t.2 :: X_l :: As) w' := by
 rw [trees_Row] at hm
 refine enter (args := [.pointer (some ⟨p_a_, 0, none⟩), .slice sb_l l.length sc_l]) Tryz.func100 rfl rfl rfl fun a hE => ?_
 refine Runs.sr ?_
 refine WR.seg hE 1 [] [0, 1] (Lo := [(0, .pointer (some ⟨p_a_, 0, none⟩)), (1, .slice sb_l l.length sc_l)]) (obs := []) rfl (by kernel_rfl) trivial fun a hE => ?_
 refine WR.done rfl ?_
 refine Runs.sr ?_
 refine WR.e0 hE [(5, .int .i64 (-1))] fun a hE => ?_
 refine Runs.seq ?_
 refine Runs.sr ?_
 refine WR.e0 hE [(6, .int .i64 (w64 ((l.length : Int) - 1)))] fun a hE => ?_
 obtain ⟨s, es, hm⟩ := bind_some hm
 refine Runs.join (fun a w => EnvOk 32 a [(5, .int .i64 s.1)] ∧ St w0 (arena_Arena.R p_a_ al_a_ s.2 :: X_l :: As) w) (fun hk => ?_) ?_
 ·replace hm := es; clear es
  refine Runs.block ?_
  refine Runs.loop (fun m a w => ∃ (next : Int), ∃ (k_ : Int), ∃ (m_ : arena_Arena), EnvOk 32 a [(0, .pointer (some ⟨p_a_, 0, none⟩)), (1, .slice sb_l l.length sc_l), (5, .int .i64 next), (6, .int .i64 k_)] ∧ St w0 (arena_Arena.R p_a_ al_a_ m_ :: X_l :: As) w ∧ trees_Row_l0 l m next k_ m_ = some s) k ⟨(-1), w64 ((l.length : Int) - 1), a_, hE.sel [0, 1, 5, 6] (by kernel_rfl), H.t1.t1, hm⟩ ?_
  rintro m ih a w ⟨next, k_, m_, hE, H, hm⟩
  cases m with
  | zero => simp [trees_Row_l0] at hm
  | succ m =>
   rw [trees_Row_l0] at hm
   refine Runs.seq ?_
   refine Runs.sr ?_
   refine WR.seg hE 2 [] [0, 1, 5, 6, 11] (Lo := [(0, .pointer (some ⟨p_a_, 0, none⟩)), (1, .slice sb_l l.length sc_l), (5, .int .i64 next), (6, .int .i64 k_), (11, .bool (decide (k_ ≥ 0)))]) (obs := []) rfl (by kernel_rfl) trivial fun a hE => ?_
   refine WR.done rfl ?_
   refine Runs.cond hE rfl (fun c => ?_) (fun c => ?_)
   ·replace hm := cond_t c hm
    refine Runs.skip ?_
    refine Runs.seq ?_
    refine Runs.block ?_
    refine Runs.sr ?_
    obtain ⟨x, ex, hm⟩ := bind_some hm
    obtain ⟨b, o, hs, hb⟩ := SlRd.base hX_l ecI_ok H 1 rfl ex
    refine WR.d hE 6 [.pointer (some ⟨b, o, none⟩), .int .i64 x] [(14, .pointer (some ⟨p_a_, 0, none⟩)), (18, .int .i64 x), (19, .int .i64 next)] (obs := [.p ((sb_l : Option Addr) = some ⟨b, o, none⟩), .p (0 ≤ (k_ : Int) ∧ (k_ : Int) < ((l.length : Nat) : Int)), .cell ⟨b, o + (Int.toNat k_) * 1, none⟩ (.int .i64 x)]) ⟨hs, hb, SlRd.cells hX_l ecI_ok H 1 rfl hs ex 0 _ rfl, trivial⟩ fun a hE => ?_
    obtain ⟨t_, et_, hm⟩ := bind_some hm
    refine WR.eff hE rfl rfl rfl rfl (OpTo.fn hE rfl rfl Tryz.call57 (arena_Arena_Set_ok et_ H)) ?_
    rintro _ w ⟨rfl, hf, H⟩ a hE
    refine WR.done rfl ?_
    refine Runs.sr ?_
    obtain ⟨x1, ex1, hm⟩ := bind_some hm
    obtain ⟨b1, o1, hs1, hb1⟩ := SlRd.base hX_l ecI_ok H 1 rfl ex1
    refine WR.d hE 5 [.pointer (some ⟨b1, o1, none⟩), .int .i64 x1] [(21, .pointer (some ⟨p_a_, 0, none⟩)), (25, .int .i64 x1)] (obs := [.p ((sb_l : Option Addr) = some ⟨b1, o1, none⟩), .p (0 ≤ (k_ : Int) ∧ (k_ : Int) < ((l.length : Nat) : Int)), .cell ⟨b1, o1 + (Int.toNat k_) * 1, none⟩ (.int .i64 x1)]) ⟨hs1, hb1, SlRd.cells hX_l ecI_ok H 1 rfl hs1 ex1 0 _ rfl, trivial⟩ fun a hE => ?_
    obtain ⟨t_1, et_1, hm⟩ := bind_some hm
    refine WR.eff hE rfl rfl rfl rfl (OpTo.fn hE rfl rfl Tryz.call57 (arena_Arena_Set_ok et_1 H)) ?_
    rintro _ w ⟨rfl, hf1, H⟩ a hE
    refine WR.done rfl ?_
    refine Runs.region ?_
    obtain ⟨x2, ex2, hm⟩ := bind_some hm
    obtain ⟨b2, o2, hs2, hb2⟩ := SlRd.base hX_l ecI_ok H 1 rfl ex2
    refine WR.e hE [.pointer (some ⟨b2, o2, none⟩), .int .i64 x2] [(5, .int .i64 x2)] (obs := [.p ((sb_l : Option Addr) = some ⟨b2, o2, none⟩), .p (0 ≤ (k_ : Int) ∧ (k_ : Int) < ((l.length : Nat) : Int)), .cell ⟨b2, o2 + (Int.toNat k_) * 1, none⟩ (.int .i64 x2)]) ⟨hs2, hb2, SlRd.cells hX_l ecI_ok H 1 rfl hs2 ex2 0 _ rfl, trivial⟩ fun a hE => ?_
    refine Runs.inBlock ?_
    refine Runs.region ?_
    refine WR.e0 hE [(6, .int .i64 (w64 (k_ - 1)))] fun a hE => ?_
    exact ih m (Nat.lt_succ_self m) _ _ ⟨x2, w64 (k_ - 1), t_1.2, hE.sel [0, 1, 5, 6] (by kernel_rfl), H.t1.t1, hm⟩
   ·replace hm := cond_f c hm
    refine Runs.exit rfl ?_
    cases hm
    exact hk _ _ ⟨hE.sel [5] (by kernel_rfl), H.t1.t1⟩
 rintro a w ⟨hE, H⟩
 refine Runs.sr ?_
 refine WR.seg hE 2 [] [4] (Lo := [(4, .int .i64 s.1)]) (obs := []) rfl (by kernel_rfl) trivial fun a hE => ?_
 refine WR.done rfl ?_
 refine Runs.ret hE Tryz.func100 rfl rfl ?_
 cases hm
 exact ⟨rfl, H.t1.t1⟩

theorem trees_Carry_ok {w0 w : World} {As : List HP} {k : Nat} {p_a_ : Nat} {al_a_ : arena_Arena.A} {a_ : arena_Arena} {sb_l : Option Addr} {sc_l : Nat} {l : List Int} {X_l : HP} {t : Int × arena_Arena} (hX_l : SlRd X_l ecI 1 sb_l l) (hC_l : l.length ≤ sc_l) (hm : trees_Carry k a_ l = some t) (H : St w0 (arena_Arena.R p_a_ al_a_ a_ :: X_l :: As) w) :
    CallsR Tryz.prog 59 #[.pointer (some ⟨p_a_, 0, none⟩), .slice sb_l l.length sc_l] w fun v w' => v = .int .i64 t.1 ∧ St w0 (arena_Arena.R p_a_ al_a_ t.2 :: X_l :: As) w' := by
 rw [trees_Carry] at hm
 refine enter (args := [.pointer (some ⟨p_a_, 0, none⟩), .slice sb_l l.length sc_l]) Tryz.func59 rfl rfl rfl fun a hE => ?_
 refine Runs.sr ?_
 refine WR.seg hE 1 [] [0, 1] (Lo := [(0, .pointer (some ⟨p_a_, 0, none⟩)), (1, .slice sb_l l.length sc_l)]) (obs := []) rfl (by kernel_rfl) trivial fun a hE => ?_
 refine WR.done rfl ?_
 refine Runs.sr ?_
 refine WR.e0 hE [(5, .slice none 0 0)] fun a hE => ?_
 refine Runs.seq ?_
 refine Runs.sr ?_
 refine WR.e0 hE [(12, .slice sb_l l.length sc_l), (13, .int .i64 (l.length : Int)), (14, .int .i64 0)] fun a hE => ?_
 obtain ⟨s, es, hm⟩ := bind_some hm
 refine Runs.join (fun a w => ∃ (sb1 : Option Addr), ∃ (sc1 : Nat), EnvOk 94 a [(0, .pointer (some ⟨p_a_, 0, none⟩)), (5, .slice sb1 s.1.length sc1)] ∧ St w0 (Sl 115 trees_ranked.enc 2 sb1 sc1 s.1 :: arena_Arena.R p_a_ al_a_ s.2 :: X_l :: As) w) (fun hk => ?_) ?_
 ·replace hm := es; clear es
  replace H := H.slNil 115 trees_ranked.enc 2
  refine Runs.block ?_
  refine Runs.loop (fun m a w => ∃ (wait : List trees_ranked), ∃ (x : Int), ∃ (m_ : arena_Arena), ∃ (sb2 : Option Addr), ∃ (sc2 : Nat), EnvOk 94 a [(0, .pointer (some ⟨p_a_, 0, none⟩)), (5, .slice sb2 wait.length sc2), (12, .slice sb_l l.length sc_l), (13, .int .i64 (l.length : Int)), (14, .int .i64 x)] ∧ St w0 (Sl 115 trees_ranked.enc 2 sb2 sc2 wait :: arena_Arena.R p_a_ al_a_ m_ :: X_l :: As) w ∧ trees_Carry_l0 (l.length : Int) l m wait x m_ = some s) k ⟨([] : List trees_ranked), 0, a_, none, 0, hE.sel [0, 5, 12, 13, 14] (by kernel_rfl), H.t2.t2.t2, hm⟩ ?_
  rintro m ih a w ⟨wait, x, m_, sb2, sc2, hE, H, hm⟩
  cases m with
  | zero => simp [trees_Carry_l0] at hm
  | succ m =>
   rw [trees_Carry_l0] at hm
   refine Runs.sr ?_
   refine WR.seg hE 1 [] [0, 5, 12, 13, 14, 15] (Lo := [(0, .pointer (some ⟨p_a_, 0, none⟩)), (5, .slice sb2 wait.length sc2), (12, .slice sb_l l.length sc_l), (13, .int .i64 (l.length : Int)), (14, .int .i64 x), (15, .bool (decide (x < (l.length : Int))))]) (obs := []) rfl (by kernel_rfl) trivial fun a hE => ?_
   refine WR.done rfl ?_
   refine Runs.seq ?_
   refine Runs.cond hE rfl (fun c => ?_) (fun c => ?_)
   ·replace hm := cond_t c hm
    refine Runs.skip ?_
    refine Runs.seq ?_
    refine Runs.block ?_
    refine Runs.sr ?_
    obtain ⟨x2, ex2, hm⟩ := bind_some hm
    obtain ⟨b, o, hs, hb⟩ := SlRd.base hX_l ecI_ok H 2 rfl ex2
    refine WR.e hE [.pointer (some ⟨b, o, none⟩), .int .i64 x2] [(7, .int .i64 x2)] (obs := [.p ((sb_l : Option Addr) = some ⟨b, o, none⟩), .p (0 ≤ (x : Int) ∧ (x : Int) < ((l.length : Nat) : Int)), .cell ⟨b, o + (Int.toNat x) * 1, none⟩ (.int .i64 x2)]) ⟨hs, hb, SlRd.cells hX_l ecI_ok H 2 rfl hs ex2 0 _ rfl, trivial⟩ fun a hE => ?_
    refine Runs.region ?_
    refine WR.d0 hE 4 [(18, .slice sb2 wait.length sc2), (19, .int .i64 x2), (20, .pointer (some ⟨p_a_, 0, none⟩)), (21, .int .i64 x2)] fun a hE => ?_
    obtain ⟨t_, et_, hm⟩ := bind_some hm
    refine WR.eff hE rfl rfl rfl rfl (OpTo.fn hE rfl rfl Tryz.call65 (arena_Arena_Get_ok et_ H.t1)) ?_
    rintro _ w ⟨rfl, hf1, hf, H⟩ a hE
    refine WR.d0 hE 6 [(23, .agg #[.int .i64 x2, .int .i64 t_.1])] fun a hE => ?_
    refine WR.eff hE rfl rfl rfl rfl (OpTo.buildSl (T := 115) hE H trees_ranked.enc_ok ([trees_ranked.mk x2 t_.1] : List trees_ranked) rfl (fun _ => by kernel_rfl) rfl rfl rfl) ?_
    rintro _ w ⟨r, rfl, H⟩ a hE
    obtain ⟨l2, el2, hm⟩ := bind_some hm
    replace H := H.t2
    refine WR.eff hE rfl rfl rfl rfl (OpTo.appendM el2 hE H trees_ranked.enc_ok rfl rfl rfl rfl rfl rfl rfl rfl rfl rfl (SlRd.all (sl_rd 115 trees_ranked.enc 2 _ _ _) trees_ranked.enc_ok H 1 rfl) rfl) ?_
    rintro _ w ⟨sb3, sc3, rfl, H⟩ a hE
    refine WR.e0 hE [(5, .slice sb3 l2.length sc3)] fun a hE => ?_
    refine Runs.inBlock ?_
    refine Runs.region ?_
    refine WR.e0 hE [(14, .int .i64 (w64 (x + 1)))] fun a hE => ?_
    exact ih m (Nat.lt_succ_self m) _ _ ⟨l2, w64 (x + 1), t_.2, sb3, sc3, hE.sel [0, 5, 12, 13, 14] (by kernel_rfl), H.x1.t2.t2.t2, hm⟩
   ·replace hm := cond_f c hm
    refine Runs.exit rfl ?_
    cases hm
    exact hk _ _ ⟨sb2, sc2, hE.sel [0, 5] (by kernel_rfl), H.t2.t2.t2⟩
 rintro a w ⟨sb1, sc1, hE, H⟩
 refine Runs.sr ?_
 refine WR.seg hE 1 [] [0, 5, 27] (Lo := [(0, .pointer (some ⟨p_a_, 0, none⟩)), (5, .slice sb1 s.1.length sc1), (27, .slice sb1 s.1.length sc1)]) (obs := []) rfl (by kernel_rfl) trivial fun a hE => ?_
 obtain ⟨t_1, et_1, hm⟩ := bind_some hm
 refine WR.eff hE rfl rfl rfl rfl (OpTo.fn hE rfl rfl Tryz.call96 (slices_SortStableFunc_trees_ranked_g97_ok et_1 H)) ?_
 rintro _ w ⟨rfl, hl0, H⟩ a hE
 try rw [← hl0] at hE
 refine WR.done rfl ?_
 refine Runs.sr ?_
 refine WR.seg hE 1 [] [0, 5, 8] (Lo := [(0, .pointer (some ⟨p_a_, 0, none⟩)), (5, .slice sb1 t_1.length sc1), (8, .slice none 0 0)]) (obs := []) rfl (by kernel_rfl) trivial fun a hE => ?_
 refine WR.done rfl ?_
 refine Runs.seq ?_
 obtain ⟨s1, es1, hm⟩ := bind_some hm
 refine Runs.join (fun a w => ∃ (sb6 : Option Addr), ∃ (sc6 : Nat), EnvOk 94 a [(0, .pointer (some ⟨p_a_, 0, none⟩)), (8, .slice sb6 s1.1.length sc6)] ∧ St w0 (Sl 3 ecI 1 sb6 sc6 s1.1 :: arena_Arena.R p_a_ al_a_ s1.2 :: X_l :: As) w) (fun hk => ?_) ?_
 ·replace hm := es1; clear es1
  replace H := H.slNil 3 ecI 1
  refine Runs.block ?_
  refine Runs.loop (fun m a w => ∃ (wait1 : List trees_ranked), ∃ (out : List Int), ∃ (m_1 : arena_Arena), ∃ (sb7 : Option Addr), ∃ (sc7 : Nat), ∃ (sb8 : Option Addr), ∃ (sc8 : Nat), EnvOk 94 a [(0, .pointer (some ⟨p_a_, 0, none⟩)), (5, .slice sb7 wait1.length sc7), (8, .slice sb8 out.length sc8)] ∧ St w0 (Sl 115 trees_ranked.enc 2 sb7 sc7 wait1 :: Sl 3 ecI 1 sb8 sc8 out :: arena_Arena.R p_a_ al_a_ m_1 :: X_l :: As) w ∧ trees_Carry_l1 l m wait1 out m_1 = some s1) k ⟨t_1, ([] : List Int), s.2, sb1, sc1, none, 0, hE.sel [0, 5, 8] (by kernel_rfl), H.t3.t3.t2.t3, hm⟩ ?_
  rintro m ih a w ⟨wait1, out, m_1, sb7, sc7, sb8, sc8, hE, H, hm⟩
  cases m with
  | zero => simp [trees_Carry_l1] at hm
  | succ m =>
   rw [trees_Carry_l1] at hm
   refine Runs.seq ?_
   refine Runs.sr ?_
   refine WR.seg hE 3 [] [0, 5, 8, 31] (Lo := [(0, .pointer (some ⟨p_a_, 0, none⟩)), (5, .slice sb7 wait1.length sc7), (8, .slice sb8 out.length sc8), (31, .bool (decide ((wait1.length : Int) > 0)))]) (obs := []) rfl (by kernel_rfl) trivial fun a hE => ?_
   refine WR.done rfl ?_
   refine Runs.cond hE rfl (fun c => ?_) (fun c => ?_)
   ·replace hm := cond_t c hm
    refine Runs.skip ?_
    refine Runs.block ?_
    refine Runs.sr ?_
    obtain ⟨x3, ex3, hm⟩ := bind_some hm
    obtain ⟨b1, o1, hs1, hb1⟩ := SlRd.base (sl_rd 115 trees_ranked.enc 2 _ _ _) trees_ranked.enc_ok H 0 rfl ex3
    refine WR.d hE 3 [.pointer (some ⟨b1, o1, none⟩), .int .i64 x3.n, .int .i64 x3.rank] [(34, .agg #[.int .i64 x3.n, .int .i64 x3.rank])] (obs := [.p ((sb7 : Option Addr) = some ⟨b1, o1, none⟩), .p (0 ≤ (0 : Int) ∧ (0 : Int) < ((wait1.length : Nat) : Int)), .cell ⟨b1, o1 + (Int.toNat 0) * 2, none⟩ (.int .i64 x3.n), .cell ⟨b1, o1 + (Int.toNat 0) * 2 + 1, none⟩ (.int .i64 x3.rank)]) ⟨hs1, hb1, SlRd.cells (sl_rd 115 trees_ranked.enc 2 _ _ _) trees_ranked.enc_ok H 0 rfl hs1 ex3 0 _ rfl, SlRd.cells (sl_rd 115 trees_ranked.enc 2 _ _ _) trees_ranked.enc_ok H 0 rfl hs1 ex3 1 _ rfl, trivial⟩ fun a hE => ?_
    refine WR.eff hE rfl rfl rfl rfl (OpTo.new hE H [] (.cells #[.int .i64 0, .int .i64 0] 115 (0, 0)) (fun r => .pointer (some ⟨r, 0, none⟩)) (obs := []) rfl (fun _ => by kernel_rfl) trivial) ?_
    rintro _ w ⟨r1, rfl, H⟩ a hE
    refine WR.eff0 hE rfl rfl rfl (OpTo.store hE H rfl rfl rfl rfl rfl rfl (Nat.le_of_ble_eq_true rfl)) ?_
    rintro _ w H a hE
    refine WR.done rfl ?_
    refine Runs.seq ?_
    refine Runs.seq ?_
    obtain ⟨s2, es2, hm⟩ := bind_some hm
    refine Runs.join (fun a w => EnvOk 94 a [(0, .pointer (some ⟨p_a_, 0, none⟩)), (5, .slice sb7 wait1.length sc7), (8, .slice sb8 out.length sc8), (9, .pointer (some ⟨r1, 0, none⟩)), (46, .bool s2)] ∧ St w0 (Blk r1 115 [.int .i64 x3.n, .int .i64 x3.rank] :: Sl 115 trees_ranked.enc 2 sb7 sc7 wait1 :: Sl 3 ecI 1 sb8 sc8 out :: arena_Arena.R p_a_ al_a_ m_1 :: X_l :: As) w) (fun hk => ?_) ?_
    ·replace hm := es2; clear es2
     refine Runs.drawn mixed (by kernel_rfl) ?_
     replace H := H.drew
     refine WQ.d0 hE [0, 1, 2, 3] [(38, .bool ((wait1.length : Int) == 1))] fun a hE => ?_
     rcases Bool.eq_false_or_eq_true ((wait1.length : Int) == 1) with c | c
     ·replace hE := hE.dec 38 c (by kernel_rfl)
      replace hm := cond_t c hm
      have c_ := c
      refine WQ.d0 hE [4, 5, 6, 7, 8, 9, 10, 11] [(46, .bool true)] fun a hE => ?_
      refine WQ.done (by kernel_rfl) ?_
      cases hm
      exact hk _ _ ⟨hE.sel [0, 5, 8, 9, 46] (by kernel_rfl), H.t4.t4.t4.t4.t4⟩
     ·replace hE := hE.dec 38 c (by kernel_rfl)
      replace hm := cond_f c hm
      have c_1 := c
      obtain ⟨x5, ex5, hm⟩ := bind_some hm
      obtain ⟨b3, o3, hs3, hb3⟩ := SlRd.base (sl_rd 115 trees_ranked.enc 2 _ _ _) trees_ranked.enc_ok H 1 rfl ex5
      refine WQ.d hE [4, 5, 6, 7, 8, 9, 10, 11] [.pointer (some ⟨b3, o3, none⟩), .int .i64 x5.rank, .int .i64 x3.rank] [(46, .bool (x5.rank != x3.rank))] (obs := [.p ((sb7 : Option Addr) = some ⟨b3, o3, none⟩), .p (0 ≤ (1 : Int) ∧ (1 : Int) < ((wait1.length : Nat) : Int)), .cell ⟨b3, o3 + (Int.toNat 1) * 2 + 1, none⟩ (.int .i64 x5.rank), .cell ⟨r1, 1, none⟩ (.int .i64 x3.rank)]) ⟨hs3, hb3, SlRd.cells (sl_rd 115 trees_ranked.enc 2 _ _ _) trees_ranked.enc_ok H 1 rfl hs3 ex5 1 _ rfl, H.cell 0 rfl rfl, trivial⟩ fun a hE => ?_
      refine WQ.done (by kernel_rfl) ?_
      cases hm
      exact hk _ _ ⟨hE.sel [0, 5, 8, 9, 46] (by kernel_rfl), H.t4.t4.t4.t4.t4⟩
    rintro a w ⟨hE, H⟩
    refine Runs.cond hE rfl (fun c => ?_) (fun c => ?_)
    ·replace hm := cond_t c hm
     refine Runs.seq ?_
     refine Runs.drawn mixed (by kernel_rfl) ?_
     replace H := H.drew
     obtain ⟨l4, el4, hm⟩ := bind_some hm
     obtain ⟨sb9, q1⟩ : ∃ z, rebase sb7 sc7 (Int.toNat 1) 2 = z := ⟨_, rfl⟩
     obtain ⟨sc9, q2⟩ : ∃ z, sc7 - (Int.toNat 1) = z := ⟨_, rfl⟩
     refine WQ.seg hE [0, 1, 2, 5, 6] [.int .i64 x3.n, .slice sb9 l4.length sc9] [0, 5, 8, 47, 49, 53] (Lo := [(0, .pointer (some ⟨p_a_, 0, none⟩)), (5, .slice sb7 wait1.length sc7), (8, .slice sb8 out.length sc8), (47, .slice sb8 out.length sc8), (49, .int .i64 x3.n), (53, .slice sb9 l4.length sc9)]) (obs := [.cell ⟨r1, 0, none⟩ (.int .i64 x3.n), .p (rebase sb7 sc7 (Int.toNat 1) 2 = sb9), .p (wait1.length - (Int.toNat 1) = l4.length), .p (sc7 - (Int.toNat 1) = sc9), .p (0 ≤ (1 : Int) ∧ (1 : Int) ≤ ((wait1.length : Nat) : Int))]) (by kernel_rfl) (by kernel_rfl) ⟨H.cell 0 rfl rfl, q1, cut_len el4, q2, cut_bd0 el4, trivial⟩ fun a hE => ?_
     refine WQ.eff (j := 3) (obs := [.p (rebase sb7 sc7 (Int.toNat 1) 2 = sb9), .p (wait1.length - (Int.toNat 1) = l4.length), .p (sc7 - (Int.toNat 1) = sc9), .p (0 ≤ (1 : Int) ∧ (1 : Int) ≤ ((wait1.length : Nat) : Int))]) hE (by kernel_rfl) rfl rfl rfl rfl (by kernel_rfl) (OpTo.buildSl (T := 3) hE H ecI_ok ([x3.n] : List Int) rfl (fun _ => by kernel_rfl) rfl rfl rfl) ?_
     rintro _ w ⟨r2, rfl, H⟩
     refine ⟨⟨q1, cut_len el4, q2, cut_bd0 el4, trivial⟩, fun a hE => ?_⟩
     obtain ⟨l5, el5, hm⟩ := bind_some hm
     replace H := H.t3
     refine WQ.eff (j := 4) (obs := [.p (rebase sb7 sc7 (Int.toNat 1) 2 = sb9), .p (wait1.length - (Int.toNat 1) = l4.length), .p (sc7 - (Int.toNat 1) = sc9), .p (0 ≤ (1 : Int) ∧ (1 : Int) ≤ ((wait1.length : Nat) : Int))]) hE (by kernel_rfl) rfl rfl rfl rfl (by kernel_rfl) (OpTo.appendM el5 hE H ecI_ok rfl rfl rfl rfl rfl rfl rfl rfl rfl rfl (SlRd.all (sl_rd 3 ecI 1 _ _ _) ecI_ok H 1 rfl) rfl) ?_
     rintro _ w ⟨sb10, sc10, rfl, H⟩
     refine ⟨⟨q1, cut_len el4, q2, cut_bd0 el4, trivial⟩, fun a hE => ?_⟩
     refine WQ.d0 hE [7, 8] [(5, .slice sb9 l4.length sc9), (8, .slice sb10 l5.length sc10)] fun a hE => ?_
     refine WQ.done (by kernel_rfl) ?_
     refine Runs.exit rfl ?_
     replace H := H.t3.slCut' trees_ranked.enc_ok el4 q1 q2
     exact ih m (Nat.lt_succ_self m) _ _ ⟨l4, l5, m_1, sb9, sc9, sb10, sc10, hE.sel [0, 5, 8] (by kernel_rfl), H.x3.x2.t3.t3.t3.t3, hm⟩
    ·replace hm := cond_f c hm
     refine Runs.skip ?_
     refine Runs.seq ?_
     obtain ⟨x6, ex6, hm⟩ := bind_some hm
     obtain ⟨t_2, et_2, hm⟩ := bind_some hm
     refine Runs.join (fun a w => ∃ (r4 : Nat), EnvOk 94 a [(0, .pointer (some ⟨p_a_, 0, none⟩)), (5, .slice sb7 wait1.length sc7), (8, .slice sb8 out.length sc8), (10, .pointer (some ⟨r4, 0, none⟩))] ∧ St w0 (Blk r4 115 [.int .i64 ((trees_ranked.mk t_2.1 (w64 (x3.rank + 1))).n), .int .i64 ((trees_ranked.mk t_2.1 (w64 (x3.rank + 1))).rank)] :: Sl 115 trees_ranked.enc 2 sb7 sc7 wait1 :: Sl 3 ecI 1 sb8 sc8 out :: arena_Arena.R p_a_ al_a_ t_2.2 :: X_l :: As) w) (fun hk => ?_) ?_
     ·refine Runs.drawn mixed (by kernel_rfl) ?_
      replace H := H.drew
      obtain ⟨b5, o5, hs5, hb5⟩ := SlRd.base (sl_rd 115 trees_ranked.enc 2 _ _ _) trees_ranked.enc_ok H 1 rfl ex6
      refine WQ.seg hE [0, 1, 2, 3, 4, 5, 6, 7, 8, 10, 11, 12] [.int .i64 x3.n, .pointer (some ⟨b5, o5, none⟩), .int .i64 x6.n, .int .i64 x3.rank, .int .i64 x3.rank] [0, 5, 8, 54, 56, 60, 62, 66] (Lo := [(0, .pointer (some ⟨p_a_, 0, none⟩)), (5, .slice sb7 wait1.length sc7), (8, .slice sb8 out.length sc8), (54, .pointer (some ⟨p_a_, 0, none⟩)), (56, .int .i64 x3.n), (60, .int .i64 x6.n), (62, .int .i64 x3.rank), (66, .int .i64 (w64 (x3.rank + 1)))]) (obs := [.cell ⟨r1, 0, none⟩ (.int .i64 x3.n), .p ((sb7 : Option Addr) = some ⟨b5, o5, none⟩), .p (0 ≤ (1 : Int) ∧ (1 : Int) < ((wait1.length : Nat) : Int)), .cell ⟨b5, o5 + (Int.toNat 1) * 2, none⟩ (.int .i64 x6.n), .cell ⟨r1, 1, none⟩ (.int .i64 x3.rank), .cell ⟨r1, 1, none⟩ (.int .i64 x3.rank)]) (by kernel_rfl) (by kernel_rfl) ⟨H.cell 0 rfl rfl, hs5, hb5, SlRd.cells (sl_rd 115 trees_ranked.enc 2 _ _ _) trees_ranked.enc_ok H 1 rfl hs5 ex6 0 _ rfl, H.cell 0 rfl rfl, H.cell 0 rfl rfl, trivial⟩ fun a hE => ?_
      refine WQ.act2 9 14 (by kernel_rfl) ?_ ?_
      ·refine AQ.eff (j := 9) (obs := [.cell ⟨r1, 1, none⟩ (.int .i64 x3.rank)]) hE rfl rfl rfl rfl (by kernel_rfl) (OpTo.fn hE rfl rfl Tryz.call98 (trees_Link_ok et_2 H.t3)) ?_
       rintro _ w ⟨rfl, H⟩
       refine ⟨⟨H.cell 1 rfl rfl, trivial⟩, fun a hE => ?_⟩
       refine WQ.d0 hE [13] [(67, .agg #[.int .i64 t_2.1, .int .i64 (w64 (x3.rank + 1))])] fun a hE => ?_
       refine WQ.eff (j := 14) (obs := [.cell ⟨r1, 1, none⟩ (.int .i64 x3.rank)]) hE (by kernel_rfl) rfl rfl rfl rfl (by kernel_rfl) (OpTo.new hE H [] (.cells #[.int .i64 0, .int .i64 0] 115 (0, 0)) (fun r => .pointer (some ⟨r, 0, none⟩)) (obs := []) rfl (fun _ => by kernel_rfl) trivial) ?_
       rintro _ w ⟨r5, rfl, H⟩
       refine ⟨⟨H.cell 2 rfl rfl, trivial⟩, fun a hE => ?_⟩
       refine WQ.eff0 (j := 15) (obs := []) hE (by kernel_rfl) rfl rfl rfl (by kernel_rfl) (OpTo.store hE H rfl rfl rfl rfl rfl rfl (Nat.le_of_ble_eq_true rfl)) ?_
       rintro _ w H
       refine ⟨trivial, fun a hE => ?_⟩
       refine WQ.done (by kernel_rfl) ?_
       exact hk _ _ ⟨r5, hE.sel [0, 5, 8, 10] (by kernel_rfl), H.x2.t4.t2.t4.t4.t4⟩
      ·refine AQ.eff (j := 14) (obs := [.cell ⟨r1, 1, none⟩ (.int .i64 x3.rank), .cell ⟨r1, 1, none⟩ (.int .i64 x3.rank), .cell ⟨b5, o5 + (Int.toNat 1) * 2, none⟩ (.int .i64 x6.n), .p ((sb7 : Option Addr) = some ⟨b5, o5, none⟩), .p (0 ≤ (1 : Int) ∧ (1 : Int) < ((wait1.length : Nat) : Int)), .cell ⟨r1, 0, none⟩ (.int .i64 x3.n)]) hE rfl rfl rfl rfl (by kernel_rfl) (OpTo.new hE H [] (.cells #[.int .i64 0, .int .i64 0] 115 (0, 0)) (fun r => .pointer (some ⟨r, 0, none⟩)) (obs := []) rfl (fun _ => by kernel_rfl) trivial) ?_
       rintro _ w ⟨r6, rfl, H⟩
       refine ⟨⟨H.cell 1 rfl rfl, H.cell 1 rfl rfl, SlRd.cells (sl_rd 115 trees_ranked.enc 2 _ _ _) trees_ranked.enc_ok H 2 rfl hs5 ex6 0 _ rfl, hs5, hb5, H.cell 1 rfl rfl, trivial⟩, fun a hE => ?_⟩
       refine WQ.eff (j := 9) (obs := [.cell ⟨r1, 1, none⟩ (.int .i64 x3.rank)]) hE (by kernel_rfl) rfl rfl rfl rfl (by kernel_rfl) (OpTo.fn hE rfl rfl Tryz.call98 (trees_Link_ok et_2 H.t4)) ?_
       rintro _ w ⟨rfl, H⟩
       refine ⟨⟨H.cell 2 rfl rfl, trivial⟩, fun a hE => ?_⟩
       refine WQ.d0 hE [13] [(67, .agg #[.int .i64 t_2.1, .int .i64 (w64 (x3.rank + 1))])] fun a hE => ?_
       refine WQ.eff0 (j := 15) (obs := []) hE (by kernel_rfl) rfl rfl rfl (by kernel_rfl) (OpTo.store hE H.t1 rfl rfl rfl rfl rfl rfl (Nat.le_of_ble_eq_true rfl)) ?_
       rintro _ w H
       refine ⟨trivial, fun a hE => ?_⟩
       refine WQ.done (by kernel_rfl) ?_
       exact hk _ _ ⟨r6, hE.sel [0, 5, 8, 10] (by kernel_rfl), H.x2.t4.t2.t4.t4.t4⟩
     rintro a w ⟨r4, hE, H⟩
     refine Runs.sr ?_
     obtain ⟨l6, el6, hm⟩ := bind_some hm
     obtain ⟨sb11, q4⟩ : ∃ z, rebase sb7 sc7 (Int.toNat 2) 2 = z := ⟨_, rfl⟩
     obtain ⟨sc11, q5⟩ : ∃ z, sc7 - (Int.toNat 2) = z := ⟨_, rfl⟩
     refine WR.seg hE 3 [.slice sb11 l6.length sc11] [0, 5, 8, 10] (Lo := [(0, .pointer (some ⟨p_a_, 0, none⟩)), (5, .slice sb11 l6.length sc11), (8, .slice sb8 out.length sc8), (10, .pointer (some ⟨r4, 0, none⟩))]) (obs := [.p (rebase sb7 sc7 (Int.toNat 2) 2 = sb11), .p (wait1.length - (Int.toNat 2) = l6.length), .p (sc7 - (Int.toNat 2) = sc11), .p (0 ≤ (2 : Int) ∧ (2 : Int) ≤ ((wait1.length : Nat) : Int))]) rfl (by kernel_rfl) ⟨q4, cut_len el6, q5, cut_bd0 el6, trivial⟩ fun a hE => ?_
     refine WR.done rfl ?_
     refine Runs.sr ?_
     refine WR.e0 hE [(11, .int .i64 0)] fun a hE => ?_
     refine Runs.seq ?_
     replace H := H.t1.slCut' trees_ranked.enc_ok el6 q4 q5
     obtain ⟨s3, es3, hm⟩ := bind_some hm
     refine Runs.join (fun a w => EnvOk 94 a [(0, .pointer (some ⟨p_a_, 0, none⟩)), (5, .slice sb11 l6.length sc11), (8, .slice sb8 out.length sc8), (10, .pointer (some ⟨r4, 0, none⟩)), (11, .int .i64 s3)] ∧ St w0 (Sl 115 trees_ranked.enc 2 sb11 sc11 l6 :: Blk r4 115 [.int .i64 ((trees_ranked.mk t_2.1 (w64 (x3.rank + 1))).n), .int .i64 ((trees_ranked.mk t_2.1 (w64 (x3.rank + 1))).rank)] :: Sl 3 ecI 1 sb8 sc8 out :: arena_Arena.R p_a_ al_a_ t_2.2 :: X_l :: As) w) (fun hk => ?_) ?_
     ·replace hm := es3; clear es3
      refine Runs.block ?_
      refine Runs.loop (fun m a w => ∃ (k_ : Int), EnvOk 94 a [(0, .pointer (some ⟨p_a_, 0, none⟩)), (5, .slice sb11 l6.length sc11), (8, .slice sb8 out.length sc8), (10, .pointer (some ⟨r4, 0, none⟩)), (11, .int .i64 k_)] ∧ St w0 (Sl 115 trees_ranked.enc 2 sb11 sc11 l6 :: Blk r4 115 [.int .i64 ((trees_ranked.mk t_2.1 (w64 (x3.rank + 1))).n), .int .i64 ((trees_ranked.mk t_2.1 (w64 (x3.rank + 1))).rank)] :: Sl 3 ecI 1 sb8 sc8 out :: arena_Arena.R p_a_ al_a_ t_2.2 :: X_l :: As) w ∧ trees_Carry_l2 l6 ((trees_ranked.mk t_2.1 (w64 (x3.rank + 1))).n) ((trees_ranked.mk t_2.1 (w64 (x3.rank + 1))).rank) out t_2.2 l m k_ = some s3) m ⟨0, hE.sel [0, 5, 8, 10, 11] (by kernel_rfl), H.t4.t4.t4.t4.t4, hm⟩ ?_
      rintro m ih a w ⟨k_, hE, H, hm⟩
      cases m with
      | zero => simp [trees_Carry_l2] at hm
      | succ m =>
       rw [trees_Carry_l2] at hm
       refine Runs.seq ?_
       refine Runs.seq ?_
       obtain ⟨s4, es4, hm⟩ := bind_some hm
       refine Runs.join (fun a w => EnvOk 94 a [(0, .pointer (some ⟨p_a_, 0, none⟩)), (5, .slice sb11 l6.length sc11), (8, .slice sb8 out.length sc8), (10, .pointer (some ⟨r4, 0, none⟩)), (11, .int .i64 k_), (83, .bool s4)] ∧ St w0 (Sl 115 trees_ranked.enc 2 sb11 sc11 l6 :: Blk r4 115 [.int .i64 ((trees_ranked.mk t_2.1 (w64 (x3.rank + 1))).n), .int .i64 ((trees_ranked.mk t_2.1 (w64 (x3.rank + 1))).rank)] :: Sl 3 ecI 1 sb8 sc8 out :: arena_Arena.R p_a_ al_a_ t_2.2 :: X_l :: As) w) (fun hk => ?_) ?_
       ·replace hm := es4; clear es4
        refine Runs.drawn mixed (by kernel_rfl) ?_
        replace H := H.drew
        refine WQ.seg hE [0, 1, 2, 3, 4] [] [0, 5, 8, 10, 11, 74] (Lo := [(0, .pointer (some ⟨p_a_, 0, none⟩)), (5, .slice sb11 l6.length sc11), (8, .slice sb8 out.length sc8), (10, .pointer (some ⟨r4, 0, none⟩)), (11, .int .i64 k_), (74, .bool (decide (k_ < (l6.length : Int))))]) (obs := []) (by kernel_rfl) (by kernel_rfl) trivial fun a hE => ?_
        rcases Bool.eq_false_or_eq_true (decide (k_ < (l6.length : Int))) with c | c
        ·replace hE := hE.dec 74 c (by kernel_rfl)
         replace hm := cond_t c hm
         have c_2 := c
         obtain ⟨x8, ex8, hm⟩ := bind_some hm
         obtain ⟨b7, o7, hs7, hb7⟩ := SlRd.base (sl_rd 115 trees_ranked.enc 2 _ _ _) trees_ranked.enc_ok H 0 rfl ex8
         refine WQ.d hE [5, 6, 7, 8, 9, 10, 11, 12, 13] [.pointer (some ⟨b7, o7, none⟩), .int .i64 x8.rank, .int .i64 ((trees_ranked.mk t_2.1 (w64 (x3.rank + 1))).rank)] [(83, .bool (decide (x8.rank < (trees_ranked.mk t_2.1 (w64 (x3.rank + 1))).rank)))] (obs := [.p ((sb11 : Option Addr) = some ⟨b7, o7, none⟩), .p (0 ≤ (k_ : Int) ∧ (k_ : Int) < ((l6.length : Nat) : Int)), .cell ⟨b7, o7 + (Int.toNat k_) * 2 + 1, none⟩ (.int .i64 x8.rank), .cell ⟨r4, 1, none⟩ (.int .i64 ((trees_ranked.mk t_2.1 (w64 (x3.rank + 1))).rank))]) ⟨hs7, hb7, SlRd.cells (sl_rd 115 trees_ranked.enc 2 _ _ _) trees_ranked.enc_ok H 0 rfl hs7 ex8 1 _ rfl, H.cell 1 rfl rfl, trivial⟩ fun a hE => ?_
         refine WQ.done (by kernel_rfl) ?_
         cases hm
         exact hk _ _ ⟨hE.sel [0, 5, 8, 10, 11, 83] (by kernel_rfl), H.t4.t4.t4.t4.t4⟩
        ·replace hE := hE.dec 74 c (by kernel_rfl)
         replace hm := cond_f c hm
         have c_3 := c
         refine WQ.d0 hE [5, 6, 7, 8, 9, 10, 11, 12, 13] [(83, .bool false)] fun a hE => ?_
         refine WQ.done (by kernel_rfl) ?_
         cases hm
         exact hk _ _ ⟨hE.sel [0, 5, 8, 10, 11, 83] (by kernel_rfl), H.t4.t4.t4.t4.t4⟩
       rintro a w ⟨hE, H⟩
       refine Runs.cond hE rfl (fun c => ?_) (fun c => ?_)
       ·replace hm := cond_t c hm
        refine Runs.skip ?_
        refine Runs.block ?_
        refine Runs.region ?_
        refine WR.seg hE 3 [] [0, 5, 8, 10, 11] (Lo := [(0, .pointer (some ⟨p_a_, 0, none⟩)), (5, .slice sb11 l6.length sc11), (8, .slice sb8 out.length sc8), (10, .pointer (some ⟨r4, 0, none⟩)), (11, .int .i64 (w64 (k_ + 1)))]) (obs := []) rfl (by kernel_rfl) trivial fun a hE => ?_
        refine WR.done rfl ?_
        refine Runs.inBlock ?_
        exact ih m (Nat.lt_succ_self m) _ _ ⟨w64 (k_ + 1), hE.sel [0, 5, 8, 10, 11] (by kernel_rfl), H.t4.t4.t4.t4.t4, hm⟩
       ·replace hm := cond_f c hm
        refine Runs.exit rfl ?_
        cases hm
        exact hk _ _ ⟨hE.sel [0, 5, 8, 10, 11] (by kernel_rfl), H.t4.t4.t4.t4.t4⟩
     rintro a w ⟨hE, H⟩
     refine Runs.region ?_
     refine WR.seg hE 3 [.int .i64 ((trees_ranked.mk t_2.1 (w64 (x3.rank + 1))).n), .int .i64 ((trees_ranked.mk t_2.1 (w64 (x3.rank + 1))).rank)] [0, 5, 8, 86, 87, 88] (Lo := [(0, .pointer (some ⟨p_a_, 0, none⟩)), (5, .slice sb11 l6.length sc11), (8, .slice sb8 out.length sc8), (86, .slice sb11 l6.length sc11), (87, .int .i64 s3), (88, .agg #[.int .i64 ((trees_ranked.mk t_2.1 (w64 (x3.rank + 1))).n), .int .i64 ((trees_ranked.mk t_2.1 (w64 (x3.rank + 1))).rank)])]) (obs := [.cell ⟨r4, 0, none⟩ (.int .i64 ((trees_ranked.mk t_2.1 (w64 (x3.rank + 1))).n)), .cell ⟨r4, 1, none⟩ (.int .i64 ((trees_ranked.mk t_2.1 (w64 (x3.rank + 1))).rank))]) rfl (by kernel_rfl) ⟨H.cell 1 rfl rfl, H.cell 1 rfl rfl, trivial⟩ fun a hE => ?_
     refine WR.eff hE rfl rfl rfl rfl (OpTo.buildSl (T := 115) hE H trees_ranked.enc_ok ([(trees_ranked.mk t_2.1 (w64 (x3.rank + 1)))] : List trees_ranked) rfl (fun _ => by kernel_rfl) rfl rfl rfl) ?_
     rintro _ w ⟨r7, rfl, H⟩ a hE
     obtain ⟨t_3, et_3, hm⟩ := bind_some hm
     refine WR.eff hE rfl rfl rfl rfl (OpTo.fn hE rfl rfl Tryz.call99 (slices_Insert_trees_ranked_ok et_3 H.t1)) ?_
     rintro _ w ⟨sb12, sc12, rfl, H⟩ a hE
     refine WR.e0 hE [(5, .slice sb12 t_3.length sc12)] fun a hE => ?_
     refine Runs.inBlock ?_
     exact ih m (Nat.lt_succ_self m) _ _ ⟨t_3, out, t_2.2, sb12, sc12, sb8, sc8, hE.sel [0, 5, 8] (by kernel_rfl), H.x1.t3.t3.t3.t3, hm⟩
   ·replace hm := cond_f c hm
    refine Runs.exit rfl ?_
    cases hm
    exact hk _ _ ⟨sb8, sc8, hE.sel [0, 8] (by kernel_rfl), H.x0.t2.t2.t2⟩
 rintro a w ⟨sb6, sc6, hE, H⟩
 refine Runs.sr ?_
 refine WR.seg hE 2 [] [91, 92] (Lo := [(91, .pointer (some ⟨p_a_, 0, none⟩)), (92, .slice sb6 s1.1.length sc6)]) (obs := []) rfl (by kernel_rfl) trivial fun a hE => ?_
 obtain ⟨t_4, et_4, hm⟩ := bind_some hm
 replace H := H.t1
 refine WR.eff hE rfl rfl rfl rfl (OpTo.fn hE rfl rfl Tryz.call100 (trees_Row_ok (hX_l := (sl_rd 3 ecI 1 _ _ _)) (hC_l := (H.slCap 1 rfl).1) et_4 H)) ?_
 rintro _ w ⟨rfl, H⟩ a hE
 refine WR.e0 hE [(4, .int .i64 t_4.1)] fun a hE => ?_
 refine Runs.ret hE Tryz.func59 rfl rfl ?_
 cases hm
 exact ⟨rfl, H.x1.t1.t1⟩

theorem binomial_Push_ok {w0 w : World} {As : List HP} {k : Nat} {p_a_ : Nat} {al_a_ : arena_Arena.A} {a_ : arena_Arena} {r : Int} {i : Int} {t : Int × Bool × arena_Arena}  (hm : binomial_Push k a_ r i = some t) (H : St w0 (arena_Arena.R p_a_ al_a_ a_ :: As) w) :
    CallsR Tryz.prog 22 #[.pointer (some ⟨p_a_, 0, none⟩), .int .i64 r, .int .i64 i] w fun v w' => ∃ (z_a__free_b : Option Addr), ∃ (z_a__free_c : Nat), v = .tuple #[.int .i64 t.1, .bool t.2.1] ∧ St w0 (arena_Arena.R p_a_ (arena_Arena.A.mk al_a_.l_b al_a_.l_c z_a__free_b z_a__free_c al_a_.m__p) t.2.2 :: As) w' := by
 rw [binomial_Push] at hm
 refine enter (args := [.pointer (some ⟨p_a_, 0, none⟩), .int .i64 r, .int .i64 i]) Tryz.func22 rfl rfl rfl fun a hE => ?_
 refine Runs.sr ?_
 refine WR.seg hE 2 [] [0, 1, 2] (Lo := [(0, .pointer (some ⟨p_a_, 0, none⟩)), (1, .int .i64 r), (2, .int .i64 i)]) (obs := []) rfl (by kernel_rfl) trivial fun a hE => ?_
 refine WR.done rfl ?_
 refine Runs.seq ?_
 refine Runs.sr ?_
 refine WR.e0 hE [(11, .bool false)] fun a hE => ?_
 refine Runs.condF hE rfl ?_
 refine Runs.skip ?_
 refine Runs.sr ?_
 refine WR.d0 hE 2 [(13, .pointer (some ⟨p_a_, 0, none⟩)), (14, .int .i64 i)] fun a hE => ?_
 obtain ⟨t_, et_, hm⟩ := bind_some hm
 refine WR.eff hE rfl rfl rfl rfl (OpTo.fn hE rfl rfl Tryz.call58 (node_New_ok et_ H)) ?_
 rintro _ w ⟨z, z1, rfl, H⟩ a hE
 refine WR.e0 hE [(8, .int .i64 t_.1), (9, .bool t_.2.1)] fun a hE => ?_
 refine Runs.seq ?_
 refine Runs.sr ?_
 refine WR.e0 hE [(19, .bool (!t_.2.1))] fun a hE => ?_
 refine Runs.cond hE rfl (fun c => ?_) (fun c => ?_)
 ·replace hm := cond_t c hm
  refine Runs.sr ?_
  refine WR.e0 hE [(6, .int .i64 r), (7, .bool false)] fun a hE => ?_
  refine Runs.ret hE Tryz.func22 rfl rfl ?_
  cases hm
  exact ⟨z, z1, rfl, H⟩
 ·replace hm := cond_f c hm
  refine Runs.skip ?_
  refine Runs.sr ?_
  refine WR.d0 hE 2 [(21, .pointer (some ⟨p_a_, 0, none⟩)), (22, .int .i64 t_.1)] fun a hE => ?_
  refine WR.eff hE rfl rfl rfl rfl (OpTo.buildSl (T := 3) hE H ecI_ok ([t_.1] : List Int) rfl (fun _ => by kernel_rfl) rfl rfl rfl) ?_
  rintro _ w ⟨r1, rfl, H⟩ a hE
  refine WR.d0 hE 5 [(24, .pointer (some ⟨p_a_, 0, none⟩)), (25, .int .i64 r)] fun a hE => ?_
  obtain ⟨t_1, et_1, hm⟩ := bind_some hm
  refine WR.eff hE rfl rfl rfl rfl (OpTo.fn hE rfl rfl Tryz.call60 (trees_List_ok et_1 H.t1)) ?_
  rintro _ w ⟨sb, sc, rfl, H⟩ a hE
  obtain ⟨l, el, hm⟩ := bind_some hm
  replace H := H.t2
  refine WR.eff hE rfl rfl rfl rfl (OpTo.appendM el hE H ecI_ok rfl rfl rfl rfl rfl rfl rfl rfl rfl rfl (SlRd.all (sl_rd 3 ecI 1 _ _ _) ecI_ok H 1 rfl) rfl) ?_
  rintro _ w ⟨sb1, sc1, rfl, H⟩ a hE
  obtain ⟨t_2, et_2, hm⟩ := bind_some hm
  replace H := H.t2
  refine WR.eff hE rfl rfl rfl rfl (OpTo.fn hE rfl rfl Tryz.call59 (trees_Carry_ok (hX_l := (sl_rd 3 ecI 1 _ _ _)) (hC_l := (H.slCap 1 rfl).1) et_2 H)) ?_
  rintro _ w ⟨rfl, H⟩ a hE
  refine WR.e0 hE [(6, .int .i64 t_2.1), (7, .bool true)] fun a hE => ?_
  refine Runs.ret hE Tryz.func22 rfl rfl ?_
  cases hm
  exact ⟨z, z1, rfl, H.x2.x1⟩

theorem arena_Arena_Give_ok {w0 w : World} {As : List HP} {p_a_ : Nat} {al_a_ : arena_Arena.A} {a_ : arena_Arena} {c_ : Int} {t : Bool × arena_Arena}  (hm : arena_Arena_Give a_ c_ = some t) (H : St w0 (arena_Arena.R p_a_ al_a_ a_ :: As) w) :
    CallsR Tryz.prog 27 #[.pointer (some ⟨p_a_, 0, none⟩), .int .i64 c_] w fun v w' => ∃ (z_a__free_b : Option Addr), ∃ (z_a__free_c : Nat), v = .bool t.1 ∧ St w0 (arena_Arena.R p_a_ (arena_Arena.A.mk al_a_.l_b al_a_.l_c z_a__free_b z_a__free_c al_a_.m__p) t.2 :: As) w' := by
 rw [arena_Arena_Give] at hm
 refine enter (args := [.pointer (some ⟨p_a_, 0, none⟩), .int .i64 c_]) Tryz.func27 rfl rfl rfl fun a hE => ?_
 refine Runs.sr ?_
 refine WR.seg hE 1 [] [0, 1] (Lo := [(0, .pointer (some ⟨p_a_, 0, none⟩)), (1, .int .i64 c_)]) (obs := []) rfl (by kernel_rfl) trivial fun a hE => ?_
 refine WR.done rfl ?_
 refine Runs.sr ?_
 replace H := arena_Arena.open H
 refine WR.d hE 4 [.pointer (some ⟨al_a_.m__p, 0, none⟩)] [(8, .pointer (some ⟨al_a_.m__p, 0, none⟩))] (obs := [.cell ⟨p_a_, 3, none⟩ (.pointer (some ⟨al_a_.m__p, 0, none⟩))]) ⟨H.cell 0 rfl rfl, trivial⟩ fun a hE => ?_
 obtain ⟨t_, et_, hm⟩ := bind_some hm
 refine WR.eff hE rfl rfl rfl rfl (OpTo.fn hE rfl rfl Tryz.call66 (meter_Meter_Tick_ok et_ H.t3)) ?_
 rintro _ w ⟨rfl, H⟩ a hE
 refine WR.done rfl ?_
 refine Runs.seq ?_
 refine Runs.sr ?_
 refine WR.d0 hE 2 [(10, .pointer (some ⟨p_a_, 0, none⟩)), (11, .int .i64 c_)] fun a hE => ?_
 replace H := arena_Arena.shut al_a_ (arena_Arena.mk a_.l a_.never a_.free t_) H.t3.t3.t3
 obtain ⟨t_1, et_1, hm⟩ := bind_some hm
 refine WR.eff hE rfl rfl rfl rfl (OpTo.fn hE rfl rfl Tryz.call62 (arena_Arena_Live_ok et_1 H)) ?_
 rintro _ w ⟨rfl, H⟩ a hE
 refine WR.e0 hE [(13, .bool (!t_1))] fun a hE => ?_
 refine Runs.cond hE rfl (fun c => ?_) (fun c => ?_)
 ·replace hm := cond_t c hm
  refine Runs.sr ?_
  refine WR.e0 hE [(4, .bool false)] fun a hE => ?_
  refine Runs.ret hE Tryz.func27 rfl rfl ?_
  cases hm
  exact ⟨al_a_.free_b, al_a_.free_c, rfl, H⟩
 ·replace hm := cond_f c hm
  refine Runs.skip ?_
  refine Runs.sr ?_
  replace H := arena_Arena.open H
  try dsimp only at H
  obtain ⟨x, ex, hm⟩ := bind_some hm
  obtain ⟨b, o, hs, hb⟩ := SlRd.base (sl_rd 100 arena_cell.enc 11 _ _ _) arena_cell.enc_ok H 1 rfl ex
  refine WR.d hE 7 [.slice al_a_.l_b a_.l.length al_a_.l_c, .pointer (some ⟨b, o, none⟩)] [(20, .pointer (some ⟨b, o + (Int.toNat c_) * 11 + 10, none⟩))] (obs := [.cell ⟨p_a_, 0, none⟩ (.slice al_a_.l_b a_.l.length al_a_.l_c), .p ((al_a_.l_b : Option Addr) = some ⟨b, o, none⟩), .p (0 ≤ (c_ : Int) ∧ (c_ : Int) < ((a_.l.length : Nat) : Int))]) ⟨H.cell 0 rfl rfl, hs, hb, trivial⟩ fun a hE => ?_
  refine WR.eff0 hE rfl rfl rfl (OpTo.storeSl (q := 10) (x' := (arena_cell.mk x.f0 x.f1 x.f2 x.f3 x.f4 x.f5 x.f6 x.f7 x.f8 x.f9 false)) hE H.t1 arena_cell.enc_ok rfl hs ex rfl rfl rfl rfl rfl (Nat.le_of_ble_eq_true rfl) rfl) ?_
  rintro _ w H a hE
  rw [← mSet_len a_.l c_ (arena_cell.mk x.f0 x.f1 x.f2 x.f3 x.f4 x.f5 x.f6 x.f7 x.f8 x.f9 false)] at H
  refine WR.done rfl ?_
  refine Runs.sr ?_
  refine WR.d hE 6 [.slice al_a_.free_b a_.free.length al_a_.free_c] [(21, .pointer (some ⟨p_a_, 0, none⟩)), (25, .slice al_a_.free_b a_.free.length al_a_.free_c), (26, .int .i64 c_)] (obs := [.cell ⟨p_a_, 2, none⟩ (.slice al_a_.free_b a_.free.length al_a_.free_c)]) ⟨H.cell 1 rfl rfl, trivial⟩ fun a hE => ?_
  refine WR.eff hE rfl rfl rfl rfl (OpTo.buildSl (T := 3) hE H ecI_ok ([c_] : List Int) rfl (fun _ => by kernel_rfl) rfl rfl rfl) ?_
  rintro _ w ⟨r, rfl, H⟩ a hE
  obtain ⟨l, el, hm⟩ := bind_some hm
  replace H := H.t3
  refine WR.eff hE rfl rfl rfl rfl (OpTo.appendM el hE H ecI_ok rfl rfl rfl rfl rfl rfl rfl rfl rfl rfl (SlRd.all (sl_rd 3 ecI 1 _ _ _) ecI_ok H 1 rfl) rfl) ?_
  rintro _ w ⟨sb, sc, rfl, H⟩ a hE
  refine WR.d0 hE 10 [(30, .pointer (some ⟨p_a_, 2, none⟩))] fun a hE => ?_
  refine WR.eff0 hE rfl rfl rfl (OpTo.store hE H.t3 rfl rfl rfl rfl rfl rfl (Nat.le_of_ble_eq_true rfl)) ?_
  rintro _ w H a hE
  refine WR.done rfl ?_
  refine Runs.sr ?_
  refine WR.e0 hE [(4, .bool true)] fun a hE => ?_
  replace H := arena_Arena.shut (arena_Arena.A.mk al_a_.l_b al_a_.l_c sb sc al_a_.m__p) (arena_Arena.mk (mSet a_.l c_ (arena_cell.mk x.f0 x.f1 x.f2 x.f3 x.f4 x.f5 x.f6 x.f7 x.f8 x.f9 false)) a_.never l t_) H.t4.t2.t4.t3
  refine Runs.ret hE Tryz.func27 rfl rfl ?_
  cases hm
  exact ⟨sb, sc, rfl, H.x1⟩

theorem thicketlaw9_world_push_at0_ok {w0 w : World} {As : List HP} {k : Nat} {p_w_ : Nat} {al_w_ : thicketlaw9_world.A} {w_ : thicketlaw9_world} {key : Int} {t : Bool × thicketlaw9_world}  (hm : thicketlaw9_world_push_at0 k w_ key = some t) (H : St w0 (thicketlaw9_world.R p_w_ al_w_ w_ :: As) w) :
    CallsR Tryz.prog 30 #[.pointer (some ⟨p_w_, 0, none⟩), .int .i64 0, .int .i64 key] w fun v w' => ∃ (z_w__a__a : arena_Arena.A), ∃ (z_w__has0_b : Option Addr), ∃ (z_w__has0_c : Nat), v = .bool t.1 ∧ St w0 (thicketlaw9_world.R p_w_ (thicketlaw9_world.A.mk al_w_.a__p z_w__a__a z_w__has0_b z_w__has0_c al_w_.has1_b al_w_.has1_c) t.2 :: As) w' := by
 rw [thicketlaw9_world_push_at0] at hm
 refine enter (args := [.pointer (some ⟨p_w_, 0, none⟩), .int .i64 0, .int .i64 key]) Tryz.func30 rfl rfl rfl fun a hE => ?_
 refine Runs.sr ?_
 refine WR.seg hE 1 [] [0, 1, 2] (Lo := [(0, .pointer (some ⟨p_w_, 0, none⟩)), (1, .int .i64 0), (2, .int .i64 key)]) (obs := []) rfl (by kernel_rfl) trivial fun a hE => ?_
 refine WR.done rfl ?_
 refine Runs.seq ?_
 refine Runs.drawn mixed (by kernel_rfl) ?_
 replace H := H.drew
 replace H := thicketlaw9_world.open H
 refine WQ.d hE [0, 1, 2, 3, 4, 5, 6, 7, 8] [.pointer (some ⟨al_w_.a__p, 0, none⟩), .int .i64 w_.next] [(17, .pointer (some ⟨al_w_.a__p, 0, none⟩)), (18, .int .i64 key), (22, .int .i64 w_.next)] (obs := [.cell ⟨p_w_, 0, none⟩ (.pointer (some ⟨al_w_.a__p, 0, none⟩)), .cell ⟨p_w_, 5, none⟩ (.int .i64 w_.next)]) ⟨H.cell 0 rfl rfl, H.cell 0 rfl rfl, trivial⟩ fun a hE => ?_
 obtain ⟨t_, et_, hm⟩ := bind_some hm
 refine WQ.eff (j := 9) (obs := []) hE (by kernel_rfl) rfl rfl rfl rfl (by kernel_rfl) (OpTo.fn hE rfl rfl Tryz.call19 (item_New_ok et_ H.t1)) ?_
 rintro _ w ⟨z, z1, rfl, H⟩
 refine ⟨trivial, fun a hE => ?_⟩
 refine WQ.d0 hE [10, 11, 12, 13, 14] [(7, .int .i64 t_.1), (8, .bool t_.2.1)] fun a hE => ?_
 refine WQ.done (by kernel_rfl) ?_
 refine Runs.seq ?_
 refine Runs.sr ?_
 refine WR.e0 hE [(27, .bool (!t_.2.1))] fun a hE => ?_
 refine Runs.cond hE rfl (fun c => ?_) (fun c => ?_)
 ·replace hm := cond_t c hm
  refine Runs.seq ?_
  refine Runs.drawn mixed (by kernel_rfl) ?_
  replace H := H.drew
  refine WQ.d hE [0, 1, 2, 3, 5, 6, 7, 8] [.pointer (some ⟨al_w_.a__p, 0, none⟩), .pointer (some ⟨al_w_.a__p, 0, none⟩)] [(31, .pointer (some ⟨al_w_.a__p, 0, none⟩)), (36, .pointer (some ⟨al_w_.a__p, 0, none⟩))] (obs := [.cell ⟨p_w_, 0, none⟩ (.pointer (some ⟨al_w_.a__p, 0, none⟩)), .cell ⟨p_w_, 0, none⟩ (.pointer (some ⟨al_w_.a__p, 0, none⟩))]) ⟨H.cell 1 rfl rfl, H.cell 1 rfl rfl, trivial⟩ fun a hE => ?_
  obtain ⟨t_1, et_1, hm⟩ := bind_some hm
  refine WQ.eff (j := 4) (obs := [.cell ⟨p_w_, 0, none⟩ (.pointer (some ⟨al_w_.a__p, 0, none⟩))]) hE (by kernel_rfl) rfl rfl rfl rfl (by kernel_rfl) (OpTo.fn hE rfl rfl Tryz.call28 (arena_Arena_Len_ok et_1 H)) ?_
  rintro _ w ⟨rfl, H⟩
  refine ⟨⟨H.cell 1 rfl rfl, trivial⟩, fun a hE => ?_⟩
  obtain ⟨t_2, et_2, hm⟩ := bind_some hm
  refine WQ.eff (j := 9) (obs := []) hE (by kernel_rfl) rfl rfl rfl rfl (by kernel_rfl) (OpTo.fn hE rfl rfl Tryz.call67 (arena_Arena_Cells_ok et_2 H)) ?_
  rintro _ w ⟨rfl, H⟩
  refine ⟨trivial, fun a hE => ?_⟩
  refine WQ.d0 hE [10, 11] [(6, .bool (t_1 == t_2))] fun a hE => ?_
  refine WQ.done (by kernel_rfl) ?_
  replace H := thicketlaw9_world.shut (thicketlaw9_world.A.mk al_w_.a__p (arena_Arena.A.mk al_w_.a__a.l_b al_w_.a__a.l_c z z1 al_w_.a__a.m__p) al_w_.has0_b al_w_.has0_c al_w_.has1_b al_w_.has1_c) (thicketlaw9_world.mk t_.2.2 w_.root0 w_.root1 w_.has0 w_.has1 w_.next w_.spent w_.most) H.t3.t3.t2.t3
  refine Runs.ret hE Tryz.func30 rfl rfl ?_
  cases hm
  exact ⟨arena_Arena.A.mk al_w_.a__a.l_b al_w_.a__a.l_c z z1 al_w_.a__a.m__p, al_w_.has0_b, al_w_.has0_c, rfl, H⟩
 ·replace hm := cond_f c hm
  refine Runs.skip ?_
  refine Runs.seq ?_
  refine Runs.drawn mixed (by kernel_rfl) ?_
  replace H := H.drew
  refine WQ.d hE [0, 1, 2, 3, 5, 6, 7, 8] [.pointer (some ⟨al_w_.a__p, 0, none⟩), .pointer (some ⟨al_w_.a__p, 0, none⟩)] [(42, .pointer (some ⟨al_w_.a__p, 0, none⟩)), (47, .pointer (some ⟨al_w_.a__p, 0, none⟩))] (obs := [.cell ⟨p_w_, 0, none⟩ (.pointer (some ⟨al_w_.a__p, 0, none⟩)), .cell ⟨p_w_, 0, none⟩ (.pointer (some ⟨al_w_.a__p, 0, none⟩))]) ⟨H.cell 1 rfl rfl, H.cell 1 rfl rfl, trivial⟩ fun a hE => ?_
  obtain ⟨t_3, et_3, hm⟩ := bind_some hm
  refine WQ.eff (j := 4) (obs := [.cell ⟨p_w_, 0, none⟩ (.pointer (some ⟨al_w_.a__p, 0, none⟩))]) hE (by kernel_rfl) rfl rfl rfl rfl (by kernel_rfl) (OpTo.fn hE rfl rfl Tryz.call28 (arena_Arena_Len_ok et_3 H)) ?_
  rintro _ w ⟨rfl, H⟩
  refine ⟨⟨H.cell 1 rfl rfl, trivial⟩, fun a hE => ?_⟩
  obtain ⟨t_4, et_4, hm⟩ := bind_some hm
  refine WQ.eff (j := 9) (obs := []) hE (by kernel_rfl) rfl rfl rfl rfl (by kernel_rfl) (OpTo.fn hE rfl rfl Tryz.call67 (arena_Arena_Cells_ok et_4 H)) ?_
  rintro _ w ⟨rfl, H⟩
  refine ⟨trivial, fun a hE => ?_⟩
  refine WQ.d0 hE [10, 11] [(9, .bool (decide (t_3 < t_4)))] fun a hE => ?_
  refine WQ.done (by kernel_rfl) ?_
  refine Runs.sr ?_
  refine WR.d hE 4 [.pointer (some ⟨al_w_.a__p, 0, none⟩)] [(53, .pointer (some ⟨al_w_.a__p, 0, none⟩))] (obs := [.cell ⟨p_w_, 0, none⟩ (.pointer (some ⟨al_w_.a__p, 0, none⟩))]) ⟨H.cell 1 rfl rfl, trivial⟩ fun a hE => ?_
  obtain ⟨t_5, et_5, hm⟩ := bind_some hm
  refine WR.eff hE rfl rfl rfl rfl (OpTo.fn hE rfl rfl Tryz.call20 (arena_Arena_Meter_ok et_5 H)) ?_
  rintro _ w ⟨rfl, H⟩ a hE
  replace H := arena_Arena.open H
  try dsimp only at H
  obtain ⟨t_6, et_6, hm⟩ := bind_some hm
  refine WR.eff hE rfl rfl rfl rfl (OpTo.fn hE rfl rfl Tryz.call21 (meter_Meter_Steps_ok et_6 H.t3)) ?_
  rintro _ w ⟨rfl, H⟩ a hE
  refine WR.e0 hE [(10, .int .i64 t_6)] fun a hE => ?_
  refine Runs.seq ?_
  refine Runs.drawn mixed (by kernel_rfl) ?_
  replace H := H.drew
  refine WQ.d hE [0, 1, 2, 3, 4, 5, 6, 7, 8, 9, 10] [.pointer (some ⟨al_w_.a__p, 0, none⟩), .int .i64 w_.root0] [(60, .pointer (some ⟨al_w_.a__p, 0, none⟩)), (66, .int .i64 w_.root0), (67, .int .i64 t_.1)] (obs := [.cell ⟨p_w_, 0, none⟩ (.pointer (some ⟨al_w_.a__p, 0, none⟩)), .p (0 ≤ (0 : Int) ∧ (0 : Int) < ((2 : Nat) : Int)), .cell ⟨p_w_, 1, none⟩ (.int .i64 w_.root0)]) ⟨H.cell 4 rfl rfl, ⟨by decide, by decide⟩, H.cell 4 rfl rfl, trivial⟩ fun a hE => ?_
  replace H := arena_Arena.shut (arena_Arena.A.mk al_w_.a__a.l_b al_w_.a__a.l_c z z1 al_w_.a__a.m__p) (t_.2.2) H.t3.t3.t3
  obtain ⟨t_7, et_7, hm⟩ := bind_some hm
  refine WQ.eff (j := 11) (obs := []) hE (by kernel_rfl) rfl rfl rfl rfl (by kernel_rfl) (OpTo.fn hE rfl rfl Tryz.call22 (binomial_Push_ok et_7 H)) ?_
  rintro _ w ⟨z2, z3, rfl, H⟩
  refine ⟨trivial, fun a hE => ?_⟩
  refine WQ.d0 hE [12, 13, 14, 15, 16] [(11, .int .i64 t_7.1), (12, .bool t_7.2.1)] fun a hE => ?_
  refine WQ.done (by kernel_rfl) ?_
  refine Runs.seq ?_
  refine Runs.seq ?_
  replace H := thicketlaw9_world.shut (thicketlaw9_world.A.mk al_w_.a__p (arena_Arena.A.mk al_w_.a__a.l_b al_w_.a__a.l_c z2 z3 al_w_.a__a.m__p) al_w_.has0_b al_w_.has0_c al_w_.has1_b al_w_.has1_c) (thicketlaw9_world.mk t_7.2.2 w_.root0 w_.root1 w_.has0 w_.has1 w_.next w_.spent w_.most) H.t3.t3.t2.t3
  obtain ⟨s, es, hm⟩ := bind_some hm
  refine Runs.join (fun a w => EnvOk 142 a [(0, .pointer (some ⟨p_w_, 0, none⟩)), (1, .int .i64 0), (2, .int .i64 key), (7, .int .i64 t_.1), (11, .int .i64 t_7.1), (12, .bool t_7.2.1), (87, .bool s.1)] ∧ St w0 (thicketlaw9_world.R p_w_ (thicketlaw9_world.A.mk al_w_.a__p (arena_Arena.A.mk al_w_.a__a.l_b al_w_.a__a.l_c z2 z3 al_w_.a__a.m__p) al_w_.has0_b al_w_.has0_c al_w_.has1_b al_w_.has1_c) s.2 :: As) w) (fun hk => ?_) ?_
  ·replace hm := es; clear es
   refine Runs.region ?_
   replace H := thicketlaw9_world.open H
   try dsimp only at H
   refine WR.d hE 10 [.slice al_w_.has0_b w_.has0.length al_w_.has0_c] [(71, .pointer (some ⟨p_w_, 0, none⟩)), (72, .int .i64 t_6), (80, .int .i64 (w64 ((w_.has0.length : Int) + 1)))] (obs := [.p (0 ≤ (0 : Int) ∧ (0 : Int) < ((2 : Nat) : Int)), .cell ⟨p_w_, 3, none⟩ (.slice al_w_.has0_b w_.has0.length al_w_.has0_c)]) ⟨⟨by decide, by decide⟩, H.cell 0 rfl rfl, trivial⟩ fun a hE => ?_
   replace H := thicketlaw9_world.shut (thicketlaw9_world.A.mk al_w_.a__p (arena_Arena.A.mk al_w_.a__a.l_b al_w_.a__a.l_c z2 z3 al_w_.a__a.m__p) al_w_.has0_b al_w_.has0_c al_w_.has1_b al_w_.has1_c) (thicketlaw9_world.mk t_7.2.2 w_.root0 w_.root1 w_.has0 w_.has1 w_.next w_.spent w_.most) H.t3.t3.t3.t3
   obtain ⟨t_8, et_8, hm⟩ := bind_some hm
   refine WR.eff hE rfl rfl rfl rfl (OpTo.fn hE rfl rfl Tryz.call23 (thicketlaw9_world_cost_ok et_8 H)) ?_
   rintro _ w ⟨rfl, hf, hf1, H⟩ a hE
   refine WR.d0 hE 13 [(83, .bool (!t_8.1))] fun a hE => ?_
   rcases Bool.eq_false_or_eq_true (!t_8.1) with c | c
   ·replace hE := hE.dec 83 c (by kernel_rfl)
    replace hm := cond_t c hm
    have c_ := c
    refine WR.e0 hE [(87, .bool true)] fun a hE => ?_
    cases hm
    exact hk _ _ ⟨hE.sel [0, 1, 2, 7, 11, 12, 87] (by kernel_rfl), H⟩
   ·replace hE := hE.dec 83 c (by kernel_rfl)
    replace hm := cond_f c hm
    have c_1 := c
    refine WR.e0 hE [(87, .bool (!(t_7.2.1 == (decide (t_3 < t_4)))))] fun a hE => ?_
    cases hm
    exact hk _ _ ⟨hE.sel [0, 1, 2, 7, 11, 12, 87] (by kernel_rfl), H⟩
  rintro a w ⟨hE, H⟩
  refine Runs.cond hE rfl (fun c => ?_) (fun c => ?_)
  ·replace hm := cond_t c hm
   refine Runs.sr ?_
   refine WR.seg hE 1 [] [6] (Lo := [(6, .bool false)]) (obs := []) rfl (by kernel_rfl) trivial fun a hE => ?_
   refine WR.done rfl ?_
   refine Runs.ret hE Tryz.func30 rfl rfl ?_
   cases hm
   exact ⟨arena_Arena.A.mk al_w_.a__a.l_b al_w_.a__a.l_c z2 z3 al_w_.a__a.m__p, al_w_.has0_b, al_w_.has0_c, rfl, H⟩
  ·replace hm := cond_f c hm
   refine Runs.skip ?_
   refine Runs.seq ?_
   refine Runs.sr ?_
   refine WR.seg hE 2 [] [0, 1, 2, 7, 11, 89] (Lo := [(0, .pointer (some ⟨p_w_, 0, none⟩)), (1, .int .i64 0), (2, .int .i64 key), (7, .int .i64 t_.1), (11, .int .i64 t_7.1), (89, .bool (!t_7.2.1))]) (obs := []) rfl (by kernel_rfl) trivial fun a hE => ?_
   refine WR.done rfl ?_
   refine Runs.cond hE rfl (fun c => ?_) (fun c => ?_)
   ·replace hm := cond_t c hm
    refine Runs.seq ?_
    obtain ⟨s1, es1, hm⟩ := bind_some hm
    refine Runs.join (fun a w => ∃ (z4 : arena_Arena.A), EnvOk 142 a [(6, .bool s1.1)] ∧ St w0 (thicketlaw9_world.R p_w_ (thicketlaw9_world.A.mk al_w_.a__p z4 al_w_.has0_b al_w_.has0_c al_w_.has1_b al_w_.has1_c) s1.2 :: As) w) (fun hk => ?_) ?_
    ·replace hm := es1; clear es1
     refine Runs.region ?_
     replace H := thicketlaw9_world.open H
     try dsimp only at H
     refine WR.d hE 9 [.int .i64 s.2.root0] [(98, .bool (t_7.1 == s.2.root0))] (obs := [.p (0 ≤ (0 : Int) ∧ (0 : Int) < ((2 : Nat) : Int)), .cell ⟨p_w_, 1, none⟩ (.int .i64 s.2.root0)]) ⟨⟨by decide, by decide⟩, H.cell 0 rfl rfl, trivial⟩ fun a hE => ?_
     rcases Bool.eq_false_or_eq_true (t_7.1 == s.2.root0) with c | c
     ·replace hE := hE.dec 98 c (by kernel_rfl)
      replace hm := cond_t c hm
      have c_2 := c
      refine WR.d hE 14 [.pointer (some ⟨al_w_.a__p, 0, none⟩)] [(98, .bool true), (102, .pointer (some ⟨al_w_.a__p, 0, none⟩)), (103, .int .i64 t_.1)] (obs := [.cell ⟨p_w_, 0, none⟩ (.pointer (some ⟨al_w_.a__p, 0, none⟩))]) ⟨H.cell 0 rfl rfl, trivial⟩ fun a hE => ?_
      obtain ⟨t_9, et_9, hm⟩ := bind_some hm
      refine WR.eff hE rfl rfl rfl rfl (OpTo.fn hE rfl rfl Tryz.call27 (arena_Arena_Give_ok et_9 H.t1)) ?_
      rintro _ w ⟨z5, z6, rfl, H⟩ a hE
      refine WR.e0 hE [(6, .bool t_9.1)] fun a hE => ?_
      replace H := thicketlaw9_world.shut (thicketlaw9_world.A.mk al_w_.a__p (arena_Arena.A.mk ((arena_Arena.A.mk al_w_.a__a.l_b al_w_.a__a.l_c z2 z3 al_w_.a__a.m__p).l_b) ((arena_Arena.A.mk al_w_.a__a.l_b al_w_.a__a.l_c z2 z3 al_w_.a__a.m__p).l_c) z5 z6 ((arena_Arena.A.mk al_w_.a__a.l_b al_w_.a__a.l_c z2 z3 al_w_.a__a.m__p).m__p)) al_w_.has0_b al_w_.has0_c al_w_.has1_b al_w_.has1_c) (thicketlaw9_world.mk t_9.2 s.2.root0 s.2.root1 s.2.has0 s.2.has1 s.2.next s.2.spent s.2.most) H.t3.t3.t2.t3
      cases hm
      exact hk _ _ ⟨arena_Arena.A.mk ((arena_Arena.A.mk al_w_.a__a.l_b al_w_.a__a.l_c z2 z3 al_w_.a__a.m__p).l_b) ((arena_Arena.A.mk al_w_.a__a.l_b al_w_.a__a.l_c z2 z3 al_w_.a__a.m__p).l_c) z5 z6 ((arena_Arena.A.mk al_w_.a__a.l_b al_w_.a__a.l_c z2 z3 al_w_.a__a.m__p).m__p), hE.sel [6] (by kernel_rfl), H⟩
     ·replace hE := hE.dec 98 c (by kernel_rfl)
      replace hm := cond_f c hm
      have c_3 := c
      refine WR.e0 hE [(6, .bool false)] fun a hE => ?_
      replace H := thicketlaw9_world.shut (thicketlaw9_world.A.mk al_w_.a__p (arena_Arena.A.mk al_w_.a__a.l_b al_w_.a__a.l_c z2 z3 al_w_.a__a.m__p) al_w_.has0_b al_w_.has0_c al_w_.has1_b al_w_.has1_c) (s.2) H.t3.t3.t3.t3
      cases hm
      exact hk _ _ ⟨arena_Arena.A.mk al_w_.a__a.l_b al_w_.a__a.l_c z2 z3 al_w_.a__a.m__p, hE.sel [6] (by kernel_rfl), H⟩
    rintro a w ⟨z4, hE, H⟩
    refine Runs.ret hE Tryz.func30 rfl rfl ?_
    cases hm
    exact ⟨z4, al_w_.has0_b, al_w_.has0_c, rfl, H⟩
   ·replace hm := cond_f c hm
    refine Runs.skip ?_
    refine Runs.sr ?_
    refine WR.d hE 6 [] [(108, .int .i64 t_7.1), (111, .pointer (some ⟨p_w_, 1, none⟩))] (obs := [.p (0 ≤ (0 : Int) ∧ (0 : Int) < ((2 : Nat) : Int))]) ⟨⟨by decide, by decide⟩, trivial⟩ fun a hE => ?_
    replace H := thicketlaw9_world.open H
    try dsimp only at H
    refine WR.eff0 hE rfl rfl rfl (OpTo.store hE H rfl rfl rfl rfl rfl rfl (Nat.le_of_ble_eq_true rfl)) ?_
    rintro _ w H a hE
    refine WR.done rfl ?_
    refine Runs.seq ?_
    replace H := thicketlaw9_world.shut (thicketlaw9_world.A.mk al_w_.a__p (arena_Arena.A.mk al_w_.a__a.l_b al_w_.a__a.l_c z2 z3 al_w_.a__a.m__p) al_w_.has0_b al_w_.has0_c al_w_.has1_b al_w_.has1_c) (thicketlaw9_world.mk s.2.a_ t_7.1 s.2.root1 s.2.has0 s.2.has1 s.2.next s.2.spent s.2.most) H.t3.t3.t3.t3
    obtain ⟨l, el, hm⟩ := bind_some hm
    obtain ⟨l1, el1, hm⟩ := bind_some hm
    refine Runs.join (fun a w => ∃ (z7 : Option Addr), ∃ (z8 : Nat), EnvOk 142 a [(0, .pointer (some ⟨p_w_, 0, none⟩))] ∧ St w0 (thicketlaw9_world.R p_w_ (thicketlaw9_world.A.mk al_w_.a__p (arena_Arena.A.mk al_w_.a__a.l_b al_w_.a__a.l_c z2 z3 al_w_.a__a.m__p) z7 z8 al_w_.has1_b al_w_.has1_c) (thicketlaw9_world.mk s.2.a_ t_7.1 s.2.root1 l1 s.2.has1 s.2.next s.2.spent s.2.most) :: As) w) (fun hk => ?_) ?_
    ·refine Runs.drawn mixed (by kernel_rfl) ?_
     replace H := H.drew
     replace H := thicketlaw9_world.open H
     try dsimp only at H
     refine WQ.d hE [0, 1, 3, 4, 5, 6, 7, 8, 10, 11, 12, 13, 14, 15, 16, 17, 20, 21] [.slice al_w_.has0_b s.2.has0.length al_w_.has0_c, .int .i64 s.2.next] [(113, .int .i64 0), (120, .slice al_w_.has0_b s.2.has0.length al_w_.has0_c), (129, .agg #[.int .i64 t_.1, .int .i64 key, .int .i64 s.2.next]), (133, .pointer (some ⟨p_w_, 3, none⟩))] (obs := [.p (0 ≤ (0 : Int) ∧ (0 : Int) < ((2 : Nat) : Int)), .cell ⟨p_w_, 3, none⟩ (.slice al_w_.has0_b s.2.has0.length al_w_.has0_c), .cell ⟨p_w_, 5, none⟩ (.int .i64 s.2.next)]) ⟨⟨by decide, by decide⟩, H.cell 0 rfl rfl, H.cell 0 rfl rfl, trivial⟩ fun a hE => ?_
     refine WQ.act2 2 18 (by kernel_rfl) ?_ ?_
     ·refine AQ.eff (j := 2) (obs := [.cell ⟨p_w_, 5, none⟩ (.int .i64 s.2.next), .cell ⟨p_w_, 3, none⟩ (.slice al_w_.has0_b s.2.has0.length al_w_.has0_c), .p (0 ≤ (0 : Int) ∧ (0 : Int) < ((2 : Nat) : Int))]) hE rfl rfl rfl rfl (by kernel_rfl) (OpTo.buildSl (T := 64) hE H thicketlaw9_held.enc_ok ([] : List thicketlaw9_held) rfl (fun _ => by kernel_rfl) rfl rfl rfl) ?_
      rintro _ w ⟨r2, rfl, H⟩
      refine ⟨⟨H.cell 1 rfl rfl, H.cell 1 rfl rfl, ⟨by decide, by decide⟩, trivial⟩, fun a hE => ?_⟩
      refine WQ.act2 9 18 (by kernel_rfl) ?_ ?_
      ·refine AQ.eff (j := 9) (obs := [.cell ⟨p_w_, 5, none⟩ (.int .i64 s.2.next)]) hE rfl rfl rfl rfl (by kernel_rfl) (OpTo.appendM el hE H thicketlaw9_held.enc_ok rfl rfl rfl rfl rfl rfl rfl rfl rfl rfl (SlRd.all (sl_rd 64 thicketlaw9_held.enc 3 _ _ _) thicketlaw9_held.enc_ok H 3 rfl) rfl) ?_
       rintro _ w ⟨sb2, sc2, rfl, H⟩
       refine ⟨⟨H.cell 1 rfl rfl, trivial⟩, fun a hE => ?_⟩
       refine WQ.eff (j := 18) (obs := []) hE (by kernel_rfl) rfl rfl rfl rfl (by kernel_rfl) (OpTo.buildSl (T := 64) hE H thicketlaw9_held.enc_ok ([thicketlaw9_held.mk t_.1 (api_Entry.mk key s.2.next)] : List thicketlaw9_held) rfl (fun _ => by kernel_rfl) rfl rfl rfl) ?_
       rintro _ w ⟨r3, rfl, H⟩
       refine ⟨trivial, fun a hE => ?_⟩
       replace H := H.t1
       refine WQ.eff (j := 19) (obs := []) hE (by kernel_rfl) rfl rfl rfl rfl (by kernel_rfl) (OpTo.appendM el1 hE H thicketlaw9_held.enc_ok rfl rfl rfl rfl rfl rfl rfl rfl rfl rfl (SlRd.all (sl_rd 64 thicketlaw9_held.enc 3 _ _ _) thicketlaw9_held.enc_ok H 1 rfl) rfl) ?_
       rintro _ w ⟨sb3, sc3, rfl, H⟩
       refine ⟨trivial, fun a hE => ?_⟩
       refine WQ.d hE [22] [] [(134, .pointer (some ⟨p_w_, 3, none⟩))] (obs := [.p (0 ≤ (0 : Int) ∧ (0 : Int) < ((2 : Nat) : Int))]) ⟨⟨by decide, by decide⟩, trivial⟩ fun a hE => ?_
       refine WQ.eff0 (j := 23) (obs := []) hE (by kernel_rfl) rfl rfl rfl (by kernel_rfl) (OpTo.store hE H.t2 rfl rfl rfl rfl rfl rfl (Nat.le_of_ble_eq_true rfl)) ?_
       rintro _ w H
       refine ⟨trivial, fun a hE => ?_⟩
       refine WQ.done (by kernel_rfl) ?_
       replace H := thicketlaw9_world.shut (thicketlaw9_world.A.mk al_w_.a__p (arena_Arena.A.mk al_w_.a__a.l_b al_w_.a__a.l_c z2 z3 al_w_.a__a.m__p) sb3 sc3 al_w_.has1_b al_w_.has1_c) (thicketlaw9_world.mk s.2.a_ t_7.1 s.2.root1 l1 s.2.has1 s.2.next s.2.spent s.2.most) H.t5.t2.t4.t3
       exact hk _ _ ⟨sb3, sc3, hE.sel [0] (by kernel_rfl), H.x2.x1⟩
      ·refine AQ.eff (j := 18) (obs := [.cell ⟨p_w_, 3, none⟩ (.slice al_w_.has0_b s.2.has0.length al_w_.has0_c), .p (0 ≤ (0 : Int) ∧ (0 : Int) < ((2 : Nat) : Int))]) hE rfl rfl rfl rfl (by kernel_rfl) (OpTo.buildSl (T := 64) hE H thicketlaw9_held.enc_ok ([thicketlaw9_held.mk t_.1 (api_Entry.mk key s.2.next)] : List thicketlaw9_held) rfl (fun _ => by kernel_rfl) rfl rfl rfl) ?_
       rintro _ w ⟨r4, rfl, H⟩
       refine ⟨⟨H.cell 2 rfl rfl, ⟨by decide, by decide⟩, trivial⟩, fun a hE => ?_⟩
       replace H := H.t1
       refine WQ.eff (j := 9) (obs := []) hE (by kernel_rfl) rfl rfl rfl rfl (by kernel_rfl) (OpTo.appendM el hE H thicketlaw9_held.enc_ok rfl rfl rfl rfl rfl rfl rfl rfl rfl rfl (SlRd.all (sl_rd 64 thicketlaw9_held.enc 3 _ _ _) thicketlaw9_held.enc_ok H 4 rfl) rfl) ?_
       rintro _ w ⟨sb4, sc4, rfl, H⟩
       refine ⟨trivial, fun a hE => ?_⟩
       refine WQ.eff (j := 19) (obs := []) hE (by kernel_rfl) rfl rfl rfl rfl (by kernel_rfl) (OpTo.appendM el1 hE H thicketlaw9_held.enc_ok rfl rfl rfl rfl rfl rfl rfl rfl rfl rfl (SlRd.all (sl_rd 64 thicketlaw9_held.enc 3 _ _ _) thicketlaw9_held.enc_ok H 1 rfl) rfl) ?_
       rintro _ w ⟨sb5, sc5, rfl, H⟩
       refine ⟨trivial, fun a hE => ?_⟩
       refine WQ.d hE [22] [] [(134, .pointer (some ⟨p_w_, 3, none⟩))] (obs := [.p (0 ≤ (0 : Int) ∧ (0 : Int) < ((2 : Nat) : Int))]) ⟨⟨by decide, by decide⟩, trivial⟩ fun a hE => ?_
       refine WQ.eff0 (j := 23) (obs := []) hE (by kernel_rfl) rfl rfl rfl (by kernel_rfl) (OpTo.store hE H.t2 rfl rfl rfl rfl rfl rfl (Nat.le_of_ble_eq_true rfl)) ?_
       rintro _ w H
       refine ⟨trivial, fun a hE => ?_⟩
       refine WQ.done (by kernel_rfl) ?_
       replace H := thicketlaw9_world.shut (thicketlaw9_world.A.mk al_w_.a__p (arena_Arena.A.mk al_w_.a__a.l_b al_w_.a__a.l_c z2 z3 al_w_.a__a.m__p) sb5 sc5 al_w_.has1_b al_w_.has1_c) (thicketlaw9_world.mk s.2.a_ t_7.1 s.2.root1 l1 s.2.has1 s.2.next s.2.spent s.2.most) H.t5.t2.t4.t3
       exact hk _ _ ⟨sb5, sc5, hE.sel [0] (by kernel_rfl), H.x2.x1⟩
     ·refine AQ.eff (j := 18) (obs := [.cell ⟨p_w_, 3, none⟩ (.slice al_w_.has0_b s.2.has0.length al_w_.has0_c), .p (0 ≤ (0 : Int) ∧ (0 : Int) < ((2 : Nat) : Int))]) hE rfl rfl rfl rfl (by kernel_rfl) (OpTo.buildSl (T := 64) hE H thicketlaw9_held.enc_ok ([thicketlaw9_held.mk t_.1 (api_Entry.mk key s.2.next)] : List thicketlaw9_held) rfl (fun _ => by kernel_rfl) rfl rfl rfl) ?_
      rintro _ w ⟨r5, rfl, H⟩
      refine ⟨⟨H.cell 1 rfl rfl, ⟨by decide, by decide⟩, trivial⟩, fun a hE => ?_⟩
      refine WQ.eff (j := 2) (obs := [.cell ⟨p_w_, 3, none⟩ (.slice al_w_.has0_b s.2.has0.length al_w_.has0_c), .p (0 ≤ (0 : Int) ∧ (0 : Int) < ((2 : Nat) : Int))]) hE (by kernel_rfl) rfl rfl rfl rfl (by kernel_rfl) (OpTo.buildSl (T := 64) hE H thicketlaw9_held.enc_ok ([] : List thicketlaw9_held) rfl (fun _ => by kernel_rfl) rfl rfl rfl) ?_
      rintro _ w ⟨r6, rfl, H⟩
      refine ⟨⟨H.cell 2 rfl rfl, ⟨by decide, by decide⟩, trivial⟩, fun a hE => ?_⟩
      refine WQ.eff (j := 9) (obs := []) hE (by kernel_rfl) rfl rfl rfl rfl (by kernel_rfl) (OpTo.appendM el hE H thicketlaw9_held.enc_ok rfl rfl rfl rfl rfl rfl rfl rfl rfl rfl (SlRd.all (sl_rd 64 thicketlaw9_held.enc 3 _ _ _) thicketlaw9_held.enc_ok H 4 rfl) rfl) ?_
      rintro _ w ⟨sb6, sc6, rfl, H⟩
      refine ⟨trivial, fun a hE => ?_⟩
      refine WQ.eff (j := 19) (obs := []) hE (by kernel_rfl) rfl rfl rfl rfl (by kernel_rfl) (OpTo.appendM el1 hE H thicketlaw9_held.enc_ok rfl rfl rfl rfl rfl rfl rfl rfl rfl rfl (SlRd.all (sl_rd 64 thicketlaw9_held.enc 3 _ _ _) thicketlaw9_held.enc_ok H 1 rfl) rfl) ?_
      rintro _ w ⟨sb7, sc7, rfl, H⟩
      refine ⟨trivial, fun a hE => ?_⟩
      refine WQ.d hE [22] [] [(134, .pointer (some ⟨p_w_, 3, none⟩))] (obs := [.p (0 ≤ (0 : Int) ∧ (0 : Int) < ((2 : Nat) : Int))]) ⟨⟨by decide, by decide⟩, trivial⟩ fun a hE => ?_
      refine WQ.eff0 (j := 23) (obs := []) hE (by kernel_rfl) rfl rfl rfl (by kernel_rfl) (OpTo.store hE H.t2 rfl rfl rfl rfl rfl rfl (Nat.le_of_ble_eq_true rfl)) ?_
      rintro _ w H
      refine ⟨trivial, fun a hE => ?_⟩
      refine WQ.done (by kernel_rfl) ?_
      replace H := thicketlaw9_world.shut (thicketlaw9_world.A.mk al_w_.a__p (arena_Arena.A.mk al_w_.a__a.l_b al_w_.a__a.l_c z2 z3 al_w_.a__a.m__p) sb7 sc7 al_w_.has1_b al_w_.has1_c) (thicketlaw9_world.mk s.2.a_ t_7.1 s.2.root1 l1 s.2.has1 s.2.next s.2.spent s.2.most) H.t5.t2.t4.t3
      exact hk _ _ ⟨sb7, sc7, hE.sel [0] (by kernel_rfl), H.x2.x1⟩
    rintro a w ⟨z7, z8, hE, H⟩
    refine Runs.sr ?_
    replace H := thicketlaw9_world.open H
    try dsimp only at H
    refine WR.seg hE 7 [.int .i64 ((thicketlaw9_world.mk s.2.a_ t_7.1 s.2.root1 l1 s.2.has1 s.2.next s.2.spent s.2.most).next)] [139, 141] (Lo := [(139, .int .i64 (w64 (((thicketlaw9_world.mk s.2.a_ t_7.1 s.2.root1 l1 s.2.has1 s.2.next s.2.spent s.2.most).next) + 1))), (141, .pointer (some ⟨p_w_, 5, none⟩))]) (obs := [.cell ⟨p_w_, 5, none⟩ (.int .i64 ((thicketlaw9_world.mk s.2.a_ t_7.1 s.2.root1 l1 s.2.has1 s.2.next s.2.spent s.2.most).next))]) rfl (by kernel_rfl) ⟨H.cell 0 rfl rfl, trivial⟩ fun a hE => ?_
    refine WR.eff0 hE rfl rfl rfl (OpTo.store hE H rfl rfl rfl rfl rfl rfl (Nat.le_of_ble_eq_true rfl)) ?_
    rintro _ w H a hE
    refine WR.done rfl ?_
    refine Runs.sr ?_
    refine WR.e0 hE [(6, .bool true)] fun a hE => ?_
    replace H := thicketlaw9_world.shut (thicketlaw9_world.A.mk al_w_.a__p (arena_Arena.A.mk al_w_.a__a.l_b al_w_.a__a.l_c z2 z3 al_w_.a__a.m__p) z7 z8 al_w_.has1_b al_w_.has1_c) (thicketlaw9_world.mk ((thicketlaw9_world.mk s.2.a_ t_7.1 s.2.root1 l1 s.2.has1 s.2.next s.2.spent s.2.most).a_) ((thicketlaw9_world.mk s.2.a_ t_7.1 s.2.root1 l1 s.2.has1 s.2.next s.2.spent s.2.most).root0) ((thicketlaw9_world.mk s.2.a_ t_7.1 s.2.root1 l1 s.2.has1 s.2.next s.2.spent s.2.most).root1) ((thicketlaw9_world.mk s.2.a_ t_7.1 s.2.root1 l1 s.2.has1 s.2.next s.2.spent s.2.most).has0) ((thicketlaw9_world.mk s.2.a_ t_7.1 s.2.root1 l1 s.2.has1 s.2.next s.2.spent s.2.most).has1) (w64 (((thicketlaw9_world.mk s.2.a_ t_7.1 s.2.root1 l1 s.2.has1 s.2.next s.2.spent s.2.most).next) + 1)) ((thicketlaw9_world.mk s.2.a_ t_7.1 s.2.root1 l1 s.2.has1 s.2.next s.2.spent s.2.most).spent) ((thicketlaw9_world.mk s.2.a_ t_7.1 s.2.root1 l1 s.2.has1 s.2.next s.2.spent s.2.most).most)) H.t3.t3.t3.t3
    refine Runs.ret hE Tryz.func30 rfl rfl ?_
    cases hm
    exact ⟨arena_Arena.A.mk al_w_.a__a.l_b al_w_.a__a.l_c z2 z3 al_w_.a__a.m__p, z7, z8, rfl, H⟩

theorem thicketlaw9_world_push_at1_ok {w0 w : World} {As : List HP} {k : Nat} {p_w_ : Nat} {al_w_ : thicketlaw9_world.A} {w_ : thicketlaw9_world} {key : Int} {t : Bool × thicketlaw9_world}  (hm : thicketlaw9_world_push_at1 k w_ key = some t) (H : St w0 (thicketlaw9_world.R p_w_ al_w_ w_ :: As) w) :
    CallsR Tryz.prog 30 #[.pointer (some ⟨p_w_, 0, none⟩), .int .i64 1, .int .i64 key] w fun v w' => ∃ (z_w__a__a : arena_Arena.A), ∃ (z_w__has1_b : Option Addr), ∃ (z_w__has1_c : Nat), v = .bool t.1 ∧ St w0 (thicketlaw9_world.R p_w_ (thicketlaw9_world.A.mk al_w_.a__p z_w__a__a al_w_.has0_b al_w_.has0_c z_w__has1_b z_w__has1_c) t.2 :: As) w' := by
 rw [thicketlaw9_world_push_at1] at hm
 refine enter (args := [.pointer (some ⟨p_w_, 0, none⟩), .int .i64 1, .int .i64 key]) Tryz.func30 rfl rfl rfl fun a hE => ?_
 refine Runs.sr ?_
 refine WR.seg hE 1 [] [0, 1, 2] (Lo := [(0, .pointer (some ⟨p_w_, 0, none⟩)), (1, .int .i64 1), (2, .int .i64 key)]) (obs := []) rfl (by kernel_rfl) trivial fun a hE => ?_
 refine WR.done rfl ?_
 refine Runs.seq ?_
 refine Runs.drawn mixed (by kernel_rfl) ?_
 replace H := H.drew
 replace H := thicketlaw9_world.open H
 refine WQ.d hE [0, 1, 2, 3, 4, 5, 6, 7, 8] [.pointer (some ⟨al_w_.a__p, 0, none⟩), .int .i64 w_.next] [(17, .pointer (some ⟨al_w_.a__p, 0, none⟩)), (18, .int .i64 key), (22, .int .i64 w_.next)] (obs := [.cell ⟨p_w_, 0, none⟩ (.pointer (some ⟨al_w_.a__p, 0, none⟩)), .cell ⟨p_w_, 5, none⟩ (.int .i64 w_.next)]) ⟨H.cell 0 rfl rfl, H.cell 0 rfl rfl, trivial⟩ fun a hE => ?_
 obtain ⟨t_, et_, hm⟩ := bind_some hm
 refine WQ.eff (j := 9) (obs := []) hE (by kernel_rfl) rfl rfl rfl rfl (by kernel_rfl) (OpTo.fn hE rfl rfl Tryz.call19 (item_New_ok et_ H.t1)) ?_
 rintro _ w ⟨z, z1, rfl, H⟩
 refine ⟨trivial, fun a hE => ?_⟩
 refine WQ.d0 hE [10, 11, 12, 13, 14] [(7, .int .i64 t_.1), (8, .bool t_.2.1)] fun a hE => ?_
 refine WQ.done (by kernel_rfl) ?_
 refine Runs.seq ?_
 refine Runs.sr ?_
 refine WR.e0 hE [(27, .bool (!t_.2.1))] fun a hE => ?_
 refine Runs.cond hE rfl (fun c => ?_) (fun c => ?_)
 ·replace hm := cond_t c hm
  refine Runs.seq ?_
  refine Runs.drawn mixed (by kernel_rfl) ?_
  replace H := H.drew
  refine WQ.d hE [0, 1, 2, 3, 5, 6, 7, 8] [.pointer (some ⟨al_w_.a__p, 0, none⟩), .pointer (some ⟨al_w_.a__p, 0, none⟩)] [(31, .pointer (some ⟨al_w_.a__p, 0, none⟩)), (36, .pointer (some ⟨al_w_.a__p, 0, none⟩))] (obs := [.cell ⟨p_w_, 0, none⟩ (.pointer (some ⟨al_w_.a__p, 0, none⟩)), .cell ⟨p_w_, 0, none⟩ (.pointer (some ⟨al_w_.a__p, 0, none⟩))]) ⟨H.cell 1 rfl rfl, H.cell 1 rfl rfl, trivial⟩ fun a hE => ?_
  obtain ⟨t_1, et_1, hm⟩ := bind_some hm
  refine WQ.eff (j := 4) (obs := [.cell ⟨p_w_, 0, none⟩ (.pointer (some ⟨al_w_.a__p, 0, none⟩))]) hE (by kernel_rfl) rfl rfl rfl rfl (by kernel_rfl) (OpTo.fn hE rfl rfl Tryz.call28 (arena_Arena_Len_ok et_1 H)) ?_
  rintro _ w ⟨rfl, H⟩
  refine ⟨⟨H.cell 1 rfl rfl, trivial⟩, fun a hE => ?_⟩
  obtain ⟨t_2, et_2, hm⟩ := bind_some hm
  refine WQ.eff (j := 9) (obs := []) hE (by kernel_rfl) rfl rfl rfl rfl (by kernel_rfl) (OpTo.fn hE rfl rfl Tryz.call67 (arena_Arena_Cells_ok et_2 H)) ?_
  rintro _ w ⟨rfl, H⟩
  refine ⟨trivial, fun a hE => ?_⟩
  refine WQ.d0 hE [10, 11] [(6, .bool (t_1 == t_2))] fun a hE => ?_
  refine WQ.done (by kernel_rfl) ?_
  replace H := thicketlaw9_world.shut (thicketlaw9_world.A.mk al_w_.a__p (arena_Arena.A.mk al_w_.a__a.l_b al_w_.a__a.l_c z z1 al_w_.a__a.m__p) al_w_.has0_b al_w_.has0_c al_w_.has1_b al_w_.has1_c) (thicketlaw9_world.mk t_.2.2 w_.root0 w_.root1 w_.has0 w_.has1 w_.next w_.spent w_.most) H.t3.t3.t2.t3
  refine Runs.ret hE Tryz.func30 rfl rfl ?_
  cases hm
  exact ⟨arena_Arena.A.mk al_w_.a__a.l_b al_w_.a__a.l_c z z1 al_w_.a__a.m__p, al_w_.has1_b, al_w_.has1_c, rfl, H⟩
 ·replace hm := cond_f c hm
  refine Runs.skip ?_
  refine Runs.seq ?_
  refine Runs.drawn mixed (by kernel_rfl) ?_
  replace H := H.drew
  refine WQ.d hE [0, 1, 2, 3, 5, 6, 7, 8] [.pointer (some ⟨al_w_.a__p, 0, none⟩), .pointer (some ⟨al_w_.a__p, 0, none⟩)] [(42, .pointer (some ⟨al_w_.a__p, 0, none⟩)), (47, .pointer (some ⟨al_w_.a__p, 0, none⟩))] (obs := [.cell ⟨p_w_, 0, none⟩ (.pointer (some ⟨al_w_.a__p, 0, none⟩)), .cell ⟨p_w_, 0, none⟩ (.pointer (some ⟨al_w_.a__p, 0, none⟩))]) ⟨H.cell 1 rfl rfl, H.cell 1 rfl rfl, trivial⟩ fun a hE => ?_
  obtain ⟨t_3, et_3, hm⟩ := bind_some hm
  refine WQ.eff (j := 4) (obs := [.cell ⟨p_w_, 0, none⟩ (.pointer (some ⟨al_w_.a__p, 0, none⟩))]) hE (by kernel_rfl) rfl rfl rfl rfl (by kernel_rfl) (OpTo.fn hE rfl rfl Tryz.call28 (arena_Arena_Len_ok et_3 H)) ?_
  rintro _ w ⟨rfl, H⟩
  refine ⟨⟨H.cell 1 rfl rfl, trivial⟩, fun a hE => ?_⟩
  obtain ⟨t_4, et_4, hm⟩ := bind_some hm
  refine WQ.eff (j := 9) (obs := []) hE (by kernel_rfl) rfl rfl rfl rfl (by kernel_rfl) (OpTo.fn hE rfl rfl Tryz.call67 (arena_Arena_Cells_ok et_4 H)) ?_
  rintro _ w ⟨rfl, H⟩
  refine ⟨trivial, fun a hE => ?_⟩
  refine WQ.d0 hE [10, 11] [(9, .bool (decide (t_3 < t_4)))] fun a hE => ?_
  refine WQ.done (by kernel_rfl) ?_
  refine Runs.sr ?_
  refine WR.d hE 4 [.pointer (some ⟨al_w_.a__p, 0, none⟩)] [(53, .pointer (some ⟨al_w_.a__p, 0, none⟩))] (obs := [.cell ⟨p_w_, 0, none⟩ (.pointer (some ⟨al_w_.a__p, 0, none⟩))]) ⟨H.cell 1 rfl rfl, trivial⟩ fun a hE => ?_
  obtain ⟨t_5, et_5, hm⟩ := bind_some hm
  refine WR.eff hE rfl rfl rfl rfl (OpTo.fn hE rfl rfl Tryz.call20 (arena_Arena_Meter_ok et_5 H)) ?_
  rintro _ w ⟨rfl, H⟩ a hE
  replace H := arena_Arena.open H
  try dsimp only at H
  obtain ⟨t_6, et_6, hm⟩ := bind_some hm
  refine WR.eff hE rfl rfl rfl rfl (OpTo.fn hE rfl rfl Tryz.call21 (meter_Meter_Steps_ok et_6 H.t3)) ?_
  rintro _ w ⟨rfl, H⟩ a hE
  refine WR.e0 hE [(10, .int .i64 t_6)] fun a hE => ?_
  refine Runs.seq ?_
  refine Runs.drawn mixed (by kernel_rfl) ?_
  replace H := H.drew
  refine WQ.d hE [0, 1, 2, 3, 4, 5, 6, 7, 8, 9, 10] [.pointer (some ⟨al_w_.a__p, 0, none⟩), .int .i64 w_.root1] [(60, .pointer (some ⟨al_w_.a__p, 0, none⟩)), (66, .int .i64 w_.root1), (67, .int .i64 t_.1)] (obs := [.cell ⟨p_w_, 0, none⟩ (.pointer (some ⟨al_w_.a__p, 0, none⟩)), .p (0 ≤ (1 : Int) ∧ (1 : Int) < ((2 : Nat) : Int)), .cell ⟨p_w_, 2, none⟩ (.int .i64 w_.root1)]) ⟨H.cell 4 rfl rfl, ⟨by decide, by decide⟩, H.cell 4 rfl rfl, trivial⟩ fun a hE => ?_
  replace H := arena_Arena.shut (arena_Arena.A.mk al_w_.a__a.l_b al_w_.a__a.l_c z z1 al_w_.a__a.m__p) (t_.2.2) H.t3.t3.t3
  obtain ⟨t_7, et_7, hm⟩ := bind_some hm
  refine WQ.eff (j := 11) (obs := []) hE (by kernel_rfl) rfl rfl rfl rfl (by kernel_rfl) (OpTo.fn hE rfl rfl Tryz.call22 (binomial_Push_ok et_7 H)) ?_
  rintro _ w ⟨z2, z3, rfl, H⟩
  refine ⟨trivial, fun a hE => ?_⟩
  refine WQ.d0 hE [12, 13, 14, 15, 16] [(11, .int .i64 t_7.1), (12, .bool t_7.2.1)] fun a hE => ?_
  refine WQ.done (by kernel_rfl) ?_
  refine Runs.seq ?_
  refine Runs.seq ?_
  replace H := thicketlaw9_world.shut (thicketlaw9_world.A.mk al_w_.a__p (arena_Arena.A.mk al_w_.a__a.l_b al_w_.a__a.l_c z2 z3 al_w_.a__a.m__p) al_w_.has0_b al_w_.has0_c al_w_.has1_b al_w_.has1_c) (thicketlaw9_world.mk t_7.2.2 w_.root0 w_.root1 w_.has0 w_.has1 w_.next w_.spent w_.most) H.t3.t3.t2.t3
  obtain ⟨s, es, hm⟩ := bind_some hm
  refine Runs.join (fun a w => EnvOk 142 a [(0, .pointer (some ⟨p_w_, 0, none⟩)), (1, .int .i64 1), (2, .int .i64 key), (7, .int .i64 t_.1), (11, .int .i64 t_7.1), (12, .bool t_7.2.1), (87, .bool s.1)] ∧ St w0 (thicketlaw9_world.R p_w_ (thicketlaw9_world.A.mk al_w_.a__p (arena_Arena.A.mk al_w_.a__a.l_b al_w_.a__a.l_c z2 z3 al_w_.a__a.m__p) al_w_.has0_b al_w_.has0_c al_w_.has1_b al_w_.has1_c) s.2 :: As) w) (fun hk => ?_) ?_
  ·replace hm := es; clear es
   refine Runs.region ?_
   replace H := thicketlaw9_world.open H
   try dsimp only at H
   refine WR.d hE 10 [.slice al_w_.has1_b w_.has1.length al_w_.has1_c] [(71, .pointer (some ⟨p_w_, 0, none⟩)), (72, .int .i64 t_6), (80, .int .i64 (w64 ((w_.has1.length : Int) + 1)))] (obs := [.p (0 ≤ (1 : Int) ∧ (1 : Int) < ((2 : Nat) : Int)), .cell ⟨p_w_, 4, none⟩ (.slice al_w_.has1_b w_.has1.length al_w_.has1_c)]) ⟨⟨by decide, by decide⟩, H.cell 0 rfl rfl, trivial⟩ fun a hE => ?_
   replace H := thicketlaw9_world.shut (thicketlaw9_world.A.mk al_w_.a__p (arena_Arena.A.mk al_w_.a__a.l_b al_w_.a__a.l_c z2 z3 al_w_.a__a.m__p) al_w_.has0_b al_w_.has0_c al_w_.has1_b al_w_.has1_c) (thicketlaw9_world.mk t_7.2.2 w_.root0 w_.root1 w_.has0 w_.has1 w_.next w_.spent w_.most) H.t3.t3.t3.t3
   obtain ⟨t_8, et_8, hm⟩ := bind_some hm
   refine WR.eff hE rfl rfl rfl rfl (OpTo.fn hE rfl rfl Tryz.call23 (thicketlaw9_world_cost_ok et_8 H)) ?_
   rintro _ w ⟨rfl, hf, hf1, H⟩ a hE
   refine WR.d0 hE 13 [(83, .bool (!t_8.1))] fun a hE => ?_
   rcases Bool.eq_false_or_eq_true (!t_8.1) with c | c
   ·replace hE := hE.dec 83 c (by kernel_rfl)
    replace hm := cond_t c hm
    have c_ := c
    refine WR.e0 hE [(87, .bool true)] fun a hE => ?_
    cases hm
    exact hk _ _ ⟨hE.sel [0, 1, 2, 7, 11, 12, 87] (by kernel_rfl), H⟩
   ·replace hE := hE.dec 83 c (by kernel_rfl)
    replace hm := cond_f c hm
    have c_1 := c
    refine WR.e0 hE [(87, .bool (!(t_7.2.1 == (decide (t_3 < t_4)))))] fun a hE => ?_
    cases hm
    exact hk _ _ ⟨hE.sel [0, 1, 2, 7, 11, 12, 87] (by kernel_rfl), H⟩
  rintro a w ⟨hE, H⟩
  refine Runs.cond hE rfl (fun c => ?_) (fun c => ?_)
  ·replace hm := cond_t c hm
   refine Runs.sr ?_
   refine WR.seg hE 1 [] [6] (Lo := [(6, .bool false)]) (obs := []) rfl (by kernel_rfl) trivial fun a hE => ?_
   refine WR.done rfl ?_
   refine Runs.ret hE Tryz.func30 rfl rfl ?_
   cases hm
   exact ⟨arena_Arena.A.mk al_w_.a__a.l_b al_w_.a__a.l_c z2 z3 al_w_.a__a.m__p, al_w_.has1_b, al_w_.has1_c, rfl, H⟩
  ·replace hm := cond_f c hm
   refine Runs.skip ?_
   refine Runs.seq ?_
   refine Runs.sr ?_
   refine WR.seg hE 2 [] [0, 1, 2, 7, 11, 89] (Lo := [(0, .pointer (some ⟨p_w_, 0, none⟩)), (1, .int .i64 1), (2, .int .i64 key), (7, .int .i64 t_.1), (11, .int .i64 t_7.1), (89, .bool (!t_7.2.1))]) (obs := []) rfl (by kernel_rfl) trivial fun a hE => ?_
   refine WR.done rfl ?_
   refine Runs.cond hE rfl (fun c => ?_) (fun c => ?_)
   ·replace hm := cond_t c hm
    refine Runs.seq ?_
    obtain ⟨s1, es1, hm⟩ := bind_some hm
    refine Runs.join (fun a w => ∃ (z4 : arena_Arena.A), EnvOk 142 a [(6, .bool s1.1)] ∧ St w0 (thicketlaw9_world.R p_w_ (thicketlaw9_world.A.mk al_w_.a__p z4 al_w_.has0_b al_w_.has0_c al_w_.has1_b al_w_.has1_c) s1.2 :: As) w) (fun hk => ?_) ?_
    ·replace hm := es1; clear es1
     refine Runs.region ?_
     replace H := thicketlaw9_world.open H
     try dsimp only at H
     refine WR.d hE 9 [.int .i64 s.2.root1] [(98, .bool (t_7.1 == s.2.root1))] (obs := [.p (0 ≤ (1 : Int) ∧ (1 : Int) < ((2 : Nat) : Int)), .cell ⟨p_w_, 2, none⟩ (.int .i64 s.2.root1)]) ⟨⟨by decide, by decide⟩, H.cell 0 rfl rfl, trivial⟩ fun a hE => ?_
     rcases Bool.eq_false_or_eq_true (t_7.1 == s.2.root1) with c | c
     ·replace hE := hE.dec 98 c (by kernel_rfl)
      replace hm := cond_t c hm
      have c_2 := c
      refine WR.d hE 14 [.pointer (some ⟨al_w_.a__p, 0, none⟩)] [(98, .bool true), (102, .pointer (some ⟨al_w_.a__p, 0, none⟩)), (103, .int .i64 t_.1)] (obs := [.cell ⟨p_w_, 0, none⟩ (.pointer (some ⟨al_w_.a__p, 0, none⟩))]) ⟨H.cell 0 rfl rfl, trivial⟩ fun a hE => ?_
      obtain ⟨t_9, et_9, hm⟩ := bind_some hm
      refine WR.eff hE rfl rfl rfl rfl (OpTo.fn hE rfl rfl Tryz.call27 (arena_Arena_Give_ok et_9 H.t1)) ?_
      rintro _ w ⟨z5, z6, rfl, H⟩ a hE
      refine WR.e0 hE [(6, .bool t_9.1)] fun a hE => ?_
      replace H := thicketlaw9_world.shut (thicketlaw9_world.A.mk al_w_.a__p (arena_Arena.A.mk ((arena_Arena.A.mk al_w_.a__a.l_b al_w_.a__a.l_c z2 z3 al_w_.a__a.m__p).l_b) ((arena_Arena.A.mk al_w_.a__a.l_b al_w_.a__a.l_c z2 z3 al_w_.a__a.m__p).l_c) z5 z6 ((arena_Arena.A.mk al_w_.a__a.l_b al_w_.a__a.l_c z2 z3 al_w_.a__a.m__p).m__p)) al_w_.has0_b al_w_.has0_c al_w_.has1_b al_w_.has1_c) (thicketlaw9_world.mk t_9.2 s.2.root0 s.2.root1 s.2.has0 s.2.has1 s.2.next s.2.spent s.2.most) H.t3.t3.t2.t3
      cases hm
      exact hk _ _ ⟨arena_Arena.A.mk ((arena_Arena.A.mk al_w_.a__a.l_b al_w_.a__a.l_c z2 z3 al_w_.a__a.m__p).l_b) ((arena_Arena.A.mk al_w_.a__a.l_b al_w_.a__a.l_c z2 z3 al_w_.a__a.m__p).l_c) z5 z6 ((arena_Arena.A.mk al_w_.a__a.l_b al_w_.a__a.l_c z2 z3 al_w_.a__a.m__p).m__p), hE.sel [6] (by kernel_rfl), H⟩
     ·replace hE := hE.dec 98 c (by kernel_rfl)
      replace hm := cond_f c hm
      have c_3 := c
      refine WR.e0 hE [(6, .bool false)] fun a hE => ?_
      replace H := thicketlaw9_world.shut (thicketlaw9_world.A.mk al_w_.a__p (arena_Arena.A.mk al_w_.a__a.l_b al_w_.a__a.l_c z2 z3 al_w_.a__a.m__p) al_w_.has0_b al_w_.has0_c al_w_.has1_b al_w_.has1_c) (s.2) H.t3.t3.t3.t3
      cases hm
      exact hk _ _ ⟨arena_Arena.A.mk al_w_.a__a.l_b al_w_.a__a.l_c z2 z3 al_w_.a__a.m__p, hE.sel [6] (by kernel_rfl), H⟩
    rintro a w ⟨z4, hE, H⟩
    refine Runs.ret hE Tryz.func30 rfl rfl ?_
    cases hm
    exact ⟨z4, al_w_.has1_b, al_w_.has1_c, rfl, H⟩
   ·replace hm := cond_f c hm
    refine Runs.skip ?_
    refine Runs.sr ?_
    refine WR.d hE 6 [] [(108, .int .i64 t_7.1), (111, .pointer (some ⟨p_w_, 2, none⟩))] (obs := [.p (0 ≤ (1 : Int) ∧ (1 : Int) < ((2 : Nat) : Int))]) ⟨⟨by decide, by decide⟩, trivial⟩ fun a hE => ?_
    replace H := thicketlaw9_world.open H
    try dsimp only at H
    refine WR.eff0 hE rfl rfl rfl (OpTo.store hE H rfl rfl rfl rfl rfl rfl (Nat.le_of_ble_eq_true rfl)) ?_
    rintro _ w H a hE
    refine WR.done rfl ?_
    refine Runs.seq ?_
    replace H := thicketlaw9_world.shut (thicketlaw9_world.A.mk al_w_.a__p (arena_Arena.A.mk al_w_.a__a.l_b al_w_.a__a.l_c z2 z3 al_w_.a__a.m__p) al_w_.has0_b al_w_.has0_c al_w_.has1_b al_w_.has1_c) (thicketlaw9_world.mk s.2.a_ s.2.root0 t_7.1 s.2.has0 s.2.has1 s.2.next s.2.spent s.2.most) H.t3.t3.t3.t3
    obtain ⟨l, el, hm⟩ := bind_some hm
    obtain ⟨l1, el1, hm⟩ := bind_some hm
    refine Runs.join (fun a w => ∃ (z7 : Option Addr), ∃ (z8 : Nat), EnvOk 142 a [(0, .pointer (some ⟨p_w_, 0, none⟩))] ∧ St w0 (thicketlaw9_world.R p_w_ (thicketlaw9_world.A.mk al_w_.a__p (arena_Arena.A.mk al_w_.a__a.l_b al_w_.a__a.l_c z2 z3 al_w_.a__a.m__p) al_w_.has0_b al_w_.has0_c z7 z8) (thicketlaw9_world.mk s.2.a_ s.2.root0 t_7.1 s.2.has0 l1 s.2.next s.2.spent s.2.most) :: As) w) (fun hk => ?_) ?_
    ·refine Runs.drawn mixed (by kernel_rfl) ?_
     replace H := H.drew
     replace H := thicketlaw9_world.open H
     try dsimp only at H
     refine WQ.d hE [0, 1, 3, 4, 5, 6, 7, 8, 10, 11, 12, 13, 14, 15, 16, 17, 20, 21] [.slice al_w_.has1_b s.2.has1.length al_w_.has1_c, .int .i64 s.2.next] [(113, .int .i64 1), (120, .slice al_w_.has1_b s.2.has1.length al_w_.has1_c), (129, .agg #[.int .i64 t_.1, .int .i64 key, .int .i64 s.2.next]), (133, .pointer (some ⟨p_w_, 3, none⟩))] (obs := [.p (0 ≤ (1 : Int) ∧ (1 : Int) < ((2 : Nat) : Int)), .cell ⟨p_w_, 4, none⟩ (.slice al_w_.has1_b s.2.has1.length al_w_.has1_c), .cell ⟨p_w_, 5, none⟩ (.int .i64 s.2.next)]) ⟨⟨by decide, by decide⟩, H.cell 0 rfl rfl, H.cell 0 rfl rfl, trivial⟩ fun a hE => ?_
     refine WQ.act2 2 18 (by kernel_rfl) ?_ ?_
     ·refine AQ.eff (j := 2) (obs := [.cell ⟨p_w_, 5, none⟩ (.int .i64 s.2.next), .cell ⟨p_w_, 4, none⟩ (.slice al_w_.has1_b s.2.has1.length al_w_.has1_c), .p (0 ≤ (1 : Int) ∧ (1 : Int) < ((2 : Nat) : Int))]) hE rfl rfl rfl rfl (by kernel_rfl) (OpTo.buildSl (T := 64) hE H thicketlaw9_held.enc_ok ([] : List thicketlaw9_held) rfl (fun _ => by kernel_rfl) rfl rfl rfl) ?_
      rintro _ w ⟨r2, rfl, H⟩
      refine ⟨⟨H.cell 1 rfl rfl, H.cell 1 rfl rfl, ⟨by decide, by decide⟩, trivial⟩, fun a hE => ?_⟩
      refine WQ.act2 9 18 (by kernel_rfl) ?_ ?_
      ·refine AQ.eff (j := 9) (obs := [.cell ⟨p_w_, 5, none⟩ (.int .i64 s.2.next)]) hE rfl rfl rfl rfl (by kernel_rfl) (OpTo.appendM el hE H thicketlaw9_held.enc_ok rfl rfl rfl rfl rfl rfl rfl rfl rfl rfl (SlRd.all (sl_rd 64 thicketlaw9_held.enc 3 _ _ _) thicketlaw9_held.enc_ok H 4 rfl) rfl) ?_
       rintro _ w ⟨sb2, sc2, rfl, H⟩
       refine ⟨⟨H.cell 1 rfl rfl, trivial⟩, fun a hE => ?_⟩
       refine WQ.eff (j := 18) (obs := []) hE (by kernel_rfl) rfl rfl rfl rfl (by kernel_rfl) (OpTo.buildSl (T := 64) hE H thicketlaw9_held.enc_ok ([thicketlaw9_held.mk t_.1 (api_Entry.mk key s.2.next)] : List thicketlaw9_held) rfl (fun _ => by kernel_rfl) rfl rfl rfl) ?_
       rintro _ w ⟨r3, rfl, H⟩
       refine ⟨trivial, fun a hE => ?_⟩
       replace H := H.t1
       refine WQ.eff (j := 19) (obs := []) hE (by kernel_rfl) rfl rfl rfl rfl (by kernel_rfl) (OpTo.appendM el1 hE H thicketlaw9_held.enc_ok rfl rfl rfl rfl rfl rfl rfl rfl rfl rfl (SlRd.all (sl_rd 64 thicketlaw9_held.enc 3 _ _ _) thicketlaw9_held.enc_ok H 1 rfl) rfl) ?_
       rintro _ w ⟨sb3, sc3, rfl, H⟩
       refine ⟨trivial, fun a hE => ?_⟩
       refine WQ.d hE [22] [] [(134, .pointer (some ⟨p_w_, 4, none⟩))] (obs := [.p (0 ≤ (1 : Int) ∧ (1 : Int) < ((2 : Nat) : Int))]) ⟨⟨by decide, by decide⟩, trivial⟩ fun a hE => ?_
       refine WQ.eff0 (j := 23) (obs := []) hE (by kernel_rfl) rfl rfl rfl (by kernel_rfl) (OpTo.store hE H.t2 rfl rfl rfl rfl rfl rfl (Nat.le_of_ble_eq_true rfl)) ?_
       rintro _ w H
       refine ⟨trivial, fun a hE => ?_⟩
       refine WQ.done (by kernel_rfl) ?_
       replace H := thicketlaw9_world.shut (thicketlaw9_world.A.mk al_w_.a__p (arena_Arena.A.mk al_w_.a__a.l_b al_w_.a__a.l_c z2 z3 al_w_.a__a.m__p) al_w_.has0_b al_w_.has0_c sb3 sc3) (thicketlaw9_world.mk s.2.a_ s.2.root0 t_7.1 s.2.has0 l1 s.2.next s.2.spent s.2.most) H.t1.t4.t4.t3
       exact hk _ _ ⟨sb3, sc3, hE.sel [0] (by kernel_rfl), H.x2.x1⟩
      ·refine AQ.eff (j := 18) (obs := [.cell ⟨p_w_, 4, none⟩ (.slice al_w_.has1_b s.2.has1.length al_w_.has1_c), .p (0 ≤ (1 : Int) ∧ (1 : Int) < ((2 : Nat) : Int))]) hE rfl rfl rfl rfl (by kernel_rfl) (OpTo.buildSl (T := 64) hE H thicketlaw9_held.enc_ok ([thicketlaw9_held.mk t_.1 (api_Entry.mk key s.2.next)] : List thicketlaw9_held) rfl (fun _ => by kernel_rfl) rfl rfl rfl) ?_
       rintro _ w ⟨r4, rfl, H⟩
       refine ⟨⟨H.cell 2 rfl rfl, ⟨by decide, by decide⟩, trivial⟩, fun a hE => ?_⟩
       replace H := H.t1
       refine WQ.eff (j := 9) (obs := []) hE (by kernel_rfl) rfl rfl rfl rfl (by kernel_rfl) (OpTo.appendM el hE H thicketlaw9_held.enc_ok rfl rfl rfl rfl rfl rfl rfl rfl rfl rfl (SlRd.all (sl_rd 64 thicketlaw9_held.enc 3 _ _ _) thicketlaw9_held.enc_ok H 5 rfl) rfl) ?_
       rintro _ w ⟨sb4, sc4, rfl, H⟩
       refine ⟨trivial, fun a hE => ?_⟩
       refine WQ.eff (j := 19) (obs := []) hE (by kernel_rfl) rfl rfl rfl rfl (by kernel_rfl) (OpTo.appendM el1 hE H thicketlaw9_held.enc_ok rfl rfl rfl rfl rfl rfl rfl rfl rfl rfl (SlRd.all (sl_rd 64 thicketlaw9_held.enc 3 _ _ _) thicketlaw9_held.enc_ok H 1 rfl) rfl) ?_
       rintro _ w ⟨sb5, sc5, rfl, H⟩
       refine ⟨trivial, fun a hE => ?_⟩
       refine WQ.d hE [22] [] [(134, .pointer (some ⟨p_w_, 4, none⟩))] (obs := [.p (0 ≤ (1 : Int) ∧ (1 : Int) < ((2 : Nat) : Int))]) ⟨⟨by decide, by decide⟩, trivial⟩ fun a hE => ?_
       refine WQ.eff0 (j := 23) (obs := []) hE (by kernel_rfl) rfl rfl rfl (by kernel_rfl) (OpTo.store hE H.t2 rfl rfl rfl rfl rfl rfl (Nat.le_of_ble_eq_true rfl)) ?_
       rintro _ w H
       refine ⟨trivial, fun a hE => ?_⟩
       refine WQ.done (by kernel_rfl) ?_
       replace H := thicketlaw9_world.shut (thicketlaw9_world.A.mk al_w_.a__p (arena_Arena.A.mk al_w_.a__a.l_b al_w_.a__a.l_c z2 z3 al_w_.a__a.m__p) al_w_.has0_b al_w_.has0_c sb5 sc5) (thicketlaw9_world.mk s.2.a_ s.2.root0 t_7.1 s.2.has0 l1 s.2.next s.2.spent s.2.most) H.t1.t4.t4.t3
       exact hk _ _ ⟨sb5, sc5, hE.sel [0] (by kernel_rfl), H.x2.x1⟩
     ·refine AQ.eff (j := 18) (obs := [.cell ⟨p_w_, 4, none⟩ (.slice al_w_.has1_b s.2.has1.length al_w_.has1_c), .p (0 ≤ (1 : Int) ∧ (1 : Int) < ((2 : Nat) : Int))]) hE rfl rfl rfl rfl (by kernel_rfl) (OpTo.buildSl (T := 64) hE H thicketlaw9_held.enc_ok ([thicketlaw9_held.mk t_.1 (api_Entry.mk key s.2.next)] : List thicketlaw9_held) rfl (fun _ => by kernel_rfl) rfl rfl rfl) ?_
      rintro _ w ⟨r5, rfl, H⟩
      refine ⟨⟨H.cell 1 rfl rfl, ⟨by decide, by decide⟩, trivial⟩, fun a hE => ?_⟩
      refine WQ.eff (j := 2) (obs := [.cell ⟨p_w_, 4, none⟩ (.slice al_w_.has1_b s.2.has1.length al_w_.has1_c), .p (0 ≤ (1 : Int) ∧ (1 : Int) < ((2 : Nat) : Int))]) hE (by kernel_rfl) rfl rfl rfl rfl (by kernel_rfl) (OpTo.buildSl (T := 64) hE H thicketlaw9_held.enc_ok ([] : List thicketlaw9_held) rfl (fun _ => by kernel_rfl) rfl rfl rfl) ?_
      rintro _ w ⟨r6, rfl, H⟩
      refine ⟨⟨H.cell 2 rfl rfl, ⟨by decide, by decide⟩, trivial⟩, fun a hE => ?_⟩
      refine WQ.eff (j := 9) (obs := []) hE (by kernel_rfl) rfl rfl rfl rfl (by kernel_rfl) (OpTo.appendM el hE H thicketlaw9_held.enc_ok rfl rfl rfl rfl rfl rfl rfl rfl rfl rfl (SlRd.all (sl_rd 64 thicketlaw9_held.enc 3 _ _ _) thicketlaw9_held.enc_ok H 5 rfl) rfl) ?_
      rintro _ w ⟨sb6, sc6, rfl, H⟩
      refine ⟨trivial, fun a hE => ?_⟩
      refine WQ.eff (j := 19) (obs := []) hE (by kernel_rfl) rfl rfl rfl rfl (by kernel_rfl) (OpTo.appendM el1 hE H thicketlaw9_held.enc_ok rfl rfl rfl rfl rfl rfl rfl rfl rfl rfl (SlRd.all (sl_rd 64 thicketlaw9_held.enc 3 _ _ _) thicketlaw9_held.enc_ok H 1 rfl) rfl) ?_
      rintro _ w ⟨sb7, sc7, rfl, H⟩
      refine ⟨trivial, fun a hE => ?_⟩
      refine WQ.d hE [22] [] [(134, .pointer (some ⟨p_w_, 4, none⟩))] (obs := [.p (0 ≤ (1 : Int) ∧ (1 : Int) < ((2 : Nat) : Int))]) ⟨⟨by decide, by decide⟩, trivial⟩ fun a hE => ?_
      refine WQ.eff0 (j := 23) (obs := []) hE (by kernel_rfl) rfl rfl rfl (by kernel_rfl) (OpTo.store hE H.t2 rfl rfl rfl rfl rfl rfl (Nat.le_of_ble_eq_true rfl)) ?_
      rintro _ w H
      refine ⟨trivial, fun a hE => ?_⟩
      refine WQ.done (by kernel_rfl) ?_
      replace H := thicketlaw9_world.shut (thicketlaw9_world.A.mk al_w_.a__p (arena_Arena.A.mk al_w_.a__a.l_b al_w_.a__a.l_c z2 z3 al_w_.a__a.m__p) al_w_.has0_b al_w_.has0_c sb7 sc7) (thicketlaw9_world.mk s.2.a_ s.2.root0 t_7.1 s.2.has0 l1 s.2.next s.2.spent s.2.most) H.t1.t4.t4.t3
      exact hk _ _ ⟨sb7, sc7, hE.sel [0] (by kernel_rfl), H.x2.x1⟩
    rintro a w ⟨z7, z8, hE, H⟩
    refine Runs.sr ?_
    replace H := thicketlaw9_world.open H
    try dsimp only at H
    refine WR.seg hE 7 [.int .i64 ((thicketlaw9_world.mk s.2.a_ s.2.root0 t_7.1 s.2.has0 l1 s.2.next s.2.spent s.2.most).next)] [139, 141] (Lo := [(139, .int .i64 (w64 (((thicketlaw9_world.mk s.2.a_ s.2.root0 t_7.1 s.2.has0 l1 s.2.next s.2.spent s.2.most).next) + 1))), (141, .pointer (some ⟨p_w_, 5, none⟩))]) (obs := [.cell ⟨p_w_, 5, none⟩ (.int .i64 ((thicketlaw9_world.mk s.2.a_ s.2.root0 t_7.1 s.2.has0 l1 s.2.next s.2.spent s.2.most).next))]) rfl (by kernel_rfl) ⟨H.cell 0 rfl rfl, trivial⟩ fun a hE => ?_
    refine WR.eff0 hE rfl rfl rfl (OpTo.store hE H rfl rfl rfl rfl rfl rfl (Nat.le_of_ble_eq_true rfl)) ?_
    rintro _ w H a hE
    refine WR.done rfl ?_
    refine Runs.sr ?_
    refine WR.e0 hE [(6, .bool true)] fun a hE => ?_
    replace H := thicketlaw9_world.shut (thicketlaw9_world.A.mk al_w_.a__p (arena_Arena.A.mk al_w_.a__a.l_b al_w_.a__a.l_c z2 z3 al_w_.a__a.m__p) al_w_.has0_b al_w_.has0_c z7 z8) (thicketlaw9_world.mk ((thicketlaw9_world.mk s.2.a_ s.2.root0 t_7.1 s.2.has0 l1 s.2.next s.2.spent s.2.most).a_) ((thicketlaw9_world.mk s.2.a_ s.2.root0 t_7.1 s.2.has0 l1 s.2.next s.2.spent s.2.most).root0) ((thicketlaw9_world.mk s.2.a_ s.2.root0 t_7.1 s.2.has0 l1 s.2.next s.2.spent s.2.most).root1) ((thicketlaw9_world.mk s.2.a_ s.2.root0 t_7.1 s.2.has0 l1 s.2.next s.2.spent s.2.most).has0) ((thicketlaw9_world.mk s.2.a_ s.2.root0 t_7.1 s.2.has0 l1 s.2.next s.2.spent s.2.most).has1) (w64 (((thicketlaw9_world.mk s.2.a_ s.2.root0 t_7.1 s.2.has0 l1 s.2.next s.2.spent s.2.most).next) + 1)) ((thicketlaw9_world.mk s.2.a_ s.2.root0 t_7.1 s.2.has0 l1 s.2.next s.2.spent s.2.most).spent) ((thicketlaw9_world.mk s.2.a_ s.2.root0 t_7.1 s.2.has0 l1 s.2.next s.2.spent s.2.most).most)) H.t3.t3.t3.t3
    refine Runs.ret hE Tryz.func30 rfl rfl ?_
    cases hm
    exact ⟨arena_Arena.A.mk al_w_.a__a.l_b al_w_.a__a.l_c z2 z3 al_w_.a__a.m__p, z7, z8, rfl, H⟩

theorem thicketlaw9_world_push_ok {w0 w : World} {As : List HP} {k : Nat} {p_w_ : Nat} {al_w_ : thicketlaw9_world.A} {w_ : thicketlaw9_world} {key : Int} {h_ : Int} {t : Bool × thicketlaw9_world}  (hm : thicketlaw9_world_push k w_ h_ key = some t) (H : St w0 (thicketlaw9_world.R p_w_ al_w_ w_ :: As) w) :
    CallsR Tryz.prog 30 #[.pointer (some ⟨p_w_, 0, none⟩), .int .i64 h_, .int .i64 key] w fun v w' => ∃ (z_w__a__a : arena_Arena.A), ∃ (z_w__has0_b : Option Addr), ∃ (z_w__has0_c : Nat), ∃ (z_w__has1_b : Option Addr), ∃ (z_w__has1_c : Nat), v = .bool t.1 ∧ St w0 (thicketlaw9_world.R p_w_ (thicketlaw9_world.A.mk al_w_.a__p z_w__a__a z_w__has0_b z_w__has0_c z_w__has1_b z_w__has1_c) t.2 :: As) w' := by
  rw [thicketlaw9_world_push] at hm
  by_cases h0 : h_ = 0
  · subst h0; simp only [if_pos] at hm
    refine (thicketlaw9_world_push_at0_ok hm H).mono ?_
    rintro v w' ⟨y_0, y_1, y_2, hv, H⟩; exact ⟨y_0, y_1, y_2, al_w_.has1_b, al_w_.has1_c, hv, H⟩
  rw [if_neg h0] at hm
  by_cases h1 : h_ = 1
  · subst h1; simp only [if_pos] at hm
    refine (thicketlaw9_world_push_at1_ok hm H).mono ?_
    rintro v w' ⟨y_0, y_1, y_2, hv, H⟩; exact ⟨y_0, al_w_.has0_b, al_w_.has0_c, y_1, y_2, hv, H⟩
  rw [if_neg h1] at hm
  cases hm

theorem trees_Best_ok {w0 w : World} {As : List HP} {k : Nat} {p_a_ : Nat} {al_a_ : arena_Arena.A} {a_ : arena_Arena} {sb_l : Option Addr} {sc_l : Nat} {l : List Int} {X_l : HP} {t : Int × arena_Arena} (hX_l : SlRd X_l ecI 1 sb_l l) (hC_l : l.length ≤ sc_l) (hm : trees_Best k a_ l = some t) (H : St w0 (arena_Arena.R p_a_ al_a_ a_ :: X_l :: As) w) :
    CallsR Tryz.prog 64 #[.pointer (some ⟨p_a_, 0, none⟩), .slice sb_l l.length sc_l] w fun v w' => v = .int .i64 t.1 ∧ St w0 (arena_Arena.R p_a_ al_a_ t.2 :: X_l :: As) w' := by
 rw [trees_Best] at hm
 refine enter (args := [.pointer (some ⟨p_a_, 0, none⟩), .slice sb_l l.length sc_l]) Tryz.func64 rfl rfl rfl fun a hE => ?_
 refine Runs.sr ?_
 refine WR.seg hE 1 [] [0, 1] (Lo := [(0, .pointer (some ⟨p_a_, 0, none⟩)), (1, .slice sb_l l.length sc_l)]) (obs := []) rfl (by kernel_rfl) trivial fun a hE => ?_
 refine WR.done rfl ?_
 refine Runs.sr ?_
 refine WR.e0 hE [(5, .int .i64 (-1))] fun a hE => ?_
 refine Runs.seq ?_
 refine Runs.sr ?_
 refine WR.e0 hE [(8, .slice sb_l l.length sc_l), (9, .int .i64 (l.length : Int)), (10, .int .i64 0)] fun a hE => ?_
 obtain ⟨s, es, hm⟩ := bind_some hm
 refine Runs.join (fun a w => EnvOk 25 a [(5, .int .i64 s.1)] ∧ St w0 (arena_Arena.R p_a_ al_a_ s.2 :: X_l :: As) w) (fun hk => ?_) ?_
 ·replace hm := es; clear es
  refine Runs.block ?_
  refine Runs.loop (fun m a w => ∃ (best : Int), ∃ (x : Int), ∃ (m_ : arena_Arena), EnvOk 25 a [(0, .pointer (some ⟨p_a_, 0, none⟩)), (5, .int .i64 best), (8, .slice sb_l l.length sc_l), (9, .int .i64 (l.length : Int)), (10, .int .i64 x)] ∧ St w0 (arena_Arena.R p_a_ al_a_ m_ :: X_l :: As) w ∧ trees_Best_l0 (l.length : Int) l m best x m_ = some s) k ⟨(-1), 0, a_, hE.sel [0, 5, 8, 9, 10] (by kernel_rfl), H.t1.t1, hm⟩ ?_
  rintro m ih a w ⟨best, x, m_, hE, H, hm⟩
  cases m with
  | zero => simp [trees_Best_l0] at hm
  | succ m =>
   rw [trees_Best_l0] at hm
   refine Runs.sr ?_
   refine WR.seg hE 1 [] [0, 5, 8, 9, 10, 11] (Lo := [(0, .pointer (some ⟨p_a_, 0, none⟩)), (5, .int .i64 best), (8, .slice sb_l l.length sc_l), (9, .int .i64 (l.length : Int)), (10, .int .i64 x), (11, .bool (decide (x < (l.length : Int))))]) (obs := []) rfl (by kernel_rfl) trivial fun a hE => ?_
   refine WR.done rfl ?_
   refine Runs.seq ?_
   refine Runs.cond hE rfl (fun c => ?_) (fun c => ?_)
   ·replace hm := cond_t c hm
    refine Runs.skip ?_
    refine Runs.seq ?_
    obtain ⟨s1, es1, hm⟩ := bind_some hm
    refine Runs.join (fun a w => EnvOk 25 a [(0, .pointer (some ⟨p_a_, 0, none⟩)), (5, .int .i64 s1.1), (8, .slice sb_l l.length sc_l), (9, .int .i64 (l.length : Int)), (10, .int .i64 x)] ∧ St w0 (arena_Arena.R p_a_ al_a_ s1.2 :: X_l :: As) w) (fun hk => ?_) ?_
    ·replace hm := es1; clear es1
     refine Runs.block ?_
     refine Runs.sr ?_
     obtain ⟨x2, ex2, hm⟩ := bind_some hm
     obtain ⟨b, o, hs, hb⟩ := SlRd.base hX_l ecI_ok H 1 rfl ex2
     refine WR.e hE [.pointer (some ⟨b, o, none⟩), .int .i64 x2] [(7, .int .i64 x2)] (obs := [.p ((sb_l : Option Addr) = some ⟨b, o, none⟩), .p (0 ≤ (x : Int) ∧ (x : Int) < ((l.length : Nat) : Int)), .cell ⟨b, o + (Int.toNat x) * 1, none⟩ (.int .i64 x2)]) ⟨hs, hb, SlRd.cells hX_l ecI_ok H 1 rfl hs ex2 0 _ rfl, trivial⟩ fun a hE => ?_
     refine Runs.seq ?_
     obtain ⟨s2, es2, hm⟩ := bind_some hm
     refine Runs.join (fun a w => EnvOk 25 a [(0, .pointer (some ⟨p_a_, 0, none⟩)), (5, .int .i64 best), (7, .int .i64 x2), (8, .slice sb_l l.length sc_l), (9, .int .i64 (l.length : Int)), (10, .int .i64 x), (21, .bool s2.1)] ∧ St w0 (arena_Arena.R p_a_ al_a_ s2.2 :: X_l :: As) w) (fun hk => ?_) ?_
     ·replace hm := es2; clear es2
      refine Runs.region ?_
      refine WR.d0 hE 3 [(16, .bool (best == (-1)))] fun a hE => ?_
      rcases Bool.eq_false_or_eq_true (best == (-1)) with c | c
      ·replace hE := hE.dec 16 c (by kernel_rfl)
       replace hm := cond_t c hm
       have c_ := c
       refine WR.e0 hE [(21, .bool true)] fun a hE => ?_
       cases hm
       exact hk _ _ ⟨hE.sel [0, 5, 7, 8, 9, 10, 21] (by kernel_rfl), H.t1.t1⟩
      ·replace hE := hE.dec 16 c (by kernel_rfl)
       replace hm := cond_f c hm
       have c_1 := c
       refine WR.d0 hE 6 [(16, .bool false), (17, .pointer (some ⟨p_a_, 0, none⟩)), (18, .int .i64 x2), (19, .int .i64 best)] fun a hE => ?_
       obtain ⟨t_, et_, hm⟩ := bind_some hm
       refine WR.eff hE rfl rfl rfl rfl (OpTo.fn hE rfl rfl Tryz.call108 (node_Before_ok et_ H)) ?_
       rintro _ w ⟨rfl, H⟩ a hE
       refine WR.e0 hE [(21, .bool t_.1)] fun a hE => ?_
       cases hm
       exact hk _ _ ⟨hE.sel [0, 5, 7, 8, 9, 10, 21] (by kernel_rfl), H.t1.t1⟩
     rintro a w ⟨hE, H⟩
     refine Runs.cond hE rfl (fun c => ?_) (fun c => ?_)
     ·replace hm := cond_t c hm
      refine Runs.region ?_
      refine WR.seg hE 2 [] [0, 5, 8, 9, 10] (Lo := [(0, .pointer (some ⟨p_a_, 0, none⟩)), (5, .int .i64 x2), (8, .slice sb_l l.length sc_l), (9, .int .i64 (l.length : Int)), (10, .int .i64 x)]) (obs := []) rfl (by kernel_rfl) trivial fun a hE => ?_
      refine WR.done rfl ?_
      refine Runs.inBlock ?_
      cases hm
      exact hk _ _ ⟨hE.sel [0, 5, 8, 9, 10] (by kernel_rfl), H.t1.t1⟩
     ·replace hm := cond_f c hm
      refine Runs.skip ?_
      refine Runs.inBlock ?_
      cases hm
      exact hk _ _ ⟨hE.sel [0, 5, 8, 9, 10] (by kernel_rfl), H.t1.t1⟩
    rintro a w ⟨hE, H⟩
    refine Runs.region ?_
    refine WR.seg hE 2 [] [0, 5, 8, 9, 10] (Lo := [(0, .pointer (some ⟨p_a_, 0, none⟩)), (5, .int .i64 s1.1), (8, .slice sb_l l.length sc_l), (9, .int .i64 (l.length : Int)), (10, .int .i64 (w64 (x + 1)))]) (obs := []) rfl (by kernel_rfl) trivial fun a hE => ?_
    refine WR.done rfl ?_
    exact ih m (Nat.lt_succ_self m) _ _ ⟨s1.1, w64 (x + 1), s1.2, hE.sel [0, 5, 8, 9, 10] (by kernel_rfl), H.t1.t1, hm⟩
   ·replace hm := cond_f c hm
    refine Runs.exit rfl ?_
    cases hm
    exact hk _ _ ⟨hE.sel [5] (by kernel_rfl), H.t1.t1⟩
 rintro a w ⟨hE, H⟩
 refine Runs.sr ?_
 refine WR.seg hE 2 [] [4] (Lo := [(4, .int .i64 s.1)]) (obs := []) rfl (by kernel_rfl) trivial fun a hE => ?_
 refine WR.done rfl ?_
 refine Runs.ret hE Tryz.func64 rfl rfl ?_
 cases hm
 exact ⟨rfl, H.t1.t1⟩

theorem binomial_without_f1_ok {w0 w : World} {As : List HP} {x : Int} {v_ : Int} {r : Nat} {t : Bool}  (hm : binomial_without_f1 x v_ = some t) (H : St w0 (Blk r 3 [.int .i64 v_] :: As) w) :
    CallsR Tryz.prog 105 #[.int .i64 x, .pointer (some ⟨r, 0, none⟩)] w fun v w' => v = .bool t ∧ St w0 (Blk r 3 [.int .i64 v_] :: As) w' := by
 rw [binomial_without_f1] at hm
 refine enter (args := [.int .i64 x, .pointer (some ⟨r, 0, none⟩)]) Tryz.func105 rfl rfl rfl fun a hE => ?_
 refine Runs.sr ?_
 refine WR.seg hE 1 [] [0, 1] (Lo := [(0, .int .i64 x), (1, .pointer (some ⟨r, 0, none⟩))]) (obs := []) rfl (by kernel_rfl) trivial fun a hE => ?_
 refine WR.done rfl ?_
 refine Runs.sr ?_
 refine WR.e hE [.int .i64 v_] [(3, .bool (x == v_))] (obs := [.cell ⟨r, 0, none⟩ (.int .i64 v_)]) ⟨H.cell 0 rfl rfl, trivial⟩ fun a hE => ?_
 refine Runs.ret hE Tryz.func105 rfl rfl ?_
 cases hm
 exact ⟨rfl, H⟩

theorem slices_IndexFunc_int_g105_ok {w0 w : World} {As : List HP} {k : Nat} {sb_s : Option Addr} {sc_s : Nat} {s : List Int} {X_s : HP} {v_ : Int} {r : Nat} {t : Int} (hX_s : SlRd X_s ecI 1 sb_s s) (hC_s : s.length ≤ sc_s) (hm : slices_IndexFunc_int_g105 k s v_ = some t) (H : St w0 (X_s :: Blk r 3 [.int .i64 v_] :: As) w) :
    CallsR Tryz.prog 125 #[.slice sb_s s.length sc_s, .func (.func 105) #[] #[.pointer (some ⟨r, 0, none⟩)]] w fun v w' => v = .int .i64 t ∧ St w0 (X_s :: Blk r 3 [.int .i64 v_] :: As) w' := by
 rw [slices_IndexFunc_int_g105] at hm
 refine enter (args := [.slice sb_s s.length sc_s, .func (.func 105) #[] #[.pointer (some ⟨r, 0, none⟩)]]) Tryz.func125 rfl rfl rfl fun a hE => ?_
 refine Runs.sr ?_
 refine WR.seg hE 1 [] [0, 1] (Lo := [(0, .slice sb_s s.length sc_s), (1, .func (.func 105) #[] #[.pointer (some ⟨r, 0, none⟩)])]) (obs := []) rfl (by kernel_rfl) trivial fun a hE => ?_
 refine WR.done rfl ?_
 refine Runs.seq ?_
 refine Runs.sr ?_
 refine WR.e0 hE [(7, .int .i64 (s.length : Int)), (8, .int .i64 0)] fun a hE => ?_
 obtain ⟨s1, es1, hR⟩ := bind_some hm
 refine Runs.join (fun a w => ∃ s2, s1 = Sum.inr s2 ∧ EnvOk 19 a [] ∧ St w0 (X_s :: Blk r 3 [.int .i64 v_] :: As) w) (fun hk => ?_) ?_
 ·replace hm := es1; clear es1
  refine Runs.block ?_
  refine Runs.loop (fun m a w => ∃ (x : Int), EnvOk 19 a [(0, .slice sb_s s.length sc_s), (1, .func (.func 105) #[] #[.pointer (some ⟨r, 0, none⟩)]), (7, .int .i64 (s.length : Int)), (8, .int .i64 x)] ∧ St w0 (X_s :: Blk r 3 [.int .i64 v_] :: As) w ∧ slices_IndexFunc_int_g105_l0 (s.length : Int) s v_ m x = some s1) k ⟨0, hE.sel [0, 1, 7, 8] (by kernel_rfl), H.t1.t1, hm⟩ ?_
  rintro m ih a w ⟨x, hE, H, hm⟩
  cases m with
  | zero => simp [slices_IndexFunc_int_g105_l0] at hm
  | succ m =>
   rw [slices_IndexFunc_int_g105_l0] at hm
   refine Runs.sr ?_
   refine WR.seg hE 1 [] [0, 1, 7, 8, 9] (Lo := [(0, .slice sb_s s.length sc_s), (1, .func (.func 105) #[] #[.pointer (some ⟨r, 0, none⟩)]), (7, .int .i64 (s.length : Int)), (8, .int .i64 x), (9, .bool (decide (x < (s.length : Int))))]) (obs := []) rfl (by kernel_rfl) trivial fun a hE => ?_
   refine WR.done rfl ?_
   refine Runs.seq ?_
   refine Runs.cond hE rfl (fun c => ?_) (fun c => ?_)
   ·replace hm := cond_t c hm
    refine Runs.skip ?_
    refine Runs.seq ?_
    refine Runs.block ?_
    refine Runs.sr ?_
    refine WR.e0 hE [(5, .int .i64 x)] fun a hE => ?_
    refine Runs.sr ?_
    obtain ⟨x2, ex2, hm⟩ := bind_some hm
    obtain ⟨b, o, hs, hb⟩ := SlRd.base hX_s ecI_ok H 0 rfl ex2
    refine WR.d hE 5 [.pointer (some ⟨b, o, none⟩), .int .i64 x2] [(11, .func (.func 105) #[] #[.pointer (some ⟨r, 0, none⟩)]), (15, .int .i64 x2)] (obs := [.p ((sb_s : Option Addr) = some ⟨b, o, none⟩), .p (0 ≤ (x : Int) ∧ (x : Int) < ((s.length : Nat) : Int)), .cell ⟨b, o + (Int.toNat x) * 1, none⟩ (.int .i64 x2)]) ⟨hs, hb, SlRd.cells hX_s ecI_ok H 0 rfl hs ex2 0 _ rfl, trivial⟩ fun a hE => ?_
    obtain ⟨t_, et_, hm⟩ := bind_some hm
    refine WR.eff hE rfl rfl rfl rfl (OpTo.fv hE rfl rfl rfl Tryz.call105 (binomial_without_f1_ok et_ H.t1)) ?_
    rintro _ w ⟨rfl, H⟩ a hE
    refine WR.done rfl ?_
    refine Runs.cond hE rfl (fun c => ?_) (fun c => ?_)
    ·replace hm := cond_t c hm
     refine Runs.sr ?_
     refine WR.e0 hE [(4, .int .i64 x)] fun a hE => ?_
     refine Runs.ret hE Tryz.func125 rfl rfl ?_
     cases hm
     dsimp only at hR; cases hR
     exact ⟨rfl, H.t1⟩
    ·replace hm := cond_f c hm
     refine Runs.skip ?_
     refine Runs.inBlock ?_
     refine Runs.region ?_
     refine WR.e0 hE [(8, .int .i64 (w64 (x + 1)))] fun a hE => ?_
     exact ih m (Nat.lt_succ_self m) _ _ ⟨w64 (x + 1), hE.sel [0, 1, 7, 8] (by kernel_rfl), H.t1, hm⟩
   ·replace hm := cond_f c hm
    refine Runs.exit rfl ?_
    cases hm
    exact hk _ _ ⟨_, rfl, hE.sel [] (by kernel_rfl), H.t1.t1⟩
 rintro a w ⟨s2, rfl, hE, H⟩
 replace hm := hR; dsimp only at hm
 refine Runs.sr ?_
 refine WR.seg hE 1 [] [4] (Lo := [(4, .int .i64 (-1))]) (obs := []) rfl (by kernel_rfl) trivial fun a hE => ?_
 refine WR.done rfl ?_
 refine Runs.ret hE Tryz.func125 rfl rfl ?_
 cases hm
 exact ⟨rfl, H.t1.t1⟩

theorem slices_DeleteFunc_int_g105_ok {w0 w : World} {As : List HP} {k : Nat} {sb_s : Option Addr} {sc_s : Nat} {s : List Int} {v_ : Int} {r : Nat} {t : (List Int)}  (hm : slices_DeleteFunc_int_g105 k s v_ = some t) (H : St w0 (Sl 3 ecI 1 sb_s sc_s s :: Blk r 3 [.int .i64 v_] :: As) w) :
    CallsR Tryz.prog 104 #[.slice sb_s s.length sc_s, .func (.func 105) #[] #[.pointer (some ⟨r, 0, none⟩)]] w fun v w' => ∃ (sb0 : Option Addr), ∃ (sc0 : Nat), v = .slice sb0 t.length sc0 ∧ St w0 (Sl 3 ecI 1 sb0 sc0 t :: Blk r 3 [.int .i64 v_] :: As) w' := by
 rw [slices_DeleteFunc_int_g105] at hm
 refine enter (args := [.slice sb_s s.length sc_s, .func (.func 105) #[] #[.pointer (some ⟨r, 0, none⟩)]]) Tryz.func104 rfl rfl rfl fun a hE => ?_
 refine Runs.sr ?_
 refine WR.seg hE 1 [] [0, 1] (Lo := [(0, .slice sb_s s.length sc_s), (1, .func (.func 105) #[] #[.pointer (some ⟨r, 0, none⟩)])]) (obs := []) rfl (by kernel_rfl) trivial fun a hE => ?_
 refine WR.done rfl ?_
 refine Runs.sr ?_
 refine WR.d0 hE 2 [(8, .slice sb_s s.length sc_s), (9, .func (.func 105) #[] #[.pointer (some ⟨r, 0, none⟩)])] fun a hE => ?_
 obtain ⟨t_, et_, hm⟩ := bind_some hm
 replace H := H.t1.t1
 refine WR.eff hE rfl rfl rfl rfl (OpTo.fn hE rfl rfl Tryz.call125 (slices_IndexFunc_int_g105_ok (hX_s := (sl_rd 3 ecI 1 _ _ _)) (hC_s := (H.slCap 0 rfl).1) et_ H)) ?_
 rintro _ w ⟨rfl, H⟩ a hE
 refine WR.e0 hE [(5, .int .i64 t_)] fun a hE => ?_
 refine Runs.seq ?_
 refine Runs.sr ?_
 refine WR.e0 hE [(12, .bool (t_ == (-1)))] fun a hE => ?_
 refine Runs.cond hE rfl (fun c => ?_) (fun c => ?_)
 ·replace hm := cond_t c hm
  refine Runs.sr ?_
  refine WR.e0 hE [(4, .slice sb_s s.length sc_s)] fun a hE => ?_
  refine Runs.ret hE Tryz.func104 rfl rfl ?_
  cases hm
  exact ⟨sb_s, sc_s, rfl, H.t1.t1⟩
 ·replace hm := cond_f c hm
  refine Runs.skip ?_
  refine Runs.seq ?_
  refine Runs.sr ?_
  refine WR.e0 hE [(6, .int .i64 (w64 (t_ + 1)))] fun a hE => ?_
  obtain ⟨s1, es1, hm⟩ := bind_some hm
  refine Runs.join (fun a w => EnvOk 42 a [(0, .slice sb_s s1.2.length sc_s), (5, .int .i64 s1.1)] ∧ St w0 (Sl 3 ecI 1 sb_s sc_s s1.2 :: Blk r 3 [.int .i64 v_] :: As) w) (fun hk => ?_) ?_
  ·replace hm := es1; clear es1
   refine Runs.block ?_
   refine Runs.loop (fun m a w => ∃ (i : Int), ∃ (j : Int), ∃ (m_ : List Int), EnvOk 42 a [(0, .slice sb_s m_.length sc_s), (1, .func (.func 105) #[] #[.pointer (some ⟨r, 0, none⟩)]), (5, .int .i64 i), (6, .int .i64 j)] ∧ St w0 (Sl 3 ecI 1 sb_s sc_s m_ :: Blk r 3 [.int .i64 v_] :: As) w ∧ slices_DeleteFunc_int_g105_l0 v_ m i j m_ = some s1) k ⟨t_, w64 (t_ + 1), s, hE.sel [0, 1, 5, 6] (by kernel_rfl), H.t1.t1, hm⟩ ?_
   rintro m ih a w ⟨i, j, m_, hE, H, hm⟩
   cases m with
   | zero => simp [slices_DeleteFunc_int_g105_l0] at hm
   | succ m =>
    rw [slices_DeleteFunc_int_g105_l0] at hm
    refine Runs.seq ?_
    refine Runs.sr ?_
    refine WR.seg hE 4 [] [0, 1, 5, 6, 19] (Lo := [(0, .slice sb_s m_.length sc_s), (1, .func (.func 105) #[] #[.pointer (some ⟨r, 0, none⟩)]), (5, .int .i64 i), (6, .int .i64 j), (19, .bool (decide (j < (m_.length : Int))))]) (obs := []) rfl (by kernel_rfl) trivial fun a hE => ?_
    refine WR.done rfl ?_
    refine Runs.cond hE rfl (fun c => ?_) (fun c => ?_)
    ·replace hm := cond_t c hm
     refine Runs.skip ?_
     refine Runs.seq ?_
     obtain ⟨s2, es2, hm⟩ := bind_some hm
     refine Runs.join (fun a w => EnvOk 42 a [(0, .slice sb_s s2.2.length sc_s), (1, .func (.func 105) #[] #[.pointer (some ⟨r, 0, none⟩)]), (5, .int .i64 s2.1), (6, .int .i64 j)] ∧ St w0 (Sl 3 ecI 1 sb_s sc_s s2.2 :: Blk r 3 [.int .i64 v_] :: As) w) (fun hk => ?_) ?_
     ·replace hm := es2; clear es2
      refine Runs.block ?_
      refine Runs.sr ?_
      obtain ⟨x, ex, hm⟩ := bind_some hm
      obtain ⟨b, o, hs, hb⟩ := SlRd.base (sl_rd 3 ecI 1 _ _ _) ecI_ok H 0 rfl ex
      refine WR.e hE [.pointer (some ⟨b, o, none⟩), .int .i64 x] [(7, .int .i64 x)] (obs := [.p ((sb_s : Option Addr) = some ⟨b, o, none⟩), .p (0 ≤ (j : Int) ∧ (j : Int) < ((m_.length : Nat) : Int)), .cell ⟨b, o + (Int.toNat j) * 1, none⟩ (.int .i64 x)]) ⟨hs, hb, SlRd.cells (sl_rd 3 ecI 1 _ _ _) ecI_ok H 0 rfl hs ex 0 _ rfl, trivial⟩ fun a hE => ?_
      refine Runs.sr ?_
      refine WR.d0 hE 2 [(26, .func (.func 105) #[] #[.pointer (some ⟨r, 0, none⟩)]), (27, .int .i64 x)] fun a hE => ?_
      obtain ⟨t_1, et_1, hm⟩ := bind_some hm
      refine WR.eff hE rfl rfl rfl rfl (OpTo.fv hE rfl rfl rfl Tryz.call105 (binomial_without_f1_ok et_1 H.t1)) ?_
      rintro _ w ⟨rfl, H⟩ a hE
      refine WR.e0 hE [(29, .bool (!t_1))] fun a hE => ?_
      refine Runs.cond hE rfl (fun c => ?_) (fun c => ?_)
      ·replace hm := cond_t c hm
       refine Runs.sr ?_
       obtain ⟨x1, ex1, hm⟩ := bind_some hm
       obtain ⟨b1, o1, hs1, hb1⟩ := SlRd.base (sl_rd 3 ecI 1 _ _ _) ecI_ok H 1 rfl ex1
       refine WR.d hE 4 [.pointer (some ⟨b1, o1, none⟩)] [(32, .int .i64 x), (33, .pointer (some ⟨b1, o1 + (Int.toNat i) * 1, none⟩))] (obs := [.p ((sb_s : Option Addr) = some ⟨b1, o1, none⟩), .p (0 ≤ (i : Int) ∧ (i : Int) < ((m_.length : Nat) : Int))]) ⟨hs1, hb1, trivial⟩ fun a hE => ?_
       refine WR.eff0 hE rfl rfl rfl (OpTo.storeSl (q := 0) (x' := x) hE H.t1 ecI_ok rfl hs1 ex1 rfl rfl rfl rfl rfl (Nat.le_of_ble_eq_true rfl) rfl) ?_
       rintro _ w H a hE
       try rw [← mSet_len m_ i x] at hE
       refine WR.done rfl ?_
       refine Runs.region ?_
       refine WR.seg hE 3 [] [0, 1, 5, 6] (Lo := [(0, .slice sb_s ((mSet m_ i x).length) sc_s), (1, .func (.func 105) #[] #[.pointer (some ⟨r, 0, none⟩)]), (5, .int .i64 (w64 (i + 1))), (6, .int .i64 j)]) (obs := []) rfl (by kernel_rfl) trivial fun a hE => ?_
       refine WR.done rfl ?_
       refine Runs.inBlock ?_
       cases hm
       exact hk _ _ ⟨hE.sel [0, 1, 5, 6] (by kernel_rfl), H.t1.t1⟩
      ·replace hm := cond_f c hm
       refine Runs.skip ?_
       refine Runs.inBlock ?_
       cases hm
       exact hk _ _ ⟨hE.sel [0, 1, 5, 6] (by kernel_rfl), H.t1⟩
     rintro a w ⟨hE, H⟩
     refine Runs.region ?_
     refine WR.seg hE 3 [] [0, 1, 5, 6] (Lo := [(0, .slice sb_s s2.2.length sc_s), (1, .func (.func 105) #[] #[.pointer (some ⟨r, 0, none⟩)]), (5, .int .i64 s2.1), (6, .int .i64 (w64 (j + 1)))]) (obs := []) rfl (by kernel_rfl) trivial fun a hE => ?_
     refine WR.done rfl ?_
     exact ih m (Nat.lt_succ_self m) _ _ ⟨s2.1, w64 (j + 1), s2.2, hE.sel [0, 1, 5, 6] (by kernel_rfl), H.t1.t1, hm⟩
    ·replace hm := cond_f c hm
     refine Runs.exit rfl ?_
     cases hm
     exact hk _ _ ⟨hE.sel [0, 5] (by kernel_rfl), H.t1.t1⟩
  rintro a w ⟨hE, H⟩
  refine Runs.sr ?_
  obtain ⟨l, el, hm⟩ := bind_some hm
  obtain ⟨sb, q⟩ : ∃ z, rebase sb_s sc_s (Int.toNat s1.1) 1 = z := ⟨_, rfl⟩
  obtain ⟨sc, q1⟩ : ∃ z, sc_s - (Int.toNat s1.1) = z := ⟨_, rfl⟩
  refine WR.seg hE 3 [.slice sb l.length sc] [0, 5, 38] (Lo := [(0, .slice sb_s s1.2.length sc_s), (5, .int .i64 s1.1), (38, .slice sb l.length sc)]) (obs := [.p (rebase sb_s sc_s (Int.toNat s1.1) 1 = sb), .p (s1.2.length - (Int.toNat s1.1) = l.length), .p (sc_s - (Int.toNat s1.1) = sc), .p (0 ≤ (s1.1 : Int) ∧ (s1.1 : Int) ≤ ((s1.2.length : Nat) : Int))]) rfl (by kernel_rfl) ⟨q, cut_len el, q1, cut_bd0 el, trivial⟩ fun a hE => ?_
  refine WR.eff0 hE rfl rfl rfl (OpTo.clearSl (z := 0) hE H ecI_ok el q q1 rfl rfl rfl rfl rfl rfl) ?_
  rintro _ w ⟨_, H⟩ a hE
  try rw [← mClear_len (z := 0) el] at hE
  refine WR.done rfl ?_
  refine Runs.sr ?_
  obtain ⟨l1, el1, hm⟩ := bind_some hm
  obtain ⟨sb1, q2⟩ : ∃ z, rebase sb_s sc_s (Int.toNat 0) 1 = z := ⟨_, rfl⟩
  obtain ⟨sc1, q3⟩ : ∃ z, sc_s - (Int.toNat 0) = z := ⟨_, rfl⟩
  refine WR.seg hE 4 [.slice sb1 l1.length sc1] [4] (Lo := [(4, .slice sb1 l1.length sc1)]) (obs := [.p (rebase sb_s sc_s 0 1 = sb1), .p ((Int.toNat s1.1) - 0 = l1.length), .p (sc_s - 0 = sc1), .p (0 ≤ (s1.1 : Int) ∧ (s1.1 : Int) ≤ ((sc_s : Nat) : Int))]) rfl (by kernel_rfl) ⟨q2, cut_len el1, q3, cut_cap el1 (H.slCap 0 rfl).1, trivial⟩ fun a hE => ?_
  refine WR.done rfl ?_
  replace H := H.slCut' ecI_ok el1 q2 q3
  refine Runs.ret hE Tryz.func104 rfl rfl ?_
  cases hm
  exact ⟨sb1, sc1, rfl, H.t1.t1⟩

theorem trees_Kids_ok {w0 w : World} {As : List HP} {k : Nat} {p_a_ : Nat} {al_a_ : arena_Arena.A} {a_ : arena_Arena} {n : Int} {t : (List Int) × arena_Arena}  (hm : trees_Kids k a_ n = some t) (H : St w0 (arena_Arena.R p_a_ al_a_ a_ :: As) w) :
    CallsR Tryz.prog 106 #[.pointer (some ⟨p_a_, 0, none⟩), .int .i64 n] w fun v w' => ∃ (sb0 : Option Addr), ∃ (sc0 : Nat), v = .slice sb0 t.1.length sc0 ∧ St w0 (Sl 3 ecI 1 sb0 sc0 t.1 :: arena_Arena.R p_a_ al_a_ t.2 :: As) w' := by
 rw [trees_Kids] at hm
 refine enter (args := [.pointer (some ⟨p_a_, 0, none⟩), .int .i64 n]) Tryz.func106 rfl rfl rfl fun a hE => ?_
 refine Runs.sr ?_
 refine WR.seg hE 1 [] [0, 1] (Lo := [(0, .pointer (some ⟨p_a_, 0, none⟩)), (1, .int .i64 n)]) (obs := []) rfl (by kernel_rfl) trivial fun a hE => ?_
 refine WR.done rfl ?_
 refine Runs.sr ?_
 refine WR.d0 hE 3 [(5, .pointer (some ⟨p_a_, 0, none⟩)), (6, .pointer (some ⟨p_a_, 0, none⟩)), (7, .int .i64 n)] fun a hE => ?_
 obtain ⟨t_, et_, hm⟩ := bind_some hm
 refine WR.eff hE rfl rfl rfl rfl (OpTo.fn hE rfl rfl Tryz.call78 (arena_Arena_Cell_ok et_ H)) ?_
 rintro _ w ⟨rfl, H⟩ a hE
 obtain ⟨t_1, et_1, hm⟩ := bind_some hm
 refine WR.eff hE rfl rfl rfl rfl (OpTo.fn hE rfl rfl Tryz.call101 (node_Row_ok et_1 H)) ?_
 rintro _ w ⟨sb, sc, rfl, H⟩ a hE
 refine WR.e0 hE [(4, .slice sb t_1.1.length sc)] fun a hE => ?_
 refine Runs.ret hE Tryz.func106 rfl rfl ?_
 cases hm
 exact ⟨sb, sc, rfl, H.t1.t1⟩

theorem node_End_ok {w0 w : World} {As : List HP} {p_a_ : Nat} {al_a_ : arena_Arena.A} {a_ : arena_Arena} {n : Int} {t : Int × arena_Arena}  (hm : node_End a_ n = some t) (H : St w0 (arena_Arena.R p_a_ al_a_ a_ :: As) w) :
    CallsR Tryz.prog 107 #[.pointer (some ⟨p_a_, 0, none⟩), .int .i64 n] w fun v w' => ∃ (z_a__free_b : Option Addr), ∃ (z_a__free_c : Nat), v = .int .i64 t.1 ∧ St w0 (arena_Arena.R p_a_ (arena_Arena.A.mk al_a_.l_b al_a_.l_c z_a__free_b z_a__free_c al_a_.m__p) t.2 :: As) w' := by
 rw [node_End] at hm
 refine enter (args := [.pointer (some ⟨p_a_, 0, none⟩), .int .i64 n]) Tryz.func107 rfl rfl rfl fun a hE => ?_
 refine Runs.sr ?_
 refine WR.seg hE 1 [] [0, 1] (Lo := [(0, .pointer (some ⟨p_a_, 0, none⟩)), (1, .int .i64 n)]) (obs := []) rfl (by kernel_rfl) trivial fun a hE => ?_
 refine WR.done rfl ?_
 refine Runs.sr ?_
 refine WR.d0 hE 2 [(6, .pointer (some ⟨p_a_, 0, none⟩)), (7, .int .i64 n)] fun a hE => ?_
 obtain ⟨t_, et_, hm⟩ := bind_some hm
 refine WR.eff hE rfl rfl rfl rfl (OpTo.fn hE rfl rfl Tryz.call78 (arena_Arena_Cell_ok et_ H)) ?_
 rintro _ w ⟨rfl, H⟩ a hE
 refine WR.e0 hE [(5, .int .i64 t_.1)] fun a hE => ?_
 refine Runs.sr ?_
 refine WR.d0 hE 2 [(9, .pointer (some ⟨p_a_, 0, none⟩)), (10, .int .i64 t_.1)] fun a hE => ?_
 obtain ⟨t_1, et_1, hm⟩ := bind_some hm
 refine WR.eff hE rfl rfl rfl rfl (OpTo.fn hE rfl rfl Tryz.call57 (arena_Arena_Set_ok et_1 H)) ?_
 rintro _ w ⟨rfl, hf, H⟩ a hE
 refine WR.done rfl ?_
 refine Runs.sr ?_
 refine WR.d0 hE 2 [(12, .pointer (some ⟨p_a_, 0, none⟩)), (13, .int .i64 n)] fun a hE => ?_
 obtain ⟨t_2, et_2, hm⟩ := bind_some hm
 refine WR.eff hE rfl rfl rfl rfl (OpTo.fn hE rfl rfl Tryz.call27 (arena_Arena_Give_ok et_2 H)) ?_
 rintro _ w ⟨z, z1, rfl, H⟩ a hE
 refine WR.done rfl ?_
 refine Runs.sr ?_
 refine WR.e0 hE [(4, .int .i64 t_.1)] fun a hE => ?_
 refine Runs.ret hE Tryz.func107 rfl rfl ?_
 cases hm
 exact ⟨z, z1, rfl, H⟩

theorem binomial_without_ok {w0 w : World} {As : List HP} {k : Nat} {p_a_ : Nat} {al_a_ : arena_Arena.A} {a_ : arena_Arena} {sb_l : Option Addr} {sc_l : Nat} {l : List Int} {n : Int} {t : Int × Int × arena_Arena}  (hm : binomial_without k a_ l n = some t) (H : St w0 (arena_Arena.R p_a_ al_a_ a_ :: Sl 3 ecI 1 sb_l sc_l l :: As) w) :
    CallsR Tryz.prog 63 #[.pointer (some ⟨p_a_, 0, none⟩), .slice sb_l l.length sc_l, .int .i64 n] w fun v w' => ∃ (z_a__free_b : Option Addr), ∃ (z_a__free_c : Nat), v = .tuple #[.int .i64 t.1, .int .i64 t.2.1] ∧ St w0 (arena_Arena.R p_a_ (arena_Arena.A.mk al_a_.l_b al_a_.l_c z_a__free_b z_a__free_c al_a_.m__p) t.2.2 :: As) w' := by
 rw [binomial_without] at hm
 refine enter (args := [.pointer (some ⟨p_a_, 0, none⟩), .slice sb_l l.length sc_l, .int .i64 n]) Tryz.func63 rfl rfl rfl fun a hE => ?_
 refine Runs.sr ?_
 refine WR.eff hE rfl rfl rfl rfl (OpTo.new hE H [] (.cells #[.int .i64 n] 3 (0, 0)) (fun r => .pointer (some ⟨r, 0, none⟩)) (obs := []) rfl (fun _ => by kernel_rfl) trivial) ?_
 rintro _ w ⟨r, rfl, H⟩ a hE
 refine WR.seg hE 3 [] [0, 1, 5] (Lo := [(0, .pointer (some ⟨p_a_, 0, none⟩)), (1, .slice sb_l l.length sc_l), (5, .pointer (some ⟨r, 0, none⟩))]) (obs := []) rfl (by kernel_rfl) trivial fun a hE => ?_
 refine WR.done rfl ?_
 refine Runs.sr ?_
 refine WR.d0 hE 2 [(10, .slice sb_l l.length sc_l), (11, .func (.func 105) #[] #[.pointer (some ⟨r, 0, none⟩)])] fun a hE => ?_
 obtain ⟨t_, et_, hm⟩ := bind_some hm
 refine WR.eff hE rfl rfl rfl rfl (OpTo.fn hE rfl rfl Tryz.call104 (slices_DeleteFunc_int_g105_ok et_ H.t2)) ?_
 rintro _ w ⟨sb, sc, rfl, H⟩ a hE
 refine WR.e0 hE [(8, .slice sb t_.length sc)] fun a hE => ?_
 refine Runs.sr ?_
 refine WR.d hE 3 [.int .i64 n] [(13, .slice sb t_.length sc), (14, .pointer (some ⟨p_a_, 0, none⟩)), (15, .int .i64 n)] (obs := [.cell ⟨r, 0, none⟩ (.int .i64 n)]) ⟨H.cell 1 rfl rfl, trivial⟩ fun a hE => ?_
 obtain ⟨t_1, et_1, hm⟩ := bind_some hm
 refine WR.eff hE rfl rfl rfl rfl (OpTo.fn hE rfl rfl Tryz.call106 (trees_Kids_ok et_1 H.t2)) ?_
 rintro _ w ⟨sb1, sc1, rfl, H⟩ a hE
 obtain ⟨l1, el1, hm⟩ := bind_some hm
 replace H := H.t2
 refine WR.eff hE rfl rfl rfl rfl (OpTo.appendM el1 hE H ecI_ok rfl rfl rfl rfl rfl rfl rfl rfl rfl rfl (SlRd.all (sl_rd 3 ecI 1 _ _ _) ecI_ok H 1 rfl) rfl) ?_
 rintro _ w ⟨sb2, sc2, rfl, H⟩ a hE
 refine WR.e0 hE [(8, .slice sb2 l1.length sc2)] fun a hE => ?_
 refine Runs.sr ?_
 refine WR.d hE 2 [.int .i64 n] [(18, .pointer (some ⟨p_a_, 0, none⟩)), (19, .int .i64 n)] (obs := [.cell ⟨r, 0, none⟩ (.int .i64 n)]) ⟨H.cell 3 rfl rfl, trivial⟩ fun a hE => ?_
 obtain ⟨t_2, et_2, hm⟩ := bind_some hm
 refine WR.eff hE rfl rfl rfl rfl (OpTo.fn hE rfl rfl Tryz.call107 (node_End_ok et_2 H.t2)) ?_
 rintro _ w ⟨z, z1, rfl, H⟩ a hE
 refine WR.e0 hE [(9, .int .i64 t_2.1)] fun a hE => ?_
 refine Runs.sr ?_
 refine WR.d0 hE 2 [(21, .pointer (some ⟨p_a_, 0, none⟩)), (22, .slice sb2 l1.length sc2)] fun a hE => ?_
 obtain ⟨t_3, et_3, hm⟩ := bind_some hm
 replace H := H.t1.t1
 refine WR.eff hE rfl rfl rfl rfl (OpTo.fn hE rfl rfl Tryz.call59 (trees_Carry_ok (hX_l := (sl_rd 3 ecI 1 _ _ _)) (hC_l := (H.slCap 1 rfl).1) et_3 H)) ?_
 rintro _ w ⟨rfl, H⟩ a hE
 refine WR.e0 hE [(6, .int .i64 t_3.1), (7, .int .i64 t_2.1)] fun a hE => ?_
 refine Runs.ret hE Tryz.func63 rfl rfl ?_
 cases hm
 exact ⟨z, z1, rfl, H.x3.x2.x1⟩

theorem binomial_Pop_ok {w0 w : World} {As : List HP} {k : Nat} {p_a_ : Nat} {al_a_ : arena_Arena.A} {a_ : arena_Arena} {r : Int} {t : Int × Int × arena_Arena}  (hm : binomial_Pop k a_ r = some t) (H : St w0 (arena_Arena.R p_a_ al_a_ a_ :: As) w) :
    CallsR Tryz.prog 24 #[.pointer (some ⟨p_a_, 0, none⟩), .int .i64 r] w fun v w' => ∃ (z_a__free_b : Option Addr), ∃ (z_a__free_c : Nat), v = .tuple #[.int .i64 t.1, .int .i64 t.2.1] ∧ St w0 (arena_Arena.R p_a_ (arena_Arena.A.mk al_a_.l_b al_a_.l_c z_a__free_b z_a__free_c al_a_.m__p) t.2.2 :: As) w' := by
 rw [binomial_Pop] at hm
 refine enter (args := [.pointer (some ⟨p_a_, 0, none⟩), .int .i64 r]) Tryz.func24 rfl rfl rfl fun a hE => ?_
 refine Runs.sr ?_
 refine WR.seg hE 2 [] [0, 1] (Lo := [(0, .pointer (some ⟨p_a_, 0, none⟩)), (1, .int .i64 r)]) (obs := []) rfl (by kernel_rfl) trivial fun a hE => ?_
 refine WR.done rfl ?_
 refine Runs.seq ?_
 refine Runs.seq ?_
 obtain ⟨s, es, hm⟩ := bind_some hm
 refine Runs.join (fun a w => EnvOk 26 a [(0, .pointer (some ⟨p_a_, 0, none⟩)), (1, .int .i64 r), (14, .bool s)] ∧ St w0 (arena_Arena.R p_a_ al_a_ a_ :: As) w) (fun hk => ?_) ?_
 ·replace hm := es; clear es
  refine Runs.region ?_
  refine WR.d0 hE 5 [(9, .bool false), (10, .pointer (some ⟨p_a_, 0, none⟩)), (11, .int .i64 r)] fun a hE => ?_
  obtain ⟨t_, et_, hm⟩ := bind_some hm
  refine WR.eff hE rfl rfl rfl rfl (OpTo.fn hE rfl rfl Tryz.call62 (arena_Arena_Live_ok et_ H)) ?_
  rintro _ w ⟨rfl, H⟩ a hE
  refine WR.e0 hE [(14, .bool (!t_))] fun a hE => ?_
  cases hm
  exact hk _ _ ⟨hE.sel [0, 1, 14] (by kernel_rfl), H⟩
 rintro a w ⟨hE, H⟩
 refine Runs.cond hE rfl (fun c => ?_) (fun c => ?_)
 ·replace hm := cond_t c hm
  refine Runs.sr ?_
  refine WR.seg hE 2 [] [4, 5] (Lo := [(4, .int .i64 (-1)), (5, .int .i64 (-1))]) (obs := []) rfl (by kernel_rfl) trivial fun a hE => ?_
  refine WR.done rfl ?_
  refine Runs.ret hE Tryz.func24 rfl rfl ?_
  cases hm
  exact ⟨al_a_.free_b, al_a_.free_c, rfl, H⟩
 ·replace hm := cond_f c hm
  refine Runs.skip ?_
  refine Runs.sr ?_
  refine WR.seg hE 2 [] [0, 15, 16] (Lo := [(0, .pointer (some ⟨p_a_, 0, none⟩)), (15, .pointer (some ⟨p_a_, 0, none⟩)), (16, .int .i64 r)]) (obs := []) rfl (by kernel_rfl) trivial fun a hE => ?_
  obtain ⟨t_1, et_1, hm⟩ := bind_some hm
  refine WR.eff hE rfl rfl rfl rfl (OpTo.fn hE rfl rfl Tryz.call60 (trees_List_ok et_1 H)) ?_
  rintro _ w ⟨sb, sc, rfl, H⟩ a hE
  refine WR.e0 hE [(6, .slice sb t_1.1.length sc)] fun a hE => ?_
  refine Runs.sr ?_
  refine WR.d0 hE 4 [(18, .pointer (some ⟨p_a_, 0, none⟩)), (19, .slice sb t_1.1.length sc), (20, .pointer (some ⟨p_a_, 0, none⟩)), (21, .slice sb t_1.1.length sc)] fun a hE => ?_
  obtain ⟨t_2, et_2, hm⟩ := bind_some hm
  replace H := H.t1
  refine WR.eff hE rfl rfl rfl rfl (OpTo.fn hE rfl rfl Tryz.call64 (trees_Best_ok (hX_l := (sl_rd 3 ecI 1 _ _ _)) (hC_l := (H.slCap 1 rfl).1) et_2 H)) ?_
  rintro _ w ⟨rfl, H⟩ a hE
  obtain ⟨t_3, et_3, hm⟩ := bind_some hm
  refine WR.eff hE rfl rfl rfl rfl (OpTo.fn hE rfl rfl Tryz.call63 (binomial_without_ok et_3 H.t1.t1)) ?_
  rintro _ w ⟨z, z1, rfl, H⟩ a hE
  refine WR.e0 hE [(4, .int .i64 t_3.1), (5, .int .i64 t_3.2.1)] fun a hE => ?_
  refine Runs.ret hE Tryz.func24 rfl rfl ?_
  cases hm
  exact ⟨z, z1, rfl, H⟩

theorem thicketref1_Before_ok {w0 w : World} {As : List HP} {a_ : api_Entry} {b : api_Entry} {t : Bool}  (hm : thicketref1_Before a_ b = some t) (H : St w0 (As) w) :
    CallsR Tryz.prog 26 #[.agg #[.int .i64 a_.Key, .int .i64 a_.Serial], .agg #[.int .i64 b.Key, .int .i64 b.Serial]] w fun v w' => v = .bool t ∧ St w0 (As) w' := by
 rw [thicketref1_Before] at hm
 refine enter (args := [.agg #[.int .i64 a_.Key, .int .i64 a_.Serial], .agg #[.int .i64 b.Key, .int .i64 b.Serial]]) Tryz.func26 rfl rfl rfl fun a hE => ?_
 refine Runs.sr ?_
 refine WR.eff hE rfl rfl rfl rfl (OpTo.new hE H [] (.cells #[.int .i64 a_.Key, .int .i64 a_.Serial] 40 (0, 0)) (fun r => .pointer (some ⟨r, 0, none⟩)) (obs := []) rfl (fun _ => by kernel_rfl) trivial) ?_
 rintro _ w ⟨r, rfl, H⟩ a hE
 refine WR.eff hE rfl rfl rfl rfl (OpTo.new hE H [] (.cells #[.int .i64 b.Key, .int .i64 b.Serial] 40 (0, 0)) (fun r => .pointer (some ⟨r, 0, none⟩)) (obs := []) rfl (fun _ => by kernel_rfl) trivial) ?_
 rintro _ w ⟨r1, rfl, H⟩ a hE
 refine WR.seg hE 3 [] [2, 3] (Lo := [(2, .pointer (some ⟨r, 0, none⟩)), (3, .pointer (some ⟨r1, 0, none⟩))]) (obs := []) rfl (by kernel_rfl) trivial fun a hE => ?_
 refine WR.done rfl ?_
 refine Runs.seq ?_
 refine Runs.join (fun a w => EnvOk 24 a [(4, .bool ((decide (a_.Key < b.Key)) || ((a_.Key == b.Key) && (decide (a_.Serial < b.Serial)))))] ∧ St w0 (Blk r1 40 [.int .i64 b.Key, .int .i64 b.Serial] :: Blk r 40 [.int .i64 a_.Key, .int .i64 a_.Serial] :: As) w) (fun hk => ?_) ?_
 ·clear hm
  refine Runs.region ?_
  refine WR.d hE 6 [.int .i64 a_.Key, .int .i64 b.Key] [(10, .bool (decide (a_.Key < b.Key)))] (obs := [.cell ⟨r, 0, none⟩ (.int .i64 a_.Key), .cell ⟨r1, 0, none⟩ (.int .i64 b.Key)]) ⟨H.cell 1 rfl rfl, H.cell 0 rfl rfl, trivial⟩ fun a hE => ?_
  rcases Bool.eq_false_or_eq_true (decide (a_.Key < b.Key)) with c | c
  ·replace hE := hE.dec 10 c (by kernel_rfl)
   have c_ := c
   refine WR.e0 hE [(4, .bool true)] fun a hE => ?_
   refine hk _ _ ⟨?_, H.t1.t1⟩
   try rw [c_] at hE
   try rw [c_]
   exact hE.sel [4] (by kernel_rfl)
  ·replace hE := hE.dec 10 c (by kernel_rfl)
   have c_1 := c
   refine WR.d hE 12 [.int .i64 a_.Key, .int .i64 b.Key] [(10, .bool false), (16, .bool (a_.Key == b.Key))] (obs := [.cell ⟨r, 0, none⟩ (.int .i64 a_.Key), .cell ⟨r1, 0, none⟩ (.int .i64 b.Key)]) ⟨H.cell 1 rfl rfl, H.cell 0 rfl rfl, trivial⟩ fun a hE => ?_
   rcases Bool.eq_false_or_eq_true (a_.Key == b.Key) with c | c
   ·replace hE := hE.dec 16 c (by kernel_rfl)
    have c_2 := c
    refine WR.e hE [.int .i64 a_.Serial, .int .i64 b.Serial] [(4, .bool (decide (a_.Serial < b.Serial)))] (obs := [.cell ⟨r, 1, none⟩ (.int .i64 a_.Serial), .cell ⟨r1, 1, none⟩ (.int .i64 b.Serial)]) ⟨H.cell 1 rfl rfl, H.cell 0 rfl rfl, trivial⟩ fun a hE => ?_
    refine hk _ _ ⟨?_, H.t1.t1⟩
    try rw [c_1] at hE
    try rw [c_1]
    try rw [c_2] at hE
    try rw [c_2]
    exact hE.sel [4] (by kernel_rfl)
   ·replace hE := hE.dec 16 c (by kernel_rfl)
    have c_3 := c
    refine WR.e0 hE [(4, .bool false)] fun a hE => ?_
    refine hk _ _ ⟨?_, H.t1.t1⟩
    try rw [c_1] at hE
    try rw [c_1]
    try rw [c_3] at hE
    try rw [c_3]
    exact hE.sel [4] (by kernel_rfl)
 rintro a w ⟨hE, H⟩
 refine Runs.ret hE Tryz.func26 rfl rfl ?_
 cases hm
 exact ⟨rfl, H.x1.x0⟩

end Go.Proofs.YtmidmkinclmbdaaGreat
