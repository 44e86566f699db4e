import Derived.Test.YtmidmkinclmbdaaGreatSGp2
set_option linter.unusedVariables false
set_option linter.unusedSimpArgs false
set_option maxRecDepth 10000
set_option maxHeartbeats 4000000
namespace Go.Proofs.YtmidmkinclmbdaaGreat
open Go.Th

theorem arena_New_ok {w0 w : World} {As : List HP} {cells : Int} {t : arena_Arena}  (hm : arena_New cells = some t) (H : St w0 (As) w) :
    CallsR Tryz.prog 55 #[.int .i64 cells] w fun v w' => ∃ (q0 : Nat), ∃ (al0 : arena_Arena.A), v = .pointer (some ⟨q0, 0, none⟩) ∧ St w0 (arena_Arena.R q0 al0 t :: As) w' := by
 rw [arena_New] at hm
 refine enter (args := [.int .i64 cells]) Tryz.func55 rfl rfl rfl fun a hE => ?_
 refine Runs.sr ?_
 refine WR.seg hE 1 [] [0] (Lo := [(0, .int .i64 cells)]) (obs := []) rfl (by kernel_rfl) trivial fun a hE => ?_
 refine WR.done rfl ?_
 refine Runs.seq ?_
 obtain ⟨l, el, hm⟩ := bind_some hm
 obtain ⟨t_, et_, hm⟩ := bind_some hm
 refine Runs.join (fun a w => ∃ (p1 : Nat), ∃ (al : arena_Arena.A), EnvOk 10 a [(2, .pointer (some ⟨p1, 0, none⟩))] ∧ St w0 (arena_Arena.R p1 al (arena_Arena.mk l 0 ([] : List Int) t_) :: As) w) (fun hk => ?_) ?_
 ·refine Runs.drawn mixed (by kernel_rfl) ?_
  replace H := H.drew
  refine WQ.d0 hE [0, 1, 2] [(5, .int .i64 (if (if 65536 < cells then 65536 else cells) > 0 then (if 65536 < cells then 65536 else cells) else 0))] fun a hE => ?_
  refine WQ.act2 3 4 (by kernel_rfl) ?_ ?_
  ·refine AQ.eff (j := 3) (obs := []) hE rfl rfl rfl rfl (by kernel_rfl) (OpTo.make el hE H arena_cell.enc_ok rfl rfl rfl rfl rfl rfl rfl rfl) ?_
   rintro _ w ⟨r2, rfl, H⟩
   refine ⟨trivial, fun a hE => ?_⟩
   refine WQ.eff (j := 4) (obs := []) hE (by kernel_rfl) rfl rfl rfl rfl (by kernel_rfl) (OpTo.fn hE rfl rfl Tryz.call92 (meter_New_ok et_ H)) ?_
   rintro _ w ⟨p2, rfl, H⟩
   refine ⟨trivial, fun a hE => ?_⟩
   refine WQ.d0 hE [5] [(8, .agg #[.slice (some ⟨r2, 0, none⟩) l.length l.length, .int .i64 0, .slice none 0 0, .pointer (some ⟨p2, 0, none⟩)])] fun a hE => ?_
   refine WQ.eff (j := 6) (obs := []) hE (by kernel_rfl) rfl rfl rfl rfl (by kernel_rfl) (OpTo.new hE H [] (.cells #[.slice (some ⟨r2, 0, none⟩) l.length l.length, .int .i64 0, .slice none 0 0, .pointer (some ⟨p2, 0, none⟩)] 88 (0, 0)) (fun r => .pointer (some ⟨r, 0, none⟩)) (obs := []) rfl (fun _ => by kernel_rfl) trivial) ?_
   rintro _ w ⟨r3, rfl, H⟩
   refine ⟨trivial, fun a hE => ?_⟩
   refine WQ.d0 hE [7] [(2, .pointer (some ⟨r3, 0, none⟩))] fun a hE => ?_
   refine WQ.done (by kernel_rfl) ?_
   replace H := H.slNil 3 ecI 1
   replace H := arena_Arena.shut (arena_Arena.A.mk (some ⟨r2, 0, none⟩) l.length none 0 p2) (arena_Arena.mk l 0 ([] : List Int) t_) H.t2.t1.t3.t3
   exact hk _ _ ⟨r3, arena_Arena.A.mk (some ⟨r2, 0, none⟩) l.length none 0 p2, hE.sel [2] (by kernel_rfl), H⟩
  ·refine AQ.eff (j := 4) (obs := []) hE rfl rfl rfl rfl (by kernel_rfl) (OpTo.fn hE rfl rfl Tryz.call92 (meter_New_ok et_ H)) ?_
   rintro _ w ⟨p3, rfl, H⟩
   refine ⟨trivial, fun a hE => ?_⟩
   refine WQ.eff (j := 3) (obs := []) hE (by kernel_rfl) rfl rfl rfl rfl (by kernel_rfl) (OpTo.make el hE H arena_cell.enc_ok rfl rfl rfl rfl rfl rfl rfl rfl) ?_
   rintro _ w ⟨r4, rfl, H⟩
   refine ⟨trivial, fun a hE => ?_⟩
   refine WQ.d0 hE [5] [(8, .agg #[.slice (some ⟨r4, 0, none⟩) l.length l.length, .int .i64 0, .slice none 0 0, .pointer (some ⟨p3, 0, none⟩)])] fun a hE => ?_
   refine WQ.eff (j := 6) (obs := []) hE (by kernel_rfl) rfl rfl rfl rfl (by kernel_rfl) (OpTo.new hE H [] (.cells #[.slice (some ⟨r4, 0, none⟩) l.length l.length, .int .i64 0, .slice none 0 0, .pointer (some ⟨p3, 0, none⟩)] 88 (0, 0)) (fun r => .pointer (some ⟨r, 0, none⟩)) (obs := []) rfl (fun _ => by kernel_rfl) trivial) ?_
   rintro _ w ⟨r5, rfl, H⟩
   refine ⟨trivial, fun a hE => ?_⟩
   refine WQ.d0 hE [7] [(2, .pointer (some ⟨r5, 0, none⟩))] fun a hE => ?_
   refine WQ.done (by kernel_rfl) ?_
   replace H := H.slNil 3 ecI 1
   replace H := arena_Arena.shut (arena_Arena.A.mk (some ⟨r4, 0, none⟩) l.length none 0 p3) (arena_Arena.mk l 0 ([] : List Int) t_) H.t3.t1.t3.t3
   exact hk _ _ ⟨r5, arena_Arena.A.mk (some ⟨r4, 0, none⟩) l.length none 0 p3, hE.sel [2] (by kernel_rfl), H⟩
 rintro a w ⟨p1, al, hE, H⟩
 refine Runs.ret hE Tryz.func55 rfl rfl ?_
 cases hm
 exact ⟨p1, al, rfl, H⟩

theorem thicketlaw11_fresh_ok {w0 w : World} {As : List HP} {cells : Int} {t : thicketlaw11_world}  (hm : thicketlaw11_fresh cells = some t) (H : St w0 (As) w) :
    CallsR Tryz.prog 36 #[.int .i64 cells] w fun v w' => ∃ (q0 : Nat), ∃ (al0 : thicketlaw11_world.A), v = .pointer (some ⟨q0, 0, none⟩) ∧ St w0 (thicketlaw11_world.R q0 al0 t :: As) w' := by
 rw [thicketlaw11_fresh] at hm
 refine enter (args := [.int .i64 cells]) Tryz.func36 rfl rfl rfl fun a hE => ?_
 refine Runs.sr ?_
 refine WR.seg hE 1 [] [0] (Lo := [(0, .int .i64 cells)]) (obs := []) rfl (by kernel_rfl) trivial fun a hE => ?_
 refine WR.done rfl ?_
 refine Runs.sr ?_
 refine WR.d0 hE 1 [(4, .int .i64 cells)] fun a hE => ?_
 obtain ⟨t_, et_, hm⟩ := bind_some hm
 refine WR.eff hE rfl rfl rfl rfl (OpTo.fn hE rfl rfl Tryz.call55 (arena_New_ok et_ H)) ?_
 rintro _ w ⟨p, al, rfl, H⟩ a hE
 refine WR.d0 hE 4 [(7, .agg #[.pointer (some ⟨p, 0, none⟩), .int .i64 (-1), .int .i64 (-1), .slice none 0 0, .slice none 0 0, .int .i64 0, .int .i64 0, .int .i64 0])] fun a hE => ?_
 refine WR.eff hE rfl rfl rfl rfl (OpTo.new hE H [] (.cells #[.pointer (some ⟨p, 0, none⟩), .int .i64 (-1), .int .i64 (-1), .slice none 0 0, .slice none 0 0, .int .i64 0, .int .i64 0, .int .i64 0] 62 (0, 0)) (fun r => .pointer (some ⟨r, 0, none⟩)) (obs := []) rfl (fun _ => by kernel_rfl) trivial) ?_
 rintro _ w ⟨r, rfl, H⟩ a hE
 refine WR.e0 hE [(3, .pointer (some ⟨r, 0, none⟩))] fun a hE => ?_
 refine Runs.seq ?_
 refine Runs.seq ?_
 replace H := H.slNil 76 thicketlaw11_held.enc 3
 replace H := H.slNil 76 thicketlaw11_held.enc 3
 replace H := thicketlaw11_world.shut (thicketlaw11_world.A.mk p al none 0 none 0) (thicketlaw11_world.mk t_ (-1) (-1) ([] : List thicketlaw11_held) ([] : List thicketlaw11_held) 0 0 0) H.t1.t3.t3
 obtain ⟨s, es, hm⟩ := bind_some hm
 refine Runs.join (fun a w => EnvOk 23 a [(3, .pointer (some ⟨r, 0, none⟩)), (21, .bool false)] ∧ St w0 (thicketlaw11_world.R r (thicketlaw11_world.A.mk p al none 0 none 0) (thicketlaw11_world.mk t_ (-1) (-1) ([] : List thicketlaw11_held) ([] : List thicketlaw11_held) 0 0 0) :: As) w) (fun hk => ?_) ?_
 ·replace hm := es; clear es
  refine Runs.region ?_
  replace H := thicketlaw11_world.open H
  try dsimp only at H
  refine WR.d hE 10 [.pointer (some ⟨p, 0, none⟩), .pointer (some ⟨p, 0, none⟩)] [(14, .bool false), (18, .pointer (some ⟨p, 0, none⟩))] (obs := [.cell ⟨r, 0, none⟩ (.pointer (some ⟨p, 0, none⟩)), .cell ⟨r, 0, none⟩ (.pointer (some ⟨p, 0, none⟩))]) ⟨H.cell 0 rfl rfl, H.cell 0 rfl rfl, trivial⟩ fun a hE => ?_
  obtain ⟨t_1, et_1, hm⟩ := bind_some hm
  refine WR.eff hE rfl rfl rfl rfl (OpTo.fn hE rfl rfl Tryz.call20 (arena_Arena_Meter_ok et_1 H.t1)) ?_
  rintro _ w ⟨rfl, H⟩ a hE
  refine WR.e0 hE [(21, .bool false)] fun a hE => ?_
  replace H := thicketlaw11_world.shut (thicketlaw11_world.A.mk p al none 0 none 0) (thicketlaw11_world.mk t_ (-1) (-1) ([] : List thicketlaw11_held) ([] : List thicketlaw11_held) 0 0 0) H.t3.t3.t2.t3
  cases hm
  exact hk _ _ ⟨hE.sel [3, 21] (by kernel_rfl), H⟩
 rintro a w ⟨hE, H⟩
 refine Runs.condF hE rfl ?_
 refine Runs.skip ?_
 refine Runs.sr ?_
 refine WR.seg hE 2 [] [2] (Lo := [(2, .pointer (some ⟨r, 0, none⟩))]) (obs := []) rfl (by kernel_rfl) trivial fun a hE => ?_
 refine WR.done rfl ?_
 refine Runs.ret hE Tryz.func36 rfl rfl ?_
 cases hm
 exact ⟨r, thicketlaw11_world.A.mk p al none 0 none 0, rfl, H⟩

theorem thicketlaw11_known_ok {w0 w : World} {As : List HP} {k : Nat}  {t : Bool}  (hm : thicketlaw11_known k = some t) (H : St w0 (As) w) :
    CallsR Tryz.prog 40 #[] w fun v w' => v = .bool t ∧ St w0 (As) w' := by
 rw [thicketlaw11_known] at hm
 refine enter (args := []) Tryz.func40 rfl rfl rfl fun a hE => ?_
 refine Runs.sr ?_
 refine WR.seg hE 1 [] [] (Lo := []) (obs := []) rfl (by kernel_rfl) trivial fun a hE => ?_
 refine WR.done rfl ?_
 refine Runs.sr ?_
 obtain ⟨t_, et_, hm⟩ := bind_some hm
 refine WR.eff hE rfl rfl rfl rfl (OpTo.fn hE rfl rfl Tryz.call36 (thicketlaw11_fresh_ok et_ H)) ?_
 rintro _ w ⟨p, al, rfl, H⟩ a hE
 refine WR.e0 hE [(1, .pointer (some ⟨p, 0, none⟩))] fun a hE => ?_
 refine Runs.seq ?_
 refine Runs.seq ?_
 obtain ⟨s, es, hm⟩ := bind_some hm
 refine Runs.join (fun a w => ∃ (z : arena_Arena.A), ∃ (z1 : Option Addr), ∃ (z2 : Nat), ∃ (z3 : Option Addr), ∃ (z4 : Nat), EnvOk 69 a [(1, .pointer (some ⟨p, 0, none⟩)), (24, .bool s.1)] ∧ St w0 (thicketlaw11_world.R p (thicketlaw11_world.A.mk al.a__p z z1 z2 z3 z4) s.2 :: As) w) (fun hk => ?_) ?_
 ·replace hm := es; clear es
  refine Runs.region ?_
  refine WR.d0 hE 4 [(5, .bool false), (6, .pointer (some ⟨p, 0, none⟩))] fun a hE => ?_
  obtain ⟨t_1, et_1, hm⟩ := bind_some hm
  refine WR.eff hE rfl rfl rfl rfl (OpTo.fn hE rfl rfl Tryz.call41 (thicketlaw11_world_push_ok et_1 H)) ?_
  rintro _ w ⟨z5, z6, z7, z8, z9, rfl, H⟩ a hE
  refine WR.d0 hE 8 [(10, .bool (!t_1.1))] fun a hE => ?_
  rcases Bool.eq_false_or_eq_true (!t_1.1) with c | c
  ·replace hE := hE.dec 10 c (by kernel_rfl)
   replace hm := cond_t c hm
   have c_ := c
   refine WR.e0 hE [(24, .bool true)] fun a hE => ?_
   cases hm
   exact hk _ _ ⟨z5, z6, z7, z8, z9, hE.sel [1, 24] (by kernel_rfl), H⟩
  ·replace hE := hE.dec 10 c (by kernel_rfl)
   replace hm := cond_f c hm
   have c_1 := c
   refine WR.d0 hE 9 [(10, .bool false), (11, .pointer (some ⟨p, 0, none⟩))] fun a hE => ?_
   obtain ⟨t_2, et_2, hm⟩ := bind_some hm
   refine WR.eff hE rfl rfl rfl rfl (OpTo.fn hE rfl rfl Tryz.call41 (thicketlaw11_world_push_ok et_2 H)) ?_
   rintro _ w ⟨z10, z11, z12, z13, z14, rfl, H⟩ a hE
   refine WR.d0 hE 13 [(15, .bool (!t_2.1))] fun a hE => ?_
   rcases Bool.eq_false_or_eq_true (!t_2.1) with c | c
   ·replace hE := hE.dec 15 c (by kernel_rfl)
    replace hm := cond_t c hm
    have c_2 := c
    refine WR.e0 hE [(24, .bool true)] fun a hE => ?_
    cases hm
    exact hk _ _ ⟨z10, z11, z12, z13, z14, hE.sel [1, 24] (by kernel_rfl), H⟩
   ·replace hE := hE.dec 15 c (by kernel_rfl)
    replace hm := cond_f c hm
    have c_3 := c
    refine WR.d0 hE 14 [(15, .bool false), (16, .pointer (some ⟨p, 0, none⟩))] fun a hE => ?_
    obtain ⟨t_3, et_3, hm⟩ := bind_some hm
    refine WR.eff hE rfl rfl rfl rfl (OpTo.fn hE rfl rfl Tryz.call41 (thicketlaw11_world_push_ok et_3 H)) ?_
    rintro _ w ⟨z15, z16, z17, z18, z19, rfl, H⟩ a hE
    refine WR.d0 hE 18 [(20, .bool (!t_3.1))] fun a hE => ?_
    rcases Bool.eq_false_or_eq_true (!t_3.1) with c | c
    ·replace hE := hE.dec 20 c (by kernel_rfl)
     replace hm := cond_t c hm
     have c_4 := c
     refine WR.e0 hE [(24, .bool true)] fun a hE => ?_
     cases hm
     exact hk _ _ ⟨z15, z16, z17, z18, z19, hE.sel [1, 24] (by kernel_rfl), H⟩
    ·replace hE := hE.dec 20 c (by kernel_rfl)
     replace hm := cond_f c hm
     have c_5 := c
     refine WR.d0 hE 19 [(20, .bool false), (21, .pointer (some ⟨p, 0, none⟩))] fun a hE => ?_
     obtain ⟨t_4, et_4, hm⟩ := bind_some hm
     refine WR.eff hE rfl rfl rfl rfl (OpTo.fn hE rfl rfl Tryz.call43 (thicketlaw11_world_right_ok et_4 H)) ?_
     rintro _ w ⟨rfl, H⟩ a hE
     refine WR.e0 hE [(24, .bool (!t_4.1))] fun a hE => ?_
     cases hm
     exact hk _ _ ⟨z15, z16, z17, z18, z19, hE.sel [1, 24] (by kernel_rfl), H⟩
 rintro a w ⟨z, z1, z2, z3, z4, hE, H⟩
 refine Runs.cond hE rfl (fun c => ?_) (fun c => ?_)
 ·replace hm := cond_t c hm
  refine Runs.sr ?_
  refine WR.seg hE 1 [] [0] (Lo := [(0, .bool false)]) (obs := []) rfl (by kernel_rfl) trivial fun a hE => ?_
  refine WR.done rfl ?_
  refine Runs.ret hE Tryz.func40 rfl rfl ?_
  cases hm
  exact ⟨rfl, H.x0⟩
 ·replace hm := cond_f c hm
  refine Runs.skip ?_
  refine Runs.seq ?_
  obtain ⟨s1, es1, hm⟩ := bind_some hm
  refine Runs.join (fun a w => ∃ (z20 : arena_Arena.A), ∃ (z21 : Option Addr), ∃ (z22 : Nat), ∃ (z23 : Option Addr), ∃ (z24 : Nat), EnvOk 69 a [(0, .bool s1.1)] ∧ St w0 (thicketlaw11_world.R p (thicketlaw11_world.A.mk al.a__p z20 z21 z22 z23 z24) s1.2 :: As) w) (fun hk => ?_) ?_
  ·replace hm := es1; clear es1
   refine Runs.region ?_
   replace H := thicketlaw11_world.open H
   try dsimp only at H
   refine WR.seg hE 8 [.slice z1 s.2.has0.length z2] [1, 32] (Lo := [(1, .pointer (some ⟨p, 0, none⟩)), (32, .bool ((s.2.has0.length : Int) == 3))]) (obs := [.p (0 ≤ (0 : Int) ∧ (0 : Int) < ((2 : Nat) : Int)), .cell ⟨p, 3, none⟩ (.slice z1 s.2.has0.length z2)]) rfl (by kernel_rfl) ⟨⟨by decide, by decide⟩, H.cell 0 rfl rfl, trivial⟩ fun a hE => ?_
   rcases Bool.eq_false_or_eq_true ((s.2.has0.length : Int) == 3) with c | c
   ·replace hE := hE.dec 32 c (by kernel_rfl)
    replace hm := cond_t c hm
    have c_6 := c
    refine WR.d0 hE 9 [(32, .bool true), (33, .pointer (some ⟨p, 0, none⟩))] fun a hE => ?_
    replace H := thicketlaw11_world.shut (thicketlaw11_world.A.mk al.a__p z z1 z2 z3 z4) (s.2) H.t3.t3.t3.t3
    obtain ⟨t_5, et_5, hm⟩ := bind_some hm
    refine WR.eff hE rfl rfl rfl rfl (OpTo.fn hE rfl rfl Tryz.call42 (thicketlaw11_world_pop_ok et_5 H)) ?_
    rintro _ w ⟨z25, z26, z27, z28, z29, rfl, H⟩ a hE
    refine WR.d0 hE 12 [(36, .bool t_5.1)] fun a hE => ?_
    rcases Bool.eq_false_or_eq_true t_5.1 with c | c
    ·replace hE := hE.dec 36 c (by kernel_rfl)
     replace hm := cond_t c hm
     have c_7 := c
     refine WR.d0 hE 13 [(36, .bool true), (37, .pointer (some ⟨p, 0, none⟩))] fun a hE => ?_
     obtain ⟨t_6, et_6, hm⟩ := bind_some hm
     refine WR.eff hE rfl rfl rfl rfl (OpTo.fn hE rfl rfl Tryz.call42 (thicketlaw11_world_pop_ok et_6 H)) ?_
     rintro _ w ⟨z30, z31, z32, z33, z34, rfl, H⟩ a hE
     refine WR.d0 hE 16 [(40, .bool t_6.1)] fun a hE => ?_
     rcases Bool.eq_false_or_eq_true t_6.1 with c | c
     ·replace hE := hE.dec 40 c (by kernel_rfl)
      replace hm := cond_t c hm
      have c_8 := c
      replace H := thicketlaw11_world.open H
      try dsimp only at H
      refine WR.d hE 25 [.slice z31 t_6.2.has0.length z32] [(49, .bool ((t_6.2.has0.length : Int) == 1))] (obs := [.p (0 ≤ (0 : Int) ∧ (0 : Int) < ((2 : Nat) : Int)), .cell ⟨p, 3, none⟩ (.slice z31 t_6.2.has0.length z32)]) ⟨⟨by decide, by decide⟩, H.cell 0 rfl rfl, trivial⟩ fun a hE => ?_
      rcases Bool.eq_false_or_eq_true ((t_6.2.has0.length : Int) == 1) with c | c
      ·replace hE := hE.dec 49 c (by kernel_rfl)
       replace hm := cond_t c hm
       have c_9 := c
       obtain ⟨x, ex, hm⟩ := bind_some hm
       obtain ⟨b, o, hs, hb⟩ := SlRd.base (sl_rd 76 thicketlaw11_held.enc 3 _ _ _) thicketlaw11_held.enc_ok H 2 rfl ex
       refine WR.d hE 37 [.slice z31 t_6.2.has0.length z32, .pointer (some ⟨b, o, none⟩), .int .i64 x.e.Key] [(61, .bool (x.e.Key == 3))] (obs := [.p (0 ≤ (0 : Int) ∧ (0 : Int) < ((2 : Nat) : Int)), .cell ⟨p, 3, none⟩ (.slice z31 t_6.2.has0.length z32), .p ((z31 : Option Addr) = some ⟨b, o, none⟩), .p (0 ≤ (0 : Int) ∧ (0 : Int) < ((t_6.2.has0.length : Nat) : Int)), .cell ⟨b, o + (Int.toNat 0) * 3 + 1, none⟩ (.int .i64 x.e.Key)]) ⟨⟨by decide, by decide⟩, H.cell 0 rfl rfl, hs, hb, SlRd.cells (sl_rd 76 thicketlaw11_held.enc 3 _ _ _) thicketlaw11_held.enc_ok H 2 rfl hs ex 1 _ rfl, trivial⟩ fun a hE => ?_
       rcases Bool.eq_false_or_eq_true (x.e.Key == 3) with c | c
       ·replace hE := hE.dec 61 c (by kernel_rfl)
        replace hm := cond_t c hm
        have c_10 := c
        refine WR.d0 hE 38 [(61, .bool true), (62, .pointer (some ⟨p, 0, none⟩))] fun a hE => ?_
        replace H := thicketlaw11_world.shut (thicketlaw11_world.A.mk al.a__p z30 z31 z32 z33 z34) (t_6.2) H.t3.t3.t3.t3
        obtain ⟨t_7, et_7, hm⟩ := bind_some hm
        refine WR.eff hE rfl rfl rfl rfl (OpTo.fn hE rfl rfl Tryz.call42 (thicketlaw11_world_pop_ok et_7 H)) ?_
        rintro _ w ⟨z35, z36, z37, z38, z39, rfl, H⟩ a hE
        refine WR.d0 hE 41 [(65, .bool t_7.1)] fun a hE => ?_
        rcases Bool.eq_false_or_eq_true t_7.1 with c | c
        ·replace hE := hE.dec 65 c (by kernel_rfl)
         replace hm := cond_t c hm
         have c_11 := c
         refine WR.d0 hE 42 [(65, .bool true), (66, .pointer (some ⟨p, 0, none⟩))] fun a hE => ?_
         obtain ⟨t_8, et_8, hm⟩ := bind_some hm
         refine WR.eff hE rfl rfl rfl rfl (OpTo.fn hE rfl rfl Tryz.call42 (thicketlaw11_world_pop_ok et_8 H)) ?_
         rintro _ w ⟨z40, z41, z42, z43, z44, rfl, H⟩ a hE
         refine WR.e0 hE [(0, .bool t_8.1)] fun a hE => ?_
         cases hm
         exact hk _ _ ⟨z40, z41, z42, z43, z44, hE.sel [0] (by kernel_rfl), H⟩
        ·replace hE := hE.dec 65 c (by kernel_rfl)
         replace hm := cond_f c hm
         have c_12 := c
         refine WR.e0 hE [(0, .bool false)] fun a hE => ?_
         cases hm
         exact hk _ _ ⟨z35, z36, z37, z38, z39, hE.sel [0] (by kernel_rfl), H⟩
       ·replace hE := hE.dec 61 c (by kernel_rfl)
        replace hm := cond_f c hm
        have c_13 := c
        refine WR.e0 hE [(0, .bool false)] fun a hE => ?_
        replace H := thicketlaw11_world.shut (thicketlaw11_world.A.mk al.a__p z30 z31 z32 z33 z34) (t_6.2) H.t3.t3.t3.t3
        cases hm
        exact hk _ _ ⟨z30, z31, z32, z33, z34, hE.sel [0] (by kernel_rfl), H⟩
      ·replace hE := hE.dec 49 c (by kernel_rfl)
       replace hm := cond_f c hm
       have c_14 := c
       refine WR.e0 hE [(0, .bool false)] fun a hE => ?_
       replace H := thicketlaw11_world.shut (thicketlaw11_world.A.mk al.a__p z30 z31 z32 z33 z34) (t_6.2) H.t3.t3.t3.t3
       cases hm
       exact hk _ _ ⟨z30, z31, z32, z33, z34, hE.sel [0] (by kernel_rfl), H⟩
     ·replace hE := hE.dec 40 c (by kernel_rfl)
      replace hm := cond_f c hm
      have c_15 := c
      refine WR.e0 hE [(0, .bool false)] fun a hE => ?_
      cases hm
      exact hk _ _ ⟨z30, z31, z32, z33, z34, hE.sel [0] (by kernel_rfl), H⟩
    ·replace hE := hE.dec 36 c (by kernel_rfl)
     replace hm := cond_f c hm
     have c_16 := c
     refine WR.e0 hE [(0, .bool false)] fun a hE => ?_
     cases hm
     exact hk _ _ ⟨z25, z26, z27, z28, z29, hE.sel [0] (by kernel_rfl), H⟩
   ·replace hE := hE.dec 32 c (by kernel_rfl)
    replace hm := cond_f c hm
    have c_17 := c
    refine WR.e0 hE [(0, .bool false)] fun a hE => ?_
    replace H := thicketlaw11_world.shut (thicketlaw11_world.A.mk al.a__p z z1 z2 z3 z4) (s.2) H.t3.t3.t3.t3
    cases hm
    exact hk _ _ ⟨z, z1, z2, z3, z4, hE.sel [0] (by kernel_rfl), H⟩
  rintro a w ⟨z20, z21, z22, z23, z24, hE, H⟩
  refine Runs.ret hE Tryz.func40 rfl rfl ?_
  cases hm
  exact ⟨rfl, H.x0⟩

theorem thicketlaw11_SkewGreat_ok {w0 w : World} {As : List HP} {k : Nat} {n : Int} {how : Int} {sb_keys : Option Addr} {sc_keys : Nat} {keys : List Int} {X_keys : HP} {t : Bool} (hX_keys : SlRd X_keys ecI 1 sb_keys keys) (hC_keys : keys.length ≤ sc_keys) (hm : thicketlaw11_SkewGreat k n how keys = some t) (H : St w0 (X_keys :: As) w) :
    CallsR Tryz.prog 6 #[.int .i64 n, .int .i64 how, .slice sb_keys keys.length sc_keys] w fun v w' => v = .bool t ∧ St w0 (X_keys :: As) w' := by
 rw [thicketlaw11_SkewGreat] at hm
 refine enter (args := [.int .i64 n, .int .i64 how, .slice sb_keys keys.length sc_keys]) Tryz.func6 rfl rfl rfl fun a hE => ?_
 refine Runs.sr ?_
 refine WR.seg hE 1 [] [0, 1, 2] (Lo := [(0, .int .i64 n), (1, .int .i64 how), (2, .slice sb_keys keys.length sc_keys)]) (obs := []) rfl (by kernel_rfl) trivial fun a hE => ?_
 refine WR.done rfl ?_
 refine Runs.sr ?_
 obtain ⟨t_, et_, hm⟩ := bind_some hm
 refine WR.eff hE rfl rfl rfl rfl (OpTo.fn hE rfl rfl Tryz.call36 (thicketlaw11_fresh_ok et_ H)) ?_
 rintro _ w ⟨p, al, rfl, H⟩ a hE
 refine WR.e0 hE [(7, .pointer (some ⟨p, 0, none⟩))] fun a hE => ?_
 refine Runs.seq ?_
 refine Runs.sr ?_
 refine WR.e0 hE [(24, .bool false)] fun a hE => ?_
 refine Runs.condF hE rfl ?_
 refine Runs.skip ?_
 refine Runs.sr ?_
 refine WR.d0 hE 1 [(25, .int .i64 n)] fun a hE => ?_
 obtain ⟨t_1, et_1, hm⟩ := bind_some hm
 refine WR.eff hE rfl rfl rfl rfl (OpTo.fn hE rfl rfl Tryz.call18 (thicketbook_Within_ok et_1 H)) ?_
 rintro _ w ⟨rfl, H⟩ a hE
 refine WR.e0 hE [(8, .int .i64 t_1)] fun a hE => ?_
 refine Runs.seq ?_
 refine Runs.sr ?_
 refine WR.e0 hE [(9, .int .i64 0)] fun a hE => ?_
 obtain ⟨s, es, hR⟩ := bind_some hm
 refine Runs.join (fun a w => ∃ s1, s = Sum.inr s1 ∧ ∃ (z1 : arena_Arena.A), EnvOk 177 a [(7, .pointer (some ⟨p, 0, none⟩)), (8, .int .i64 t_1)] ∧ St w0 (thicketlaw11_world.R p (thicketlaw11_world.A.mk al.a__p z1 al.has0_b al.has0_c al.has1_b al.has1_c) s1 :: X_keys :: As) w) (fun hk => ?_) ?_
 ·replace hm := es; clear es
  refine Runs.block ?_
  refine Runs.loop (fun m a w => ∃ (i : Int), ∃ (m_ : thicketlaw11_world), ∃ (z2 : arena_Arena.A), EnvOk 177 a [(1, .int .i64 how), (2, .slice sb_keys keys.length sc_keys), (7, .pointer (some ⟨p, 0, none⟩)), (8, .int .i64 t_1), (9, .int .i64 i)] ∧ St w0 (thicketlaw11_world.R p (thicketlaw11_world.A.mk al.a__p z2 al.has0_b al.has0_c al.has1_b al.has1_c) m_ :: X_keys :: As) w ∧ thicketlaw11_SkewGreat_l0 how t_1 keys m i m_ = some s) k ⟨0, t_, al.a__a, hE.sel [1, 2, 7, 8, 9] (by kernel_rfl), H.t1.t1, hm⟩ ?_
  rintro m ih a w ⟨i, m_, z2, hE, H, hm⟩
  cases m with
  | zero => simp [thicketlaw11_SkewGreat_l0] at hm
  | succ m =>
   rw [thicketlaw11_SkewGreat_l0] at hm
   refine Runs.seq ?_
   refine Runs.sr ?_
   refine WR.seg hE 3 [] [1, 2, 7, 8, 9, 29] (Lo := [(1, .int .i64 how), (2, .slice sb_keys keys.length sc_keys), (7, .pointer (some ⟨p, 0, none⟩)), (8, .int .i64 t_1), (9, .int .i64 i), (29, .bool (decide (i < t_1)))]) (obs := []) rfl (by kernel_rfl) trivial fun a hE => ?_
   refine WR.done rfl ?_
   refine Runs.cond hE rfl (fun c => ?_) (fun c => ?_)
   ·replace hm := cond_t c hm
    refine Runs.skip ?_
    refine Runs.seq ?_
    obtain ⟨s2, es2, hR1⟩ := bind_some hm
    refine Runs.join (fun a w => ∃ s3, s2 = Sum.inr s3 ∧ ∃ (z3 : arena_Arena.A), EnvOk 177 a [(1, .int .i64 how), (2, .slice sb_keys keys.length sc_keys), (7, .pointer (some ⟨p, 0, none⟩)), (8, .int .i64 t_1), (9, .int .i64 i)] ∧ St w0 (thicketlaw11_world.R p (thicketlaw11_world.A.mk al.a__p z3 al.has0_b al.has0_c al.has1_b al.has1_c) s3 :: X_keys :: As) w) (fun hk => ?_) ?_
    ·replace hm := es2; clear es2
     refine Runs.block ?_
     refine Runs.sr ?_
     refine WR.d hE 6 [] [(32, .int .i64 i), (34, .int .i64 (w64 (0 - i))), (37, .int .i64 (Int.tmod (w64 (i * 389)) 601))] (obs := [.p ((601 : Int) ≠ 0)]) ⟨(by show _ ≠ _; decide), trivial⟩ fun a hE => ?_
     refine WR.eff hE rfl rfl rfl rfl (OpTo.buildSl (T := 2) hE H ecI_ok ([i, w64 (0 - i), Int.tmod (w64 (i * 389)) 601, 5] : List Int) rfl (fun _ => by kernel_rfl) rfl rfl rfl) ?_
     rintro _ w ⟨r, rfl, H⟩ a hE
     refine WR.d0 hE 8 [(39, .int .i64 how)] fun a hE => ?_
     obtain ⟨t_2, et_2, hm⟩ := bind_some hm
     refine WR.eff hE rfl rfl rfl rfl (OpTo.fn hE rfl rfl Tryz.call18 (thicketbook_Within_ok et_2 H)) ?_
     rintro _ w ⟨rfl, H⟩ a hE
     obtain ⟨x, ex, hm⟩ := bind_some hm
     obtain ⟨b, o, hs, hb⟩ := SlRd.base (sl_rd 2 ecI 1 _ _ _) ecI_ok H 0 rfl ex
     refine WR.e hE [.pointer (some ⟨b, o, none⟩), .int .i64 x] [(10, .int .i64 x)] (obs := [.p (((some ⟨r, 0, none⟩) : Option Addr) = some ⟨b, o, none⟩), .p (0 ≤ (t_2 : Int) ∧ (t_2 : Int) < ((([i, w64 (0 - i), Int.tmod (w64 (i * 389)) 601, 5] : List Int).length : Nat) : Int)), .cell ⟨b, o + (Int.toNat t_2) * 1, none⟩ (.int .i64 x)]) ⟨hs, hb, SlRd.cells (sl_rd 2 ecI 1 _ _ _) ecI_ok H 0 rfl hs ex 0 _ rfl, trivial⟩ fun a hE => ?_
     refine Runs.seq ?_
     refine Runs.sr ?_
     refine WR.e0 hE [(46, .bool (decide (i < (keys.length : Int))))] fun a hE => ?_
     obtain ⟨s4, es4, hm⟩ := bind_some hm
     refine Runs.join (fun a w => EnvOk 177 a [(1, .int .i64 how), (2, .slice sb_keys keys.length sc_keys), (7, .pointer (some ⟨p, 0, none⟩)), (8, .int .i64 t_1), (9, .int .i64 i), (10, .int .i64 s4)] ∧ St w0 (thicketlaw11_world.R p (thicketlaw11_world.A.mk al.a__p z2 al.has0_b al.has0_c al.has1_b al.has1_c) m_ :: X_keys :: As) w) (fun hk => ?_) ?_
     ·replace hm := es4; clear es4
      refine Runs.cond hE rfl (fun c => ?_) (fun c => ?_)
      ·replace hm := cond_t c hm
       refine Runs.region ?_
       obtain ⟨x1, ex1, hm⟩ := bind_some hm
       obtain ⟨b1, o1, hs1, hb1⟩ := SlRd.base hX_keys ecI_ok H 2 rfl ex1
       refine WR.e hE [.pointer (some ⟨b1, o1, none⟩), .int .i64 x1] [(10, .int .i64 (Int.tmod x1 1000))] (obs := [.p ((sb_keys : Option Addr) = some ⟨b1, o1, none⟩), .p (0 ≤ (i : Int) ∧ (i : Int) < ((keys.length : Nat) : Int)), .cell ⟨b1, o1 + (Int.toNat i) * 1, none⟩ (.int .i64 x1), .p ((1000 : Int) ≠ 0)]) ⟨hs1, hb1, SlRd.cells hX_keys ecI_ok H 2 rfl hs1 ex1 0 _ rfl, (by show _ ≠ _; decide), trivial⟩ fun a hE => ?_
       cases hm
       exact hk _ _ ⟨hE.sel [1, 2, 7, 8, 9, 10] (by kernel_rfl), H.x0.t1.t1⟩
      ·replace hm := cond_f c hm
       refine Runs.skip ?_
       cases hm
       exact hk _ _ ⟨hE.sel [1, 2, 7, 8, 9, 10] (by kernel_rfl), H.x0.t1.t1⟩
     rintro a w ⟨hE, H⟩
     refine Runs.sr ?_
     replace H := thicketlaw11_world.open H
     try dsimp only at H
     refine WR.seg hE 6 [.pointer (some ⟨al.a__p, 0, none⟩)] [1, 2, 7, 8, 9, 56, 57, 58] (Lo := [(1, .int .i64 how), (2, .slice sb_keys keys.length sc_keys), (7, .pointer (some ⟨p, 0, none⟩)), (8, .int .i64 t_1), (9, .int .i64 i), (56, .pointer (some ⟨al.a__p, 0, none⟩)), (57, .int .i64 s4), (58, .int .i64 i)]) (obs := [.cell ⟨p, 0, none⟩ (.pointer (some ⟨al.a__p, 0, none⟩))]) rfl (by kernel_rfl) ⟨H.cell 0 rfl rfl, trivial⟩ fun a hE => ?_
     obtain ⟨t_3, et_3, hm⟩ := bind_some hm
     refine WR.eff hE rfl rfl rfl rfl (OpTo.fn hE rfl rfl Tryz.call19 (item_New_ok et_3 H.t1)) ?_
     rintro _ w ⟨z4, z5, rfl, H⟩ a hE
     refine WR.e0 hE [(11, .int .i64 t_3.1), (12, .bool t_3.2.1)] fun a hE => ?_
     refine Runs.sr ?_
     refine WR.d hE 4 [.pointer (some ⟨al.a__p, 0, none⟩)] [(65, .pointer (some ⟨al.a__p, 0, none⟩))] (obs := [.cell ⟨p, 0, none⟩ (.pointer (some ⟨al.a__p, 0, none⟩))]) ⟨H.cell 1 rfl rfl, trivial⟩ fun a hE => ?_
     obtain ⟨t_4, et_4, hm⟩ := bind_some hm
     refine WR.eff hE rfl rfl rfl rfl (OpTo.fn hE rfl rfl Tryz.call20 (arena_Arena_Meter_ok et_4 H)) ?_
     rintro _ w ⟨rfl, H⟩ a hE
     replace H := arena_Arena.open H
     try dsimp only at H
     obtain ⟨t_5, et_5, hm⟩ := bind_some hm
     refine WR.eff hE rfl rfl rfl rfl (OpTo.fn hE rfl rfl Tryz.call21 (meter_Meter_Steps_ok et_5 H.t3)) ?_
     rintro _ w ⟨rfl, H⟩ a hE
     refine WR.e0 hE [(13, .int .i64 t_5)] fun a hE => ?_
     refine Runs.seq ?_
     refine Runs.drawn mixed (by kernel_rfl) ?_
     replace H := H.drew
     refine WQ.d hE [0, 1, 2, 3, 4, 5, 6, 7, 8, 9] [.pointer (some ⟨al.a__p, 0, none⟩), .int .i64 m_.root0] [(72, .pointer (some ⟨al.a__p, 0, none⟩)), (77, .int .i64 m_.root0), (78, .int .i64 t_3.1)] (obs := [.cell ⟨p, 0, none⟩ (.pointer (some ⟨al.a__p, 0, none⟩)), .p (0 ≤ (0 : Int) ∧ (0 : Int) < ((2 : Nat) : Int)), .cell ⟨p, 1, none⟩ (.int .i64 m_.root0)]) ⟨H.cell 4 rfl rfl, ⟨by decide, by decide⟩, H.cell 4 rfl rfl, trivial⟩ fun a hE => ?_
     replace H := arena_Arena.shut (arena_Arena.A.mk z2.l_b z2.l_c z4 z5 z2.m__p) (t_3.2.2) H.t3.t3.t3
     obtain ⟨t_6, et_6, hm⟩ := bind_some hm
     refine WQ.eff (j := 10) (obs := []) hE (by kernel_rfl) rfl rfl rfl rfl (by kernel_rfl) (OpTo.fn hE rfl rfl Tryz.call37 (skew_Push_ok et_6 H)) ?_
     rintro _ w ⟨z6, z7, rfl, H⟩
     refine ⟨trivial, fun a hE => ?_⟩
     refine WQ.d0 hE [11, 12, 13, 14, 15] [(14, .int .i64 t_6.1), (15, .bool t_6.2.1)] fun a hE => ?_
     refine WQ.done (by kernel_rfl) ?_
     refine Runs.seq ?_
     refine Runs.seq ?_
     replace H := thicketlaw11_world.shut (thicketlaw11_world.A.mk al.a__p (arena_Arena.A.mk z2.l_b z2.l_c z6 z7 z2.m__p) al.has0_b al.has0_c al.has1_b al.has1_c) (thicketlaw11_world.mk t_6.2.2 m_.root0 m_.root1 m_.has0 m_.has1 m_.next m_.spent m_.most) H.t3.t3.t2.t3
     obtain ⟨s5, es5, hm⟩ := bind_some hm
     refine Runs.join (fun a w => EnvOk 177 a [(1, .int .i64 how), (2, .slice sb_keys keys.length sc_keys), (7, .pointer (some ⟨p, 0, none⟩)), (8, .int .i64 t_1), (9, .int .i64 i), (14, .int .i64 t_6.1), (95, .bool s5.1)] ∧ St w0 (thicketlaw11_world.R p (thicketlaw11_world.A.mk al.a__p (arena_Arena.A.mk z2.l_b z2.l_c z6 z7 z2.m__p) al.has0_b al.has0_c al.has1_b al.has1_c) s5.2 :: X_keys :: As) w) (fun hk => ?_) ?_
     ·replace hm := es5; clear es5
      refine Runs.region ?_
      refine WR.d0 hE 3 [(84, .bool (!t_3.2.1))] fun a hE => ?_
      rcases Bool.eq_false_or_eq_true (!t_3.2.1) with c | c
      ·replace hE := hE.dec 84 c (by kernel_rfl)
       replace hm := cond_t c hm
       have c_ := c
       refine WR.e0 hE [(95, .bool true)] fun a hE => ?_
       cases hm
       exact hk _ _ ⟨hE.sel [1, 2, 7, 8, 9, 14, 95] (by kernel_rfl), H.t1.t1⟩
      ·replace hE := hE.dec 84 c (by kernel_rfl)
       replace hm := cond_f c hm
       have c_1 := c
       refine WR.d0 hE 7 [(88, .bool (!t_6.2.1))] fun a hE => ?_
       rcases Bool.eq_false_or_eq_true (!t_6.2.1) with c | c
       ·replace hE := hE.dec 88 c (by kernel_rfl)
        replace hm := cond_t c hm
        have c_2 := c
        refine WR.e0 hE [(95, .bool true)] fun a hE => ?_
        cases hm
        exact hk _ _ ⟨hE.sel [1, 2, 7, 8, 9, 14, 95] (by kernel_rfl), H.t1.t1⟩
       ·replace hE := hE.dec 88 c (by kernel_rfl)
        replace hm := cond_f c hm
        have c_3 := c
        refine WR.d0 hE 11 [(88, .bool false), (89, .pointer (some ⟨p, 0, none⟩)), (90, .int .i64 t_5), (92, .int .i64 (w64 (i + 1)))] fun a hE => ?_
        obtain ⟨t_7, et_7, hm⟩ := bind_some hm
        refine WR.eff hE rfl rfl rfl rfl (OpTo.fn hE rfl rfl Tryz.call38 (thicketlaw11_world_cost_ok et_7 H)) ?_
        rintro _ w ⟨rfl, hf, hf1, H⟩ a hE
        refine WR.e0 hE [(95, .bool (!t_7.1))] fun a hE => ?_
        cases hm
        exact hk _ _ ⟨hE.sel [1, 2, 7, 8, 9, 14, 95] (by kernel_rfl), H.t1.t1⟩
     rintro a w ⟨hE, H⟩
     refine Runs.cond hE rfl (fun c => ?_) (fun c => ?_)
     ·replace hm := cond_t c hm
      refine Runs.sr ?_
      refine WR.seg hE 1 [] [6] (Lo := [(6, .bool false)]) (obs := []) rfl (by kernel_rfl) trivial fun a hE => ?_
      refine WR.done rfl ?_
      refine Runs.ret hE Tryz.func6 rfl rfl ?_
      cases hm
      dsimp only at hR1; cases hR1
      dsimp only at hR; cases hR
      exact ⟨rfl, H.x0⟩
     ·replace hm := cond_f c hm
      refine Runs.skip ?_
      refine Runs.region ?_
      refine WR.seg hE 5 [] [1, 2, 7, 8, 9, 97, 100] (Lo := [(1, .int .i64 how), (2, .slice sb_keys keys.length sc_keys), (7, .pointer (some ⟨p, 0, none⟩)), (8, .int .i64 t_1), (9, .int .i64 i), (97, .int .i64 t_6.1), (100, .pointer (some ⟨p, 1, none⟩))]) (obs := [.p (0 ≤ (0 : Int) ∧ (0 : Int) < ((2 : Nat) : Int))]) rfl (by kernel_rfl) ⟨⟨by decide, by decide⟩, trivial⟩ fun a hE => ?_
      replace H := thicketlaw11_world.open H
      try dsimp only at H
      refine WR.eff0 hE rfl rfl rfl (OpTo.store hE H rfl rfl rfl rfl rfl rfl (Nat.le_of_ble_eq_true rfl)) ?_
      rintro _ w H a hE
      refine WR.done rfl ?_
      refine Runs.inBlock ?_
      replace H := thicketlaw11_world.shut (thicketlaw11_world.A.mk al.a__p (arena_Arena.A.mk z2.l_b z2.l_c z6 z7 z2.m__p) al.has0_b al.has0_c al.has1_b al.has1_c) (thicketlaw11_world.mk s5.2.a_ t_6.1 s5.2.root1 s5.2.has0 s5.2.has1 s5.2.next s5.2.spent s5.2.most) H.t3.t3.t3.t3
      cases hm
      exact hk _ _ ⟨_, rfl, arena_Arena.A.mk z2.l_b z2.l_c z6 z7 z2.m__p, hE.sel [1, 2, 7, 8, 9] (by kernel_rfl), H.t1.t1⟩
    rintro a w ⟨s3, rfl, z3, hE, H⟩
    replace hm := hR1; dsimp only at hm
    refine Runs.region ?_
    refine WR.seg hE 3 [] [1, 2, 7, 8, 9] (Lo := [(1, .int .i64 how), (2, .slice sb_keys keys.length sc_keys), (7, .pointer (some ⟨p, 0, none⟩)), (8, .int .i64 t_1), (9, .int .i64 (w64 (i + 1)))]) (obs := []) rfl (by kernel_rfl) trivial fun a hE => ?_
    refine WR.done rfl ?_
    exact ih m (Nat.lt_succ_self m) _ _ ⟨w64 (i + 1), s3, z3, hE.sel [1, 2, 7, 8, 9] (by kernel_rfl), H.t1.t1, hm⟩
   ·replace hm := cond_f c hm
    refine Runs.exit rfl ?_
    cases hm
    exact hk _ _ ⟨_, rfl, z2, hE.sel [7, 8] (by kernel_rfl), H.t1.t1⟩
 rintro a w ⟨s1, rfl, z1, hE, H⟩
 replace hm := hR; dsimp only at hm
 refine Runs.sr ?_
 refine WR.seg hE 1 [] [7, 8, 101] (Lo := [(7, .pointer (some ⟨p, 0, none⟩)), (8, .int .i64 t_1), (101, .agg #[.int .i64 (-9223372036854775808), .int .i64 (-1)])]) (obs := []) rfl (by kernel_rfl) trivial fun a hE => ?_
 refine WR.eff hE rfl rfl rfl rfl (OpTo.new hE H [] (.cells #[.int .i64 0, .int .i64 0] 40 (0, 0)) (fun r => .pointer (some ⟨r, 0, none⟩)) (obs := []) rfl (fun _ => by kernel_rfl) trivial) ?_
 rintro _ w ⟨r1, rfl, H⟩ a hE
 refine WR.eff0 hE rfl rfl rfl (OpTo.store hE H rfl rfl rfl rfl rfl rfl (Nat.le_of_ble_eq_true rfl)) ?_
 rintro _ w H a hE
 refine WR.done rfl ?_
 refine Runs.seq ?_
 refine Runs.sr ?_
 refine WR.e0 hE [(17, .int .i64 t_1)] fun a hE => ?_
 obtain ⟨s6, es6, hR2⟩ := bind_some hm
 refine Runs.join (fun a w => ∃ s7, s6 = Sum.inr s7 ∧ ∃ (z9 : arena_Arena.A), EnvOk 177 a [(7, .pointer (some ⟨p, 0, none⟩))] ∧ St w0 (thicketlaw11_world.R p (thicketlaw11_world.A.mk al.a__p z9 al.has0_b al.has0_c al.has1_b al.has1_c) s7 :: X_keys :: As) w) (fun hk => ?_) ?_
 ·replace hm := es6; clear es6
  refine Runs.block ?_
  refine Runs.loop (fun m a w => ∃ (i1 : Int), ∃ (v_ : Int), ∃ (v_1 : Int), ∃ (m_1 : thicketlaw11_world), ∃ (z10 : arena_Arena.A), EnvOk 177 a [(7, .pointer (some ⟨p, 0, none⟩)), (16, .pointer (some ⟨r1, 0, none⟩)), (17, .int .i64 i1)] ∧ St w0 (Blk r1 40 [.int .i64 v_, .int .i64 v_1] :: thicketlaw11_world.R p (thicketlaw11_world.A.mk al.a__p z10 al.has0_b al.has0_c al.has1_b al.has1_c) m_1 :: X_keys :: As) w ∧ thicketlaw11_SkewGreat_l1 keys m i1 v_ v_1 m_1 = some s6) k ⟨t_1, (-9223372036854775808), (-1), s1, z1, hE.sel [7, 16, 17] (by kernel_rfl), H.t2.t2.t2, hm⟩ ?_
  rintro m ih a w ⟨i1, v_, v_1, m_1, z10, hE, H, hm⟩
  cases m with
  | zero => simp [thicketlaw11_SkewGreat_l1] at hm
  | succ m =>
   rw [thicketlaw11_SkewGreat_l1] at hm
   refine Runs.seq ?_
   refine Runs.sr ?_
   refine WR.seg hE 2 [] [7, 16, 17, 104] (Lo := [(7, .pointer (some ⟨p, 0, none⟩)), (16, .pointer (some ⟨r1, 0, none⟩)), (17, .int .i64 i1), (104, .bool (decide (i1 > 0)))]) (obs := []) rfl (by kernel_rfl) trivial fun a hE => ?_
   refine WR.done rfl ?_
   refine Runs.cond hE rfl (fun c => ?_) (fun c => ?_)
   ·replace hm := cond_t c hm
    refine Runs.skip ?_
    refine Runs.seq ?_
    refine Runs.block ?_
    refine Runs.sr ?_
    replace H := thicketlaw11_world.open H.t1
    try dsimp only at H
    refine WR.d hE 4 [.pointer (some ⟨al.a__p, 0, none⟩)] [(110, .pointer (some ⟨al.a__p, 0, none⟩))] (obs := [.cell ⟨p, 0, none⟩ (.pointer (some ⟨al.a__p, 0, none⟩))]) ⟨H.cell 0 rfl rfl, trivial⟩ fun a hE => ?_
    obtain ⟨t_8, et_8, hm⟩ := bind_some hm
    refine WR.eff hE rfl rfl rfl rfl (OpTo.fn hE rfl rfl Tryz.call20 (arena_Arena_Meter_ok et_8 H.t1)) ?_
    rintro _ w ⟨rfl, H⟩ a hE
    replace H := arena_Arena.open H
    obtain ⟨t_9, et_9, hm⟩ := bind_some hm
    refine WR.eff hE rfl rfl rfl rfl (OpTo.fn hE rfl rfl Tryz.call21 (meter_Meter_Steps_ok et_9 H.t3)) ?_
    rintro _ w ⟨rfl, H⟩ a hE
    refine WR.e0 hE [(18, .int .i64 t_9)] fun a hE => ?_
    refine Runs.seq ?_
    refine Runs.drawn mixed (by kernel_rfl) ?_
    replace H := H.drew
    refine WQ.d hE [0, 1, 2, 3, 4, 5, 6, 7, 8] [.pointer (some ⟨al.a__p, 0, none⟩), .int .i64 m_1.root0] [(117, .pointer (some ⟨al.a__p, 0, none⟩)), (122, .int .i64 m_1.root0)] (obs := [.cell ⟨p, 0, none⟩ (.pointer (some ⟨al.a__p, 0, none⟩)), .p (0 ≤ (0 : Int) ∧ (0 : Int) < ((2 : Nat) : Int)), .cell ⟨p, 1, none⟩ (.int .i64 m_1.root0)]) ⟨H.cell 4 rfl rfl, ⟨by decide, by decide⟩, H.cell 4 rfl rfl, trivial⟩ fun a hE => ?_
    replace H := arena_Arena.shut z10 (m_1.a_) H.t3.t3.t3
    obtain ⟨t_10, et_10, hm⟩ := bind_some hm
    refine WQ.eff (j := 9) (obs := []) hE (by kernel_rfl) rfl rfl rfl rfl (by kernel_rfl) (OpTo.fn hE rfl rfl Tryz.call39 (skew_Pop_ok et_10 H)) ?_
    rintro _ w ⟨z11, z12, rfl, H⟩
    refine ⟨trivial, fun a hE => ?_⟩
    refine WQ.d0 hE [10, 11, 12, 13, 14] [(19, .int .i64 t_10.1), (20, .int .i64 t_10.2.1)] fun a hE => ?_
    refine WQ.done (by kernel_rfl) ?_
    refine Runs.seq ?_
    refine Runs.seq ?_
    replace H := thicketlaw11_world.shut (thicketlaw11_world.A.mk al.a__p (arena_Arena.A.mk z10.l_b z10.l_c z11 z12 z10.m__p) al.has0_b al.has0_c al.has1_b al.has1_c) (thicketlaw11_world.mk t_10.2.2 m_1.root0 m_1.root1 m_1.has0 m_1.has1 m_1.next m_1.spent m_1.most) H.t3.t3.t2.t3
    obtain ⟨s8, es8, hm⟩ := bind_some hm
    refine Runs.join (fun a w => EnvOk 177 a [(7, .pointer (some ⟨p, 0, none⟩)), (16, .pointer (some ⟨r1, 0, none⟩)), (17, .int .i64 i1), (19, .int .i64 t_10.1), (20, .int .i64 t_10.2.1), (134, .bool s8.1)] ∧ St w0 (thicketlaw11_world.R p (thicketlaw11_world.A.mk al.a__p (arena_Arena.A.mk z10.l_b z10.l_c z11 z12 z10.m__p) al.has0_b al.has0_c al.has1_b al.has1_c) s8.2 :: Blk r1 40 [.int .i64 v_, .int .i64 v_1] :: X_keys :: As) w) (fun hk => ?_) ?_
    ·replace hm := es8; clear es8
     refine Runs.region ?_
     refine WR.d0 hE 3 [(126, .pointer (some ⟨p, 0, none⟩)), (127, .int .i64 t_9), (128, .int .i64 i1)] fun a hE => ?_
     obtain ⟨t_11, et_11, hm⟩ := bind_some hm
     refine WR.eff hE rfl rfl rfl rfl (OpTo.fn hE rfl rfl Tryz.call38 (thicketlaw11_world_cost_ok et_11 H)) ?_
     rintro _ w ⟨rfl, hf2, hf3, H⟩ a hE
     refine WR.d0 hE 6 [(131, .bool (!t_11.1))] fun a hE => ?_
     rcases Bool.eq_false_or_eq_true (!t_11.1) with c | c
     ·replace hE := hE.dec 131 c (by kernel_rfl)
      replace hm := cond_t c hm
      have c_4 := c
      refine WR.e0 hE [(134, .bool true)] fun a hE => ?_
      cases hm
      exact hk _ _ ⟨hE.sel [7, 16, 17, 19, 20, 134] (by kernel_rfl), H.t2.t2.t2⟩
     ·replace hE := hE.dec 131 c (by kernel_rfl)
      replace hm := cond_f c hm
      have c_5 := c
      refine WR.e0 hE [(134, .bool (t_10.2.1 == (-1)))] fun a hE => ?_
      cases hm
      exact hk _ _ ⟨hE.sel [7, 16, 17, 19, 20, 134] (by kernel_rfl), H.t2.t2.t2⟩
    rintro a w ⟨hE, H⟩
    refine Runs.cond hE rfl (fun c => ?_) (fun c => ?_)
    ·replace hm := cond_t c hm
     refine Runs.sr ?_
     refine WR.seg hE 1 [] [6] (Lo := [(6, .bool false)]) (obs := []) rfl (by kernel_rfl) trivial fun a hE => ?_
     refine WR.done rfl ?_
     refine Runs.ret hE Tryz.func6 rfl rfl ?_
     cases hm
     dsimp only at hR2; cases hR2
     exact ⟨rfl, H.x1.x0⟩
    ·replace hm := cond_f c hm
     refine Runs.skip ?_
     refine Runs.sr ?_
     replace H := thicketlaw11_world.open H
     try dsimp only at H
     refine WR.seg hE 5 [.pointer (some ⟨al.a__p, 0, none⟩)] [7, 16, 17, 19, 20, 138, 139] (Lo := [(7, .pointer (some ⟨p, 0, none⟩)), (16, .pointer (some ⟨r1, 0, none⟩)), (17, .int .i64 i1), (19, .int .i64 t_10.1), (20, .int .i64 t_10.2.1), (138, .pointer (some ⟨al.a__p, 0, none⟩)), (139, .int .i64 t_10.2.1)]) (obs := [.cell ⟨p, 0, none⟩ (.pointer (some ⟨al.a__p, 0, none⟩))]) rfl (by kernel_rfl) ⟨H.cell 0 rfl rfl, trivial⟩ fun a hE => ?_
     obtain ⟨t_12, et_12, hm⟩ := bind_some hm
     refine WR.eff hE rfl rfl rfl rfl (OpTo.fn hE rfl rfl Tryz.call25 (item_Entry_ok et_12 H.t1)) ?_
     rintro _ w ⟨rfl, hf5, hf4, H⟩ a hE
     refine WR.eff hE rfl rfl rfl rfl (OpTo.new hE H [] (.cells #[.int .i64 0, .int .i64 0] 40 (0, 0)) (fun r => .pointer (some ⟨r, 0, none⟩)) (obs := []) rfl (fun _ => by kernel_rfl) trivial) ?_
     rintro _ w ⟨r2, rfl, H⟩ a hE
     refine WR.eff0 hE rfl rfl rfl (OpTo.store hE H rfl rfl rfl rfl rfl rfl (Nat.le_of_ble_eq_true rfl)) ?_
     rintro _ w H a hE
     refine WR.done rfl ?_
     refine Runs.seq ?_
     refine Runs.seq ?_
     replace H := thicketlaw11_world.shut (thicketlaw11_world.A.mk al.a__p (arena_Arena.A.mk z10.l_b z10.l_c z11 z12 z10.m__p) al.has0_b al.has0_c al.has1_b al.has1_c) (thicketlaw11_world.mk t_12.2 s8.2.root0 s8.2.root1 s8.2.has0 s8.2.has1 s8.2.next s8.2.spent s8.2.most) H.t4.t4.t3.t4
     obtain ⟨s9, es9, hm⟩ := bind_some hm
     refine Runs.join (fun a w => ∃ (z13 : arena_Arena.A), EnvOk 177 a [(7, .pointer (some ⟨p, 0, none⟩)), (16, .pointer (some ⟨r1, 0, none⟩)), (17, .int .i64 i1), (19, .int .i64 t_10.1), (21, .pointer (some ⟨r2, 0, none⟩)), (153, .bool s9.1)] ∧ St w0 (thicketlaw11_world.R p (thicketlaw11_world.A.mk al.a__p z13 al.has0_b al.has0_c al.has1_b al.has1_c) s9.2 :: Blk r2 40 [.int .i64 t_12.1.Key, .int .i64 t_12.1.Serial] :: Blk r1 40 [.int .i64 v_, .int .i64 v_1] :: X_keys :: As) w) (fun hk => ?_) ?_
     ·replace hm := es9; clear es9
      refine Runs.region ?_
      refine WR.d hE 2 [.int .i64 v_, .int .i64 v_1, .int .i64 t_12.1.Key, .int .i64 t_12.1.Serial] [(141, .agg #[.int .i64 v_, .int .i64 v_1]), (142, .agg #[.int .i64 t_12.1.Key, .int .i64 t_12.1.Serial])] (obs := [.cell ⟨r1, 0, none⟩ (.int .i64 v_), .cell ⟨r1, 1, none⟩ (.int .i64 v_1), .cell ⟨r2, 0, none⟩ (.int .i64 t_12.1.Key), .cell ⟨r2, 1, none⟩ (.int .i64 t_12.1.Serial)]) ⟨H.cell 2 rfl rfl, H.cell 2 rfl rfl, H.cell 1 rfl rfl, H.cell 1 rfl rfl, trivial⟩ fun a hE => ?_
      obtain ⟨t_13, et_13, hm⟩ := bind_some hm
      have hC_ := thicketref1_Before_ok et_13 H
      try dsimp only at hC_
      refine WR.eff hE rfl rfl rfl rfl (OpTo.fn hE rfl rfl Tryz.call26 hC_) ?_
      rintro _ w ⟨rfl, H⟩ a hE
      refine WR.d0 hE 5 [(145, .bool (!t_13))] fun a hE => ?_
      rcases Bool.eq_false_or_eq_true (!t_13) with c | c
      ·replace hE := hE.dec 145 c (by kernel_rfl)
       replace hm := cond_t c hm
       have c_6 := c
       refine WR.e0 hE [(153, .bool true)] fun a hE => ?_
       cases hm
       exact hk _ _ ⟨arena_Arena.A.mk z10.l_b z10.l_c z11 z12 z10.m__p, hE.sel [7, 16, 17, 19, 21, 153] (by kernel_rfl), H.t3.t3.t3.t3⟩
      ·replace hE := hE.dec 145 c (by kernel_rfl)
       replace hm := cond_f c hm
       have c_7 := c
       replace H := thicketlaw11_world.open H
       try dsimp only at H
       refine WR.d hE 10 [.pointer (some ⟨al.a__p, 0, none⟩)] [(145, .bool false), (149, .pointer (some ⟨al.a__p, 0, none⟩)), (150, .int .i64 t_10.2.1)] (obs := [.cell ⟨p, 0, none⟩ (.pointer (some ⟨al.a__p, 0, none⟩))]) ⟨H.cell 0 rfl rfl, trivial⟩ fun a hE => ?_
       obtain ⟨t_14, et_14, hm⟩ := bind_some hm
       refine WR.eff hE rfl rfl rfl rfl (OpTo.fn hE rfl rfl Tryz.call27 (arena_Arena_Give_ok et_14 H.t1)) ?_
       rintro _ w ⟨z14, z15, rfl, H⟩ a hE
       refine WR.e0 hE [(153, .bool (!t_14.1))] fun a hE => ?_
       replace H := thicketlaw11_world.shut (thicketlaw11_world.A.mk al.a__p (arena_Arena.A.mk ((arena_Arena.A.mk z10.l_b z10.l_c z11 z12 z10.m__p).l_b) ((arena_Arena.A.mk z10.l_b z10.l_c z11 z12 z10.m__p).l_c) z14 z15 ((arena_Arena.A.mk z10.l_b z10.l_c z11 z12 z10.m__p).m__p)) al.has0_b al.has0_c al.has1_b al.has1_c) (thicketlaw11_world.mk t_14.2 s8.2.root0 s8.2.root1 s8.2.has0 s8.2.has1 s8.2.next s8.2.spent s8.2.most) H.t3.t3.t2.t3
       cases hm
       exact hk _ _ ⟨arena_Arena.A.mk ((arena_Arena.A.mk z10.l_b z10.l_c z11 z12 z10.m__p).l_b) ((arena_Arena.A.mk z10.l_b z10.l_c z11 z12 z10.m__p).l_c) z14 z15 ((arena_Arena.A.mk z10.l_b z10.l_c z11 z12 z10.m__p).m__p), hE.sel [7, 16, 17, 19, 21, 153] (by kernel_rfl), H.t3.t3.t3.t3⟩
     rintro a w ⟨z13, hE, H⟩
     refine Runs.cond hE rfl (fun c => ?_) (fun c => ?_)
     ·replace hm := cond_t c hm
      refine Runs.sr ?_
      refine WR.seg hE 1 [] [6] (Lo := [(6, .bool false)]) (obs := []) rfl (by kernel_rfl) trivial fun a hE => ?_
      refine WR.done rfl ?_
      refine Runs.ret hE Tryz.func6 rfl rfl ?_
      cases hm
      dsimp only at hR2; cases hR2
      exact ⟨rfl, H.x2.x1.x0⟩
     ·replace hm := cond_f c hm
      refine Runs.skip ?_
      refine Runs.drawn mixed (by kernel_rfl) ?_
      replace H := H.drew
      refine WQ.seg hE [0, 1, 2, 3, 4, 5] [.int .i64 t_12.1.Key, .int .i64 t_12.1.Serial] [7, 16, 17, 155, 156, 159] (Lo := [(7, .pointer (some ⟨p, 0, none⟩)), (16, .pointer (some ⟨r1, 0, none⟩)), (17, .int .i64 i1), (155, .int .i64 t_10.1), (156, .agg #[.int .i64 t_12.1.Key, .int .i64 t_12.1.Serial]), (159, .pointer (some ⟨p, 1, none⟩))]) (obs := [.cell ⟨r2, 0, none⟩ (.int .i64 t_12.1.Key), .cell ⟨r2, 1, none⟩ (.int .i64 t_12.1.Serial), .p (0 ≤ (0 : Int) ∧ (0 : Int) < ((2 : Nat) : Int))]) (by kernel_rfl) (by kernel_rfl) ⟨H.cell 1 rfl rfl, H.cell 1 rfl rfl, ⟨by decide, by decide⟩, trivial⟩ fun a hE => ?_
      replace H := thicketlaw11_world.open H
      try dsimp only at H
      refine WQ.eff0 (j := 6) (obs := [.cell ⟨r2, 0, none⟩ (.int .i64 t_12.1.Key), .cell ⟨r2, 1, none⟩ (.int .i64 t_12.1.Serial)]) hE (by kernel_rfl) rfl rfl rfl (by kernel_rfl) (OpTo.store hE H rfl rfl rfl rfl rfl rfl (Nat.le_of_ble_eq_true rfl)) ?_
      rintro _ w H
      refine ⟨⟨H.cell 4 rfl rfl, H.cell 4 rfl rfl, trivial⟩, fun a hE => ?_⟩
      refine WQ.eff0 (j := 7) (obs := []) hE (by kernel_rfl) rfl rfl rfl (by kernel_rfl) (OpTo.store hE H.t5 rfl rfl rfl rfl rfl rfl (Nat.le_of_ble_eq_true rfl)) ?_
      rintro _ w H
      refine ⟨trivial, fun a hE => ?_⟩
      refine WQ.done (by kernel_rfl) ?_
      refine Runs.inBlock ?_
      refine Runs.region ?_
      refine WR.e0 hE [(17, .int .i64 (w64 (i1 - 1)))] fun a hE => ?_
      replace H := thicketlaw11_world.shut (thicketlaw11_world.A.mk al.a__p z13 al.has0_b al.has0_c al.has1_b al.has1_c) (thicketlaw11_world.mk s9.2.a_ t_10.1 s9.2.root1 s9.2.has0 s9.2.has1 s9.2.next s9.2.spent s9.2.most) H.t4.t4.t4.t4
      exact ih m (Nat.lt_succ_self m) _ _ ⟨w64 (i1 - 1), t_12.1.Key, t_12.1.Serial, thicketlaw11_world.mk s9.2.a_ t_10.1 s9.2.root1 s9.2.has0 s9.2.has1 s9.2.next s9.2.spent s9.2.most, z13, hE.sel [7, 16, 17] (by kernel_rfl), H.x2.t2.t1.t2, hm⟩
   ·replace hm := cond_f c hm
    refine Runs.exit rfl ?_
    cases hm
    exact hk _ _ ⟨_, rfl, z10, hE.sel [7] (by kernel_rfl), H.x0.t1.t1⟩
 rintro a w ⟨s7, rfl, z9, hE, H⟩
 replace hm := hR2; dsimp only at hm
 refine Runs.seq ?_
 obtain ⟨s10, es10, hm⟩ := bind_some hm
 refine Runs.join (fun a w => EnvOk 177 a [(6, .bool s10)] ∧ St w0 (thicketlaw11_world.R p (thicketlaw11_world.A.mk al.a__p z9 al.has0_b al.has0_c al.has1_b al.has1_c) s7 :: X_keys :: As) w) (fun hk => ?_) ?_
 ·replace hm := es10; clear es10
  refine Runs.region ?_
  replace H := thicketlaw11_world.open H
  try dsimp only at H
  refine WR.seg hE 7 [.int .i64 s7.root0] [7, 166] (Lo := [(7, .pointer (some ⟨p, 0, none⟩)), (166, .bool (s7.root0 == (-1)))]) (obs := [.p (0 ≤ (0 : Int) ∧ (0 : Int) < ((2 : Nat) : Int)), .cell ⟨p, 1, none⟩ (.int .i64 s7.root0)]) rfl (by kernel_rfl) ⟨⟨by decide, by decide⟩, H.cell 0 rfl rfl, trivial⟩ fun a hE => ?_
  rcases Bool.eq_false_or_eq_true (s7.root0 == (-1)) with c | c
  ·replace hE := hE.dec 166 c (by kernel_rfl)
   replace hm := cond_t c hm
   have c_8 := c
   refine WR.d hE 11 [.pointer (some ⟨al.a__p, 0, none⟩)] [(166, .bool true), (170, .pointer (some ⟨al.a__p, 0, none⟩))] (obs := [.cell ⟨p, 0, none⟩ (.pointer (some ⟨al.a__p, 0, none⟩))]) ⟨H.cell 0 rfl rfl, trivial⟩ fun a hE => ?_
   obtain ⟨t_15, et_15, hm⟩ := bind_some hm
   refine WR.eff hE rfl rfl rfl rfl (OpTo.fn hE rfl rfl Tryz.call28 (arena_Arena_Len_ok et_15 H.t1)) ?_
   rintro _ w ⟨rfl, H⟩ a hE
   refine WR.d0 hE 15 [(174, .bool (t_15 == 0))] fun a hE => ?_
   rcases Bool.eq_false_or_eq_true (t_15 == 0) with c | c
   ·replace hE := hE.dec 174 c (by kernel_rfl)
    replace hm := cond_t c hm
    have c_9 := c
    obtain ⟨t_16, et_16, hm⟩ := bind_some hm
    refine WR.eff hE rfl rfl rfl rfl (OpTo.fn hE rfl rfl Tryz.call40 (thicketlaw11_known_ok et_16 H)) ?_
    rintro _ w ⟨rfl, H⟩ a hE
    refine WR.e0 hE [(6, .bool t_16)] fun a hE => ?_
    replace H := thicketlaw11_world.shut (thicketlaw11_world.A.mk al.a__p z9 al.has0_b al.has0_c al.has1_b al.has1_c) (s7) H.t3.t3.t2.t3
    cases hm
    exact hk _ _ ⟨hE.sel [6] (by kernel_rfl), H.t1.t1⟩
   ·replace hE := hE.dec 174 c (by kernel_rfl)
    replace hm := cond_f c hm
    have c_10 := c
    refine WR.e0 hE [(6, .bool false)] fun a hE => ?_
    replace H := thicketlaw11_world.shut (thicketlaw11_world.A.mk al.a__p z9 al.has0_b al.has0_c al.has1_b al.has1_c) (s7) H.t3.t3.t2.t3
    cases hm
    exact hk _ _ ⟨hE.sel [6] (by kernel_rfl), H.t1.t1⟩
  ·replace hE := hE.dec 166 c (by kernel_rfl)
   replace hm := cond_f c hm
   have c_11 := c
   refine WR.e0 hE [(6, .bool false)] fun a hE => ?_
   replace H := thicketlaw11_world.shut (thicketlaw11_world.A.mk al.a__p z9 al.has0_b al.has0_c al.has1_b al.has1_c) (s7) H.t3.t3.t3.t3
   cases hm
   exact hk _ _ ⟨hE.sel [6] (by kernel_rfl), H.t1.t1⟩
 rintro a w ⟨hE, H⟩
 refine Runs.ret hE Tryz.func6 rfl rfl ?_
 cases hm
 exact ⟨rfl, H.x0⟩

end Go.Proofs.YtmidmkinclmbdaaGreat
