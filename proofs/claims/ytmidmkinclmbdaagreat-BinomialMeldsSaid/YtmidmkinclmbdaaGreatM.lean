import Derived.Test.YtmidmkinclmbdaaGreatMp1
set_option linter.unusedVariables false
set_option linter.unusedSimpArgs false
set_option maxRecDepth 10000
set_option maxHeartbeats 4000000
namespace Go.Proofs.YtmidmkinclmbdaaGreat
open Go.Th

theorem thicketlaw9_before_ok {w0 w : World} {As : List HP} {x : thicketlaw9_held} {y : thicketlaw9_held} {t : Bool}  (hm : thicketlaw9_before x y = some t) (H : St w0 (As) w) :
    CallsR Tryz.prog 110 #[.agg #[.int .i64 x.cell, .int .i64 x.e.Key, .int .i64 x.e.Serial], .agg #[.int .i64 y.cell, .int .i64 y.e.Key, .int .i64 y.e.Serial]] w fun v w' => v = .bool t ∧ St w0 (As) w' := by
 rw [thicketlaw9_before] at hm
 refine enter (args := [.agg #[.int .i64 x.cell, .int .i64 x.e.Key, .int .i64 x.e.Serial], .agg #[.int .i64 y.cell, .int .i64 y.e.Key, .int .i64 y.e.Serial]]) Tryz.func110 rfl rfl rfl fun a hE => ?_
 refine Runs.sr ?_
 refine WR.eff hE rfl rfl rfl rfl (OpTo.new hE H [] (.cells #[.int .i64 x.cell, .int .i64 x.e.Key, .int .i64 x.e.Serial] 64 (0, 0)) (fun r => .pointer (some ⟨r, 0, none⟩)) (obs := []) rfl (fun _ => by kernel_rfl) trivial) ?_
 rintro _ w ⟨r, rfl, H⟩ a hE
 refine WR.eff hE rfl rfl rfl rfl (OpTo.new hE H [] (.cells #[.int .i64 y.cell, .int .i64 y.e.Key, .int .i64 y.e.Serial] 64 (0, 0)) (fun r => .pointer (some ⟨r, 0, none⟩)) (obs := []) rfl (fun _ => by kernel_rfl) trivial) ?_
 rintro _ w ⟨r1, rfl, H⟩ a hE
 refine WR.seg hE 3 [] [2, 3] (Lo := [(2, .pointer (some ⟨r, 0, none⟩)), (3, .pointer (some ⟨r1, 0, none⟩))]) (obs := []) rfl (by kernel_rfl) trivial fun a hE => ?_
 refine WR.done rfl ?_
 refine Runs.seq ?_
 obtain ⟨s, es, hm⟩ := bind_some hm
 refine Runs.join (fun a w => EnvOk 24 a [(4, .bool s)] ∧ St w0 (As) w) (fun hk => ?_) ?_
 ·replace hm := es; clear es
  refine Runs.region ?_
  refine WR.d hE 4 [.int .i64 x.e.Key, .int .i64 x.e.Serial, .int .i64 y.e.Key, .int .i64 y.e.Serial] [(6, .agg #[.int .i64 x.e.Key, .int .i64 x.e.Serial]), (8, .agg #[.int .i64 y.e.Key, .int .i64 y.e.Serial])] (obs := [.cell ⟨r, 1, none⟩ (.int .i64 x.e.Key), .cell ⟨r, 2, none⟩ (.int .i64 x.e.Serial), .cell ⟨r1, 1, none⟩ (.int .i64 y.e.Key), .cell ⟨r1, 2, none⟩ (.int .i64 y.e.Serial)]) ⟨H.cell 1 rfl rfl, H.cell 1 rfl rfl, H.cell 0 rfl rfl, H.cell 0 rfl rfl, trivial⟩ fun a hE => ?_
  obtain ⟨t_, et_, hm⟩ := bind_some hm
  refine WR.eff hE rfl rfl rfl rfl (OpTo.fn hE rfl rfl Tryz.call26 (thicketref1_Before_ok et_ H)) ?_
  rintro _ w ⟨rfl, H⟩ a hE
  refine WR.d0 hE 6 [(10, .bool t_)] fun a hE => ?_
  rcases Bool.eq_false_or_eq_true t_ with c | c
  ·replace hE := hE.dec 10 c (by kernel_rfl)
   replace hm := cond_t c hm
   have c_ := c
   refine WR.e0 hE [(4, .bool true)] fun a hE => ?_
   cases hm
   exact hk _ _ ⟨hE.sel [4] (by kernel_rfl), H.x1.x0⟩
  ·replace hE := hE.dec 10 c (by kernel_rfl)
   replace hm := cond_f c hm
   have c_1 := c
   refine WR.d hE 10 [.int .i64 x.e.Key, .int .i64 x.e.Serial, .int .i64 y.e.Key, .int .i64 y.e.Serial] [(10, .bool false), (12, .agg #[.int .i64 x.e.Key, .int .i64 x.e.Serial]), (14, .agg #[.int .i64 y.e.Key, .int .i64 y.e.Serial])] (obs := [.cell ⟨r, 1, none⟩ (.int .i64 x.e.Key), .cell ⟨r, 2, none⟩ (.int .i64 x.e.Serial), .cell ⟨r1, 1, none⟩ (.int .i64 y.e.Key), .cell ⟨r1, 2, none⟩ (.int .i64 y.e.Serial)]) ⟨H.cell 1 rfl rfl, H.cell 1 rfl rfl, H.cell 0 rfl rfl, H.cell 0 rfl rfl, trivial⟩ fun a hE => ?_
   refine WR.eff hE rfl rfl rfl rfl (OpTo.eqS hE rfl rfl rfl (by kernel_rfl) (api_Entry.eq_run x.e y.e)) ?_
   rintro _ _ ⟨rfl, rfl⟩ a hE
   refine WR.d0 hE 12 [(16, .bool (api_Entry.eq x.e y.e))] fun a hE => ?_
   rcases Bool.eq_false_or_eq_true (api_Entry.eq x.e y.e) with c | c
   ·replace hE := hE.dec 16 c (by kernel_rfl)
    replace hm := cond_t c hm
    have c_2 := c
    refine WR.e hE [.int .i64 x.cell, .int .i64 y.cell] [(4, .bool (decide (x.cell < y.cell)))] (obs := [.cell ⟨r, 0, none⟩ (.int .i64 x.cell), .cell ⟨r1, 0, none⟩ (.int .i64 y.cell)]) ⟨H.cell 1 rfl rfl, H.cell 0 rfl rfl, trivial⟩ fun a hE => ?_
    cases hm
    exact hk _ _ ⟨hE.sel [4] (by kernel_rfl), H.x1.x0⟩
   ·replace hE := hE.dec 16 c (by kernel_rfl)
    replace hm := cond_f c hm
    have c_3 := c
    refine WR.e0 hE [(4, .bool false)] fun a hE => ?_
    cases hm
    exact hk _ _ ⟨hE.sel [4] (by kernel_rfl), H.x1.x0⟩
 rintro a w ⟨hE, H⟩
 refine Runs.ret hE Tryz.func110 rfl rfl ?_
 cases hm
 exact ⟨rfl, H⟩

theorem thicketlaw9_least_ok {w0 w : World} {As : List HP} {k : Nat} {sb_l : Option Addr} {sc_l : Nat} {l : List thicketlaw9_held} {X_l : HP} {t : Int} (hX_l : SlRd X_l thicketlaw9_held.enc 3 sb_l l) (hC_l : l.length ≤ sc_l) (hm : thicketlaw9_least k l = some t) (H : St w0 (X_l :: As) w) :
    CallsR Tryz.prog 68 #[.slice sb_l l.length sc_l] w fun v w' => v = .int .i64 t ∧ St w0 (X_l :: As) w' := by
 rw [thicketlaw9_least] at hm
 refine enter (args := [.slice sb_l l.length sc_l]) Tryz.func68 rfl rfl rfl fun a hE => ?_
 refine Runs.sr ?_
 refine WR.seg hE 1 [] [0] (Lo := [(0, .slice sb_l l.length sc_l)]) (obs := []) rfl (by kernel_rfl) trivial fun a hE => ?_
 refine WR.done rfl ?_
 refine Runs.sr ?_
 refine WR.e0 hE [(3, .int .i64 0)] fun a hE => ?_
 refine Runs.seq ?_
 refine Runs.sr ?_
 refine WR.e0 hE [(4, .int .i64 1)] fun a hE => ?_
 obtain ⟨s, es, hm⟩ := bind_some hm
 refine Runs.join (fun a w => EnvOk 22 a [(3, .int .i64 s)] ∧ St w0 (X_l :: As) w) (fun hk => ?_) ?_
 ·replace hm := es; clear es
  refine Runs.block ?_
  refine Runs.loop (fun m a w => ∃ (k_ : Int), ∃ (i : Int), EnvOk 22 a [(0, .slice sb_l l.length sc_l), (3, .int .i64 k_), (4, .int .i64 i)] ∧ St w0 (X_l :: As) w ∧ thicketlaw9_least_l0 l m k_ i = some s) k ⟨0, 1, hE.sel [0, 3, 4] (by kernel_rfl), H, hm⟩ ?_
  rintro m ih a w ⟨k_, i, hE, H, hm⟩
  cases m with
  | zero => simp [thicketlaw9_least_l0] at hm
  | succ m =>
   rw [thicketlaw9_least_l0] at hm
   refine Runs.seq ?_
   refine Runs.sr ?_
   refine WR.seg hE 4 [] [0, 3, 4, 8] (Lo := [(0, .slice sb_l l.length sc_l), (3, .int .i64 k_), (4, .int .i64 i), (8, .bool (decide (i < (l.length : Int))))]) (obs := []) rfl (by kernel_rfl) trivial fun a hE => ?_
   refine WR.done rfl ?_
   refine Runs.cond hE rfl (fun c => ?_) (fun c => ?_)
   ·replace hm := cond_t c hm
    refine Runs.skip ?_
    refine Runs.seq ?_
    obtain ⟨s1, es1, hm⟩ := bind_some hm
    refine Runs.join (fun a w => EnvOk 22 a [(0, .slice sb_l l.length sc_l), (3, .int .i64 s1), (4, .int .i64 i)] ∧ St w0 (X_l :: As) w) (fun hk => ?_) ?_
    ·replace hm := es1; clear es1
     refine Runs.block ?_
     refine Runs.seq ?_
     refine Runs.drawn mixed (by kernel_rfl) ?_
     replace H := H.drew
     obtain ⟨x, ex, hm⟩ := bind_some hm
     obtain ⟨b, o, hs, hb⟩ := SlRd.base hX_l thicketlaw9_held.enc_ok H 0 rfl ex
     obtain ⟨x1, ex1, hm⟩ := bind_some hm
     obtain ⟨b1, o1, hs1, hb1⟩ := SlRd.base hX_l thicketlaw9_held.enc_ok H 0 rfl ex1
     refine WQ.d hE [0, 1, 2, 3, 4, 5, 6, 7] [.pointer (some ⟨b, o, none⟩), .int .i64 x.cell, .int .i64 x.e.Key, .int .i64 x.e.Serial, .pointer (some ⟨b1, o1, none⟩), .int .i64 x1.cell, .int .i64 x1.e.Key, .int .i64 x1.e.Serial] [(14, .agg #[.int .i64 x.cell, .int .i64 x.e.Key, .int .i64 x.e.Serial]), (18, .agg #[.int .i64 x1.cell, .int .i64 x1.e.Key, .int .i64 x1.e.Serial])] (obs := [.p ((sb_l : Option Addr) = some ⟨b, o, none⟩), .p (0 ≤ (i : Int) ∧ (i : Int) < ((l.length : Nat) : Int)), .cell ⟨b, o + (Int.toNat i) * 3, none⟩ (.int .i64 x.cell), .cell ⟨b, o + (Int.toNat i) * 3 + 1, none⟩ (.int .i64 x.e.Key), .cell ⟨b, o + (Int.toNat i) * 3 + 2, none⟩ (.int .i64 x.e.Serial), .p ((sb_l : Option Addr) = some ⟨b1, o1, none⟩), .p (0 ≤ (k_ : Int) ∧ (k_ : Int) < ((l.length : Nat) : Int)), .cell ⟨b1, o1 + (Int.toNat k_) * 3, none⟩ (.int .i64 x1.cell), .cell ⟨b1, o1 + (Int.toNat k_) * 3 + 1, none⟩ (.int .i64 x1.e.Key), .cell ⟨b1, o1 + (Int.toNat k_) * 3 + 2, none⟩ (.int .i64 x1.e.Serial)]) ⟨hs, hb, SlRd.cells hX_l thicketlaw9_held.enc_ok H 0 rfl hs ex 0 _ rfl, SlRd.cells hX_l thicketlaw9_held.enc_ok H 0 rfl hs ex 1 _ rfl, SlRd.cells hX_l thicketlaw9_held.enc_ok H 0 rfl hs ex 2 _ rfl, hs1, hb1, SlRd.cells hX_l thicketlaw9_held.enc_ok H 0 rfl hs1 ex1 0 _ rfl, SlRd.cells hX_l thicketlaw9_held.enc_ok H 0 rfl hs1 ex1 1 _ rfl, SlRd.cells hX_l thicketlaw9_held.enc_ok H 0 rfl hs1 ex1 2 _ rfl, trivial⟩ fun a hE => ?_
     obtain ⟨t_, et_, hm⟩ := bind_some hm
     refine WQ.eff (j := 8) (obs := []) hE (by kernel_rfl) rfl rfl rfl rfl (by kernel_rfl) (OpTo.fn hE rfl rfl Tryz.call110 (thicketlaw9_before_ok et_ H)) ?_
     rintro _ w ⟨rfl, H⟩
     refine ⟨trivial, fun a hE => ?_⟩
     refine WQ.done (by kernel_rfl) ?_
     refine Runs.cond hE rfl (fun c => ?_) (fun c => ?_)
     ·replace hm := cond_t c hm
      refine Runs.region ?_
      refine WR.e0 hE [(3, .int .i64 i)] fun a hE => ?_
      refine Runs.inBlock ?_
      cases hm
      exact hk _ _ ⟨hE.sel [0, 3, 4] (by kernel_rfl), H⟩
     ·replace hm := cond_f c hm
      refine Runs.skip ?_
      refine Runs.inBlock ?_
      cases hm
      exact hk _ _ ⟨hE.sel [0, 3, 4] (by kernel_rfl), H⟩
    rintro a w ⟨hE, H⟩
    refine Runs.region ?_
    refine WR.seg hE 3 [] [0, 3, 4] (Lo := [(0, .slice sb_l l.length sc_l), (3, .int .i64 s1), (4, .int .i64 (w64 (i + 1)))]) (obs := []) rfl (by kernel_rfl) trivial fun a hE => ?_
    refine WR.done rfl ?_
    exact ih m (Nat.lt_succ_self m) _ _ ⟨s1, w64 (i + 1), hE.sel [0, 3, 4] (by kernel_rfl), H, hm⟩
   ·replace hm := cond_f c hm
    refine Runs.exit rfl ?_
    cases hm
    exact hk _ _ ⟨hE.sel [3] (by kernel_rfl), H⟩
 rintro a w ⟨hE, H⟩
 refine Runs.sr ?_
 refine WR.seg hE 2 [] [2] (Lo := [(2, .int .i64 s)]) (obs := []) rfl (by kernel_rfl) trivial fun a hE => ?_
 refine WR.done rfl ?_
 refine Runs.ret hE Tryz.func68 rfl rfl ?_
 cases hm
 exact ⟨rfl, H⟩

theorem item_Node_ok {w0 w : World} {As : List HP} {p_a_ : Nat} {al_a_ : arena_Arena.A} {a_ : arena_Arena} {i : Int} {t : Int × arena_Arena}  (hm : item_Node a_ i = some t) (H : St w0 (arena_Arena.R p_a_ al_a_ a_ :: As) w) :
    CallsR Tryz.prog 69 #[.pointer (some ⟨p_a_, 0, none⟩), .int .i64 i] w fun v w' => v = .int .i64 t.1 ∧ St w0 (arena_Arena.R p_a_ al_a_ t.2 :: As) w' := by
 rw [item_Node] at hm
 refine enter (args := [.pointer (some ⟨p_a_, 0, none⟩), .int .i64 i]) Tryz.func69 rfl rfl rfl fun a hE => ?_
 refine Runs.sr ?_
 refine WR.seg hE 1 [] [0, 1] (Lo := [(0, .pointer (some ⟨p_a_, 0, none⟩)), (1, .int .i64 i)]) (obs := []) rfl (by kernel_rfl) trivial fun a hE => ?_
 refine WR.done rfl ?_
 refine Runs.seq ?_
 refine Runs.sr ?_
 refine WR.e0 hE [(6, .bool false)] fun a hE => ?_
 refine Runs.condF hE rfl ?_
 refine Runs.skip ?_
 refine Runs.sr ?_
 refine WR.d0 hE 2 [(7, .pointer (some ⟨p_a_, 0, none⟩)), (8, .int .i64 i)] fun a hE => ?_
 obtain ⟨t_, et_, hm⟩ := bind_some hm
 refine WR.eff hE rfl rfl rfl rfl (OpTo.fn hE rfl rfl Tryz.call78 (arena_Arena_Cell_ok et_ H)) ?_
 rintro _ w ⟨rfl, H⟩ a hE
 refine WR.e0 hE [(4, .int .i64 t_.1)] fun a hE => ?_
 refine Runs.ret hE Tryz.func69 rfl rfl ?_
 cases hm
 exact ⟨rfl, H⟩

theorem thicketlaw9_without_ok {w0 w : World} {As : List HP} {sb_l : Option Addr} {sc_l : Nat} {l : List thicketlaw9_held} {X_l : HP} {k_ : Int} {t : (List thicketlaw9_held)} (hX_l : SlRd X_l thicketlaw9_held.enc 3 sb_l l) (hC_l : l.length ≤ sc_l) (hm : thicketlaw9_without l k_ = some t) (H : St w0 (X_l :: As) w) :
    CallsR Tryz.prog 70 #[.slice sb_l l.length sc_l, .int .i64 k_] w fun v w' => ∃ (sb0 : Option Addr), ∃ (sc0 : Nat), v = .slice sb0 t.length sc0 ∧ St w0 (Sl 64 thicketlaw9_held.enc 3 sb0 sc0 t :: X_l :: As) w' := by
 rw [thicketlaw9_without] at hm
 refine enter (args := [.slice sb_l l.length sc_l, .int .i64 k_]) Tryz.func70 rfl rfl rfl fun a hE => ?_
 refine Runs.sr ?_
 refine WR.seg hE 1 [] [0, 1] (Lo := [(0, .slice sb_l l.length sc_l), (1, .int .i64 k_)]) (obs := []) rfl (by kernel_rfl) trivial fun a hE => ?_
 refine WR.done rfl ?_
 refine Runs.seq ?_
 refine Runs.drawn mixed (by kernel_rfl) ?_
 replace H := H.drew
 obtain ⟨l1, el1, hm⟩ := bind_some hm
 obtain ⟨sb, q⟩ : ∃ z, rebase sb_l sc_l (Int.toNat 0) 3 = z := ⟨_, rfl⟩
 obtain ⟨sc, q1⟩ : ∃ z, sc_l - (Int.toNat 0) = z := ⟨_, rfl⟩
 obtain ⟨l2, el2, hm⟩ := bind_some hm
 obtain ⟨sb1, q2⟩ : ∃ z, rebase sb_l sc_l (Int.toNat (w64 (k_ + 1))) 3 = z := ⟨_, rfl⟩
 obtain ⟨sc1, q3⟩ : ∃ z, sc_l - (Int.toNat (w64 (k_ + 1))) = z := ⟨_, rfl⟩
 refine WQ.d hE [1, 2, 3, 5, 6, 7, 8] [.slice sb l1.length sc, .slice sb1 l2.length sc1] [(8, .slice sb l1.length sc), (13, .slice sb1 l2.length sc1)] (obs := [.p (rebase sb_l sc_l 0 3 = sb), .p ((Int.toNat k_) - 0 = l1.length), .p (sc_l - 0 = sc), .p (0 ≤ (k_ : Int) ∧ (k_ : Int) ≤ ((sc_l : Nat) : Int)), .p (rebase sb_l sc_l (Int.toNat (w64 (k_ + 1))) 3 = sb1), .p (l.length - (Int.toNat (w64 (k_ + 1))) = l2.length), .p (sc_l - (Int.toNat (w64 (k_ + 1))) = sc1), .p (0 ≤ ((w64 (k_ + 1)) : Int) ∧ ((w64 (k_ + 1)) : Int) ≤ ((l.length : Nat) : Int))]) ⟨q, cut_len el1, q1, cut_cap el1 hC_l, q2, cut_len el2, q3, cut_bd0 el2, trivial⟩ fun a hE => ?_
 refine WQ.eff (j := 0) (obs := [.p (rebase sb_l sc_l (Int.toNat (w64 (k_ + 1))) 3 = sb1), .p (l.length - (Int.toNat (w64 (k_ + 1))) = l2.length), .p (sc_l - (Int.toNat (w64 (k_ + 1))) = sc1), .p (0 ≤ ((w64 (k_ + 1)) : Int) ∧ ((w64 (k_ + 1)) : Int) ≤ ((l.length : Nat) : Int)), .p (rebase sb_l sc_l 0 3 = sb), .p ((Int.toNat k_) - 0 = l1.length), .p (sc_l - 0 = sc), .p (0 ≤ (k_ : Int) ∧ (k_ : Int) ≤ ((sc_l : Nat) : Int))]) hE (by kernel_rfl) rfl rfl rfl rfl (by kernel_rfl) (OpTo.buildSl (T := 64) hE H thicketlaw9_held.enc_ok ([] : List thicketlaw9_held) rfl (fun _ => by kernel_rfl) rfl rfl rfl) ?_
 rintro _ w ⟨r, rfl, H⟩
 refine ⟨⟨q2, cut_len el2, q3, cut_bd0 el2, q, cut_len el1, q1, cut_cap el1 hC_l, trivial⟩, fun a hE => ?_⟩
 obtain ⟨l3, el3, hm⟩ := bind_some hm
 refine WQ.eff (j := 4) (obs := [.p (rebase sb_l sc_l (Int.toNat (w64 (k_ + 1))) 3 = sb1), .p (l.length - (Int.toNat (w64 (k_ + 1))) = l2.length), .p (sc_l - (Int.toNat (w64 (k_ + 1))) = sc1), .p (0 ≤ ((w64 (k_ + 1)) : Int) ∧ ((w64 (k_ + 1)) : Int) ≤ ((l.length : Nat) : Int))]) hE (by kernel_rfl) rfl rfl rfl rfl (by kernel_rfl) (OpTo.appendM el3 hE H thicketlaw9_held.enc_ok rfl rfl rfl rfl rfl rfl rfl rfl rfl rfl (SlRd.all (hX_l.cut' thicketlaw9_held.enc_ok el1 (hC_l) q) thicketlaw9_held.enc_ok H 1 rfl) rfl) ?_
 rintro _ w ⟨sb2, sc2, rfl, H⟩
 refine ⟨⟨q2, cut_len el2, q3, cut_bd0 el2, trivial⟩, fun a hE => ?_⟩
 obtain ⟨l4, el4, hm⟩ := bind_some hm
 refine WQ.eff (j := 9) (obs := []) hE (by kernel_rfl) rfl rfl rfl rfl (by kernel_rfl) (OpTo.appendM el4 hE H thicketlaw9_held.enc_ok rfl rfl rfl rfl rfl rfl rfl rfl rfl rfl (SlRd.all (hX_l.cut' thicketlaw9_held.enc_ok el2 (hC_l) q2) thicketlaw9_held.enc_ok H 1 rfl) rfl) ?_
 rintro _ w ⟨sb3, sc3, rfl, H⟩
 refine ⟨trivial, fun a hE => ?_⟩
 refine WQ.d0 hE [10] [(4, .slice sb3 l4.length sc3)] fun a hE => ?_
 refine WQ.done (by kernel_rfl) ?_
 refine Runs.ret hE Tryz.func70 rfl rfl ?_
 cases hm
 exact ⟨sb3, sc3, rfl, H.t1.t1⟩

theorem thicketlaw9_world_pop_at0_ok {w0 w : World} {As : List HP} {k : Nat} {p_w_ : Nat} {al_w_ : thicketlaw9_world.A} {w_ : thicketlaw9_world} {t : Bool × thicketlaw9_world}  (hm : thicketlaw9_world_pop_at0 k w_ = some t) (H : St w0 (thicketlaw9_world.R p_w_ al_w_ w_ :: As) w) :
    CallsR Tryz.prog 31 #[.pointer (some ⟨p_w_, 0, none⟩), .int .i64 0] w fun v w' => ∃ (z_w__a__a : arena_Arena.A), ∃ (z_w__has0_b : Option Addr), ∃ (z_w__has0_c : Nat), v = .bool t.1 ∧ St w0 (thicketlaw9_world.R p_w_ (thicketlaw9_world.A.mk al_w_.a__p z_w__a__a z_w__has0_b z_w__has0_c al_w_.has1_b al_w_.has1_c) t.2 :: As) w' := by
 rw [thicketlaw9_world_pop_at0] at hm
 refine enter (args := [.pointer (some ⟨p_w_, 0, none⟩), .int .i64 0]) Tryz.func31 rfl rfl rfl fun a hE => ?_
 refine Runs.sr ?_
 refine WR.seg hE 1 [] [0, 1] (Lo := [(0, .pointer (some ⟨p_w_, 0, none⟩)), (1, .int .i64 0)]) (obs := []) rfl (by kernel_rfl) trivial fun a hE => ?_
 refine WR.done rfl ?_
 refine Runs.sr ?_
 replace H := thicketlaw9_world.open H
 refine WR.d hE 4 [.pointer (some ⟨al_w_.a__p, 0, none⟩)] [(14, .pointer (some ⟨al_w_.a__p, 0, none⟩))] (obs := [.cell ⟨p_w_, 0, none⟩ (.pointer (some ⟨al_w_.a__p, 0, none⟩))]) ⟨H.cell 0 rfl rfl, trivial⟩ fun a hE => ?_
 obtain ⟨t_, et_, hm⟩ := bind_some hm
 refine WR.eff hE rfl rfl rfl rfl (OpTo.fn hE rfl rfl Tryz.call20 (arena_Arena_Meter_ok et_ H.t1)) ?_
 rintro _ w ⟨rfl, H⟩ a hE
 replace H := arena_Arena.open H
 obtain ⟨t_1, et_1, hm⟩ := bind_some hm
 refine WR.eff hE rfl rfl rfl rfl (OpTo.fn hE rfl rfl Tryz.call21 (meter_Meter_Steps_ok et_1 H.t3)) ?_
 rintro _ w ⟨rfl, H⟩ a hE
 refine WR.e0 hE [(5, .int .i64 t_1)] fun a hE => ?_
 refine Runs.seq ?_
 refine Runs.drawn mixed (by kernel_rfl) ?_
 replace H := H.drew
 refine WQ.d hE [0, 1, 2, 3, 4, 5, 6, 7, 8, 9] [.pointer (some ⟨al_w_.a__p, 0, none⟩), .int .i64 w_.root0] [(21, .pointer (some ⟨al_w_.a__p, 0, none⟩)), (27, .int .i64 w_.root0)] (obs := [.cell ⟨p_w_, 0, none⟩ (.pointer (some ⟨al_w_.a__p, 0, none⟩)), .p (0 ≤ (0 : Int) ∧ (0 : Int) < ((2 : Nat) : Int)), .cell ⟨p_w_, 1, none⟩ (.int .i64 w_.root0)]) ⟨H.cell 4 rfl rfl, ⟨by decide, by decide⟩, H.cell 4 rfl rfl, trivial⟩ fun a hE => ?_
 replace H := arena_Arena.shut al_w_.a__a (w_.a_) H.t3.t3.t3
 obtain ⟨t_2, et_2, hm⟩ := bind_some hm
 refine WQ.eff (j := 10) (obs := []) hE (by kernel_rfl) rfl rfl rfl rfl (by kernel_rfl) (OpTo.fn hE rfl rfl Tryz.call24 (binomial_Pop_ok et_2 H)) ?_
 rintro _ w ⟨z, z1, rfl, H⟩
 refine ⟨trivial, fun a hE => ?_⟩
 refine WQ.d0 hE [11, 12, 13, 14, 15] [(6, .int .i64 t_2.1), (7, .int .i64 t_2.2.1)] fun a hE => ?_
 refine WQ.done (by kernel_rfl) ?_
 refine Runs.sr ?_
 refine WR.e hE [.slice al_w_.has0_b w_.has0.length al_w_.has0_c] [(8, .int .i64 (w_.has0.length : Int))] (obs := [.p (0 ≤ (0 : Int) ∧ (0 : Int) < ((2 : Nat) : Int)), .cell ⟨p_w_, 3, none⟩ (.slice al_w_.has0_b w_.has0.length al_w_.has0_c)]) ⟨⟨by decide, by decide⟩, H.cell 1 rfl rfl, trivial⟩ fun a hE => ?_
 refine Runs.seq ?_
 refine Runs.sr ?_
 refine WR.d0 hE 3 [(38, .pointer (some ⟨p_w_, 0, none⟩)), (39, .int .i64 t_1), (40, .int .i64 (w_.has0.length : Int))] fun a hE => ?_
 replace H := thicketlaw9_world.shut (thicketlaw9_world.A.mk al_w_.a__p (arena_Arena.A.mk al_w_.a__a.l_b al_w_.a__a.l_c z z1 al_w_.a__a.m__p) al_w_.has0_b al_w_.has0_c al_w_.has1_b al_w_.has1_c) (thicketlaw9_world.mk t_2.2.2 w_.root0 w_.root1 w_.has0 w_.has1 w_.next w_.spent w_.most) H.t3.t3.t2.t3
 obtain ⟨t_3, et_3, hm⟩ := bind_some hm
 refine WR.eff hE rfl rfl rfl rfl (OpTo.fn hE rfl rfl Tryz.call23 (thicketlaw9_world_cost_ok et_3 H)) ?_
 rintro _ w ⟨rfl, hf, hf1, H⟩ a hE
 refine WR.e0 hE [(42, .bool (!t_3.1))] fun a hE => ?_
 refine Runs.cond hE rfl (fun c => ?_) (fun c => ?_)
 ·replace hm := cond_t c hm
  refine Runs.sr ?_
  refine WR.e0 hE [(4, .bool false)] fun a hE => ?_
  refine Runs.ret hE Tryz.func31 rfl rfl ?_
  cases hm
  exact ⟨arena_Arena.A.mk al_w_.a__a.l_b al_w_.a__a.l_c z z1 al_w_.a__a.m__p, al_w_.has0_b, al_w_.has0_c, rfl, H⟩
 ·replace hm := cond_f c hm
  refine Runs.skip ?_
  refine Runs.seq ?_
  refine Runs.sr ?_
  refine WR.e0 hE [(44, .bool ((w_.has0.length : Int) == 0))] fun a hE => ?_
  refine Runs.cond hE rfl (fun c => ?_) (fun c => ?_)
  ·replace hm := cond_t c hm
   refine Runs.seq ?_
   refine Runs.join (fun a w => EnvOk 107 a [(4, .bool ((t_2.1 == (-1)) && (t_2.2.1 == (-1))))] ∧ St w0 (thicketlaw9_world.R p_w_ (thicketlaw9_world.A.mk al_w_.a__p (arena_Arena.A.mk al_w_.a__a.l_b al_w_.a__a.l_c z z1 al_w_.a__a.m__p) al_w_.has0_b al_w_.has0_c al_w_.has1_b al_w_.has1_c) t_3.2 :: As) w) (fun hk => ?_) ?_
   ·clear hm
    refine Runs.region ?_
    refine WR.d0 hE 3 [(47, .bool (t_2.1 == (-1)))] fun a hE => ?_
    rcases Bool.eq_false_or_eq_true (t_2.1 == (-1)) with c | c
    ·replace hE := hE.dec 47 c (by kernel_rfl)
     have c_ := c
     refine WR.e0 hE [(4, .bool (t_2.2.1 == (-1)))] fun a hE => ?_
     refine hk _ _ ⟨?_, H⟩
     try rw [c_] at hE
     try rw [c_]
     exact hE.sel [4] (by kernel_rfl)
    ·replace hE := hE.dec 47 c (by kernel_rfl)
     have c_1 := c
     refine WR.e0 hE [(4, .bool false)] fun a hE => ?_
     refine hk _ _ ⟨?_, H⟩
     try rw [c_1] at hE
     try rw [c_1]
     exact hE.sel [4] (by kernel_rfl)
   rintro a w ⟨hE, H⟩
   refine Runs.ret hE Tryz.func31 rfl rfl ?_
   cases hm
   exact ⟨arena_Arena.A.mk al_w_.a__a.l_b al_w_.a__a.l_c z z1 al_w_.a__a.m__p, al_w_.has0_b, al_w_.has0_c, rfl, H⟩
  ·replace hm := cond_f c hm
   refine Runs.skip ?_
   refine Runs.sr ?_
   replace H := thicketlaw9_world.open H
   try rw [hf] at H
   try rw [hf1] at H
   try dsimp only at H
   refine WR.d hE 6 [.slice al_w_.has0_b w_.has0.length al_w_.has0_c] [(56, .slice al_w_.has0_b w_.has0.length al_w_.has0_c)] (obs := [.p (0 ≤ (0 : Int) ∧ (0 : Int) < ((2 : Nat) : Int)), .cell ⟨p_w_, 3, none⟩ (.slice al_w_.has0_b w_.has0.length al_w_.has0_c)]) ⟨⟨by decide, by decide⟩, H.cell 0 rfl rfl, trivial⟩ fun a hE => ?_
   obtain ⟨t_4, et_4, hm⟩ := bind_some hm
   replace H := H.t2
   refine WR.eff hE rfl rfl rfl rfl (OpTo.fn hE rfl rfl Tryz.call68 (thicketlaw9_least_ok (hX_l := (sl_rd 64 thicketlaw9_held.enc 3 _ _ _)) (hC_l := (H.slCap 0 rfl).1) et_4 H)) ?_
   rintro _ w ⟨rfl, H⟩ a hE
   refine WR.e0 hE [(9, .int .i64 t_4)] fun a hE => ?_
   refine Runs.sr ?_
   refine WR.d hE 6 [] [(60, .int .i64 t_2.1), (63, .pointer (some ⟨p_w_, 1, none⟩))] (obs := [.p (0 ≤ (0 : Int) ∧ (0 : Int) < ((2 : Nat) : Int))]) ⟨⟨by decide, by decide⟩, trivial⟩ fun a hE => ?_
   refine WR.eff0 hE rfl rfl rfl (OpTo.store hE H.t1 rfl rfl rfl rfl rfl rfl (Nat.le_of_ble_eq_true rfl)) ?_
   rintro _ w H a hE
   refine WR.done rfl ?_
   refine Runs.seq ?_
   replace H := thicketlaw9_world.shut (thicketlaw9_world.A.mk al_w_.a__p (arena_Arena.A.mk al_w_.a__a.l_b al_w_.a__a.l_c z z1 al_w_.a__a.m__p) al_w_.has0_b al_w_.has0_c al_w_.has1_b al_w_.has1_c) (thicketlaw9_world.mk t_3.2.a_ t_2.1 t_3.2.root1 w_.has0 w_.has1 t_3.2.next t_3.2.spent t_3.2.most) H.t3.t2.t3.t3
   obtain ⟨s, es, hm⟩ := bind_some hm
   refine Runs.join (fun a w => EnvOk 107 a [(0, .pointer (some ⟨p_w_, 0, none⟩)), (1, .int .i64 0), (7, .int .i64 t_2.2.1), (9, .int .i64 t_4), (10, .bool s.1)] ∧ St w0 (thicketlaw9_world.R p_w_ (thicketlaw9_world.A.mk al_w_.a__p (arena_Arena.A.mk al_w_.a__a.l_b al_w_.a__a.l_c z z1 al_w_.a__a.m__p) al_w_.has0_b al_w_.has0_c al_w_.has1_b al_w_.has1_c) s.2 :: As) w) (fun hk => ?_) ?_
   ·replace hm := es; clear es
    refine Runs.region ?_
    replace H := thicketlaw9_world.open H
    try dsimp only at H
    obtain ⟨x1, ex1, hm⟩ := bind_some hm
    obtain ⟨b1, o1, hs1, hb1⟩ := SlRd.base (sl_rd 64 thicketlaw9_held.enc 3 _ _ _) thicketlaw9_held.enc_ok H 2 rfl ex1
    refine WR.d hE 13 [.slice al_w_.has0_b w_.has0.length al_w_.has0_c, .pointer (some ⟨b1, o1, none⟩), .int .i64 x1.cell] [(76, .bool (t_2.2.1 == x1.cell))] (obs := [.p (0 ≤ (0 : Int) ∧ (0 : Int) < ((2 : Nat) : Int)), .cell ⟨p_w_, 3, none⟩ (.slice al_w_.has0_b w_.has0.length al_w_.has0_c), .p ((al_w_.has0_b : Option Addr) = some ⟨b1, o1, none⟩), .p (0 ≤ (t_4 : Int) ∧ (t_4 : Int) < ((w_.has0.length : Nat) : Int)), .cell ⟨b1, o1 + (Int.toNat t_4) * 3, none⟩ (.int .i64 x1.cell)]) ⟨⟨by decide, by decide⟩, H.cell 0 rfl rfl, hs1, hb1, SlRd.cells (sl_rd 64 thicketlaw9_held.enc 3 _ _ _) thicketlaw9_held.enc_ok H 2 rfl hs1 ex1 0 _ rfl, trivial⟩ fun a hE => ?_
    rcases Bool.eq_false_or_eq_true (t_2.2.1 == x1.cell) with c | c
    ·replace hE := hE.dec 76 c (by kernel_rfl)
     replace hm := cond_t c hm
     have c_2 := c
     refine WR.d hE 18 [.pointer (some ⟨al_w_.a__p, 0, none⟩)] [(76, .bool true), (80, .pointer (some ⟨al_w_.a__p, 0, none⟩)), (81, .int .i64 t_2.2.1)] (obs := [.cell ⟨p_w_, 0, none⟩ (.pointer (some ⟨al_w_.a__p, 0, none⟩))]) ⟨H.cell 0 rfl rfl, trivial⟩ fun a hE => ?_
     obtain ⟨t_5, et_5, hm⟩ := bind_some hm
     refine WR.eff hE rfl rfl rfl rfl (OpTo.fn hE rfl rfl Tryz.call69 (item_Node_ok et_5 H.t1)) ?_
     rintro _ w ⟨rfl, H⟩ a hE
     refine WR.e0 hE [(10, .bool (t_5.1 == (-1)))] fun a hE => ?_
     replace H := thicketlaw9_world.shut (thicketlaw9_world.A.mk al_w_.a__p (arena_Arena.A.mk al_w_.a__a.l_b al_w_.a__a.l_c z z1 al_w_.a__a.m__p) al_w_.has0_b al_w_.has0_c al_w_.has1_b al_w_.has1_c) (thicketlaw9_world.mk t_5.2 t_2.1 t_3.2.root1 w_.has0 w_.has1 t_3.2.next t_3.2.spent t_3.2.most) H.t3.t3.t2.t3
     cases hm
     exact hk _ _ ⟨hE.sel [0, 1, 7, 9, 10] (by kernel_rfl), H⟩
    ·replace hE := hE.dec 76 c (by kernel_rfl)
     replace hm := cond_f c hm
     have c_3 := c
     refine WR.e0 hE [(10, .bool false)] fun a hE => ?_
     replace H := thicketlaw9_world.shut (thicketlaw9_world.A.mk al_w_.a__p (arena_Arena.A.mk al_w_.a__a.l_b al_w_.a__a.l_c z z1 al_w_.a__a.m__p) al_w_.has0_b al_w_.has0_c al_w_.has1_b al_w_.has1_c) (thicketlaw9_world.mk t_3.2.a_ t_2.1 t_3.2.root1 w_.has0 w_.has1 t_3.2.next t_3.2.spent t_3.2.most) H.t3.t3.t3.t3
     cases hm
     exact hk _ _ ⟨hE.sel [0, 1, 7, 9, 10] (by kernel_rfl), H⟩
   rintro a w ⟨hE, H⟩
   refine Runs.seq ?_
   refine Runs.drawn mixed (by kernel_rfl) ?_
   replace H := H.drew
   replace H := thicketlaw9_world.open H
   try dsimp only at H
   refine WQ.seg hE [0, 1, 2, 3, 4, 5, 6, 7, 8, 10, 11] [.slice al_w_.has0_b s.2.has0.length al_w_.has0_c] [0, 7, 10, 86, 92, 93, 96] (Lo := [(0, .pointer (some ⟨p_w_, 0, none⟩)), (7, .int .i64 t_2.2.1), (10, .bool s.1), (86, .int .i64 0), (92, .slice al_w_.has0_b s.2.has0.length al_w_.has0_c), (93, .int .i64 t_4), (96, .pointer (some ⟨p_w_, 3, none⟩))]) (obs := [.p (0 ≤ (0 : Int) ∧ (0 : Int) < ((2 : Nat) : Int)), .cell ⟨p_w_, 3, none⟩ (.slice al_w_.has0_b s.2.has0.length al_w_.has0_c)]) (by kernel_rfl) (by kernel_rfl) ⟨⟨by decide, by decide⟩, H.cell 0 rfl rfl, trivial⟩ fun a hE => ?_
   obtain ⟨t_6, et_6, hm⟩ := bind_some hm
   replace H := H.t2
   refine WQ.eff (j := 9) (obs := []) hE (by kernel_rfl) rfl rfl rfl rfl (by kernel_rfl) (OpTo.fn hE rfl rfl Tryz.call70 (thicketlaw9_without_ok (hX_l := (sl_rd 64 thicketlaw9_held.enc 3 _ _ _)) (hC_l := (H.slCap 0 rfl).1) et_6 H)) ?_
   rintro _ w ⟨sb, sc, rfl, H⟩
   refine ⟨trivial, fun a hE => ?_⟩
   refine WQ.d hE [12] [] [(97, .pointer (some ⟨p_w_, 3, none⟩))] (obs := [.p (0 ≤ (0 : Int) ∧ (0 : Int) < ((2 : Nat) : Int))]) ⟨⟨by decide, by decide⟩, trivial⟩ fun a hE => ?_
   refine WQ.eff0 (j := 13) (obs := []) hE (by kernel_rfl) rfl rfl rfl (by kernel_rfl) (OpTo.store hE H.t2 rfl rfl rfl rfl rfl rfl (Nat.le_of_ble_eq_true rfl)) ?_
   rintro _ w H
   refine ⟨trivial, fun a hE => ?_⟩
   refine WQ.done (by kernel_rfl) ?_
   refine Runs.seq ?_
   replace H := thicketlaw9_world.shut (thicketlaw9_world.A.mk al_w_.a__p (arena_Arena.A.mk al_w_.a__a.l_b al_w_.a__a.l_c z z1 al_w_.a__a.m__p) sb sc al_w_.has1_b al_w_.has1_c) (thicketlaw9_world.mk s.2.a_ s.2.root0 s.2.root1 t_6 s.2.has1 s.2.next s.2.spent s.2.most) H.t4.t2.t4.t3
   obtain ⟨s1, es1, hm⟩ := bind_some hm
   refine Runs.join (fun a w => ∃ (z2 : arena_Arena.A), EnvOk 107 a [(4, .bool s1.1)] ∧ St w0 (thicketlaw9_world.R p_w_ (thicketlaw9_world.A.mk al_w_.a__p z2 sb sc al_w_.has1_b al_w_.has1_c) s1.2 :: As) w) (fun hk => ?_) ?_
   ·replace hm := es1; clear es1
    refine Runs.region ?_
    refine WR.d0 hE 2 [(99, .bool s.1)] fun a hE => ?_
    rcases Bool.eq_false_or_eq_true s.1 with c | c
    ·replace hE := hE.dec 99 c (by kernel_rfl)
     replace hm := cond_t c hm
     have c_4 := c
     replace H := thicketlaw9_world.open H
     try dsimp only at H
     refine WR.d hE 7 [.pointer (some ⟨al_w_.a__p, 0, none⟩)] [(99, .bool true), (103, .pointer (some ⟨al_w_.a__p, 0, none⟩)), (104, .int .i64 t_2.2.1)] (obs := [.cell ⟨p_w_, 0, none⟩ (.pointer (some ⟨al_w_.a__p, 0, none⟩))]) ⟨H.cell 0 rfl rfl, trivial⟩ fun a hE => ?_
     obtain ⟨t_7, et_7, hm⟩ := bind_some hm
     refine WR.eff hE rfl rfl rfl rfl (OpTo.fn hE rfl rfl Tryz.call27 (arena_Arena_Give_ok et_7 H.t1)) ?_
     rintro _ w ⟨z3, z4, rfl, H⟩ a hE
     refine WR.e0 hE [(4, .bool t_7.1)] fun a hE => ?_
     replace H := thicketlaw9_world.shut (thicketlaw9_world.A.mk al_w_.a__p (arena_Arena.A.mk ((arena_Arena.A.mk al_w_.a__a.l_b al_w_.a__a.l_c z z1 al_w_.a__a.m__p).l_b) ((arena_Arena.A.mk al_w_.a__a.l_b al_w_.a__a.l_c z z1 al_w_.a__a.m__p).l_c) z3 z4 ((arena_Arena.A.mk al_w_.a__a.l_b al_w_.a__a.l_c z z1 al_w_.a__a.m__p).m__p)) sb sc al_w_.has1_b al_w_.has1_c) (thicketlaw9_world.mk t_7.2 s.2.root0 s.2.root1 t_6 s.2.has1 s.2.next s.2.spent s.2.most) H.t3.t3.t2.t3
     cases hm
     exact hk _ _ ⟨arena_Arena.A.mk ((arena_Arena.A.mk al_w_.a__a.l_b al_w_.a__a.l_c z z1 al_w_.a__a.m__p).l_b) ((arena_Arena.A.mk al_w_.a__a.l_b al_w_.a__a.l_c z z1 al_w_.a__a.m__p).l_c) z3 z4 ((arena_Arena.A.mk al_w_.a__a.l_b al_w_.a__a.l_c z z1 al_w_.a__a.m__p).m__p), hE.sel [4] (by kernel_rfl), H.x1⟩
    ·replace hE := hE.dec 99 c (by kernel_rfl)
     replace hm := cond_f c hm
     have c_5 := c
     refine WR.e0 hE [(4, .bool false)] fun a hE => ?_
     cases hm
     exact hk _ _ ⟨arena_Arena.A.mk al_w_.a__a.l_b al_w_.a__a.l_c z z1 al_w_.a__a.m__p, hE.sel [4] (by kernel_rfl), H.x1⟩
   rintro a w ⟨z2, hE, H⟩
   refine Runs.ret hE Tryz.func31 rfl rfl ?_
   cases hm
   exact ⟨z2, sb, sc, rfl, H⟩

theorem thicketlaw9_world_pop_at1_ok {w0 w : World} {As : List HP} {k : Nat} {p_w_ : Nat} {al_w_ : thicketlaw9_world.A} {w_ : thicketlaw9_world} {t : Bool × thicketlaw9_world}  (hm : thicketlaw9_world_pop_at1 k w_ = some t) (H : St w0 (thicketlaw9_world.R p_w_ al_w_ w_ :: As) w) :
    CallsR Tryz.prog 31 #[.pointer (some ⟨p_w_, 0, none⟩), .int .i64 1] w fun v w' => ∃ (z_w__a__a : arena_Arena.A), ∃ (z_w__has1_b : Option Addr), ∃ (z_w__has1_c : Nat), v = .bool t.1 ∧ St w0 (thicketlaw9_world.R p_w_ (thicketlaw9_world.A.mk al_w_.a__p z_w__a__a al_w_.has0_b al_w_.has0_c z_w__has1_b z_w__has1_c) t.2 :: As) w' := by
 rw [thicketlaw9_world_pop_at1] at hm
 refine enter (args := [.pointer (some ⟨p_w_, 0, none⟩), .int .i64 1]) Tryz.func31 rfl rfl rfl fun a hE => ?_
 refine Runs.sr ?_
 refine WR.seg hE 1 [] [0, 1] (Lo := [(0, .pointer (some ⟨p_w_, 0, none⟩)), (1, .int .i64 1)]) (obs := []) rfl (by kernel_rfl) trivial fun a hE => ?_
 refine WR.done rfl ?_
 refine Runs.sr ?_
 replace H := thicketlaw9_world.open H
 refine WR.d hE 4 [.pointer (some ⟨al_w_.a__p, 0, none⟩)] [(14, .pointer (some ⟨al_w_.a__p, 0, none⟩))] (obs := [.cell ⟨p_w_, 0, none⟩ (.pointer (some ⟨al_w_.a__p, 0, none⟩))]) ⟨H.cell 0 rfl rfl, trivial⟩ fun a hE => ?_
 obtain ⟨t_, et_, hm⟩ := bind_some hm
 refine WR.eff hE rfl rfl rfl rfl (OpTo.fn hE rfl rfl Tryz.call20 (arena_Arena_Meter_ok et_ H.t1)) ?_
 rintro _ w ⟨rfl, H⟩ a hE
 replace H := arena_Arena.open H
 obtain ⟨t_1, et_1, hm⟩ := bind_some hm
 refine WR.eff hE rfl rfl rfl rfl (OpTo.fn hE rfl rfl Tryz.call21 (meter_Meter_Steps_ok et_1 H.t3)) ?_
 rintro _ w ⟨rfl, H⟩ a hE
 refine WR.e0 hE [(5, .int .i64 t_1)] fun a hE => ?_
 refine Runs.seq ?_
 refine Runs.drawn mixed (by kernel_rfl) ?_
 replace H := H.drew
 refine WQ.d hE [0, 1, 2, 3, 4, 5, 6, 7, 8, 9] [.pointer (some ⟨al_w_.a__p, 0, none⟩), .int .i64 w_.root1] [(21, .pointer (some ⟨al_w_.a__p, 0, none⟩)), (27, .int .i64 w_.root1)] (obs := [.cell ⟨p_w_, 0, none⟩ (.pointer (some ⟨al_w_.a__p, 0, none⟩)), .p (0 ≤ (1 : Int) ∧ (1 : Int) < ((2 : Nat) : Int)), .cell ⟨p_w_, 2, none⟩ (.int .i64 w_.root1)]) ⟨H.cell 4 rfl rfl, ⟨by decide, by decide⟩, H.cell 4 rfl rfl, trivial⟩ fun a hE => ?_
 replace H := arena_Arena.shut al_w_.a__a (w_.a_) H.t3.t3.t3
 obtain ⟨t_2, et_2, hm⟩ := bind_some hm
 refine WQ.eff (j := 10) (obs := []) hE (by kernel_rfl) rfl rfl rfl rfl (by kernel_rfl) (OpTo.fn hE rfl rfl Tryz.call24 (binomial_Pop_ok et_2 H)) ?_
 rintro _ w ⟨z, z1, rfl, H⟩
 refine ⟨trivial, fun a hE => ?_⟩
 refine WQ.d0 hE [11, 12, 13, 14, 15] [(6, .int .i64 t_2.1), (7, .int .i64 t_2.2.1)] fun a hE => ?_
 refine WQ.done (by kernel_rfl) ?_
 refine Runs.sr ?_
 refine WR.e hE [.slice al_w_.has1_b w_.has1.length al_w_.has1_c] [(8, .int .i64 (w_.has1.length : Int))] (obs := [.p (0 ≤ (1 : Int) ∧ (1 : Int) < ((2 : Nat) : Int)), .cell ⟨p_w_, 4, none⟩ (.slice al_w_.has1_b w_.has1.length al_w_.has1_c)]) ⟨⟨by decide, by decide⟩, H.cell 1 rfl rfl, trivial⟩ fun a hE => ?_
 refine Runs.seq ?_
 refine Runs.sr ?_
 refine WR.d0 hE 3 [(38, .pointer (some ⟨p_w_, 0, none⟩)), (39, .int .i64 t_1), (40, .int .i64 (w_.has1.length : Int))] fun a hE => ?_
 replace H := thicketlaw9_world.shut (thicketlaw9_world.A.mk al_w_.a__p (arena_Arena.A.mk al_w_.a__a.l_b al_w_.a__a.l_c z z1 al_w_.a__a.m__p) al_w_.has0_b al_w_.has0_c al_w_.has1_b al_w_.has1_c) (thicketlaw9_world.mk t_2.2.2 w_.root0 w_.root1 w_.has0 w_.has1 w_.next w_.spent w_.most) H.t3.t3.t2.t3
 obtain ⟨t_3, et_3, hm⟩ := bind_some hm
 refine WR.eff hE rfl rfl rfl rfl (OpTo.fn hE rfl rfl Tryz.call23 (thicketlaw9_world_cost_ok et_3 H)) ?_
 rintro _ w ⟨rfl, hf, hf1, H⟩ a hE
 refine WR.e0 hE [(42, .bool (!t_3.1))] fun a hE => ?_
 refine Runs.cond hE rfl (fun c => ?_) (fun c => ?_)
 ·replace hm := cond_t c hm
  refine Runs.sr ?_
  refine WR.e0 hE [(4, .bool false)] fun a hE => ?_
  refine Runs.ret hE Tryz.func31 rfl rfl ?_
  cases hm
  exact ⟨arena_Arena.A.mk al_w_.a__a.l_b al_w_.a__a.l_c z z1 al_w_.a__a.m__p, al_w_.has1_b, al_w_.has1_c, rfl, H⟩
 ·replace hm := cond_f c hm
  refine Runs.skip ?_
  refine Runs.seq ?_
  refine Runs.sr ?_
  refine WR.e0 hE [(44, .bool ((w_.has1.length : Int) == 0))] fun a hE => ?_
  refine Runs.cond hE rfl (fun c => ?_) (fun c => ?_)
  ·replace hm := cond_t c hm
   refine Runs.seq ?_
   refine Runs.join (fun a w => EnvOk 107 a [(4, .bool ((t_2.1 == (-1)) && (t_2.2.1 == (-1))))] ∧ St w0 (thicketlaw9_world.R p_w_ (thicketlaw9_world.A.mk al_w_.a__p (arena_Arena.A.mk al_w_.a__a.l_b al_w_.a__a.l_c z z1 al_w_.a__a.m__p) al_w_.has0_b al_w_.has0_c al_w_.has1_b al_w_.has1_c) t_3.2 :: As) w) (fun hk => ?_) ?_
   ·clear hm
    refine Runs.region ?_
    refine WR.d0 hE 3 [(47, .bool (t_2.1 == (-1)))] fun a hE => ?_
    rcases Bool.eq_false_or_eq_true (t_2.1 == (-1)) with c | c
    ·replace hE := hE.dec 47 c (by kernel_rfl)
     have c_ := c
     refine WR.e0 hE [(4, .bool (t_2.2.1 == (-1)))] fun a hE => ?_
     refine hk _ _ ⟨?_, H⟩
     try rw [c_] at hE
     try rw [c_]
     exact hE.sel [4] (by kernel_rfl)
    ·replace hE := hE.dec 47 c (by kernel_rfl)
     have c_1 := c
     refine WR.e0 hE [(4, .bool false)] fun a hE => ?_
     refine hk _ _ ⟨?_, H⟩
     try rw [c_1] at hE
     try rw [c_1]
     exact hE.sel [4] (by kernel_rfl)
   rintro a w ⟨hE, H⟩
   refine Runs.ret hE Tryz.func31 rfl rfl ?_
   cases hm
   exact ⟨arena_Arena.A.mk al_w_.a__a.l_b al_w_.a__a.l_c z z1 al_w_.a__a.m__p, al_w_.has1_b, al_w_.has1_c, rfl, H⟩
  ·replace hm := cond_f c hm
   refine Runs.skip ?_
   refine Runs.sr ?_
   replace H := thicketlaw9_world.open H
   try rw [hf] at H
   try rw [hf1] at H
   try dsimp only at H
   refine WR.d hE 6 [.slice al_w_.has1_b w_.has1.length al_w_.has1_c] [(56, .slice al_w_.has1_b w_.has1.length al_w_.has1_c)] (obs := [.p (0 ≤ (1 : Int) ∧ (1 : Int) < ((2 : Nat) : Int)), .cell ⟨p_w_, 4, none⟩ (.slice al_w_.has1_b w_.has1.length al_w_.has1_c)]) ⟨⟨by decide, by decide⟩, H.cell 0 rfl rfl, trivial⟩ fun a hE => ?_
   obtain ⟨t_4, et_4, hm⟩ := bind_some hm
   replace H := H.t3
   refine WR.eff hE rfl rfl rfl rfl (OpTo.fn hE rfl rfl Tryz.call68 (thicketlaw9_least_ok (hX_l := (sl_rd 64 thicketlaw9_held.enc 3 _ _ _)) (hC_l := (H.slCap 0 rfl).1) et_4 H)) ?_
   rintro _ w ⟨rfl, H⟩ a hE
   refine WR.e0 hE [(9, .int .i64 t_4)] fun a hE => ?_
   refine Runs.sr ?_
   refine WR.d hE 6 [] [(60, .int .i64 t_2.1), (63, .pointer (some ⟨p_w_, 2, none⟩))] (obs := [.p (0 ≤ (1 : Int) ∧ (1 : Int) < ((2 : Nat) : Int))]) ⟨⟨by decide, by decide⟩, trivial⟩ fun a hE => ?_
   refine WR.eff0 hE rfl rfl rfl (OpTo.store hE H.t1 rfl rfl rfl rfl rfl rfl (Nat.le_of_ble_eq_true rfl)) ?_
   rintro _ w H a hE
   refine WR.done rfl ?_
   refine Runs.seq ?_
   replace H := thicketlaw9_world.shut (thicketlaw9_world.A.mk al_w_.a__p (arena_Arena.A.mk al_w_.a__a.l_b al_w_.a__a.l_c z z1 al_w_.a__a.m__p) al_w_.has0_b al_w_.has0_c al_w_.has1_b al_w_.has1_c) (thicketlaw9_world.mk t_3.2.a_ t_3.2.root0 t_2.1 w_.has0 w_.has1 t_3.2.next t_3.2.spent t_3.2.most) H.t1.t3.t3.t3
   obtain ⟨s, es, hm⟩ := bind_some hm
   refine Runs.join (fun a w => EnvOk 107 a [(0, .pointer (some ⟨p_w_, 0, none⟩)), (1, .int .i64 1), (7, .int .i64 t_2.2.1), (9, .int .i64 t_4), (10, .bool s.1)] ∧ St w0 (thicketlaw9_world.R p_w_ (thicketlaw9_world.A.mk al_w_.a__p (arena_Arena.A.mk al_w_.a__a.l_b al_w_.a__a.l_c z z1 al_w_.a__a.m__p) al_w_.has0_b al_w_.has0_c al_w_.has1_b al_w_.has1_c) s.2 :: As) w) (fun hk => ?_) ?_
   ·replace hm := es; clear es
    refine Runs.region ?_
    replace H := thicketlaw9_world.open H
    try dsimp only at H
    obtain ⟨x1, ex1, hm⟩ := bind_some hm
    obtain ⟨b1, o1, hs1, hb1⟩ := SlRd.base (sl_rd 64 thicketlaw9_held.enc 3 _ _ _) thicketlaw9_held.enc_ok H 3 rfl ex1
    refine WR.d hE 13 [.slice al_w_.has1_b w_.has1.length al_w_.has1_c, .pointer (some ⟨b1, o1, none⟩), .int .i64 x1.cell] [(76, .bool (t_2.2.1 == x1.cell))] (obs := [.p (0 ≤ (1 : Int) ∧ (1 : Int) < ((2 : Nat) : Int)), .cell ⟨p_w_, 4, none⟩ (.slice al_w_.has1_b w_.has1.length al_w_.has1_c), .p ((al_w_.has1_b : Option Addr) = some ⟨b1, o1, none⟩), .p (0 ≤ (t_4 : Int) ∧ (t_4 : Int) < ((w_.has1.length : Nat) : Int)), .cell ⟨b1, o1 + (Int.toNat t_4) * 3, none⟩ (.int .i64 x1.cell)]) ⟨⟨by decide, by decide⟩, H.cell 0 rfl rfl, hs1, hb1, SlRd.cells (sl_rd 64 thicketlaw9_held.enc 3 _ _ _) thicketlaw9_held.enc_ok H 3 rfl hs1 ex1 0 _ rfl, trivial⟩ fun a hE => ?_
    rcases Bool.eq_false_or_eq_true (t_2.2.1 == x1.cell) with c | c
    ·replace hE := hE.dec 76 c (by kernel_rfl)
     replace hm := cond_t c hm
     have c_2 := c
     refine WR.d hE 18 [.pointer (some ⟨al_w_.a__p, 0, none⟩)] [(76, .bool true), (80, .pointer (some ⟨al_w_.a__p, 0, none⟩)), (81, .int .i64 t_2.2.1)] (obs := [.cell ⟨p_w_, 0, none⟩ (.pointer (some ⟨al_w_.a__p, 0, none⟩))]) ⟨H.cell 0 rfl rfl, trivial⟩ fun a hE => ?_
     obtain ⟨t_5, et_5, hm⟩ := bind_some hm
     refine WR.eff hE rfl rfl rfl rfl (OpTo.fn hE rfl rfl Tryz.call69 (item_Node_ok et_5 H.t1)) ?_
     rintro _ w ⟨rfl, H⟩ a hE
     refine WR.e0 hE [(10, .bool (t_5.1 == (-1)))] fun a hE => ?_
     replace H := thicketlaw9_world.shut (thicketlaw9_world.A.mk al_w_.a__p (arena_Arena.A.mk al_w_.a__a.l_b al_w_.a__a.l_c z z1 al_w_.a__a.m__p) al_w_.has0_b al_w_.has0_c al_w_.has1_b al_w_.has1_c) (thicketlaw9_world.mk t_5.2 t_3.2.root0 t_2.1 w_.has0 w_.has1 t_3.2.next t_3.2.spent t_3.2.most) H.t3.t3.t2.t3
     cases hm
     exact hk _ _ ⟨hE.sel [0, 1, 7, 9, 10] (by kernel_rfl), H⟩
    ·replace hE := hE.dec 76 c (by kernel_rfl)
     replace hm := cond_f c hm
     have c_3 := c
     refine WR.e0 hE [(10, .bool false)] fun a hE => ?_
     replace H := thicketlaw9_world.shut (thicketlaw9_world.A.mk al_w_.a__p (arena_Arena.A.mk al_w_.a__a.l_b al_w_.a__a.l_c z z1 al_w_.a__a.m__p) al_w_.has0_b al_w_.has0_c al_w_.has1_b al_w_.has1_c) (thicketlaw9_world.mk t_3.2.a_ t_3.2.root0 t_2.1 w_.has0 w_.has1 t_3.2.next t_3.2.spent t_3.2.most) H.t3.t3.t3.t3
     cases hm
     exact hk _ _ ⟨hE.sel [0, 1, 7, 9, 10] (by kernel_rfl), H⟩
   rintro a w ⟨hE, H⟩
   refine Runs.seq ?_
   refine Runs.drawn mixed (by kernel_rfl) ?_
   replace H := H.drew
   replace H := thicketlaw9_world.open H
   try dsimp only at H
   refine WQ.seg hE [0, 1, 2, 3, 4, 5, 6, 7, 8, 10, 11] [.slice al_w_.has1_b s.2.has1.length al_w_.has1_c] [0, 7, 10, 86, 92, 93, 96] (Lo := [(0, .pointer (some ⟨p_w_, 0, none⟩)), (7, .int .i64 t_2.2.1), (10, .bool s.1), (86, .int .i64 1), (92, .slice al_w_.has1_b s.2.has1.length al_w_.has1_c), (93, .int .i64 t_4), (96, .pointer (some ⟨p_w_, 3, none⟩))]) (obs := [.p (0 ≤ (1 : Int) ∧ (1 : Int) < ((2 : Nat) : Int)), .cell ⟨p_w_, 4, none⟩ (.slice al_w_.has1_b s.2.has1.length al_w_.has1_c)]) (by kernel_rfl) (by kernel_rfl) ⟨⟨by decide, by decide⟩, H.cell 0 rfl rfl, trivial⟩ fun a hE => ?_
   obtain ⟨t_6, et_6, hm⟩ := bind_some hm
   replace H := H.t3
   refine WQ.eff (j := 9) (obs := []) hE (by kernel_rfl) rfl rfl rfl rfl (by kernel_rfl) (OpTo.fn hE rfl rfl Tryz.call70 (thicketlaw9_without_ok (hX_l := (sl_rd 64 thicketlaw9_held.enc 3 _ _ _)) (hC_l := (H.slCap 0 rfl).1) et_6 H)) ?_
   rintro _ w ⟨sb, sc, rfl, H⟩
   refine ⟨trivial, fun a hE => ?_⟩
   refine WQ.d hE [12] [] [(97, .pointer (some ⟨p_w_, 4, none⟩))] (obs := [.p (0 ≤ (1 : Int) ∧ (1 : Int) < ((2 : Nat) : Int))]) ⟨⟨by decide, by decide⟩, trivial⟩ fun a hE => ?_
   refine WQ.eff0 (j := 13) (obs := []) hE (by kernel_rfl) rfl rfl rfl (by kernel_rfl) (OpTo.store hE H.t2 rfl rfl rfl rfl rfl rfl (Nat.le_of_ble_eq_true rfl)) ?_
   rintro _ w H
   refine ⟨trivial, fun a hE => ?_⟩
   refine WQ.done (by kernel_rfl) ?_
   refine Runs.seq ?_
   replace H := thicketlaw9_world.shut (thicketlaw9_world.A.mk al_w_.a__p (arena_Arena.A.mk al_w_.a__a.l_b al_w_.a__a.l_c z z1 al_w_.a__a.m__p) al_w_.has0_b al_w_.has0_c sb sc) (thicketlaw9_world.mk s.2.a_ s.2.root0 s.2.root1 s.2.has0 t_6 s.2.next s.2.spent s.2.most) H.t1.t4.t4.t3
   obtain ⟨s1, es1, hm⟩ := bind_some hm
   refine Runs.join (fun a w => ∃ (z2 : arena_Arena.A), EnvOk 107 a [(4, .bool s1.1)] ∧ St w0 (thicketlaw9_world.R p_w_ (thicketlaw9_world.A.mk al_w_.a__p z2 al_w_.has0_b al_w_.has0_c sb sc) s1.2 :: As) w) (fun hk => ?_) ?_
   ·replace hm := es1; clear es1
    refine Runs.region ?_
    refine WR.d0 hE 2 [(99, .bool s.1)] fun a hE => ?_
    rcases Bool.eq_false_or_eq_true s.1 with c | c
    ·replace hE := hE.dec 99 c (by kernel_rfl)
     replace hm := cond_t c hm
     have c_4 := c
     replace H := thicketlaw9_world.open H
     try dsimp only at H
     refine WR.d hE 7 [.pointer (some ⟨al_w_.a__p, 0, none⟩)] [(99, .bool true), (103, .pointer (some ⟨al_w_.a__p, 0, none⟩)), (104, .int .i64 t_2.2.1)] (obs := [.cell ⟨p_w_, 0, none⟩ (.pointer (some ⟨al_w_.a__p, 0, none⟩))]) ⟨H.cell 0 rfl rfl, trivial⟩ fun a hE => ?_
     obtain ⟨t_7, et_7, hm⟩ := bind_some hm
     refine WR.eff hE rfl rfl rfl rfl (OpTo.fn hE rfl rfl Tryz.call27 (arena_Arena_Give_ok et_7 H.t1)) ?_
     rintro _ w ⟨z3, z4, rfl, H⟩ a hE
     refine WR.e0 hE [(4, .bool t_7.1)] fun a hE => ?_
     replace H := thicketlaw9_world.shut (thicketlaw9_world.A.mk al_w_.a__p (arena_Arena.A.mk ((arena_Arena.A.mk al_w_.a__a.l_b al_w_.a__a.l_c z z1 al_w_.a__a.m__p).l_b) ((arena_Arena.A.mk al_w_.a__a.l_b al_w_.a__a.l_c z z1 al_w_.a__a.m__p).l_c) z3 z4 ((arena_Arena.A.mk al_w_.a__a.l_b al_w_.a__a.l_c z z1 al_w_.a__a.m__p).m__p)) al_w_.has0_b al_w_.has0_c sb sc) (thicketlaw9_world.mk t_7.2 s.2.root0 s.2.root1 s.2.has0 t_6 s.2.next s.2.spent s.2.most) H.t3.t3.t2.t3
     cases hm
     exact hk _ _ ⟨arena_Arena.A.mk ((arena_Arena.A.mk al_w_.a__a.l_b al_w_.a__a.l_c z z1 al_w_.a__a.m__p).l_b) ((arena_Arena.A.mk al_w_.a__a.l_b al_w_.a__a.l_c z z1 al_w_.a__a.m__p).l_c) z3 z4 ((arena_Arena.A.mk al_w_.a__a.l_b al_w_.a__a.l_c z z1 al_w_.a__a.m__p).m__p), hE.sel [4] (by kernel_rfl), H.x1⟩
    ·replace hE := hE.dec 99 c (by kernel_rfl)
     replace hm := cond_f c hm
     have c_5 := c
     refine WR.e0 hE [(4, .bool false)] fun a hE => ?_
     cases hm
     exact hk _ _ ⟨arena_Arena.A.mk al_w_.a__a.l_b al_w_.a__a.l_c z z1 al_w_.a__a.m__p, hE.sel [4] (by kernel_rfl), H.x1⟩
   rintro a w ⟨z2, hE, H⟩
   refine Runs.ret hE Tryz.func31 rfl rfl ?_
   cases hm
   exact ⟨z2, sb, sc, rfl, H⟩

theorem thicketlaw9_world_pop_ok {w0 w : World} {As : List HP} {k : Nat} {p_w_ : Nat} {al_w_ : thicketlaw9_world.A} {w_ : thicketlaw9_world} {h_ : Int} {t : Bool × thicketlaw9_world}  (hm : thicketlaw9_world_pop k w_ h_ = some t) (H : St w0 (thicketlaw9_world.R p_w_ al_w_ w_ :: As) w) :
    CallsR Tryz.prog 31 #[.pointer (some ⟨p_w_, 0, none⟩), .int .i64 h_] w fun v w' => ∃ (z_w__a__a : arena_Arena.A), ∃ (z_w__has0_b : Option Addr), ∃ (z_w__has0_c : Nat), ∃ (z_w__has1_b : Option Addr), ∃ (z_w__has1_c : Nat), v = .bool t.1 ∧ St w0 (thicketlaw9_world.R p_w_ (thicketlaw9_world.A.mk al_w_.a__p z_w__a__a z_w__has0_b z_w__has0_c z_w__has1_b z_w__has1_c) t.2 :: As) w' := by
  rw [thicketlaw9_world_pop] at hm
  by_cases h0 : h_ = 0
  · subst h0; simp only [if_pos] at hm
    refine (thicketlaw9_world_pop_at0_ok hm H).mono ?_
    rintro v w' ⟨y_0, y_1, y_2, hv, H⟩; exact ⟨y_0, y_1, y_2, al_w_.has1_b, al_w_.has1_c, hv, H⟩
  rw [if_neg h0] at hm
  by_cases h1 : h_ = 1
  · subst h1; simp only [if_pos] at hm
    refine (thicketlaw9_world_pop_at1_ok hm H).mono ?_
    rintro v w' ⟨y_0, y_1, y_2, hv, H⟩; exact ⟨y_0, al_w_.has0_b, al_w_.has0_c, y_1, y_2, hv, H⟩
  rw [if_neg h1] at hm
  cases hm

theorem binomial_Meld_ok {w0 w : World} {As : List HP} {k : Nat} {p_a_ : Nat} {al_a_ : arena_Arena.A} {a_ : arena_Arena} {r : Int} {s : Int} {t : Int × arena_Arena}  (hm : binomial_Meld k a_ r s = some t) (H : St w0 (arena_Arena.R p_a_ al_a_ a_ :: As) w) :
    CallsR Tryz.prog 75 #[.pointer (some ⟨p_a_, 0, none⟩), .int .i64 r, .int .i64 s] w fun v w' => v = .int .i64 t.1 ∧ St w0 (arena_Arena.R p_a_ al_a_ t.2 :: As) w' := by
 rw [binomial_Meld] at hm
 refine enter (args := [.pointer (some ⟨p_a_, 0, none⟩), .int .i64 r, .int .i64 s]) Tryz.func75 rfl rfl rfl fun a hE => ?_
 refine Runs.sr ?_
 refine WR.seg hE 1 [] [0, 1, 2] (Lo := [(0, .pointer (some ⟨p_a_, 0, none⟩)), (1, .int .i64 r), (2, .int .i64 s)]) (obs := []) rfl (by kernel_rfl) trivial fun a hE => ?_
 refine WR.done rfl ?_
 refine Runs.seq ?_
 refine Runs.sr ?_
 refine WR.e0 hE [(8, .bool false)] fun a hE => ?_
 refine Runs.condF hE rfl ?_
 refine Runs.skip ?_
 refine Runs.seq ?_
 refine Runs.sr ?_
 refine WR.e0 hE [(11, .bool (r == s))] fun a hE => ?_
 refine Runs.cond hE rfl (fun c => ?_) (fun c => ?_)
 ·replace hm := cond_t c hm
  refine Runs.sr ?_
  refine WR.e0 hE [(6, .int .i64 r)] fun a hE => ?_
  refine Runs.ret hE Tryz.func75 rfl rfl ?_
  cases hm
  exact ⟨rfl, H⟩
 ·replace hm := cond_f c hm
  refine Runs.skip ?_
  refine Runs.sr ?_
  refine WR.d0 hE 3 [(13, .pointer (some ⟨p_a_, 0, none⟩)), (14, .pointer (some ⟨p_a_, 0, none⟩)), (15, .int .i64 r)] fun a hE => ?_
  obtain ⟨t_, et_, hm⟩ := bind_some hm
  refine WR.eff hE rfl rfl rfl rfl (OpTo.fn hE rfl rfl Tryz.call60 (trees_List_ok et_ H)) ?_
  rintro _ w ⟨sb, sc, rfl, H⟩ a hE
  refine WR.d0 hE 6 [(17, .pointer (some ⟨p_a_, 0, none⟩)), (18, .int .i64 s)] fun a hE => ?_
  obtain ⟨t_1, et_1, hm⟩ := bind_some hm
  refine WR.eff hE rfl rfl rfl rfl (OpTo.fn hE rfl rfl Tryz.call60 (trees_List_ok et_1 H.t1)) ?_
  rintro _ w ⟨sb1, sc1, rfl, H⟩ a hE
  obtain ⟨l, el, hm⟩ := bind_some hm
  replace H := H.t2
  refine WR.eff hE rfl rfl rfl rfl (OpTo.appendM el hE H ecI_ok rfl rfl rfl rfl rfl rfl rfl rfl rfl rfl (SlRd.all (sl_rd 3 ecI 1 _ _ _) ecI_ok H 1 rfl) rfl) ?_
  rintro _ w ⟨sb2, sc2, rfl, H⟩ a hE
  obtain ⟨t_2, et_2, hm⟩ := bind_some hm
  replace H := H.t2
  refine WR.eff hE rfl rfl rfl rfl (OpTo.fn hE rfl rfl Tryz.call59 (trees_Carry_ok (hX_l := (sl_rd 3 ecI 1 _ _ _)) (hC_l := (H.slCap 1 rfl).1) et_2 H)) ?_
  rintro _ w ⟨rfl, H⟩ a hE
  refine WR.e0 hE [(6, .int .i64 t_2.1)] fun a hE => ?_
  refine Runs.ret hE Tryz.func75 rfl rfl ?_
  cases hm
  exact ⟨rfl, H.x2.x1⟩

theorem thicketlaw9_world_meld_at0_ok {w0 w : World} {As : List HP} {k : Nat} {p_w_ : Nat} {al_w_ : thicketlaw9_world.A} {w_ : thicketlaw9_world} {t : Bool × thicketlaw9_world}  (hm : thicketlaw9_world_meld_at0 k w_ = some t) (H : St w0 (thicketlaw9_world.R p_w_ al_w_ w_ :: As) w) :
    CallsR Tryz.prog 33 #[.pointer (some ⟨p_w_, 0, none⟩), .int .i64 0] w fun v w' => ∃ (z_w__has0_b : Option Addr), ∃ (z_w__has0_c : Nat), ∃ (z_w__has1_b : Option Addr), ∃ (z_w__has1_c : Nat), v = .bool t.1 ∧ St w0 (thicketlaw9_world.R p_w_ (thicketlaw9_world.A.mk al_w_.a__p al_w_.a__a z_w__has0_b z_w__has0_c z_w__has1_b z_w__has1_c) t.2 :: As) w' := by
 rw [thicketlaw9_world_meld_at0] at hm
 refine enter (args := [.pointer (some ⟨p_w_, 0, none⟩), .int .i64 0]) Tryz.func33 rfl rfl rfl fun a hE => ?_
 refine Runs.sr ?_
 refine WR.seg hE 1 [] [0, 1] (Lo := [(0, .pointer (some ⟨p_w_, 0, none⟩)), (1, .int .i64 0)]) (obs := []) rfl (by kernel_rfl) trivial fun a hE => ?_
 refine WR.done rfl ?_
 refine Runs.sr ?_
 replace H := thicketlaw9_world.open H
 refine WR.d hE 4 [.pointer (some ⟨al_w_.a__p, 0, none⟩)] [(10, .pointer (some ⟨al_w_.a__p, 0, none⟩))] (obs := [.cell ⟨p_w_, 0, none⟩ (.pointer (some ⟨al_w_.a__p, 0, none⟩))]) ⟨H.cell 0 rfl rfl, trivial⟩ fun a hE => ?_
 obtain ⟨t_, et_, hm⟩ := bind_some hm
 refine WR.eff hE rfl rfl rfl rfl (OpTo.fn hE rfl rfl Tryz.call20 (arena_Arena_Meter_ok et_ H.t1)) ?_
 rintro _ w ⟨rfl, H⟩ a hE
 replace H := arena_Arena.open H
 obtain ⟨t_1, et_1, hm⟩ := bind_some hm
 refine WR.eff hE rfl rfl rfl rfl (OpTo.fn hE rfl rfl Tryz.call21 (meter_Meter_Steps_ok et_1 H.t3)) ?_
 rintro _ w ⟨rfl, H⟩ a hE
 refine WR.e0 hE [(5, .int .i64 t_1)] fun a hE => ?_
 refine Runs.seq ?_
 refine Runs.drawn mixed (by kernel_rfl) ?_
 replace H := H.drew
 refine WQ.d hE [0, 1, 2, 3, 4, 5, 6, 7, 8, 9, 10, 11, 12, 13, 14, 15, 16] [.pointer (some ⟨al_w_.a__p, 0, none⟩), .int .i64 w_.root0, .int .i64 w_.root1] [(16, .pointer (some ⟨al_w_.a__p, 0, none⟩)), (22, .int .i64 w_.root0), (29, .int .i64 w_.root1)] (obs := [.cell ⟨p_w_, 0, none⟩ (.pointer (some ⟨al_w_.a__p, 0, none⟩)), .p (0 ≤ (0 : Int) ∧ (0 : Int) < ((2 : Nat) : Int)), .cell ⟨p_w_, 1, none⟩ (.int .i64 w_.root0), .p (0 ≤ (1 : Int) ∧ (1 : Int) < ((2 : Nat) : Int)), .cell ⟨p_w_, 2, none⟩ (.int .i64 w_.root1)]) ⟨H.cell 4 rfl rfl, ⟨by decide, by decide⟩, H.cell 4 rfl rfl, ⟨by decide, by decide⟩, H.cell 4 rfl rfl, trivial⟩ fun a hE => ?_
 replace H := arena_Arena.shut al_w_.a__a (w_.a_) H.t3.t3.t3
 obtain ⟨t_2, et_2, hm⟩ := bind_some hm
 refine WQ.eff (j := 17) (obs := []) hE (by kernel_rfl) rfl rfl rfl rfl (by kernel_rfl) (OpTo.fn hE rfl rfl Tryz.call75 (binomial_Meld_ok et_2 H)) ?_
 rintro _ w ⟨rfl, H⟩
 refine ⟨trivial, fun a hE => ?_⟩
 refine WQ.d0 hE [18] [(6, .int .i64 t_2.1)] fun a hE => ?_
 refine WQ.done (by kernel_rfl) ?_
 refine Runs.seq ?_
 refine Runs.seq ?_
 refine Runs.drawn mixed (by kernel_rfl) ?_
 replace H := H.drew
 refine WQ.d hE [0, 1, 2, 3, 4, 5, 6, 7, 8, 9, 10, 11, 12, 13, 14] [.slice al_w_.has0_b w_.has0.length al_w_.has0_c, .slice al_w_.has1_b w_.has1.length al_w_.has1_c] [(31, .pointer (some ⟨p_w_, 0, none⟩)), (32, .int .i64 t_1), (45, .int .i64 (w64 ((w_.has0.length : Int) + (w_.has1.length : Int))))] (obs := [.p (0 ≤ (0 : Int) ∧ (0 : Int) < ((2 : Nat) : Int)), .cell ⟨p_w_, 3, none⟩ (.slice al_w_.has0_b w_.has0.length al_w_.has0_c), .p (0 ≤ (1 : Int) ∧ (1 : Int) < ((2 : Nat) : Int)), .cell ⟨p_w_, 4, none⟩ (.slice al_w_.has1_b w_.has1.length al_w_.has1_c)]) ⟨⟨by decide, by decide⟩, H.cell 1 rfl rfl, ⟨by decide, by decide⟩, H.cell 1 rfl rfl, trivial⟩ fun a hE => ?_
 replace H := thicketlaw9_world.shut al_w_ (thicketlaw9_world.mk t_2.2 w_.root0 w_.root1 w_.has0 w_.has1 w_.next w_.spent w_.most) H.t3.t3.t2.t3
 obtain ⟨t_3, et_3, hm⟩ := bind_some hm
 refine WQ.eff (j := 15) (obs := []) hE (by kernel_rfl) rfl rfl rfl rfl (by kernel_rfl) (OpTo.fn hE rfl rfl Tryz.call23 (thicketlaw9_world_cost_ok et_3 H)) ?_
 rintro _ w ⟨rfl, hf, hf1, H⟩
 refine ⟨trivial, fun a hE => ?_⟩
 refine WQ.d0 hE [16] [(47, .bool (!t_3.1))] fun a hE => ?_
 refine WQ.done (by kernel_rfl) ?_
 refine Runs.cond hE rfl (fun c => ?_) (fun c => ?_)
 ·replace hm := cond_t c hm
  refine Runs.sr ?_
  refine WR.e0 hE [(4, .bool false)] fun a hE => ?_
  refine Runs.ret hE Tryz.func33 rfl rfl ?_
  cases hm
  exact ⟨al_w_.has0_b, al_w_.has0_c, al_w_.has1_b, al_w_.has1_c, rfl, H⟩
 ·replace hm := cond_f c hm
  refine Runs.skip ?_
  refine Runs.seq ?_
  refine Runs.drawn mixed (by kernel_rfl) ?_
  replace H := H.drew
  refine WQ.d hE [0, 1, 2, 3, 4, 5, 6, 7, 8, 10, 11] [] [(52, .int .i64 1), (53, .int .i64 t_2.1), (56, .pointer (some ⟨p_w_, 1, none⟩)), (58, .pointer (some ⟨p_w_, 1, none⟩))] (obs := [.p (0 ≤ (0 : Int) ∧ (0 : Int) < ((2 : Nat) : Int))]) ⟨⟨by decide, by decide⟩, trivial⟩ fun a hE => ?_
  replace H := thicketlaw9_world.open H
  try rw [hf] at H
  try rw [hf1] at H
  try dsimp only at H
  refine WQ.eff0 (j := 9) (obs := []) hE (by kernel_rfl) rfl rfl rfl (by kernel_rfl) (OpTo.store hE H rfl rfl rfl rfl rfl rfl (Nat.le_of_ble_eq_true rfl)) ?_
  rintro _ w H
  refine ⟨trivial, fun a hE => ?_⟩
  refine WQ.d hE [12] [] [(59, .pointer (some ⟨p_w_, 2, none⟩))] (obs := [.p (0 ≤ (1 : Int) ∧ (1 : Int) < ((2 : Nat) : Int))]) ⟨⟨by decide, by decide⟩, trivial⟩ fun a hE => ?_
  refine WQ.eff0 (j := 13) (obs := []) hE (by kernel_rfl) rfl rfl rfl (by kernel_rfl) (OpTo.store hE H rfl rfl rfl rfl rfl rfl (Nat.le_of_ble_eq_true rfl)) ?_
  rintro _ w H
  refine ⟨trivial, fun a hE => ?_⟩
  refine WQ.done (by kernel_rfl) ?_
  refine Runs.seq ?_
  refine Runs.drawn mixed (by kernel_rfl) ?_
  replace H := H.drew
  refine WQ.d hE [0, 1, 2, 3, 4, 6, 7, 8, 9, 10, 11, 13, 14, 15, 16, 17, 18, 19, 21, 22, 25, 26] [.slice al_w_.has0_b w_.has0.length al_w_.has0_c, .slice al_w_.has1_b w_.has1.length al_w_.has1_c] [(61, .int .i64 0), (64, .int .i64 1), (71, .slice al_w_.has0_b w_.has0.length al_w_.has0_c), (79, .slice al_w_.has1_b w_.has1.length al_w_.has1_c), (82, .pointer (some ⟨p_w_, 3, none⟩)), (85, .pointer (some ⟨p_w_, 3, none⟩))] (obs := [.p (0 ≤ (0 : Int) ∧ (0 : Int) < ((2 : Nat) : Int)), .cell ⟨p_w_, 3, none⟩ (.slice al_w_.has0_b w_.has0.length al_w_.has0_c), .p (0 ≤ (1 : Int) ∧ (1 : Int) < ((2 : Nat) : Int)), .cell ⟨p_w_, 4, none⟩ (.slice al_w_.has1_b w_.has1.length al_w_.has1_c)]) ⟨⟨by decide, by decide⟩, H.cell 0 rfl rfl, ⟨by decide, by decide⟩, H.cell 0 rfl rfl, trivial⟩ fun a hE => ?_
  refine WQ.eff (j := 5) (obs := [.cell ⟨p_w_, 4, none⟩ (.slice al_w_.has1_b w_.has1.length al_w_.has1_c), .p (0 ≤ (1 : Int) ∧ (1 : Int) < ((2 : Nat) : Int)), .cell ⟨p_w_, 3, none⟩ (.slice al_w_.has0_b w_.has0.length al_w_.has0_c), .p (0 ≤ (0 : Int) ∧ (0 : Int) < ((2 : Nat) : Int))]) hE (by kernel_rfl) rfl rfl rfl rfl (by kernel_rfl) (OpTo.buildSl (T := 64) hE H thicketlaw9_held.enc_ok ([] : List thicketlaw9_held) rfl (fun _ => by kernel_rfl) rfl rfl rfl) ?_
  rintro _ w ⟨r, rfl, H⟩
  refine ⟨⟨H.cell 1 rfl rfl, ⟨by decide, by decide⟩, H.cell 1 rfl rfl, ⟨by decide, by decide⟩, trivial⟩, fun a hE => ?_⟩
  obtain ⟨l, el, hm⟩ := bind_some hm
  refine WQ.eff (j := 12) (obs := [.cell ⟨p_w_, 4, none⟩ (.slice al_w_.has1_b w_.has1.length al_w_.has1_c), .p (0 ≤ (1 : Int) ∧ (1 : Int) < ((2 : Nat) : Int))]) hE (by kernel_rfl) rfl rfl rfl rfl (by kernel_rfl) (OpTo.appendM el hE H thicketlaw9_held.enc_ok rfl rfl rfl rfl rfl rfl rfl rfl rfl rfl (SlRd.all (sl_rd 64 thicketlaw9_held.enc 3 _ _ _) thicketlaw9_held.enc_ok H 3 rfl) rfl) ?_
  rintro _ w ⟨sb, sc, rfl, H⟩
  refine ⟨⟨H.cell 1 rfl rfl, ⟨by decide, by decide⟩, trivial⟩, fun a hE => ?_⟩
  obtain ⟨l1, el1, hm⟩ := bind_some hm
  refine WQ.eff (j := 20) (obs := []) hE (by kernel_rfl) rfl rfl rfl rfl (by kernel_rfl) (OpTo.appendM el1 hE H thicketlaw9_held.enc_ok rfl rfl rfl rfl rfl rfl rfl rfl rfl rfl (SlRd.all (sl_rd 64 thicketlaw9_held.enc 3 _ _ _) thicketlaw9_held.enc_ok H 4 rfl) rfl) ?_
  rintro _ w ⟨sb1, sc1, rfl, H⟩
  refine ⟨trivial, fun a hE => ?_⟩
  refine WQ.d hE [23] [] [(83, .pointer (some ⟨p_w_, 3, none⟩))] (obs := [.p (0 ≤ (0 : Int) ∧ (0 : Int) < ((2 : Nat) : Int))]) ⟨⟨by decide, by decide⟩, trivial⟩ fun a hE => ?_
  refine WQ.eff0 (j := 24) (obs := []) hE (by kernel_rfl) rfl rfl rfl (by kernel_rfl) (OpTo.store hE H.t1 rfl rfl rfl rfl rfl rfl (Nat.le_of_ble_eq_true rfl)) ?_
  rintro _ w H
  refine ⟨trivial, fun a hE => ?_⟩
  refine WQ.d hE [27] [] [(86, .pointer (some ⟨p_w_, 4, none⟩))] (obs := [.p (0 ≤ (1 : Int) ∧ (1 : Int) < ((2 : Nat) : Int))]) ⟨⟨by decide, by decide⟩, trivial⟩ fun a hE => ?_
  refine WQ.eff0 (j := 28) (obs := []) hE (by kernel_rfl) rfl rfl rfl (by kernel_rfl) (OpTo.store hE H rfl rfl rfl rfl rfl rfl (Nat.le_of_ble_eq_true rfl)) ?_
  rintro _ w H
  refine ⟨trivial, fun a hE => ?_⟩
  refine WQ.done (by kernel_rfl) ?_
  refine Runs.sr ?_
  refine WR.e0 hE [(4, .bool true)] fun a hE => ?_
  replace H := H.slNil 64 thicketlaw9_held.enc 3
  replace H := thicketlaw9_world.shut (thicketlaw9_world.A.mk al_w_.a__p al_w_.a__a sb1 sc1 none 0) (thicketlaw9_world.mk t_3.2.a_ t_2.1 (-1) l1 ([] : List thicketlaw9_held) t_3.2.next t_3.2.spent t_3.2.most) H.t2.t3.t3
  refine Runs.ret hE Tryz.func33 rfl rfl ?_
  cases hm
  exact ⟨sb1, sc1, none, 0, rfl, H.x2.x1⟩

theorem thicketlaw9_world_meld_at1_ok {w0 w : World} {As : List HP} {k : Nat} {p_w_ : Nat} {al_w_ : thicketlaw9_world.A} {w_ : thicketlaw9_world} {t : Bool × thicketlaw9_world}  (hm : thicketlaw9_world_meld_at1 k w_ = some t) (H : St w0 (thicketlaw9_world.R p_w_ al_w_ w_ :: As) w) :
    CallsR Tryz.prog 33 #[.pointer (some ⟨p_w_, 0, none⟩), .int .i64 1] w fun v w' => ∃ (z_w__has0_b : Option Addr), ∃ (z_w__has0_c : Nat), ∃ (z_w__has1_b : Option Addr), ∃ (z_w__has1_c : Nat), v = .bool t.1 ∧ St w0 (thicketlaw9_world.R p_w_ (thicketlaw9_world.A.mk al_w_.a__p al_w_.a__a z_w__has0_b z_w__has0_c z_w__has1_b z_w__has1_c) t.2 :: As) w' := by
 rw [thicketlaw9_world_meld_at1] at hm
 refine enter (args := [.pointer (some ⟨p_w_, 0, none⟩), .int .i64 1]) Tryz.func33 rfl rfl rfl fun a hE => ?_
 refine Runs.sr ?_
 refine WR.seg hE 1 [] [0, 1] (Lo := [(0, .pointer (some ⟨p_w_, 0, none⟩)), (1, .int .i64 1)]) (obs := []) rfl (by kernel_rfl) trivial fun a hE => ?_
 refine WR.done rfl ?_
 refine Runs.sr ?_
 replace H := thicketlaw9_world.open H
 refine WR.d hE 4 [.pointer (some ⟨al_w_.a__p, 0, none⟩)] [(10, .pointer (some ⟨al_w_.a__p, 0, none⟩))] (obs := [.cell ⟨p_w_, 0, none⟩ (.pointer (some ⟨al_w_.a__p, 0, none⟩))]) ⟨H.cell 0 rfl rfl, trivial⟩ fun a hE => ?_
 obtain ⟨t_, et_, hm⟩ := bind_some hm
 refine WR.eff hE rfl rfl rfl rfl (OpTo.fn hE rfl rfl Tryz.call20 (arena_Arena_Meter_ok et_ H.t1)) ?_
 rintro _ w ⟨rfl, H⟩ a hE
 replace H := arena_Arena.open H
 obtain ⟨t_1, et_1, hm⟩ := bind_some hm
 refine WR.eff hE rfl rfl rfl rfl (OpTo.fn hE rfl rfl Tryz.call21 (meter_Meter_Steps_ok et_1 H.t3)) ?_
 rintro _ w ⟨rfl, H⟩ a hE
 refine WR.e0 hE [(5, .int .i64 t_1)] fun a hE => ?_
 refine Runs.seq ?_
 refine Runs.drawn mixed (by kernel_rfl) ?_
 replace H := H.drew
 refine WQ.d hE [0, 1, 2, 3, 4, 5, 6, 7, 8, 9, 10, 11, 12, 13, 14, 15, 16] [.pointer (some ⟨al_w_.a__p, 0, none⟩), .int .i64 w_.root1, .int .i64 w_.root0] [(16, .pointer (some ⟨al_w_.a__p, 0, none⟩)), (22, .int .i64 w_.root1), (29, .int .i64 w_.root0)] (obs := [.cell ⟨p_w_, 0, none⟩ (.pointer (some ⟨al_w_.a__p, 0, none⟩)), .p (0 ≤ (1 : Int) ∧ (1 : Int) < ((2 : Nat) : Int)), .cell ⟨p_w_, 2, none⟩ (.int .i64 w_.root1), .p (0 ≤ (0 : Int) ∧ (0 : Int) < ((2 : Nat) : Int)), .cell ⟨p_w_, 1, none⟩ (.int .i64 w_.root0)]) ⟨H.cell 4 rfl rfl, ⟨by decide, by decide⟩, H.cell 4 rfl rfl, ⟨by decide, by decide⟩, H.cell 4 rfl rfl, trivial⟩ fun a hE => ?_
 replace H := arena_Arena.shut al_w_.a__a (w_.a_) H.t3.t3.t3
 obtain ⟨t_2, et_2, hm⟩ := bind_some hm
 refine WQ.eff (j := 17) (obs := []) hE (by kernel_rfl) rfl rfl rfl rfl (by kernel_rfl) (OpTo.fn hE rfl rfl Tryz.call75 (binomial_Meld_ok et_2 H)) ?_
 rintro _ w ⟨rfl, H⟩
 refine ⟨trivial, fun a hE => ?_⟩
 refine WQ.d0 hE [18] [(6, .int .i64 t_2.1)] fun a hE => ?_
 refine WQ.done (by kernel_rfl) ?_
 refine Runs.seq ?_
 refine Runs.seq ?_
 refine Runs.drawn mixed (by kernel_rfl) ?_
 replace H := H.drew
 refine WQ.d hE [0, 1, 2, 3, 4, 5, 6, 7, 8, 9, 10, 11, 12, 13, 14] [.slice al_w_.has0_b w_.has0.length al_w_.has0_c, .slice al_w_.has1_b w_.has1.length al_w_.has1_c] [(31, .pointer (some ⟨p_w_, 0, none⟩)), (32, .int .i64 t_1), (45, .int .i64 (w64 ((w_.has0.length : Int) + (w_.has1.length : Int))))] (obs := [.p (0 ≤ (0 : Int) ∧ (0 : Int) < ((2 : Nat) : Int)), .cell ⟨p_w_, 3, none⟩ (.slice al_w_.has0_b w_.has0.length al_w_.has0_c), .p (0 ≤ (1 : Int) ∧ (1 : Int) < ((2 : Nat) : Int)), .cell ⟨p_w_, 4, none⟩ (.slice al_w_.has1_b w_.has1.length al_w_.has1_c)]) ⟨⟨by decide, by decide⟩, H.cell 1 rfl rfl, ⟨by decide, by decide⟩, H.cell 1 rfl rfl, trivial⟩ fun a hE => ?_
 replace H := thicketlaw9_world.shut al_w_ (thicketlaw9_world.mk t_2.2 w_.root0 w_.root1 w_.has0 w_.has1 w_.next w_.spent w_.most) H.t3.t3.t2.t3
 obtain ⟨t_3, et_3, hm⟩ := bind_some hm
 refine WQ.eff (j := 15) (obs := []) hE (by kernel_rfl) rfl rfl rfl rfl (by kernel_rfl) (OpTo.fn hE rfl rfl Tryz.call23 (thicketlaw9_world_cost_ok et_3 H)) ?_
 rintro _ w ⟨rfl, hf, hf1, H⟩
 refine ⟨trivial, fun a hE => ?_⟩
 refine WQ.d0 hE [16] [(47, .bool (!t_3.1))] fun a hE => ?_
 refine WQ.done (by kernel_rfl) ?_
 refine Runs.cond hE rfl (fun c => ?_) (fun c => ?_)
 ·replace hm := cond_t c hm
  refine Runs.sr ?_
  refine WR.e0 hE [(4, .bool false)] fun a hE => ?_
  refine Runs.ret hE Tryz.func33 rfl rfl ?_
  cases hm
  exact ⟨al_w_.has0_b, al_w_.has0_c, al_w_.has1_b, al_w_.has1_c, rfl, H⟩
 ·replace hm := cond_f c hm
  refine Runs.skip ?_
  refine Runs.seq ?_
  refine Runs.drawn mixed (by kernel_rfl) ?_
  replace H := H.drew
  refine WQ.d hE [0, 1, 2, 3, 4, 5, 6, 7, 8, 10, 11] [] [(52, .int .i64 0), (53, .int .i64 t_2.1), (56, .pointer (some ⟨p_w_, 2, none⟩)), (58, .pointer (some ⟨p_w_, 1, none⟩))] (obs := [.p (0 ≤ (1 : Int) ∧ (1 : Int) < ((2 : Nat) : Int))]) ⟨⟨by decide, by decide⟩, trivial⟩ fun a hE => ?_
  replace H := thicketlaw9_world.open H
  try rw [hf] at H
  try rw [hf1] at H
  try dsimp only at H
  refine WQ.eff0 (j := 9) (obs := []) hE (by kernel_rfl) rfl rfl rfl (by kernel_rfl) (OpTo.store hE H rfl rfl rfl rfl rfl rfl (Nat.le_of_ble_eq_true rfl)) ?_
  rintro _ w H
  refine ⟨trivial, fun a hE => ?_⟩
  refine WQ.d hE [12] [] [(59, .pointer (some ⟨p_w_, 1, none⟩))] (obs := [.p (0 ≤ (0 : Int) ∧ (0 : Int) < ((2 : Nat) : Int))]) ⟨⟨by decide, by decide⟩, trivial⟩ fun a hE => ?_
  refine WQ.eff0 (j := 13) (obs := []) hE (by kernel_rfl) rfl rfl rfl (by kernel_rfl) (OpTo.store hE H rfl rfl rfl rfl rfl rfl (Nat.le_of_ble_eq_true rfl)) ?_
  rintro _ w H
  refine ⟨trivial, fun a hE => ?_⟩
  refine WQ.done (by kernel_rfl) ?_
  refine Runs.seq ?_
  refine Runs.drawn mixed (by kernel_rfl) ?_
  replace H := H.drew
  refine WQ.d hE [0, 1, 2, 3, 4, 6, 7, 8, 9, 10, 11, 13, 14, 15, 16, 17, 18, 19, 21, 22, 25, 26] [.slice al_w_.has1_b w_.has1.length al_w_.has1_c, .slice al_w_.has0_b w_.has0.length al_w_.has0_c] [(61, .int .i64 1), (64, .int .i64 0), (71, .slice al_w_.has1_b w_.has1.length al_w_.has1_c), (79, .slice al_w_.has0_b w_.has0.length al_w_.has0_c), (82, .pointer (some ⟨p_w_, 3, none⟩)), (85, .pointer (some ⟨p_w_, 3, none⟩))] (obs := [.p (0 ≤ (1 : Int) ∧ (1 : Int) < ((2 : Nat) : Int)), .cell ⟨p_w_, 4, none⟩ (.slice al_w_.has1_b w_.has1.length al_w_.has1_c), .p (0 ≤ (0 : Int) ∧ (0 : Int) < ((2 : Nat) : Int)), .cell ⟨p_w_, 3, none⟩ (.slice al_w_.has0_b w_.has0.length al_w_.has0_c)]) ⟨⟨by decide, by decide⟩, H.cell 0 rfl rfl, ⟨by decide, by decide⟩, H.cell 0 rfl rfl, trivial⟩ fun a hE => ?_
  refine WQ.eff (j := 5) (obs := [.cell ⟨p_w_, 3, none⟩ (.slice al_w_.has0_b w_.has0.length al_w_.has0_c), .p (0 ≤ (0 : Int) ∧ (0 : Int) < ((2 : Nat) : Int)), .cell ⟨p_w_, 4, none⟩ (.slice al_w_.has1_b w_.has1.length al_w_.has1_c), .p (0 ≤ (1 : Int) ∧ (1 : Int) < ((2 : Nat) : Int))]) hE (by kernel_rfl) rfl rfl rfl rfl (by kernel_rfl) (OpTo.buildSl (T := 64) hE H thicketlaw9_held.enc_ok ([] : List thicketlaw9_held) rfl (fun _ => by kernel_rfl) rfl rfl rfl) ?_
  rintro _ w ⟨r, rfl, H⟩
  refine ⟨⟨H.cell 1 rfl rfl, ⟨by decide, by decide⟩, H.cell 1 rfl rfl, ⟨by decide, by decide⟩, trivial⟩, fun a hE => ?_⟩
  obtain ⟨l, el, hm⟩ := bind_some hm
  refine WQ.eff (j := 12) (obs := [.cell ⟨p_w_, 3, none⟩ (.slice al_w_.has0_b w_.has0.length al_w_.has0_c), .p (0 ≤ (0 : Int) ∧ (0 : Int) < ((2 : Nat) : Int))]) hE (by kernel_rfl) rfl rfl rfl rfl (by kernel_rfl) (OpTo.appendM el hE H thicketlaw9_held.enc_ok rfl rfl rfl rfl rfl rfl rfl rfl rfl rfl (SlRd.all (sl_rd 64 thicketlaw9_held.enc 3 _ _ _) thicketlaw9_held.enc_ok H 4 rfl) rfl) ?_
  rintro _ w ⟨sb, sc, rfl, H⟩
  refine ⟨⟨H.cell 1 rfl rfl, ⟨by decide, by decide⟩, trivial⟩, fun a hE => ?_⟩
  obtain ⟨l1, el1, hm⟩ := bind_some hm
  refine WQ.eff (j := 20) (obs := []) hE (by kernel_rfl) rfl rfl rfl rfl (by kernel_rfl) (OpTo.appendM el1 hE H thicketlaw9_held.enc_ok rfl rfl rfl rfl rfl rfl rfl rfl rfl rfl (SlRd.all (sl_rd 64 thicketlaw9_held.enc 3 _ _ _) thicketlaw9_held.enc_ok H 3 rfl) rfl) ?_
  rintro _ w ⟨sb1, sc1, rfl, H⟩
  refine ⟨trivial, fun a hE => ?_⟩
  refine WQ.d hE [23] [] [(83, .pointer (some ⟨p_w_, 4, none⟩))] (obs := [.p (0 ≤ (1 : Int) ∧ (1 : Int) < ((2 : Nat) : Int))]) ⟨⟨by decide, by decide⟩, trivial⟩ fun a hE => ?_
  refine WQ.eff0 (j := 24) (obs := []) hE (by kernel_rfl) rfl rfl rfl (by kernel_rfl) (OpTo.store hE H.t1 rfl rfl rfl rfl rfl rfl (Nat.le_of_ble_eq_true rfl)) ?_
  rintro _ w H
  refine ⟨trivial, fun a hE => ?_⟩
  refine WQ.d hE [27] [] [(86, .pointer (some ⟨p_w_, 3, none⟩))] (obs := [.p (0 ≤ (0 : Int) ∧ (0 : Int) < ((2 : Nat) : Int))]) ⟨⟨by decide, by decide⟩, trivial⟩ fun a hE => ?_
  refine WQ.eff0 (j := 28) (obs := []) hE (by kernel_rfl) rfl rfl rfl (by kernel_rfl) (OpTo.store hE H rfl rfl rfl rfl rfl rfl (Nat.le_of_ble_eq_true rfl)) ?_
  rintro _ w H
  refine ⟨trivial, fun a hE => ?_⟩
  refine WQ.done (by kernel_rfl) ?_
  refine Runs.sr ?_
  refine WR.e0 hE [(4, .bool true)] fun a hE => ?_
  replace H := H.slNil 64 thicketlaw9_held.enc 3
  replace H := thicketlaw9_world.shut (thicketlaw9_world.A.mk al_w_.a__p al_w_.a__a none 0 sb1 sc1) (thicketlaw9_world.mk t_3.2.a_ (-1) t_2.1 ([] : List thicketlaw9_held) l1 t_3.2.next t_3.2.spent t_3.2.most) H.t2.t1.t3.t3
  refine Runs.ret hE Tryz.func33 rfl rfl ?_
  cases hm
  exact ⟨none, 0, sb1, sc1, rfl, H.x2.x1⟩

theorem thicketlaw9_world_meld_ok {w0 w : World} {As : List HP} {k : Nat} {p_w_ : Nat} {al_w_ : thicketlaw9_world.A} {w_ : thicketlaw9_world} {h_ : Int} {t : Bool × thicketlaw9_world}  (hm : thicketlaw9_world_meld k w_ h_ = some t) (H : St w0 (thicketlaw9_world.R p_w_ al_w_ w_ :: As) w) :
    CallsR Tryz.prog 33 #[.pointer (some ⟨p_w_, 0, none⟩), .int .i64 h_] w fun v w' => ∃ (z_w__has0_b : Option Addr), ∃ (z_w__has0_c : Nat), ∃ (z_w__has1_b : Option Addr), ∃ (z_w__has1_c : Nat), v = .bool t.1 ∧ St w0 (thicketlaw9_world.R p_w_ (thicketlaw9_world.A.mk al_w_.a__p al_w_.a__a z_w__has0_b z_w__has0_c z_w__has1_b z_w__has1_c) t.2 :: As) w' := by
  rw [thicketlaw9_world_meld] at hm
  by_cases h0 : h_ = 0
  · subst h0; simp only [if_pos] at hm
    refine (thicketlaw9_world_meld_at0_ok hm H).mono ?_
    rintro v w' ⟨y_0, y_1, y_2, y_3, hv, H⟩; exact ⟨y_0, y_1, y_2, y_3, hv, H⟩
  rw [if_neg h0] at hm
  by_cases h1 : h_ = 1
  · subst h1; simp only [if_pos] at hm
    refine (thicketlaw9_world_meld_at1_ok hm H).mono ?_
    rintro v w' ⟨y_0, y_1, y_2, y_3, hv, H⟩; exact ⟨y_0, y_1, y_2, y_3, hv, H⟩
  rw [if_neg h1] at hm
  cases hm

theorem slices_Clone_int_ok {w0 w : World} {As : List HP} {sb_s : Option Addr} {sc_s : Nat} {s : List Int} {X_s : HP} {t : List Int} (hX_s : SlRd X_s ecI 1 sb_s s) (hC_s : s.length ≤ sc_s) (hm : lClone s = some t) (H : St w0 (X_s :: As) w) :
    CallsR Tryz.prog 139 #[.slice sb_s s.length sc_s] w fun v w' => ∃ (sb0 : Option Addr) (sc0 : Nat), v = .slice sb0 t.length sc0 ∧ St w0 (Sl 3 ecI 1 sb0 sc0 t :: X_s :: As) w' := by
  unfold lClone at hm
  split at hm
  · rename_i hmx
    cases hm
    have he := ecI_ok
    refine enter (args := [.slice sb_s s.length sc_s]) Tryz.func139 rfl rfl rfl fun a hE => ?_
    refine Runs.seq ?_
    refine Runs.region ?_
    refine WR.seg hE 1 [] [0] (Lo := [(0, .slice sb_s s.length sc_s)]) (obs := []) rfl (by kernel_rfl) trivial fun a hE => ?_
    refine WR.done rfl ?_
    refine Runs.seq ?_
    refine Runs.seq ?_
    refine Runs.region ?_
    cases sb_s with
    | none =>
      have hs : s = [] := by
        obtain ⟨h1, _, h⟩ := H.at 0 rfl
        rcases hX_s h1 h with h | ⟨b, off, cs, T, fr, h, _⟩
        · exact h
        · cases h
      subst hs
      refine WR.seg hE 2 [] [4] (Lo := [(4, .bool true)]) (obs := []) rfl (by kernel_rfl) trivial fun a hE => ?_
      refine WR.done rfl ?_
      refine Runs.condT hE rfl ?_
      refine Runs.seq ?_
      refine Runs.region ?_
      refine WR.seg hE 1 [] [2] (Lo := [(2, .slice none 0 0)]) (obs := []) rfl (by kernel_rfl) trivial fun a hE => ?_
      refine WR.done rfl ?_
      refine Runs.ret hE Tryz.func139 rfl rfl ?_
      exact ⟨none, 0, rfl, H.slNil 3 ecI 1⟩
    | some ad =>
      refine WR.seg hE 2 [] [0, 4] (Lo := [(0, .slice (some ad) s.length sc_s), (4, .bool false)]) (obs := []) rfl (by kernel_rfl) trivial fun a hE => ?_
      refine WR.done rfl ?_
      refine Runs.condF hE rfl ?_
      refine Runs.skip ?_
      refine Runs.seq ?_
      refine Runs.region ?_
      refine WR.eff hE rfl rfl rfl rfl (OpTo.buildSl (T := 3) hE H he ([] : List Int) rfl (fun _ => by kernel_rfl) rfl rfl rfl) ?_
      rintro _ w ⟨r, rfl, H⟩ a hE
      refine WR.seg hE 2 [] [5, 6] (Lo := [(5, .slice (some ⟨r, 0, none⟩) ([] : List Int).length 0), (6, .slice (some ad) s.length sc_s)]) (obs := []) rfl (by kernel_rfl) trivial fun a hE => ?_
      have happ : mApp ([] : List Int) s = some s := by unfold mApp; rw [if_pos (by simpa using hmx)]; simp
      refine WR.eff hE rfl rfl rfl rfl (OpTo.appendM happ hE H he rfl rfl rfl rfl rfl rfl rfl rfl rfl rfl (SlRd.all hX_s he H 1 rfl) rfl) ?_
      rintro _ w ⟨sb, sc, rfl, H⟩ a hE
      refine WR.seg hE 4 [] [2] (Lo := [(2, .slice sb s.length sc)]) (obs := []) rfl (by kernel_rfl) trivial fun a hE => ?_
      refine WR.done rfl ?_
      refine Runs.ret hE Tryz.func139 rfl rfl ?_
      exact ⟨sb, sc, rfl, H⟩
  · cases hm

theorem trees_Nodes_f1_ok {w0 w : World} {As : List HP} {k : Nat} {n : Int} {r : Nat} {p_a_ : Nat} {al_a_ : arena_Arena.A} {a_ : arena_Arena} {t : (List Int) × arena_Arena}  (hm : trees_Nodes_f1 k n a_ = some t) (H : St w0 (Blk r 28 [.pointer (some ⟨p_a_, 0, none⟩)] :: arena_Arena.R p_a_ al_a_ a_ :: As) w) :
    CallsR Tryz.prog 129 #[.int .i64 n, .pointer (some ⟨r, 0, none⟩)] w fun v w' => ∃ (sb0 : Option Addr), ∃ (sc0 : Nat), v = .slice sb0 t.1.length sc0 ∧ St w0 (Sl 3 ecI 1 sb0 sc0 t.1 :: Blk r 28 [.pointer (some ⟨p_a_, 0, none⟩)] :: arena_Arena.R p_a_ al_a_ t.2 :: As) w' := by
 rw [trees_Nodes_f1] at hm
 refine enter (args := [.int .i64 n, .pointer (some ⟨r, 0, none⟩)]) Tryz.func129 rfl rfl rfl fun a hE => ?_
 refine Runs.sr ?_
 refine WR.seg hE 1 [] [0, 1] (Lo := [(0, .int .i64 n), (1, .pointer (some ⟨r, 0, none⟩))]) (obs := []) rfl (by kernel_rfl) trivial fun a hE => ?_
 refine WR.done rfl ?_
 refine Runs.sr ?_
 refine WR.d hE 2 [.pointer (some ⟨p_a_, 0, none⟩)] [(4, .pointer (some ⟨p_a_, 0, none⟩)), (5, .int .i64 n)] (obs := [.cell ⟨r, 0, none⟩ (.pointer (some ⟨p_a_, 0, none⟩))]) ⟨H.cell 0 rfl rfl, trivial⟩ fun a hE => ?_
 obtain ⟨t_, et_, hm⟩ := bind_some hm
 refine WR.eff hE rfl rfl rfl rfl (OpTo.fn hE rfl rfl Tryz.call106 (trees_Kids_ok et_ H.t1)) ?_
 rintro _ w ⟨sb, sc, rfl, H⟩ a hE
 refine WR.e0 hE [(3, .slice sb t_.1.length sc)] fun a hE => ?_
 refine Runs.ret hE Tryz.func129 rfl rfl ?_
 cases hm
 exact ⟨sb, sc, rfl, H.t1.t2.t2⟩

theorem node_Below_g129_ok {w0 w : World} {As : List HP} {k : Nat} {p_a_ : Nat} {al_a_ : arena_Arena.A} {a_ : arena_Arena} {sb_first : Option Addr} {sc_first : Nat} {first : List Int} {X_first : HP} {r : Nat} {t : (List Int) × arena_Arena} (hX_first : SlRd X_first ecI 1 sb_first first) (hC_first : first.length ≤ sc_first) (hm : node_Below_g129 k a_ first = some t) (H : St w0 (arena_Arena.R p_a_ al_a_ a_ :: X_first :: Blk r 28 [.pointer (some ⟨p_a_, 0, none⟩)] :: As) w) :
    CallsR Tryz.prog 128 #[.pointer (some ⟨p_a_, 0, none⟩), .slice sb_first first.length sc_first, .func (.func 129) #[] #[.pointer (some ⟨r, 0, none⟩)]] w fun v w' => ∃ (sb0 : Option Addr), ∃ (sc0 : Nat), v = .slice sb0 t.1.length sc0 ∧ St w0 (Sl 3 ecI 1 sb0 sc0 t.1 :: arena_Arena.R p_a_ al_a_ t.2 :: X_first :: Blk r 28 [.pointer (some ⟨p_a_, 0, none⟩)] :: As) w' := by
 rw [node_Below_g129] at hm
 refine enter (args := [.pointer (some ⟨p_a_, 0, none⟩), .slice sb_first first.length sc_first, .func (.func 129) #[] #[.pointer (some ⟨r, 0, none⟩)]]) Tryz.func128 rfl rfl rfl fun a hE => ?_
 refine Runs.sr ?_
 refine WR.seg hE 1 [] [0, 1, 2] (Lo := [(0, .pointer (some ⟨p_a_, 0, none⟩)), (1, .slice sb_first first.length sc_first), (2, .func (.func 129) #[] #[.pointer (some ⟨r, 0, none⟩)])]) (obs := []) rfl (by kernel_rfl) trivial fun a hE => ?_
 refine WR.done rfl ?_
 refine Runs.sr ?_
 refine WR.d0 hE 1 [(11, .pointer (some ⟨p_a_, 0, none⟩))] fun a hE => ?_
 obtain ⟨t_, et_, hm⟩ := bind_some hm
 refine WR.eff hE rfl rfl rfl rfl (OpTo.fn hE rfl rfl Tryz.call67 (arena_Arena_Cells_ok et_ H)) ?_
 rintro _ w ⟨rfl, H⟩ a hE
 obtain ⟨l, el, hm⟩ := bind_some hm
 refine WR.eff hE rfl rfl rfl rfl (OpTo.make el hE H ecB_ok rfl rfl rfl rfl rfl rfl rfl rfl) ?_
 rintro _ w ⟨r1, rfl, H⟩ a hE
 refine WR.e0 hE [(7, .slice (some ⟨r1, 0, none⟩) l.length l.length)] fun a hE => ?_
 refine Runs.sr ?_
 refine WR.e0 hE [(8, .slice none 0 0)] fun a hE => ?_
 refine Runs.sr ?_
 refine WR.d0 hE 1 [(14, .slice sb_first first.length sc_first)] fun a hE => ?_
 obtain ⟨t_1, et_1, hm⟩ := bind_some hm
 replace H := H.t2
 refine WR.eff hE rfl rfl rfl rfl (OpTo.fn hE rfl rfl Tryz.call139 (slices_Clone_int_ok (hX_s := hX_first) (hC_s := hC_first) et_1 H)) ?_
 rintro _ w ⟨sb, sc, rfl, H⟩ a hE
 refine WR.e0 hE [(9, .slice sb t_1.length sc)] fun a hE => ?_
 refine Runs.seq ?_
 obtain ⟨s, es, hm⟩ := bind_some hm
 refine Runs.join (fun a w => ∃ (sb3 : Option Addr), ∃ (sc3 : Nat), EnvOk 53 a [(8, .slice sb3 s.1.length sc3)] ∧ St w0 (Sl 3 ecI 1 sb3 sc3 s.1 :: X_first :: arena_Arena.R p_a_ al_a_ s.2 :: Blk r 28 [.pointer (some ⟨p_a_, 0, none⟩)] :: As) w) (fun hk => ?_) ?_
 ·replace hm := es; clear es
  replace H := H.slNil 3 ecI 1
  refine Runs.block ?_
  refine Runs.loop (fun m a w => ∃ (out : List Int), ∃ (wait : List Int), ∃ (m_ : List Bool), ∃ (m_1 : arena_Arena), ∃ (sb4 : Option Addr), ∃ (sc4 : Nat), ∃ (sb5 : Option Addr), ∃ (sc5 : Nat), EnvOk 53 a [(0, .pointer (some ⟨p_a_, 0, none⟩)), (2, .func (.func 129) #[] #[.pointer (some ⟨r, 0, none⟩)]), (7, .slice (some ⟨r1, 0, none⟩) m_.length l.length), (8, .slice sb4 out.length sc4), (9, .slice sb5 wait.length sc5)] ∧ St w0 (Sl 3 ecI 1 sb4 sc4 out :: Sl 3 ecI 1 sb5 sc5 wait :: X_first :: Sl 4 ecB 1 (some ⟨r1, 0, none⟩) l.length m_ :: arena_Arena.R p_a_ al_a_ m_1 :: Blk r 28 [.pointer (some ⟨p_a_, 0, none⟩)] :: As) w ∧ node_Below_g129_l0 first m out wait m_ m_1 = some s) k ⟨([] : List Int), t_1, l, a_, none, 0, sb, sc, hE.sel [0, 2, 7, 8, 9] (by kernel_rfl), H.t5.t5.t5.t5.t5.t5, hm⟩ ?_
  rintro m ih a w ⟨out, wait, m_, m_1, sb4, sc4, sb5, sc5, hE, H, hm⟩
  cases m with
  | zero => simp [node_Below_g129_l0] at hm
  | succ m =>
   rw [node_Below_g129_l0] at hm
   refine Runs.seq ?_
   refine Runs.sr ?_
   refine WR.seg hE 3 [] [0, 2, 7, 8, 9, 18] (Lo := [(0, .pointer (some ⟨p_a_, 0, none⟩)), (2, .func (.func 129) #[] #[.pointer (some ⟨r, 0, none⟩)]), (7, .slice (some ⟨r1, 0, none⟩) m_.length l.length), (8, .slice sb4 out.length sc4), (9, .slice sb5 wait.length sc5), (18, .bool (decide ((wait.length : Int) > 0)))]) (obs := []) rfl (by kernel_rfl) trivial fun a hE => ?_
   refine WR.done rfl ?_
   refine Runs.cond hE rfl (fun c => ?_) (fun c => ?_)
   ·replace hm := cond_t c hm
    refine Runs.skip ?_
    refine Runs.block ?_
    refine Runs.sr ?_
    obtain ⟨x, ex, hm⟩ := bind_some hm
    obtain ⟨b, o, hs, hb⟩ := SlRd.base (sl_rd 3 ecI 1 _ _ _) ecI_ok H 1 rfl ex
    refine WR.e hE [.pointer (some ⟨b, o, none⟩), .int .i64 x] [(10, .int .i64 x)] (obs := [.p ((sb5 : Option Addr) = some ⟨b, o, none⟩), .p (0 ≤ ((w64 ((wait.length : Int) - 1)) : Int) ∧ ((w64 ((wait.length : Int) - 1)) : Int) < ((wait.length : Nat) : Int)), .cell ⟨b, o + (Int.toNat (w64 ((wait.length : Int) - 1))) * 1, none⟩ (.int .i64 x)]) ⟨hs, hb, SlRd.cells (sl_rd 3 ecI 1 _ _ _) ecI_ok H 1 rfl hs ex 0 _ rfl, trivial⟩ fun a hE => ?_
    refine Runs.sr ?_
    obtain ⟨l2, el2, hm⟩ := bind_some hm
    obtain ⟨sb6, q⟩ : ∃ z, rebase sb5 sc5 (Int.toNat 0) 1 = z := ⟨_, rfl⟩
    obtain ⟨sc6, q1⟩ : ∃ z, sc5 - (Int.toNat 0) = z := ⟨_, rfl⟩
    refine WR.e hE [.slice sb6 l2.length sc6] [(9, .slice sb6 l2.length sc6)] (obs := [.p (rebase sb5 sc5 0 1 = sb6), .p ((Int.toNat (w64 ((wait.length : Int) - 1))) - 0 = l2.length), .p (sc5 - 0 = sc6), .p (0 ≤ ((w64 ((wait.length : Int) - 1)) : Int) ∧ ((w64 ((wait.length : Int) - 1)) : Int) ≤ ((sc5 : Nat) : Int))]) ⟨q, cut_len el2, q1, cut_cap el2 (H.slCap 1 rfl).1, trivial⟩ fun a hE => ?_
    refine Runs.seq ?_
    refine Runs.seq ?_
    obtain ⟨s1, es1, hm⟩ := bind_some hm
    refine Runs.join (fun a w => EnvOk 53 a [(0, .pointer (some ⟨p_a_, 0, none⟩)), (2, .func (.func 129) #[] #[.pointer (some ⟨r, 0, none⟩)]), (7, .slice (some ⟨r1, 0, none⟩) m_.length l.length), (8, .slice sb4 out.length sc4), (9, .slice sb6 l2.length sc6), (10, .int .i64 x), (39, .bool s1)] ∧ St w0 (Sl 3 ecI 1 sb4 sc4 out :: Sl 3 ecI 1 sb5 sc5 wait :: X_first :: Sl 4 ecB 1 (some ⟨r1, 0, none⟩) l.length m_ :: arena_Arena.R p_a_ al_a_ m_1 :: Blk r 28 [.pointer (some ⟨p_a_, 0, none⟩)] :: As) w) (fun hk => ?_) ?_
    ·replace hm := es1; clear es1
     refine Runs.region ?_
     refine WR.d0 hE 2 [(30, .pointer (some ⟨p_a_, 0, none⟩)), (31, .int .i64 x)] fun a hE => ?_
     obtain ⟨t_2, et_2, hm⟩ := bind_some hm
     refine WR.eff hE rfl rfl rfl rfl (OpTo.fn hE rfl rfl Tryz.call62 (arena_Arena_Live_ok et_2 H.t4)) ?_
     rintro _ w ⟨rfl, H⟩ a hE
     refine WR.d0 hE 5 [(34, .bool (!t_2))] fun a hE => ?_
     rcases Bool.eq_false_or_eq_true (!t_2) with c | c
     ·replace hE := hE.dec 34 c (by kernel_rfl)
      replace hm := cond_t c hm
      have c_ := c
      refine WR.e0 hE [(39, .bool true)] fun a hE => ?_
      cases hm
      exact hk _ _ ⟨hE.sel [0, 2, 7, 8, 9, 10, 39] (by kernel_rfl), H.t5.t1.t5.t5.t5.t5⟩
     ·replace hE := hE.dec 34 c (by kernel_rfl)
      replace hm := cond_f c hm
      have c_1 := c
      obtain ⟨x1, ex1, hm⟩ := bind_some hm
      obtain ⟨b1, o1, hs1, hb1⟩ := SlRd.base (sl_rd 4 ecB 1 _ _ _) ecB_ok H 4 rfl ex1
      refine WR.e hE [.pointer (some ⟨b1, o1, none⟩), .bool x1] [(39, .bool x1)] (obs := [.p (((some ⟨r1, 0, none⟩) : Option Addr) = some ⟨b1, o1, none⟩), .p (0 ≤ (x : Int) ∧ (x : Int) < ((m_.length : Nat) : Int)), .cell ⟨b1, o1 + (Int.toNat x) * 1, none⟩ (.bool x1)]) ⟨hs1, hb1, SlRd.cells (sl_rd 4 ecB 1 _ _ _) ecB_ok H 4 rfl hs1 ex1 0 _ rfl, trivial⟩ fun a hE => ?_
      cases hm
      exact hk _ _ ⟨hE.sel [0, 2, 7, 8, 9, 10, 39] (by kernel_rfl), H.t5.t1.t5.t5.t5.t5⟩
    rintro a w ⟨hE, H⟩
    refine Runs.cond hE rfl (fun c => ?_) (fun c => ?_)
    ·replace hm := cond_t c hm
     refine Runs.exit rfl ?_
     replace H := H.t1.slCut' ecI_ok el2 q q1
     exact ih m (Nat.lt_succ_self m) _ _ ⟨out, l2, m_, m_1, sb4, sc4, sb6, sc6, hE.sel [0, 2, 7, 8, 9] (by kernel_rfl), H.t5.t5.t5.t5.t4.t5, hm⟩
    ·replace hm := cond_f c hm
     refine Runs.skip ?_
     refine Runs.sr ?_
     obtain ⟨x2, ex2, hm⟩ := bind_some hm
     obtain ⟨b2, o2, hs2, hb2⟩ := SlRd.base (sl_rd 4 ecB 1 _ _ _) ecB_ok H 3 rfl ex2
     refine WR.seg hE 3 [.pointer (some ⟨b2, o2, none⟩)] [0, 2, 7, 8, 9, 10, 42] (Lo := [(0, .pointer (some ⟨p_a_, 0, none⟩)), (2, .func (.func 129) #[] #[.pointer (some ⟨r, 0, none⟩)]), (7, .slice (some ⟨r1, 0, none⟩) m_.length l.length), (8, .slice sb4 out.length sc4), (9, .slice sb6 l2.length sc6), (10, .int .i64 x), (42, .pointer (some ⟨b2, o2 + (Int.toNat x) * 1, none⟩))]) (obs := [.p (((some ⟨r1, 0, none⟩) : Option Addr) = some ⟨b2, o2, none⟩), .p (0 ≤ (x : Int) ∧ (x : Int) < ((m_.length : Nat) : Int))]) rfl (by kernel_rfl) ⟨hs2, hb2, trivial⟩ fun a hE => ?_
     refine WR.eff0 hE rfl rfl rfl (OpTo.storeSl (q := 0) (x' := true) hE H.t3 ecB_ok rfl hs2 ex2 rfl rfl rfl rfl rfl (Nat.le_of_ble_eq_true rfl) rfl) ?_
     rintro _ w H a hE
     try rw [← mSet_len m_ x true] at hE
     refine WR.done rfl ?_
     refine Runs.sr ?_
     refine WR.seg hE 2 [] [0, 2, 7, 8, 9, 10, 43, 44] (Lo := [(0, .pointer (some ⟨p_a_, 0, none⟩)), (2, .func (.func 129) #[] #[.pointer (some ⟨r, 0, none⟩)]), (7, .slice (some ⟨r1, 0, none⟩) ((mSet m_ x true).length) l.length), (8, .slice sb4 out.length sc4), (9, .slice sb6 l2.length sc6), (10, .int .i64 x), (43, .slice sb4 out.length sc4), (44, .int .i64 x)]) (obs := []) rfl (by kernel_rfl) trivial fun a hE => ?_
     refine WR.eff hE rfl rfl rfl rfl (OpTo.buildSl (T := 3) hE H ecI_ok ([x] : List Int) rfl (fun _ => by kernel_rfl) rfl rfl rfl) ?_
     rintro _ w ⟨r2, rfl, H⟩ a hE
     obtain ⟨l3, el3, hm⟩ := bind_some hm
     replace H := H.t2
     refine WR.eff hE rfl rfl rfl rfl (OpTo.appendM el3 hE H ecI_ok rfl rfl rfl rfl rfl rfl rfl rfl rfl rfl (SlRd.all (sl_rd 3 ecI 1 _ _ _) ecI_ok H 1 rfl) rfl) ?_
     rintro _ w ⟨sb7, sc7, rfl, H⟩ a hE
     refine WR.e0 hE [(8, .slice sb7 l3.length sc7)] fun a hE => ?_
     refine Runs.region ?_
     refine WR.d0 hE 3 [(47, .slice sb6 l2.length sc6), (48, .func (.func 129) #[] #[.pointer (some ⟨r, 0, none⟩)]), (49, .int .i64 x)] fun a hE => ?_
     obtain ⟨t_3, et_3, hm⟩ := bind_some hm
     refine WR.eff hE rfl rfl rfl rfl (OpTo.fv hE rfl rfl rfl Tryz.call129 (trees_Nodes_f1_ok et_3 H.t5.t6)) ?_
     rintro _ w ⟨sb8, sc8, rfl, H⟩ a hE
     replace H := H.t6.slCut' ecI_ok el2 q q1
     obtain ⟨l4, el4, hm⟩ := bind_some hm
     refine WR.eff hE rfl rfl rfl rfl (OpTo.appendM el4 hE H ecI_ok rfl rfl rfl rfl rfl rfl rfl rfl rfl rfl (SlRd.all (sl_rd 3 ecI 1 _ _ _) ecI_ok H 1 rfl) rfl) ?_
     rintro _ w ⟨sb9, sc9, rfl, H⟩ a hE
     refine WR.e0 hE [(9, .slice sb9 l4.length sc9)] fun a hE => ?_
     refine Runs.inBlock ?_
     exact ih m (Nat.lt_succ_self m) _ _ ⟨l3, l4, mSet m_ x true, t_3.2, sb7, sc7, sb9, sc9, hE.sel [0, 2, 7, 8, 9] (by kernel_rfl), H.x5.x1.t1.t2.t4.t5.t4.t5, hm⟩
   ·replace hm := cond_f c hm
    refine Runs.exit rfl ?_
    cases hm
    exact hk _ _ ⟨sb4, sc4, hE.sel [8] (by kernel_rfl), H.x3.x1.t3.t3.t3.t3⟩
 rintro a w ⟨sb3, sc3, hE, H⟩
 refine Runs.sr ?_
 refine WR.seg hE 2 [] [6] (Lo := [(6, .slice sb3 s.1.length sc3)]) (obs := []) rfl (by kernel_rfl) trivial fun a hE => ?_
 refine WR.done rfl ?_
 refine Runs.ret hE Tryz.func128 rfl rfl ?_
 cases hm
 exact ⟨sb3, sc3, rfl, H.t3.t2.t3.t3⟩

theorem trees_Nodes_ok {w0 w : World} {As : List HP} {k : Nat} {p_a_ : Nat} {al_a_ : arena_Arena.A} {a_ : arena_Arena} {r : Int} {t : (List Int) × arena_Arena}  (hm : trees_Nodes k a_ r = some t) (H : St w0 (arena_Arena.R p_a_ al_a_ a_ :: As) w) :
    CallsR Tryz.prog 112 #[.pointer (some ⟨p_a_, 0, none⟩), .int .i64 r] w fun v w' => ∃ (sb0 : Option Addr), ∃ (sc0 : Nat), v = .slice sb0 t.1.length sc0 ∧ St w0 (Sl 3 ecI 1 sb0 sc0 t.1 :: arena_Arena.R p_a_ al_a_ t.2 :: As) w' := by
 rw [trees_Nodes] at hm
 refine enter (args := [.pointer (some ⟨p_a_, 0, none⟩), .int .i64 r]) Tryz.func112 rfl rfl rfl fun a hE => ?_
 refine Runs.sr ?_
 refine WR.eff hE rfl rfl rfl rfl (OpTo.new hE H [] (.cells #[.pointer (some ⟨p_a_, 0, none⟩)] 28 (0, 0)) (fun r => .pointer (some ⟨r, 0, none⟩)) (obs := []) rfl (fun _ => by kernel_rfl) trivial) ?_
 rintro _ w ⟨r1, rfl, H⟩ a hE
 refine WR.seg hE 2 [] [1, 2] (Lo := [(1, .int .i64 r), (2, .pointer (some ⟨r1, 0, none⟩))]) (obs := []) rfl (by kernel_rfl) trivial fun a hE => ?_
 refine WR.done rfl ?_
 refine Runs.seq ?_
 refine Runs.drawn mixed (by kernel_rfl) ?_
 replace H := H.drew
 refine WQ.d hE [0, 1, 2, 4] [.pointer (some ⟨p_a_, 0, none⟩), .pointer (some ⟨p_a_, 0, none⟩)] [(5, .pointer (some ⟨p_a_, 0, none⟩)), (6, .pointer (some ⟨p_a_, 0, none⟩)), (7, .int .i64 r), (9, .func (.func 129) #[] #[.pointer (some ⟨r1, 0, none⟩)])] (obs := [.cell ⟨r1, 0, none⟩ (.pointer (some ⟨p_a_, 0, none⟩)), .cell ⟨r1, 0, none⟩ (.pointer (some ⟨p_a_, 0, none⟩))]) ⟨H.cell 0 rfl rfl, H.cell 0 rfl rfl, trivial⟩ fun a hE => ?_
 obtain ⟨t_, et_, hm⟩ := bind_some hm
 refine WQ.eff (j := 3) (obs := [.cell ⟨r1, 0, none⟩ (.pointer (some ⟨p_a_, 0, none⟩))]) hE (by kernel_rfl) rfl rfl rfl rfl (by kernel_rfl) (OpTo.fn hE rfl rfl Tryz.call60 (trees_List_ok et_ H.t1)) ?_
 rintro _ w ⟨sb, sc, rfl, H⟩
 refine ⟨⟨H.cell 2 rfl rfl, trivial⟩, fun a hE => ?_⟩
 obtain ⟨t_1, et_1, hm⟩ := bind_some hm
 replace H := H.t2.t1.t2
 refine WQ.eff (j := 5) (obs := []) hE (by kernel_rfl) rfl rfl rfl rfl (by kernel_rfl) (OpTo.fn hE rfl rfl Tryz.call128 (node_Below_g129_ok (hX_first := (sl_rd 3 ecI 1 _ _ _)) (hC_first := (H.slCap 1 rfl).1) et_1 H)) ?_
 rintro _ w ⟨sb1, sc1, rfl, H⟩
 refine ⟨trivial, fun a hE => ?_⟩
 refine WQ.d0 hE [6] [(4, .slice sb1 t_1.1.length sc1)] fun a hE => ?_
 refine WQ.done (by kernel_rfl) ?_
 refine Runs.ret hE Tryz.func112 rfl rfl ?_
 cases hm
 exact ⟨sb1, sc1, rfl, H.x3.x2.t1.t1⟩

theorem slices_Sort_int_ok {w0 w : World} {As : List HP} {sb_s : Option Addr} {sc_s : Nat} {s t : List Int}  (hm : lSort s = some t) (H : St w0 (Sl 3 ecI 1 sb_s sc_s s :: As) w) :
    CallsR Tryz.prog 127 #[.slice sb_s s.length sc_s] w fun v w' => v = .tuple #[] ∧ t.length = s.length ∧ St w0 (Sl 3 ecI 1 sb_s sc_s t :: As) w' := by
  unfold lSort at hm
  split at hm
  case isFalse => cases hm
  rename_i hmx
  cases hm
  have hl : (iSort s).length = s.length := (iSort_perm s).length_eq
  by_cases hs : s.length = 0
  · have e : s = [] := List.eq_nil_of_length_eq_zero hs
    subst e
    refine Calls.mono (Tryz.slices_Sort_int_none sb_s sc_s w) ?_
    rintro e w' ⟨rfl, rfl⟩
    exact ⟨_, rfl, rfl, hl, H⟩
  · obtain ⟨b, off, rfl, hH, hb, hk⟩ := H.sorted hl (by omega)
    have hc := Tryz.slices_Sort_int b off sc_s s w hH hb (by omega)
    refine Calls.mono hc ?_
    rintro e w' ⟨rfl, n, os, rfl⟩
    refine ⟨_, rfl, rfl, hl, ?_⟩
    rw [iSort_merge]
    exact hk n os

theorem node_Items_ok {w0 w : World} {As : List HP} {k : Nat} {p_a_ : Nat} {al_a_ : arena_Arena.A} {a_ : arena_Arena} {sb_l : Option Addr} {sc_l : Nat} {l : List Int} {X_l : HP} {t : (List Int) × arena_Arena} (hX_l : SlRd X_l ecI 1 sb_l l) (hC_l : l.length ≤ sc_l) (hm : node_Items k a_ l = some t) (H : St w0 (arena_Arena.R p_a_ al_a_ a_ :: X_l :: As) w) :
    CallsR Tryz.prog 111 #[.pointer (some ⟨p_a_, 0, none⟩), .slice sb_l l.length sc_l] w fun v w' => ∃ (sb0 : Option Addr), ∃ (sc0 : Nat), v = .slice sb0 t.1.length sc0 ∧ St w0 (Sl 3 ecI 1 sb0 sc0 t.1 :: arena_Arena.R p_a_ al_a_ t.2 :: X_l :: As) w' := by
 rw [node_Items] at hm
 refine enter (args := [.pointer (some ⟨p_a_, 0, none⟩), .slice sb_l l.length sc_l]) Tryz.func111 rfl rfl rfl fun a hE => ?_
 refine Runs.sr ?_
 refine WR.seg hE 1 [] [0, 1] (Lo := [(0, .pointer (some ⟨p_a_, 0, none⟩)), (1, .slice sb_l l.length sc_l)]) (obs := []) rfl (by kernel_rfl) trivial fun a hE => ?_
 refine WR.done rfl ?_
 refine Runs.sr ?_
 refine WR.e0 hE [(5, .slice none 0 0)] fun a hE => ?_
 refine Runs.seq ?_
 refine Runs.sr ?_
 refine WR.e0 hE [(9, .slice sb_l l.length sc_l), (10, .int .i64 (l.length : Int)), (11, .int .i64 0)] fun a hE => ?_
 obtain ⟨s, es, hm⟩ := bind_some hm
 refine Runs.join (fun a w => ∃ (sb1 : Option Addr), ∃ (sc1 : Nat), EnvOk 28 a [(5, .slice sb1 s.1.length sc1)] ∧ St w0 (Sl 3 ecI 1 sb1 sc1 s.1 :: arena_Arena.R p_a_ al_a_ s.2 :: X_l :: As) w) (fun hk => ?_) ?_
 ·replace hm := es; clear es
  replace H := H.slNil 3 ecI 1
  refine Runs.block ?_
  refine Runs.loop (fun m a w => ∃ (out : List Int), ∃ (x : Int), ∃ (m_ : arena_Arena), ∃ (sb2 : Option Addr), ∃ (sc2 : Nat), EnvOk 28 a [(0, .pointer (some ⟨p_a_, 0, none⟩)), (5, .slice sb2 out.length sc2), (9, .slice sb_l l.length sc_l), (10, .int .i64 (l.length : Int)), (11, .int .i64 x)] ∧ St w0 (Sl 3 ecI 1 sb2 sc2 out :: arena_Arena.R p_a_ al_a_ m_ :: X_l :: As) w ∧ node_Items_l0 (l.length : Int) l m out x m_ = some s) k ⟨([] : List Int), 0, a_, none, 0, hE.sel [0, 5, 9, 10, 11] (by kernel_rfl), H.t2.t2.t2, hm⟩ ?_
  rintro m ih a w ⟨out, x, m_, sb2, sc2, hE, H, hm⟩
  cases m with
  | zero => simp [node_Items_l0] at hm
  | succ m =>
   rw [node_Items_l0] at hm
   refine Runs.sr ?_
   refine WR.seg hE 1 [] [0, 5, 9, 10, 11, 12] (Lo := [(0, .pointer (some ⟨p_a_, 0, none⟩)), (5, .slice sb2 out.length sc2), (9, .slice sb_l l.length sc_l), (10, .int .i64 (l.length : Int)), (11, .int .i64 x), (12, .bool (decide (x < (l.length : Int))))]) (obs := []) rfl (by kernel_rfl) trivial fun a hE => ?_
   refine WR.done rfl ?_
   refine Runs.seq ?_
   refine Runs.cond hE rfl (fun c => ?_) (fun c => ?_)
   ·replace hm := cond_t c hm
    refine Runs.skip ?_
    refine Runs.seq ?_
    obtain ⟨s1, es1, hm⟩ := bind_some hm
    refine Runs.join (fun a w => ∃ (sb3 : Option Addr), ∃ (sc3 : Nat), EnvOk 28 a [(0, .pointer (some ⟨p_a_, 0, none⟩)), (5, .slice sb3 s1.1.length sc3), (9, .slice sb_l l.length sc_l), (10, .int .i64 (l.length : Int)), (11, .int .i64 x)] ∧ St w0 (Sl 3 ecI 1 sb3 sc3 s1.1 :: arena_Arena.R p_a_ al_a_ s1.2 :: X_l :: As) w) (fun hk => ?_) ?_
    ·replace hm := es1; clear es1
     refine Runs.block ?_
     refine Runs.sr ?_
     obtain ⟨x2, ex2, hm⟩ := bind_some hm
     obtain ⟨b, o, hs, hb⟩ := SlRd.base hX_l ecI_ok H 2 rfl ex2
     refine WR.e hE [.pointer (some ⟨b, o, none⟩), .int .i64 x2] [(7, .int .i64 x2)] (obs := [.p ((sb_l : Option Addr) = some ⟨b, o, none⟩), .p (0 ≤ (x : Int) ∧ (x : Int) < ((l.length : Nat) : Int)), .cell ⟨b, o + (Int.toNat x) * 1, none⟩ (.int .i64 x2)]) ⟨hs, hb, SlRd.cells hX_l ecI_ok H 2 rfl hs ex2 0 _ rfl, trivial⟩ fun a hE => ?_
     refine Runs.sr ?_
     refine WR.d0 hE 2 [(15, .pointer (some ⟨p_a_, 0, none⟩)), (16, .int .i64 x2)] fun a hE => ?_
     obtain ⟨t_, et_, hm⟩ := bind_some hm
     refine WR.eff hE rfl rfl rfl rfl (OpTo.fn hE rfl rfl Tryz.call78 (arena_Arena_Cell_ok et_ H.t1)) ?_
     rintro _ w ⟨rfl, H⟩ a hE
     refine WR.e0 hE [(8, .int .i64 t_.1)] fun a hE => ?_
     refine Runs.sr ?_
     refine WR.e0 hE [(19, .bool (t_.1 != (-1)))] fun a hE => ?_
     refine Runs.cond hE rfl (fun c => ?_) (fun c => ?_)
     ·replace hm := cond_t c hm
      refine Runs.region ?_
      refine WR.d0 hE 2 [(20, .slice sb2 out.length sc2), (21, .int .i64 t_.1)] fun a hE => ?_
      refine WR.eff hE rfl rfl rfl rfl (OpTo.buildSl (T := 3) hE H ecI_ok ([t_.1] : List Int) rfl (fun _ => by kernel_rfl) rfl rfl rfl) ?_
      rintro _ w ⟨r, rfl, H⟩ a hE
      obtain ⟨l2, el2, hm⟩ := bind_some hm
      replace H := H.t2
      refine WR.eff hE rfl rfl rfl rfl (OpTo.appendM el2 hE H ecI_ok rfl rfl rfl rfl rfl rfl rfl rfl rfl rfl (SlRd.all (sl_rd 3 ecI 1 _ _ _) ecI_ok H 1 rfl) rfl) ?_
      rintro _ w ⟨sb4, sc4, rfl, H⟩ a hE
      refine WR.e0 hE [(5, .slice sb4 l2.length sc4)] fun a hE => ?_
      refine Runs.inBlock ?_
      cases hm
      exact hk _ _ ⟨sb4, sc4, hE.sel [0, 5, 9, 10, 11] (by kernel_rfl), H.x1.t2.t2.t2⟩
     ·replace hm := cond_f c hm
      refine Runs.skip ?_
      refine Runs.inBlock ?_
      cases hm
      exact hk _ _ ⟨sb2, sc2, hE.sel [0, 5, 9, 10, 11] (by kernel_rfl), H.t2.t1.t2⟩
    rintro a w ⟨sb3, sc3, hE, H⟩
    refine Runs.region ?_
    refine WR.seg hE 2 [] [0, 5, 9, 10, 11] (Lo := [(0, .pointer (some ⟨p_a_, 0, none⟩)), (5, .slice sb3 s1.1.length sc3), (9, .slice sb_l l.length sc_l), (10, .int .i64 (l.length : Int)), (11, .int .i64 (w64 (x + 1)))]) (obs := []) rfl (by kernel_rfl) trivial fun a hE => ?_
    refine WR.done rfl ?_
    exact ih m (Nat.lt_succ_self m) _ _ ⟨s1.1, w64 (x + 1), s1.2, sb3, sc3, hE.sel [0, 5, 9, 10, 11] (by kernel_rfl), H.t2.t2.t2, hm⟩
   ·replace hm := cond_f c hm
    refine Runs.exit rfl ?_
    cases hm
    exact hk _ _ ⟨sb2, sc2, hE.sel [5] (by kernel_rfl), H.t2.t2.t2⟩
 rintro a w ⟨sb1, sc1, hE, H⟩
 refine Runs.sr ?_
 refine WR.seg hE 1 [] [5, 25] (Lo := [(5, .slice sb1 s.1.length sc1), (25, .slice sb1 s.1.length sc1)]) (obs := []) rfl (by kernel_rfl) trivial fun a hE => ?_
 obtain ⟨t_1, et_1, hm⟩ := bind_some hm
 refine WR.eff hE rfl rfl rfl rfl (OpTo.fn hE rfl rfl Tryz.call127 (slices_Sort_int_ok et_1 H)) ?_
 rintro _ w ⟨rfl, hl0, H⟩ a hE
 try rw [← hl0] at hE
 refine WR.done rfl ?_
 refine Runs.sr ?_
 refine WR.seg hE 2 [] [4] (Lo := [(4, .slice sb1 t_1.length sc1)]) (obs := []) rfl (by kernel_rfl) trivial fun a hE => ?_
 refine WR.done rfl ?_
 refine Runs.ret hE Tryz.func111 rfl rfl ?_
 cases hm
 exact ⟨sb1, sc1, rfl, H.t2.t2.t2⟩

theorem thicketlaw9_cells_ok {w0 w : World} {As : List HP} {k : Nat} {sb_l : Option Addr} {sc_l : Nat} {l : List thicketlaw9_held} {X_l : HP} {t : (List Int)} (hX_l : SlRd X_l thicketlaw9_held.enc 3 sb_l l) (hC_l : l.length ≤ sc_l) (hm : thicketlaw9_cells k l = some t) (H : St w0 (X_l :: As) w) :
    CallsR Tryz.prog 73 #[.slice sb_l l.length sc_l] w fun v w' => ∃ (sb0 : Option Addr), ∃ (sc0 : Nat), v = .slice sb0 t.length sc0 ∧ St w0 (Sl 3 ecI 1 sb0 sc0 t :: X_l :: As) w' := by
 rw [thicketlaw9_cells] at hm
 refine enter (args := [.slice sb_l l.length sc_l]) Tryz.func73 rfl rfl rfl fun a hE => ?_
 refine Runs.sr ?_
 refine WR.seg hE 1 [] [0] (Lo := [(0, .slice sb_l l.length sc_l)]) (obs := []) rfl (by kernel_rfl) trivial fun a hE => ?_
 refine WR.done rfl ?_
 refine Runs.sr ?_
 refine WR.e0 hE [(3, .slice none 0 0)] fun a hE => ?_
 refine Runs.seq ?_
 refine Runs.sr ?_
 refine WR.e0 hE [(4, .int .i64 0)] fun a hE => ?_
 obtain ⟨s, es, hm⟩ := bind_some hm
 refine Runs.join (fun a w => ∃ (sb1 : Option Addr), ∃ (sc1 : Nat), EnvOk 48 a [(3, .slice sb1 s.length sc1)] ∧ St w0 (Sl 3 ecI 1 sb1 sc1 s :: X_l :: As) w) (fun hk => ?_) ?_
 ·replace hm := es; clear es
  replace H := H.slNil 3 ecI 1
  refine Runs.block ?_
  refine Runs.loop (fun m a w => ∃ (out : List Int), ∃ (i : Int), ∃ (sb2 : Option Addr), ∃ (sc2 : Nat), EnvOk 48 a [(0, .slice sb_l l.length sc_l), (3, .slice sb2 out.length sc2), (4, .int .i64 i)] ∧ St w0 (Sl 3 ecI 1 sb2 sc2 out :: X_l :: As) w ∧ thicketlaw9_cells_l0 l m out i = some s) k ⟨([] : List Int), 0, none, 0, hE.sel [0, 3, 4] (by kernel_rfl), H.t1.t1, hm⟩ ?_
  rintro m ih a w ⟨out, i, sb2, sc2, hE, H, hm⟩
  cases m with
  | zero => simp [thicketlaw9_cells_l0] at hm
  | succ m =>
   rw [thicketlaw9_cells_l0] at hm
   refine Runs.seq ?_
   refine Runs.sr ?_
   refine WR.seg hE 4 [] [0, 3, 4, 9] (Lo := [(0, .slice sb_l l.length sc_l), (3, .slice sb2 out.length sc2), (4, .int .i64 i), (9, .bool (decide (i < (l.length : Int))))]) (obs := []) rfl (by kernel_rfl) trivial fun a hE => ?_
   refine WR.done rfl ?_
   refine Runs.cond hE rfl (fun c => ?_) (fun c => ?_)
   ·replace hm := cond_t c hm
    refine Runs.skip ?_
    refine Runs.seq ?_
    refine Runs.block ?_
    refine Runs.sr ?_
    refine WR.e0 hE [(5, .int .i64 (out.length : Int))] fun a hE => ?_
    refine Runs.seq ?_
    obtain ⟨s1, es1, hm⟩ := bind_some hm
    refine Runs.join (fun a w => EnvOk 48 a [(0, .slice sb_l l.length sc_l), (3, .slice sb2 out.length sc2), (4, .int .i64 i), (5, .int .i64 s1)] ∧ St w0 (Sl 3 ecI 1 sb2 sc2 out :: X_l :: As) w) (fun hk => ?_) ?_
    ·replace hm := es1; clear es1
     refine Runs.block ?_
     refine Runs.loop (fun m a w => ∃ (k_ : Int), EnvOk 48 a [(0, .slice sb_l l.length sc_l), (3, .slice sb2 out.length sc2), (4, .int .i64 i), (5, .int .i64 k_)] ∧ St w0 (Sl 3 ecI 1 sb2 sc2 out :: X_l :: As) w ∧ thicketlaw9_cells_l1 i out l m k_ = some s1) m ⟨(out.length : Int), hE.sel [0, 3, 4, 5] (by kernel_rfl), H.t1.t1, hm⟩ ?_
     rintro m ih a w ⟨k_, hE, H, hm⟩
     cases m with
     | zero => simp [thicketlaw9_cells_l1] at hm
     | succ m =>
      rw [thicketlaw9_cells_l1] at hm
      refine Runs.seq ?_
      refine Runs.seq ?_
      obtain ⟨s2, es2, hm⟩ := bind_some hm
      refine Runs.join (fun a w => EnvOk 48 a [(0, .slice sb_l l.length sc_l), (3, .slice sb2 out.length sc2), (4, .int .i64 i), (5, .int .i64 k_), (28, .bool s2)] ∧ St w0 (Sl 3 ecI 1 sb2 sc2 out :: X_l :: As) w) (fun hk => ?_) ?_
      ·replace hm := es2; clear es2
       refine Runs.drawn mixed (by kernel_rfl) ?_
       replace H := H.drew
       refine WQ.seg hE [0, 1, 2] [] [0, 3, 4, 5, 16] (Lo := [(0, .slice sb_l l.length sc_l), (3, .slice sb2 out.length sc2), (4, .int .i64 i), (5, .int .i64 k_), (16, .bool (decide (k_ > 0)))]) (obs := []) (by kernel_rfl) (by kernel_rfl) trivial fun a hE => ?_
       rcases Bool.eq_false_or_eq_true (decide (k_ > 0)) with c | c
       ·replace hE := hE.dec 16 c (by kernel_rfl)
        replace hm := cond_t c hm
        have c_ := c
        obtain ⟨x1, ex1, hm⟩ := bind_some hm
        obtain ⟨b1, o1, hs1, hb1⟩ := SlRd.base (sl_rd 3 ecI 1 _ _ _) ecI_ok H 0 rfl ex1
        obtain ⟨x2, ex2, hm⟩ := bind_some hm
        obtain ⟨b2, o2, hs2, hb2⟩ := SlRd.base hX_l thicketlaw9_held.enc_ok H 1 rfl ex2
        refine WQ.d hE [3, 4, 5, 6, 7, 8, 9, 10, 11, 12, 13, 14] [.pointer (some ⟨b1, o1, none⟩), .int .i64 x1, .pointer (some ⟨b2, o2, none⟩), .int .i64 x2.cell] [(28, .bool (decide (x1 > x2.cell)))] (obs := [.p ((sb2 : Option Addr) = some ⟨b1, o1, none⟩), .p (0 ≤ ((w64 (k_ - 1)) : Int) ∧ ((w64 (k_ - 1)) : Int) < ((out.length : Nat) : Int)), .cell ⟨b1, o1 + (Int.toNat (w64 (k_ - 1))) * 1, none⟩ (.int .i64 x1), .p ((sb_l : Option Addr) = some ⟨b2, o2, none⟩), .p (0 ≤ (i : Int) ∧ (i : Int) < ((l.length : Nat) : Int)), .cell ⟨b2, o2 + (Int.toNat i) * 3, none⟩ (.int .i64 x2.cell)]) ⟨hs1, hb1, SlRd.cells (sl_rd 3 ecI 1 _ _ _) ecI_ok H 0 rfl hs1 ex1 0 _ rfl, hs2, hb2, SlRd.cells hX_l thicketlaw9_held.enc_ok H 1 rfl hs2 ex2 0 _ rfl, trivial⟩ fun a hE => ?_
        refine WQ.done (by kernel_rfl) ?_
        cases hm
        exact hk _ _ ⟨hE.sel [0, 3, 4, 5, 28] (by kernel_rfl), H.t1.t1⟩
       ·replace hE := hE.dec 16 c (by kernel_rfl)
        replace hm := cond_f c hm
        have c_1 := c
        refine WQ.d0 hE [3, 4, 5, 6, 7, 8, 9, 10, 11, 12, 13, 14] [(28, .bool false)] fun a hE => ?_
        refine WQ.done (by kernel_rfl) ?_
        cases hm
        exact hk _ _ ⟨hE.sel [0, 3, 4, 5, 28] (by kernel_rfl), H.t1.t1⟩
      rintro a w ⟨hE, H⟩
      refine Runs.cond hE rfl (fun c => ?_) (fun c => ?_)
      ·replace hm := cond_t c hm
       refine Runs.skip ?_
       refine Runs.block ?_
       refine Runs.region ?_
       refine WR.seg hE 3 [] [0, 3, 4, 5] (Lo := [(0, .slice sb_l l.length sc_l), (3, .slice sb2 out.length sc2), (4, .int .i64 i), (5, .int .i64 (w64 (k_ - 1)))]) (obs := []) rfl (by kernel_rfl) trivial fun a hE => ?_
       refine WR.done rfl ?_
       refine Runs.inBlock ?_
       exact ih m (Nat.lt_succ_self m) _ _ ⟨w64 (k_ - 1), hE.sel [0, 3, 4, 5] (by kernel_rfl), H.t1.t1, hm⟩
      ·replace hm := cond_f c hm
       refine Runs.exit rfl ?_
       cases hm
       exact hk _ _ ⟨hE.sel [0, 3, 4, 5] (by kernel_rfl), H.t1.t1⟩
    rintro a w ⟨hE, H⟩
    obtain ⟨l4, el4, hm⟩ := bind_some hm
    obtain ⟨x3, ex3, hm⟩ := bind_some hm
    obtain ⟨l5, el5, hm⟩ := bind_some hm
    obtain ⟨l6, el6, hm⟩ := bind_some hm
    obtain ⟨l7, el7, hm⟩ := bind_some hm
    obtain ⟨l8, el8, hm⟩ := bind_some hm
    refine Runs.join (fun a w => ∃ (sb8 : Option Addr), ∃ (sc8 : Nat), EnvOk 48 a [(0, .slice sb_l l.length sc_l), (3, .slice sb8 l8.length sc8), (4, .int .i64 i)] ∧ St w0 (Sl 3 ecI 1 sb8 sc8 l8 :: X_l :: As) w) (fun hk => ?_) ?_
    ·refine Runs.drawn mixed (by kernel_rfl) ?_
     replace H := H.drew
     obtain ⟨sb9, q7⟩ : ∃ z, rebase sb2 sc2 (Int.toNat 0) 1 = z := ⟨_, rfl⟩
     obtain ⟨sc9, q8⟩ : ∃ z, sc2 - (Int.toNat 0) = z := ⟨_, rfl⟩
     obtain ⟨b4, o4, hs4, hb4⟩ := SlRd.base hX_l thicketlaw9_held.enc_ok H 1 rfl ex3
     obtain ⟨sb10, q9⟩ : ∃ z, rebase sb2 sc2 (Int.toNat s1) 1 = z := ⟨_, rfl⟩
     obtain ⟨sc10, q10⟩ : ∃ z, sc2 - (Int.toNat s1) = z := ⟨_, rfl⟩
     refine WQ.seg hE [1, 2, 3, 5, 6, 7, 8, 9, 12, 13, 14] [.slice sb9 l4.length sc9, .pointer (some ⟨b4, o4, none⟩), .int .i64 x3.cell, .slice sb10 l5.length sc10] [0, 3, 4, 34, 40, 45] (Lo := [(0, .slice sb_l l.length sc_l), (3, .slice sb2 out.length sc2), (4, .int .i64 i), (34, .slice sb9 l4.length sc9), (40, .int .i64 x3.cell), (45, .slice sb10 l5.length sc10)]) (obs := [.p (rebase sb2 sc2 0 1 = sb9), .p ((Int.toNat s1) - 0 = l4.length), .p (sc2 - 0 = sc9), .p (0 ≤ (s1 : Int) ∧ (s1 : Int) ≤ ((sc2 : Nat) : Int)), .p ((sb_l : Option Addr) = some ⟨b4, o4, none⟩), .p (0 ≤ (i : Int) ∧ (i : Int) < ((l.length : Nat) : Int)), .cell ⟨b4, o4 + (Int.toNat i) * 3, none⟩ (.int .i64 x3.cell), .p (rebase sb2 sc2 (Int.toNat s1) 1 = sb10), .p (out.length - (Int.toNat s1) = l5.length), .p (sc2 - (Int.toNat s1) = sc10), .p (0 ≤ (s1 : Int) ∧ (s1 : Int) ≤ ((out.length : Nat) : Int))]) (by kernel_rfl) (by kernel_rfl) ⟨q7, cut_len el4, q8, cut_cap el4 (H.slCap 0 rfl).1, hs4, hb4, SlRd.cells hX_l thicketlaw9_held.enc_ok H 1 rfl hs4 ex3 0 _ rfl, q9, cut_len el5, q10, cut_bd0 el5, trivial⟩ fun a hE => ?_
     refine WQ.act2 0 10 (by kernel_rfl) ?_ ?_
     ·refine AQ.eff (j := 0) (obs := [.p (rebase sb2 sc2 (Int.toNat s1) 1 = sb10), .p (out.length - (Int.toNat s1) = l5.length), .p (sc2 - (Int.toNat s1) = sc10), .p (0 ≤ (s1 : Int) ∧ (s1 : Int) ≤ ((out.length : Nat) : Int)), .cell ⟨b4, o4 + (Int.toNat i) * 3, none⟩ (.int .i64 x3.cell), .p ((sb_l : Option Addr) = some ⟨b4, o4, none⟩), .p (0 ≤ (i : Int) ∧ (i : Int) < ((l.length : Nat) : Int)), .p (rebase sb2 sc2 0 1 = sb9), .p ((Int.toNat s1) - 0 = l4.length), .p (sc2 - 0 = sc9), .p (0 ≤ (s1 : Int) ∧ (s1 : Int) ≤ ((sc2 : Nat) : Int))]) hE rfl rfl rfl rfl (by kernel_rfl) (OpTo.buildSl (T := 3) hE H ecI_ok ([] : List Int) rfl (fun _ => by kernel_rfl) rfl rfl rfl) ?_
      rintro _ w ⟨r2, rfl, H⟩
      refine ⟨⟨q9, cut_len el5, q10, cut_bd0 el5, SlRd.cells hX_l thicketlaw9_held.enc_ok H 2 rfl hs4 ex3 0 _ rfl, hs4, hb4, q7, cut_len el4, q8, cut_cap el4 (H.slCap 1 rfl).1, trivial⟩, fun a hE => ?_⟩
      refine WQ.act2 4 10 (by kernel_rfl) ?_ ?_
      ·refine AQ.eff (j := 4) (obs := [.p (rebase sb2 sc2 (Int.toNat s1) 1 = sb10), .p (out.length - (Int.toNat s1) = l5.length), .p (sc2 - (Int.toNat s1) = sc10), .p (0 ≤ (s1 : Int) ∧ (s1 : Int) ≤ ((out.length : Nat) : Int)), .cell ⟨b4, o4 + (Int.toNat i) * 3, none⟩ (.int .i64 x3.cell), .p ((sb_l : Option Addr) = some ⟨b4, o4, none⟩), .p (0 ≤ (i : Int) ∧ (i : Int) < ((l.length : Nat) : Int))]) hE rfl rfl rfl rfl (by kernel_rfl) (OpTo.appendM el6 hE H ecI_ok rfl rfl rfl rfl rfl rfl rfl rfl rfl rfl (SlRd.all ((sl_rd 3 ecI 1 _ _ _).cut' ecI_ok el4 ((H.slCap 1 rfl).1) q7) ecI_ok H 1 rfl) rfl) ?_
       rintro _ w ⟨sb11, sc11, rfl, H⟩
       refine ⟨⟨q9, cut_len el5, q10, cut_bd0 el5, SlRd.cells hX_l thicketlaw9_held.enc_ok H 2 rfl hs4 ex3 0 _ rfl, hs4, hb4, trivial⟩, fun a hE => ?_⟩
       refine WQ.eff (j := 10) (obs := [.p (rebase sb2 sc2 (Int.toNat s1) 1 = sb10), .p (out.length - (Int.toNat s1) = l5.length), .p (sc2 - (Int.toNat s1) = sc10), .p (0 ≤ (s1 : Int) ∧ (s1 : Int) ≤ ((out.length : Nat) : Int))]) hE (by kernel_rfl) rfl rfl rfl rfl (by kernel_rfl) (OpTo.buildSl (T := 3) hE H ecI_ok ([x3.cell] : List Int) rfl (fun _ => by kernel_rfl) rfl rfl rfl) ?_
       rintro _ w ⟨r3, rfl, H⟩
       refine ⟨⟨q9, cut_len el5, q10, cut_bd0 el5, trivial⟩, fun a hE => ?_⟩
       replace H := H.t1
       refine WQ.eff (j := 11) (obs := [.p (rebase sb2 sc2 (Int.toNat s1) 1 = sb10), .p (out.length - (Int.toNat s1) = l5.length), .p (sc2 - (Int.toNat s1) = sc10), .p (0 ≤ (s1 : Int) ∧ (s1 : Int) ≤ ((out.length : Nat) : Int))]) hE (by kernel_rfl) rfl rfl rfl rfl (by kernel_rfl) (OpTo.appendM el7 hE H ecI_ok rfl rfl rfl rfl rfl rfl rfl rfl rfl rfl (SlRd.all (sl_rd 3 ecI 1 _ _ _) ecI_ok H 1 rfl) rfl) ?_
       rintro _ w ⟨sb12, sc12, rfl, H⟩
       refine ⟨⟨q9, cut_len el5, q10, cut_bd0 el5, trivial⟩, fun a hE => ?_⟩
       refine WQ.eff (j := 15) (obs := []) hE (by kernel_rfl) rfl rfl rfl rfl (by kernel_rfl) (OpTo.appendM el8 hE H ecI_ok rfl rfl rfl rfl rfl rfl rfl rfl rfl rfl (SlRd.all ((sl_rd 3 ecI 1 _ _ _).cut' ecI_ok el5 ((H.slCap 2 rfl).1) q9) ecI_ok H 2 rfl) rfl) ?_
       rintro _ w ⟨sb13, sc13, rfl, H⟩
       refine ⟨trivial, fun a hE => ?_⟩
       refine WQ.d0 hE [16] [(3, .slice sb13 l8.length sc13)] fun a hE => ?_
       refine WQ.done (by kernel_rfl) ?_
       exact hk _ _ ⟨sb13, sc13, hE.sel [0, 3, 4] (by kernel_rfl), H.x2.x1.t1.t1⟩
      ·refine AQ.eff (j := 10) (obs := [.p (rebase sb2 sc2 (Int.toNat s1) 1 = sb10), .p (out.length - (Int.toNat s1) = l5.length), .p (sc2 - (Int.toNat s1) = sc10), .p (0 ≤ (s1 : Int) ∧ (s1 : Int) ≤ ((out.length : Nat) : Int)), .p (rebase sb2 sc2 0 1 = sb9), .p ((Int.toNat s1) - 0 = l4.length), .p (sc2 - 0 = sc9), .p (0 ≤ (s1 : Int) ∧ (s1 : Int) ≤ ((sc2 : Nat) : Int))]) hE rfl rfl rfl rfl (by kernel_rfl) (OpTo.buildSl (T := 3) hE H ecI_ok ([x3.cell] : List Int) rfl (fun _ => by kernel_rfl) rfl rfl rfl) ?_
       rintro _ w ⟨r4, rfl, H⟩
       refine ⟨⟨q9, cut_len el5, q10, cut_bd0 el5, q7, cut_len el4, q8, cut_cap el4 (H.slCap 2 rfl).1, trivial⟩, fun a hE => ?_⟩
       replace H := H.t1
       refine WQ.eff (j := 4) (obs := [.p (rebase sb2 sc2 (Int.toNat s1) 1 = sb10), .p (out.length - (Int.toNat s1) = l5.length), .p (sc2 - (Int.toNat s1) = sc10), .p (0 ≤ (s1 : Int) ∧ (s1 : Int) ≤ ((out.length : Nat) : Int))]) hE (by kernel_rfl) rfl rfl rfl rfl (by kernel_rfl) (OpTo.appendM el6 hE H ecI_ok rfl rfl rfl rfl rfl rfl rfl rfl rfl rfl (SlRd.all ((sl_rd 3 ecI 1 _ _ _).cut' ecI_ok el4 ((H.slCap 2 rfl).1) q7) ecI_ok H 2 rfl) rfl) ?_
       rintro _ w ⟨sb14, sc14, rfl, H⟩
       refine ⟨⟨q9, cut_len el5, q10, cut_bd0 el5, trivial⟩, fun a hE => ?_⟩
       refine WQ.eff (j := 11) (obs := [.p (rebase sb2 sc2 (Int.toNat s1) 1 = sb10), .p (out.length - (Int.toNat s1) = l5.length), .p (sc2 - (Int.toNat s1) = sc10), .p (0 ≤ (s1 : Int) ∧ (s1 : Int) ≤ ((out.length : Nat) : Int))]) hE (by kernel_rfl) rfl rfl rfl rfl (by kernel_rfl) (OpTo.appendM el7 hE H ecI_ok rfl rfl rfl rfl rfl rfl rfl rfl rfl rfl (SlRd.all (sl_rd 3 ecI 1 _ _ _) ecI_ok H 1 rfl) rfl) ?_
       rintro _ w ⟨sb15, sc15, rfl, H⟩
       refine ⟨⟨q9, cut_len el5, q10, cut_bd0 el5, trivial⟩, fun a hE => ?_⟩
       refine WQ.eff (j := 15) (obs := []) hE (by kernel_rfl) rfl rfl rfl rfl (by kernel_rfl) (OpTo.appendM el8 hE H ecI_ok rfl rfl rfl rfl rfl rfl rfl rfl rfl rfl (SlRd.all ((sl_rd 3 ecI 1 _ _ _).cut' ecI_ok el5 ((H.slCap 2 rfl).1) q9) ecI_ok H 2 rfl) rfl) ?_
       rintro _ w ⟨sb16, sc16, rfl, H⟩
       refine ⟨trivial, fun a hE => ?_⟩
       refine WQ.d0 hE [16] [(3, .slice sb16 l8.length sc16)] fun a hE => ?_
       refine WQ.done (by kernel_rfl) ?_
       exact hk _ _ ⟨sb16, sc16, hE.sel [0, 3, 4] (by kernel_rfl), H.x2.x1.t1.t1⟩
     ·refine AQ.eff (j := 10) (obs := [.p (rebase sb2 sc2 (Int.toNat s1) 1 = sb10), .p (out.length - (Int.toNat s1) = l5.length), .p (sc2 - (Int.toNat s1) = sc10), .p (0 ≤ (s1 : Int) ∧ (s1 : Int) ≤ ((out.length : Nat) : Int)), .p (rebase sb2 sc2 0 1 = sb9), .p ((Int.toNat s1) - 0 = l4.length), .p (sc2 - 0 = sc9), .p (0 ≤ (s1 : Int) ∧ (s1 : Int) ≤ ((sc2 : Nat) : Int))]) hE rfl rfl rfl rfl (by kernel_rfl) (OpTo.buildSl (T := 3) hE H ecI_ok ([x3.cell] : List Int) rfl (fun _ => by kernel_rfl) rfl rfl rfl) ?_
      rintro _ w ⟨r5, rfl, H⟩
      refine ⟨⟨q9, cut_len el5, q10, cut_bd0 el5, q7, cut_len el4, q8, cut_cap el4 (H.slCap 1 rfl).1, trivial⟩, fun a hE => ?_⟩
      refine WQ.eff (j := 0) (obs := [.p (rebase sb2 sc2 (Int.toNat s1) 1 = sb10), .p (out.length - (Int.toNat s1) = l5.length), .p (sc2 - (Int.toNat s1) = sc10), .p (0 ≤ (s1 : Int) ∧ (s1 : Int) ≤ ((out.length : Nat) : Int)), .p (rebase sb2 sc2 0 1 = sb9), .p ((Int.toNat s1) - 0 = l4.length), .p (sc2 - 0 = sc9), .p (0 ≤ (s1 : Int) ∧ (s1 : Int) ≤ ((sc2 : Nat) : Int))]) hE (by kernel_rfl) rfl rfl rfl rfl (by kernel_rfl) (OpTo.buildSl (T := 3) hE H ecI_ok ([] : List Int) rfl (fun _ => by kernel_rfl) rfl rfl rfl) ?_
      rintro _ w ⟨r6, rfl, H⟩
      refine ⟨⟨q9, cut_len el5, q10, cut_bd0 el5, q7, cut_len el4, q8, cut_cap el4 (H.slCap 2 rfl).1, trivial⟩, fun a hE => ?_⟩
      refine WQ.eff (j := 4) (obs := [.p (rebase sb2 sc2 (Int.toNat s1) 1 = sb10), .p (out.length - (Int.toNat s1) = l5.length), .p (sc2 - (Int.toNat s1) = sc10), .p (0 ≤ (s1 : Int) ∧ (s1 : Int) ≤ ((out.length : Nat) : Int))]) hE (by kernel_rfl) rfl rfl rfl rfl (by kernel_rfl) (OpTo.appendM el6 hE H ecI_ok rfl rfl rfl rfl rfl rfl rfl rfl rfl rfl (SlRd.all ((sl_rd 3 ecI 1 _ _ _).cut' ecI_ok el4 ((H.slCap 2 rfl).1) q7) ecI_ok H 2 rfl) rfl) ?_
      rintro _ w ⟨sb17, sc17, rfl, H⟩
      refine ⟨⟨q9, cut_len el5, q10, cut_bd0 el5, trivial⟩, fun a hE => ?_⟩
      refine WQ.eff (j := 11) (obs := [.p (rebase sb2 sc2 (Int.toNat s1) 1 = sb10), .p (out.length - (Int.toNat s1) = l5.length), .p (sc2 - (Int.toNat s1) = sc10), .p (0 ≤ (s1 : Int) ∧ (s1 : Int) ≤ ((out.length : Nat) : Int))]) hE (by kernel_rfl) rfl rfl rfl rfl (by kernel_rfl) (OpTo.appendM el7 hE H ecI_ok rfl rfl rfl rfl rfl rfl rfl rfl rfl rfl (SlRd.all (sl_rd 3 ecI 1 _ _ _) ecI_ok H 1 rfl) rfl) ?_
      rintro _ w ⟨sb18, sc18, rfl, H⟩
      refine ⟨⟨q9, cut_len el5, q10, cut_bd0 el5, trivial⟩, fun a hE => ?_⟩
      refine WQ.eff (j := 15) (obs := []) hE (by kernel_rfl) rfl rfl rfl rfl (by kernel_rfl) (OpTo.appendM el8 hE H ecI_ok rfl rfl rfl rfl rfl rfl rfl rfl rfl rfl (SlRd.all ((sl_rd 3 ecI 1 _ _ _).cut' ecI_ok el5 ((H.slCap 2 rfl).1) q9) ecI_ok H 2 rfl) rfl) ?_
      rintro _ w ⟨sb19, sc19, rfl, H⟩
      refine ⟨trivial, fun a hE => ?_⟩
      refine WQ.d0 hE [16] [(3, .slice sb19 l8.length sc19)] fun a hE => ?_
      refine WQ.done (by kernel_rfl) ?_
      exact hk _ _ ⟨sb19, sc19, hE.sel [0, 3, 4] (by kernel_rfl), H.x2.x1.t1.t1⟩
    rintro a w ⟨sb8, sc8, hE, H⟩
    refine Runs.inBlock ?_
    refine Runs.region ?_
    refine WR.seg hE 3 [] [0, 3, 4] (Lo := [(0, .slice sb_l l.length sc_l), (3, .slice sb8 l8.length sc8), (4, .int .i64 (w64 (i + 1)))]) (obs := []) rfl (by kernel_rfl) trivial fun a hE => ?_
    refine WR.done rfl ?_
    exact ih m (Nat.lt_succ_self m) _ _ ⟨l8, w64 (i + 1), sb8, sc8, hE.sel [0, 3, 4] (by kernel_rfl), H.t1.t1, hm⟩
   ·replace hm := cond_f c hm
    refine Runs.exit rfl ?_
    cases hm
    exact hk _ _ ⟨sb2, sc2, hE.sel [3] (by kernel_rfl), H.t1.t1⟩
 rintro a w ⟨sb1, sc1, hE, H⟩
 refine Runs.sr ?_
 refine WR.seg hE 2 [] [2] (Lo := [(2, .slice sb1 s.length sc1)]) (obs := []) rfl (by kernel_rfl) trivial fun a hE => ?_
 refine WR.done rfl ?_
 refine Runs.ret hE Tryz.func73 rfl rfl ?_
 cases hm
 exact ⟨sb1, sc1, rfl, H.t1.t1⟩

theorem thicketbook_Same_int_ok {w0 w : World} {As : List HP} {k : Nat} {sb_a_ : Option Addr} {sc_a_ : Nat} {a_ : List Int} {X_a_ : HP} {sb_b : Option Addr} {sc_b : Nat} {b : List Int} {X_b : HP} {t : Bool} (hX_a_ : SlRd X_a_ ecI 1 sb_a_ a_) (hC_a_ : a_.length ≤ sc_a_) (hX_b : SlRd X_b ecI 1 sb_b b) (hC_b : b.length ≤ sc_b) (hm : thicketbook_Same_int k a_ b = some t) (H : St w0 (X_a_ :: X_b :: As) w) :
    CallsR Tryz.prog 71 #[.slice sb_a_ a_.length sc_a_, .slice sb_b b.length sc_b] w fun v w' => v = .bool t ∧ St w0 (X_a_ :: X_b :: As) w' := by
 rw [thicketbook_Same_int] at hm
 refine enter (args := [.slice sb_a_ a_.length sc_a_, .slice sb_b b.length sc_b]) Tryz.func71 rfl rfl rfl fun a hE => ?_
 refine Runs.sr ?_
 refine WR.seg hE 1 [] [0, 1] (Lo := [(0, .slice sb_a_ a_.length sc_a_), (1, .slice sb_b b.length sc_b)]) (obs := []) rfl (by kernel_rfl) trivial fun a hE => ?_
 refine WR.done rfl ?_
 refine Runs.seq ?_
 refine Runs.sr ?_
 refine WR.e0 hE [(10, .bool ((a_.length : Int) != (b.length : Int)))] fun a hE => ?_
 refine Runs.cond hE rfl (fun c => ?_) (fun c => ?_)
 ·replace hm := cond_t c hm
  refine Runs.sr ?_
  refine WR.e0 hE [(4, .bool false)] fun a hE => ?_
  refine Runs.ret hE Tryz.func71 rfl rfl ?_
  cases hm
  exact ⟨rfl, H.t1.t1⟩
 ·replace hm := cond_f c hm
  refine Runs.skip ?_
  refine Runs.seq ?_
  refine Runs.sr ?_
  refine WR.e0 hE [(5, .int .i64 0)] fun a hE => ?_
  obtain ⟨s, es, hR⟩ := bind_some hm
  refine Runs.join (fun a w => ∃ s1, s = Sum.inr s1 ∧ EnvOk 26 a [] ∧ St w0 (X_a_ :: X_b :: As) w) (fun hk => ?_) ?_
  ·replace hm := es; clear es
   refine Runs.block ?_
   refine Runs.loop (fun m a w => ∃ (i : Int), EnvOk 26 a [(0, .slice sb_a_ a_.length sc_a_), (1, .slice sb_b b.length sc_b), (5, .int .i64 i)] ∧ St w0 (X_a_ :: X_b :: As) w ∧ thicketbook_Same_int_l0 a_ b m i = some s) k ⟨0, hE.sel [0, 1, 5] (by kernel_rfl), H.t1.t1, hm⟩ ?_
   rintro m ih a w ⟨i, hE, H, hm⟩
   cases m with
   | zero => simp [thicketbook_Same_int_l0] at hm
   | succ m =>
    rw [thicketbook_Same_int_l0] at hm
    refine Runs.seq ?_
    refine Runs.sr ?_
    refine WR.seg hE 4 [] [0, 1, 5, 14] (Lo := [(0, .slice sb_a_ a_.length sc_a_), (1, .slice sb_b b.length sc_b), (5, .int .i64 i), (14, .bool (decide (i < (a_.length : Int))))]) (obs := []) rfl (by kernel_rfl) trivial fun a hE => ?_
    refine WR.done rfl ?_
    refine Runs.cond hE rfl (fun c => ?_) (fun c => ?_)
    ·replace hm := cond_t c hm
     refine Runs.skip ?_
     refine Runs.seq ?_
     refine Runs.block ?_
     refine Runs.seq ?_
     refine Runs.drawn mixed (by kernel_rfl) ?_
     replace H := H.drew
     obtain ⟨x, ex, hm⟩ := bind_some hm
     obtain ⟨b1, o, hs, hb⟩ := SlRd.base hX_a_ ecI_ok H 0 rfl ex
     obtain ⟨x1, ex1, hm⟩ := bind_some hm
     obtain ⟨b2, o1, hs1, hb1⟩ := SlRd.base hX_b ecI_ok H 1 rfl ex1
     refine WQ.d hE [0, 1, 2, 3, 4, 5, 6, 7, 8] [.pointer (some ⟨b1, o, none⟩), .int .i64 x, .pointer (some ⟨b2, o1, none⟩), .int .i64 x1] [(25, .bool (x != x1))] (obs := [.p ((sb_a_ : Option Addr) = some ⟨b1, o, none⟩), .p (0 ≤ (i : Int) ∧ (i : Int) < ((a_.length : Nat) : Int)), .cell ⟨b1, o + (Int.toNat i) * 1, none⟩ (.int .i64 x), .p ((sb_b : Option Addr) = some ⟨b2, o1, none⟩), .p (0 ≤ (i : Int) ∧ (i : Int) < ((b.length : Nat) : Int)), .cell ⟨b2, o1 + (Int.toNat i) * 1, none⟩ (.int .i64 x1)]) ⟨hs, hb, SlRd.cells hX_a_ ecI_ok H 0 rfl hs ex 0 _ rfl, hs1, hb1, SlRd.cells hX_b ecI_ok H 1 rfl hs1 ex1 0 _ rfl, trivial⟩ fun a hE => ?_
     refine WQ.done (by kernel_rfl) ?_
     refine Runs.cond hE rfl (fun c => ?_) (fun c => ?_)
     ·replace hm := cond_t c hm
      refine Runs.sr ?_
      refine WR.e0 hE [(4, .bool false)] fun a hE => ?_
      refine Runs.ret hE Tryz.func71 rfl rfl ?_
      cases hm
      dsimp only at hR; cases hR
      exact ⟨rfl, H.t1.t1⟩
     ·replace hm := cond_f c hm
      refine Runs.skip ?_
      refine Runs.inBlock ?_
      refine Runs.region ?_
      refine WR.e0 hE [(5, .int .i64 (w64 (i + 1)))] fun a hE => ?_
      exact ih m (Nat.lt_succ_self m) _ _ ⟨w64 (i + 1), hE.sel [0, 1, 5] (by kernel_rfl), H.t1.t1, hm⟩
    ·replace hm := cond_f c hm
     refine Runs.exit rfl ?_
     cases hm
     exact hk _ _ ⟨_, rfl, hE.sel [] (by kernel_rfl), H.t1.t1⟩
  rintro a w ⟨s1, rfl, hE, H⟩
  replace hm := hR; dsimp only at hm
  refine Runs.sr ?_
  refine WR.seg hE 1 [] [4] (Lo := [(4, .bool true)]) (obs := []) rfl (by kernel_rfl) trivial fun a hE => ?_
  refine WR.done rfl ?_
  refine Runs.ret hE Tryz.func71 rfl rfl ?_
  cases hm
  exact ⟨rfl, H.t1.t1⟩

theorem binomial_Min_ok {w0 w : World} {As : List HP} {k : Nat} {p_a_ : Nat} {al_a_ : arena_Arena.A} {a_ : arena_Arena} {r : Int} {t : Int × arena_Arena}  (hm : binomial_Min k a_ r = some t) (H : St w0 (arena_Arena.R p_a_ al_a_ a_ :: As) w) :
    CallsR Tryz.prog 35 #[.pointer (some ⟨p_a_, 0, none⟩), .int .i64 r] w fun v w' => v = .int .i64 t.1 ∧ St w0 (arena_Arena.R p_a_ al_a_ t.2 :: As) w' := by
 rw [binomial_Min] at hm
 refine enter (args := [.pointer (some ⟨p_a_, 0, none⟩), .int .i64 r]) Tryz.func35 rfl rfl rfl fun a hE => ?_
 refine Runs.sr ?_
 refine WR.seg hE 1 [] [0, 1] (Lo := [(0, .pointer (some ⟨p_a_, 0, none⟩)), (1, .int .i64 r)]) (obs := []) rfl (by kernel_rfl) trivial fun a hE => ?_
 refine WR.done rfl ?_
 refine Runs.seq ?_
 refine Runs.sr ?_
 refine WR.e0 hE [(6, .bool false)] fun a hE => ?_
 refine Runs.condF hE rfl ?_
 refine Runs.skip ?_
 refine Runs.sr ?_
 refine WR.d0 hE 4 [(7, .pointer (some ⟨p_a_, 0, none⟩)), (8, .pointer (some ⟨p_a_, 0, none⟩)), (9, .pointer (some ⟨p_a_, 0, none⟩)), (10, .int .i64 r)] fun a hE => ?_
 obtain ⟨t_, et_, hm⟩ := bind_some hm
 refine WR.eff hE rfl rfl rfl rfl (OpTo.fn hE rfl rfl Tryz.call60 (trees_List_ok et_ H)) ?_
 rintro _ w ⟨sb, sc, rfl, H⟩ a hE
 obtain ⟨t_1, et_1, hm⟩ := bind_some hm
 replace H := H.t1
 refine WR.eff hE rfl rfl rfl rfl (OpTo.fn hE rfl rfl Tryz.call64 (trees_Best_ok (hX_l := (sl_rd 3 ecI 1 _ _ _)) (hC_l := (H.slCap 1 rfl).1) et_1 H)) ?_
 rintro _ w ⟨rfl, H⟩ a hE
 obtain ⟨t_2, et_2, hm⟩ := bind_some hm
 refine WR.eff hE rfl rfl rfl rfl (OpTo.fn hE rfl rfl Tryz.call78 (arena_Arena_Cell_ok et_2 H)) ?_
 rintro _ w ⟨rfl, H⟩ a hE
 refine WR.e0 hE [(4, .int .i64 t_2.1)] fun a hE => ?_
 refine Runs.ret hE Tryz.func35 rfl rfl ?_
 cases hm
 exact ⟨rfl, H.x1⟩

theorem binomial_All_ok {w0 w : World} {As : List HP} {k : Nat} {p_a_ : Nat} {al_a_ : arena_Arena.A} {a_ : arena_Arena} {r : Int} {t : (List Int) × arena_Arena}  (hm : binomial_All k a_ r = some t) (H : St w0 (arena_Arena.R p_a_ al_a_ a_ :: As) w) :
    CallsR Tryz.prog 72 #[.pointer (some ⟨p_a_, 0, none⟩), .int .i64 r] w fun v w' => ∃ (sb0 : Option Addr), ∃ (sc0 : Nat), v = .slice sb0 t.1.length sc0 ∧ St w0 (Sl 3 ecI 1 sb0 sc0 t.1 :: arena_Arena.R p_a_ al_a_ t.2 :: As) w' := by
 rw [binomial_All] at hm
 refine enter (args := [.pointer (some ⟨p_a_, 0, none⟩), .int .i64 r]) Tryz.func72 rfl rfl rfl fun a hE => ?_
 refine Runs.sr ?_
 refine WR.seg hE 1 [] [0, 1] (Lo := [(0, .pointer (some ⟨p_a_, 0, none⟩)), (1, .int .i64 r)]) (obs := []) rfl (by kernel_rfl) trivial fun a hE => ?_
 refine WR.done rfl ?_
 refine Runs.seq ?_
 refine Runs.sr ?_
 refine WR.e0 hE [(6, .bool false)] fun a hE => ?_
 refine Runs.condF hE rfl ?_
 refine Runs.skip ?_
 refine Runs.sr ?_
 refine WR.d0 hE 3 [(7, .pointer (some ⟨p_a_, 0, none⟩)), (8, .pointer (some ⟨p_a_, 0, none⟩)), (9, .int .i64 r)] fun a hE => ?_
 obtain ⟨t_, et_, hm⟩ := bind_some hm
 refine WR.eff hE rfl rfl rfl rfl (OpTo.fn hE rfl rfl Tryz.call112 (trees_Nodes_ok et_ H)) ?_
 rintro _ w ⟨sb, sc, rfl, H⟩ a hE
 obtain ⟨t_1, et_1, hm⟩ := bind_some hm
 replace H := H.t1
 refine WR.eff hE rfl rfl rfl rfl (OpTo.fn hE rfl rfl Tryz.call111 (node_Items_ok (hX_l := (sl_rd 3 ecI 1 _ _ _)) (hC_l := (H.slCap 1 rfl).1) et_1 H)) ?_
 rintro _ w ⟨sb1, sc1, rfl, H⟩ a hE
 refine WR.e0 hE [(4, .slice sb1 t_1.1.length sc1)] fun a hE => ?_
 refine Runs.ret hE Tryz.func72 rfl rfl ?_
 cases hm
 exact ⟨sb1, sc1, rfl, H.x2.t1.t1⟩

theorem thicketlaw9_world_node_at0_ok {w0 w : World} {As : List HP} {k : Nat} {p_w_ : Nat} {al_w_ : thicketlaw9_world.A} {w_ : thicketlaw9_world} {n : Int} {t : thicketlaw9_held × Bool × thicketlaw9_world}  (hm : thicketlaw9_world_node_at0 k w_ n = some t) (H : St w0 (thicketlaw9_world.R p_w_ al_w_ w_ :: As) w) :
    CallsR Tryz.prog 130 #[.pointer (some ⟨p_w_, 0, none⟩), .int .i64 0, .int .i64 n] w fun v w' => v = .tuple #[.agg #[.int .i64 t.1.cell, .int .i64 t.1.e.Key, .int .i64 t.1.e.Serial], .bool t.2.1] ∧ St w0 (thicketlaw9_world.R p_w_ al_w_ t.2.2 :: As) w' := by
 rw [thicketlaw9_world_node_at0] at hm
 refine enter (args := [.pointer (some ⟨p_w_, 0, none⟩), .int .i64 0, .int .i64 n]) Tryz.func130 rfl rfl rfl fun a hE => ?_
 refine Runs.sr ?_
 refine WR.eff hE rfl rfl rfl rfl (OpTo.new hE H [] (.cells #[.int .i64 0, .int .i64 0, .int .i64 0] 64 (0, 0)) (fun r => .pointer (some ⟨r, 0, none⟩)) (obs := []) rfl (fun _ => by kernel_rfl) trivial) ?_
 rintro _ w ⟨r, rfl, H⟩ a hE
 refine WR.seg hE 2 [] [0, 1, 2, 6] (Lo := [(0, .pointer (some ⟨p_w_, 0, none⟩)), (1, .int .i64 0), (2, .int .i64 n), (6, .pointer (some ⟨r, 0, none⟩))]) (obs := []) rfl (by kernel_rfl) trivial fun a hE => ?_
 refine WR.done rfl ?_
 refine Runs.sr ?_
 replace H := thicketlaw9_world.open H.t1
 refine WR.d hE 5 [.pointer (some ⟨al_w_.a__p, 0, none⟩)] [(14, .pointer (some ⟨al_w_.a__p, 0, none⟩)), (15, .int .i64 n)] (obs := [.cell ⟨p_w_, 0, none⟩ (.pointer (some ⟨al_w_.a__p, 0, none⟩))]) ⟨H.cell 0 rfl rfl, trivial⟩ fun a hE => ?_
 obtain ⟨t_, et_, hm⟩ := bind_some hm
 refine WR.eff hE rfl rfl rfl rfl (OpTo.fn hE rfl rfl Tryz.call78 (arena_Arena_Cell_ok et_ H.t1)) ?_
 rintro _ w ⟨rfl, H⟩ a hE
 refine WR.e0 hE [(8, .int .i64 t_.1)] fun a hE => ?_
 refine Runs.seq ?_
 refine Runs.sr ?_
 refine WR.e0 hE [(9, .int .i64 0)] fun a hE => ?_
 replace H := thicketlaw9_world.shut al_w_ (thicketlaw9_world.mk t_.2 w_.root0 w_.root1 w_.has0 w_.has1 w_.next w_.spent w_.most) H.t3.t3.t2.t3
 obtain ⟨s, es, hR⟩ := bind_some hm
 refine Runs.join (fun a w => ∃ s1, s = Sum.inr s1 ∧ EnvOk 62 a [(6, .pointer (some ⟨r, 0, none⟩))] ∧ St w0 (thicketlaw9_world.R p_w_ al_w_ (thicketlaw9_world.mk t_.2 w_.root0 w_.root1 w_.has0 w_.has1 w_.next w_.spent w_.most) :: Blk r 64 [.int .i64 0, .int .i64 0, .int .i64 0] :: As) w) (fun hk => ?_) ?_
 ·replace hm := es; clear es
  refine Runs.block ?_
  refine Runs.loop (fun m a w => ∃ (k_ : Int), EnvOk 62 a [(0, .pointer (some ⟨p_w_, 0, none⟩)), (1, .int .i64 0), (2, .int .i64 n), (6, .pointer (some ⟨r, 0, none⟩)), (8, .int .i64 t_.1), (9, .int .i64 k_)] ∧ St w0 (thicketlaw9_world.R p_w_ al_w_ (thicketlaw9_world.mk t_.2 w_.root0 w_.root1 w_.has0 w_.has1 w_.next w_.spent w_.most) :: Blk r 64 [.int .i64 0, .int .i64 0, .int .i64 0] :: As) w ∧ thicketlaw9_world_node_at0_l0 n t_.1 (thicketlaw9_world.mk t_.2 w_.root0 w_.root1 w_.has0 w_.has1 w_.next w_.spent w_.most) m k_ = some s) k ⟨0, hE.sel [0, 1, 2, 6, 8, 9] (by kernel_rfl), H.t1.t1, hm⟩ ?_
  rintro m ih a w ⟨k_, hE, H, hm⟩
  cases m with
  | zero => simp [thicketlaw9_world_node_at0_l0] at hm
  | succ m =>
   rw [thicketlaw9_world_node_at0_l0] at hm
   refine Runs.seq ?_
   refine Runs.sr ?_
   replace H := thicketlaw9_world.open H
   try dsimp only at H
   refine WR.seg hE 9 [.slice al_w_.has0_b w_.has0.length al_w_.has0_c] [0, 1, 2, 6, 8, 9, 25] (Lo := [(0, .pointer (some ⟨p_w_, 0, none⟩)), (1, .int .i64 0), (2, .int .i64 n), (6, .pointer (some ⟨r, 0, none⟩)), (8, .int .i64 t_.1), (9, .int .i64 k_), (25, .bool (decide (k_ < (w_.has0.length : Int))))]) (obs := [.p (0 ≤ (0 : Int) ∧ (0 : Int) < ((2 : Nat) : Int)), .cell ⟨p_w_, 3, none⟩ (.slice al_w_.has0_b w_.has0.length al_w_.has0_c)]) rfl (by kernel_rfl) ⟨⟨by decide, by decide⟩, H.cell 0 rfl rfl, trivial⟩ fun a hE => ?_
   refine WR.done rfl ?_
   refine Runs.cond hE rfl (fun c => ?_) (fun c => ?_)
   ·replace hm := cond_t c hm
    refine Runs.skip ?_
    refine Runs.seq ?_
    refine Runs.block ?_
    refine Runs.sr ?_
    obtain ⟨x, ex, hm⟩ := bind_some hm
    obtain ⟨b, o, hs, hb⟩ := SlRd.base (sl_rd 64 thicketlaw9_held.enc 3 _ _ _) thicketlaw9_held.enc_ok H 2 rfl ex
    refine WR.d hE 9 [.slice al_w_.has0_b w_.has0.length al_w_.has0_c, .pointer (some ⟨b, o, none⟩), .int .i64 x.cell, .int .i64 x.e.Key, .int .i64 x.e.Serial] [(36, .agg #[.int .i64 x.cell, .int .i64 x.e.Key, .int .i64 x.e.Serial])] (obs := [.p (0 ≤ (0 : Int) ∧ (0 : Int) < ((2 : Nat) : Int)), .cell ⟨p_w_, 3, none⟩ (.slice al_w_.has0_b w_.has0.length al_w_.has0_c), .p ((al_w_.has0_b : Option Addr) = some ⟨b, o, none⟩), .p (0 ≤ (k_ : Int) ∧ (k_ : Int) < ((w_.has0.length : Nat) : Int)), .cell ⟨b, o + (Int.toNat k_) * 3, none⟩ (.int .i64 x.cell), .cell ⟨b, o + (Int.toNat k_) * 3 + 1, none⟩ (.int .i64 x.e.Key), .cell ⟨b, o + (Int.toNat k_) * 3 + 2, none⟩ (.int .i64 x.e.Serial)]) ⟨⟨by decide, by decide⟩, H.cell 0 rfl rfl, hs, hb, SlRd.cells (sl_rd 64 thicketlaw9_held.enc 3 _ _ _) thicketlaw9_held.enc_ok H 2 rfl hs ex 0 _ rfl, SlRd.cells (sl_rd 64 thicketlaw9_held.enc 3 _ _ _) thicketlaw9_held.enc_ok H 2 rfl hs ex 1 _ rfl, SlRd.cells (sl_rd 64 thicketlaw9_held.enc 3 _ _ _) thicketlaw9_held.enc_ok H 2 rfl hs ex 2 _ rfl, trivial⟩ fun a hE => ?_
    refine WR.eff hE rfl rfl rfl rfl (OpTo.new hE H [] (.cells #[.int .i64 0, .int .i64 0, .int .i64 0] 64 (0, 0)) (fun r => .pointer (some ⟨r, 0, none⟩)) (obs := []) rfl (fun _ => by kernel_rfl) trivial) ?_
    rintro _ w ⟨r1, rfl, H⟩ a hE
    refine WR.eff0 hE rfl rfl rfl (OpTo.store hE H rfl rfl rfl rfl rfl rfl (Nat.le_of_ble_eq_true rfl)) ?_
    rintro _ w H a hE
    refine WR.done rfl ?_
    refine Runs.sr ?_
    refine WR.e hE [.int .i64 x.cell] [(40, .bool (x.cell == t_.1))] (obs := [.cell ⟨r1, 0, none⟩ (.int .i64 x.cell)]) ⟨H.cell 0 rfl rfl, trivial⟩ fun a hE => ?_
    refine Runs.cond hE rfl (fun c => ?_) (fun c => ?_)
    ·replace hm := cond_t c hm
     refine Runs.seq ?_
     replace H := thicketlaw9_world.shut al_w_ (thicketlaw9_world.mk t_.2 w_.root0 w_.root1 w_.has0 w_.has1 w_.next w_.spent w_.most) H.t4.t4.t4.t4
     obtain ⟨s2, es2, hm⟩ := bind_some hm
     refine Runs.join (fun a w => EnvOk 62 a [(6, .pointer (some ⟨r, 0, none⟩)), (7, .bool s2.1)] ∧ St w0 (thicketlaw9_world.R p_w_ al_w_ s2.2.1 :: Blk r 64 [.int .i64 s2.2.2.1, .int .i64 s2.2.2.2.1, .int .i64 s2.2.2.2.2] :: As) w) (fun hk => ?_) ?_
     ·replace hm := es2; clear es2
      refine Runs.drawn mixed (by kernel_rfl) ?_
      replace H := H.drew
      replace H := thicketlaw9_world.open H
      try dsimp only at H
      refine WQ.d hE [0, 1, 2, 3, 4, 5, 7] [.int .i64 x.cell, .int .i64 x.e.Key, .int .i64 x.e.Serial, .pointer (some ⟨al_w_.a__p, 0, none⟩)] [(41, .agg #[.int .i64 x.cell, .int .i64 x.e.Key, .int .i64 x.e.Serial]), (45, .pointer (some ⟨al_w_.a__p, 0, none⟩)), (46, .int .i64 t_.1), (48, .int .i64 n)] (obs := [.cell ⟨r1, 0, none⟩ (.int .i64 x.cell), .cell ⟨r1, 1, none⟩ (.int .i64 x.e.Key), .cell ⟨r1, 2, none⟩ (.int .i64 x.e.Serial), .cell ⟨p_w_, 0, none⟩ (.pointer (some ⟨al_w_.a__p, 0, none⟩))]) ⟨H.cell 4 rfl rfl, H.cell 4 rfl rfl, H.cell 4 rfl rfl, H.cell 0 rfl rfl, trivial⟩ fun a hE => ?_
      obtain ⟨t_1, et_1, hm⟩ := bind_some hm
      refine WQ.eff (j := 6) (obs := [.cell ⟨r1, 0, none⟩ (.int .i64 x.cell), .cell ⟨r1, 1, none⟩ (.int .i64 x.e.Key), .cell ⟨r1, 2, none⟩ (.int .i64 x.e.Serial)]) hE (by kernel_rfl) rfl rfl rfl rfl (by kernel_rfl) (OpTo.fn hE rfl rfl Tryz.call78 (arena_Arena_Cell_ok et_1 H.t1)) ?_
      rintro _ w ⟨rfl, H⟩
      refine ⟨⟨H.cell 4 rfl rfl, H.cell 4 rfl rfl, H.cell 4 rfl rfl, trivial⟩, fun a hE => ?_⟩
      refine WQ.d0 hE [8, 9] [(50, .bool (t_1.1 == n))] fun a hE => ?_
      rcases Bool.eq_false_or_eq_true (t_1.1 == n) with c | c
      ·replace hE := hE.dec 50 c (by kernel_rfl)
       replace hm := cond_t c hm
       have c_ := c
       refine WQ.d hE [10, 11, 12, 13, 14, 16, 17] [.pointer (some ⟨al_w_.a__p, 0, none⟩), .int .i64 x.e.Key, .int .i64 x.e.Serial] [(50, .bool true), (54, .pointer (some ⟨al_w_.a__p, 0, none⟩)), (55, .int .i64 t_.1), (58, .agg #[.int .i64 x.e.Key, .int .i64 x.e.Serial])] (obs := [.cell ⟨p_w_, 0, none⟩ (.pointer (some ⟨al_w_.a__p, 0, none⟩)), .cell ⟨r1, 1, none⟩ (.int .i64 x.e.Key), .cell ⟨r1, 2, none⟩ (.int .i64 x.e.Serial)]) ⟨H.cell 1 rfl rfl, H.cell 4 rfl rfl, H.cell 4 rfl rfl, trivial⟩ fun a hE => ?_
       obtain ⟨t_2, et_2, hm⟩ := bind_some hm
       refine WQ.eff (j := 15) (obs := [.cell ⟨r1, 1, none⟩ (.int .i64 x.e.Key), .cell ⟨r1, 2, none⟩ (.int .i64 x.e.Serial), .cell ⟨r1, 0, none⟩ (.int .i64 x.cell), .cell ⟨r1, 1, none⟩ (.int .i64 x.e.Key), .cell ⟨r1, 2, none⟩ (.int .i64 x.e.Serial)]) hE (by kernel_rfl) rfl rfl rfl rfl (by kernel_rfl) (OpTo.fn hE rfl rfl Tryz.call25 (item_Entry_ok et_2 H)) ?_
       rintro _ w ⟨rfl, hf1, hf, H⟩
       refine ⟨⟨H.cell 4 rfl rfl, H.cell 4 rfl rfl, H.cell 4 rfl rfl, H.cell 4 rfl rfl, H.cell 4 rfl rfl, trivial⟩, fun a hE => ?_⟩
       refine WQ.act2 18 20 (by kernel_rfl) ?_ ?_
       ·refine AQ.eff (j := 18) (obs := [.cell ⟨r1, 0, none⟩ (.int .i64 x.cell), .cell ⟨r1, 1, none⟩ (.int .i64 x.e.Key), .cell ⟨r1, 2, none⟩ (.int .i64 x.e.Serial)]) hE rfl rfl rfl rfl (by kernel_rfl) (OpTo.eqS hE rfl rfl rfl (by kernel_rfl) (api_Entry.eq_run t_2.1 x.e)) ?_
        rintro _ _ ⟨rfl, rfl⟩
        refine ⟨⟨H.cell 4 rfl rfl, H.cell 4 rfl rfl, H.cell 4 rfl rfl, trivial⟩, fun a hE => ?_⟩
        refine WQ.d0 hE [19] [(60, .bool (api_Entry.eq t_2.1 x.e))] fun a hE => ?_
        refine WQ.eff0 (j := 20) (obs := []) hE (by kernel_rfl) rfl rfl rfl (by kernel_rfl) (OpTo.store hE H.t5 rfl rfl rfl rfl rfl rfl (Nat.le_of_ble_eq_true rfl)) ?_
        rintro _ w H
        refine ⟨trivial, fun a hE => ?_⟩
        refine WQ.d0 hE [21] [(7, .bool (api_Entry.eq t_2.1 x.e))] fun a hE => ?_
        refine WQ.done (by kernel_rfl) ?_
        replace H := thicketlaw9_world.shut al_w_ (thicketlaw9_world.mk t_2.2 w_.root0 w_.root1 w_.has0 w_.has1 w_.next w_.spent w_.most) H.t4.t4.t3.t4
        cases hm
        exact hk _ _ ⟨hE.sel [6, 7] (by kernel_rfl), H.x2.t1.t1⟩
       ·refine AQ.eff0 (j := 20) (obs := [.cell ⟨r1, 1, none⟩ (.int .i64 x.e.Key), .cell ⟨r1, 2, none⟩ (.int .i64 x.e.Serial)]) hE rfl rfl rfl (by kernel_rfl) (OpTo.store hE H.t5 rfl rfl rfl rfl rfl rfl (Nat.le_of_ble_eq_true rfl)) ?_
        rintro _ w H
        refine ⟨⟨H.cell 5 rfl rfl, H.cell 5 rfl rfl, trivial⟩, fun a hE => ?_⟩
        refine WQ.eff (j := 18) (obs := []) hE (by kernel_rfl) rfl rfl rfl rfl (by kernel_rfl) (OpTo.eqS hE rfl rfl rfl (by kernel_rfl) (api_Entry.eq_run t_2.1 x.e)) ?_
        rintro _ _ ⟨rfl, rfl⟩
        refine ⟨trivial, fun a hE => ?_⟩
        refine WQ.d0 hE [19, 21] [(7, .bool (api_Entry.eq t_2.1 x.e))] fun a hE => ?_
        refine WQ.done (by kernel_rfl) ?_
        replace H := thicketlaw9_world.shut al_w_ (thicketlaw9_world.mk t_2.2 w_.root0 w_.root1 w_.has0 w_.has1 w_.next w_.spent w_.most) H.t4.t4.t3.t4
        cases hm
        exact hk _ _ ⟨hE.sel [6, 7] (by kernel_rfl), H.x2.t1.t1⟩
      ·replace hE := hE.dec 50 c (by kernel_rfl)
       replace hm := cond_f c hm
       have c_1 := c
       refine WQ.d0 hE [10, 11, 12, 13, 14, 15, 16, 17, 18, 19] [(60, .bool false)] fun a hE => ?_
       refine WQ.eff0 (j := 20) (obs := []) hE (by kernel_rfl) rfl rfl rfl (by kernel_rfl) (OpTo.store hE H.t5 rfl rfl rfl rfl rfl rfl (Nat.le_of_ble_eq_true rfl)) ?_
       rintro _ w H
       refine ⟨trivial, fun a hE => ?_⟩
       refine WQ.d0 hE [21] [(7, .bool false)] fun a hE => ?_
       refine WQ.done (by kernel_rfl) ?_
       replace H := thicketlaw9_world.shut al_w_ (thicketlaw9_world.mk t_1.2 w_.root0 w_.root1 w_.has0 w_.has1 w_.next w_.spent w_.most) H.t4.t4.t3.t4
       cases hm
       exact hk _ _ ⟨hE.sel [6, 7] (by kernel_rfl), H.x2.t1.t1⟩
     rintro a w ⟨hE, H⟩
     refine Runs.retO (vs := [.agg #[.int .i64 s2.2.2.1, .int .i64 s2.2.2.2.1, .int .i64 s2.2.2.2.2], .bool s2.1]) (obs := [.cell ⟨r, 0, none⟩ (.int .i64 s2.2.2.1), .cell ⟨r, 1, none⟩ (.int .i64 s2.2.2.2.1), .cell ⟨r, 2, none⟩ (.int .i64 s2.2.2.2.2)]) hE Tryz.func130 rfl [.int .i64 s2.2.2.1, .int .i64 s2.2.2.2.1, .int .i64 s2.2.2.2.2] (by kernel_rfl) ⟨H.cell 1 rfl rfl, H.cell 1 rfl rfl, H.cell 1 rfl rfl, trivial⟩ ?_
     cases hm
     dsimp only at hR; cases hR
     exact ⟨rfl, H.x1⟩
    ·replace hm := cond_f c hm
     refine Runs.skip ?_
     refine Runs.inBlock ?_
     refine Runs.region ?_
     refine WR.e0 hE [(9, .int .i64 (w64 (k_ + 1)))] fun a hE => ?_
     replace H := thicketlaw9_world.shut al_w_ (thicketlaw9_world.mk t_.2 w_.root0 w_.root1 w_.has0 w_.has1 w_.next w_.spent w_.most) H.t4.t4.t4.t4
     exact ih m (Nat.lt_succ_self m) _ _ ⟨w64 (k_ + 1), hE.sel [0, 1, 2, 6, 8, 9] (by kernel_rfl), H.x1.t1.t1, hm⟩
   ·replace hm := cond_f c hm
    refine Runs.exit rfl ?_
    replace H := thicketlaw9_world.shut al_w_ (thicketlaw9_world.mk t_.2 w_.root0 w_.root1 w_.has0 w_.has1 w_.next w_.spent w_.most) H.t3.t3.t3.t3
    cases hm
    exact hk _ _ ⟨_, rfl, hE.sel [6] (by kernel_rfl), H.t1.t1⟩
 rintro a w ⟨s1, rfl, hE, H⟩
 replace hm := hR; dsimp only at hm
 refine Runs.sr ?_
 refine WR.seg hE 1 [] [6, 61] (Lo := [(6, .pointer (some ⟨r, 0, none⟩)), (61, .agg #[.int .i64 0, .int .i64 0, .int .i64 0])]) (obs := []) rfl (by kernel_rfl) trivial fun a hE => ?_
 refine WR.eff0 hE rfl rfl rfl (OpTo.store hE H.t1 rfl rfl rfl rfl rfl rfl (Nat.le_of_ble_eq_true rfl)) ?_
 rintro _ w H a hE
 refine WR.e0 hE [(7, .bool false)] fun a hE => ?_
 refine Runs.retO (vs := [.agg #[.int .i64 0, .int .i64 0, .int .i64 0], .bool false]) (obs := [.cell ⟨r, 0, none⟩ (.int .i64 0), .cell ⟨r, 1, none⟩ (.int .i64 0), .cell ⟨r, 2, none⟩ (.int .i64 0)]) hE Tryz.func130 rfl [.int .i64 0, .int .i64 0, .int .i64 0] (by kernel_rfl) ⟨H.cell 0 rfl rfl, H.cell 0 rfl rfl, H.cell 0 rfl rfl, trivial⟩ ?_
 cases hm
 exact ⟨rfl, H.x0⟩

theorem thicketlaw9_world_node_at1_ok {w0 w : World} {As : List HP} {k : Nat} {p_w_ : Nat} {al_w_ : thicketlaw9_world.A} {w_ : thicketlaw9_world} {n : Int} {t : thicketlaw9_held × Bool × thicketlaw9_world}  (hm : thicketlaw9_world_node_at1 k w_ n = some t) (H : St w0 (thicketlaw9_world.R p_w_ al_w_ w_ :: As) w) :
    CallsR Tryz.prog 130 #[.pointer (some ⟨p_w_, 0, none⟩), .int .i64 1, .int .i64 n] w fun v w' => v = .tuple #[.agg #[.int .i64 t.1.cell, .int .i64 t.1.e.Key, .int .i64 t.1.e.Serial], .bool t.2.1] ∧ St w0 (thicketlaw9_world.R p_w_ al_w_ t.2.2 :: As) w' := by
 rw [thicketlaw9_world_node_at1] at hm
 refine enter (args := [.pointer (some ⟨p_w_, 0, none⟩), .int .i64 1, .int .i64 n]) Tryz.func130 rfl rfl rfl fun a hE => ?_
 refine Runs.sr ?_
 refine WR.eff hE rfl rfl rfl rfl (OpTo.new hE H [] (.cells #[.int .i64 0, .int .i64 0, .int .i64 0] 64 (0, 0)) (fun r => .pointer (some ⟨r, 0, none⟩)) (obs := []) rfl (fun _ => by kernel_rfl) trivial) ?_
 rintro _ w ⟨r, rfl, H⟩ a hE
 refine WR.seg hE 2 [] [0, 1, 2, 6] (Lo := [(0, .pointer (some ⟨p_w_, 0, none⟩)), (1, .int .i64 1), (2, .int .i64 n), (6, .pointer (some ⟨r, 0, none⟩))]) (obs := []) rfl (by kernel_rfl) trivial fun a hE => ?_
 refine WR.done rfl ?_
 refine Runs.sr ?_
 replace H := thicketlaw9_world.open H.t1
 refine WR.d hE 5 [.pointer (some ⟨al_w_.a__p, 0, none⟩)] [(14, .pointer (some ⟨al_w_.a__p, 0, none⟩)), (15, .int .i64 n)] (obs := [.cell ⟨p_w_, 0, none⟩ (.pointer (some ⟨al_w_.a__p, 0, none⟩))]) ⟨H.cell 0 rfl rfl, trivial⟩ fun a hE => ?_
 obtain ⟨t_, et_, hm⟩ := bind_some hm
 refine WR.eff hE rfl rfl rfl rfl (OpTo.fn hE rfl rfl Tryz.call78 (arena_Arena_Cell_ok et_ H.t1)) ?_
 rintro _ w ⟨rfl, H⟩ a hE
 refine WR.e0 hE [(8, .int .i64 t_.1)] fun a hE => ?_
 refine Runs.seq ?_
 refine Runs.sr ?_
 refine WR.e0 hE [(9, .int .i64 0)] fun a hE => ?_
 replace H := thicketlaw9_world.shut al_w_ (thicketlaw9_world.mk t_.2 w_.root0 w_.root1 w_.has0 w_.has1 w_.next w_.spent w_.most) H.t3.t3.t2.t3
 obtain ⟨s, es, hR⟩ := bind_some hm
 refine Runs.join (fun a w => ∃ s1, s = Sum.inr s1 ∧ EnvOk 62 a [(6, .pointer (some ⟨r, 0, none⟩))] ∧ St w0 (thicketlaw9_world.R p_w_ al_w_ (thicketlaw9_world.mk t_.2 w_.root0 w_.root1 w_.has0 w_.has1 w_.next w_.spent w_.most) :: Blk r 64 [.int .i64 0, .int .i64 0, .int .i64 0] :: As) w) (fun hk => ?_) ?_
 ·replace hm := es; clear es
  refine Runs.block ?_
  refine Runs.loop (fun m a w => ∃ (k_ : Int), EnvOk 62 a [(0, .pointer (some ⟨p_w_, 0, none⟩)), (1, .int .i64 1), (2, .int .i64 n), (6, .pointer (some ⟨r, 0, none⟩)), (8, .int .i64 t_.1), (9, .int .i64 k_)] ∧ St w0 (thicketlaw9_world.R p_w_ al_w_ (thicketlaw9_world.mk t_.2 w_.root0 w_.root1 w_.has0 w_.has1 w_.next w_.spent w_.most) :: Blk r 64 [.int .i64 0, .int .i64 0, .int .i64 0] :: As) w ∧ thicketlaw9_world_node_at1_l0 n t_.1 (thicketlaw9_world.mk t_.2 w_.root0 w_.root1 w_.has0 w_.has1 w_.next w_.spent w_.most) m k_ = some s) k ⟨0, hE.sel [0, 1, 2, 6, 8, 9] (by kernel_rfl), H.t1.t1, hm⟩ ?_
  rintro m ih a w ⟨k_, hE, H, hm⟩
  cases m with
  | zero => simp [thicketlaw9_world_node_at1_l0] at hm
  | succ m =>
   rw [thicketlaw9_world_node_at1_l0] at hm
   refine Runs.seq ?_
   refine Runs.sr ?_
   replace H := thicketlaw9_world.open H
   try dsimp only at H
   refine WR.seg hE 9 [.slice al_w_.has1_b w_.has1.length al_w_.has1_c] [0, 1, 2, 6, 8, 9, 25] (Lo := [(0, .pointer (some ⟨p_w_, 0, none⟩)), (1, .int .i64 1), (2, .int .i64 n), (6, .pointer (some ⟨r, 0, none⟩)), (8, .int .i64 t_.1), (9, .int .i64 k_), (25, .bool (decide (k_ < (w_.has1.length : Int))))]) (obs := [.p (0 ≤ (1 : Int) ∧ (1 : Int) < ((2 : Nat) : Int)), .cell ⟨p_w_, 4, none⟩ (.slice al_w_.has1_b w_.has1.length al_w_.has1_c)]) rfl (by kernel_rfl) ⟨⟨by decide, by decide⟩, H.cell 0 rfl rfl, trivial⟩ fun a hE => ?_
   refine WR.done rfl ?_
   refine Runs.cond hE rfl (fun c => ?_) (fun c => ?_)
   ·replace hm := cond_t c hm
    refine Runs.skip ?_
    refine Runs.seq ?_
    refine Runs.block ?_
    refine Runs.sr ?_
    obtain ⟨x, ex, hm⟩ := bind_some hm
    obtain ⟨b, o, hs, hb⟩ := SlRd.base (sl_rd 64 thicketlaw9_held.enc 3 _ _ _) thicketlaw9_held.enc_ok H 3 rfl ex
    refine WR.d hE 9 [.slice al_w_.has1_b w_.has1.length al_w_.has1_c, .pointer (some ⟨b, o, none⟩), .int .i64 x.cell, .int .i64 x.e.Key, .int .i64 x.e.Serial] [(36, .agg #[.int .i64 x.cell, .int .i64 x.e.Key, .int .i64 x.e.Serial])] (obs := [.p (0 ≤ (1 : Int) ∧ (1 : Int) < ((2 : Nat) : Int)), .cell ⟨p_w_, 4, none⟩ (.slice al_w_.has1_b w_.has1.length al_w_.has1_c), .p ((al_w_.has1_b : Option Addr) = some ⟨b, o, none⟩), .p (0 ≤ (k_ : Int) ∧ (k_ : Int) < ((w_.has1.length : Nat) : Int)), .cell ⟨b, o + (Int.toNat k_) * 3, none⟩ (.int .i64 x.cell), .cell ⟨b, o + (Int.toNat k_) * 3 + 1, none⟩ (.int .i64 x.e.Key), .cell ⟨b, o + (Int.toNat k_) * 3 + 2, none⟩ (.int .i64 x.e.Serial)]) ⟨⟨by decide, by decide⟩, H.cell 0 rfl rfl, hs, hb, SlRd.cells (sl_rd 64 thicketlaw9_held.enc 3 _ _ _) thicketlaw9_held.enc_ok H 3 rfl hs ex 0 _ rfl, SlRd.cells (sl_rd 64 thicketlaw9_held.enc 3 _ _ _) thicketlaw9_held.enc_ok H 3 rfl hs ex 1 _ rfl, SlRd.cells (sl_rd 64 thicketlaw9_held.enc 3 _ _ _) thicketlaw9_held.enc_ok H 3 rfl hs ex 2 _ rfl, trivial⟩ fun a hE => ?_
    refine WR.eff hE rfl rfl rfl rfl (OpTo.new hE H [] (.cells #[.int .i64 0, .int .i64 0, .int .i64 0] 64 (0, 0)) (fun r => .pointer (some ⟨r, 0, none⟩)) (obs := []) rfl (fun _ => by kernel_rfl) trivial) ?_
    rintro _ w ⟨r1, rfl, H⟩ a hE
    refine WR.eff0 hE rfl rfl rfl (OpTo.store hE H rfl rfl rfl rfl rfl rfl (Nat.le_of_ble_eq_true rfl)) ?_
    rintro _ w H a hE
    refine WR.done rfl ?_
    refine Runs.sr ?_
    refine WR.e hE [.int .i64 x.cell] [(40, .bool (x.cell == t_.1))] (obs := [.cell ⟨r1, 0, none⟩ (.int .i64 x.cell)]) ⟨H.cell 0 rfl rfl, trivial⟩ fun a hE => ?_
    refine Runs.cond hE rfl (fun c => ?_) (fun c => ?_)
    ·replace hm := cond_t c hm
     refine Runs.seq ?_
     replace H := thicketlaw9_world.shut al_w_ (thicketlaw9_world.mk t_.2 w_.root0 w_.root1 w_.has0 w_.has1 w_.next w_.spent w_.most) H.t4.t4.t4.t4
     obtain ⟨s2, es2, hm⟩ := bind_some hm
     refine Runs.join (fun a w => EnvOk 62 a [(6, .pointer (some ⟨r, 0, none⟩)), (7, .bool s2.1)] ∧ St w0 (thicketlaw9_world.R p_w_ al_w_ s2.2.1 :: Blk r 64 [.int .i64 s2.2.2.1, .int .i64 s2.2.2.2.1, .int .i64 s2.2.2.2.2] :: As) w) (fun hk => ?_) ?_
     ·replace hm := es2; clear es2
      refine Runs.drawn mixed (by kernel_rfl) ?_
      replace H := H.drew
      replace H := thicketlaw9_world.open H
      try dsimp only at H
      refine WQ.d hE [0, 1, 2, 3, 4, 5, 7] [.int .i64 x.cell, .int .i64 x.e.Key, .int .i64 x.e.Serial, .pointer (some ⟨al_w_.a__p, 0, none⟩)] [(41, .agg #[.int .i64 x.cell, .int .i64 x.e.Key, .int .i64 x.e.Serial]), (45, .pointer (some ⟨al_w_.a__p, 0, none⟩)), (46, .int .i64 t_.1), (48, .int .i64 n)] (obs := [.cell ⟨r1, 0, none⟩ (.int .i64 x.cell), .cell ⟨r1, 1, none⟩ (.int .i64 x.e.Key), .cell ⟨r1, 2, none⟩ (.int .i64 x.e.Serial), .cell ⟨p_w_, 0, none⟩ (.pointer (some ⟨al_w_.a__p, 0, none⟩))]) ⟨H.cell 4 rfl rfl, H.cell 4 rfl rfl, H.cell 4 rfl rfl, H.cell 0 rfl rfl, trivial⟩ fun a hE => ?_
      obtain ⟨t_1, et_1, hm⟩ := bind_some hm
      refine WQ.eff (j := 6) (obs := [.cell ⟨r1, 0, none⟩ (.int .i64 x.cell), .cell ⟨r1, 1, none⟩ (.int .i64 x.e.Key), .cell ⟨r1, 2, none⟩ (.int .i64 x.e.Serial)]) hE (by kernel_rfl) rfl rfl rfl rfl (by kernel_rfl) (OpTo.fn hE rfl rfl Tryz.call78 (arena_Arena_Cell_ok et_1 H.t1)) ?_
      rintro _ w ⟨rfl, H⟩
      refine ⟨⟨H.cell 4 rfl rfl, H.cell 4 rfl rfl, H.cell 4 rfl rfl, trivial⟩, fun a hE => ?_⟩
      refine WQ.d0 hE [8, 9] [(50, .bool (t_1.1 == n))] fun a hE => ?_
      rcases Bool.eq_false_or_eq_true (t_1.1 == n) with c | c
      ·replace hE := hE.dec 50 c (by kernel_rfl)
       replace hm := cond_t c hm
       have c_ := c
       refine WQ.d hE [10, 11, 12, 13, 14, 16, 17] [.pointer (some ⟨al_w_.a__p, 0, none⟩), .int .i64 x.e.Key, .int .i64 x.e.Serial] [(50, .bool true), (54, .pointer (some ⟨al_w_.a__p, 0, none⟩)), (55, .int .i64 t_.1), (58, .agg #[.int .i64 x.e.Key, .int .i64 x.e.Serial])] (obs := [.cell ⟨p_w_, 0, none⟩ (.pointer (some ⟨al_w_.a__p, 0, none⟩)), .cell ⟨r1, 1, none⟩ (.int .i64 x.e.Key), .cell ⟨r1, 2, none⟩ (.int .i64 x.e.Serial)]) ⟨H.cell 1 rfl rfl, H.cell 4 rfl rfl, H.cell 4 rfl rfl, trivial⟩ fun a hE => ?_
       obtain ⟨t_2, et_2, hm⟩ := bind_some hm
       refine WQ.eff (j := 15) (obs := [.cell ⟨r1, 1, none⟩ (.int .i64 x.e.Key), .cell ⟨r1, 2, none⟩ (.int .i64 x.e.Serial), .cell ⟨r1, 0, none⟩ (.int .i64 x.cell), .cell ⟨r1, 1, none⟩ (.int .i64 x.e.Key), .cell ⟨r1, 2, none⟩ (.int .i64 x.e.Serial)]) hE (by kernel_rfl) rfl rfl rfl rfl (by kernel_rfl) (OpTo.fn hE rfl rfl Tryz.call25 (item_Entry_ok et_2 H)) ?_
       rintro _ w ⟨rfl, hf1, hf, H⟩
       refine ⟨⟨H.cell 4 rfl rfl, H.cell 4 rfl rfl, H.cell 4 rfl rfl, H.cell 4 rfl rfl, H.cell 4 rfl rfl, trivial⟩, fun a hE => ?_⟩
       refine WQ.act2 18 20 (by kernel_rfl) ?_ ?_
       ·refine AQ.eff (j := 18) (obs := [.cell ⟨r1, 0, none⟩ (.int .i64 x.cell), .cell ⟨r1, 1, none⟩ (.int .i64 x.e.Key), .cell ⟨r1, 2, none⟩ (.int .i64 x.e.Serial)]) hE rfl rfl rfl rfl (by kernel_rfl) (OpTo.eqS hE rfl rfl rfl (by kernel_rfl) (api_Entry.eq_run t_2.1 x.e)) ?_
        rintro _ _ ⟨rfl, rfl⟩
        refine ⟨⟨H.cell 4 rfl rfl, H.cell 4 rfl rfl, H.cell 4 rfl rfl, trivial⟩, fun a hE => ?_⟩
        refine WQ.d0 hE [19] [(60, .bool (api_Entry.eq t_2.1 x.e))] fun a hE => ?_
        refine WQ.eff0 (j := 20) (obs := []) hE (by kernel_rfl) rfl rfl rfl (by kernel_rfl) (OpTo.store hE H.t5 rfl rfl rfl rfl rfl rfl (Nat.le_of_ble_eq_true rfl)) ?_
        rintro _ w H
        refine ⟨trivial, fun a hE => ?_⟩
        refine WQ.d0 hE [21] [(7, .bool (api_Entry.eq t_2.1 x.e))] fun a hE => ?_
        refine WQ.done (by kernel_rfl) ?_
        replace H := thicketlaw9_world.shut al_w_ (thicketlaw9_world.mk t_2.2 w_.root0 w_.root1 w_.has0 w_.has1 w_.next w_.spent w_.most) H.t4.t4.t3.t4
        cases hm
        exact hk _ _ ⟨hE.sel [6, 7] (by kernel_rfl), H.x2.t1.t1⟩
       ·refine AQ.eff0 (j := 20) (obs := [.cell ⟨r1, 1, none⟩ (.int .i64 x.e.Key), .cell ⟨r1, 2, none⟩ (.int .i64 x.e.Serial)]) hE rfl rfl rfl (by kernel_rfl) (OpTo.store hE H.t5 rfl rfl rfl rfl rfl rfl (Nat.le_of_ble_eq_true rfl)) ?_
        rintro _ w H
        refine ⟨⟨H.cell 5 rfl rfl, H.cell 5 rfl rfl, trivial⟩, fun a hE => ?_⟩
        refine WQ.eff (j := 18) (obs := []) hE (by kernel_rfl) rfl rfl rfl rfl (by kernel_rfl) (OpTo.eqS hE rfl rfl rfl (by kernel_rfl) (api_Entry.eq_run t_2.1 x.e)) ?_
        rintro _ _ ⟨rfl, rfl⟩
        refine ⟨trivial, fun a hE => ?_⟩
        refine WQ.d0 hE [19, 21] [(7, .bool (api_Entry.eq t_2.1 x.e))] fun a hE => ?_
        refine WQ.done (by kernel_rfl) ?_
        replace H := thicketlaw9_world.shut al_w_ (thicketlaw9_world.mk t_2.2 w_.root0 w_.root1 w_.has0 w_.has1 w_.next w_.spent w_.most) H.t4.t4.t3.t4
        cases hm
        exact hk _ _ ⟨hE.sel [6, 7] (by kernel_rfl), H.x2.t1.t1⟩
      ·replace hE := hE.dec 50 c (by kernel_rfl)
       replace hm := cond_f c hm
       have c_1 := c
       refine WQ.d0 hE [10, 11, 12, 13, 14, 15, 16, 17, 18, 19] [(60, .bool false)] fun a hE => ?_
       refine WQ.eff0 (j := 20) (obs := []) hE (by kernel_rfl) rfl rfl rfl (by kernel_rfl) (OpTo.store hE H.t5 rfl rfl rfl rfl rfl rfl (Nat.le_of_ble_eq_true rfl)) ?_
       rintro _ w H
       refine ⟨trivial, fun a hE => ?_⟩
       refine WQ.d0 hE [21] [(7, .bool false)] fun a hE => ?_
       refine WQ.done (by kernel_rfl) ?_
       replace H := thicketlaw9_world.shut al_w_ (thicketlaw9_world.mk t_1.2 w_.root0 w_.root1 w_.has0 w_.has1 w_.next w_.spent w_.most) H.t4.t4.t3.t4
       cases hm
       exact hk _ _ ⟨hE.sel [6, 7] (by kernel_rfl), H.x2.t1.t1⟩
     rintro a w ⟨hE, H⟩
     refine Runs.retO (vs := [.agg #[.int .i64 s2.2.2.1, .int .i64 s2.2.2.2.1, .int .i64 s2.2.2.2.2], .bool s2.1]) (obs := [.cell ⟨r, 0, none⟩ (.int .i64 s2.2.2.1), .cell ⟨r, 1, none⟩ (.int .i64 s2.2.2.2.1), .cell ⟨r, 2, none⟩ (.int .i64 s2.2.2.2.2)]) hE Tryz.func130 rfl [.int .i64 s2.2.2.1, .int .i64 s2.2.2.2.1, .int .i64 s2.2.2.2.2] (by kernel_rfl) ⟨H.cell 1 rfl rfl, H.cell 1 rfl rfl, H.cell 1 rfl rfl, trivial⟩ ?_
     cases hm
     dsimp only at hR; cases hR
     exact ⟨rfl, H.x1⟩
    ·replace hm := cond_f c hm
     refine Runs.skip ?_
     refine Runs.inBlock ?_
     refine Runs.region ?_
     refine WR.e0 hE [(9, .int .i64 (w64 (k_ + 1)))] fun a hE => ?_
     replace H := thicketlaw9_world.shut al_w_ (thicketlaw9_world.mk t_.2 w_.root0 w_.root1 w_.has0 w_.has1 w_.next w_.spent w_.most) H.t4.t4.t4.t4
     exact ih m (Nat.lt_succ_self m) _ _ ⟨w64 (k_ + 1), hE.sel [0, 1, 2, 6, 8, 9] (by kernel_rfl), H.x1.t1.t1, hm⟩
   ·replace hm := cond_f c hm
    refine Runs.exit rfl ?_
    replace H := thicketlaw9_world.shut al_w_ (thicketlaw9_world.mk t_.2 w_.root0 w_.root1 w_.has0 w_.has1 w_.next w_.spent w_.most) H.t3.t3.t3.t3
    cases hm
    exact hk _ _ ⟨_, rfl, hE.sel [6] (by kernel_rfl), H.t1.t1⟩
 rintro a w ⟨s1, rfl, hE, H⟩
 replace hm := hR; dsimp only at hm
 refine Runs.sr ?_
 refine WR.seg hE 1 [] [6, 61] (Lo := [(6, .pointer (some ⟨r, 0, none⟩)), (61, .agg #[.int .i64 0, .int .i64 0, .int .i64 0])]) (obs := []) rfl (by kernel_rfl) trivial fun a hE => ?_
 refine WR.eff0 hE rfl rfl rfl (OpTo.store hE H.t1 rfl rfl rfl rfl rfl rfl (Nat.le_of_ble_eq_true rfl)) ?_
 rintro _ w H a hE
 refine WR.e0 hE [(7, .bool false)] fun a hE => ?_
 refine Runs.retO (vs := [.agg #[.int .i64 0, .int .i64 0, .int .i64 0], .bool false]) (obs := [.cell ⟨r, 0, none⟩ (.int .i64 0), .cell ⟨r, 1, none⟩ (.int .i64 0), .cell ⟨r, 2, none⟩ (.int .i64 0)]) hE Tryz.func130 rfl [.int .i64 0, .int .i64 0, .int .i64 0] (by kernel_rfl) ⟨H.cell 0 rfl rfl, H.cell 0 rfl rfl, H.cell 0 rfl rfl, trivial⟩ ?_
 cases hm
 exact ⟨rfl, H.x0⟩

theorem thicketlaw9_world_node_ok {w0 w : World} {As : List HP} {k : Nat} {p_w_ : Nat} {al_w_ : thicketlaw9_world.A} {w_ : thicketlaw9_world} {n : Int} {h_ : Int} {t : thicketlaw9_held × Bool × thicketlaw9_world}  (hm : thicketlaw9_world_node k w_ h_ n = some t) (H : St w0 (thicketlaw9_world.R p_w_ al_w_ w_ :: As) w) :
    CallsR Tryz.prog 130 #[.pointer (some ⟨p_w_, 0, none⟩), .int .i64 h_, .int .i64 n] w fun v w' => v = .tuple #[.agg #[.int .i64 t.1.cell, .int .i64 t.1.e.Key, .int .i64 t.1.e.Serial], .bool t.2.1] ∧ St w0 (thicketlaw9_world.R p_w_ al_w_ t.2.2 :: As) w' := by
  rw [thicketlaw9_world_node] at hm
  by_cases h0 : h_ = 0
  · subst h0; simp only [if_pos] at hm
    refine (thicketlaw9_world_node_at0_ok hm H).mono ?_
    rintro v w' ⟨hv, H⟩; exact ⟨hv, H⟩
  rw [if_neg h0] at hm
  by_cases h1 : h_ = 1
  · subst h1; simp only [if_pos] at hm
    refine (thicketlaw9_world_node_at1_ok hm H).mono ?_
    rintro v w' ⟨hv, H⟩; exact ⟨hv, H⟩
  rw [if_neg h1] at hm
  cases hm

theorem thicketlaw9_world_tree_ok {w0 : World} {k : Nat} : ∀ {w : World} {As : List HP} {p_w_ : Nat} {al_w_ : thicketlaw9_world.A} {w_ : thicketlaw9_world} {h_ : Int} {n : Int} {rank : Int} {up : Int} {above : thicketlaw9_held} {top : Bool} {t : Bool × thicketlaw9_world}  (hm : thicketlaw9_world_tree k w_ h_ n rank up above top = some t) (H : St w0 (thicketlaw9_world.R p_w_ al_w_ w_ :: As) w),
    CallsR Tryz.prog 113 #[.pointer (some ⟨p_w_, 0, none⟩), .int .i64 h_, .int .i64 n, .int .i64 rank, .int .i64 up, .agg #[.int .i64 above.cell, .int .i64 above.e.Key, .int .i64 above.e.Serial], .bool top] w fun v w' => v = .bool t.1 ∧ St w0 (thicketlaw9_world.R p_w_ al_w_ t.2 :: As) w' := by
 induction k with
 | zero => intro w As p_w_ al_w_ w_ h_ n rank up above top t hm H; simp [thicketlaw9_world_tree] at hm
 | succ k ihf =>
  intro w As p_w_ al_w_ w_ h_ n rank up above top t hm H
  rw [thicketlaw9_world_tree] at hm
  refine enter (args := [.pointer (some ⟨p_w_, 0, none⟩), .int .i64 h_, .int .i64 n, .int .i64 rank, .int .i64 up, .agg #[.int .i64 above.cell, .int .i64 above.e.Key, .int .i64 above.e.Serial], .bool top]) Tryz.func113 rfl rfl rfl fun a hE => ?_
  refine Runs.sr ?_
  refine WR.eff hE rfl rfl rfl rfl (OpTo.new hE H [] (.cells #[.int .i64 above.cell, .int .i64 above.e.Key, .int .i64 above.e.Serial] 64 (0, 0)) (fun r => .pointer (some ⟨r, 0, none⟩)) (obs := []) rfl (fun _ => by kernel_rfl) trivial) ?_
  rintro _ w ⟨r, rfl, H⟩ a hE
  refine WR.seg hE 2 [] [0, 1, 2, 3, 4, 6, 12] (Lo := [(0, .pointer (some ⟨p_w_, 0, none⟩)), (1, .int .i64 h_), (2, .int .i64 n), (3, .int .i64 rank), (4, .int .i64 up), (6, .bool top), (12, .pointer (some ⟨r, 0, none⟩))]) (obs := []) rfl (by kernel_rfl) trivial fun a hE => ?_
  refine WR.done rfl ?_
  refine Runs.sr ?_
  refine WR.d0 hE 3 [(20, .pointer (some ⟨p_w_, 0, none⟩)), (21, .int .i64 h_), (22, .int .i64 n)] fun a hE => ?_
  obtain ⟨t_, et_, hm⟩ := bind_some hm
  refine WR.eff hE rfl rfl rfl rfl (OpTo.fn hE rfl rfl Tryz.call130 (thicketlaw9_world_node_ok et_ H.t1)) ?_
  rintro _ w ⟨rfl, H⟩ a hE
  refine WR.d0 hE 7 [(24, .agg #[.int .i64 t_.1.cell, .int .i64 t_.1.e.Key, .int .i64 t_.1.e.Serial]), (25, .bool t_.2.1)] fun a hE => ?_
  refine WR.eff hE rfl rfl rfl rfl (OpTo.new hE H [] (.cells #[.int .i64 0, .int .i64 0, .int .i64 0] 64 (0, 0)) (fun r => .pointer (some ⟨r, 0, none⟩)) (obs := []) rfl (fun _ => by kernel_rfl) trivial) ?_
  rintro _ w ⟨r1, rfl, H⟩ a hE
  refine WR.eff0 hE rfl rfl rfl (OpTo.store hE H rfl rfl rfl rfl rfl rfl (Nat.le_of_ble_eq_true rfl)) ?_
  rintro _ w H a hE
  refine WR.e0 hE [(16, .bool t_.2.1)] fun a hE => ?_
  refine Runs.seq ?_
  refine Runs.seq ?_
  obtain ⟨s, es, hm⟩ := bind_some hm
  refine Runs.join (fun a w => EnvOk 98 a [(0, .pointer (some ⟨p_w_, 0, none⟩)), (1, .int .i64 h_), (2, .int .i64 n), (3, .int .i64 rank), (15, .pointer (some ⟨r1, 0, none⟩)), (65, .bool s.1)] ∧ St w0 (Blk r1 64 [.int .i64 t_.1.cell, .int .i64 t_.1.e.Key, .int .i64 t_.1.e.Serial] :: thicketlaw9_world.R p_w_ al_w_ s.2 :: As) w) (fun hk => ?_) ?_
  ·replace hm := es; clear es
   refine Runs.region ?_
   refine WR.d0 hE 3 [(28, .bool (!t_.2.1))] fun a hE => ?_
   rcases Bool.eq_false_or_eq_true (!t_.2.1) with c | c
   ·replace hE := hE.dec 28 c (by kernel_rfl)
    replace hm := cond_t c hm
    have c_ := c
    refine WR.e0 hE [(65, .bool true)] fun a hE => ?_
    cases hm
    exact hk _ _ ⟨hE.sel [0, 1, 2, 3, 15, 65] (by kernel_rfl), H.x2.t1.t1⟩
   ·replace hE := hE.dec 28 c (by kernel_rfl)
    replace hm := cond_f c hm
    have c_1 := c
    replace H := thicketlaw9_world.open H.t1
    refine WR.d hE 8 [.pointer (some ⟨al_w_.a__p, 0, none⟩)] [(28, .bool false), (32, .pointer (some ⟨al_w_.a__p, 0, none⟩)), (33, .int .i64 n)] (obs := [.cell ⟨p_w_, 0, none⟩ (.pointer (some ⟨al_w_.a__p, 0, none⟩))]) ⟨H.cell 0 rfl rfl, trivial⟩ fun a hE => ?_
    obtain ⟨t_1, et_1, hm⟩ := bind_some hm
    refine WR.eff hE rfl rfl rfl rfl (OpTo.fn hE rfl rfl Tryz.call65 (arena_Arena_Get_ok et_1 H.t1)) ?_
    rintro _ w ⟨rfl, hf1, hf, H⟩ a hE
    refine WR.d0 hE 13 [(38, .bool (t_1.1 != rank))] fun a hE => ?_
    rcases Bool.eq_false_or_eq_true (t_1.1 != rank) with c | c
    ·replace hE := hE.dec 38 c (by kernel_rfl)
     replace hm := cond_t c hm
     have c_2 := c
     refine WR.e0 hE [(65, .bool true)] fun a hE => ?_
     replace H := thicketlaw9_world.shut al_w_ (thicketlaw9_world.mk t_1.2 t_.2.2.root0 t_.2.2.root1 t_.2.2.has0 t_.2.2.has1 t_.2.2.next t_.2.2.spent t_.2.2.most) H.t3.t3.t2.t3
     cases hm
     exact hk _ _ ⟨hE.sel [0, 1, 2, 3, 15, 65] (by kernel_rfl), H.x2.t1⟩
    ·replace hE := hE.dec 38 c (by kernel_rfl)
     replace hm := cond_f c hm
     have c_3 := c
     refine WR.d hE 18 [.pointer (some ⟨al_w_.a__p, 0, none⟩)] [(38, .bool false), (42, .pointer (some ⟨al_w_.a__p, 0, none⟩)), (43, .int .i64 n)] (obs := [.cell ⟨p_w_, 0, none⟩ (.pointer (some ⟨al_w_.a__p, 0, none⟩))]) ⟨H.cell 1 rfl rfl, trivial⟩ fun a hE => ?_
     obtain ⟨t_2, et_2, hm⟩ := bind_some hm
     refine WR.eff hE rfl rfl rfl rfl (OpTo.fn hE rfl rfl Tryz.call78 (arena_Arena_Cell_ok et_2 H)) ?_
     rintro _ w ⟨rfl, H⟩ a hE
     refine WR.d0 hE 23 [(48, .bool (t_2.1 != up))] fun a hE => ?_
     rcases Bool.eq_false_or_eq_true (t_2.1 != up) with c | c
     ·replace hE := hE.dec 48 c (by kernel_rfl)
      replace hm := cond_t c hm
      have c_4 := c
      refine WR.e0 hE [(65, .bool true)] fun a hE => ?_
      replace H := thicketlaw9_world.shut al_w_ (thicketlaw9_world.mk t_2.2 t_.2.2.root0 t_.2.2.root1 t_.2.2.has0 t_.2.2.has1 t_.2.2.next t_.2.2.spent t_.2.2.most) H.t3.t3.t2.t3
      cases hm
      exact hk _ _ ⟨hE.sel [0, 1, 2, 3, 15, 65] (by kernel_rfl), H.x2.t1⟩
     ·replace hE := hE.dec 48 c (by kernel_rfl)
      replace hm := cond_f c hm
      have c_5 := c
      refine WR.d hE 28 [.pointer (some ⟨al_w_.a__p, 0, none⟩)] [(48, .bool false), (52, .pointer (some ⟨al_w_.a__p, 0, none⟩)), (53, .int .i64 n)] (obs := [.cell ⟨p_w_, 0, none⟩ (.pointer (some ⟨al_w_.a__p, 0, none⟩))]) ⟨H.cell 1 rfl rfl, trivial⟩ fun a hE => ?_
      obtain ⟨t_3, et_3, hm⟩ := bind_some hm
      refine WR.eff hE rfl rfl rfl rfl (OpTo.fn hE rfl rfl Tryz.call78 (arena_Arena_Cell_ok et_3 H)) ?_
      rintro _ w ⟨rfl, H⟩ a hE
      refine WR.d0 hE 32 [(57, .bool (t_3.1 != (-1)))] fun a hE => ?_
      rcases Bool.eq_false_or_eq_true (t_3.1 != (-1)) with c | c
      ·replace hE := hE.dec 57 c (by kernel_rfl)
       replace hm := cond_t c hm
       have c_6 := c
       refine WR.e0 hE [(65, .bool true)] fun a hE => ?_
       replace H := thicketlaw9_world.shut al_w_ (thicketlaw9_world.mk t_3.2 t_.2.2.root0 t_.2.2.root1 t_.2.2.has0 t_.2.2.has1 t_.2.2.next t_.2.2.spent t_.2.2.most) H.t3.t3.t2.t3
       cases hm
       exact hk _ _ ⟨hE.sel [0, 1, 2, 3, 15, 65] (by kernel_rfl), H.x2.t1⟩
      ·replace hE := hE.dec 57 c (by kernel_rfl)
       replace hm := cond_f c hm
       have c_7 := c
       refine WR.d0 hE 35 [(57, .bool false), (60, .bool (!top))] fun a hE => ?_
       rcases Bool.eq_false_or_eq_true (!top) with c | c
       ·replace hE := hE.dec 60 c (by kernel_rfl)
        replace hm := cond_t c hm
        have c_8 := c
        refine WR.d hE 37 [.int .i64 t_.1.cell, .int .i64 t_.1.e.Key, .int .i64 t_.1.e.Serial, .int .i64 above.cell, .int .i64 above.e.Key, .int .i64 above.e.Serial] [(60, .bool true), (61, .agg #[.int .i64 t_.1.cell, .int .i64 t_.1.e.Key, .int .i64 t_.1.e.Serial]), (62, .agg #[.int .i64 above.cell, .int .i64 above.e.Key, .int .i64 above.e.Serial])] (obs := [.cell ⟨r1, 0, none⟩ (.int .i64 t_.1.cell), .cell ⟨r1, 1, none⟩ (.int .i64 t_.1.e.Key), .cell ⟨r1, 2, none⟩ (.int .i64 t_.1.e.Serial), .cell ⟨r, 0, none⟩ (.int .i64 above.cell), .cell ⟨r, 1, none⟩ (.int .i64 above.e.Key), .cell ⟨r, 2, none⟩ (.int .i64 above.e.Serial)]) ⟨H.cell 4 rfl rfl, H.cell 4 rfl rfl, H.cell 4 rfl rfl, H.cell 5 rfl rfl, H.cell 5 rfl rfl, H.cell 5 rfl rfl, trivial⟩ fun a hE => ?_
        obtain ⟨t_4, et_4, hm⟩ := bind_some hm
        refine WR.eff hE rfl rfl rfl rfl (OpTo.fn hE rfl rfl Tryz.call110 (thicketlaw9_before_ok et_4 H)) ?_
        rintro _ w ⟨rfl, H⟩ a hE
        refine WR.e0 hE [(65, .bool t_4)] fun a hE => ?_
        replace H := thicketlaw9_world.shut al_w_ (thicketlaw9_world.mk t_3.2 t_.2.2.root0 t_.2.2.root1 t_.2.2.has0 t_.2.2.has1 t_.2.2.next t_.2.2.spent t_.2.2.most) H.t3.t3.t2.t3
        cases hm
        exact hk _ _ ⟨hE.sel [0, 1, 2, 3, 15, 65] (by kernel_rfl), H.x2.t1⟩
       ·replace hE := hE.dec 60 c (by kernel_rfl)
        replace hm := cond_f c hm
        have c_9 := c
        refine WR.e0 hE [(65, .bool false)] fun a hE => ?_
        replace H := thicketlaw9_world.shut al_w_ (thicketlaw9_world.mk t_3.2 t_.2.2.root0 t_.2.2.root1 t_.2.2.has0 t_.2.2.has1 t_.2.2.next t_.2.2.spent t_.2.2.most) H.t3.t3.t2.t3
        cases hm
        exact hk _ _ ⟨hE.sel [0, 1, 2, 3, 15, 65] (by kernel_rfl), H.x2.t1⟩
  rintro a w ⟨hE, H⟩
  refine Runs.cond hE rfl (fun c => ?_) (fun c => ?_)
  ·replace hm := cond_t c hm
   refine Runs.sr ?_
   refine WR.seg hE 1 [] [14] (Lo := [(14, .bool false)]) (obs := []) rfl (by kernel_rfl) trivial fun a hE => ?_
   refine WR.done rfl ?_
   refine Runs.ret hE Tryz.func113 rfl rfl ?_
   cases hm
   exact ⟨rfl, H.x0⟩
  ·replace hm := cond_f c hm
   refine Runs.skip ?_
   refine Runs.sr ?_
   replace H := thicketlaw9_world.open H.t1
   refine WR.seg hE 5 [.pointer (some ⟨al_w_.a__p, 0, none⟩)] [0, 1, 2, 3, 15, 69, 70] (Lo := [(0, .pointer (some ⟨p_w_, 0, none⟩)), (1, .int .i64 h_), (2, .int .i64 n), (3, .int .i64 rank), (15, .pointer (some ⟨r1, 0, none⟩)), (69, .pointer (some ⟨al_w_.a__p, 0, none⟩)), (70, .int .i64 n)]) (obs := [.cell ⟨p_w_, 0, none⟩ (.pointer (some ⟨al_w_.a__p, 0, none⟩))]) rfl (by kernel_rfl) ⟨H.cell 0 rfl rfl, trivial⟩ fun a hE => ?_
   obtain ⟨t_5, et_5, hm⟩ := bind_some hm
   refine WR.eff hE rfl rfl rfl rfl (OpTo.fn hE rfl rfl Tryz.call78 (arena_Arena_Cell_ok et_5 H.t1)) ?_
   rintro _ w ⟨rfl, H⟩ a hE
   refine WR.e0 hE [(17, .int .i64 t_5.1)] fun a hE => ?_
   refine Runs.seq ?_
   refine Runs.sr ?_
   refine WR.e0 hE [(18, .int .i64 (w64 (rank - 1)))] fun a hE => ?_
   replace H := thicketlaw9_world.shut al_w_ (thicketlaw9_world.mk t_5.2 s.2.root0 s.2.root1 s.2.has0 s.2.has1 s.2.next s.2.spent s.2.most) H.t3.t3.t2.t3
   obtain ⟨s1, es1, hR⟩ := bind_some hm
   refine Runs.join (fun a w => ∃ s2, s1 = Sum.inr s2 ∧ EnvOk 98 a [(17, .int .i64 s2.1)] ∧ St w0 (thicketlaw9_world.R p_w_ al_w_ s2.2 :: As) w) (fun hk => ?_) ?_
   ·replace hm := es1; clear es1
    refine Runs.block ?_
    refine Runs.loop (fun m a w => ∃ (c_10 : Int), ∃ (k_ : Int), ∃ (m_ : thicketlaw9_world), EnvOk 98 a [(0, .pointer (some ⟨p_w_, 0, none⟩)), (1, .int .i64 h_), (2, .int .i64 n), (15, .pointer (some ⟨r1, 0, none⟩)), (17, .int .i64 c_10), (18, .int .i64 k_)] ∧ St w0 (thicketlaw9_world.R p_w_ al_w_ m_ :: Blk r1 64 [.int .i64 t_.1.cell, .int .i64 t_.1.e.Key, .int .i64 t_.1.e.Serial] :: As) w ∧ thicketlaw9_world_tree_l0 (thicketlaw9_world_tree k) h_ n t_.1.cell t_.1.e.Key t_.1.e.Serial m c_10 k_ m_ = some s1) k ⟨t_5.1, w64 (rank - 1), thicketlaw9_world.mk t_5.2 s.2.root0 s.2.root1 s.2.has0 s.2.has1 s.2.next s.2.spent s.2.most, hE.sel [0, 1, 2, 15, 17, 18] (by kernel_rfl), H.t1.t1, hm⟩ ?_
    rintro m ih a w ⟨c_10, k_, m_, hE, H, hm⟩
    cases m with
    | zero => simp [thicketlaw9_world_tree_l0] at hm
    | succ m =>
     rw [thicketlaw9_world_tree_l0] at hm
     refine Runs.seq ?_
     refine Runs.sr ?_
     refine WR.seg hE 2 [] [0, 1, 2, 15, 17, 18, 75] (Lo := [(0, .pointer (some ⟨p_w_, 0, none⟩)), (1, .int .i64 h_), (2, .int .i64 n), (15, .pointer (some ⟨r1, 0, none⟩)), (17, .int .i64 c_10), (18, .int .i64 k_), (75, .bool (decide (k_ ≥ 0)))]) (obs := []) rfl (by kernel_rfl) trivial fun a hE => ?_
     refine WR.done rfl ?_
     refine Runs.cond hE rfl (fun c => ?_) (fun c => ?_)
     ·replace hm := cond_t c hm
      refine Runs.skip ?_
      refine Runs.seq ?_
      refine Runs.block ?_
      refine Runs.seq ?_
      refine Runs.seq ?_
      obtain ⟨s3, es3, hm⟩ := bind_some hm
      refine Runs.join (fun a w => EnvOk 98 a [(0, .pointer (some ⟨p_w_, 0, none⟩)), (1, .int .i64 h_), (2, .int .i64 n), (15, .pointer (some ⟨r1, 0, none⟩)), (17, .int .i64 c_10), (18, .int .i64 k_), (89, .bool s3.1)] ∧ St w0 (thicketlaw9_world.R p_w_ al_w_ s3.2 :: Blk r1 64 [.int .i64 t_.1.cell, .int .i64 t_.1.e.Key, .int .i64 t_.1.e.Serial] :: As) w) (fun hk => ?_) ?_
      ·replace hm := es3; clear es3
       refine Runs.region ?_
       refine WR.d0 hE 3 [(80, .bool (c_10 == (-1)))] fun a hE => ?_
       rcases Bool.eq_false_or_eq_true (c_10 == (-1)) with c | c
       ·replace hE := hE.dec 80 c (by kernel_rfl)
        replace hm := cond_t c hm
        have c_11 := c
        refine WR.e0 hE [(89, .bool true)] fun a hE => ?_
        cases hm
        exact hk _ _ ⟨hE.sel [0, 1, 2, 15, 17, 18, 89] (by kernel_rfl), H.t1.t1⟩
       ·replace hE := hE.dec 80 c (by kernel_rfl)
        replace hm := cond_f c hm
        have c_12 := c
        refine WR.d hE 9 [.int .i64 t_.1.cell, .int .i64 t_.1.e.Key, .int .i64 t_.1.e.Serial] [(80, .bool false), (81, .pointer (some ⟨p_w_, 0, none⟩)), (82, .int .i64 h_), (83, .int .i64 c_10), (84, .int .i64 k_), (85, .int .i64 n), (86, .agg #[.int .i64 t_.1.cell, .int .i64 t_.1.e.Key, .int .i64 t_.1.e.Serial])] (obs := [.cell ⟨r1, 0, none⟩ (.int .i64 t_.1.cell), .cell ⟨r1, 1, none⟩ (.int .i64 t_.1.e.Key), .cell ⟨r1, 2, none⟩ (.int .i64 t_.1.e.Serial)]) ⟨H.cell 1 rfl rfl, H.cell 1 rfl rfl, H.cell 1 rfl rfl, trivial⟩ fun a hE => ?_
        obtain ⟨t_6, et_6, hm⟩ := bind_some hm
        refine WR.eff hE rfl rfl rfl rfl (OpTo.fn hE rfl rfl Tryz.call113 (ihf et_6 H)) ?_
        rintro _ w ⟨rfl, H⟩ a hE
        refine WR.e0 hE [(89, .bool (!t_6.1))] fun a hE => ?_
        cases hm
        exact hk _ _ ⟨hE.sel [0, 1, 2, 15, 17, 18, 89] (by kernel_rfl), H.t1.t1⟩
      rintro a w ⟨hE, H⟩
      refine Runs.cond hE rfl (fun c => ?_) (fun c => ?_)
      ·replace hm := cond_t c hm
       refine Runs.sr ?_
       refine WR.seg hE 1 [] [14] (Lo := [(14, .bool false)]) (obs := []) rfl (by kernel_rfl) trivial fun a hE => ?_
       refine WR.done rfl ?_
       refine Runs.ret hE Tryz.func113 rfl rfl ?_
       cases hm
       dsimp only at hR; cases hR
       exact ⟨rfl, H.x1⟩
      ·replace hm := cond_f c hm
       refine Runs.skip ?_
       refine Runs.region ?_
       replace H := thicketlaw9_world.open H
       refine WR.seg hE 5 [.pointer (some ⟨al_w_.a__p, 0, none⟩)] [0, 1, 2, 15, 17, 18, 93, 94] (Lo := [(0, .pointer (some ⟨p_w_, 0, none⟩)), (1, .int .i64 h_), (2, .int .i64 n), (15, .pointer (some ⟨r1, 0, none⟩)), (17, .int .i64 c_10), (18, .int .i64 k_), (93, .pointer (some ⟨al_w_.a__p, 0, none⟩)), (94, .int .i64 c_10)]) (obs := [.cell ⟨p_w_, 0, none⟩ (.pointer (some ⟨al_w_.a__p, 0, none⟩))]) rfl (by kernel_rfl) ⟨H.cell 0 rfl rfl, trivial⟩ fun a hE => ?_
       obtain ⟨t_7, et_7, hm⟩ := bind_some hm
       refine WR.eff hE rfl rfl rfl rfl (OpTo.fn hE rfl rfl Tryz.call78 (arena_Arena_Cell_ok et_7 H.t1)) ?_
       rintro _ w ⟨rfl, H⟩ a hE
       refine WR.e0 hE [(17, .int .i64 t_7.1)] fun a hE => ?_
       refine Runs.inBlock ?_
       refine Runs.region ?_
       refine WR.e0 hE [(18, .int .i64 (w64 (k_ - 1)))] fun a hE => ?_
       replace H := thicketlaw9_world.shut al_w_ (thicketlaw9_world.mk t_7.2 s3.2.root0 s3.2.root1 s3.2.has0 s3.2.has1 s3.2.next s3.2.spent s3.2.most) H.t3.t3.t2.t3
       exact ih m (Nat.lt_succ_self m) _ _ ⟨t_7.1, w64 (k_ - 1), thicketlaw9_world.mk t_7.2 s3.2.root0 s3.2.root1 s3.2.has0 s3.2.has1 s3.2.next s3.2.spent s3.2.most, hE.sel [0, 1, 2, 15, 17, 18] (by kernel_rfl), H.t1.t1, hm⟩
     ·replace hm := cond_f c hm
      refine Runs.exit rfl ?_
      cases hm
      exact hk _ _ ⟨_, rfl, hE.sel [17] (by kernel_rfl), H.x1⟩
   rintro a w ⟨s2, rfl, hE, H⟩
   replace hm := hR; dsimp only at hm
   refine Runs.sr ?_
   refine WR.seg hE 3 [] [14] (Lo := [(14, .bool (s2.1 == (-1)))]) (obs := []) rfl (by kernel_rfl) trivial fun a hE => ?_
   refine WR.done rfl ?_
   refine Runs.ret hE Tryz.func113 rfl rfl ?_
   cases hm
   exact ⟨rfl, H⟩

theorem thicketlaw9_world_shape_at0_ok {w0 w : World} {As : List HP} {k : Nat} {p_w_ : Nat} {al_w_ : thicketlaw9_world.A} {w_ : thicketlaw9_world} {t : Bool × thicketlaw9_world}  (hm : thicketlaw9_world_shape_at0 k w_ = some t) (H : St w0 (thicketlaw9_world.R p_w_ al_w_ w_ :: As) w) :
    CallsR Tryz.prog 74 #[.pointer (some ⟨p_w_, 0, none⟩), .int .i64 0] w fun v w' => v = .bool t.1 ∧ St w0 (thicketlaw9_world.R p_w_ al_w_ t.2 :: As) w' := by
 rw [thicketlaw9_world_shape_at0] at hm
 refine enter (args := [.pointer (some ⟨p_w_, 0, none⟩), .int .i64 0]) Tryz.func74 rfl rfl rfl fun a hE => ?_
 refine Runs.sr ?_
 refine WR.seg hE 1 [] [0, 1] (Lo := [(0, .pointer (some ⟨p_w_, 0, none⟩)), (1, .int .i64 0)]) (obs := []) rfl (by kernel_rfl) trivial fun a hE => ?_
 refine WR.done rfl ?_
 refine Runs.sr ?_
 replace H := thicketlaw9_world.open H
 refine WR.e hE [.slice al_w_.has0_b w_.has0.length al_w_.has0_c] [(5, .int .i64 (w_.has0.length : Int))] (obs := [.p (0 ≤ (0 : Int) ∧ (0 : Int) < ((2 : Nat) : Int)), .cell ⟨p_w_, 3, none⟩ (.slice al_w_.has0_b w_.has0.length al_w_.has0_c)]) ⟨⟨by decide, by decide⟩, H.cell 0 rfl rfl, trivial⟩ fun a hE => ?_
 refine Runs.sr ?_
 refine WR.e hE [.int .i64 w_.root0] [(6, .int .i64 w_.root0)] (obs := [.p (0 ≤ (0 : Int) ∧ (0 : Int) < ((2 : Nat) : Int)), .cell ⟨p_w_, 1, none⟩ (.int .i64 w_.root0)]) ⟨⟨by decide, by decide⟩, H.cell 0 rfl rfl, trivial⟩ fun a hE => ?_
 refine Runs.seq ?_
 refine Runs.sr ?_
 refine WR.e0 hE [(7, .int .i64 0)] fun a hE => ?_
 replace H := thicketlaw9_world.shut al_w_ (w_) H.t3.t3.t3.t3
 obtain ⟨s, es, hR⟩ := bind_some hm
 refine Runs.join (fun a w => ∃ s1, s = Sum.inr s1 ∧ EnvOk 50 a [(6, .int .i64 s1.1)] ∧ St w0 (thicketlaw9_world.R p_w_ al_w_ s1.2 :: As) w) (fun hk => ?_) ?_
 ·replace hm := es; clear es
  refine Runs.block ?_
  refine Runs.loop (fun m a w => ∃ (n : Int), ∃ (k_ : Int), ∃ (m_ : thicketlaw9_world), EnvOk 50 a [(0, .pointer (some ⟨p_w_, 0, none⟩)), (1, .int .i64 0), (5, .int .i64 (w_.has0.length : Int)), (6, .int .i64 n), (7, .int .i64 k_)] ∧ St w0 (thicketlaw9_world.R p_w_ al_w_ m_ :: As) w ∧ thicketlaw9_world_shape_at0_l0 (w_.has0.length : Int) m n k_ m_ = some s) k ⟨w_.root0, 0, w_, hE.sel [0, 1, 5, 6, 7] (by kernel_rfl), H, hm⟩ ?_
  rintro m ih a w ⟨n, k_, m_, hE, H, hm⟩
  cases m with
  | zero => simp [thicketlaw9_world_shape_at0_l0] at hm
  | succ m =>
   rw [thicketlaw9_world_shape_at0_l0] at hm
   refine Runs.seq ?_
   refine Runs.sr ?_
   refine WR.seg hE 2 [] [0, 1, 5, 6, 7, 22] (Lo := [(0, .pointer (some ⟨p_w_, 0, none⟩)), (1, .int .i64 0), (5, .int .i64 (w_.has0.length : Int)), (6, .int .i64 n), (7, .int .i64 k_), (22, .bool (decide (k_ < 12)))]) (obs := []) rfl (by kernel_rfl) trivial fun a hE => ?_
   refine WR.done rfl ?_
   refine Runs.cond hE rfl (fun c => ?_) (fun c => ?_)
   ·replace hm := cond_t c hm
    refine Runs.skip ?_
    refine Runs.seq ?_
    obtain ⟨s2, es2, hR1⟩ := bind_some hm
    refine Runs.join (fun a w => ∃ s3, s2 = Sum.inr s3 ∧ EnvOk 50 a [(0, .pointer (some ⟨p_w_, 0, none⟩)), (1, .int .i64 0), (5, .int .i64 (w_.has0.length : Int)), (6, .int .i64 s3.1), (7, .int .i64 k_)] ∧ St w0 (thicketlaw9_world.R p_w_ al_w_ s3.2 :: As) w) (fun hk => ?_) ?_
    ·replace hm := es2; clear es2
     refine Runs.block ?_
     refine Runs.seq ?_
     refine Runs.sr ?_
     obtain ⟨u, eu, hm⟩ := bind_some hm
     refine WR.e hE [] [(30, .bool ((IntKind.wrap .i64 ((BitVec.ofInt 64 (Int.fdiv (w_.has0.length : Int) (2 ^ (min (Int.toNat (IntKind.wrap .u64 (k_))) 64))) &&& BitVec.ofInt 64 1).toNat : Int)) == 0))] (obs := [.p (0 ≤ IntKind.wrap .u64 (k_))]) ⟨(nn_spec eu), trivial⟩ fun a hE => ?_
     refine Runs.cond hE rfl (fun c => ?_) (fun c => ?_)
     ·replace hm := cond_t c hm
      refine Runs.exit rfl ?_
      cases hm
      exact hk _ _ ⟨_, rfl, hE.sel [0, 1, 5, 6, 7] (by kernel_rfl), H⟩
     ·replace hm := cond_f c hm
      refine Runs.skip ?_
      refine Runs.seq ?_
      refine Runs.seq ?_
      obtain ⟨s4, es4, hm⟩ := bind_some hm
      refine Runs.join (fun a w => EnvOk 50 a [(0, .pointer (some ⟨p_w_, 0, none⟩)), (1, .int .i64 0), (5, .int .i64 (w_.has0.length : Int)), (6, .int .i64 n), (7, .int .i64 k_), (41, .bool s4.1)] ∧ St w0 (thicketlaw9_world.R p_w_ al_w_ s4.2 :: As) w) (fun hk => ?_) ?_
      ·replace hm := es4; clear es4
       refine Runs.region ?_
       refine WR.d0 hE 3 [(33, .bool (n == (-1)))] fun a hE => ?_
       rcases Bool.eq_false_or_eq_true (n == (-1)) with c | c
       ·replace hE := hE.dec 33 c (by kernel_rfl)
        replace hm := cond_t c hm
        have c_ := c
        refine WR.e0 hE [(41, .bool true)] fun a hE => ?_
        cases hm
        exact hk _ _ ⟨hE.sel [0, 1, 5, 6, 7, 41] (by kernel_rfl), H⟩
       ·replace hE := hE.dec 33 c (by kernel_rfl)
        replace hm := cond_f c hm
        have c_1 := c
        refine WR.d0 hE 8 [(33, .bool false), (34, .pointer (some ⟨p_w_, 0, none⟩)), (35, .int .i64 0), (36, .int .i64 n), (37, .int .i64 k_), (38, .agg #[.int .i64 0, .int .i64 0, .int .i64 0])] fun a hE => ?_
        obtain ⟨t_, et_, hm⟩ := bind_some hm
        have hC_ := thicketlaw9_world_tree_ok et_ H
        try dsimp only at hC_
        refine WR.eff hE rfl rfl rfl rfl (OpTo.fn hE rfl rfl Tryz.call113 hC_) ?_
        rintro _ w ⟨rfl, H⟩ a hE
        refine WR.e0 hE [(41, .bool (!t_.1))] fun a hE => ?_
        cases hm
        exact hk _ _ ⟨hE.sel [0, 1, 5, 6, 7, 41] (by kernel_rfl), H⟩
      rintro a w ⟨hE, H⟩
      refine Runs.cond hE rfl (fun c => ?_) (fun c => ?_)
      ·replace hm := cond_t c hm
       refine Runs.sr ?_
       refine WR.seg hE 1 [] [4] (Lo := [(4, .bool false)]) (obs := []) rfl (by kernel_rfl) trivial fun a hE => ?_
       refine WR.done rfl ?_
       refine Runs.ret hE Tryz.func74 rfl rfl ?_
       cases hm
       dsimp only at hR1; cases hR1
       dsimp only at hR; cases hR
       exact ⟨rfl, H⟩
      ·replace hm := cond_f c hm
       refine Runs.skip ?_
       refine Runs.region ?_
       replace H := thicketlaw9_world.open H
       refine WR.seg hE 5 [.pointer (some ⟨al_w_.a__p, 0, none⟩)] [0, 1, 5, 6, 7, 45, 46] (Lo := [(0, .pointer (some ⟨p_w_, 0, none⟩)), (1, .int .i64 0), (5, .int .i64 (w_.has0.length : Int)), (6, .int .i64 n), (7, .int .i64 k_), (45, .pointer (some ⟨al_w_.a__p, 0, none⟩)), (46, .int .i64 n)]) (obs := [.cell ⟨p_w_, 0, none⟩ (.pointer (some ⟨al_w_.a__p, 0, none⟩))]) rfl (by kernel_rfl) ⟨H.cell 0 rfl rfl, trivial⟩ fun a hE => ?_
       obtain ⟨t_1, et_1, hm⟩ := bind_some hm
       refine WR.eff hE rfl rfl rfl rfl (OpTo.fn hE rfl rfl Tryz.call78 (arena_Arena_Cell_ok et_1 H.t1)) ?_
       rintro _ w ⟨rfl, H⟩ a hE
       refine WR.e0 hE [(6, .int .i64 t_1.1)] fun a hE => ?_
       refine Runs.inBlock ?_
       replace H := thicketlaw9_world.shut al_w_ (thicketlaw9_world.mk t_1.2 s4.2.root0 s4.2.root1 s4.2.has0 s4.2.has1 s4.2.next s4.2.spent s4.2.most) H.t3.t3.t2.t3
       cases hm
       exact hk _ _ ⟨_, rfl, hE.sel [0, 1, 5, 6, 7] (by kernel_rfl), H⟩
    rintro a w ⟨s3, rfl, hE, H⟩
    replace hm := hR1; dsimp only at hm
    refine Runs.region ?_
    refine WR.seg hE 3 [] [0, 1, 5, 6, 7] (Lo := [(0, .pointer (some ⟨p_w_, 0, none⟩)), (1, .int .i64 0), (5, .int .i64 (w_.has0.length : Int)), (6, .int .i64 s3.1), (7, .int .i64 (w64 (k_ + 1)))]) (obs := []) rfl (by kernel_rfl) trivial fun a hE => ?_
    refine WR.done rfl ?_
    exact ih m (Nat.lt_succ_self m) _ _ ⟨s3.1, w64 (k_ + 1), s3.2, hE.sel [0, 1, 5, 6, 7] (by kernel_rfl), H, hm⟩
   ·replace hm := cond_f c hm
    refine Runs.exit rfl ?_
    cases hm
    exact hk _ _ ⟨_, rfl, hE.sel [6] (by kernel_rfl), H⟩
 rintro a w ⟨s1, rfl, hE, H⟩
 replace hm := hR; dsimp only at hm
 refine Runs.sr ?_
 refine WR.seg hE 3 [] [4] (Lo := [(4, .bool (s1.1 == (-1)))]) (obs := []) rfl (by kernel_rfl) trivial fun a hE => ?_
 refine WR.done rfl ?_
 refine Runs.ret hE Tryz.func74 rfl rfl ?_
 cases hm
 exact ⟨rfl, H⟩

theorem thicketlaw9_world_shape_at1_ok {w0 w : World} {As : List HP} {k : Nat} {p_w_ : Nat} {al_w_ : thicketlaw9_world.A} {w_ : thicketlaw9_world} {t : Bool × thicketlaw9_world}  (hm : thicketlaw9_world_shape_at1 k w_ = some t) (H : St w0 (thicketlaw9_world.R p_w_ al_w_ w_ :: As) w) :
    CallsR Tryz.prog 74 #[.pointer (some ⟨p_w_, 0, none⟩), .int .i64 1] w fun v w' => v = .bool t.1 ∧ St w0 (thicketlaw9_world.R p_w_ al_w_ t.2 :: As) w' := by
 rw [thicketlaw9_world_shape_at1] at hm
 refine enter (args := [.pointer (some ⟨p_w_, 0, none⟩), .int .i64 1]) Tryz.func74 rfl rfl rfl fun a hE => ?_
 refine Runs.sr ?_
 refine WR.seg hE 1 [] [0, 1] (Lo := [(0, .pointer (some ⟨p_w_, 0, none⟩)), (1, .int .i64 1)]) (obs := []) rfl (by kernel_rfl) trivial fun a hE => ?_
 refine WR.done rfl ?_
 refine Runs.sr ?_
 replace H := thicketlaw9_world.open H
 refine WR.e hE [.slice al_w_.has1_b w_.has1.length al_w_.has1_c] [(5, .int .i64 (w_.has1.length : Int))] (obs := [.p (0 ≤ (1 : Int) ∧ (1 : Int) < ((2 : Nat) : Int)), .cell ⟨p_w_, 4, none⟩ (.slice al_w_.has1_b w_.has1.length al_w_.has1_c)]) ⟨⟨by decide, by decide⟩, H.cell 0 rfl rfl, trivial⟩ fun a hE => ?_
 refine Runs.sr ?_
 refine WR.e hE [.int .i64 w_.root1] [(6, .int .i64 w_.root1)] (obs := [.p (0 ≤ (1 : Int) ∧ (1 : Int) < ((2 : Nat) : Int)), .cell ⟨p_w_, 2, none⟩ (.int .i64 w_.root1)]) ⟨⟨by decide, by decide⟩, H.cell 0 rfl rfl, trivial⟩ fun a hE => ?_
 refine Runs.seq ?_
 refine Runs.sr ?_
 refine WR.e0 hE [(7, .int .i64 0)] fun a hE => ?_
 replace H := thicketlaw9_world.shut al_w_ (w_) H.t3.t3.t3.t3
 obtain ⟨s, es, hR⟩ := bind_some hm
 refine Runs.join (fun a w => ∃ s1, s = Sum.inr s1 ∧ EnvOk 50 a [(6, .int .i64 s1.1)] ∧ St w0 (thicketlaw9_world.R p_w_ al_w_ s1.2 :: As) w) (fun hk => ?_) ?_
 ·replace hm := es; clear es
  refine Runs.block ?_
  refine Runs.loop (fun m a w => ∃ (n : Int), ∃ (k_ : Int), ∃ (m_ : thicketlaw9_world), EnvOk 50 a [(0, .pointer (some ⟨p_w_, 0, none⟩)), (1, .int .i64 1), (5, .int .i64 (w_.has1.length : Int)), (6, .int .i64 n), (7, .int .i64 k_)] ∧ St w0 (thicketlaw9_world.R p_w_ al_w_ m_ :: As) w ∧ thicketlaw9_world_shape_at1_l0 (w_.has1.length : Int) m n k_ m_ = some s) k ⟨w_.root1, 0, w_, hE.sel [0, 1, 5, 6, 7] (by kernel_rfl), H, hm⟩ ?_
  rintro m ih a w ⟨n, k_, m_, hE, H, hm⟩
  cases m with
  | zero => simp [thicketlaw9_world_shape_at1_l0] at hm
  | succ m =>
   rw [thicketlaw9_world_shape_at1_l0] at hm
   refine Runs.seq ?_
   refine Runs.sr ?_
   refine WR.seg hE 2 [] [0, 1, 5, 6, 7, 22] (Lo := [(0, .pointer (some ⟨p_w_, 0, none⟩)), (1, .int .i64 1), (5, .int .i64 (w_.has1.length : Int)), (6, .int .i64 n), (7, .int .i64 k_), (22, .bool (decide (k_ < 12)))]) (obs := []) rfl (by kernel_rfl) trivial fun a hE => ?_
   refine WR.done rfl ?_
   refine Runs.cond hE rfl (fun c => ?_) (fun c => ?_)
   ·replace hm := cond_t c hm
    refine Runs.skip ?_
    refine Runs.seq ?_
    obtain ⟨s2, es2, hR1⟩ := bind_some hm
    refine Runs.join (fun a w => ∃ s3, s2 = Sum.inr s3 ∧ EnvOk 50 a [(0, .pointer (some ⟨p_w_, 0, none⟩)), (1, .int .i64 1), (5, .int .i64 (w_.has1.length : Int)), (6, .int .i64 s3.1), (7, .int .i64 k_)] ∧ St w0 (thicketlaw9_world.R p_w_ al_w_ s3.2 :: As) w) (fun hk => ?_) ?_
    ·replace hm := es2; clear es2
     refine Runs.block ?_
     refine Runs.seq ?_
     refine Runs.sr ?_
     obtain ⟨u, eu, hm⟩ := bind_some hm
     refine WR.e hE [] [(30, .bool ((IntKind.wrap .i64 ((BitVec.ofInt 64 (Int.fdiv (w_.has1.length : Int) (2 ^ (min (Int.toNat (IntKind.wrap .u64 (k_))) 64))) &&& BitVec.ofInt 64 1).toNat : Int)) == 0))] (obs := [.p (0 ≤ IntKind.wrap .u64 (k_))]) ⟨(nn_spec eu), trivial⟩ fun a hE => ?_
     refine Runs.cond hE rfl (fun c => ?_) (fun c => ?_)
     ·replace hm := cond_t c hm
      refine Runs.exit rfl ?_
      cases hm
      exact hk _ _ ⟨_, rfl, hE.sel [0, 1, 5, 6, 7] (by kernel_rfl), H⟩
     ·replace hm := cond_f c hm
      refine Runs.skip ?_
      refine Runs.seq ?_
      refine Runs.seq ?_
      obtain ⟨s4, es4, hm⟩ := bind_some hm
      refine Runs.join (fun a w => EnvOk 50 a [(0, .pointer (some ⟨p_w_, 0, none⟩)), (1, .int .i64 1), (5, .int .i64 (w_.has1.length : Int)), (6, .int .i64 n), (7, .int .i64 k_), (41, .bool s4.1)] ∧ St w0 (thicketlaw9_world.R p_w_ al_w_ s4.2 :: As) w) (fun hk => ?_) ?_
      ·replace hm := es4; clear es4
       refine Runs.region ?_
       refine WR.d0 hE 3 [(33, .bool (n == (-1)))] fun a hE => ?_
       rcases Bool.eq_false_or_eq_true (n == (-1)) with c | c
       ·replace hE := hE.dec 33 c (by kernel_rfl)
        replace hm := cond_t c hm
        have c_ := c
        refine WR.e0 hE [(41, .bool true)] fun a hE => ?_
        cases hm
        exact hk _ _ ⟨hE.sel [0, 1, 5, 6, 7, 41] (by kernel_rfl), H⟩
       ·replace hE := hE.dec 33 c (by kernel_rfl)
        replace hm := cond_f c hm
        have c_1 := c
        refine WR.d0 hE 8 [(33, .bool false), (34, .pointer (some ⟨p_w_, 0, none⟩)), (35, .int .i64 1), (36, .int .i64 n), (37, .int .i64 k_), (38, .agg #[.int .i64 0, .int .i64 0, .int .i64 0])] fun a hE => ?_
        obtain ⟨t_, et_, hm⟩ := bind_some hm
        have hC_ := thicketlaw9_world_tree_ok et_ H
        try dsimp only at hC_
        refine WR.eff hE rfl rfl rfl rfl (OpTo.fn hE rfl rfl Tryz.call113 hC_) ?_
        rintro _ w ⟨rfl, H⟩ a hE
        refine WR.e0 hE [(41, .bool (!t_.1))] fun a hE => ?_
        cases hm
        exact hk _ _ ⟨hE.sel [0, 1, 5, 6, 7, 41] (by kernel_rfl), H⟩
      rintro a w ⟨hE, H⟩
      refine Runs.cond hE rfl (fun c => ?_) (fun c => ?_)
      ·replace hm := cond_t c hm
       refine Runs.sr ?_
       refine WR.seg hE 1 [] [4] (Lo := [(4, .bool false)]) (obs := []) rfl (by kernel_rfl) trivial fun a hE => ?_
       refine WR.done rfl ?_
       refine Runs.ret hE Tryz.func74 rfl rfl ?_
       cases hm
       dsimp only at hR1; cases hR1
       dsimp only at hR; cases hR
       exact ⟨rfl, H⟩
      ·replace hm := cond_f c hm
       refine Runs.skip ?_
       refine Runs.region ?_
       replace H := thicketlaw9_world.open H
       refine WR.seg hE 5 [.pointer (some ⟨al_w_.a__p, 0, none⟩)] [0, 1, 5, 6, 7, 45, 46] (Lo := [(0, .pointer (some ⟨p_w_, 0, none⟩)), (1, .int .i64 1), (5, .int .i64 (w_.has1.length : Int)), (6, .int .i64 n), (7, .int .i64 k_), (45, .pointer (some ⟨al_w_.a__p, 0, none⟩)), (46, .int .i64 n)]) (obs := [.cell ⟨p_w_, 0, none⟩ (.pointer (some ⟨al_w_.a__p, 0, none⟩))]) rfl (by kernel_rfl) ⟨H.cell 0 rfl rfl, trivial⟩ fun a hE => ?_
       obtain ⟨t_1, et_1, hm⟩ := bind_some hm
       refine WR.eff hE rfl rfl rfl rfl (OpTo.fn hE rfl rfl Tryz.call78 (arena_Arena_Cell_ok et_1 H.t1)) ?_
       rintro _ w ⟨rfl, H⟩ a hE
       refine WR.e0 hE [(6, .int .i64 t_1.1)] fun a hE => ?_
       refine Runs.inBlock ?_
       replace H := thicketlaw9_world.shut al_w_ (thicketlaw9_world.mk t_1.2 s4.2.root0 s4.2.root1 s4.2.has0 s4.2.has1 s4.2.next s4.2.spent s4.2.most) H.t3.t3.t2.t3
       cases hm
       exact hk _ _ ⟨_, rfl, hE.sel [0, 1, 5, 6, 7] (by kernel_rfl), H⟩
    rintro a w ⟨s3, rfl, hE, H⟩
    replace hm := hR1; dsimp only at hm
    refine Runs.region ?_
    refine WR.seg hE 3 [] [0, 1, 5, 6, 7] (Lo := [(0, .pointer (some ⟨p_w_, 0, none⟩)), (1, .int .i64 1), (5, .int .i64 (w_.has1.length : Int)), (6, .int .i64 s3.1), (7, .int .i64 (w64 (k_ + 1)))]) (obs := []) rfl (by kernel_rfl) trivial fun a hE => ?_
    refine WR.done rfl ?_
    exact ih m (Nat.lt_succ_self m) _ _ ⟨s3.1, w64 (k_ + 1), s3.2, hE.sel [0, 1, 5, 6, 7] (by kernel_rfl), H, hm⟩
   ·replace hm := cond_f c hm
    refine Runs.exit rfl ?_
    cases hm
    exact hk _ _ ⟨_, rfl, hE.sel [6] (by kernel_rfl), H⟩
 rintro a w ⟨s1, rfl, hE, H⟩
 replace hm := hR; dsimp only at hm
 refine Runs.sr ?_
 refine WR.seg hE 3 [] [4] (Lo := [(4, .bool (s1.1 == (-1)))]) (obs := []) rfl (by kernel_rfl) trivial fun a hE => ?_
 refine WR.done rfl ?_
 refine Runs.ret hE Tryz.func74 rfl rfl ?_
 cases hm
 exact ⟨rfl, H⟩

theorem thicketlaw9_world_shape_ok {w0 w : World} {As : List HP} {k : Nat} {p_w_ : Nat} {al_w_ : thicketlaw9_world.A} {w_ : thicketlaw9_world} {h_ : Int} {t : Bool × thicketlaw9_world}  (hm : thicketlaw9_world_shape k w_ h_ = some t) (H : St w0 (thicketlaw9_world.R p_w_ al_w_ w_ :: As) w) :
    CallsR Tryz.prog 74 #[.pointer (some ⟨p_w_, 0, none⟩), .int .i64 h_] w fun v w' => v = .bool t.1 ∧ St w0 (thicketlaw9_world.R p_w_ al_w_ t.2 :: As) w' := by
  rw [thicketlaw9_world_shape] at hm
  by_cases h0 : h_ = 0
  · subst h0; simp only [if_pos] at hm
    refine (thicketlaw9_world_shape_at0_ok hm H).mono ?_
    rintro v w' ⟨hv, H⟩; exact ⟨hv, H⟩
  rw [if_neg h0] at hm
  by_cases h1 : h_ = 1
  · subst h1; simp only [if_pos] at hm
    refine (thicketlaw9_world_shape_at1_ok hm H).mono ?_
    rintro v w' ⟨hv, H⟩; exact ⟨hv, H⟩
  rw [if_neg h1] at hm
  cases hm

theorem thicketlaw9_world_right_ok {w0 w : World} {As : List HP} {k : Nat} {p_w_ : Nat} {al_w_ : thicketlaw9_world.A} {w_ : thicketlaw9_world} {t : Bool × thicketlaw9_world}  (hm : thicketlaw9_world_right k w_ = some t) (H : St w0 (thicketlaw9_world.R p_w_ al_w_ w_ :: As) w) :
    CallsR Tryz.prog 32 #[.pointer (some ⟨p_w_, 0, none⟩)] w fun v w' => v = .bool t.1 ∧ St w0 (thicketlaw9_world.R p_w_ al_w_ t.2 :: As) w' := by
 rw [thicketlaw9_world_right] at hm
 refine enter (args := [.pointer (some ⟨p_w_, 0, none⟩)]) Tryz.func32 rfl rfl rfl fun a hE => ?_
 refine Runs.sr ?_
 refine WR.seg hE 1 [] [0] (Lo := [(0, .pointer (some ⟨p_w_, 0, none⟩))]) (obs := []) rfl (by kernel_rfl) trivial fun a hE => ?_
 refine WR.done rfl ?_
 refine Runs.seq ?_
 refine Runs.seq ?_
 refine Runs.drawn mixed (by kernel_rfl) ?_
 replace H := H.drew
 replace H := thicketlaw9_world.open H
 refine WQ.d hE [0, 1, 2, 3, 5, 6, 7, 8, 9, 10, 11, 12, 13, 14, 15, 16, 17, 18] [.pointer (some ⟨al_w_.a__p, 0, none⟩), .slice al_w_.has0_b w_.has0.length al_w_.has0_c, .slice al_w_.has1_b w_.has1.length al_w_.has1_c] [(10, .pointer (some ⟨al_w_.a__p, 0, none⟩)), (25, .int .i64 (w64 (2 * (w64 ((w_.has0.length : Int) + (w_.has1.length : Int))))))] (obs := [.cell ⟨p_w_, 0, none⟩ (.pointer (some ⟨al_w_.a__p, 0, none⟩)), .p (0 ≤ (0 : Int) ∧ (0 : Int) < ((2 : Nat) : Int)), .cell ⟨p_w_, 3, none⟩ (.slice al_w_.has0_b w_.has0.length al_w_.has0_c), .p (0 ≤ (1 : Int) ∧ (1 : Int) < ((2 : Nat) : Int)), .cell ⟨p_w_, 4, none⟩ (.slice al_w_.has1_b w_.has1.length al_w_.has1_c)]) ⟨H.cell 0 rfl rfl, ⟨by decide, by decide⟩, H.cell 0 rfl rfl, ⟨by decide, by decide⟩, H.cell 0 rfl rfl, trivial⟩ fun a hE => ?_
 obtain ⟨t_, et_, hm⟩ := bind_some hm
 refine WQ.eff (j := 4) (obs := [.cell ⟨p_w_, 4, none⟩ (.slice al_w_.has1_b w_.has1.length al_w_.has1_c), .p (0 ≤ (1 : Int) ∧ (1 : Int) < ((2 : Nat) : Int)), .cell ⟨p_w_, 3, none⟩ (.slice al_w_.has0_b w_.has0.length al_w_.has0_c), .p (0 ≤ (0 : Int) ∧ (0 : Int) < ((2 : Nat) : Int))]) hE (by kernel_rfl) rfl rfl rfl rfl (by kernel_rfl) (OpTo.fn hE rfl rfl Tryz.call28 (arena_Arena_Len_ok et_ H.t1)) ?_
 rintro _ w ⟨rfl, H⟩
 refine ⟨⟨H.cell 1 rfl rfl, ⟨by decide, by decide⟩, H.cell 1 rfl rfl, ⟨by decide, by decide⟩, trivial⟩, fun a hE => ?_⟩
 refine WQ.d0 hE [19] [(26, .bool (t_ != (w64 (2 * (w64 ((w_.has0.length : Int) + (w_.has1.length : Int)))))))] fun a hE => ?_
 refine WQ.done (by kernel_rfl) ?_
 refine Runs.cond hE rfl (fun c => ?_) (fun c => ?_)
 ·replace hm := cond_t c hm
  refine Runs.sr ?_
  refine WR.e0 hE [(2, .bool false)] fun a hE => ?_
  replace H := thicketlaw9_world.shut al_w_ (w_) H.t3.t3.t2.t3
  refine Runs.ret hE Tryz.func32 rfl rfl ?_
  cases hm
  exact ⟨rfl, H⟩
 ·replace hm := cond_f c hm
  refine Runs.skip ?_
  refine Runs.seq ?_
  refine Runs.sr ?_
  refine WR.e0 hE [(3, .int .i64 0)] fun a hE => ?_
  refine Runs.block ?_
  refine Runs.unroll ?_
  refine Runs.seq ?_
  refine Runs.sr ?_
  refine WR.e0 hE [(28, .bool true)] fun a hE => ?_
  refine Runs.condT hE rfl ?_
  refine Runs.skip ?_
  refine Runs.seq ?_
  refine Runs.block ?_
  refine Runs.sr ?_
  refine WR.e hE [.slice al_w_.has0_b w_.has0.length al_w_.has0_c] [(4, .slice al_w_.has0_b w_.has0.length al_w_.has0_c)] (obs := [.p (0 ≤ (0 : Int) ∧ (0 : Int) < ((2 : Nat) : Int)), .cell ⟨p_w_, 3, none⟩ (.slice al_w_.has0_b w_.has0.length al_w_.has0_c)]) ⟨⟨by decide, by decide⟩, H.cell 1 rfl rfl, trivial⟩ fun a hE => ?_
  refine Runs.sr ?_
  refine WR.d hE 4 [.pointer (some ⟨al_w_.a__p, 0, none⟩)] [(40, .pointer (some ⟨al_w_.a__p, 0, none⟩))] (obs := [.cell ⟨p_w_, 0, none⟩ (.pointer (some ⟨al_w_.a__p, 0, none⟩))]) ⟨H.cell 1 rfl rfl, trivial⟩ fun a hE => ?_
  obtain ⟨t_1, et_1, hm⟩ := bind_some hm
  refine WR.eff hE rfl rfl rfl rfl (OpTo.fn hE rfl rfl Tryz.call20 (arena_Arena_Meter_ok et_1 H)) ?_
  rintro _ w ⟨rfl, H⟩ a hE
  replace H := arena_Arena.open H
  obtain ⟨t_2, et_2, hm⟩ := bind_some hm
  refine WR.eff hE rfl rfl rfl rfl (OpTo.fn hE rfl rfl Tryz.call21 (meter_Meter_Steps_ok et_2 H.t3)) ?_
  rintro _ w ⟨rfl, H⟩ a hE
  refine WR.e0 hE [(5, .int .i64 t_2)] fun a hE => ?_
  refine Runs.seq ?_
  refine Runs.drawn mixed (by kernel_rfl) ?_
  replace H := H.drew
  refine WQ.d hE [0, 1, 2, 3, 4, 5, 6, 7, 8, 9] [.pointer (some ⟨al_w_.a__p, 0, none⟩), .int .i64 w_.root0] [(46, .pointer (some ⟨al_w_.a__p, 0, none⟩)), (52, .int .i64 w_.root0)] (obs := [.cell ⟨p_w_, 0, none⟩ (.pointer (some ⟨al_w_.a__p, 0, none⟩)), .p (0 ≤ (0 : Int) ∧ (0 : Int) < ((2 : Nat) : Int)), .cell ⟨p_w_, 1, none⟩ (.int .i64 w_.root0)]) ⟨H.cell 4 rfl rfl, ⟨by decide, by decide⟩, H.cell 4 rfl rfl, trivial⟩ fun a hE => ?_
  replace H := arena_Arena.shut al_w_.a__a (w_.a_) H.t3.t3.t3
  obtain ⟨t_3, et_3, hm⟩ := bind_some hm
  refine WQ.eff (j := 10) (obs := []) hE (by kernel_rfl) rfl rfl rfl rfl (by kernel_rfl) (OpTo.fn hE rfl rfl Tryz.call35 (binomial_Min_ok et_3 H)) ?_
  rintro _ w ⟨rfl, H⟩
  refine ⟨trivial, fun a hE => ?_⟩
  refine WQ.d0 hE [11] [(6, .int .i64 t_3.1)] fun a hE => ?_
  refine WQ.done (by kernel_rfl) ?_
  refine Runs.seq ?_
  refine Runs.sr ?_
  refine WR.d0 hE 4 [(54, .pointer (some ⟨p_w_, 0, none⟩)), (55, .int .i64 t_2), (57, .int .i64 (w_.has0.length : Int))] fun a hE => ?_
  replace H := thicketlaw9_world.shut al_w_ (thicketlaw9_world.mk t_3.2 w_.root0 w_.root1 w_.has0 w_.has1 w_.next w_.spent w_.most) H.t3.t3.t2.t3
  obtain ⟨t_4, et_4, hm⟩ := bind_some hm
  refine WR.eff hE rfl rfl rfl rfl (OpTo.fn hE rfl rfl Tryz.call23 (thicketlaw9_world_cost_ok et_4 H)) ?_
  rintro _ w ⟨rfl, hf, hf1, H⟩ a hE
  refine WR.e0 hE [(59, .bool (!t_4.1))] fun a hE => ?_
  refine Runs.cond hE rfl (fun c => ?_) (fun c => ?_)
  ·replace hm := cond_t c hm
   refine Runs.sr ?_
   refine WR.e0 hE [(2, .bool false)] fun a hE => ?_
   refine Runs.ret hE Tryz.func32 rfl rfl ?_
   cases hm
   exact ⟨rfl, H⟩
  ·replace hm := cond_f c hm
   refine Runs.skip ?_
   refine Runs.seq ?_
   obtain ⟨s, es, hm⟩ := bind_some hm
   refine Runs.join (fun a w => EnvOk 114 a [(0, .pointer (some ⟨p_w_, 0, none⟩)), (3, .int .i64 0), (113, .bool s.1)] ∧ St w0 (thicketlaw9_world.R p_w_ al_w_ s.2 :: As) w) (fun hk => ?_) ?_
   ·replace hm := es; clear es
    refine Runs.drawn mixed (by kernel_rfl) ?_
    replace H := H.drew
    replace H := thicketlaw9_world.open H
    try rw [hf] at H
    try rw [hf1] at H
    try dsimp only at H
    refine WQ.d0 hE [0, 1, 2, 3] [(63, .bool ((w_.has0.length : Int) == 0))] fun a hE => ?_
    rcases Bool.eq_false_or_eq_true ((w_.has0.length : Int) == 0) with c | c
    ·replace hE := hE.dec 63 c (by kernel_rfl)
     replace hm := cond_t c hm
     have c_ := c
     refine WQ.d0 hE [4, 5, 6] [(63, .bool true), (66, .bool (t_3.1 != (-1)))] fun a hE => ?_
     rcases Bool.eq_false_or_eq_true (t_3.1 != (-1)) with c | c
     ·replace hE := hE.dec 66 c (by kernel_rfl)
      replace hm := cond_t c hm
      have c_1 := c
      refine WQ.d0 hE [7, 8, 9, 10, 11, 12, 13, 14, 15, 16, 17, 18, 19, 20, 21, 22, 23, 24, 25, 26, 27, 28, 29, 30, 31, 32, 33, 34, 35, 36, 37, 38, 39, 40, 41, 42, 43, 44, 45, 46, 47, 48, 49, 50, 51, 52, 53] [(113, .bool true)] fun a hE => ?_
      refine WQ.done (by kernel_rfl) ?_
      replace H := thicketlaw9_world.shut al_w_ (thicketlaw9_world.mk t_4.2.a_ t_4.2.root0 t_4.2.root1 w_.has0 w_.has1 t_4.2.next t_4.2.spent t_4.2.most) H.t3.t3.t3.t3
      cases hm
      exact hk _ _ ⟨hE.sel [0, 3, 113] (by kernel_rfl), H⟩
     ·replace hE := hE.dec 66 c (by kernel_rfl)
      replace hm := cond_f c hm
      have c_2 := c
      refine WQ.d hE [7, 8, 9, 10, 11, 12, 13, 14, 15, 16] [.int .i64 t_4.2.root0] [(76, .bool (t_4.2.root0 != (-1)))] (obs := [.p (0 ≤ (0 : Int) ∧ (0 : Int) < ((2 : Nat) : Int)), .cell ⟨p_w_, 1, none⟩ (.int .i64 t_4.2.root0)]) ⟨⟨by decide, by decide⟩, H.cell 0 rfl rfl, trivial⟩ fun a hE => ?_
      rcases Bool.eq_false_or_eq_true (t_4.2.root0 != (-1)) with c | c
      ·replace hE := hE.dec 76 c (by kernel_rfl)
       replace hm := cond_t c hm
       have c_3 := c
       refine WQ.d0 hE [17, 18, 19, 20, 21, 22, 23, 24, 25, 26, 27, 28, 29, 30, 31, 32, 33, 34, 35, 36, 37, 38, 39, 40, 41, 42, 43, 44, 45, 46, 47, 48, 49, 50, 51, 52, 53] [(113, .bool true)] fun a hE => ?_
       refine WQ.done (by kernel_rfl) ?_
       replace H := thicketlaw9_world.shut al_w_ (thicketlaw9_world.mk t_4.2.a_ t_4.2.root0 t_4.2.root1 w_.has0 w_.has1 t_4.2.next t_4.2.spent t_4.2.most) H.t3.t3.t3.t3
       cases hm
       exact hk _ _ ⟨hE.sel [0, 3, 113] (by kernel_rfl), H⟩
      ·replace hE := hE.dec 76 c (by kernel_rfl)
       replace hm := cond_f c hm
       have c_4 := c
       refine WQ.d0 hE [17, 18, 19, 20] [(76, .bool false), (80, .bool (decide ((w_.has0.length : Int) > 0)))] fun a hE => ?_
       rcases Bool.eq_false_or_eq_true (decide ((w_.has0.length : Int) > 0)) with c | c
       ·replace hE := hE.dec 80 c (by kernel_rfl)
        replace hm := cond_t c hm
        have c_5 := c
        refine WQ.d0 hE [21, 22, 23] [(80, .bool true), (81, .int .i64 t_3.1), (82, .slice al_w_.has0_b w_.has0.length al_w_.has0_c), (83, .slice al_w_.has0_b w_.has0.length al_w_.has0_c)] fun a hE => ?_
        obtain ⟨t_5, et_5, hm⟩ := bind_some hm
        replace H := H.t2
        refine WQ.eff (j := 24) (obs := []) hE (by kernel_rfl) rfl rfl rfl rfl (by kernel_rfl) (OpTo.fn hE rfl rfl Tryz.call68 (thicketlaw9_least_ok (hX_l := (sl_rd 64 thicketlaw9_held.enc 3 _ _ _)) (hC_l := (H.slCap 0 rfl).1) et_5 H)) ?_
        rintro _ w ⟨rfl, H⟩
        refine ⟨trivial, fun a hE => ?_⟩
        obtain ⟨x, ex, hm⟩ := bind_some hm
        obtain ⟨b, o, hs, hb⟩ := SlRd.base (sl_rd 64 thicketlaw9_held.enc 3 _ _ _) thicketlaw9_held.enc_ok H 0 rfl ex
        refine WQ.d hE [25, 26, 27, 28, 29, 30, 31] [.pointer (some ⟨b, o, none⟩), .int .i64 x.cell] [(91, .bool (t_3.1 != x.cell))] (obs := [.p ((al_w_.has0_b : Option Addr) = some ⟨b, o, none⟩), .p (0 ≤ (t_5 : Int) ∧ (t_5 : Int) < ((w_.has0.length : Nat) : Int)), .cell ⟨b, o + (Int.toNat t_5) * 3, none⟩ (.int .i64 x.cell)]) ⟨hs, hb, SlRd.cells (sl_rd 64 thicketlaw9_held.enc 3 _ _ _) thicketlaw9_held.enc_ok H 0 rfl hs ex 0 _ rfl, trivial⟩ fun a hE => ?_
        rcases Bool.eq_false_or_eq_true (t_3.1 != x.cell) with c | c
        ·replace hE := hE.dec 91 c (by kernel_rfl)
         replace hm := cond_t c hm
         have c_6 := c
         refine WQ.d0 hE [32, 33, 34, 35, 36, 37, 38, 39, 40, 41, 42, 43, 44, 45, 46, 47, 48, 49, 50, 51, 52, 53] [(113, .bool true)] fun a hE => ?_
         refine WQ.done (by kernel_rfl) ?_
         replace H := thicketlaw9_world.shut al_w_ (thicketlaw9_world.mk t_4.2.a_ t_4.2.root0 t_4.2.root1 w_.has0 w_.has1 t_4.2.next t_4.2.spent t_4.2.most) H.t3.t1.t3.t3
         cases hm
         exact hk _ _ ⟨hE.sel [0, 3, 113] (by kernel_rfl), H⟩
        ·replace hE := hE.dec 91 c (by kernel_rfl)
         replace hm := cond_f c hm
         have c_7 := c
         refine WQ.d hE [32, 33, 34, 35, 36, 37, 38, 39, 40, 41, 43] [.pointer (some ⟨al_w_.a__p, 0, none⟩), .int .i64 t_4.2.root0] [(91, .bool false), (95, .pointer (some ⟨al_w_.a__p, 0, none⟩)), (101, .int .i64 t_4.2.root0), (103, .slice al_w_.has0_b w_.has0.length al_w_.has0_c)] (obs := [.cell ⟨p_w_, 0, none⟩ (.pointer (some ⟨al_w_.a__p, 0, none⟩)), .p (0 ≤ (0 : Int) ∧ (0 : Int) < ((2 : Nat) : Int)), .cell ⟨p_w_, 1, none⟩ (.int .i64 t_4.2.root0)]) ⟨H.cell 1 rfl rfl, ⟨by decide, by decide⟩, H.cell 1 rfl rfl, trivial⟩ fun a hE => ?_
         obtain ⟨t_6, et_6, hm⟩ := bind_some hm
         refine WQ.eff (j := 42) (obs := []) hE (by kernel_rfl) rfl rfl rfl rfl (by kernel_rfl) (OpTo.fn hE rfl rfl Tryz.call72 (binomial_All_ok et_6 H.t2)) ?_
         rintro _ w ⟨sb, sc, rfl, H⟩
         refine ⟨trivial, fun a hE => ?_⟩
         obtain ⟨t_7, et_7, hm⟩ := bind_some hm
         replace H := H.t2
         refine WQ.eff (j := 44) (obs := []) hE (by kernel_rfl) rfl rfl rfl rfl (by kernel_rfl) (OpTo.fn hE rfl rfl Tryz.call73 (thicketlaw9_cells_ok (hX_l := (sl_rd 64 thicketlaw9_held.enc 3 _ _ _)) (hC_l := (H.slCap 0 rfl).1) et_7 H)) ?_
         rintro _ w ⟨sb1, sc1, rfl, H⟩
         refine ⟨trivial, fun a hE => ?_⟩
         obtain ⟨t_8, et_8, hm⟩ := bind_some hm
         replace H := H.t2
         refine WQ.eff (j := 45) (obs := []) hE (by kernel_rfl) rfl rfl rfl rfl (by kernel_rfl) (OpTo.fn hE rfl rfl Tryz.call71 (thicketbook_Same_int_ok (hX_a_ := (sl_rd 3 ecI 1 _ _ _)) (hC_a_ := (H.slCap 0 rfl).1) (hX_b := (sl_rd 3 ecI 1 _ _ _)) (hC_b := (H.slCap 1 rfl).1) et_8 H)) ?_
         rintro _ w ⟨rfl, H⟩
         refine ⟨trivial, fun a hE => ?_⟩
         refine WQ.d0 hE [46, 47, 48] [(108, .bool (!t_8))] fun a hE => ?_
         rcases Bool.eq_false_or_eq_true (!t_8) with c | c
         ·replace hE := hE.dec 108 c (by kernel_rfl)
          replace hm := cond_t c hm
          have c_8 := c
          refine WQ.d0 hE [49, 50, 51, 52, 53] [(113, .bool true)] fun a hE => ?_
          refine WQ.done (by kernel_rfl) ?_
          replace H := thicketlaw9_world.shut al_w_ (thicketlaw9_world.mk t_6.2 t_4.2.root0 t_4.2.root1 w_.has0 w_.has1 t_4.2.next t_4.2.spent t_4.2.most) H.t5.t3.t4.t5
          cases hm
          exact hk _ _ ⟨hE.sel [0, 3, 113] (by kernel_rfl), H.x2.x1⟩
         ·replace hE := hE.dec 108 c (by kernel_rfl)
          replace hm := cond_f c hm
          have c_9 := c
          refine WQ.d0 hE [49, 50] [(108, .bool false), (109, .pointer (some ⟨p_w_, 0, none⟩)), (110, .int .i64 0)] fun a hE => ?_
          replace H := thicketlaw9_world.shut al_w_ (thicketlaw9_world.mk t_6.2 t_4.2.root0 t_4.2.root1 w_.has0 w_.has1 t_4.2.next t_4.2.spent t_4.2.most) H.t5.t3.t4.t5
          obtain ⟨t_9, et_9, hm⟩ := bind_some hm
          refine WQ.eff (j := 51) (obs := []) hE (by kernel_rfl) rfl rfl rfl rfl (by kernel_rfl) (OpTo.fn hE rfl rfl Tryz.call74 (thicketlaw9_world_shape_ok et_9 H)) ?_
          rintro _ w ⟨rfl, H⟩
          refine ⟨trivial, fun a hE => ?_⟩
          refine WQ.d0 hE [52, 53] [(113, .bool (!t_9.1))] fun a hE => ?_
          refine WQ.done (by kernel_rfl) ?_
          cases hm
          exact hk _ _ ⟨hE.sel [0, 3, 113] (by kernel_rfl), H.x2.x1⟩
       ·replace hE := hE.dec 80 c (by kernel_rfl)
        replace hm := cond_f c hm
        have c_10 := c
        refine WQ.d hE [21, 22, 23, 24, 25, 26, 27, 28, 29, 30, 31, 32, 33, 34, 35, 36, 37, 38, 39, 40, 41, 43] [.pointer (some ⟨al_w_.a__p, 0, none⟩), .int .i64 t_4.2.root0] [(91, .bool false), (95, .pointer (some ⟨al_w_.a__p, 0, none⟩)), (101, .int .i64 t_4.2.root0), (103, .slice al_w_.has0_b w_.has0.length al_w_.has0_c)] (obs := [.cell ⟨p_w_, 0, none⟩ (.pointer (some ⟨al_w_.a__p, 0, none⟩)), .p (0 ≤ (0 : Int) ∧ (0 : Int) < ((2 : Nat) : Int)), .cell ⟨p_w_, 1, none⟩ (.int .i64 t_4.2.root0)]) ⟨H.cell 0 rfl rfl, ⟨by decide, by decide⟩, H.cell 0 rfl rfl, trivial⟩ fun a hE => ?_
        obtain ⟨t_10, et_10, hm⟩ := bind_some hm
        refine WQ.eff (j := 42) (obs := []) hE (by kernel_rfl) rfl rfl rfl rfl (by kernel_rfl) (OpTo.fn hE rfl rfl Tryz.call72 (binomial_All_ok et_10 H.t1)) ?_
        rintro _ w ⟨sb2, sc2, rfl, H⟩
        refine ⟨trivial, fun a hE => ?_⟩
        obtain ⟨t_11, et_11, hm⟩ := bind_some hm
        replace H := H.t3
        refine WQ.eff (j := 44) (obs := []) hE (by kernel_rfl) rfl rfl rfl rfl (by kernel_rfl) (OpTo.fn hE rfl rfl Tryz.call73 (thicketlaw9_cells_ok (hX_l := (sl_rd 64 thicketlaw9_held.enc 3 _ _ _)) (hC_l := (H.slCap 0 rfl).1) et_11 H)) ?_
        rintro _ w ⟨sb3, sc3, rfl, H⟩
        refine ⟨trivial, fun a hE => ?_⟩
        obtain ⟨t_12, et_12, hm⟩ := bind_some hm
        replace H := H.t2
        refine WQ.eff (j := 45) (obs := []) hE (by kernel_rfl) rfl rfl rfl rfl (by kernel_rfl) (OpTo.fn hE rfl rfl Tryz.call71 (thicketbook_Same_int_ok (hX_a_ := (sl_rd 3 ecI 1 _ _ _)) (hC_a_ := (H.slCap 0 rfl).1) (hX_b := (sl_rd 3 ecI 1 _ _ _)) (hC_b := (H.slCap 1 rfl).1) et_12 H)) ?_
        rintro _ w ⟨rfl, H⟩
        refine ⟨trivial, fun a hE => ?_⟩
        refine WQ.d0 hE [46, 47, 48] [(108, .bool (!t_12))] fun a hE => ?_
        rcases Bool.eq_false_or_eq_true (!t_12) with c | c
        ·replace hE := hE.dec 108 c (by kernel_rfl)
         replace hm := cond_t c hm
         have c_11 := c
         refine WQ.d0 hE [49, 50, 51, 52, 53] [(113, .bool true)] fun a hE => ?_
         refine WQ.done (by kernel_rfl) ?_
         replace H := thicketlaw9_world.shut al_w_ (thicketlaw9_world.mk t_10.2 t_4.2.root0 t_4.2.root1 w_.has0 w_.has1 t_4.2.next t_4.2.spent t_4.2.most) H.t5.t3.t4.t5
         cases hm
         exact hk _ _ ⟨hE.sel [0, 3, 113] (by kernel_rfl), H.x2.x1⟩
        ·replace hE := hE.dec 108 c (by kernel_rfl)
         replace hm := cond_f c hm
         have c_12 := c
         refine WQ.d0 hE [49, 50] [(108, .bool false), (109, .pointer (some ⟨p_w_, 0, none⟩)), (110, .int .i64 0)] fun a hE => ?_
         replace H := thicketlaw9_world.shut al_w_ (thicketlaw9_world.mk t_10.2 t_4.2.root0 t_4.2.root1 w_.has0 w_.has1 t_4.2.next t_4.2.spent t_4.2.most) H.t5.t3.t4.t5
         obtain ⟨t_13, et_13, hm⟩ := bind_some hm
         refine WQ.eff (j := 51) (obs := []) hE (by kernel_rfl) rfl rfl rfl rfl (by kernel_rfl) (OpTo.fn hE rfl rfl Tryz.call74 (thicketlaw9_world_shape_ok et_13 H)) ?_
         rintro _ w ⟨rfl, H⟩
         refine ⟨trivial, fun a hE => ?_⟩
         refine WQ.d0 hE [52, 53] [(113, .bool (!t_13.1))] fun a hE => ?_
         refine WQ.done (by kernel_rfl) ?_
         cases hm
         exact hk _ _ ⟨hE.sel [0, 3, 113] (by kernel_rfl), H.x2.x1⟩
    ·replace hE := hE.dec 63 c (by kernel_rfl)
     replace hm := cond_f c hm
     have c_13 := c
     refine WQ.d0 hE [4, 5, 6, 7, 8, 9, 10, 11, 12, 13, 14, 15, 16, 17, 18, 19, 20] [(76, .bool false), (80, .bool (decide ((w_.has0.length : Int) > 0)))] fun a hE => ?_
     rcases Bool.eq_false_or_eq_true (decide ((w_.has0.length : Int) > 0)) with c | c
     ·replace hE := hE.dec 80 c (by kernel_rfl)
      replace hm := cond_t c hm
      have c_14 := c
      refine WQ.d0 hE [21, 22, 23] [(80, .bool true), (81, .int .i64 t_3.1), (82, .slice al_w_.has0_b w_.has0.length al_w_.has0_c), (83, .slice al_w_.has0_b w_.has0.length al_w_.has0_c)] fun a hE => ?_
      obtain ⟨t_14, et_14, hm⟩ := bind_some hm
      replace H := H.t2
      refine WQ.eff (j := 24) (obs := []) hE (by kernel_rfl) rfl rfl rfl rfl (by kernel_rfl) (OpTo.fn hE rfl rfl Tryz.call68 (thicketlaw9_least_ok (hX_l := (sl_rd 64 thicketlaw9_held.enc 3 _ _ _)) (hC_l := (H.slCap 0 rfl).1) et_14 H)) ?_
      rintro _ w ⟨rfl, H⟩
      refine ⟨trivial, fun a hE => ?_⟩
      obtain ⟨x1, ex1, hm⟩ := bind_some hm
      obtain ⟨b1, o1, hs1, hb1⟩ := SlRd.base (sl_rd 64 thicketlaw9_held.enc 3 _ _ _) thicketlaw9_held.enc_ok H 0 rfl ex1
      refine WQ.d hE [25, 26, 27, 28, 29, 30, 31] [.pointer (some ⟨b1, o1, none⟩), .int .i64 x1.cell] [(91, .bool (t_3.1 != x1.cell))] (obs := [.p ((al_w_.has0_b : Option Addr) = some ⟨b1, o1, none⟩), .p (0 ≤ (t_14 : Int) ∧ (t_14 : Int) < ((w_.has0.length : Nat) : Int)), .cell ⟨b1, o1 + (Int.toNat t_14) * 3, none⟩ (.int .i64 x1.cell)]) ⟨hs1, hb1, SlRd.cells (sl_rd 64 thicketlaw9_held.enc 3 _ _ _) thicketlaw9_held.enc_ok H 0 rfl hs1 ex1 0 _ rfl, trivial⟩ fun a hE => ?_
      rcases Bool.eq_false_or_eq_true (t_3.1 != x1.cell) with c | c
      ·replace hE := hE.dec 91 c (by kernel_rfl)
       replace hm := cond_t c hm
       have c_15 := c
       refine WQ.d0 hE [32, 33, 34, 35, 36, 37, 38, 39, 40, 41, 42, 43, 44, 45, 46, 47, 48, 49, 50, 51, 52, 53] [(113, .bool true)] fun a hE => ?_
       refine WQ.done (by kernel_rfl) ?_
       replace H := thicketlaw9_world.shut al_w_ (thicketlaw9_world.mk t_4.2.a_ t_4.2.root0 t_4.2.root1 w_.has0 w_.has1 t_4.2.next t_4.2.spent t_4.2.most) H.t3.t1.t3.t3
       cases hm
       exact hk _ _ ⟨hE.sel [0, 3, 113] (by kernel_rfl), H⟩
      ·replace hE := hE.dec 91 c (by kernel_rfl)
       replace hm := cond_f c hm
       have c_16 := c
       refine WQ.d hE [32, 33, 34, 35, 36, 37, 38, 39, 40, 41, 43] [.pointer (some ⟨al_w_.a__p, 0, none⟩), .int .i64 t_4.2.root0] [(91, .bool false), (95, .pointer (some ⟨al_w_.a__p, 0, none⟩)), (101, .int .i64 t_4.2.root0), (103, .slice al_w_.has0_b w_.has0.length al_w_.has0_c)] (obs := [.cell ⟨p_w_, 0, none⟩ (.pointer (some ⟨al_w_.a__p, 0, none⟩)), .p (0 ≤ (0 : Int) ∧ (0 : Int) < ((2 : Nat) : Int)), .cell ⟨p_w_, 1, none⟩ (.int .i64 t_4.2.root0)]) ⟨H.cell 1 rfl rfl, ⟨by decide, by decide⟩, H.cell 1 rfl rfl, trivial⟩ fun a hE => ?_
       obtain ⟨t_15, et_15, hm⟩ := bind_some hm
       refine WQ.eff (j := 42) (obs := []) hE (by kernel_rfl) rfl rfl rfl rfl (by kernel_rfl) (OpTo.fn hE rfl rfl Tryz.call72 (binomial_All_ok et_15 H.t2)) ?_
       rintro _ w ⟨sb4, sc4, rfl, H⟩
       refine ⟨trivial, fun a hE => ?_⟩
       obtain ⟨t_16, et_16, hm⟩ := bind_some hm
       replace H := H.t2
       refine WQ.eff (j := 44) (obs := []) hE (by kernel_rfl) rfl rfl rfl rfl (by kernel_rfl) (OpTo.fn hE rfl rfl Tryz.call73 (thicketlaw9_cells_ok (hX_l := (sl_rd 64 thicketlaw9_held.enc 3 _ _ _)) (hC_l := (H.slCap 0 rfl).1) et_16 H)) ?_
       rintro _ w ⟨sb5, sc5, rfl, H⟩
       refine ⟨trivial, fun a hE => ?_⟩
       obtain ⟨t_17, et_17, hm⟩ := bind_some hm
       replace H := H.t2
       refine WQ.eff (j := 45) (obs := []) hE (by kernel_rfl) rfl rfl rfl rfl (by kernel_rfl) (OpTo.fn hE rfl rfl Tryz.call71 (thicketbook_Same_int_ok (hX_a_ := (sl_rd 3 ecI 1 _ _ _)) (hC_a_ := (H.slCap 0 rfl).1) (hX_b := (sl_rd 3 ecI 1 _ _ _)) (hC_b := (H.slCap 1 rfl).1) et_17 H)) ?_
       rintro _ w ⟨rfl, H⟩
       refine ⟨trivial, fun a hE => ?_⟩
       refine WQ.d0 hE [46, 47, 48] [(108, .bool (!t_17))] fun a hE => ?_
       rcases Bool.eq_false_or_eq_true (!t_17) with c | c
       ·replace hE := hE.dec 108 c (by kernel_rfl)
        replace hm := cond_t c hm
        have c_17 := c
        refine WQ.d0 hE [49, 50, 51, 52, 53] [(113, .bool true)] fun a hE => ?_
        refine WQ.done (by kernel_rfl) ?_
        replace H := thicketlaw9_world.shut al_w_ (thicketlaw9_world.mk t_15.2 t_4.2.root0 t_4.2.root1 w_.has0 w_.has1 t_4.2.next t_4.2.spent t_4.2.most) H.t5.t3.t4.t5
        cases hm
        exact hk _ _ ⟨hE.sel [0, 3, 113] (by kernel_rfl), H.x2.x1⟩
       ·replace hE := hE.dec 108 c (by kernel_rfl)
        replace hm := cond_f c hm
        have c_18 := c
        refine WQ.d0 hE [49, 50] [(108, .bool false), (109, .pointer (some ⟨p_w_, 0, none⟩)), (110, .int .i64 0)] fun a hE => ?_
        replace H := thicketlaw9_world.shut al_w_ (thicketlaw9_world.mk t_15.2 t_4.2.root0 t_4.2.root1 w_.has0 w_.has1 t_4.2.next t_4.2.spent t_4.2.most) H.t5.t3.t4.t5
        obtain ⟨t_18, et_18, hm⟩ := bind_some hm
        refine WQ.eff (j := 51) (obs := []) hE (by kernel_rfl) rfl rfl rfl rfl (by kernel_rfl) (OpTo.fn hE rfl rfl Tryz.call74 (thicketlaw9_world_shape_ok et_18 H)) ?_
        rintro _ w ⟨rfl, H⟩
        refine ⟨trivial, fun a hE => ?_⟩
        refine WQ.d0 hE [52, 53] [(113, .bool (!t_18.1))] fun a hE => ?_
        refine WQ.done (by kernel_rfl) ?_
        cases hm
        exact hk _ _ ⟨hE.sel [0, 3, 113] (by kernel_rfl), H.x2.x1⟩
     ·replace hE := hE.dec 80 c (by kernel_rfl)
      replace hm := cond_f c hm
      have c_19 := c
      refine WQ.d hE [21, 22, 23, 24, 25, 26, 27, 28, 29, 30, 31, 32, 33, 34, 35, 36, 37, 38, 39, 40, 41, 43] [.pointer (some ⟨al_w_.a__p, 0, none⟩), .int .i64 t_4.2.root0] [(91, .bool false), (95, .pointer (some ⟨al_w_.a__p, 0, none⟩)), (101, .int .i64 t_4.2.root0), (103, .slice al_w_.has0_b w_.has0.length al_w_.has0_c)] (obs := [.cell ⟨p_w_, 0, none⟩ (.pointer (some ⟨al_w_.a__p, 0, none⟩)), .p (0 ≤ (0 : Int) ∧ (0 : Int) < ((2 : Nat) : Int)), .cell ⟨p_w_, 1, none⟩ (.int .i64 t_4.2.root0)]) ⟨H.cell 0 rfl rfl, ⟨by decide, by decide⟩, H.cell 0 rfl rfl, trivial⟩ fun a hE => ?_
      obtain ⟨t_19, et_19, hm⟩ := bind_some hm
      refine WQ.eff (j := 42) (obs := []) hE (by kernel_rfl) rfl rfl rfl rfl (by kernel_rfl) (OpTo.fn hE rfl rfl Tryz.call72 (binomial_All_ok et_19 H.t1)) ?_
      rintro _ w ⟨sb6, sc6, rfl, H⟩
      refine ⟨trivial, fun a hE => ?_⟩
      obtain ⟨t_20, et_20, hm⟩ := bind_some hm
      replace H := H.t3
      refine WQ.eff (j := 44) (obs := []) hE (by kernel_rfl) rfl rfl rfl rfl (by kernel_rfl) (OpTo.fn hE rfl rfl Tryz.call73 (thicketlaw9_cells_ok (hX_l := (sl_rd 64 thicketlaw9_held.enc 3 _ _ _)) (hC_l := (H.slCap 0 rfl).1) et_20 H)) ?_
      rintro _ w ⟨sb7, sc7, rfl, H⟩
      refine ⟨trivial, fun a hE => ?_⟩
      obtain ⟨t_21, et_21, hm⟩ := bind_some hm
      replace H := H.t2
      refine WQ.eff (j := 45) (obs := []) hE (by kernel_rfl) rfl rfl rfl rfl (by kernel_rfl) (OpTo.fn hE rfl rfl Tryz.call71 (thicketbook_Same_int_ok (hX_a_ := (sl_rd 3 ecI 1 _ _ _)) (hC_a_ := (H.slCap 0 rfl).1) (hX_b := (sl_rd 3 ecI 1 _ _ _)) (hC_b := (H.slCap 1 rfl).1) et_21 H)) ?_
      rintro _ w ⟨rfl, H⟩
      refine ⟨trivial, fun a hE => ?_⟩
      refine WQ.d0 hE [46, 47, 48] [(108, .bool (!t_21))] fun a hE => ?_
      rcases Bool.eq_false_or_eq_true (!t_21) with c | c
      ·replace hE := hE.dec 108 c (by kernel_rfl)
       replace hm := cond_t c hm
       have c_20 := c
       refine WQ.d0 hE [49, 50, 51, 52, 53] [(113, .bool true)] fun a hE => ?_
       refine WQ.done (by kernel_rfl) ?_
       replace H := thicketlaw9_world.shut al_w_ (thicketlaw9_world.mk t_19.2 t_4.2.root0 t_4.2.root1 w_.has0 w_.has1 t_4.2.next t_4.2.spent t_4.2.most) H.t5.t3.t4.t5
       cases hm
       exact hk _ _ ⟨hE.sel [0, 3, 113] (by kernel_rfl), H.x2.x1⟩
      ·replace hE := hE.dec 108 c (by kernel_rfl)
       replace hm := cond_f c hm
       have c_21 := c
       refine WQ.d0 hE [49, 50] [(108, .bool false), (109, .pointer (some ⟨p_w_, 0, none⟩)), (110, .int .i64 0)] fun a hE => ?_
       replace H := thicketlaw9_world.shut al_w_ (thicketlaw9_world.mk t_19.2 t_4.2.root0 t_4.2.root1 w_.has0 w_.has1 t_4.2.next t_4.2.spent t_4.2.most) H.t5.t3.t4.t5
       obtain ⟨t_22, et_22, hm⟩ := bind_some hm
       refine WQ.eff (j := 51) (obs := []) hE (by kernel_rfl) rfl rfl rfl rfl (by kernel_rfl) (OpTo.fn hE rfl rfl Tryz.call74 (thicketlaw9_world_shape_ok et_22 H)) ?_
       rintro _ w ⟨rfl, H⟩
       refine ⟨trivial, fun a hE => ?_⟩
       refine WQ.d0 hE [52, 53] [(113, .bool (!t_22.1))] fun a hE => ?_
       refine WQ.done (by kernel_rfl) ?_
       cases hm
       exact hk _ _ ⟨hE.sel [0, 3, 113] (by kernel_rfl), H.x2.x1⟩
   rintro a w ⟨hE, H⟩
   refine Runs.cond hE rfl (fun c => ?_) (fun c => ?_)
   ·replace hm := cond_t c hm
    refine Runs.sr ?_
    refine WR.seg hE 1 [] [2] (Lo := [(2, .bool false)]) (obs := []) rfl (by kernel_rfl) trivial fun a hE => ?_
    refine WR.done rfl ?_
    refine Runs.ret hE Tryz.func32 rfl rfl ?_
    cases hm
    exact ⟨rfl, H⟩
   ·replace hm := cond_f c hm
    refine Runs.skip ?_
    refine Runs.inBlock ?_
    refine Runs.region ?_
    refine WR.seg hE 3 [] [0, 3] (Lo := [(0, .pointer (some ⟨p_w_, 0, none⟩)), (3, .int .i64 1)]) (obs := []) rfl (by kernel_rfl) trivial fun a hE => ?_
    refine WR.done rfl ?_
    refine Runs.inLoop ?_
    refine Runs.seq ?_
    refine Runs.sr ?_
    refine WR.e0 hE [(28, .bool true)] fun a hE => ?_
    refine Runs.condT hE rfl ?_
    refine Runs.skip ?_
    refine Runs.seq ?_
    refine Runs.block ?_
    refine Runs.sr ?_
    replace H := thicketlaw9_world.open H
    refine WR.e hE [.slice al_w_.has1_b s.2.has1.length al_w_.has1_c] [(4, .slice al_w_.has1_b s.2.has1.length al_w_.has1_c)] (obs := [.p (0 ≤ (1 : Int) ∧ (1 : Int) < ((2 : Nat) : Int)), .cell ⟨p_w_, 4, none⟩ (.slice al_w_.has1_b s.2.has1.length al_w_.has1_c)]) ⟨⟨by decide, by decide⟩, H.cell 0 rfl rfl, trivial⟩ fun a hE => ?_
    refine Runs.sr ?_
    refine WR.d hE 4 [.pointer (some ⟨al_w_.a__p, 0, none⟩)] [(40, .pointer (some ⟨al_w_.a__p, 0, none⟩))] (obs := [.cell ⟨p_w_, 0, none⟩ (.pointer (some ⟨al_w_.a__p, 0, none⟩))]) ⟨H.cell 0 rfl rfl, trivial⟩ fun a hE => ?_
    obtain ⟨t_23, et_23, hm⟩ := bind_some hm
    refine WR.eff hE rfl rfl rfl rfl (OpTo.fn hE rfl rfl Tryz.call20 (arena_Arena_Meter_ok et_23 H.t1)) ?_
    rintro _ w ⟨rfl, H⟩ a hE
    replace H := arena_Arena.open H
    obtain ⟨t_24, et_24, hm⟩ := bind_some hm
    refine WR.eff hE rfl rfl rfl rfl (OpTo.fn hE rfl rfl Tryz.call21 (meter_Meter_Steps_ok et_24 H.t3)) ?_
    rintro _ w ⟨rfl, H⟩ a hE
    refine WR.e0 hE [(5, .int .i64 t_24)] fun a hE => ?_
    refine Runs.seq ?_
    refine Runs.drawn mixed (by kernel_rfl) ?_
    replace H := H.drew
    refine WQ.d hE [0, 1, 2, 3, 4, 5, 6, 7, 8, 9] [.pointer (some ⟨al_w_.a__p, 0, none⟩), .int .i64 s.2.root1] [(46, .pointer (some ⟨al_w_.a__p, 0, none⟩)), (52, .int .i64 s.2.root1)] (obs := [.cell ⟨p_w_, 0, none⟩ (.pointer (some ⟨al_w_.a__p, 0, none⟩)), .p (0 ≤ (1 : Int) ∧ (1 : Int) < ((2 : Nat) : Int)), .cell ⟨p_w_, 2, none⟩ (.int .i64 s.2.root1)]) ⟨H.cell 4 rfl rfl, ⟨by decide, by decide⟩, H.cell 4 rfl rfl, trivial⟩ fun a hE => ?_
    replace H := arena_Arena.shut al_w_.a__a (s.2.a_) H.t3.t3.t3
    obtain ⟨t_25, et_25, hm⟩ := bind_some hm
    refine WQ.eff (j := 10) (obs := []) hE (by kernel_rfl) rfl rfl rfl rfl (by kernel_rfl) (OpTo.fn hE rfl rfl Tryz.call35 (binomial_Min_ok et_25 H)) ?_
    rintro _ w ⟨rfl, H⟩
    refine ⟨trivial, fun a hE => ?_⟩
    refine WQ.d0 hE [11] [(6, .int .i64 t_25.1)] fun a hE => ?_
    refine WQ.done (by kernel_rfl) ?_
    refine Runs.seq ?_
    refine Runs.sr ?_
    refine WR.d0 hE 4 [(54, .pointer (some ⟨p_w_, 0, none⟩)), (55, .int .i64 t_24), (57, .int .i64 (s.2.has1.length : Int))] fun a hE => ?_
    replace H := thicketlaw9_world.shut al_w_ (thicketlaw9_world.mk t_25.2 s.2.root0 s.2.root1 s.2.has0 s.2.has1 s.2.next s.2.spent s.2.most) H.t3.t3.t2.t3
    obtain ⟨t_26, et_26, hm⟩ := bind_some hm
    refine WR.eff hE rfl rfl rfl rfl (OpTo.fn hE rfl rfl Tryz.call23 (thicketlaw9_world_cost_ok et_26 H)) ?_
    rintro _ w ⟨rfl, hf2, hf3, H⟩ a hE
    refine WR.e0 hE [(59, .bool (!t_26.1))] fun a hE => ?_
    refine Runs.cond hE rfl (fun c => ?_) (fun c => ?_)
    ·replace hm := cond_t c hm
     refine Runs.sr ?_
     refine WR.e0 hE [(2, .bool false)] fun a hE => ?_
     refine Runs.ret hE Tryz.func32 rfl rfl ?_
     cases hm
     exact ⟨rfl, H⟩
    ·replace hm := cond_f c hm
     refine Runs.skip ?_
     refine Runs.seq ?_
     obtain ⟨s1, es1, hm⟩ := bind_some hm
     refine Runs.join (fun a w => EnvOk 114 a [(0, .pointer (some ⟨p_w_, 0, none⟩)), (3, .int .i64 1), (113, .bool s1.1)] ∧ St w0 (thicketlaw9_world.R p_w_ al_w_ s1.2 :: As) w) (fun hk => ?_) ?_
     ·replace hm := es1; clear es1
      refine Runs.drawn mixed (by kernel_rfl) ?_
      replace H := H.drew
      replace H := thicketlaw9_world.open H
      try rw [hf2] at H
      try rw [hf3] at H
      try dsimp only at H
      refine WQ.d0 hE [0, 1, 2, 3] [(63, .bool ((s.2.has1.length : Int) == 0))] fun a hE => ?_
      rcases Bool.eq_false_or_eq_true ((s.2.has1.length : Int) == 0) with c | c
      ·replace hE := hE.dec 63 c (by kernel_rfl)
       replace hm := cond_t c hm
       have c_22 := c
       refine WQ.d0 hE [4, 5, 6] [(63, .bool true), (66, .bool (t_25.1 != (-1)))] fun a hE => ?_
       rcases Bool.eq_false_or_eq_true (t_25.1 != (-1)) with c | c
       ·replace hE := hE.dec 66 c (by kernel_rfl)
        replace hm := cond_t c hm
        have c_23 := c
        refine WQ.d0 hE [7, 8, 9, 10, 11, 12, 13, 14, 15, 16, 17, 18, 19, 20, 21, 22, 23, 24, 25, 26, 27, 28, 29, 30, 31, 32, 33, 34, 35, 36, 37, 38, 39, 40, 41, 42, 43, 44, 45, 46, 47, 48, 49, 50, 51, 52, 53] [(113, .bool true)] fun a hE => ?_
        refine WQ.done (by kernel_rfl) ?_
        replace H := thicketlaw9_world.shut al_w_ (thicketlaw9_world.mk t_26.2.a_ t_26.2.root0 t_26.2.root1 s.2.has0 s.2.has1 t_26.2.next t_26.2.spent t_26.2.most) H.t3.t3.t3.t3
        cases hm
        exact hk _ _ ⟨hE.sel [0, 3, 113] (by kernel_rfl), H⟩
       ·replace hE := hE.dec 66 c (by kernel_rfl)
        replace hm := cond_f c hm
        have c_24 := c
        refine WQ.d hE [7, 8, 9, 10, 11, 12, 13, 14, 15, 16] [.int .i64 t_26.2.root1] [(76, .bool (t_26.2.root1 != (-1)))] (obs := [.p (0 ≤ (1 : Int) ∧ (1 : Int) < ((2 : Nat) : Int)), .cell ⟨p_w_, 2, none⟩ (.int .i64 t_26.2.root1)]) ⟨⟨by decide, by decide⟩, H.cell 0 rfl rfl, trivial⟩ fun a hE => ?_
        rcases Bool.eq_false_or_eq_true (t_26.2.root1 != (-1)) with c | c
        ·replace hE := hE.dec 76 c (by kernel_rfl)
         replace hm := cond_t c hm
         have c_25 := c
         refine WQ.d0 hE [17, 18, 19, 20, 21, 22, 23, 24, 25, 26, 27, 28, 29, 30, 31, 32, 33, 34, 35, 36, 37, 38, 39, 40, 41, 42, 43, 44, 45, 46, 47, 48, 49, 50, 51, 52, 53] [(113, .bool true)] fun a hE => ?_
         refine WQ.done (by kernel_rfl) ?_
         replace H := thicketlaw9_world.shut al_w_ (thicketlaw9_world.mk t_26.2.a_ t_26.2.root0 t_26.2.root1 s.2.has0 s.2.has1 t_26.2.next t_26.2.spent t_26.2.most) H.t3.t3.t3.t3
         cases hm
         exact hk _ _ ⟨hE.sel [0, 3, 113] (by kernel_rfl), H⟩
        ·replace hE := hE.dec 76 c (by kernel_rfl)
         replace hm := cond_f c hm
         have c_26 := c
         refine WQ.d0 hE [17, 18, 19, 20] [(76, .bool false), (80, .bool (decide ((s.2.has1.length : Int) > 0)))] fun a hE => ?_
         rcases Bool.eq_false_or_eq_true (decide ((s.2.has1.length : Int) > 0)) with c | c
         ·replace hE := hE.dec 80 c (by kernel_rfl)
          replace hm := cond_t c hm
          have c_27 := c
          refine WQ.d0 hE [21, 22, 23] [(80, .bool true), (81, .int .i64 t_25.1), (82, .slice al_w_.has1_b s.2.has1.length al_w_.has1_c), (83, .slice al_w_.has1_b s.2.has1.length al_w_.has1_c)] fun a hE => ?_
          obtain ⟨t_27, et_27, hm⟩ := bind_some hm
          replace H := H.t3
          refine WQ.eff (j := 24) (obs := []) hE (by kernel_rfl) rfl rfl rfl rfl (by kernel_rfl) (OpTo.fn hE rfl rfl Tryz.call68 (thicketlaw9_least_ok (hX_l := (sl_rd 64 thicketlaw9_held.enc 3 _ _ _)) (hC_l := (H.slCap 0 rfl).1) et_27 H)) ?_
          rintro _ w ⟨rfl, H⟩
          refine ⟨trivial, fun a hE => ?_⟩
          obtain ⟨x2, ex2, hm⟩ := bind_some hm
          obtain ⟨b2, o2, hs2, hb2⟩ := SlRd.base (sl_rd 64 thicketlaw9_held.enc 3 _ _ _) thicketlaw9_held.enc_ok H 0 rfl ex2
          refine WQ.d hE [25, 26, 27, 28, 29, 30, 31] [.pointer (some ⟨b2, o2, none⟩), .int .i64 x2.cell] [(91, .bool (t_25.1 != x2.cell))] (obs := [.p ((al_w_.has1_b : Option Addr) = some ⟨b2, o2, none⟩), .p (0 ≤ (t_27 : Int) ∧ (t_27 : Int) < ((s.2.has1.length : Nat) : Int)), .cell ⟨b2, o2 + (Int.toNat t_27) * 3, none⟩ (.int .i64 x2.cell)]) ⟨hs2, hb2, SlRd.cells (sl_rd 64 thicketlaw9_held.enc 3 _ _ _) thicketlaw9_held.enc_ok H 0 rfl hs2 ex2 0 _ rfl, trivial⟩ fun a hE => ?_
          rcases Bool.eq_false_or_eq_true (t_25.1 != x2.cell) with c | c
          ·replace hE := hE.dec 91 c (by kernel_rfl)
           replace hm := cond_t c hm
           have c_28 := c
           refine WQ.d0 hE [32, 33, 34, 35, 36, 37, 38, 39, 40, 41, 42, 43, 44, 45, 46, 47, 48, 49, 50, 51, 52, 53] [(113, .bool true)] fun a hE => ?_
           refine WQ.done (by kernel_rfl) ?_
           replace H := thicketlaw9_world.shut al_w_ (thicketlaw9_world.mk t_26.2.a_ t_26.2.root0 t_26.2.root1 s.2.has0 s.2.has1 t_26.2.next t_26.2.spent t_26.2.most) H.t3.t3.t3
           cases hm
           exact hk _ _ ⟨hE.sel [0, 3, 113] (by kernel_rfl), H⟩
          ·replace hE := hE.dec 91 c (by kernel_rfl)
           replace hm := cond_f c hm
           have c_29 := c
           refine WQ.d hE [32, 33, 34, 35, 36, 37, 38, 39, 40, 41, 43] [.pointer (some ⟨al_w_.a__p, 0, none⟩), .int .i64 t_26.2.root1] [(91, .bool false), (95, .pointer (some ⟨al_w_.a__p, 0, none⟩)), (101, .int .i64 t_26.2.root1), (103, .slice al_w_.has1_b s.2.has1.length al_w_.has1_c)] (obs := [.cell ⟨p_w_, 0, none⟩ (.pointer (some ⟨al_w_.a__p, 0, none⟩)), .p (0 ≤ (1 : Int) ∧ (1 : Int) < ((2 : Nat) : Int)), .cell ⟨p_w_, 2, none⟩ (.int .i64 t_26.2.root1)]) ⟨H.cell 1 rfl rfl, ⟨by decide, by decide⟩, H.cell 1 rfl rfl, trivial⟩ fun a hE => ?_
           obtain ⟨t_28, et_28, hm⟩ := bind_some hm
           refine WQ.eff (j := 42) (obs := []) hE (by kernel_rfl) rfl rfl rfl rfl (by kernel_rfl) (OpTo.fn hE rfl rfl Tryz.call72 (binomial_All_ok et_28 H.t2)) ?_
           rintro _ w ⟨sb8, sc8, rfl, H⟩
           refine ⟨trivial, fun a hE => ?_⟩
           obtain ⟨t_29, et_29, hm⟩ := bind_some hm
           replace H := H.t2
           refine WQ.eff (j := 44) (obs := []) hE (by kernel_rfl) rfl rfl rfl rfl (by kernel_rfl) (OpTo.fn hE rfl rfl Tryz.call73 (thicketlaw9_cells_ok (hX_l := (sl_rd 64 thicketlaw9_held.enc 3 _ _ _)) (hC_l := (H.slCap 0 rfl).1) et_29 H)) ?_
           rintro _ w ⟨sb9, sc9, rfl, H⟩
           refine ⟨trivial, fun a hE => ?_⟩
           obtain ⟨t_30, et_30, hm⟩ := bind_some hm
           replace H := H.t2
           refine WQ.eff (j := 45) (obs := []) hE (by kernel_rfl) rfl rfl rfl rfl (by kernel_rfl) (OpTo.fn hE rfl rfl Tryz.call71 (thicketbook_Same_int_ok (hX_a_ := (sl_rd 3 ecI 1 _ _ _)) (hC_a_ := (H.slCap 0 rfl).1) (hX_b := (sl_rd 3 ecI 1 _ _ _)) (hC_b := (H.slCap 1 rfl).1) et_30 H)) ?_
           rintro _ w ⟨rfl, H⟩
           refine ⟨trivial, fun a hE => ?_⟩
           refine WQ.d0 hE [46, 47, 48] [(108, .bool (!t_30))] fun a hE => ?_
           rcases Bool.eq_false_or_eq_true (!t_30) with c | c
           ·replace hE := hE.dec 108 c (by kernel_rfl)
            replace hm := cond_t c hm
            have c_30 := c
            refine WQ.d0 hE [49, 50, 51, 52, 53] [(113, .bool true)] fun a hE => ?_
            refine WQ.done (by kernel_rfl) ?_
            replace H := thicketlaw9_world.shut al_w_ (thicketlaw9_world.mk t_28.2 t_26.2.root0 t_26.2.root1 s.2.has0 s.2.has1 t_26.2.next t_26.2.spent t_26.2.most) H.t2.t5.t4.t5
            cases hm
            exact hk _ _ ⟨hE.sel [0, 3, 113] (by kernel_rfl), H.x2.x1⟩
           ·replace hE := hE.dec 108 c (by kernel_rfl)
            replace hm := cond_f c hm
            have c_31 := c
            refine WQ.d0 hE [49, 50] [(108, .bool false), (109, .pointer (some ⟨p_w_, 0, none⟩)), (110, .int .i64 1)] fun a hE => ?_
            replace H := thicketlaw9_world.shut al_w_ (thicketlaw9_world.mk t_28.2 t_26.2.root0 t_26.2.root1 s.2.has0 s.2.has1 t_26.2.next t_26.2.spent t_26.2.most) H.t2.t5.t4.t5
            obtain ⟨t_31, et_31, hm⟩ := bind_some hm
            refine WQ.eff (j := 51) (obs := []) hE (by kernel_rfl) rfl rfl rfl rfl (by kernel_rfl) (OpTo.fn hE rfl rfl Tryz.call74 (thicketlaw9_world_shape_ok et_31 H)) ?_
            rintro _ w ⟨rfl, H⟩
            refine ⟨trivial, fun a hE => ?_⟩
            refine WQ.d0 hE [52, 53] [(113, .bool (!t_31.1))] fun a hE => ?_
            refine WQ.done (by kernel_rfl) ?_
            cases hm
            exact hk _ _ ⟨hE.sel [0, 3, 113] (by kernel_rfl), H.x2.x1⟩
         ·replace hE := hE.dec 80 c (by kernel_rfl)
          replace hm := cond_f c hm
          have c_32 := c
          refine WQ.d hE [21, 22, 23, 24, 25, 26, 27, 28, 29, 30, 31, 32, 33, 34, 35, 36, 37, 38, 39, 40, 41, 43] [.pointer (some ⟨al_w_.a__p, 0, none⟩), .int .i64 t_26.2.root1] [(91, .bool false), (95, .pointer (some ⟨al_w_.a__p, 0, none⟩)), (101, .int .i64 t_26.2.root1), (103, .slice al_w_.has1_b s.2.has1.length al_w_.has1_c)] (obs := [.cell ⟨p_w_, 0, none⟩ (.pointer (some ⟨al_w_.a__p, 0, none⟩)), .p (0 ≤ (1 : Int) ∧ (1 : Int) < ((2 : Nat) : Int)), .cell ⟨p_w_, 2, none⟩ (.int .i64 t_26.2.root1)]) ⟨H.cell 0 rfl rfl, ⟨by decide, by decide⟩, H.cell 0 rfl rfl, trivial⟩ fun a hE => ?_
          obtain ⟨t_32, et_32, hm⟩ := bind_some hm
          refine WQ.eff (j := 42) (obs := []) hE (by kernel_rfl) rfl rfl rfl rfl (by kernel_rfl) (OpTo.fn hE rfl rfl Tryz.call72 (binomial_All_ok et_32 H.t1)) ?_
          rintro _ w ⟨sb10, sc10, rfl, H⟩
          refine ⟨trivial, fun a hE => ?_⟩
          obtain ⟨t_33, et_33, hm⟩ := bind_some hm
          replace H := H.t4
          refine WQ.eff (j := 44) (obs := []) hE (by kernel_rfl) rfl rfl rfl rfl (by kernel_rfl) (OpTo.fn hE rfl rfl Tryz.call73 (thicketlaw9_cells_ok (hX_l := (sl_rd 64 thicketlaw9_held.enc 3 _ _ _)) (hC_l := (H.slCap 0 rfl).1) et_33 H)) ?_
          rintro _ w ⟨sb11, sc11, rfl, H⟩
          refine ⟨trivial, fun a hE => ?_⟩
          obtain ⟨t_34, et_34, hm⟩ := bind_some hm
          replace H := H.t2
          refine WQ.eff (j := 45) (obs := []) hE (by kernel_rfl) rfl rfl rfl rfl (by kernel_rfl) (OpTo.fn hE rfl rfl Tryz.call71 (thicketbook_Same_int_ok (hX_a_ := (sl_rd 3 ecI 1 _ _ _)) (hC_a_ := (H.slCap 0 rfl).1) (hX_b := (sl_rd 3 ecI 1 _ _ _)) (hC_b := (H.slCap 1 rfl).1) et_34 H)) ?_
          rintro _ w ⟨rfl, H⟩
          refine ⟨trivial, fun a hE => ?_⟩
          refine WQ.d0 hE [46, 47, 48] [(108, .bool (!t_34))] fun a hE => ?_
          rcases Bool.eq_false_or_eq_true (!t_34) with c | c
          ·replace hE := hE.dec 108 c (by kernel_rfl)
           replace hm := cond_t c hm
           have c_33 := c
           refine WQ.d0 hE [49, 50, 51, 52, 53] [(113, .bool true)] fun a hE => ?_
           refine WQ.done (by kernel_rfl) ?_
           replace H := thicketlaw9_world.shut al_w_ (thicketlaw9_world.mk t_32.2 t_26.2.root0 t_26.2.root1 s.2.has0 s.2.has1 t_26.2.next t_26.2.spent t_26.2.most) H.t2.t5.t4.t5
           cases hm
           exact hk _ _ ⟨hE.sel [0, 3, 113] (by kernel_rfl), H.x2.x1⟩
          ·replace hE := hE.dec 108 c (by kernel_rfl)
           replace hm := cond_f c hm
           have c_34 := c
           refine WQ.d0 hE [49, 50] [(108, .bool false), (109, .pointer (some ⟨p_w_, 0, none⟩)), (110, .int .i64 1)] fun a hE => ?_
           replace H := thicketlaw9_world.shut al_w_ (thicketlaw9_world.mk t_32.2 t_26.2.root0 t_26.2.root1 s.2.has0 s.2.has1 t_26.2.next t_26.2.spent t_26.2.most) H.t2.t5.t4.t5
           obtain ⟨t_35, et_35, hm⟩ := bind_some hm
           refine WQ.eff (j := 51) (obs := []) hE (by kernel_rfl) rfl rfl rfl rfl (by kernel_rfl) (OpTo.fn hE rfl rfl Tryz.call74 (thicketlaw9_world_shape_ok et_35 H)) ?_
           rintro _ w ⟨rfl, H⟩
           refine ⟨trivial, fun a hE => ?_⟩
           refine WQ.d0 hE [52, 53] [(113, .bool (!t_35.1))] fun a hE => ?_
           refine WQ.done (by kernel_rfl) ?_
           cases hm
           exact hk _ _ ⟨hE.sel [0, 3, 113] (by kernel_rfl), H.x2.x1⟩
      ·replace hE := hE.dec 63 c (by kernel_rfl)
       replace hm := cond_f c hm
       have c_35 := c
       refine WQ.d0 hE [4, 5, 6, 7, 8, 9, 10, 11, 12, 13, 14, 15, 16, 17, 18, 19, 20] [(76, .bool false), (80, .bool (decide ((s.2.has1.length : Int) > 0)))] fun a hE => ?_
       rcases Bool.eq_false_or_eq_true (decide ((s.2.has1.length : Int) > 0)) with c | c
       ·replace hE := hE.dec 80 c (by kernel_rfl)
        replace hm := cond_t c hm
        have c_36 := c
        refine WQ.d0 hE [21, 22, 23] [(80, .bool true), (81, .int .i64 t_25.1), (82, .slice al_w_.has1_b s.2.has1.length al_w_.has1_c), (83, .slice al_w_.has1_b s.2.has1.length al_w_.has1_c)] fun a hE => ?_
        obtain ⟨t_36, et_36, hm⟩ := bind_some hm
        replace H := H.t3
        refine WQ.eff (j := 24) (obs := []) hE (by kernel_rfl) rfl rfl rfl rfl (by kernel_rfl) (OpTo.fn hE rfl rfl Tryz.call68 (thicketlaw9_least_ok (hX_l := (sl_rd 64 thicketlaw9_held.enc 3 _ _ _)) (hC_l := (H.slCap 0 rfl).1) et_36 H)) ?_
        rintro _ w ⟨rfl, H⟩
        refine ⟨trivial, fun a hE => ?_⟩
        obtain ⟨x3, ex3, hm⟩ := bind_some hm
        obtain ⟨b3, o3, hs3, hb3⟩ := SlRd.base (sl_rd 64 thicketlaw9_held.enc 3 _ _ _) thicketlaw9_held.enc_ok H 0 rfl ex3
        refine WQ.d hE [25, 26, 27, 28, 29, 30, 31] [.pointer (some ⟨b3, o3, none⟩), .int .i64 x3.cell] [(91, .bool (t_25.1 != x3.cell))] (obs := [.p ((al_w_.has1_b : Option Addr) = some ⟨b3, o3, none⟩), .p (0 ≤ (t_36 : Int) ∧ (t_36 : Int) < ((s.2.has1.length : Nat) : Int)), .cell ⟨b3, o3 + (Int.toNat t_36) * 3, none⟩ (.int .i64 x3.cell)]) ⟨hs3, hb3, SlRd.cells (sl_rd 64 thicketlaw9_held.enc 3 _ _ _) thicketlaw9_held.enc_ok H 0 rfl hs3 ex3 0 _ rfl, trivial⟩ fun a hE => ?_
        rcases Bool.eq_false_or_eq_true (t_25.1 != x3.cell) with c | c
        ·replace hE := hE.dec 91 c (by kernel_rfl)
         replace hm := cond_t c hm
         have c_37 := c
         refine WQ.d0 hE [32, 33, 34, 35, 36, 37, 38, 39, 40, 41, 42, 43, 44, 45, 46, 47, 48, 49, 50, 51, 52, 53] [(113, .bool true)] fun a hE => ?_
         refine WQ.done (by kernel_rfl) ?_
         replace H := thicketlaw9_world.shut al_w_ (thicketlaw9_world.mk t_26.2.a_ t_26.2.root0 t_26.2.root1 s.2.has0 s.2.has1 t_26.2.next t_26.2.spent t_26.2.most) H.t3.t3.t3
         cases hm
         exact hk _ _ ⟨hE.sel [0, 3, 113] (by kernel_rfl), H⟩
        ·replace hE := hE.dec 91 c (by kernel_rfl)
         replace hm := cond_f c hm
         have c_38 := c
         refine WQ.d hE [32, 33, 34, 35, 36, 37, 38, 39, 40, 41, 43] [.pointer (some ⟨al_w_.a__p, 0, none⟩), .int .i64 t_26.2.root1] [(91, .bool false), (95, .pointer (some ⟨al_w_.a__p, 0, none⟩)), (101, .int .i64 t_26.2.root1), (103, .slice al_w_.has1_b s.2.has1.length al_w_.has1_c)] (obs := [.cell ⟨p_w_, 0, none⟩ (.pointer (some ⟨al_w_.a__p, 0, none⟩)), .p (0 ≤ (1 : Int) ∧ (1 : Int) < ((2 : Nat) : Int)), .cell ⟨p_w_, 2, none⟩ (.int .i64 t_26.2.root1)]) ⟨H.cell 1 rfl rfl, ⟨by decide, by decide⟩, H.cell 1 rfl rfl, trivial⟩ fun a hE => ?_
         obtain ⟨t_37, et_37, hm⟩ := bind_some hm
         refine WQ.eff (j := 42) (obs := []) hE (by kernel_rfl) rfl rfl rfl rfl (by kernel_rfl) (OpTo.fn hE rfl rfl Tryz.call72 (binomial_All_ok et_37 H.t2)) ?_
         rintro _ w ⟨sb12, sc12, rfl, H⟩
         refine ⟨trivial, fun a hE => ?_⟩
         obtain ⟨t_38, et_38, hm⟩ := bind_some hm
         replace H := H.t2
         refine WQ.eff (j := 44) (obs := []) hE (by kernel_rfl) rfl rfl rfl rfl (by kernel_rfl) (OpTo.fn hE rfl rfl Tryz.call73 (thicketlaw9_cells_ok (hX_l := (sl_rd 64 thicketlaw9_held.enc 3 _ _ _)) (hC_l := (H.slCap 0 rfl).1) et_38 H)) ?_
         rintro _ w ⟨sb13, sc13, rfl, H⟩
         refine ⟨trivial, fun a hE => ?_⟩
         obtain ⟨t_39, et_39, hm⟩ := bind_some hm
         replace H := H.t2
         refine WQ.eff (j := 45) (obs := []) hE (by kernel_rfl) rfl rfl rfl rfl (by kernel_rfl) (OpTo.fn hE rfl rfl Tryz.call71 (thicketbook_Same_int_ok (hX_a_ := (sl_rd 3 ecI 1 _ _ _)) (hC_a_ := (H.slCap 0 rfl).1) (hX_b := (sl_rd 3 ecI 1 _ _ _)) (hC_b := (H.slCap 1 rfl).1) et_39 H)) ?_
         rintro _ w ⟨rfl, H⟩
         refine ⟨trivial, fun a hE => ?_⟩
         refine WQ.d0 hE [46, 47, 48] [(108, .bool (!t_39))] fun a hE => ?_
         rcases Bool.eq_false_or_eq_true (!t_39) with c | c
         ·replace hE := hE.dec 108 c (by kernel_rfl)
          replace hm := cond_t c hm
          have c_39 := c
          refine WQ.d0 hE [49, 50, 51, 52, 53] [(113, .bool true)] fun a hE => ?_
          refine WQ.done (by kernel_rfl) ?_
          replace H := thicketlaw9_world.shut al_w_ (thicketlaw9_world.mk t_37.2 t_26.2.root0 t_26.2.root1 s.2.has0 s.2.has1 t_26.2.next t_26.2.spent t_26.2.most) H.t2.t5.t4.t5
          cases hm
          exact hk _ _ ⟨hE.sel [0, 3, 113] (by kernel_rfl), H.x2.x1⟩
         ·replace hE := hE.dec 108 c (by kernel_rfl)
          replace hm := cond_f c hm
          have c_40 := c
          refine WQ.d0 hE [49, 50] [(108, .bool false), (109, .pointer (some ⟨p_w_, 0, none⟩)), (110, .int .i64 1)] fun a hE => ?_
          replace H := thicketlaw9_world.shut al_w_ (thicketlaw9_world.mk t_37.2 t_26.2.root0 t_26.2.root1 s.2.has0 s.2.has1 t_26.2.next t_26.2.spent t_26.2.most) H.t2.t5.t4.t5
          obtain ⟨t_40, et_40, hm⟩ := bind_some hm
          refine WQ.eff (j := 51) (obs := []) hE (by kernel_rfl) rfl rfl rfl rfl (by kernel_rfl) (OpTo.fn hE rfl rfl Tryz.call74 (thicketlaw9_world_shape_ok et_40 H)) ?_
          rintro _ w ⟨rfl, H⟩
          refine ⟨trivial, fun a hE => ?_⟩
          refine WQ.d0 hE [52, 53] [(113, .bool (!t_40.1))] fun a hE => ?_
          refine WQ.done (by kernel_rfl) ?_
          cases hm
          exact hk _ _ ⟨hE.sel [0, 3, 113] (by kernel_rfl), H.x2.x1⟩
       ·replace hE := hE.dec 80 c (by kernel_rfl)
        replace hm := cond_f c hm
        have c_41 := c
        refine WQ.d hE [21, 22, 23, 24, 25, 26, 27, 28, 29, 30, 31, 32, 33, 34, 35, 36, 37, 38, 39, 40, 41, 43] [.pointer (some ⟨al_w_.a__p, 0, none⟩), .int .i64 t_26.2.root1] [(91, .bool false), (95, .pointer (some ⟨al_w_.a__p, 0, none⟩)), (101, .int .i64 t_26.2.root1), (103, .slice al_w_.has1_b s.2.has1.length al_w_.has1_c)] (obs := [.cell ⟨p_w_, 0, none⟩ (.pointer (some ⟨al_w_.a__p, 0, none⟩)), .p (0 ≤ (1 : Int) ∧ (1 : Int) < ((2 : Nat) : Int)), .cell ⟨p_w_, 2, none⟩ (.int .i64 t_26.2.root1)]) ⟨H.cell 0 rfl rfl, ⟨by decide, by decide⟩, H.cell 0 rfl rfl, trivial⟩ fun a hE => ?_
        obtain ⟨t_41, et_41, hm⟩ := bind_some hm
        refine WQ.eff (j := 42) (obs := []) hE (by kernel_rfl) rfl rfl rfl rfl (by kernel_rfl) (OpTo.fn hE rfl rfl Tryz.call72 (binomial_All_ok et_41 H.t1)) ?_
        rintro _ w ⟨sb14, sc14, rfl, H⟩
        refine ⟨trivial, fun a hE => ?_⟩
        obtain ⟨t_42, et_42, hm⟩ := bind_some hm
        replace H := H.t4
        refine WQ.eff (j := 44) (obs := []) hE (by kernel_rfl) rfl rfl rfl rfl (by kernel_rfl) (OpTo.fn hE rfl rfl Tryz.call73 (thicketlaw9_cells_ok (hX_l := (sl_rd 64 thicketlaw9_held.enc 3 _ _ _)) (hC_l := (H.slCap 0 rfl).1) et_42 H)) ?_
        rintro _ w ⟨sb15, sc15, rfl, H⟩
        refine ⟨trivial, fun a hE => ?_⟩
        obtain ⟨t_43, et_43, hm⟩ := bind_some hm
        replace H := H.t2
        refine WQ.eff (j := 45) (obs := []) hE (by kernel_rfl) rfl rfl rfl rfl (by kernel_rfl) (OpTo.fn hE rfl rfl Tryz.call71 (thicketbook_Same_int_ok (hX_a_ := (sl_rd 3 ecI 1 _ _ _)) (hC_a_ := (H.slCap 0 rfl).1) (hX_b := (sl_rd 3 ecI 1 _ _ _)) (hC_b := (H.slCap 1 rfl).1) et_43 H)) ?_
        rintro _ w ⟨rfl, H⟩
        refine ⟨trivial, fun a hE => ?_⟩
        refine WQ.d0 hE [46, 47, 48] [(108, .bool (!t_43))] fun a hE => ?_
        rcases Bool.eq_false_or_eq_true (!t_43) with c | c
        ·replace hE := hE.dec 108 c (by kernel_rfl)
         replace hm := cond_t c hm
         have c_42 := c
         refine WQ.d0 hE [49, 50, 51, 52, 53] [(113, .bool true)] fun a hE => ?_
         refine WQ.done (by kernel_rfl) ?_
         replace H := thicketlaw9_world.shut al_w_ (thicketlaw9_world.mk t_41.2 t_26.2.root0 t_26.2.root1 s.2.has0 s.2.has1 t_26.2.next t_26.2.spent t_26.2.most) H.t2.t5.t4.t5
         cases hm
         exact hk _ _ ⟨hE.sel [0, 3, 113] (by kernel_rfl), H.x2.x1⟩
        ·replace hE := hE.dec 108 c (by kernel_rfl)
         replace hm := cond_f c hm
         have c_43 := c
         refine WQ.d0 hE [49, 50] [(108, .bool false), (109, .pointer (some ⟨p_w_, 0, none⟩)), (110, .int .i64 1)] fun a hE => ?_
         replace H := thicketlaw9_world.shut al_w_ (thicketlaw9_world.mk t_41.2 t_26.2.root0 t_26.2.root1 s.2.has0 s.2.has1 t_26.2.next t_26.2.spent t_26.2.most) H.t2.t5.t4.t5
         obtain ⟨t_44, et_44, hm⟩ := bind_some hm
         refine WQ.eff (j := 51) (obs := []) hE (by kernel_rfl) rfl rfl rfl rfl (by kernel_rfl) (OpTo.fn hE rfl rfl Tryz.call74 (thicketlaw9_world_shape_ok et_44 H)) ?_
         rintro _ w ⟨rfl, H⟩
         refine ⟨trivial, fun a hE => ?_⟩
         refine WQ.d0 hE [52, 53] [(113, .bool (!t_44.1))] fun a hE => ?_
         refine WQ.done (by kernel_rfl) ?_
         cases hm
         exact hk _ _ ⟨hE.sel [0, 3, 113] (by kernel_rfl), H.x2.x1⟩
     rintro a w ⟨hE, H⟩
     refine Runs.cond hE rfl (fun c => ?_) (fun c => ?_)
     ·replace hm := cond_t c hm
      refine Runs.sr ?_
      refine WR.seg hE 1 [] [2] (Lo := [(2, .bool false)]) (obs := []) rfl (by kernel_rfl) trivial fun a hE => ?_
      refine WR.done rfl ?_
      refine Runs.ret hE Tryz.func32 rfl rfl ?_
      cases hm
      exact ⟨rfl, H⟩
     ·replace hm := cond_f c hm
      refine Runs.skip ?_
      refine Runs.inBlock ?_
      refine Runs.region ?_
      refine WR.seg hE 3 [] [0, 3] (Lo := [(0, .pointer (some ⟨p_w_, 0, none⟩)), (3, .int .i64 2)]) (obs := []) rfl (by kernel_rfl) trivial fun a hE => ?_
      refine WR.done rfl ?_
      refine Runs.inLoop ?_
      refine Runs.seq ?_
      refine Runs.sr ?_
      refine WR.e0 hE [(28, .bool false)] fun a hE => ?_
      refine Runs.condF hE rfl ?_
      refine Runs.exit rfl ?_
      refine Runs.sr ?_
      refine WR.e0 hE [(2, .bool true)] fun a hE => ?_
      refine Runs.ret hE Tryz.func32 rfl rfl ?_
      cases hm
      exact ⟨rfl, H⟩

theorem meter_New_ok {w0 w : World} {As : List HP}  {t : meter_Meter}  (hm : meter_New = some t) (H : St w0 (As) w) :
    CallsR Tryz.prog 92 #[] w fun v w' => ∃ (q0 : Nat), v = .pointer (some ⟨q0, 0, none⟩) ∧ St w0 (meter_Meter.R q0 t :: As) w' := by
 rw [meter_New] at hm
 refine enter (args := []) Tryz.func92 rfl rfl rfl fun a hE => ?_
 refine Runs.sr ?_
 refine WR.seg hE 1 [] [] (Lo := []) (obs := []) rfl (by kernel_rfl) trivial fun a hE => ?_
 refine WR.done rfl ?_
 refine Runs.sr ?_
 refine WR.d0 hE 1 [(1, .agg #[.int .i64 0, .int .i64 0, .int .i64 0])] fun a hE => ?_
 refine WR.eff hE rfl rfl rfl rfl (OpTo.new hE H [] (.cells #[.int .i64 0, .int .i64 0, .int .i64 0] 90 (0, 0)) (fun r => .pointer (some ⟨r, 0, none⟩)) (obs := []) rfl (fun _ => by kernel_rfl) trivial) ?_
 rintro _ w ⟨r, rfl, H⟩ a hE
 refine WR.e0 hE [(0, .pointer (some ⟨r, 0, none⟩))] fun a hE => ?_
 replace H := meter_Meter.shut (meter_Meter.mk 0 0 0) H
 refine Runs.ret hE Tryz.func92 rfl rfl ?_
 cases hm
 exact ⟨r, rfl, H⟩

theorem arena_New_ok {w0 w : World} {As : List HP} {cells : Int} {t : arena_Arena}  (hm : arena_New cells = some t) (H : St w0 (As) w) :
    CallsR Tryz.prog 55 #[.int .i64 cells] w fun v w' => ∃ (q0 : Nat), ∃ (al0 : arena_Arena.A), v = .pointer (some ⟨q0, 0, none⟩) ∧ St w0 (arena_Arena.R q0 al0 t :: As) w' := by
 rw [arena_New] at hm
 refine enter (args := [.int .i64 cells]) Tryz.func55 rfl rfl rfl fun a hE => ?_
 refine Runs.sr ?_
 refine WR.seg hE 1 [] [0] (Lo := [(0, .int .i64 cells)]) (obs := []) rfl (by kernel_rfl) trivial fun a hE => ?_
 refine WR.done rfl ?_
 refine Runs.seq ?_
 obtain ⟨l, el, hm⟩ := bind_some hm
 obtain ⟨t_, et_, hm⟩ := bind_some hm
 refine Runs.join (fun a w => ∃ (p1 : Nat), ∃ (al : arena_Arena.A), EnvOk 10 a [(2, .pointer (some ⟨p1, 0, none⟩))] ∧ St w0 (arena_Arena.R p1 al (arena_Arena.mk l 0 ([] : List Int) t_) :: As) w) (fun hk => ?_) ?_
 ·refine Runs.drawn mixed (by kernel_rfl) ?_
  replace H := H.drew
  refine WQ.d0 hE [0, 1, 2] [(5, .int .i64 (if (if 65536 < cells then 65536 else cells) > 0 then (if 65536 < cells then 65536 else cells) else 0))] fun a hE => ?_
  refine WQ.act2 3 4 (by kernel_rfl) ?_ ?_
  ·refine AQ.eff (j := 3) (obs := []) hE rfl rfl rfl rfl (by kernel_rfl) (OpTo.make el hE H arena_cell.enc_ok rfl rfl rfl rfl rfl rfl rfl rfl) ?_
   rintro _ w ⟨r2, rfl, H⟩
   refine ⟨trivial, fun a hE => ?_⟩
   refine WQ.eff (j := 4) (obs := []) hE (by kernel_rfl) rfl rfl rfl rfl (by kernel_rfl) (OpTo.fn hE rfl rfl Tryz.call92 (meter_New_ok et_ H)) ?_
   rintro _ w ⟨p2, rfl, H⟩
   refine ⟨trivial, fun a hE => ?_⟩
   refine WQ.d0 hE [5] [(8, .agg #[.slice (some ⟨r2, 0, none⟩) l.length l.length, .int .i64 0, .slice none 0 0, .pointer (some ⟨p2, 0, none⟩)])] fun a hE => ?_
   refine WQ.eff (j := 6) (obs := []) hE (by kernel_rfl) rfl rfl rfl rfl (by kernel_rfl) (OpTo.new hE H [] (.cells #[.slice (some ⟨r2, 0, none⟩) l.length l.length, .int .i64 0, .slice none 0 0, .pointer (some ⟨p2, 0, none⟩)] 88 (0, 0)) (fun r => .pointer (some ⟨r, 0, none⟩)) (obs := []) rfl (fun _ => by kernel_rfl) trivial) ?_
   rintro _ w ⟨r3, rfl, H⟩
   refine ⟨trivial, fun a hE => ?_⟩
   refine WQ.d0 hE [7] [(2, .pointer (some ⟨r3, 0, none⟩))] fun a hE => ?_
   refine WQ.done (by kernel_rfl) ?_
   replace H := H.slNil 3 ecI 1
   replace H := arena_Arena.shut (arena_Arena.A.mk (some ⟨r2, 0, none⟩) l.length none 0 p2) (arena_Arena.mk l 0 ([] : List Int) t_) H.t2.t1.t3.t3
   exact hk _ _ ⟨r3, arena_Arena.A.mk (some ⟨r2, 0, none⟩) l.length none 0 p2, hE.sel [2] (by kernel_rfl), H⟩
  ·refine AQ.eff (j := 4) (obs := []) hE rfl rfl rfl rfl (by kernel_rfl) (OpTo.fn hE rfl rfl Tryz.call92 (meter_New_ok et_ H)) ?_
   rintro _ w ⟨p3, rfl, H⟩
   refine ⟨trivial, fun a hE => ?_⟩
   refine WQ.eff (j := 3) (obs := []) hE (by kernel_rfl) rfl rfl rfl rfl (by kernel_rfl) (OpTo.make el hE H arena_cell.enc_ok rfl rfl rfl rfl rfl rfl rfl rfl) ?_
   rintro _ w ⟨r4, rfl, H⟩
   refine ⟨trivial, fun a hE => ?_⟩
   refine WQ.d0 hE [5] [(8, .agg #[.slice (some ⟨r4, 0, none⟩) l.length l.length, .int .i64 0, .slice none 0 0, .pointer (some ⟨p3, 0, none⟩)])] fun a hE => ?_
   refine WQ.eff (j := 6) (obs := []) hE (by kernel_rfl) rfl rfl rfl rfl (by kernel_rfl) (OpTo.new hE H [] (.cells #[.slice (some ⟨r4, 0, none⟩) l.length l.length, .int .i64 0, .slice none 0 0, .pointer (some ⟨p3, 0, none⟩)] 88 (0, 0)) (fun r => .pointer (some ⟨r, 0, none⟩)) (obs := []) rfl (fun _ => by kernel_rfl) trivial) ?_
   rintro _ w ⟨r5, rfl, H⟩
   refine ⟨trivial, fun a hE => ?_⟩
   refine WQ.d0 hE [7] [(2, .pointer (some ⟨r5, 0, none⟩))] fun a hE => ?_
   refine WQ.done (by kernel_rfl) ?_
   replace H := H.slNil 3 ecI 1
   replace H := arena_Arena.shut (arena_Arena.A.mk (some ⟨r4, 0, none⟩) l.length none 0 p3) (arena_Arena.mk l 0 ([] : List Int) t_) H.t3.t1.t3.t3
   exact hk _ _ ⟨r5, arena_Arena.A.mk (some ⟨r4, 0, none⟩) l.length none 0 p3, hE.sel [2] (by kernel_rfl), H⟩
 rintro a w ⟨p1, al, hE, H⟩
 refine Runs.ret hE Tryz.func55 rfl rfl ?_
 cases hm
 exact ⟨p1, al, rfl, H⟩

theorem thicketlaw9_fresh_ok {w0 w : World} {As : List HP} {cells : Int} {t : thicketlaw9_world}  (hm : thicketlaw9_fresh cells = some t) (H : St w0 (As) w) :
    CallsR Tryz.prog 17 #[.int .i64 cells] w fun v w' => ∃ (q0 : Nat), ∃ (al0 : thicketlaw9_world.A), v = .pointer (some ⟨q0, 0, none⟩) ∧ St w0 (thicketlaw9_world.R q0 al0 t :: As) w' := by
 rw [thicketlaw9_fresh] at hm
 refine enter (args := [.int .i64 cells]) Tryz.func17 rfl rfl rfl fun a hE => ?_
 refine Runs.sr ?_
 refine WR.seg hE 1 [] [0] (Lo := [(0, .int .i64 cells)]) (obs := []) rfl (by kernel_rfl) trivial fun a hE => ?_
 refine WR.done rfl ?_
 refine Runs.sr ?_
 refine WR.d0 hE 1 [(4, .int .i64 cells)] fun a hE => ?_
 obtain ⟨t_, et_, hm⟩ := bind_some hm
 refine WR.eff hE rfl rfl rfl rfl (OpTo.fn hE rfl rfl Tryz.call55 (arena_New_ok et_ H)) ?_
 rintro _ w ⟨p, al, rfl, H⟩ a hE
 refine WR.d0 hE 4 [(7, .agg #[.pointer (some ⟨p, 0, none⟩), .int .i64 (-1), .int .i64 (-1), .slice none 0 0, .slice none 0 0, .int .i64 0, .int .i64 0, .int .i64 0])] fun a hE => ?_
 refine WR.eff hE rfl rfl rfl rfl (OpTo.new hE H [] (.cells #[.pointer (some ⟨p, 0, none⟩), .int .i64 (-1), .int .i64 (-1), .slice none 0 0, .slice none 0 0, .int .i64 0, .int .i64 0, .int .i64 0] 33 (0, 0)) (fun r => .pointer (some ⟨r, 0, none⟩)) (obs := []) rfl (fun _ => by kernel_rfl) trivial) ?_
 rintro _ w ⟨r, rfl, H⟩ a hE
 refine WR.e0 hE [(3, .pointer (some ⟨r, 0, none⟩))] fun a hE => ?_
 refine Runs.seq ?_
 refine Runs.seq ?_
 replace H := H.slNil 64 thicketlaw9_held.enc 3
 replace H := H.slNil 64 thicketlaw9_held.enc 3
 replace H := thicketlaw9_world.shut (thicketlaw9_world.A.mk p al none 0 none 0) (thicketlaw9_world.mk t_ (-1) (-1) ([] : List thicketlaw9_held) ([] : List thicketlaw9_held) 0 0 0) H.t1.t3.t3
 obtain ⟨s, es, hm⟩ := bind_some hm
 refine Runs.join (fun a w => EnvOk 23 a [(3, .pointer (some ⟨r, 0, none⟩)), (21, .bool false)] ∧ St w0 (thicketlaw9_world.R r (thicketlaw9_world.A.mk p al none 0 none 0) (thicketlaw9_world.mk t_ (-1) (-1) ([] : List thicketlaw9_held) ([] : List thicketlaw9_held) 0 0 0) :: As) w) (fun hk => ?_) ?_
 ·replace hm := es; clear es
  refine Runs.region ?_
  replace H := thicketlaw9_world.open H
  try dsimp only at H
  refine WR.d hE 10 [.pointer (some ⟨p, 0, none⟩), .pointer (some ⟨p, 0, none⟩)] [(14, .bool false), (18, .pointer (some ⟨p, 0, none⟩))] (obs := [.cell ⟨r, 0, none⟩ (.pointer (some ⟨p, 0, none⟩)), .cell ⟨r, 0, none⟩ (.pointer (some ⟨p, 0, none⟩))]) ⟨H.cell 0 rfl rfl, H.cell 0 rfl rfl, trivial⟩ fun a hE => ?_
  obtain ⟨t_1, et_1, hm⟩ := bind_some hm
  refine WR.eff hE rfl rfl rfl rfl (OpTo.fn hE rfl rfl Tryz.call20 (arena_Arena_Meter_ok et_1 H.t1)) ?_
  rintro _ w ⟨rfl, H⟩ a hE
  refine WR.e0 hE [(21, .bool false)] fun a hE => ?_
  replace H := thicketlaw9_world.shut (thicketlaw9_world.A.mk p al none 0 none 0) (thicketlaw9_world.mk t_ (-1) (-1) ([] : List thicketlaw9_held) ([] : List thicketlaw9_held) 0 0 0) H.t3.t3.t2.t3
  cases hm
  exact hk _ _ ⟨hE.sel [3, 21] (by kernel_rfl), H⟩
 rintro a w ⟨hE, H⟩
 refine Runs.condF hE rfl ?_
 refine Runs.skip ?_
 refine Runs.sr ?_
 refine WR.seg hE 2 [] [2] (Lo := [(2, .pointer (some ⟨r, 0, none⟩))]) (obs := []) rfl (by kernel_rfl) trivial fun a hE => ?_
 refine WR.done rfl ?_
 refine Runs.ret hE Tryz.func17 rfl rfl ?_
 cases hm
 exact ⟨r, thicketlaw9_world.A.mk p al none 0 none 0, rfl, H⟩

theorem thicketlaw9_known_ok {w0 w : World} {As : List HP} {k : Nat}  {t : Bool}  (hm : thicketlaw9_known k = some t) (H : St w0 (As) w) :
    CallsR Tryz.prog 29 #[] w fun v w' => v = .bool t ∧ St w0 (As) w' := by
 rw [thicketlaw9_known] at hm
 refine enter (args := []) Tryz.func29 rfl rfl rfl fun a hE => ?_
 refine Runs.sr ?_
 refine WR.seg hE 1 [] [] (Lo := []) (obs := []) rfl (by kernel_rfl) trivial fun a hE => ?_
 refine WR.done rfl ?_
 refine Runs.sr ?_
 obtain ⟨t_, et_, hm⟩ := bind_some hm
 refine WR.eff hE rfl rfl rfl rfl (OpTo.fn hE rfl rfl Tryz.call17 (thicketlaw9_fresh_ok et_ H)) ?_
 rintro _ w ⟨p, al, rfl, H⟩ a hE
 refine WR.e0 hE [(1, .pointer (some ⟨p, 0, none⟩))] fun a hE => ?_
 refine Runs.seq ?_
 refine Runs.seq ?_
 obtain ⟨s, es, hm⟩ := bind_some hm
 refine Runs.join (fun a w => ∃ (z : arena_Arena.A), ∃ (z1 : Option Addr), ∃ (z2 : Nat), ∃ (z3 : Option Addr), ∃ (z4 : Nat), EnvOk 69 a [(1, .pointer (some ⟨p, 0, none⟩)), (24, .bool s.1)] ∧ St w0 (thicketlaw9_world.R p (thicketlaw9_world.A.mk al.a__p z z1 z2 z3 z4) s.2 :: As) w) (fun hk => ?_) ?_
 ·replace hm := es; clear es
  refine Runs.region ?_
  refine WR.d0 hE 4 [(5, .bool false), (6, .pointer (some ⟨p, 0, none⟩))] fun a hE => ?_
  obtain ⟨t_1, et_1, hm⟩ := bind_some hm
  refine WR.eff hE rfl rfl rfl rfl (OpTo.fn hE rfl rfl Tryz.call30 (thicketlaw9_world_push_ok et_1 H)) ?_
  rintro _ w ⟨z5, z6, z7, z8, z9, rfl, H⟩ a hE
  refine WR.d0 hE 8 [(10, .bool (!t_1.1))] fun a hE => ?_
  rcases Bool.eq_false_or_eq_true (!t_1.1) with c | c
  ·replace hE := hE.dec 10 c (by kernel_rfl)
   replace hm := cond_t c hm
   have c_ := c
   refine WR.e0 hE [(24, .bool true)] fun a hE => ?_
   cases hm
   exact hk _ _ ⟨z5, z6, z7, z8, z9, hE.sel [1, 24] (by kernel_rfl), H⟩
  ·replace hE := hE.dec 10 c (by kernel_rfl)
   replace hm := cond_f c hm
   have c_1 := c
   refine WR.d0 hE 9 [(10, .bool false), (11, .pointer (some ⟨p, 0, none⟩))] fun a hE => ?_
   obtain ⟨t_2, et_2, hm⟩ := bind_some hm
   refine WR.eff hE rfl rfl rfl rfl (OpTo.fn hE rfl rfl Tryz.call30 (thicketlaw9_world_push_ok et_2 H)) ?_
   rintro _ w ⟨z10, z11, z12, z13, z14, rfl, H⟩ a hE
   refine WR.d0 hE 13 [(15, .bool (!t_2.1))] fun a hE => ?_
   rcases Bool.eq_false_or_eq_true (!t_2.1) with c | c
   ·replace hE := hE.dec 15 c (by kernel_rfl)
    replace hm := cond_t c hm
    have c_2 := c
    refine WR.e0 hE [(24, .bool true)] fun a hE => ?_
    cases hm
    exact hk _ _ ⟨z10, z11, z12, z13, z14, hE.sel [1, 24] (by kernel_rfl), H⟩
   ·replace hE := hE.dec 15 c (by kernel_rfl)
    replace hm := cond_f c hm
    have c_3 := c
    refine WR.d0 hE 14 [(15, .bool false), (16, .pointer (some ⟨p, 0, none⟩))] fun a hE => ?_
    obtain ⟨t_3, et_3, hm⟩ := bind_some hm
    refine WR.eff hE rfl rfl rfl rfl (OpTo.fn hE rfl rfl Tryz.call30 (thicketlaw9_world_push_ok et_3 H)) ?_
    rintro _ w ⟨z15, z16, z17, z18, z19, rfl, H⟩ a hE
    refine WR.d0 hE 18 [(20, .bool (!t_3.1))] fun a hE => ?_
    rcases Bool.eq_false_or_eq_true (!t_3.1) with c | c
    ·replace hE := hE.dec 20 c (by kernel_rfl)
     replace hm := cond_t c hm
     have c_4 := c
     refine WR.e0 hE [(24, .bool true)] fun a hE => ?_
     cases hm
     exact hk _ _ ⟨z15, z16, z17, z18, z19, hE.sel [1, 24] (by kernel_rfl), H⟩
    ·replace hE := hE.dec 20 c (by kernel_rfl)
     replace hm := cond_f c hm
     have c_5 := c
     refine WR.d0 hE 19 [(20, .bool false), (21, .pointer (some ⟨p, 0, none⟩))] fun a hE => ?_
     obtain ⟨t_4, et_4, hm⟩ := bind_some hm
     refine WR.eff hE rfl rfl rfl rfl (OpTo.fn hE rfl rfl Tryz.call32 (thicketlaw9_world_right_ok et_4 H)) ?_
     rintro _ w ⟨rfl, H⟩ a hE
     refine WR.e0 hE [(24, .bool (!t_4.1))] fun a hE => ?_
     cases hm
     exact hk _ _ ⟨z15, z16, z17, z18, z19, hE.sel [1, 24] (by kernel_rfl), H⟩
 rintro a w ⟨z, z1, z2, z3, z4, hE, H⟩
 refine Runs.cond hE rfl (fun c => ?_) (fun c => ?_)
 ·replace hm := cond_t c hm
  refine Runs.sr ?_
  refine WR.seg hE 1 [] [0] (Lo := [(0, .bool false)]) (obs := []) rfl (by kernel_rfl) trivial fun a hE => ?_
  refine WR.done rfl ?_
  refine Runs.ret hE Tryz.func29 rfl rfl ?_
  cases hm
  exact ⟨rfl, H.x0⟩
 ·replace hm := cond_f c hm
  refine Runs.skip ?_
  refine Runs.seq ?_
  obtain ⟨s1, es1, hm⟩ := bind_some hm
  refine Runs.join (fun a w => ∃ (z20 : arena_Arena.A), ∃ (z21 : Option Addr), ∃ (z22 : Nat), ∃ (z23 : Option Addr), ∃ (z24 : Nat), EnvOk 69 a [(0, .bool s1.1)] ∧ St w0 (thicketlaw9_world.R p (thicketlaw9_world.A.mk al.a__p z20 z21 z22 z23 z24) s1.2 :: As) w) (fun hk => ?_) ?_
  ·replace hm := es1; clear es1
   refine Runs.region ?_
   replace H := thicketlaw9_world.open H
   try dsimp only at H
   refine WR.seg hE 8 [.slice z1 s.2.has0.length z2] [1, 32] (Lo := [(1, .pointer (some ⟨p, 0, none⟩)), (32, .bool ((s.2.has0.length : Int) == 3))]) (obs := [.p (0 ≤ (0 : Int) ∧ (0 : Int) < ((2 : Nat) : Int)), .cell ⟨p, 3, none⟩ (.slice z1 s.2.has0.length z2)]) rfl (by kernel_rfl) ⟨⟨by decide, by decide⟩, H.cell 0 rfl rfl, trivial⟩ fun a hE => ?_
   rcases Bool.eq_false_or_eq_true ((s.2.has0.length : Int) == 3) with c | c
   ·replace hE := hE.dec 32 c (by kernel_rfl)
    replace hm := cond_t c hm
    have c_6 := c
    refine WR.d0 hE 9 [(32, .bool true), (33, .pointer (some ⟨p, 0, none⟩))] fun a hE => ?_
    replace H := thicketlaw9_world.shut (thicketlaw9_world.A.mk al.a__p z z1 z2 z3 z4) (s.2) H.t3.t3.t3.t3
    obtain ⟨t_5, et_5, hm⟩ := bind_some hm
    refine WR.eff hE rfl rfl rfl rfl (OpTo.fn hE rfl rfl Tryz.call31 (thicketlaw9_world_pop_ok et_5 H)) ?_
    rintro _ w ⟨z25, z26, z27, z28, z29, rfl, H⟩ a hE
    refine WR.d0 hE 12 [(36, .bool t_5.1)] fun a hE => ?_
    rcases Bool.eq_false_or_eq_true t_5.1 with c | c
    ·replace hE := hE.dec 36 c (by kernel_rfl)
     replace hm := cond_t c hm
     have c_7 := c
     refine WR.d0 hE 13 [(36, .bool true), (37, .pointer (some ⟨p, 0, none⟩))] fun a hE => ?_
     obtain ⟨t_6, et_6, hm⟩ := bind_some hm
     refine WR.eff hE rfl rfl rfl rfl (OpTo.fn hE rfl rfl Tryz.call31 (thicketlaw9_world_pop_ok et_6 H)) ?_
     rintro _ w ⟨z30, z31, z32, z33, z34, rfl, H⟩ a hE
     refine WR.d0 hE 16 [(40, .bool t_6.1)] fun a hE => ?_
     rcases Bool.eq_false_or_eq_true t_6.1 with c | c
     ·replace hE := hE.dec 40 c (by kernel_rfl)
      replace hm := cond_t c hm
      have c_8 := c
      replace H := thicketlaw9_world.open H
      try dsimp only at H
      refine WR.d hE 25 [.slice z31 t_6.2.has0.length z32] [(49, .bool ((t_6.2.has0.length : Int) == 1))] (obs := [.p (0 ≤ (0 : Int) ∧ (0 : Int) < ((2 : Nat) : Int)), .cell ⟨p, 3, none⟩ (.slice z31 t_6.2.has0.length z32)]) ⟨⟨by decide, by decide⟩, H.cell 0 rfl rfl, trivial⟩ fun a hE => ?_
      rcases Bool.eq_false_or_eq_true ((t_6.2.has0.length : Int) == 1) with c | c
      ·replace hE := hE.dec 49 c (by kernel_rfl)
       replace hm := cond_t c hm
       have c_9 := c
       obtain ⟨x, ex, hm⟩ := bind_some hm
       obtain ⟨b, o, hs, hb⟩ := SlRd.base (sl_rd 64 thicketlaw9_held.enc 3 _ _ _) thicketlaw9_held.enc_ok H 2 rfl ex
       refine WR.d hE 37 [.slice z31 t_6.2.has0.length z32, .pointer (some ⟨b, o, none⟩), .int .i64 x.e.Key] [(61, .bool (x.e.Key == 3))] (obs := [.p (0 ≤ (0 : Int) ∧ (0 : Int) < ((2 : Nat) : Int)), .cell ⟨p, 3, none⟩ (.slice z31 t_6.2.has0.length z32), .p ((z31 : Option Addr) = some ⟨b, o, none⟩), .p (0 ≤ (0 : Int) ∧ (0 : Int) < ((t_6.2.has0.length : Nat) : Int)), .cell ⟨b, o + (Int.toNat 0) * 3 + 1, none⟩ (.int .i64 x.e.Key)]) ⟨⟨by decide, by decide⟩, H.cell 0 rfl rfl, hs, hb, SlRd.cells (sl_rd 64 thicketlaw9_held.enc 3 _ _ _) thicketlaw9_held.enc_ok H 2 rfl hs ex 1 _ rfl, trivial⟩ fun a hE => ?_
       rcases Bool.eq_false_or_eq_true (x.e.Key == 3) with c | c
       ·replace hE := hE.dec 61 c (by kernel_rfl)
        replace hm := cond_t c hm
        have c_10 := c
        refine WR.d0 hE 38 [(61, .bool true), (62, .pointer (some ⟨p, 0, none⟩))] fun a hE => ?_
        replace H := thicketlaw9_world.shut (thicketlaw9_world.A.mk al.a__p z30 z31 z32 z33 z34) (t_6.2) H.t3.t3.t3.t3
        obtain ⟨t_7, et_7, hm⟩ := bind_some hm
        refine WR.eff hE rfl rfl rfl rfl (OpTo.fn hE rfl rfl Tryz.call31 (thicketlaw9_world_pop_ok et_7 H)) ?_
        rintro _ w ⟨z35, z36, z37, z38, z39, rfl, H⟩ a hE
        refine WR.d0 hE 41 [(65, .bool t_7.1)] fun a hE => ?_
        rcases Bool.eq_false_or_eq_true t_7.1 with c | c
        ·replace hE := hE.dec 65 c (by kernel_rfl)
         replace hm := cond_t c hm
         have c_11 := c
         refine WR.d0 hE 42 [(65, .bool true), (66, .pointer (some ⟨p, 0, none⟩))] fun a hE => ?_
         obtain ⟨t_8, et_8, hm⟩ := bind_some hm
         refine WR.eff hE rfl rfl rfl rfl (OpTo.fn hE rfl rfl Tryz.call31 (thicketlaw9_world_pop_ok et_8 H)) ?_
         rintro _ w ⟨z40, z41, z42, z43, z44, rfl, H⟩ a hE
         refine WR.e0 hE [(0, .bool t_8.1)] fun a hE => ?_
         cases hm
         exact hk _ _ ⟨z40, z41, z42, z43, z44, hE.sel [0] (by kernel_rfl), H⟩
        ·replace hE := hE.dec 65 c (by kernel_rfl)
         replace hm := cond_f c hm
         have c_12 := c
         refine WR.e0 hE [(0, .bool false)] fun a hE => ?_
         cases hm
         exact hk _ _ ⟨z35, z36, z37, z38, z39, hE.sel [0] (by kernel_rfl), H⟩
       ·replace hE := hE.dec 61 c (by kernel_rfl)
        replace hm := cond_f c hm
        have c_13 := c
        refine WR.e0 hE [(0, .bool false)] fun a hE => ?_
        replace H := thicketlaw9_world.shut (thicketlaw9_world.A.mk al.a__p z30 z31 z32 z33 z34) (t_6.2) H.t3.t3.t3.t3
        cases hm
        exact hk _ _ ⟨z30, z31, z32, z33, z34, hE.sel [0] (by kernel_rfl), H⟩
      ·replace hE := hE.dec 49 c (by kernel_rfl)
       replace hm := cond_f c hm
       have c_14 := c
       refine WR.e0 hE [(0, .bool false)] fun a hE => ?_
       replace H := thicketlaw9_world.shut (thicketlaw9_world.A.mk al.a__p z30 z31 z32 z33 z34) (t_6.2) H.t3.t3.t3.t3
       cases hm
       exact hk _ _ ⟨z30, z31, z32, z33, z34, hE.sel [0] (by kernel_rfl), H⟩
     ·replace hE := hE.dec 40 c (by kernel_rfl)
      replace hm := cond_f c hm
      have c_15 := c
      refine WR.e0 hE [(0, .bool false)] fun a hE => ?_
      cases hm
      exact hk _ _ ⟨z30, z31, z32, z33, z34, hE.sel [0] (by kernel_rfl), H⟩
    ·replace hE := hE.dec 36 c (by kernel_rfl)
     replace hm := cond_f c hm
     have c_16 := c
     refine WR.e0 hE [(0, .bool false)] fun a hE => ?_
     cases hm
     exact hk _ _ ⟨z25, z26, z27, z28, z29, hE.sel [0] (by kernel_rfl), H⟩
   ·replace hE := hE.dec 32 c (by kernel_rfl)
    replace hm := cond_f c hm
    have c_17 := c
    refine WR.e0 hE [(0, .bool false)] fun a hE => ?_
    replace H := thicketlaw9_world.shut (thicketlaw9_world.A.mk al.a__p z z1 z2 z3 z4) (s.2) H.t3.t3.t3.t3
    cases hm
    exact hk _ _ ⟨z, z1, z2, z3, z4, hE.sel [0] (by kernel_rfl), H⟩
  rintro a w ⟨z20, z21, z22, z23, z24, hE, H⟩
  refine Runs.ret hE Tryz.func29 rfl rfl ?_
  cases hm
  exact ⟨rfl, H.x0⟩

theorem thicketlaw9_BinomialMelds_ok {w0 w : World} {As : List HP} {k : Nat} {sb_rows : Option Addr} {sc_rows : Nat} {rows : List (NRow Int)} {X_rows : HP} {sb_pops : Option Addr} {sc_pops : Nat} {pops : List Bool} {t : Bool} (hX_rows : SlRd X_rows ecN 1 sb_rows rows) (hC_rows : rows.length ≤ sc_rows) (hN_rows : ∀ z ∈ rows, SlRd X_rows ecI 1 z.b z.l ∧ z.l.length ≤ z.c) (hX_pops : SlRd X_rows ecB 1 sb_pops pops) (hC_pops : pops.length ≤ sc_pops) (hm : thicketlaw9_BinomialMelds k rows pops = some t) (H : St w0 (X_rows :: As) w) :
    CallsR Tryz.prog 4 #[.slice sb_rows rows.length sc_rows, .slice sb_pops pops.length sc_pops] w fun v w' => v = .bool t ∧ St w0 (X_rows :: As) w' := by
 rw [thicketlaw9_BinomialMelds] at hm
 refine enter (args := [.slice sb_rows rows.length sc_rows, .slice sb_pops pops.length sc_pops]) Tryz.func4 rfl rfl rfl fun a hE => ?_
 refine Runs.sr ?_
 refine WR.seg hE 1 [] [0, 1] (Lo := [(0, .slice sb_rows rows.length sc_rows), (1, .slice sb_pops pops.length sc_pops)]) (obs := []) rfl (by kernel_rfl) trivial fun a hE => ?_
 refine WR.done rfl ?_
 refine Runs.sr ?_
 obtain ⟨t_, et_, hm⟩ := bind_some hm
 refine WR.eff hE rfl rfl rfl rfl (OpTo.fn hE rfl rfl Tryz.call17 (thicketlaw9_fresh_ok et_ H)) ?_
 rintro _ w ⟨p, al, rfl, H⟩ a hE
 refine WR.e0 hE [(5, .pointer (some ⟨p, 0, none⟩))] fun a hE => ?_
 refine Runs.seq ?_
 refine Runs.sr ?_
 refine WR.e0 hE [(11, .bool false)] fun a hE => ?_
 refine Runs.condF hE rfl ?_
 refine Runs.skip ?_
 refine Runs.seq ?_
 refine Runs.sr ?_
 refine WR.e0 hE [(6, .int .i64 0)] fun a hE => ?_
 obtain ⟨s, es, hR⟩ := bind_some hm
 refine Runs.join (fun a w => ∃ s1, s = Sum.inr s1 ∧ ∃ (z5 : arena_Arena.A), ∃ (z6 : Option Addr), ∃ (z7 : Nat), ∃ (z8 : Option Addr), ∃ (z9 : Nat), EnvOk 106 a [] ∧ St w0 (thicketlaw9_world.R p (thicketlaw9_world.A.mk al.a__p z5 z6 z7 z8 z9) s1 :: X_rows :: As) w) (fun hk => ?_) ?_
 ·replace hm := es; clear es
  refine Runs.block ?_
  refine Runs.loop (fun m a w => ∃ (i : Int), ∃ (m_ : thicketlaw9_world), ∃ (z10 : arena_Arena.A), ∃ (z11 : Option Addr), ∃ (z12 : Nat), ∃ (z13 : Option Addr), ∃ (z14 : Nat), EnvOk 106 a [(0, .slice sb_rows rows.length sc_rows), (1, .slice sb_pops pops.length sc_pops), (5, .pointer (some ⟨p, 0, none⟩)), (6, .int .i64 i)] ∧ St w0 (thicketlaw9_world.R p (thicketlaw9_world.A.mk al.a__p z10 z11 z12 z13 z14) m_ :: X_rows :: As) w ∧ thicketlaw9_BinomialMelds_l0 pops rows m i m_ = some s) k ⟨0, t_, al.a__a, al.has0_b, al.has0_c, al.has1_b, al.has1_c, hE.sel [0, 1, 5, 6] (by kernel_rfl), H.t1.t1, hm⟩ ?_
  rintro m ih a w ⟨i, m_, z10, z11, z12, z13, z14, hE, H, hm⟩
  cases m with
  | zero => simp [thicketlaw9_BinomialMelds_l0] at hm
  | succ m =>
   rw [thicketlaw9_BinomialMelds_l0] at hm
   refine Runs.seq ?_
   refine Runs.seq ?_
   refine Runs.join (fun a w => EnvOk 106 a [(0, .slice sb_rows rows.length sc_rows), (1, .slice sb_pops pops.length sc_pops), (5, .pointer (some ⟨p, 0, none⟩)), (6, .int .i64 i), (19, .bool ((decide (i < (rows.length : Int))) && (decide (i < 12))))] ∧ St w0 (thicketlaw9_world.R p (thicketlaw9_world.A.mk al.a__p z10 z11 z12 z13 z14) m_ :: X_rows :: As) w) (fun hk => ?_) ?_
   ·clear hm
    refine Runs.region ?_
    refine WR.seg hE 5 [] [0, 1, 5, 6, 16] (Lo := [(0, .slice sb_rows rows.length sc_rows), (1, .slice sb_pops pops.length sc_pops), (5, .pointer (some ⟨p, 0, none⟩)), (6, .int .i64 i), (16, .bool (decide (i < (rows.length : Int))))]) (obs := []) rfl (by kernel_rfl) trivial fun a hE => ?_
    rcases Bool.eq_false_or_eq_true (decide (i < (rows.length : Int))) with c | c
    ·replace hE := hE.dec 16 c (by kernel_rfl)
     have c_ := c
     refine WR.e0 hE [(19, .bool (decide (i < 12)))] fun a hE => ?_
     refine hk _ _ ⟨?_, H.t1.t1⟩
     try rw [c_] at hE
     try rw [c_]
     exact hE.sel [0, 1, 5, 6, 19] (by kernel_rfl)
    ·replace hE := hE.dec 16 c (by kernel_rfl)
     have c_1 := c
     refine WR.e0 hE [(19, .bool false)] fun a hE => ?_
     refine hk _ _ ⟨?_, H.t1.t1⟩
     try rw [c_1] at hE
     try rw [c_1]
     exact hE.sel [0, 1, 5, 6, 19] (by kernel_rfl)
   rintro a w ⟨hE, H⟩
   refine Runs.cond hE rfl (fun c => ?_) (fun c => ?_)
   ·replace hm := cond_t c hm
    refine Runs.skip ?_
    refine Runs.seq ?_
    refine Runs.block ?_
    refine Runs.seq ?_
    refine Runs.sr ?_
    refine WR.seg hE 1 [] [0, 1, 5, 6, 7] (Lo := [(0, .slice sb_rows rows.length sc_rows), (1, .slice sb_pops pops.length sc_pops), (5, .pointer (some ⟨p, 0, none⟩)), (6, .int .i64 i), (7, .int .i64 0)]) (obs := []) rfl (by kernel_rfl) trivial fun a hE => ?_
    refine WR.done rfl ?_
    obtain ⟨s2, es2, hR1⟩ := bind_some hm
    refine Runs.join (fun a w => ∃ s3, s2 = Sum.inr s3 ∧ ∃ (z20 : arena_Arena.A), ∃ (z21 : Option Addr), ∃ (z22 : Nat), ∃ (z23 : Option Addr), ∃ (z24 : Nat), EnvOk 106 a [(0, .slice sb_rows rows.length sc_rows), (1, .slice sb_pops pops.length sc_pops), (5, .pointer (some ⟨p, 0, none⟩)), (6, .int .i64 i)] ∧ St w0 (thicketlaw9_world.R p (thicketlaw9_world.A.mk al.a__p z20 z21 z22 z23 z24) s3 :: X_rows :: As) w) (fun hk => ?_) ?_
    ·replace hm := es2; clear es2
     refine Runs.block ?_
     refine Runs.loop (fun m a w => ∃ (k_ : Int), ∃ (m_1 : thicketlaw9_world), ∃ (z25 : arena_Arena.A), ∃ (z26 : Option Addr), ∃ (z27 : Nat), ∃ (z28 : Option Addr), ∃ (z29 : Nat), EnvOk 106 a [(0, .slice sb_rows rows.length sc_rows), (1, .slice sb_pops pops.length sc_pops), (5, .pointer (some ⟨p, 0, none⟩)), (6, .int .i64 i), (7, .int .i64 k_)] ∧ St w0 (thicketlaw9_world.R p (thicketlaw9_world.A.mk al.a__p z25 z26 z27 z28 z29) m_1 :: X_rows :: As) w ∧ thicketlaw9_BinomialMelds_l1 pops i rows m k_ m_1 = some s2) m ⟨0, m_, z10, z11, z12, z13, z14, hE.sel [0, 1, 5, 6, 7] (by kernel_rfl), H.t1.t1, hm⟩ ?_
     rintro m ih a w ⟨k_, m_1, z25, z26, z27, z28, z29, hE, H, hm⟩
     cases m with
     | zero => simp [thicketlaw9_BinomialMelds_l1] at hm
     | succ m =>
      rw [thicketlaw9_BinomialMelds_l1] at hm
      refine Runs.seq ?_
      refine Runs.seq ?_
      obtain ⟨s4, es4, hm⟩ := bind_some hm
      refine Runs.join (fun a w => EnvOk 106 a [(0, .slice sb_rows rows.length sc_rows), (1, .slice sb_pops pops.length sc_pops), (5, .pointer (some ⟨p, 0, none⟩)), (6, .int .i64 i), (7, .int .i64 k_), (32, .bool s4)] ∧ St w0 (thicketlaw9_world.R p (thicketlaw9_world.A.mk al.a__p z25 z26 z27 z28 z29) m_1 :: X_rows :: As) w) (fun hk => ?_) ?_
      ·replace hm := es4; clear es4
       refine Runs.region ?_
       obtain ⟨x1, ex1, hm⟩ := bind_some hm
       obtain ⟨b1, o1, hs1, hb1⟩ := SlRd.base hX_rows ecN_ok H 1 rfl ex1
       refine WR.seg hE 8 [.pointer (some ⟨b1, o1, none⟩), .slice x1.b x1.l.length x1.c] [0, 1, 5, 6, 7, 29] (Lo := [(0, .slice sb_rows rows.length sc_rows), (1, .slice sb_pops pops.length sc_pops), (5, .pointer (some ⟨p, 0, none⟩)), (6, .int .i64 i), (7, .int .i64 k_), (29, .bool (decide (k_ < (x1.l.length : Int))))]) (obs := [.p ((sb_rows : Option Addr) = some ⟨b1, o1, none⟩), .p (0 ≤ (i : Int) ∧ (i : Int) < ((rows.length : Nat) : Int)), .cell ⟨b1, o1 + (Int.toNat i) * 1, none⟩ (.slice x1.b x1.l.length x1.c)]) rfl (by kernel_rfl) ⟨hs1, hb1, SlRd.cells hX_rows ecN_ok H 1 rfl hs1 ex1 0 _ rfl, trivial⟩ fun a hE => ?_
       rcases Bool.eq_false_or_eq_true (decide (k_ < (x1.l.length : Int))) with c | c
       ·replace hE := hE.dec 29 c (by kernel_rfl)
        replace hm := cond_t c hm
        have c_2 := c
        refine WR.e0 hE [(32, .bool (decide (k_ < 8)))] fun a hE => ?_
        cases hm
        exact hk _ _ ⟨hE.sel [0, 1, 5, 6, 7, 32] (by kernel_rfl), H.t1.t1⟩
       ·replace hE := hE.dec 29 c (by kernel_rfl)
        replace hm := cond_f c hm
        have c_3 := c
        refine WR.e0 hE [(32, .bool false)] fun a hE => ?_
        cases hm
        exact hk _ _ ⟨hE.sel [0, 1, 5, 6, 7, 32] (by kernel_rfl), H.t1.t1⟩
      rintro a w ⟨hE, H⟩
      refine Runs.cond hE rfl (fun c => ?_) (fun c => ?_)
      ·replace hm := cond_t c hm
       refine Runs.skip ?_
       refine Runs.seq ?_
       refine Runs.block ?_
       refine Runs.sr ?_
       obtain ⟨x2, ex2, hm⟩ := bind_some hm
       obtain ⟨b2, o2, hs2, hb2⟩ := SlRd.base hX_rows ecN_ok H 1 rfl ex2
       obtain ⟨x3, ex3, hm⟩ := bind_some hm
       obtain ⟨b3, o3, hs3, hb3⟩ := SlRd.base (hN_rows x2 (idx_mem ex2)).1 ecI_ok H 1 rfl ex3
       refine WR.seg hE 9 [.pointer (some ⟨b2, o2, none⟩), .slice x2.b x2.l.length x2.c, .pointer (some ⟨b3, o3, none⟩), .int .i64 x3] [0, 1, 5, 6, 7, 35, 43] (Lo := [(0, .slice sb_rows rows.length sc_rows), (1, .slice sb_pops pops.length sc_pops), (5, .pointer (some ⟨p, 0, none⟩)), (6, .int .i64 i), (7, .int .i64 k_), (35, .pointer (some ⟨p, 0, none⟩)), (43, .int .i64 (Int.tmod x3 30))]) (obs := [.p ((sb_rows : Option Addr) = some ⟨b2, o2, none⟩), .p (0 ≤ (i : Int) ∧ (i : Int) < ((rows.length : Nat) : Int)), .cell ⟨b2, o2 + (Int.toNat i) * 1, none⟩ (.slice x2.b x2.l.length x2.c), .p ((x2.b : Option Addr) = some ⟨b3, o3, none⟩), .p (0 ≤ (k_ : Int) ∧ (k_ : Int) < ((x2.l.length : Nat) : Int)), .cell ⟨b3, o3 + (Int.toNat k_) * 1, none⟩ (.int .i64 x3), .p ((30 : Int) ≠ 0)]) rfl (by kernel_rfl) ⟨hs2, hb2, SlRd.cells hX_rows ecN_ok H 1 rfl hs2 ex2 0 _ rfl, hs3, hb3, SlRd.cells (hN_rows x2 (idx_mem ex2)).1 ecI_ok H 1 rfl hs3 ex3 0 _ rfl, (by show _ ≠ _; decide), trivial⟩ fun a hE => ?_
       obtain ⟨t_1, et_1, hm⟩ := bind_some hm
       refine WR.eff hE rfl rfl rfl rfl (OpTo.fn hE rfl rfl Tryz.call30 (thicketlaw9_world_push_ok et_1 H)) ?_
       rintro _ w ⟨z30, z31, z32, z33, z34, rfl, H⟩ a hE
       refine WR.e0 hE [(45, .bool (!t_1.1))] fun a hE => ?_
       refine Runs.cond hE rfl (fun c => ?_) (fun c => ?_)
       ·replace hm := cond_t c hm
        refine Runs.sr ?_
        refine WR.e0 hE [(4, .bool false)] fun a hE => ?_
        refine Runs.ret hE Tryz.func4 rfl rfl ?_
        cases hm
        dsimp only at hR1; cases hR1
        dsimp only at hR; cases hR
        exact ⟨rfl, H.x0⟩
       ·replace hm := cond_f c hm
        refine Runs.skip ?_
        refine Runs.inBlock ?_
        refine Runs.region ?_
        refine WR.e0 hE [(7, .int .i64 (w64 (k_ + 1)))] fun a hE => ?_
        exact ih m (Nat.lt_succ_self m) _ _ ⟨w64 (k_ + 1), t_1.2, z30, z31, z32, z33, z34, hE.sel [0, 1, 5, 6, 7] (by kernel_rfl), H.t1.t1, hm⟩
      ·replace hm := cond_f c hm
       refine Runs.exit rfl ?_
       cases hm
       exact hk _ _ ⟨_, rfl, z25, z26, z27, z28, z29, hE.sel [0, 1, 5, 6] (by kernel_rfl), H.t1.t1⟩
    rintro a w ⟨s3, rfl, z20, z21, z22, z23, z24, hE, H⟩
    replace hm := hR1; dsimp only at hm
    refine Runs.seq ?_
    refine Runs.seq ?_
    obtain ⟨s5, es5, hm⟩ := bind_some hm
    refine Runs.join (fun a w => ∃ (z35 : arena_Arena.A), ∃ (z36 : Option Addr), ∃ (z37 : Nat), ∃ (z38 : Option Addr), ∃ (z39 : Nat), EnvOk 106 a [(0, .slice sb_rows rows.length sc_rows), (1, .slice sb_pops pops.length sc_pops), (5, .pointer (some ⟨p, 0, none⟩)), (6, .int .i64 i), (65, .bool s5.1)] ∧ St w0 (thicketlaw9_world.R p (thicketlaw9_world.A.mk al.a__p z35 z36 z37 z38 z39) s5.2 :: X_rows :: As) w) (fun hk => ?_) ?_
    ·replace hm := es5; clear es5
     refine Runs.region ?_
     refine WR.seg hE 5 [] [0, 1, 5, 6, 50] (Lo := [(0, .slice sb_rows rows.length sc_rows), (1, .slice sb_pops pops.length sc_pops), (5, .pointer (some ⟨p, 0, none⟩)), (6, .int .i64 i), (50, .bool (decide (i < (pops.length : Int))))]) (obs := []) rfl (by kernel_rfl) trivial fun a hE => ?_
     rcases Bool.eq_false_or_eq_true (decide (i < (pops.length : Int))) with c | c
     ·replace hE := hE.dec 50 c (by kernel_rfl)
      replace hm := cond_t c hm
      have c_4 := c
      obtain ⟨x5, ex5, hm⟩ := bind_some hm
      obtain ⟨b5, o5, hs5, hb5⟩ := SlRd.base hX_pops ecB_ok H 1 rfl ex5
      refine WR.d hE 11 [.pointer (some ⟨b5, o5, none⟩), .bool x5] [(56, .bool x5)] (obs := [.p ((sb_pops : Option Addr) = some ⟨b5, o5, none⟩), .p (0 ≤ (i : Int) ∧ (i : Int) < ((pops.length : Nat) : Int)), .cell ⟨b5, o5 + (Int.toNat i) * 1, none⟩ (.bool x5)]) ⟨hs5, hb5, SlRd.cells hX_pops ecB_ok H 1 rfl hs5 ex5 0 _ rfl, trivial⟩ fun a hE => ?_
      rcases Bool.eq_false_or_eq_true x5 with c | c
      ·replace hE := hE.dec 56 c (by kernel_rfl)
       replace hm := cond_t c hm
       have c_5 := c
       refine WR.d0 hE 12 [(56, .bool true), (57, .pointer (some ⟨p, 0, none⟩))] fun a hE => ?_
       obtain ⟨t_2, et_2, hm⟩ := bind_some hm
       refine WR.eff hE rfl rfl rfl rfl (OpTo.fn hE rfl rfl Tryz.call31 (thicketlaw9_world_pop_ok et_2 H)) ?_
       rintro _ w ⟨z40, z41, z42, z43, z44, rfl, H⟩ a hE
       refine WR.d0 hE 16 [(61, .bool (!t_2.1))] fun a hE => ?_
       rcases Bool.eq_false_or_eq_true (!t_2.1) with c | c
       ·replace hE := hE.dec 61 c (by kernel_rfl)
        replace hm := cond_t c hm
        have c_6 := c
        refine WR.e0 hE [(65, .bool true)] fun a hE => ?_
        cases hm
        exact hk _ _ ⟨z40, z41, z42, z43, z44, hE.sel [0, 1, 5, 6, 65] (by kernel_rfl), H.t1.t1⟩
       ·replace hE := hE.dec 61 c (by kernel_rfl)
        replace hm := cond_f c hm
        have c_7 := c
        refine WR.d0 hE 17 [(61, .bool false), (62, .pointer (some ⟨p, 0, none⟩))] fun a hE => ?_
        obtain ⟨t_3, et_3, hm⟩ := bind_some hm
        refine WR.eff hE rfl rfl rfl rfl (OpTo.fn hE rfl rfl Tryz.call32 (thicketlaw9_world_right_ok et_3 H)) ?_
        rintro _ w ⟨rfl, H⟩ a hE
        refine WR.e0 hE [(65, .bool (!t_3.1))] fun a hE => ?_
        cases hm
        exact hk _ _ ⟨z40, z41, z42, z43, z44, hE.sel [0, 1, 5, 6, 65] (by kernel_rfl), H.t1.t1⟩
      ·replace hE := hE.dec 56 c (by kernel_rfl)
       replace hm := cond_f c hm
       have c_8 := c
       refine WR.d0 hE 17 [(61, .bool false), (62, .pointer (some ⟨p, 0, none⟩))] fun a hE => ?_
       obtain ⟨t_4, et_4, hm⟩ := bind_some hm
       refine WR.eff hE rfl rfl rfl rfl (OpTo.fn hE rfl rfl Tryz.call32 (thicketlaw9_world_right_ok et_4 H)) ?_
       rintro _ w ⟨rfl, H⟩ a hE
       refine WR.e0 hE [(65, .bool (!t_4.1))] fun a hE => ?_
       cases hm
       exact hk _ _ ⟨z20, z21, z22, z23, z24, hE.sel [0, 1, 5, 6, 65] (by kernel_rfl), H.t1.t1⟩
     ·replace hE := hE.dec 50 c (by kernel_rfl)
      replace hm := cond_f c hm
      have c_9 := c
      refine WR.d0 hE 17 [(61, .bool false), (62, .pointer (some ⟨p, 0, none⟩))] fun a hE => ?_
      obtain ⟨t_5, et_5, hm⟩ := bind_some hm
      refine WR.eff hE rfl rfl rfl rfl (OpTo.fn hE rfl rfl Tryz.call32 (thicketlaw9_world_right_ok et_5 H)) ?_
      rintro _ w ⟨rfl, H⟩ a hE
      refine WR.e0 hE [(65, .bool (!t_5.1))] fun a hE => ?_
      cases hm
      exact hk _ _ ⟨z20, z21, z22, z23, z24, hE.sel [0, 1, 5, 6, 65] (by kernel_rfl), H.t1.t1⟩
    rintro a w ⟨z35, z36, z37, z38, z39, hE, H⟩
    refine Runs.cond hE rfl (fun c => ?_) (fun c => ?_)
    ·replace hm := cond_t c hm
     refine Runs.sr ?_
     refine WR.seg hE 1 [] [4] (Lo := [(4, .bool false)]) (obs := []) rfl (by kernel_rfl) trivial fun a hE => ?_
     refine WR.done rfl ?_
     refine Runs.ret hE Tryz.func4 rfl rfl ?_
     cases hm
     dsimp only at hR; cases hR
     exact ⟨rfl, H.x0⟩
    ·replace hm := cond_f c hm
     refine Runs.skip ?_
     refine Runs.seq ?_
     refine Runs.drawn mixed (by kernel_rfl) ?_
     replace H := H.drew
     replace H := thicketlaw9_world.open H
     try dsimp only at H
     refine WQ.seg hE [0, 1, 2, 3, 4, 5, 6, 7, 8, 9, 10, 11, 12, 13] [.slice z36 s5.2.has0.length z37, .slice z38 s5.2.has1.length z39] [0, 1, 5, 6, 8] (Lo := [(0, .slice sb_rows rows.length sc_rows), (1, .slice sb_pops pops.length sc_pops), (5, .pointer (some ⟨p, 0, none⟩)), (6, .int .i64 i), (8, .int .i64 (w64 ((s5.2.has0.length : Int) + (s5.2.has1.length : Int))))]) (obs := [.p (0 ≤ (0 : Int) ∧ (0 : Int) < ((2 : Nat) : Int)), .cell ⟨p, 3, none⟩ (.slice z36 s5.2.has0.length z37), .p (0 ≤ (1 : Int) ∧ (1 : Int) < ((2 : Nat) : Int)), .cell ⟨p, 4, none⟩ (.slice z38 s5.2.has1.length z39)]) (by kernel_rfl) (by kernel_rfl) ⟨⟨by decide, by decide⟩, H.cell 0 rfl rfl, ⟨by decide, by decide⟩, H.cell 0 rfl rfl, trivial⟩ fun a hE => ?_
     refine WQ.done (by kernel_rfl) ?_
     refine Runs.seq ?_
     replace H := thicketlaw9_world.shut (thicketlaw9_world.A.mk al.a__p z35 z36 z37 z38 z39) (s5.2) H.t3.t3.t3.t3
     obtain ⟨s6, es6, hm⟩ := bind_some hm
     refine Runs.join (fun a w => ∃ (z45 : Option Addr), ∃ (z46 : Nat), ∃ (z47 : Option Addr), ∃ (z48 : Nat), EnvOk 106 a [(0, .slice sb_rows rows.length sc_rows), (1, .slice sb_pops pops.length sc_pops), (5, .pointer (some ⟨p, 0, none⟩)), (6, .int .i64 i), (104, .bool s6.1)] ∧ St w0 (thicketlaw9_world.R p (thicketlaw9_world.A.mk al.a__p z35 z45 z46 z47 z48) s6.2 :: X_rows :: As) w) (fun hk => ?_) ?_
     ·replace hm := es6; clear es6
      refine Runs.region ?_
      refine WR.d0 hE 1 [(79, .pointer (some ⟨p, 0, none⟩))] fun a hE => ?_
      obtain ⟨t_6, et_6, hm⟩ := bind_some hm
      refine WR.eff hE rfl rfl rfl rfl (OpTo.fn hE rfl rfl Tryz.call33 (thicketlaw9_world_meld_ok et_6 H)) ?_
      rintro _ w ⟨z49, z50, z51, z52, rfl, H⟩ a hE
      refine WR.d0 hE 4 [(82, .bool (!t_6.1))] fun a hE => ?_
      rcases Bool.eq_false_or_eq_true (!t_6.1) with c | c
      ·replace hE := hE.dec 82 c (by kernel_rfl)
       replace hm := cond_t c hm
       have c_10 := c
       refine WR.e0 hE [(104, .bool true)] fun a hE => ?_
       cases hm
       exact hk _ _ ⟨z49, z50, z51, z52, hE.sel [0, 1, 5, 6, 104] (by kernel_rfl), H.t1.t1⟩
      ·replace hE := hE.dec 82 c (by kernel_rfl)
       replace hm := cond_f c hm
       have c_11 := c
       replace H := thicketlaw9_world.open H
       try dsimp only at H
       refine WR.d hE 14 [.slice z49 t_6.2.has0.length z50] [(92, .bool ((t_6.2.has0.length : Int) != (w64 ((s5.2.has0.length : Int) + (s5.2.has1.length : Int)))))] (obs := [.p (0 ≤ (0 : Int) ∧ (0 : Int) < ((2 : Nat) : Int)), .cell ⟨p, 3, none⟩ (.slice z49 t_6.2.has0.length z50)]) ⟨⟨by decide, by decide⟩, H.cell 0 rfl rfl, trivial⟩ fun a hE => ?_
       rcases Bool.eq_false_or_eq_true ((t_6.2.has0.length : Int) != (w64 ((s5.2.has0.length : Int) + (s5.2.has1.length : Int)))) with c | c
       ·replace hE := hE.dec 92 c (by kernel_rfl)
        replace hm := cond_t c hm
        have c_12 := c
        refine WR.e0 hE [(104, .bool true)] fun a hE => ?_
        replace H := thicketlaw9_world.shut (thicketlaw9_world.A.mk al.a__p z35 z49 z50 z51 z52) (t_6.2) H.t3.t3.t3.t3
        cases hm
        exact hk _ _ ⟨z49, z50, z51, z52, hE.sel [0, 1, 5, 6, 104] (by kernel_rfl), H.t1.t1⟩
       ·replace hE := hE.dec 92 c (by kernel_rfl)
        replace hm := cond_f c hm
        have c_13 := c
        refine WR.d hE 22 [.int .i64 t_6.2.root1] [(100, .bool (t_6.2.root1 != (-1)))] (obs := [.p (0 ≤ (1 : Int) ∧ (1 : Int) < ((2 : Nat) : Int)), .cell ⟨p, 2, none⟩ (.int .i64 t_6.2.root1)]) ⟨⟨by decide, by decide⟩, H.cell 0 rfl rfl, trivial⟩ fun a hE => ?_
        rcases Bool.eq_false_or_eq_true (t_6.2.root1 != (-1)) with c | c
        ·replace hE := hE.dec 100 c (by kernel_rfl)
         replace hm := cond_t c hm
         have c_14 := c
         refine WR.e0 hE [(104, .bool true)] fun a hE => ?_
         replace H := thicketlaw9_world.shut (thicketlaw9_world.A.mk al.a__p z35 z49 z50 z51 z52) (t_6.2) H.t3.t3.t3.t3
         cases hm
         exact hk _ _ ⟨z49, z50, z51, z52, hE.sel [0, 1, 5, 6, 104] (by kernel_rfl), H.t1.t1⟩
        ·replace hE := hE.dec 100 c (by kernel_rfl)
         replace hm := cond_f c hm
         have c_15 := c
         refine WR.d0 hE 23 [(100, .bool false), (101, .pointer (some ⟨p, 0, none⟩))] fun a hE => ?_
         replace H := thicketlaw9_world.shut (thicketlaw9_world.A.mk al.a__p z35 z49 z50 z51 z52) (t_6.2) H.t3.t3.t3.t3
         obtain ⟨t_7, et_7, hm⟩ := bind_some hm
         refine WR.eff hE rfl rfl rfl rfl (OpTo.fn hE rfl rfl Tryz.call32 (thicketlaw9_world_right_ok et_7 H)) ?_
         rintro _ w ⟨rfl, H⟩ a hE
         refine WR.e0 hE [(104, .bool (!t_7.1))] fun a hE => ?_
         cases hm
         exact hk _ _ ⟨z49, z50, z51, z52, hE.sel [0, 1, 5, 6, 104] (by kernel_rfl), H.t1.t1⟩
     rintro a w ⟨z45, z46, z47, z48, hE, H⟩
     refine Runs.cond hE rfl (fun c => ?_) (fun c => ?_)
     ·replace hm := cond_t c hm
      refine Runs.sr ?_
      refine WR.seg hE 1 [] [4] (Lo := [(4, .bool false)]) (obs := []) rfl (by kernel_rfl) trivial fun a hE => ?_
      refine WR.done rfl ?_
      refine Runs.ret hE Tryz.func4 rfl rfl ?_
      cases hm
      dsimp only at hR; cases hR
      exact ⟨rfl, H.x0⟩
     ·replace hm := cond_f c hm
      refine Runs.skip ?_
      refine Runs.inBlock ?_
      refine Runs.region ?_
      refine WR.seg hE 3 [] [0, 1, 5, 6] (Lo := [(0, .slice sb_rows rows.length sc_rows), (1, .slice sb_pops pops.length sc_pops), (5, .pointer (some ⟨p, 0, none⟩)), (6, .int .i64 (w64 (i + 1)))]) (obs := []) rfl (by kernel_rfl) trivial fun a hE => ?_
      refine WR.done rfl ?_
      exact ih m (Nat.lt_succ_self m) _ _ ⟨w64 (i + 1), s6.2, z35, z45, z46, z47, z48, hE.sel [0, 1, 5, 6] (by kernel_rfl), H.t1.t1, hm⟩
   ·replace hm := cond_f c hm
    refine Runs.exit rfl ?_
    cases hm
    exact hk _ _ ⟨_, rfl, z10, z11, z12, z13, z14, hE.sel [] (by kernel_rfl), H.t1.t1⟩
 rintro a w ⟨s1, rfl, z5, z6, z7, z8, z9, hE, H⟩
 replace hm := hR; dsimp only at hm
 refine Runs.sr ?_
 obtain ⟨t_8, et_8, hm⟩ := bind_some hm
 refine WR.eff hE rfl rfl rfl rfl (OpTo.fn hE rfl rfl Tryz.call29 (thicketlaw9_known_ok et_8 H)) ?_
 rintro _ w ⟨rfl, H⟩ a hE
 refine WR.seg hE 2 [] [4] (Lo := [(4, .bool t_8)]) (obs := []) rfl (by kernel_rfl) trivial fun a hE => ?_
 refine WR.done rfl ?_
 refine Runs.ret hE Tryz.func4 rfl rfl ?_
 cases hm
 exact ⟨rfl, H.x0⟩

end Go.Proofs.YtmidmkinclmbdaaGreat
