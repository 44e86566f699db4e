/-
  The plain law of ShellReads: every row of bytes is read as the document says; what is handed in stays as it was.
-/
import Derived.Test.YtdcjghailibedaaGreatT7
import Derived.Test.YtdcjghailibedaaGreatE16
set_option linter.unusedVariables false
set_option linter.unusedSimpArgs false
set_option maxRecDepth 10000
set_option maxHeartbeats 1000000
namespace Go.Proofs.YtdcjghailibedaaGreat
open Go.Th

theorem list5 (l : List Int) (h : 5 ≤ l.length) : ∃ c0 c1 c2 c3 c4 r, l = c0 :: c1 :: c2 :: c3 :: c4 :: r := by
  match l, h with
  | c0 :: c1 :: c2 :: c3 :: c4 :: r, _ => exact ⟨c0, c1, c2, c3, c4, r, rfl⟩
theorem reads_eq (b : List Int) (hb : Byt b) (hl : b.length ≤ 1200) : thicketlaw28_reads 1500 b = some true := by
  unfold thicketlaw28_reads
  by_cases h5 : b.length < 5
  · rw [decode_few 1500 b h5]
    unfold thicketlaw28_parse
    have d : decide ((b.length : Int) < 5) = true := by simp; omega
    rw [d]
    simp only [cond_true, Option.bind_some]
    rw [same_eq 1500 _ (by simp) (by simp)]
    rfl
  · obtain ⟨c0, c1, c2, c3, c4, r, rfl⟩ := list5 b (by omega)
    have b0 := hb c0 (by simp); have b1 := hb c1 (by simp); have b2 := hb c2 (by simp); have b3 := hb c3 (by simp); have b4 := hb c4 (by simp)
    have hBr : Byt r := fun z hz => hb z (by simp [hz])
    simp only [List.length_cons] at hl
    generalize hB : c0 :: c1 :: c2 :: c3 :: c4 :: r = B
    have hlB : B.length = r.length + 5 := by rw [← hB]; rfl
    obtain ⟨t, p1, p2, p3⟩ := parse_same ⟨0, 0, 0, 0, []⟩ ⟨0, 0, 0, 0, []⟩ B B 1200 1500 ⟨c0, c1 * 256 + c2, c3, c4, []⟩ r (by omega) (by omega) (by simp) (by omega) hBr
    have hd : shell_Decode 1500 B = some (t.1, 0) := by
      unfold shell_Decode shell_reader_int
      have d : decide ((B.length : Int) < 5) = false := by rw [hlB]; simp; omega
      rw [d]
      simp only [cond_false]
      rw [rd1_eq 1500 _ (by omega) (by simp only; omega)]
      have r1 : rdN 1 ⟨B, false⟩ = (c0, ⟨c1 :: c2 :: c3 :: c4 :: r, false⟩) := by
        rw [rd_take 1 _ _ (by omega), ← hB]
        simp only [List.take_succ_cons, List.take_zero, List.drop_succ_cons, List.drop_zero, val_1 b0]
      rw [r1]
      simp only [Option.bind_some]
      rw [rd2_eq 1500 _ (by omega) (by simp; omega), rd_take 2 _ _ (by simp)]
      simp only [List.take_succ_cons, List.take_zero, List.drop_succ_cons, List.drop_zero, val_2 b1 b2, Option.bind_some]
      rw [rd1_eq 1500 _ (by omega) (by simp; omega), rd_take 1 _ _ (by simp)]
      simp only [List.take_succ_cons, List.take_zero, List.drop_succ_cons, List.drop_zero, val_1 b3, Option.bind_some]
      rw [rd1_eq 1500 _ (by omega) (by simp; omega), rd_take 1 _ _ (by simp)]
      simp only [List.take_succ_cons, List.take_zero, List.drop_succ_cons, List.drop_zero, val_1 b4, Option.bind_some]
      rw [w64_small (n := c0) (by omega), w64_small (n := c1 * 256 + c2) (by omega), w64_small (n := c3) (by omega), w64_small (n := c4) (by omega), p1]
      rfl
    have hp : thicketlaw28_parse 1500 B = some (t.1, true) := by
      unfold thicketlaw28_parse
      have d : decide ((B.length : Int) < 5) = false := by rw [hlB]; simp; omega
      have hx : ∀ (i : Nat) (h : i < B.length), mIdx B (i : Int) = some B[i] := fun i h => idx_ok B i h
      have h0 := hx 0 (by omega); have h1 := hx 1 (by omega); have h2 := hx 2 (by omega); have h3 := hx 3 (by omega); have h4 := hx 4 (by omega)
      have k5 := cut_ok B 5 B.length (by omega) (by omega)
      subst hB
      simp only [List.getElem_cons_zero, List.getElem_cons_succ] at h0 h1 h2 h3 h4
      rw [show ((0 : Nat) : Int) = 0 from rfl] at h0
      rw [show ((1 : Nat) : Int) = 1 from rfl] at h1
      rw [show ((2 : Nat) : Int) = 2 from rfl] at h2
      rw [show ((3 : Nat) : Int) = 3 from rfl] at h3
      rw [show ((4 : Nat) : Int) = 4 from rfl] at h4
      rw [show ((5 : Nat) : Int) = 5 from rfl] at k5
      simp only [List.take_length, List.drop_succ_cons, List.drop_zero] at k5
      rw [d, h0, h1, h2, h3, h4, k5]
      simp only [cond_false, Option.bind_some]
      have e2 := two2_eq b1 b2
      unfold two2 at e2
      rw [e2, w64_small (n := c0) (by omega), w64_small (n := c3) (by omega), w64_small (n := c4) (by omega), p2]
      rfl
    rw [hd, hp]
    simp only [Option.bind_some]
    rw [same_eq 1500 _ (by omega) (by omega)]
    rfl

/-! What is handed in with room behind it. -/
theorem roomy_l0 (mark : Int) (l3 l : List Int) (hl : l.length ≤ 100000) : ∀ (n j k : Nat), j + n = 80 → n < k →
    thicketbook_Roomy_byte_l0 mark l3 k ((l.length + j : Nat) : Int) (l ++ (List.replicate j mark ++ List.replicate n 0)) = some (l ++ List.replicate 80 mark)
  | n, j, 0, _, hk => by omega
  | 0, j, k + 1, hj, _ => by
    have e : j = 80 := by omega
    subst e
    rw [thicketbook_Roomy_byte_l0]
    have hd : decide (((l.length + 80 : Nat) : Int) < ((l ++ (List.replicate 80 mark ++ List.replicate 0 0)).length : Int)) = false := by simp
    rw [hd]
    simp only [cond_false, List.replicate_zero, List.append_nil]
  | n + 1, j, k + 1, hj, hk => by
    rw [thicketbook_Roomy_byte_l0]
    have hlen : (l ++ (List.replicate j mark ++ List.replicate (n + 1) 0)).length = l.length + 80 := by simp; omega
    have hd : decide (((l.length + j : Nat) : Int) < ((l ++ (List.replicate j mark ++ List.replicate (n + 1) 0)).length : Int)) = true := by rw [hlen]; simp; omega
    have hw : w64 (((l.length + j : Nat) : Int) + 1) = ((l.length + (j + 1) : Nat) : Int) := by rw [w64_id (by omega) (by omega)]; omega
    rw [hd, idx_ok _ _ (by rw [hlen]; omega), hw]
    simp only [cond_true, Option.bind_some]
    have hs : mSet (l ++ (List.replicate j mark ++ List.replicate (n + 1) 0)) ((l.length + j : Nat) : Int) mark = l ++ (List.replicate (j + 1) mark ++ List.replicate n 0) := by
      unfold mSet
      rw [Int.toNat_natCast, List.set_append_right _ _ (by omega), Nat.add_sub_cancel_left, List.set_append_right _ _ (by simp), List.length_replicate, Nat.sub_self, List.replicate_succ, List.set_cons_zero, List.replicate_succ', List.append_assoc]
      rfl
    rw [hs]
    exact roomy_l0 mark l3 l hl n (j + 1) k (by omega) (by omega)
theorem roomy_eq (l : List Int) (mark : Int) (hl : l.length ≤ 100000) : thicketbook_Roomy_byte 1500 l mark = some (l ++ List.replicate 80 mark) := by
  unfold thicketbook_Roomy_byte
  have hw : w64 ((l.length : Int) + 80) = ((l.length + 80 : Nat) : Int) := by rw [w64_id (by omega) (by omega)]; omega
  have hm : mMake ((l.length + 80 : Nat) : Int) (0 : Int) = some (List.replicate (l.length + 80) 0) := by unfold mMake; rw [if_pos (by omega), Int.toNat_natCast]
  have hc : mCopy (List.replicate (l.length + 80) (0 : Int)) l = some (l ++ List.replicate 80 0) := by
    unfold mCopy
    rw [if_pos (by rw [List.length_replicate]; omega), List.length_replicate, List.take_of_length_le (by omega), List.drop_replicate, Nat.add_sub_cancel_left]
  rw [hw, hm]
  simp only [Option.bind_some]
  rw [hc]
  simp only [Option.bind_some]
  have := roomy_l0 mark l l hl 80 0 1500 (by omega) (by omega)
  simp only [Nat.add_zero, List.replicate_zero, List.nil_append] at this
  rw [this]
  rfl
theorem sameb_l0 (l : List Int) (hl : l.length ≤ 100000) : ∀ (n i k : Nat), i + n = l.length → n < k → thicketbook_Same_byte_l0 l l k (i : Int) = some (.inr ())
  | n, i, 0, _, hk => by omega
  | 0, i, k + 1, hi, _ => by
    have hd : decide ((i : Int) < (l.length : Int)) = false := by simp; omega
    rw [thicketbook_Same_byte_l0, hd]; rfl
  | n + 1, i, k + 1, hi, hk => by
    have hlt : i < l.length := by omega
    have hd : decide ((i : Int) < (l.length : Int)) = true := by simp; omega
    have hw : w64 ((i : Int) + 1) = ((i + 1 : Nat) : Int) := by rw [w64_id (by omega) (by omega)]; rfl
    rw [thicketbook_Same_byte_l0, hd, idx_ok l i hlt, hw]
    simp only [cond_true, Option.bind_some, bne_self_eq_false, cond_false]
    exact sameb_l0 l hl n (i + 1) k (by omega) (by omega)
theorem intact_l0 (mark : Int) (l l3 : List Int) (hl : l.length ≤ 100000) : ∀ (n j k : Nat), j + n = 80 → n < k → thicketbook_Intact_byte_l0 mark (l ++ List.replicate 80 mark) l3 k ((l.length + j : Nat) : Int) = some (.inr ())
  | n, j, 0, _, hk => by omega
  | 0, j, k + 1, hj, _ => by
    have hd : decide (((l.length + j : Nat) : Int) < ((l ++ List.replicate 80 mark).length : Int)) = false := by simp; omega
    rw [thicketbook_Intact_byte_l0, hd]; rfl
  | n + 1, j, k + 1, hj, hk => by
    have hd : decide (((l.length + j : Nat) : Int) < ((l ++ List.replicate 80 mark).length : Int)) = true := by simp; omega
    have hw : w64 (((l.length + j : Nat) : Int) + 1) = ((l.length + (j + 1) : Nat) : Int) := by rw [w64_id (by omega) (by omega)]; omega
    rw [thicketbook_Intact_byte_l0, hd, idx_ok _ _ (by simp; omega), hw]
    simp only [cond_true, Option.bind_some]
    rw [List.getElem_append_right (by omega), List.getElem_replicate]
    simp only [bne_self_eq_false, cond_false]
    exact intact_l0 mark l l3 hl n (j + 1) k (by omega) (by omega)
theorem intact_eq (l : List Int) (mark : Int) (hl : l.length ≤ 1300) : thicketbook_Intact_byte 1500 (l ++ List.replicate 80 mark) l mark = some true := by
  unfold thicketbook_Intact_byte thicketbook_Same_byte
  have hw : w64 ((l.length : Int) + 80) = ((l.length + 80 : Nat) : Int) := by rw [w64_id (by omega) (by omega)]; omega
  have hn : (((l ++ List.replicate 80 mark).length : Int) != ((l.length + 80 : Nat) : Int)) = false := by simp
  have hc := cut_ok (l ++ List.replicate 80 mark) 0 l.length (by omega) (by simp)
  rw [show ((0 : Nat) : Int) = 0 from rfl] at hc
  rw [hw, hn, hc]
  simp only [cond_false, Option.bind_some, List.drop_zero, List.take_left']
  have hs := sameb_l0 l (by omega) l.length 0 1500 (by omega) (by omega)
  have hi := intact_l0 mark l l (by omega) 80 0 1500 (by omega) (by omega)
  rw [show ((0 : Nat) : Int) = 0 from rfl] at hs
  rw [Nat.add_zero] at hi
  simp only [bne_self_eq_false, cond_false]
  rw [hs]
  simp only [Option.bind_some, Bool.not_true, cond_false]
  rw [hi]
  rfl
theorem u8_range (x : Int) : 0 ≤ IntKind.wrap .u8 x ∧ IntKind.wrap .u8 x ≤ 255 := by
  rw [u8_eq]; omega
theorem numL_byt (n : Int) : ∀ j, Byt (numL n j)
  | 0, c, h => by simp [numL] at h
  | j + 1, c, h => by
    rw [numL, List.mem_cons] at h
    rcases h with rfl | h
    · exact u8_range _
    · exact numL_byt n j c h
theorem actB_byt (a : api_Act) : Byt (actB a) := by
  intro c h
  unfold actB at h
  simp only [List.mem_append, List.mem_singleton] at h
  rcases h with rfl | h | h
  · exact u8_range _
  · cases h1 : (a.Kind == 1) <;> rw [h1] at h
    · simp at h
    · simp only [cond_true, List.mem_singleton] at h; subst h; exact u8_range _
  · cases h1 : (a.Kind == 1 || a.Kind == 3) <;> rw [h1] at h
    · simp at h
    · simp only [cond_true, List.mem_append, List.mem_cons, List.not_mem_nil, or_false] at h
      rcases h with (rfl | rfl) | h | h | h | h
      · exact u8_range _
      · exact u8_range _
      all_goals exact numL_byt _ _ _ h
theorem file_byt (s : shell_Script) : Byt (hdrB s ++ s.Acts.flatMap actB) := by
  intro c h
  rw [List.mem_append] at h
  rcases h with h | h
  · unfold hdrB at h
    simp only [List.mem_append, List.mem_cons, List.not_mem_nil, or_false] at h
    rcases h with rfl | h | rfl | rfl
    · exact u8_range _
    · exact numL_byt _ _ _ h
    · exact u8_range _
    · exact u8_range _
  · obtain ⟨a, _, ha⟩ := List.mem_flatMap.1 h
    exact actB_byt a c ha
theorem shellReads_plain (x : thicketlaw28_Raw) (b : List Int) (at_ turn : Int) (hL : ∀ z ∈ x.L, EncI64 thicketkeep_D.enc z) (hA : ∀ z ∈ x.Acts, EncI64 api_Act.enc z) (hb : ∀ z ∈ b, 0 ≤ z ∧ z ≤ 255) : ∃ k, thicketlaw28_ShellReads k x b at_ turn = some true := by
  refine ⟨1500, ?_⟩
  obtain ⟨s, hs, hl, _⟩ := made_ok (fun _ => True) (fun _ _ => trivial) 1500 (by omega) x (fun _ _ => ⟨trivial, trivial⟩) fun _ _ => trivial
  have d : decide ((s.Acts.length : Int) > 256) = false := by simp; omega
  have h18 := acB_length s.Acts
  unfold acB at h18
  have h5 := hdr_length s
  unfold thicketlaw28_ShellReads
  rw [hs]
  simp only [Option.bind_some]
  rw [right_eq 1500 s (by omega), d]
  simp only [Option.bind_some, cond_false]
  have first : ∃ y, (bif (bif !(hdrOk s && s.Acts.all mayB) then (1 : Int) else 0) == 0 then
      (thicketlaw28_written 1500 s).bind fun t_2 =>
      (thicketbook_Within at_ 0 (w64 ((t_2.length : Int) - 1))).bind fun t_3 =>
      (mIdx t_2 t_3).bind fun x1 =>
      (mIdx t_2 t_3).bind fun x2 =>
      some (mSet t_2 t_3 (IntKind.wrap .u8 ((BitVec.ofInt 8 x1 ^^^ BitVec.ofInt 8 turn).toNat : Int)))
    else some ([] : List Int)) = some y ∧ Byt y ∧ y.length ≤ 1000 := by
    cases hc : (hdrOk s && s.Acts.all mayB)
    · exact ⟨[], rfl, fun c h => by simp at h, by simp⟩
    · rw [Bool.and_eq_true] at hc
      simp only [Bool.not_true, cond_false]
      rw [show ((0 : Int) == 0) = true from rfl, written_eq 1500 s (by omega) (by omega) hc.1 hc.2]
      simp only [cond_true, Option.bind_some]
      have hB := file_byt s
      have hlen : (hdrB s ++ s.Acts.flatMap actB).length ≤ 1000 := by simp only [List.length_append]; omega
      have hlen5 : 5 ≤ (hdrB s ++ s.Acts.flatMap actB).length := by simp only [List.length_append]; omega
      generalize hdrB s ++ s.Acts.flatMap actB = F at hB hlen hlen5
      have hw : w64 ((F.length : Int) - 1) = (F.length : Int) - 1 := w64_id (by omega) (by omega)
      rw [hw]
      obtain ⟨i, hi, i1, i2⟩ := within (n := at_) (lo := 0) (hi := (F.length : Int) - 1) (by omega) (by omega) (by omega)
      obtain ⟨j, rfl⟩ : ∃ j : Nat, i = (j : Int) := ⟨i.toNat, by omega⟩
      rw [hi]
      simp only [Option.bind_some]
      rw [idx_ok F j (by omega)]
      simp only [Option.bind_some]
      refine ⟨_, rfl, fun c hc => ?_, by simp [mSet]; omega⟩
      unfold mSet at hc
      rcases List.mem_or_eq_of_mem_set hc with h | rfl
      · exact hB c h
      · exact u8_range _
  obtain ⟨y, hy, hBy, hly⟩ := first
  rw [hy]
  obtain ⟨b', hb', hBb, hlb⟩ : ∃ b', ((bif decide ((b.length : Int) > 100) then (mCut b 0 100).bind fun l => some l else some b) : Option (List Int)) = some b' ∧ Byt b' ∧ b'.length ≤ 100 := by
    cases hd : decide ((b.length : Int) > 100)
    · simp only [decide_eq_false_iff_not] at hd
      exact ⟨b, rfl, hb, by omega⟩
    · simp only [decide_eq_true_eq] at hd
      have := cut_ok b 0 100 (by omega) (by omega)
      rw [show ((0 : Nat) : Int) = 0 from rfl, show ((100 : Nat) : Int) = 100 from rfl] at this
      exact ⟨b.take 100, by simp [this], fun c h => hb c (List.mem_of_mem_take h), by simp; omega⟩
  simp only [Option.bind_some]
  rw [hb']
  simp only [Option.bind_some]
  rw [app_ok (by omega)]
  simp only [Option.bind_some]
  have hlf : (y ++ b').length ≤ 1100 := by simp; omega
  have hBf : Byt (y ++ b') := fun c h => by
    rw [List.mem_append] at h
    rcases h with h | h
    · exact hBy c h
    · exact hBb c h
  generalize y ++ b' = f at hlf hBf
  rw [roomy_eq f 165 (by omega)]
  have hc := cut_ok (f ++ List.replicate 80 165) 0 f.length (by omega) (by simp)
  rw [show ((0 : Nat) : Int) = 0 from rfl] at hc
  simp only [Option.bind_some]
  rw [hc]
  simp only [Option.bind_some, List.drop_zero, List.take_left']
  rw [reads_eq f hBf (by omega), reads_eq b' hBb (by omega), intact_eq f 165 (by omega), known1500]
  rfl
end Go.Proofs.YtdcjghailibedaaGreat
