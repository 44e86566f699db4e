/-
  The plain law of ShellReads: every row of bytes is read as the document says.
-/
import Derived.Test.YtdcjghailibedaaGreatT5
set_option linter.unusedVariables false
set_option linter.unusedSimpArgs false
set_option maxRecDepth 10000
set_option maxHeartbeats 1000000
namespace Go.Proofs.YtdcjghailibedaaGreat
open Go.Th

theorem known1500 : thicketlaw28_known 1500 = some true := by kernel_rfl
def Byt (l : List Int) : Prop := ∀ c ∈ l, 0 ≤ c ∧ c ≤ 255
theorem stp_b {n c : Int} (h0 : 0 ≤ n) (hn : n * 256 < 18446744073709551616) (h : 0 ≤ c ∧ c ≤ 255) : stp n c = n * 256 + c := by
  obtain ⟨N, rfl⟩ : ∃ N : Nat, n = (N : Int) := ⟨n.toNat, by omega⟩
  obtain ⟨C, rfl⟩ : ∃ C : Nat, c = (C : Int) := ⟨c.toNat, by omega⟩
  rw [stp_eq N C (by omega) (by omega)]
  omega
theorem val_1 {c : Int} (h : 0 ≤ c ∧ c ≤ 255) : val [c] = c := by
  show stp 0 c = c
  rw [stp_b (by omega) (by omega) h]; omega
theorem val_2 {c d : Int} (h : 0 ≤ c ∧ c ≤ 255) (h2 : 0 ≤ d ∧ d ≤ 255) : val [c, d] = c * 256 + d := by
  show stp (stp 0 c) d = _
  rw [stp_b (n := 0) (by omega) (by omega) h, stp_b (by omega) (by omega) h2]; omega
/-- Two bytes, as the document puts them together. -/
def two2 (c d : Int) : Int := IntKind.wrap .i64 ((BitVec.ofInt 64 (w64 ((w64 c) * 2 ^ (min (Int.toNat 8) 64))) ||| BitVec.ofInt 64 (w64 d)).toNat : Int)
theorem two2_eq {c d : Int} (h : 0 ≤ c ∧ c ≤ 255) (h2 : 0 ≤ d ∧ d ≤ 255) : two2 c d = c * 256 + d := by
  obtain ⟨N, rfl⟩ : ∃ N : Nat, c = (N : Int) := ⟨c.toNat, by omega⟩
  obtain ⟨C, rfl⟩ : ∃ C : Nat, d = (C : Int) := ⟨d.toNat, by omega⟩
  unfold two2
  have e0 : w64 (N : Int) = (N : Int) := w64_id (by omega) (by omega)
  have e1 : w64 ((N : Int) * 2 ^ (min (Int.toNat 8) 64)) = ((N * 256 : Nat) : Int) := by
    rw [show (2 : Int) ^ (min (Int.toNat 8) 64) = 256 from rfl, w64_id (by omega) (by omega)]; omega
  have e2 : w64 (C : Int) = (C : Int) := w64_id (by omega) (by omega)
  rw [e0, e1, e2]
  have e3 : (BitVec.ofInt 64 ((N * 256 : Nat) : Int) ||| BitVec.ofInt 64 (C : Int)).toNat = N * 256 + C := by
    rw [BitVec.toNat_or, BitVec.ofInt_natCast, BitVec.ofInt_natCast, BitVec.toNat_ofNat, BitVec.toNat_ofNat, Nat.mod_eq_of_lt (by omega), Nat.mod_eq_of_lt (by omega)]
    have := Nat.shiftLeft_add_eq_or_of_lt (a := N) (b := C) (i := 8) (by omega)
    rw [Nat.shiftLeft_eq] at this
    exact this.symm
  rw [e3]
  show w64 _ = _
  rw [w64_id (by omega) (by omega)]
  omega
theorem cmd_l0 (a b c d e c0 c1 c2 c3 c4 c5 c6 c7 c8 c9 c10 c11 c12 c13 c14 c15 : Int) (m : Nat) : thicketlaw28_command_l0 a b c d e [c0, c1, c2, c3, c4, c5, c6, c7, c8, c9, c10, c11, c12, c13, c14, c15] (m + 9) 0 6 = some (val [c6, c7, c8, c9, c10, c11, c12, c13]) := by kernel_rfl
theorem cmd_eq (k : Nat) (hk : 9 ≤ k) (c0 c1 c2 c3 c4 c5 c6 c7 c8 c9 c10 c11 c12 c13 c14 c15 : Int) : thicketlaw28_command k [c0, c1, c2, c3, c4, c5, c6, c7, c8, c9, c10, c11, c12, c13, c14, c15] =
    some (⟨w64 c0, w64 c1, ⟨two2 c2 c3, two2 c4 c5⟩, w64 (val [c6, c7, c8, c9, c10, c11, c12, c13]), two2 c14 c15⟩, decide (w64 c1 ≤ 1)) := by
  obtain ⟨m, rfl⟩ : ∃ m, k = m + 9 := ⟨k - 9, by omega⟩
  unfold thicketlaw28_command
  have hx : ∀ (i : Nat) (h : i < 16), mIdx [c0, c1, c2, c3, c4, c5, c6, c7, c8, c9, c10, c11, c12, c13, c14, c15] (i : Int) = some ([c0, c1, c2, c3, c4, c5, c6, c7, c8, c9, c10, c11, c12, c13, c14, c15][i]'(by simpa using h)) := fun i h => idx_ok _ i (by simpa using h)
  have h0 := hx 0 (by omega); have h1 := hx 1 (by omega); have h2 := hx 2 (by omega); have h3 := hx 3 (by omega); have h4 := hx 4 (by omega); have h5 := hx 5 (by omega); have h6 := hx 14 (by omega); have h7 := hx 15 (by omega)
  simp only [List.getElem_cons_zero, List.getElem_cons_succ] at h0 h1 h2 h3 h4 h5 h6 h7
  rw [show (0 : Int) = ((0 : Nat) : Int) from rfl, show (1 : Int) = ((1 : Nat) : Int) from rfl, show (2 : Int) = ((2 : Nat) : Int) from rfl, show (3 : Int) = ((3 : Nat) : Int) from rfl, show (4 : Int) = ((4 : Nat) : Int) from rfl, show (5 : Int) = ((5 : Nat) : Int) from rfl, show (14 : Int) = ((14 : Nat) : Int) from rfl, show (15 : Int) = ((15 : Nat) : Int) from rfl]
  rw [h0, h1, h2, h3, h4, h5, h6, h7]
  simp only [Option.bind_some]
  have := cmd_l0 (w64 c0) (w64 c1) (two2 c2 c3) (two2 c4 c5) (two2 c14 c15) c0 c1 c2 c3 c4 c5 c6 c7 c8 c9 c10 c11 c12 c13 c14 c15 m
  exact (congrArg (fun z => Option.bind z _) this).trans rfl
theorem list16 (l : List Int) (h : 16 ≤ l.length) : ∃ c0 c1 c2 c3 c4 c5 c6 c7 c8 c9 c10 c11 c12 c13 c14 c15 r, l = c0 :: c1 :: c2 :: c3 :: c4 :: c5 :: c6 :: c7 :: c8 :: c9 :: c10 :: c11 :: c12 :: c13 :: c14 :: c15 :: r := by
  match l, h with
  | c0 :: c1 :: c2 :: c3 :: c4 :: c5 :: c6 :: c7 :: c8 :: c9 :: c10 :: c11 :: c12 :: c13 :: c14 :: c15 :: r, _ => exact ⟨c0, c1, c2, c3, c4, c5, c6, c7, c8, c9, c10, c11, c12, c13, c14, c15, r, rfl⟩
theorem rd_take (j : Nat) (l : List Int) (bad : Bool) (h : j ≤ l.length) : rdN j ⟨l, bad⟩ = (val (l.take j), ⟨l.drop j, bad⟩) := by
  unfold rdN
  rw [if_neg (by simp only; omega)]
theorem cmdR16 (kind box : Int) (c0 c1 c2 c3 c4 c5 c6 c7 c8 c9 c10 c11 c12 c13 c14 c15 : Int) (r : List Int) : cmdR kind box ⟨c0 :: c1 :: c2 :: c3 :: c4 :: c5 :: c6 :: c7 :: c8 :: c9 :: c10 :: c11 :: c12 :: c13 :: c14 :: c15 :: r, false⟩ =
    (⟨kind, box, ⟨w64 (val [c0]), w64 (val [c1]), ⟨w64 (val [c2, c3]), w64 (val [c4, c5])⟩, w64 (val [c6, c7, c8, c9, c10, c11, c12, c13]), w64 (val [c14, c15])⟩⟩, ⟨r, false⟩) := by
  unfold cmdR
  simp only [rd_take 1 _ _ (by simp : 1 ≤ (c0 :: c1 :: c2 :: c3 :: c4 :: c5 :: c6 :: c7 :: c8 :: c9 :: c10 :: c11 :: c12 :: c13 :: c14 :: c15 :: r).length)]
  simp only [List.take_succ_cons, List.take_zero, List.drop_succ_cons, List.drop_zero]
  rw [rd_take 1 _ _ (by simp)]
  simp only [List.take_succ_cons, List.take_zero, List.drop_succ_cons, List.drop_zero]
  rw [rd_take 2 _ _ (by simp)]
  simp only [List.take_succ_cons, List.take_zero, List.drop_succ_cons, List.drop_zero]
  rw [rd_take 2 _ _ (by simp)]
  simp only [List.take_succ_cons, List.take_zero, List.drop_succ_cons, List.drop_zero]
  rw [rd_take 8 _ _ (by simp)]
  simp only [List.take_succ_cons, List.take_zero, List.drop_succ_cons, List.drop_zero]
  rw [rd_take 2 _ _ (by simp)]
  simp only [List.take_succ_cons, List.take_zero, List.drop_succ_cons, List.drop_zero]
/-- A command of sixteen bytes: read as the document reads it; it may be if its Queue may. -/
theorem cmd_same (k : Nat) (hk : 9 ≤ k) (kind box : Int) (l : List Int) (hl : 16 ≤ l.length) (hb : Byt l) (h13 : kind = 1 ∨ kind = 3) (hx : kind = 1 → 0 ≤ box ∧ box ≤ 255) :
    ∃ c, thicketlaw28_command k (l.take 16) = some (c, decide (c.Queue ≤ 1)) ∧ cmdR kind box ⟨l, false⟩ = (⟨kind, box, c⟩, ⟨l.drop 16, false⟩) ∧ mayB ⟨kind, box, c⟩ = decide (c.Queue ≤ 1) := by
  obtain ⟨c0, c1, c2, c3, c4, c5, c6, c7, c8, c9, c10, c11, c12, c13, c14, c15, r, rfl⟩ := list16 l hl
  have b0 := hb c0 (by simp); have b1 := hb c1 (by simp); have b2 := hb c2 (by simp); have b3 := hb c3 (by simp); have b4 := hb c4 (by simp); have b5 := hb c5 (by simp); have b14 := hb c14 (by simp); have b15 := hb c15 (by simp)
  refine ⟨⟨c0, c1, ⟨c2 * 256 + c3, c4 * 256 + c5⟩, w64 (val [c6, c7, c8, c9, c10, c11, c12, c13]), c14 * 256 + c15⟩, ?_, ?_, ?_⟩
  · simp only [List.take_succ_cons, List.take_zero]
    rw [cmd_eq k hk, two2_eq b2 b3, two2_eq b4 b5, two2_eq b14 b15, w64_small (n := c0) (by omega), w64_small (n := c1) (by omega)]
  · rw [cmdR16, val_1 b0, val_1 b1, val_2 b2 b3, val_2 b4 b5, val_2 b14 b15, w64_small (n := c0) (by omega), w64_small (n := c1) (by omega), w64_small (n := c2 * 256 + c3) (by omega), w64_small (n := c4 * 256 + c5) (by omega), w64_small (n := c14 * 256 + c15) (by omega)]
    simp only [List.drop_succ_cons, List.drop_zero]
  · unfold mayB
    have s0 : sm c0 255 = true := by simp [sm]; omega
    have s2 : sm (c2 * 256 + c3) 65535 = true := by simp [sm]; omega
    have s3 : sm (c4 * 256 + c5) 65535 = true := by simp [sm]; omega
    have s4 : sm (c14 * 256 + c15) 65535 = true := by simp [sm]; omega
    have s1 : sm c1 1 = decide (c1 ≤ 1) := by simp [sm]; omega
    simp only [s0, s1, s2, s3, s4]
    rcases h13 with rfl | rfl
    · have sb : sm box 255 = true := by have := hx rfl; simp [sm]; omega
      simp [sb]
    · simp
theorem cmdR_short (kind box : Int) (p : shell_reader) (h : short p 16) : (cmdR kind box p).2.bad = true := by
  have key : (rdN 2 (rdN 8 (rdN 2 (rdN 2 (rdN 1 (rdN 1 p).2).2).2).2).2).2.bad = true :=
    short0 (short_rd (j := 2) (m := 0) (short_rd (j := 8) (m := 2) (short_rd (j := 2) (m := 10) (short_rd (j := 2) (m := 12) (short_rd (j := 1) (m := 14) (short_rd (j := 1) (m := 15) h))))))
  simp only [cmdR]
  exact key
theorem parse_same (m1 m2 : shell_Script) (l1 l2 : List Int) : ∀ (n k : Nat) (m : shell_Script) (b : List Int), b.length ≤ n → n + 12 ≤ k → m.Acts.length ≤ 256 → b.length ≤ 1000000 → Byt b →
    ∃ t, shell_Decode_l0 m1 l1 k m ⟨b, false⟩ = some t ∧ thicketlaw28_parse_l0 m2 l2 k b m = some t.1 ∧ t.1.Acts.length ≤ 256
  | n, 0, m, b, _, hk, _, _, _ => by omega
  | n, k + 1, m, b, hn, hk, hA, hb, hB => by
    rw [dec_step m1 l1 k (by omega) m ⟨b, false⟩ hb hA, thicketlaw28_parse_l0]
    have d1 : decide ((b.length : Int) > 0) = decide (0 < b.length) := by simp
    have d2 : decide ((m.Acts.length : Int) < 256) = decide (m.Acts.length < 256) := by
      by_cases h : m.Acts.length < 256
      · have : (m.Acts.length : Int) < 256 := by omega
        simp [h, this]
      · have : ¬ (m.Acts.length : Int) < 256 := by omega
        simp [h, this]
    rw [d1, d2]
    by_cases h0 : 0 < b.length
    case neg =>
      have e : decide (0 < b.length) = false := decide_eq_false h0
      simp only [e, Bool.false_and, cond_false, Option.bind_some]
      exact ⟨_, rfl, rfl, hA⟩
    have e : decide (0 < b.length) = true := decide_eq_true h0
    by_cases h1 : m.Acts.length < 256
    case neg =>
      have e1 : decide (m.Acts.length < 256) = false := decide_eq_false h1
      simp only [e, e1, Bool.and_false, cond_false, cond_true, Option.bind_some]
      exact ⟨_, rfl, rfl, hA⟩
    have e1 : decide (m.Acts.length < 256) = true := decide_eq_true h1
    obtain ⟨c, r, rfl⟩ := List.exists_cons_of_length_pos h0
    have hc := hB c (by simp)
    have hBr : Byt r := fun z hz => hB z (by simp [hz])
    have i0 : mIdx (c :: r) 0 = some c := by have := idx_ok (c :: r) 0 (by simp); simpa using this
    have k1 : mCut (c :: r) 1 ((c :: r).length : Int) = some r := by
      have := cut_ok (c :: r) 1 (c :: r).length (by simp) (by omega)
      rw [show ((1 : Nat) : Int) = 1 from rfl] at this
      rw [this]; simp
    have hrd : rdN 1 ⟨c :: r, false⟩ = (c, ⟨r, false⟩) := by
      rw [rd_take 1 _ _ (by simp)]
      simp only [List.take_succ_cons, List.take_zero, List.drop_succ_cons, List.drop_zero, val_1 hc]
    have hw : w64 c = c := w64_small (by omega)
    simp only [List.length_cons] at hn hb
    have ha : ∀ a : api_Act, mApp m.Acts [a] = some (m.Acts ++ [a]) := fun a => app_ok (by show m.Acts.length + 1 ≤ 1073741824; omega)
    simp only [e, e1, Bool.and_self, cond_true, Option.bind_some, i0, k1, hrd, hw]
    cases hk4 : (decide (c < 1) || decide (c > 4))
    case true =>
      simp only [cond_true]
      cases n with
      | zero => omega
      | succ n => exact parse_same m1 m2 l1 l2 n k m r (by omega) (by omega) hA (by omega) hBr
    simp only [Bool.or_eq_false_iff, decide_eq_false_iff_not] at hk4
    simp only [cond_false]
    cases n with
    | zero => omega
    | succ n =>
    have rec_ := fun (a : api_Act) (z : List Int) (hz : z.length ≤ r.length) (hBz : Byt z) => parse_same m1 m2 l1 l2 n k (addA m a) z (by omega) (by omega) (by simp [addA]; omega) (by omega) hBz
    -- what has a command
    have cmd : ∀ (box : Int) (z : List Int), z.length ≤ r.length → Byt z → (c = 1 ∨ c = 3) → (c = 1 → 0 ≤ box ∧ box ≤ 255) →
        ∃ t, (bif !(!(cmdR c box ⟨z, false⟩).2.bad && mayB (cmdR c box ⟨z, false⟩).1) then some (m, (cmdR c box ⟨z, false⟩).2) else shell_Decode_l0 m1 l1 k (addA m (cmdR c box ⟨z, false⟩).1) (cmdR c box ⟨z, false⟩).2) = some t ∧
          (bif decide ((z.length : Int) < 16) then some m else (mCut z 0 16).bind fun l4 => (thicketlaw28_command k l4).bind fun t_ => bif !t_.2 then some m else (mCut z 16 (z.length : Int)).bind fun l5 => (mApp m.Acts ([api_Act.mk c box t_.1] : List api_Act)).bind fun l6 =>
            thicketlaw28_parse_l0 m2 l2 k l5 (shell_Script.mk m.Kind m.Jobs m.Boxes m.Room l6)) = some t.1 ∧ t.1.Acts.length ≤ 256 := by
      intro box z hz hBz h13 hbx
      by_cases h16 : z.length < 16
      · have d : decide ((z.length : Int) < 16) = true := by simp; omega
        have hbad : (cmdR c box ⟨z, false⟩).2.bad = true := cmdR_short c box _ (.inr h16)
        rw [hbad, d]
        exact ⟨_, rfl, rfl, hA⟩
      · have d : decide ((z.length : Int) < 16) = false := by simp; omega
        obtain ⟨cc, q1, q2, q3⟩ := cmd_same k (by omega) c box z (by omega) hBz h13 hbx
        have c16 := cut_ok z 0 16 (by omega) (by omega)
        have c17 := cut_ok z 16 z.length (by omega) (by omega)
        rw [show ((0 : Nat) : Int) = 0 from rfl, show ((16 : Nat) : Int) = 16 from rfl] at c16
        rw [show ((16 : Nat) : Int) = 16 from rfl] at c17
        rw [q2, d, c16, c17]
        simp only [cond_false, Option.bind_some, List.drop_zero, List.take_length, q1, q3, ha]
        cases decide (cc.Queue ≤ 1)
        · exact ⟨_, rfl, rfl, hA⟩
        · simp only [Bool.not_true, Bool.not_false, Bool.and_self, cond_false]
          exact rec_ _ _ (by simp; omega) fun y hy => hBz y (List.mem_of_mem_drop hy)
    unfold takeV
    by_cases c1 : c = 1
    · subst c1
      simp only [show ((1 : Int) == 1) = true from rfl, Bool.true_or, cond_true]
      by_cases hr0 : r.length = 0
      · have er : r = [] := List.eq_nil_of_length_eq_zero hr0
        subst er
        have hbad : (cmdR 1 (w64 (rdN 1 ⟨[], false⟩).1) (rdN 1 ⟨[], false⟩).2).2.bad = true := cmdR_short _ _ _ (.inl rfl)
        simp only [hbad, Bool.not_true, Bool.false_and, Bool.not_false, cond_true]
        exact ⟨_, rfl, rfl, hA⟩
      · obtain ⟨bx, r2, rfl⟩ := List.exists_cons_of_length_pos (Nat.pos_of_ne_zero hr0)
        have hbx := hBr bx (by simp)
        have hd0 : (((bx :: r2).length : Int) == 0) = false := by simp; omega
        have j0 : mIdx (bx :: r2) 0 = some bx := by have := idx_ok (bx :: r2) 0 (by simp); simpa using this
        have j1 : mCut (bx :: r2) 1 ((bx :: r2).length : Int) = some r2 := by
          have := cut_ok (bx :: r2) 1 (bx :: r2).length (by simp) (by omega)
          rw [show ((1 : Nat) : Int) = 1 from rfl] at this
          rw [this]; simp
        have hrd2 : rdN 1 ⟨bx :: r2, false⟩ = (bx, ⟨r2, false⟩) := by
          rw [rd_take 1 _ _ (by simp)]
          simp only [List.take_succ_cons, List.take_zero, List.drop_succ_cons, List.drop_zero, val_1 hbx]
        have hwb : w64 bx = bx := w64_small (by omega)
        simp only [hd0, cond_false, j0, j1, Option.bind_some, hrd2, hwb]
        exact cmd bx r2 (by simp) (fun y hy => hBr y (by simp [hy])) (.inl rfl) fun _ => hbx
    · have e11 : (c == 1) = false := by simpa using c1
      simp only [e11, Bool.false_or, cond_false]
      by_cases c3 : c = 3
      · subst c3
        simp only [show ((3 : Int) == 3) = true from rfl, cond_true]
        exact cmd 0 r (Nat.le_refl _) hBr (.inr rfl) fun h => by omega
      · have e33 : (c == 3) = false := by simpa using c3
        have hm : mayB ⟨c, 0, ⟨0, 0, ⟨0, 0⟩, 0, 0⟩⟩ = true := by
          unfold mayB
          have : c = 2 ∨ c = 4 := by omega
          rcases this with rfl | rfl <;> rfl
        simp only [e33, cond_false, hm, Bool.not_false, Bool.and_self, Bool.not_true, ha, Option.bind_some]
        exact rec_ _ _ (Nat.le_refl _) hBr
end Go.Proofs.YtdcjghailibedaaGreat
