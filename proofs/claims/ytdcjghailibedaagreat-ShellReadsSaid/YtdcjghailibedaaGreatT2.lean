/-
  The plain law of scripts, part 2: a script is written as the document writes it.
-/
import Derived.Test.YtdcjghailibedaaGreatT1
set_option linter.unusedVariables false
set_option linter.unusedSimpArgs false
set_option maxRecDepth 10000
namespace Go.Proofs.YtdcjghailibedaaGreat
open Go.Th

/-- A byte of a number. -/
def nb (n : Int) (j : Nat) : Int := IntKind.wrap .u8 (Int.fdiv n (2 ^ (8 * j)))
def numL (n : Int) : Nat → List Int
  | 0 => []
  | j + 1 => nb n j :: numL n j
theorem numL_length (n : Int) : ∀ j, (numL n j).length = j
  | 0 => rfl
  | j + 1 => by simp [numL, numL_length n j]
theorem w64_pred (j : Nat) (h : j ≤ 100) : w64 ((j : Int) - 1) = (j : Int) - 1 := w64_id (by omega) (by omega)
theorem number_l0 (n : Int) : ∀ (j m : Nat) (b : List Int), j ≤ 8 → b.length + j ≤ 1000000 → shell_number_l0 n (m + j + 1) b ((j : Int) - 1) = some (b ++ numL n j)
  | 0, m, b, _, _ => by
    rw [shell_number_l0]
    have hd : decide (((0 : Nat) : Int) - 1 ≥ 0) = false := by decide
    rw [hd]; simp [numL]
  | j + 1, m, b, hj, hb => by
    rw [show m + (j + 1) + 1 = (m + j + 1) + 1 from rfl, shell_number_l0]
    have e0 : (((j + 1 : Nat)) : Int) - 1 = (j : Int) := by omega
    rw [e0]
    have hd : decide ((j : Int) ≥ 0) = true := by simp
    have e1 : w64 (8 * (j : Int)) = ((8 * j : Nat) : Int) := by rw [w64_id (by omega) (by omega)]; omega
    have e2 : mNn ((8 * j : Nat) : Int) = some () := by unfold mNn; rw [if_pos (by omega)]
    rw [hd, e1, e2, w64_pred j (by omega), app_ok (by simp; omega)]
    simp only [cond_true, Option.bind_some]
    rw [number_l0 n j m _ (by omega) (by simp; omega)]
    have e3 : min (Int.toNat ((8 * j : Nat) : Int)) 64 = 8 * j := by omega
    rw [e3]
    simp [numL, nb]
theorem number_eq (k : Nat) (b : List Int) (n : Int) (j : Nat) (hk : 9 ≤ k) (hj : j ≤ 8) (hb : b.length + j ≤ 1000000) : shell_number k b n (j : Int) = some (b ++ numL n j) := by
  obtain ⟨m, rfl⟩ : ∃ m, k = m + j + 1 := ⟨k - j - 1, by omega⟩
  unfold shell_number
  rw [w64_pred j (by omega), number_l0 n j m b hj hb]
  rfl
theorem number2 (k : Nat) (b : List Int) (n : Int) (hk : 9 ≤ k) (hb : b.length ≤ 900000) : shell_number k b n 2 = some (b ++ numL n 2) := number_eq k b n 2 hk (by omega) (by omega)
theorem number8 (k : Nat) (b : List Int) (n : Int) (hk : 9 ≤ k) (hb : b.length ≤ 900000) : shell_number k b n 8 = some (b ++ numL n 8) := number_eq k b n 8 hk (by omega) (by omega)

def u8 (x : Int) : Int := IntKind.wrap .u8 x
def u64 (x : Int) : Int := IntKind.wrap .u64 x
/-- The bytes of an act. -/
def actB (x : api_Act) : List Int := [u8 x.Kind] ++ ((bif x.Kind == 1 then [u8 x.Box] else []) ++ (bif x.Kind == 1 || x.Kind == 3 then [u8 x.Command.Kind, u8 x.Command.Queue] ++ (numL (u64 x.Command.Job.At) 2 ++ (numL (u64 x.Command.Job.Gen) 2 ++ (numL (u64 x.Command.Time) 8 ++ numL (u64 x.Command.Data) 2))) else []))
theorem actB_length (x : api_Act) : (actB x).length ≤ 18 := by
  unfold actB
  cases (x.Kind == 1) <;> cases (x.Kind == 3) <;> simp [numL_length]
theorem put_eq (k : Nat) (b : List Int) (x : api_Act) (hk : 9 ≤ k) (hb : b.length ≤ 800000) : shell_put k b x = some (b ++ actB x) := by
  unfold shell_put shell_asks actB
  rw [app_ok (by simp; omega)]
  simp only [Option.bind_some]
  have key : ∀ l : List Int, l.length ≤ 800010 → ((mApp l ([IntKind.wrap .u8 (x.Command.Kind), IntKind.wrap .u8 (x.Command.Queue)] : List Int)).bind fun l2 =>
    (shell_number k l2 (IntKind.wrap .u64 (x.Command.Job.At)) 2).bind fun t_1 =>
    (shell_number k t_1 (IntKind.wrap .u64 (x.Command.Job.Gen)) 2).bind fun t_2 =>
    (shell_number k t_2 (IntKind.wrap .u64 (x.Command.Time)) 8).bind fun t_3 =>
    (shell_number k t_3 (IntKind.wrap .u64 (x.Command.Data)) 2).bind fun t_4 => some t_4) = some (l ++ ([u8 x.Command.Kind, u8 x.Command.Queue] ++ (numL (u64 x.Command.Job.At) 2 ++ (numL (u64 x.Command.Job.Gen) 2 ++ (numL (u64 x.Command.Time) 8 ++ numL (u64 x.Command.Data) 2))))) := by
    intro l hl
    rw [app_ok (by simp; omega)]
    simp only [Option.bind_some]
    rw [number2 k _ _ hk (by simp; omega)]
    simp only [Option.bind_some]
    rw [number2 k _ _ hk (by simp [numL_length]; omega)]
    simp only [Option.bind_some]
    rw [number8 k _ _ hk (by simp [numL_length]; omega)]
    simp only [Option.bind_some]
    rw [number2 k _ _ hk (by simp [numL_length]; omega)]
    simp only [Option.bind_some, List.append_assoc, u8, u64]
  cases h1 : (x.Kind == 1)
  · simp only [cond_false, Option.bind_some, Bool.false_or]
    cases h3 : (x.Kind == 3)
    · simp [u8]
    · simp only [Bool.not_true, cond_false, cond_true]
      rw [key _ (by simp; omega)]
      simp [u8]
  · rw [app_ok (by simp; omega)]
    simp only [cond_true, Option.bind_some, Bool.true_or, Bool.not_true, cond_false]
    rw [key _ (by simp; omega)]
    simp [u8]
theorem encode_l0 (l : List api_Act) (hl : l.length ≤ 1000) : ∀ (n i k : Nat) (b : List Int), i + n = l.length → n + 9 < k → b.length + 18 * n ≤ 500000 →
    shell_Encode_l0 l (l.length : Int) k b (i : Int) = some (bif (l.drop i).all mayB then .inr (b ++ (l.drop i).flatMap actB) else .inl ([], 1))
  | n, i, 0, b, _, hk, _ => by omega
  | 0, i, k + 1, b, hi, _, _ => by
    have hd : decide ((i : Int) < (l.length : Int)) = false := by simp; omega
    rw [shell_Encode_l0, hd, List.drop_eq_nil_of_le (by omega)]; simp
  | n + 1, i, k + 1, b, hi, hk, hb => by
    have hlt : i < l.length := by omega
    have hd : decide ((i : Int) < (l.length : Int)) = true := by simp; omega
    have hw : w64 ((i : Int) + 1) = ((i + 1 : Nat) : Int) := by rw [w64_id (by omega) (by omega)]; rfl
    have hA := actB_length l[i]
    rw [shell_Encode_l0, hd, List.drop_eq_getElem_cons hlt, idx_ok l i hlt, hw]
    simp only [cond_true, Option.bind_some]
    rw [may_eq k (by omega)]
    simp only [Option.bind_some, List.all_cons]
    cases hm : mayB l[i]
    · rfl
    · simp only [Bool.not_true, cond_false, Bool.true_and]
      rw [put_eq k b _ (by omega) (by omega)]
      simp only [Option.bind_some]
      rw [encode_l0 l hl n (i + 1) k _ (by omega) (by omega) (by simp; omega)]
      simp only [List.flatMap_cons, List.append_assoc]
def hdrOk (s : shell_Script) : Bool := sm s.Kind 255 && sm s.Jobs 65535 && sm s.Boxes 255 && sm s.Room 255
def hdrB (s : shell_Script) : List Int := [u8 s.Kind] ++ (numL (u64 s.Jobs) 2 ++ [u8 s.Boxes, u8 s.Room])
theorem encode_eq (k : Nat) (s : shell_Script) (hk : 400 ≤ k) : shell_Encode k s = some (bif decide ((s.Acts.length : Int) > 256) then ([], 3) else bif !(hdrOk s && s.Acts.all mayB) then ([], 1) else (hdrB s ++ s.Acts.flatMap actB, 0)) := by
  unfold shell_Encode
  by_cases h1 : (s.Acts.length : Int) > 256
  · have e : decide ((s.Acts.length : Int) > 256) = true := by simpa using h1
    rw [e]; rfl
  · have e : decide ((s.Acts.length : Int) > 256) = false := by simpa using h1
    rw [e, in_eq k 255 [s.Kind, s.Boxes, s.Room] (by simp; omega) (by simp), in_eq k 65535 [s.Jobs] (by simp; omega) (by simp)]
    simp only [Option.bind_some, List.all_cons, List.all_nil, Bool.and_true, cond_false, hdrOk]
    have main : ((shell_number k ([IntKind.wrap .u8 (s.Kind)] : List Int) (IntKind.wrap .u64 (s.Jobs)) 2).bind fun t_2 =>
      (mApp t_2 ([IntKind.wrap .u8 (s.Boxes), IntKind.wrap .u8 (s.Room)] : List Int)).bind fun l =>
      (shell_Encode_l0 s.Acts (s.Acts.length : Int) k l 0).bind fun s2 =>
      match s2 with
      | .inl r_ => some r_
      | .inr s3 => some (s3, 0)) = some (bif s.Acts.all mayB then (hdrB s ++ s.Acts.flatMap actB, 0) else ([], 1)) := by
      rw [number2 k _ _ (by omega) (by simp)]
      simp only [Option.bind_some]
      rw [app_ok (by simp [numL_length])]
      simp only [Option.bind_some]
      have := encode_l0 s.Acts (by omega) s.Acts.length 0 k (([IntKind.wrap .u8 s.Kind] ++ numL (IntKind.wrap .u64 s.Jobs) 2) ++ [IntKind.wrap .u8 s.Boxes, IntKind.wrap .u8 s.Room]) (by omega) (by omega) (by simp [numL_length]; omega)
      rw [show ((0 : Nat) : Int) = 0 from rfl] at this
      rw [this, List.drop_zero]
      cases s.Acts.all mayB
      · rfl
      · simp [hdrB, u8, u64]
    cases sm s.Kind 255 <;> cases sm s.Jobs 65535 <;> cases sm s.Boxes 255 <;> cases sm s.Room 255 <;> first | rfl | exact main.trans (by cases s.Acts.all mayB <;> rfl)
theorem right_l0 (v v1 v2 v3 : Int) (l : List api_Act) (hl : l.length ≤ 1000) : ∀ (n i k : Nat), i + n = l.length → n < k →
    thicketlaw28_right_l0 v v1 v2 v3 l k (i : Int) = some (bif (l.drop i).all mayB then .inr () else .inl 1)
  | n, i, 0, _, hk => by omega
  | 0, i, k + 1, hi, _ => by
    have hd : decide ((i : Int) < (l.length : Int)) = false := by simp; omega
    rw [thicketlaw28_right_l0, hd, List.drop_eq_nil_of_le (by omega)]; rfl
  | n + 1, i, k + 1, hi, hk => by
    have hlt : i < l.length := by omega
    have hd : decide ((i : Int) < (l.length : Int)) = true := by simp; omega
    have hw : w64 ((i : Int) + 1) = ((i + 1 : Nat) : Int) := by rw [w64_id (by omega) (by omega)]; rfl
    rw [thicketlaw28_right_l0, hd, List.drop_eq_getElem_cons hlt, idx_ok l i hlt, hw]
    simp only [cond_true, Option.bind_some, lmay_eq, List.all_cons]
    cases hm : mayB l[i]
    · rfl
    · simp only [Bool.not_true, cond_false, Bool.true_and]
      exact right_l0 v v1 v2 v3 l hl n (i + 1) k (by omega) (by omega)
theorem right_eq (k : Nat) (s : shell_Script) (hk : 400 ≤ k) : thicketlaw28_right k s = some (bif decide ((s.Acts.length : Int) > 256) then 3 else bif !(hdrOk s && s.Acts.all mayB) then 1 else 0) := by
  unfold thicketlaw28_right
  by_cases h1 : (s.Acts.length : Int) > 256
  · have e : decide ((s.Acts.length : Int) > 256) = true := by simpa using h1
    rw [e]; rfl
  · have e : decide ((s.Acts.length : Int) > 256) = false := by simpa using h1
    rw [e]
    simp only [small_eq, Option.bind_some, cond_false, hdrOk]
    have := right_l0 s.Kind s.Jobs s.Boxes s.Room s.Acts (by omega) s.Acts.length 0 k (by omega) (by omega)
    rw [show ((0 : Nat) : Int) = 0 from rfl] at this
    rw [this, List.drop_zero]
    cases sm s.Kind 255 <;> cases sm s.Jobs 65535 <;> cases sm s.Boxes 255 <;> cases sm s.Room 255 <;> cases s.Acts.all mayB <;> rfl

/-! The document's own writing. -/
theorem sm_iff {n m : Int} : sm n m = true ↔ 0 ≤ n ∧ n ≤ m := by simp [sm]
theorem numL2 (n : Int) : numL n 2 = [IntKind.wrap .u8 (Int.fdiv n 256), IntKind.wrap .u8 n] := by
  simp [numL, nb, Int.fdiv_one]
theorem two_eq (b : List Int) (n : Int) (hb : b.length ≤ 900000) (h : 0 ≤ n ∧ n ≤ 65535) : thicketlaw28_two b n = some (b ++ numL (u64 n) 2) := by
  unfold thicketlaw28_two
  rw [app_ok (by simp; omega)]
  have e : u64 n = n := u64_id (by omega) (by omega)
  rw [e, numL2]
  rfl
theorem written_l1 (i1 v4 v5 v6 v7 v8 v9 v10 v11 v12 v13 : Int) (l : List api_Act) : ∀ (j m : Nat) (b : List Int), j ≤ 8 → b.length + j ≤ 1000000 →
    thicketlaw28_written_l1 i1 v4 v5 v6 v7 v8 v9 v10 v11 v12 v13 l (m + j + 1) b (8 - (j : Int)) = some (b ++ numL (u64 v8) j)
  | 0, m, b, _, _ => by
    rw [thicketlaw28_written_l1]
    have hd : decide ((8 : Int) - ((0 : Nat) : Int) < 8) = false := by decide
    rw [hd]; simp [numL]
  | j + 1, m, b, hj, hb => by
    rw [show m + (j + 1) + 1 = (m + j + 1) + 1 from rfl, thicketlaw28_written_l1]
    have hd : decide ((8 : Int) - ((j + 1 : Nat) : Int) < 8) = true := by simp; omega
    have e1 : w64 (8 * ((8 : Int) - ((j + 1 : Nat) : Int))) = 56 - ((8 * j : Nat) : Int) := by rw [w64_id (by omega) (by omega)]; omega
    have e2 : w64 (56 - (56 - ((8 * j : Nat) : Int))) = ((8 * j : Nat) : Int) := by rw [w64_id (by omega) (by omega)]; omega
    have e3 : IntKind.wrap .u64 ((8 * j : Nat) : Int) = ((8 * j : Nat) : Int) := u64_id (by omega) (by omega)
    have e4 : mNn ((8 * j : Nat) : Int) = some () := by unfold mNn; rw [if_pos (by omega)]
    have e5 : w64 ((8 : Int) - ((j + 1 : Nat) : Int) + 1) = 8 - (j : Int) := by rw [w64_id (by omega) (by omega)]; omega
    rw [hd, e1, e2, e3, e4, e5, app_ok (by simp; omega)]
    simp only [cond_true, Option.bind_some]
    rw [written_l1 i1 v4 v5 v6 v7 v8 v9 v10 v11 v12 v13 l j m _ (by omega) (by simp; omega)]
    have e6 : min (Int.toNat ((8 * j : Nat) : Int)) 64 = 8 * j := by omega
    rw [e6]
    simp [numL, nb, u64]
theorem written_l0 (v v1 v2 v3 : Int) (l : List api_Act) (hl : l.length ≤ 1000) (hA : l.all mayB = true) : ∀ (n i k : Nat) (b : List Int), i + n = l.length → n + 9 < k → b.length + 18 * n ≤ 500000 →
    thicketlaw28_written_l0 v v1 v2 v3 l k b (i : Int) = some (b ++ (l.drop i).flatMap actB)
  | n, i, 0, b, _, hk, _ => by omega
  | 0, i, k + 1, b, hi, _, _ => by
    have hd : decide ((i : Int) < (l.length : Int)) = false := by simp; omega
    rw [thicketlaw28_written_l0, hd, List.drop_eq_nil_of_le (by omega)]; simp
  | n + 1, i, k + 1, b, hi, hk, hb => by
    have hlt : i < l.length := by omega
    have hd : decide ((i : Int) < (l.length : Int)) = true := by simp; omega
    have hw : w64 ((i : Int) + 1) = ((i + 1 : Nat) : Int) := by rw [w64_id (by omega) (by omega)]; rfl
    have hB := actB_length l[i]
    have hm : mayB l[i] = true := by rw [List.all_eq_true] at hA; exact hA _ (List.getElem_mem hlt)
    rw [thicketlaw28_written_l0, hd, List.drop_eq_getElem_cons hlt, idx_ok l i hlt, hw]
    simp only [cond_true, Option.bind_some]
    rw [app_ok (by simp; omega)]
    simp only [Option.bind_some]
    have step : ∀ (z : Option (List Int)), z = some (b ++ actB l[i]) → (z.bind fun s2 => thicketlaw28_written_l0 v v1 v2 v3 l k s2 ((i + 1 : Nat) : Int)) = some (b ++ (l[i] :: l.drop (i + 1)).flatMap actB) := by
      rintro z rfl
      simp only [Option.bind_some]
      rw [written_l0 v v1 v2 v3 l hl hA n (i + 1) k _ (by omega) (by omega) (by simp; omega)]
      simp only [List.flatMap_cons, List.append_assoc]
    refine step _ ?_
    generalize hx : l[i] = x at hm hB ⊢
    unfold actB
    have cmd : (x.Kind == 1 || x.Kind == 3) = true → sm x.Command.Job.At 65535 = true ∧ sm x.Command.Job.Gen 65535 = true ∧ sm x.Command.Data 65535 = true := by
      intro h
      unfold mayB at hm
      have h2 : (x.Kind == 2) = false ∧ (x.Kind == 4) = false := by
        simp only [Bool.or_eq_true, beq_iff_eq] at h
        rcases h with h | h <;> rw [h] <;> exact ⟨rfl, rfl⟩
      rw [h2.1, h2.2] at hm
      simp only [Bool.or_self, Bool.false_or, Bool.and_eq_true] at hm
      exact ⟨hm.2.1.1.2, hm.2.1.2, hm.2.2⟩
    have key : ∀ s3 : List Int, s3.length ≤ 700000 → (x.Kind == 1 || x.Kind == 3) = true → ((mApp s3 ([IntKind.wrap .u8 (x.Command.Kind), IntKind.wrap .u8 (x.Command.Queue)] : List Int)).bind fun l4 =>
        (thicketlaw28_two l4 x.Command.Job.At).bind fun t_1 =>
        (thicketlaw28_two t_1 x.Command.Job.Gen).bind fun t_2 =>
        (thicketlaw28_written_l1 i x.Command.Kind x.Command.Queue x.Command.Job.At x.Command.Job.Gen x.Command.Time x.Command.Data v v1 v2 v3 l k t_2 0).bind fun s4 =>
        (thicketlaw28_two s4 x.Command.Data).bind fun t_3 => some t_3) = some (s3 ++ ([u8 x.Command.Kind, u8 x.Command.Queue] ++ (numL (u64 x.Command.Job.At) 2 ++ (numL (u64 x.Command.Job.Gen) 2 ++ (numL (u64 x.Command.Time) 8 ++ numL (u64 x.Command.Data) 2))))) := by
      intro s3 hs3 hc
      obtain ⟨c1, c2, c3⟩ := cmd hc
      rw [app_ok (by simp; omega)]
      simp only [Option.bind_some]
      rw [two_eq _ _ (by simp; omega) (sm_iff.1 c1)]
      simp only [Option.bind_some]
      rw [two_eq _ _ (by simp [numL_length]; omega) (sm_iff.1 c2)]
      simp only [Option.bind_some]
      obtain ⟨m, rfl⟩ : ∃ m, k = m + 8 + 1 := ⟨k - 9, by omega⟩
      have := written_l1 i x.Command.Kind x.Command.Queue x.Command.Job.At x.Command.Job.Gen x.Command.Time x.Command.Data v v1 v2 v3 l 8 m (s3 ++ [IntKind.wrap .u8 (x.Command.Kind), IntKind.wrap .u8 (x.Command.Queue)] ++ numL (u64 x.Command.Job.At) 2 ++ numL (u64 x.Command.Job.Gen) 2) (by omega) (by simp [numL_length]; omega)
      rw [show (8 : Int) - ((8 : Nat) : Int) = 0 from rfl] at this
      rw [this]
      simp only [Option.bind_some]
      rw [two_eq _ _ (by simp [numL_length]; omega) (sm_iff.1 c3)]
      simp only [Option.bind_some, List.append_assoc, u8, u64]
    cases h1 : (x.Kind == 1)
    · cases h3 : (x.Kind == 3)
      · have e1 : (x.Kind != 1) = true := by simp [bne, h1]
        have e3 : (x.Kind != 3) = true := by simp [bne, h3]
        simp [e1, e3, u8]
      · have e3 : (x.Kind != 3) = false := by simp [bne, h3]
        simp only [cond_false, Option.bind_some, e3, Bool.and_false, Bool.or_true, cond_true, Bool.false_or]
        rw [key _ (by simp; omega) (by simp [h3])]
        simp [u8]
    · have e1 : (x.Kind != 1) = false := by simp [bne, h1]
      rw [app_ok (by simp; omega)]
      simp only [cond_true, Option.bind_some, e1, Bool.false_and, cond_false, Bool.true_or]
      rw [key _ (by simp; omega) (by simp [h1])]
      simp [u8]
theorem written_eq (k : Nat) (s : shell_Script) (hk : 400 ≤ k) (hl : s.Acts.length ≤ 256) (hh : hdrOk s = true) (hA : s.Acts.all mayB = true) : thicketlaw28_written k s = some (hdrB s ++ s.Acts.flatMap actB) := by
  unfold thicketlaw28_written
  simp only [hdrOk, Bool.and_eq_true] at hh
  rw [two_eq _ _ (by simp) (sm_iff.1 hh.1.1.2)]
  simp only [Option.bind_some]
  rw [app_ok (by simp [numL_length])]
  simp only [Option.bind_some]
  have := written_l0 s.Kind s.Jobs s.Boxes s.Room s.Acts (by omega) hA s.Acts.length 0 k ([IntKind.wrap .u8 s.Kind] ++ numL (u64 s.Jobs) 2 ++ [IntKind.wrap .u8 s.Boxes, IntKind.wrap .u8 s.Room]) (by omega) (by omega) (by simp [numL_length]; omega)
  rw [show ((0 : Nat) : Int) = 0 from rfl] at this
  rw [this, List.drop_zero]
  simp [hdrB, u8]
end Go.Proofs.YtdcjghailibedaaGreat
