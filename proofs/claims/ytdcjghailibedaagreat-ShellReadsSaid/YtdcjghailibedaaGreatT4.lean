/-
  The plain law of scripts, part 3: what is written is read.
-/
import Derived.Test.YtdcjghailibedaaGreatT2
set_option linter.unusedVariables false
set_option linter.unusedSimpArgs false
set_option maxRecDepth 10000
namespace Go.Proofs.YtdcjghailibedaaGreat
open Go.Th

def stp (n c : Int) : Int := IntKind.wrap .u64 ((BitVec.ofInt 64 (IntKind.wrap .u64 (n * 2 ^ (min (Int.toNat 8) 64))) ||| BitVec.ofInt 64 (IntKind.wrap .u64 c)).toNat : Int)
def val (l : List Int) : Int := l.foldl stp 0
theorem stp_eq (n c : Nat) (hn : n * 256 < 18446744073709551616) (hc : c < 256) : stp (n : Int) (c : Int) = ((n * 256 + c : Nat) : Int) := by
  unfold stp
  have e1 : IntKind.wrap .u64 ((n : Int) * 2 ^ (min (Int.toNat 8) 64)) = ((n * 256 : Nat) : Int) := by
    rw [show (2 : Int) ^ (min (Int.toNat 8) 64) = 256 from rfl, u64_id (by omega) (by omega)]; omega
  have e2 : IntKind.wrap .u64 (c : Int) = (c : Int) := u64_id (by omega) (by omega)
  rw [e1, e2]
  have e3 : (BitVec.ofInt 64 ((n * 256 : Nat) : Int) ||| BitVec.ofInt 64 (c : Int)).toNat = n * 256 + c := by
    rw [BitVec.toNat_or, BitVec.ofInt_natCast, BitVec.ofInt_natCast, BitVec.toNat_ofNat, BitVec.toNat_ofNat, Nat.mod_eq_of_lt (by omega), Nat.mod_eq_of_lt (by omega)]
    have := Nat.shiftLeft_add_eq_or_of_lt (a := n) (b := c) (i := 8) (by omega)
    rw [Nat.shiftLeft_eq] at this
    exact this.symm
  rw [e3, u64_id (by omega) (by omega)]
theorem nb_eq (N j : Nat) : nb (N : Int) j = ((N / 256 ^ j % 256 : Nat) : Int) := by
  unfold nb
  rw [u8_eq]
  have e : (2 : Int) ^ (8 * j) = ((256 ^ j : Nat) : Int) := by
    rw [show (256 : Nat) = 2 ^ 8 from rfl, ← Nat.pow_mul, Int.natCast_pow]; rfl
  rw [e, Int.fdiv_eq_ediv_of_nonneg _ (Int.natCast_nonneg _), ← Int.natCast_ediv]
  omega
theorem pow_split (N j : Nat) : N / 256 ^ j % 256 * 256 ^ j + N % 256 ^ j = N % 256 ^ (j + 1) := by
  rw [Nat.pow_succ, Nat.mod_mul, Nat.add_comm, Nat.mul_comm]
theorem fold_num (N : Nat) : ∀ (j acc : Nat), (acc + 1) * 256 ^ j ≤ 18446744073709551616 → (numL (N : Int) j).foldl stp (acc : Int) = ((acc * 256 ^ j + N % 256 ^ j : Nat) : Int)
  | 0, acc, _ => by simp [numL, Nat.mod_one]
  | j + 1, acc, h => by
    have hp : 0 < 256 ^ j := Nat.pow_pos (by omega)
    have hd : N / 256 ^ j % 256 < 256 := Nat.mod_lt _ (by omega)
    have h1 : (acc + 1) * 256 ≤ 18446744073709551616 := by
      refine Nat.le_trans ?_ h
      rw [Nat.pow_succ]
      exact Nat.mul_le_mul_left _ (Nat.le_mul_of_pos_left _ hp)
    rw [numL, List.foldl_cons, nb_eq, stp_eq acc _ (by omega) hd]
    rw [fold_num N j (acc * 256 + N / 256 ^ j % 256) ?_]
    · congr 1
      rw [Nat.add_mul, Nat.add_assoc, pow_split, Nat.pow_succ, Nat.mul_assoc, Nat.mul_comm 256]
    · refine Nat.le_trans (Nat.mul_le_mul_right _ (show acc * 256 + N / 256 ^ j % 256 + 1 ≤ (acc + 1) * 256 by omega)) ?_
      rw [Nat.mul_assoc, Nat.mul_comm 256, ← Nat.pow_succ]
      exact h
theorem val_num (n : Int) (j : Nat) (h0 : 0 ≤ n) (h1 : n < 256 ^ j) (hj : j ≤ 8) : val (numL n j) = n := by
  obtain ⟨N, rfl⟩ : ∃ N : Nat, n = (N : Int) := ⟨n.toNat, by omega⟩
  unfold val
  have hle : 256 ^ j ≤ 256 ^ 8 := Nat.pow_le_pow_right (by omega) hj
  have := fold_num N j 0 (by rw [Nat.zero_add, Nat.one_mul]; exact hle)
  rw [show ((0 : Nat) : Int) = 0 from rfl] at this
  rw [this, Nat.zero_mul, Nat.zero_add, Nat.mod_eq_of_lt (by exact_mod_cast h1)]
theorem val1 (n : Int) (h0 : 0 ≤ n) (h1 : n ≤ 255) : val [u8 n] = n := by
  have e : [u8 n] = numL n 1 := by simp [numL, nb, u8, Int.fdiv_one]
  rw [e, val_num n 1 h0 (by omega) (by omega)]

/-! Reading. -/
def rdN (j : Nat) (r : shell_reader) : Int × shell_reader := if r.b.length < j then (0, ⟨[], true⟩) else (val (r.b.take j), ⟨r.b.drop j, r.bad⟩)
theorem rd_l0 (b1 : Int) (l : List Int) (m_ : shell_reader) (hl : l.length ≤ 1000) : ∀ (n i k : Nat) (acc : Int), i + n = l.length → n < k → shell_reader_number_l0 b1 l (l.length : Int) m_ k acc (i : Int) = some ((l.drop i).foldl stp acc)
  | n, i, 0, acc, _, hk => by omega
  | 0, i, k + 1, acc, hi, _ => by
    have hd : decide ((i : Int) < (l.length : Int)) = false := by simp; omega
    rw [shell_reader_number_l0, hd, List.drop_eq_nil_of_le (by omega)]; rfl
  | n + 1, i, k + 1, acc, hi, hk => by
    have hlt : i < l.length := by omega
    have hd : decide ((i : Int) < (l.length : Int)) = true := by simp; omega
    have hw : w64 ((i : Int) + 1) = ((i + 1 : Nat) : Int) := by rw [w64_id (by omega) (by omega)]; rfl
    rw [shell_reader_number_l0, hd, List.drop_eq_getElem_cons hlt, idx_ok l i hlt, hw, List.foldl_cons]
    simp only [cond_true, Option.bind_some]
    exact rd_l0 b1 l m_ hl n (i + 1) k _ (by omega) (by omega)
theorem rdN_eq (k : Nat) (r : shell_reader) (j : Nat) (hk : 9 ≤ k) (hj : j ≤ 8) (hb : r.b.length ≤ 1000000) : shell_reader_number k r (j : Int) = some (rdN j r) := by
  unfold shell_reader_number rdN
  by_cases h : r.b.length < j
  · have hd : decide ((r.b.length : Int) < (j : Int)) = true := by simp; omega
    rw [hd, if_pos h]; rfl
  · have hd : decide ((r.b.length : Int) < (j : Int)) = false := by simp; omega
    have c1 := cut_ok r.b 0 j (by omega) (by omega)
    have c2 := cut_ok r.b j r.b.length (by omega) (by omega)
    rw [show ((0 : Nat) : Int) = 0 from rfl] at c1
    rw [hd, if_neg h, c1]
    simp only [cond_false, Option.bind_some, List.drop_zero]
    have hl : (r.b.take j).length = j := by simp; omega
    have := rd_l0 (j : Int) (r.b.take j) r (by omega) j 0 k 0 (by omega) (by omega)
    rw [show ((0 : Nat) : Int) = 0 from rfl] at this
    rw [this, c2]
    simp [val]
theorem rd1_eq (k : Nat) (r : shell_reader) (hk : 9 ≤ k) (hb : r.b.length ≤ 1000000) : shell_reader_number k r 1 = some (rdN 1 r) := rdN_eq k r 1 hk (by omega) hb
theorem rd2_eq (k : Nat) (r : shell_reader) (hk : 9 ≤ k) (hb : r.b.length ≤ 1000000) : shell_reader_number k r 2 = some (rdN 2 r) := rdN_eq k r 2 hk (by omega) hb
theorem rd8_eq (k : Nat) (r : shell_reader) (hk : 9 ≤ k) (hb : r.b.length ≤ 1000000) : shell_reader_number k r 8 = some (rdN 8 r) := rdN_eq k r 8 hk (by omega) hb
theorem rdN_len (j : Nat) (r : shell_reader) : (rdN j r).2.b.length ≤ r.b.length := by
  unfold rdN; split <;> simp
def short (r : shell_reader) (m : Nat) : Prop := r.bad = true ∨ r.b.length < m
theorem short_rd {r : shell_reader} {j m : Nat} (h : short r (j + m)) : short (rdN j r).2 m := by
  unfold rdN
  split
  · exact .inl rfl
  · rcases h with h | h
    · exact .inl h
    · right; simp; omega
theorem short0 {r : shell_reader} (h : short r 0) : r.bad = true := by
  rcases h with h | h
  · exact h
  · omega
/-- The act that is read. -/
def cmdR (kind box : Int) (p : shell_reader) : api_Act × shell_reader :=
  let q1 := rdN 1 p; let q2 := rdN 1 q1.2; let q3 := rdN 2 q2.2; let q4 := rdN 2 q3.2; let q5 := rdN 8 q4.2; let q6 := rdN 2 q5.2
  (api_Act.mk kind box ⟨w64 q1.1, w64 q2.1, ⟨w64 q3.1, w64 q4.1⟩, w64 q5.1, w64 q6.1⟩, q6.2)
def takeV (r : shell_reader) (kind : Int) : api_Act × Bool × shell_reader :=
  let p := bif kind == 1 then (w64 (rdN 1 r).1, (rdN 1 r).2) else ((0 : Int), r)
  let x := bif kind == 1 || kind == 3 then cmdR kind p.1 p.2 else (api_Act.mk kind p.1 ⟨0, 0, ⟨0, 0⟩, 0, 0⟩, p.2)
  (x.1, !x.2.bad && mayB x.1, x.2)
theorem take_eq (k : Nat) (r : shell_reader) (kind : Int) (hk : 10 ≤ k) (hb : r.b.length ≤ 1000000) : shell_take k r kind = some (takeV r kind) := by
  unfold shell_take shell_asks shell_reader_int
  have hP : ∀ p : Int × shell_reader, p.2.b.length ≤ 1000000 → True := fun _ _ => trivial
  have key : ∀ (p : Int × shell_reader), p.2.b.length ≤ 1000000 →
    (((bif (kind == 1) || (kind == 3) then
    ((shell_reader_number k p.2 1).bind fun t_ => some (w64 t_.1, t_.2)).bind fun t_2 =>
    ((shell_reader_number k t_2.2 1).bind fun t_ => some (w64 t_.1, t_.2)).bind fun t_3 =>
    ((shell_reader_number k t_3.2 2).bind fun t_ => some (w64 t_.1, t_.2)).bind fun t_4 =>
    ((shell_reader_number k t_4.2 2).bind fun t_ => some (w64 t_.1, t_.2)).bind fun t_5 =>
    (shell_reader_number k t_5.2 8).bind fun t_6 =>
    ((shell_reader_number k t_6.2 2).bind fun t_ => some (w64 t_.1, t_.2)).bind fun t_7 =>
    some (t_2.1, t_3.1, t_4.1, t_5.1, w64 (t_6.1), t_7.1, t_7.2)
  else
    some (0, 0, 0, 0, 0, 0, p.2)) : Option (Int × Int × Int × Int × Int × Int × shell_reader))) = some (let q1 := rdN 1 p.2; let q2 := rdN 1 q1.2; let q3 := rdN 2 q2.2; let q4 := rdN 2 q3.2; let q5 := rdN 8 q4.2; let q6 := rdN 2 q5.2
      bif kind == 1 || kind == 3 then (w64 q1.1, w64 q2.1, w64 q3.1, w64 q4.1, w64 q5.1, w64 q6.1, q6.2) else (0, 0, 0, 0, 0, 0, p.2)) := by
    intro p hp
    cases (kind == 1 || kind == 3)
    · rfl
    · have l1 := rdN_len 1 p.2
      have l2 := rdN_len 1 (rdN 1 p.2).2
      have l3 := rdN_len 2 (rdN 1 (rdN 1 p.2).2).2
      have l4 := rdN_len 2 (rdN 2 (rdN 1 (rdN 1 p.2).2).2).2
      have l5 := rdN_len 8 (rdN 2 (rdN 2 (rdN 1 (rdN 1 p.2).2).2).2).2
      simp only [cond_true, Option.bind_some, rd1_eq k _ (by omega) (show p.2.b.length ≤ 1000000 by omega), rd1_eq k (rdN 1 p.2).2 (by omega) (by omega), rd2_eq k (rdN 1 (rdN 1 p.2).2).2 (by omega) (by omega), rd2_eq k (rdN 2 (rdN 1 (rdN 1 p.2).2).2).2 (by omega) (by omega),
        rd8_eq k (rdN 2 (rdN 2 (rdN 1 (rdN 1 p.2).2).2).2).2 (by omega) (by omega), rd2_eq k (rdN 8 (rdN 2 (rdN 2 (rdN 1 (rdN 1 p.2).2).2).2).2).2 (by omega) (by omega)]
  have l0 := rdN_len 1 r
  cases h1 : (kind == 1)
  · rw [h1] at key
    simp only [cond_false, Option.bind_some]
    rw [key (0, r) hb]
    simp only [Option.bind_some]
    unfold takeV cmdR
    rw [h1]
    simp only [Bool.false_or, cond_false]
    cases h3 : (kind == 3)
    · simp only [cond_false]
      cases hbad : r.bad
      · simp only [Bool.not_false, cond_true]
        rw [may_eq k hk]
        simp
      · simp
    · simp only [cond_true]
      cases hbad : (rdN 2 (rdN 8 (rdN 2 (rdN 2 (rdN 1 (rdN 1 r).2).2).2).2).2).2.bad
      · simp only [Bool.not_false, cond_true]
        rw [may_eq k hk]
        simp
      · simp
  · rw [h1] at key
    rw [rd1_eq k r (by omega) hb]
    simp only [cond_true, Option.bind_some]
    rw [key (w64 (rdN 1 r).1, (rdN 1 r).2) (by simp only; omega)]
    simp only [Option.bind_some]
    unfold takeV cmdR
    rw [h1]
    simp only [Bool.true_or, cond_true]
    cases hbad : (rdN 2 (rdN 8 (rdN 2 (rdN 2 (rdN 1 (rdN 1 (rdN 1 r).2).2).2).2).2).2).2.bad
    · simp only [Bool.not_false, cond_true]
      rw [may_eq k hk]
      simp
    · simp
end Go.Proofs.YtdcjghailibedaaGreat
