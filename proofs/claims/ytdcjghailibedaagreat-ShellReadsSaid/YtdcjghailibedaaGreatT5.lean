/-
  The plain law of scripts, part 4: what is read of what was written, of less of it, of more.
-/
import Derived.Test.YtdcjghailibedaaGreatT4
set_option linter.unusedVariables false
set_option linter.unusedSimpArgs false
set_option maxRecDepth 10000
namespace Go.Proofs.YtdcjghailibedaaGreat
open Go.Th

def nrm (a : api_Act) : api_Act := ⟨a.Kind, bif a.Kind == 1 then a.Box else 0, bif a.Kind == 1 || a.Kind == 3 then a.Command else ⟨0, 0, ⟨0, 0⟩, 0, 0⟩⟩
def TimeI (a : api_Act) : Prop := -9223372036854775808 ≤ a.Command.Time ∧ a.Command.Time < 9223372036854775808
theorem rd_app (j : Nat) (xs rest : List Int) (bad : Bool) (h : xs.length = j) : rdN j ⟨xs ++ rest, bad⟩ = (val xs, ⟨rest, bad⟩) := by
  unfold rdN
  rw [if_neg (by simp; omega)]
  subst h
  simp
theorem w64_u64 {t : Int} (h : -9223372036854775808 ≤ t ∧ t < 9223372036854775808) : w64 (u64 t) = t := by
  unfold u64
  rw [u64_eq, w64_eq]
  split <;> omega
theorem u64_range (t : Int) : 0 ≤ u64 t ∧ u64 t < 18446744073709551616 := by
  unfold u64
  rw [u64_eq]
  omega
theorem val2 (n : Int) (h : 0 ≤ n ∧ n ≤ 65535) : val (numL (u64 n) 2) = n := by
  have e : u64 n = n := u64_id (by omega) (by omega)
  rw [e, val_num n 2 (by omega) (by omega) (by omega)]
theorem val8 (t : Int) : val (numL (u64 t) 8) = u64 t := by
  have := u64_range t
  exact val_num _ 8 (by omega) (by omega) (by omega)
theorem kind_of (a : api_Act) (h : mayB a = true) : 1 ≤ a.Kind ∧ a.Kind ≤ 4 := by
  unfold mayB at h
  simp only [Bool.or_eq_true, Bool.and_eq_true, beq_iff_eq] at h
  omega
def tlB (x : api_Act) : List Int := (bif x.Kind == 1 then [u8 x.Box] else []) ++ (bif x.Kind == 1 || x.Kind == 3 then [u8 x.Command.Kind, u8 x.Command.Queue] ++ (numL (u64 x.Command.Job.At) 2 ++ (numL (u64 x.Command.Job.Gen) 2 ++ (numL (u64 x.Command.Time) 8 ++ numL (u64 x.Command.Data) 2))) else [])
theorem actB_tl (a : api_Act) : actB a = u8 a.Kind :: tlB a := rfl
theorem sm_le {n m : Int} (h : sm n m = true) : 0 ≤ n ∧ n ≤ m := by simpa [sm] using h
theorem cmd_of (a : api_Act) (h : mayB a = true) (hc : (a.Kind == 1 || a.Kind == 3) = true) : (a.Kind = 1 → 0 ≤ a.Box ∧ a.Box ≤ 255) ∧ (0 ≤ a.Command.Kind ∧ a.Command.Kind ≤ 255) ∧ (0 ≤ a.Command.Queue ∧ a.Command.Queue ≤ 1) ∧ (0 ≤ a.Command.Job.At ∧ a.Command.Job.At ≤ 65535) ∧ (0 ≤ a.Command.Job.Gen ∧ a.Command.Job.Gen ≤ 65535) ∧ (0 ≤ a.Command.Data ∧ a.Command.Data ≤ 65535) := by
  unfold mayB at h
  have h2 : (a.Kind == 2) = false ∧ (a.Kind == 4) = false := by
    simp only [Bool.or_eq_true, beq_iff_eq] at hc
    rcases hc with e | e <;> rw [e] <;> exact ⟨rfl, rfl⟩
  rw [h2.1, h2.2] at h
  simp only [Bool.or_self, Bool.false_or, Bool.and_eq_true] at h
  refine ⟨fun e => ?_, sm_le h.2.1.1.1.1, sm_le h.2.1.1.1.2, sm_le h.2.1.1.2, sm_le h.2.1.2, sm_le h.2.2⟩
  have h3 := h.1
  rw [e] at h3
  simp only [Bool.or_eq_true, Bool.and_eq_true] at h3
  rcases h3 with h3 | h3
  · cases h3
  · exact sm_le h3.2
theorem w64_small {n : Int} (h : 0 ≤ n ∧ n ≤ 65535) : w64 n = n := w64_id (by omega) (by omega)
theorem mayB_nrm (a : api_Act) (h : mayB a = true) : mayB (nrm a) = true := by
  have hk := kind_of a h
  unfold mayB at h ⊢
  unfold nrm
  cases h1 : (a.Kind == 1) <;> cases h3 : (a.Kind == 3) <;> simp_all
theorem take_full (a : api_Act) (rest : List Int) (h : mayB a = true) (ht : TimeI a) : takeV ⟨tlB a ++ rest, false⟩ a.Kind = (nrm a, true, ⟨rest, false⟩) := by
  have hm := mayB_nrm a h
  have key : (a.Kind == 1 || a.Kind == 3) = true → ∀ box : Int, cmdR a.Kind box ⟨([u8 a.Command.Kind, u8 a.Command.Queue] ++ (numL (u64 a.Command.Job.At) 2 ++ (numL (u64 a.Command.Job.Gen) 2 ++ (numL (u64 a.Command.Time) 8 ++ numL (u64 a.Command.Data) 2)))) ++ rest, false⟩ = (api_Act.mk a.Kind box a.Command, ⟨rest, false⟩) := by
    intro hc box
    unfold cmdR
    obtain ⟨_, c1, c2, c3, c4, c5⟩ := cmd_of a h hc
    dsimp only
    rw [show ([u8 a.Command.Kind, u8 a.Command.Queue] ++ (numL (u64 a.Command.Job.At) 2 ++ (numL (u64 a.Command.Job.Gen) 2 ++ (numL (u64 a.Command.Time) 8 ++ numL (u64 a.Command.Data) 2)))) ++ rest =
      [u8 a.Command.Kind] ++ ([u8 a.Command.Queue] ++ (numL (u64 a.Command.Job.At) 2 ++ (numL (u64 a.Command.Job.Gen) 2 ++ (numL (u64 a.Command.Time) 8 ++ (numL (u64 a.Command.Data) 2 ++ rest))))) by simp]
    rw [rd_app 1 _ _ _ rfl]
    dsimp only
    rw [rd_app 1 _ _ _ rfl]
    dsimp only
    rw [rd_app 2 _ _ _ (numL_length _ _)]
    dsimp only
    rw [rd_app 2 _ _ _ (numL_length _ _)]
    dsimp only
    rw [rd_app 8 _ _ _ (numL_length _ _)]
    dsimp only
    rw [rd_app 2 _ _ _ (numL_length _ _)]
    dsimp only
    rw [val1 _ c1.1 c1.2, val1 _ c2.1 (by omega), val2 _ c3, val2 _ c4, val8, val2 _ c5, w64_small (by omega), w64_small (by omega), w64_small c3, w64_small c4, w64_u64 ht, w64_small c5]
  unfold takeV tlB
  cases h1 : (a.Kind == 1)
  · cases h3 : (a.Kind == 3)
    · simp only [cond_false, Bool.or_self, List.nil_append]
      have e : nrm a = ⟨a.Kind, 0, ⟨0, 0, ⟨0, 0⟩, 0, 0⟩⟩ := by simp [nrm, h1, h3]
      rw [e] at hm ⊢
      rw [hm]; rfl
    · simp only [cond_false, Bool.false_or, cond_true, List.nil_append]
      rw [key (by rw [h1, h3]; rfl) 0]
      have e : nrm a = ⟨a.Kind, 0, a.Command⟩ := by simp [nrm, h1, h3]
      rw [e] at hm ⊢
      rw [hm]; rfl
  · have hbx := (cmd_of a h (by rw [h1]; rfl)).1 (by simpa using h1)
    simp only [cond_true, Bool.true_or]
    rw [List.append_assoc, rd_app 1 _ _ _ rfl]
    dsimp only
    rw [key (by rw [h1]; rfl) (w64 (val [u8 a.Box])), val1 _ hbx.1 hbx.2, w64_small (by omega)]
    have e : nrm a = ⟨a.Kind, a.Box, a.Command⟩ := by simp [nrm, h1]
    rw [e] at hm ⊢
    rw [hm]; rfl
/-- Too few bytes: no act. -/
theorem take_short (r : shell_reader) (kind : Int) (hc : (kind == 1 || kind == 3) = true) (h : short r ((bif kind == 1 then 1 else 0) + 16)) : (takeV r kind).2.1 = false := by
  unfold takeV cmdR
  have key : ∀ p : shell_reader, short p 16 → (rdN 2 (rdN 8 (rdN 2 (rdN 2 (rdN 1 (rdN 1 p).2).2).2).2).2).2.bad = true := fun p hp =>
    short0 (short_rd (j := 2) (m := 0) (short_rd (j := 8) (m := 2) (short_rd (j := 2) (m := 10) (short_rd (j := 2) (m := 12) (short_rd (j := 1) (m := 14) (short_rd (j := 1) (m := 15) hp))))))
  cases h1 : (kind == 1)
  · rw [h1] at h hc
    simp only [Bool.false_or] at hc
    simp only [hc, cond_false, Bool.false_or, cond_true]
    rw [key r (by simpa using h)]; rfl
  · rw [h1] at h
    simp only [cond_true, Bool.true_or]
    rw [key _ (short_rd (j := 1) (m := 16) h)]; rfl
theorem takeV_len (r : shell_reader) (kind : Int) : (takeV r kind).2.2.b.length ≤ r.b.length := by
  unfold takeV cmdR
  have l0 := rdN_len 1 r
  cases h1 : (kind == 1) <;> cases h3 : (kind == 3) <;> simp only [cond_false, cond_true, Bool.or_self, Bool.false_or, Bool.true_or, Bool.or_true, Nat.le_refl]
  · have l1 := rdN_len 1 (rdN 1 r).2
    have l2 := rdN_len 2 (rdN 1 (rdN 1 r).2).2
    have l3 := rdN_len 2 (rdN 2 (rdN 1 (rdN 1 r).2).2).2
    have l4 := rdN_len 8 (rdN 2 (rdN 2 (rdN 1 (rdN 1 r).2).2).2).2
    have l5 := rdN_len 2 (rdN 8 (rdN 2 (rdN 2 (rdN 1 (rdN 1 r).2).2).2).2).2
    omega
  all_goals
    have l1 := rdN_len 1 (rdN 1 r).2
    have l2 := rdN_len 1 (rdN 1 (rdN 1 r).2).2
    have l3 := rdN_len 2 (rdN 1 (rdN 1 (rdN 1 r).2).2).2
    have l4 := rdN_len 2 (rdN 2 (rdN 1 (rdN 1 (rdN 1 r).2).2).2).2
    have l5 := rdN_len 8 (rdN 2 (rdN 2 (rdN 1 (rdN 1 (rdN 1 r).2).2).2).2).2
    have l6 := rdN_len 2 (rdN 8 (rdN 2 (rdN 2 (rdN 1 (rdN 1 (rdN 1 r).2).2).2).2).2).2
    omega
def addA (m : shell_Script) (a : api_Act) : shell_Script := ⟨m.Kind, m.Jobs, m.Boxes, m.Room, m.Acts ++ [a]⟩
theorem dec_step (m2 : shell_Script) (l : List Int) (k : Nat) (hk : 10 ≤ k) (m : shell_Script) (r : shell_reader) (hb : r.b.length ≤ 1000000) (hA : m.Acts.length ≤ 256) : shell_Decode_l0 m2 l (k + 1) m r =
    (bif decide (0 < r.b.length) && decide (m.Acts.length < 256) then
      (bif decide (w64 (rdN 1 r).1 < 1) || decide (w64 (rdN 1 r).1 > 4) then shell_Decode_l0 m2 l k m (rdN 1 r).2
      else (bif !(takeV (rdN 1 r).2 (w64 (rdN 1 r).1)).2.1 then some (m, (takeV (rdN 1 r).2 (w64 (rdN 1 r).1)).2.2) else shell_Decode_l0 m2 l k (addA m (takeV (rdN 1 r).2 (w64 (rdN 1 r).1)).1) (takeV (rdN 1 r).2 (w64 (rdN 1 r).1)).2.2))
    else some (m, r)) := by
  rw [shell_Decode_l0]
  have d1 : decide ((r.b.length : Int) > 0) = decide (0 < r.b.length) := by simp
  have d2 : decide ((m.Acts.length : Int) < 256) = decide (m.Acts.length < 256) := by
    by_cases h : m.Acts.length < 256
    · have : (m.Acts.length : Int) < 256 := by omega
      simp [h, this]
    · have : ¬ (m.Acts.length : Int) < 256 := by omega
      simp [h, this]
  rw [d1, d2]
  have l0 := rdN_len 1 r
  cases decide (0 < r.b.length)
  · rfl
  · cases hd : decide (m.Acts.length < 256)
    · rfl
    · unfold shell_reader_int
      simp only [cond_true, Option.bind_some, Bool.true_and]
      rw [rd1_eq k r (by omega) hb]
      simp only [Option.bind_some]
      cases decide (w64 (rdN 1 r).1 < 1) || decide (w64 (rdN 1 r).1 > 4)
      · simp only [cond_false]
        rw [take_eq k _ _ hk (by omega)]
        simp only [Option.bind_some]
        cases (takeV (rdN 1 r).2 (w64 (rdN 1 r).1)).2.1
        · rfl
        · simp only [Bool.not_true, cond_false]
          have ha : ∀ a : api_Act, mApp m.Acts [a] = some (m.Acts ++ [a]) := fun a => app_ok (by show m.Acts.length + 1 ≤ 1073741824; omega)
          rw [ha]
          rfl
      · rfl
theorem rdN_less {r : shell_reader} (h : 0 < r.b.length) : (rdN 1 r).2.b.length < r.b.length := by
  unfold rdN
  rw [if_neg (by omega)]; simp; omega
/-- Whatever the bytes: acts are read behind those that are there. -/
theorem dec_tot (m2 : shell_Script) (l : List Int) : ∀ (n k : Nat) (m : shell_Script) (r : shell_reader), r.b.length ≤ n → n + 12 ≤ k → m.Acts.length ≤ 256 → r.b.length ≤ 1000000 →
    Do (shell_Decode_l0 m2 l k m r) fun t => ∃ ext, t.1 = ⟨m.Kind, m.Jobs, m.Boxes, m.Room, m.Acts ++ ext⟩
  | n, 0, m, r, _, hk, _, _ => by omega
  | 0, k + 1, m, r, hn, hk, hA, hb => by
    rw [dec_step m2 l k (by omega) m r hb hA]
    have e : decide (0 < r.b.length) = false := decide_eq_false (by omega)
    rw [e]
    exact Do.ret ⟨[], by simp⟩
  | n + 1, k + 1, m, r, hn, hk, hA, hb => by
    rw [dec_step m2 l k (by omega) m r hb hA]
    refine Do.if (fun hc => ?_) fun _ => Do.ret ⟨[], by simp⟩
    simp only [Bool.and_eq_true, decide_eq_true_eq] at hc
    have hl := rdN_less hc.1
    have ht := takeV_len (rdN 1 r).2 (w64 (rdN 1 r).1)
    refine Do.if (fun _ => dec_tot m2 l n k m _ (by omega) (by omega) hA (by omega)) fun _ => ?_
    refine Do.if (fun _ => Do.ret ⟨[], by simp⟩) fun _ => ?_
    refine (dec_tot m2 l n k (addA m _) _ (by omega) (by omega) (by simp [addA]; omega) (by omega)).mono ?_
    rintro t ⟨ext, e⟩
    exact ⟨(takeV (rdN 1 r).2 (w64 (rdN 1 r).1)).1 :: ext, by rw [e]; simp [addA]⟩
theorem rd_kind (a : api_Act) (h : mayB a = true) (z : List Int) : rdN 1 ⟨u8 a.Kind :: z, false⟩ = (a.Kind, ⟨z, false⟩) := by
  have hk := kind_of a h
  have := rd_app 1 [u8 a.Kind] z false rfl
  rw [show u8 a.Kind :: z = [u8 a.Kind] ++ z from rfl, this, val1 _ (by omega) (by omega)]
theorem dec_full (m2 : shell_Script) (l : List Int) (k : Nat) (hk : 10 ≤ k) (m : shell_Script) (a : api_Act) (rest : List Int) (h : mayB a = true) (ht : TimeI a) (hb : (actB a ++ rest).length ≤ 1000000) (hA : m.Acts.length < 256) :
    shell_Decode_l0 m2 l (k + 1) m ⟨actB a ++ rest, false⟩ = shell_Decode_l0 m2 l k (addA m (nrm a)) ⟨rest, false⟩ := by
  have hk4 := kind_of a h
  rw [dec_step m2 l k hk m _ hb (by omega), actB_tl]
  have e1 : decide (0 < (shell_reader.mk (u8 a.Kind :: tlB a ++ rest) false).b.length) = true := by simp
  have e2 : decide (m.Acts.length < 256) = true := by simpa using hA
  rw [e1, e2]
  simp only [Bool.and_self, cond_true]
  rw [show u8 a.Kind :: tlB a ++ rest = u8 a.Kind :: (tlB a ++ rest) from rfl, rd_kind a h]
  dsimp only
  rw [w64_small (n := a.Kind) (by omega)]
  have e3 : (decide (a.Kind < 1) || decide (a.Kind > 4)) = false := by simp; omega
  rw [e3, take_full a rest h ht]
  rfl
def acB (l : List api_Act) : List Int := l.flatMap actB
theorem acB_length : ∀ l : List api_Act, (acB l).length ≤ 18 * l.length
  | [] => by simp [acB]
  | a :: l => by
    have h1 := actB_length a
    have h2 := acB_length l
    simp only [acB, List.flatMap_cons, List.length_append, List.length_cons] at h2 ⊢
    omega
def Good (l : List api_Act) : Prop := ∀ a ∈ l, mayB a = true ∧ TimeI a
theorem dec_all (m2 : shell_Script) (l : List Int) : ∀ (as : List api_Act) (k : Nat) (m : shell_Script) (rest : List Int), Good as → as.length + 11 ≤ k → m.Acts.length + as.length ≤ 256 → (acB as ++ rest).length ≤ 1000000 →
    ∃ k', as.length + k' = k ∧ shell_Decode_l0 m2 l k m ⟨acB as ++ rest, false⟩ = shell_Decode_l0 m2 l k' ⟨m.Kind, m.Jobs, m.Boxes, m.Room, m.Acts ++ as.map nrm⟩ ⟨rest, false⟩
  | [], k, m, rest, _, hk, _, _ => ⟨k, by simp, by simp [acB]⟩
  | a :: as, 0, m, rest, _, hk, _, _ => by simp at hk
  | a :: as, k + 1, m, rest, hG, hk, hA, hb => by
    simp only [List.length_cons] at hk hA
    have e : acB (a :: as) ++ rest = actB a ++ (acB as ++ rest) := by simp [acB]
    rw [e] at hb ⊢
    have hg := hG a (List.mem_cons_self ..)
    rw [dec_full m2 l k (by omega) m a _ hg.1 hg.2 hb (by omega)]
    obtain ⟨k', h1, h2⟩ := dec_all m2 l as k (addA m (nrm a)) rest (fun b hb => hG b (List.mem_cons_of_mem _ hb)) (by omega) (by simp [addA]; omega) (by simp at hb ⊢; omega)
    exact ⟨k', by simp; omega, by rw [h2]; simp [addA]⟩
/-- A part of what was written: the first acts. -/
theorem dec_pre (m2 : shell_Script) (l : List Int) : ∀ (as : List api_Act) (k : Nat) (m : shell_Script) (p q : List Int), Good as → as.length + 12 ≤ k → m.Acts.length + as.length ≤ 256 → p.length ≤ 1000000 → p ++ q = acB as →
    Do (shell_Decode_l0 m2 l k m ⟨p, false⟩) fun t => ∃ j, j ≤ as.length ∧ t.1 = ⟨m.Kind, m.Jobs, m.Boxes, m.Room, m.Acts ++ (as.map nrm).take j⟩
  | as, 0, m, p, q, _, hk, _, _, _ => by omega
  | [], k + 1, m, p, q, _, hk, hA, hb, hp => by
    have e : p = [] := by
      have := congrArg List.length hp
      simp [acB] at this
      exact this.1
    subst e
    rw [dec_step m2 l k (by simp at hk; omega) m _ (by simp) (by omega)]
    exact Do.ret ⟨0, by simp, by simp⟩
  | a :: as, k + 1, m, p, q, hG, hk, hA, hb, hp => by
    simp only [List.length_cons] at hk hA
    have hg := hG a (List.mem_cons_self ..)
    have e : acB (a :: as) = actB a ++ acB as := by simp [acB]
    rw [e] at hp
    rcases List.append_eq_append_iff.1 hp with ⟨z, h1, h2⟩ | ⟨z, h1, h2⟩
    · -- within the act
      by_cases hz : p = []
      · subst hz
        rw [dec_step m2 l k (by omega) m _ (by simp) (by omega)]
        exact Do.ret ⟨0, by simp, by simp⟩
      · obtain ⟨x, p', rfl⟩ := List.exists_cons_of_ne_nil hz
        rw [actB_tl] at h1
        simp only [List.cons_append, List.cons.injEq] at h1
        obtain ⟨h3, h4⟩ := h1
        subst h3
        by_cases hzz : z = []
        · subst hzz
          simp only [List.append_nil] at h4
          subst h4
          have hb' : (actB a ++ []).length ≤ 1000000 := by have := actB_length a; simp; omega
          have := dec_full m2 l k (by omega) m a [] hg.1 hg.2 hb' (by omega)
          rw [List.append_nil, actB_tl] at this
          rw [this]
          obtain ⟨k2, rfl⟩ : ∃ k2, k = k2 + 1 := ⟨k - 1, by omega⟩
          rw [dec_step m2 l k2 (by omega) _ _ (by simp) (by simp [addA]; omega)]
          exact Do.ret ⟨1, by simp, by simp [addA]⟩
        · have hk4 := kind_of a hg.1
          rw [dec_step m2 l k (by omega) m _ hb (by omega)]
          have e1 : decide (0 < (shell_reader.mk (u8 a.Kind :: p') false).b.length) = true := by simp
          have e2 : decide (m.Acts.length < 256) = true := by simp; omega
          rw [e1, e2]
          simp only [Bool.and_self, cond_true]
          rw [rd_kind a hg.1]
          dsimp only
          rw [w64_small (n := a.Kind) (by omega)]
          have e3 : (decide (a.Kind < 1) || decide (a.Kind > 4)) = false := by simp; omega
          rw [e3]
          have hlen : p'.length < (tlB a).length := by
            rw [h4]; simp; exact List.length_pos_iff.2 hzz
          have hcc : (a.Kind == 1 || a.Kind == 3) = true := by
            cases hc : (a.Kind == 1 || a.Kind == 3)
            · have : tlB a = [] := by
                have h1 : (a.Kind == 1) = false := by cases h : (a.Kind == 1); rfl; rw [h] at hc; cases hc
                have h3 : (a.Kind == 3) = false := by rw [h1] at hc; simpa using hc
                simp only [tlB, h1, h3, Bool.or_self, cond_false, List.append_nil]
              rw [this] at hlen; simp at hlen
            · rfl
          have hs : short ⟨p', false⟩ ((bif a.Kind == 1 then 1 else 0) + 16) := by
            right
            have : (tlB a).length = (bif a.Kind == 1 then 1 else 0) + 16 := by
              simp only [tlB, hcc, cond_true, List.length_append, numL_length, List.length_cons, List.length_nil]
              cases (a.Kind == 1) <;> rfl
            simp only; omega
          rw [take_short _ _ hcc hs]
          exact Do.ret ⟨0, by simp, by simp⟩
    · subst h1
      rw [dec_full m2 l k (by omega) m a z hg.1 hg.2 hb (by omega)]
      refine (dec_pre m2 l as k (addA m (nrm a)) z q (fun b hb => hG b (List.mem_cons_of_mem _ hb)) (by omega) (by simp [addA]; omega) (by simp at hb; omega) h2.symm).mono ?_
      rintro t ⟨j, hj, ht⟩
      exact ⟨j + 1, by simp; omega, by rw [ht]; simp [addA]⟩

/-! A script's first five bytes. -/
theorem hdr_length (s : shell_Script) : (hdrB s).length = 5 := by simp [hdrB, numL_length]
theorem decode_hdr (k : Nat) (hk : 9 ≤ k) (s : shell_Script) (rest : List Int) (h : hdrOk s = true) (hb : (hdrB s ++ rest).length ≤ 1000000) : shell_Decode k (hdrB s ++ rest) =
    (shell_Decode_l0 (shell_Script.mk 0 0 0 0 []) (hdrB s ++ rest) k ⟨s.Kind, s.Jobs, s.Boxes, s.Room, []⟩ ⟨rest, false⟩).bind fun t => some (t.1, 0) := by
  have hl := hdr_length s
  unfold shell_Decode shell_reader_int
  have d : decide (((hdrB s ++ rest).length : Int) < 5) = false := by simp [hl]; omega
  simp only [hdrOk, Bool.and_eq_true] at h
  have s1 := sm_le h.1.1.1
  have s2 := sm_le h.1.1.2
  have s3 := sm_le h.1.2
  have s4 := sm_le h.2
  have e : hdrB s ++ rest = [u8 s.Kind] ++ (numL (u64 s.Jobs) 2 ++ ([u8 s.Boxes] ++ ([u8 s.Room] ++ rest))) := by simp [hdrB]
  rw [d]
  generalize hB : hdrB s ++ rest = B at e hb ⊢
  simp only [cond_false]
  have hlB : B.length = rest.length + 5 := by rw [← hB]; simp [hl]; omega
  rw [rd1_eq k ⟨B, false⟩ hk hb]
  simp only [Option.bind_some]
  rw [show rdN 1 ⟨B, false⟩ = (s.Kind, ⟨numL (u64 s.Jobs) 2 ++ ([u8 s.Boxes] ++ ([u8 s.Room] ++ rest)), false⟩) by rw [e, rd_app 1 _ _ _ rfl, val1 _ s1.1 s1.2]]
  dsimp only
  rw [rd2_eq k _ hk (by simp [numL_length]; omega), rd_app 2 _ _ _ (numL_length _ _), val2 _ s2]
  simp only [Option.bind_some]
  rw [rd1_eq k _ hk (by simp; omega), rd_app 1 _ _ _ rfl, val1 _ s3.1 s3.2]
  simp only [Option.bind_some]
  rw [rd1_eq k _ hk (by simp; omega), rd_app 1 _ _ _ rfl, val1 _ s4.1 s4.2]
  simp only [Option.bind_some]
  rw [w64_small (by omega), w64_small s2, w64_small (by omega), w64_small (by omega)]
theorem decode_few (k : Nat) (b : List Int) (h : b.length < 5) : shell_Decode k b = some (⟨0, 0, 0, 0, []⟩, 12) := by
  unfold shell_Decode
  have d : decide ((b.length : Int) < 5) = true := by simp; omega
  rw [d]; rfl
theorem act_refl (a : api_Act) : api_Act.eq a a = true := by simp [api_Act.eq, api_Command.eq, api_Ref.eq]
theorem same_l0 (l : List api_Act) (hl : l.length ≤ 1000) : ∀ (n i k : Nat), i + n = l.length → n < k → thicketbook_Same_api_Act_l0 l l k (i : Int) = some (.inr ())
  | n, i, 0, _, hk => by omega
  | 0, i, k + 1, hi, _ => by
    have hd : decide ((i : Int) < (l.length : Int)) = false := by simp; omega
    rw [thicketbook_Same_api_Act_l0, hd]; rfl
  | n + 1, i, k + 1, hi, hk => by
    have hlt : i < l.length := by omega
    have hd : decide ((i : Int) < (l.length : Int)) = true := by simp; omega
    have hw : w64 ((i : Int) + 1) = ((i + 1 : Nat) : Int) := by rw [w64_id (by omega) (by omega)]; rfl
    rw [thicketbook_Same_api_Act_l0, hd, idx_ok l i hlt, hw]
    simp only [cond_true, Option.bind_some, act_refl, Bool.not_true, cond_false]
    exact same_l0 l hl n (i + 1) k (by omega) (by omega)
theorem same_eq (k : Nat) (s : shell_Script) (hl : s.Acts.length ≤ 1000) (hk : s.Acts.length < k) : thicketlaw28_same k s s = some true := by
  unfold thicketlaw28_same thicketbook_Same_api_Act
  have := same_l0 s.Acts hl s.Acts.length 0 k (by omega) hk
  rw [show ((0 : Nat) : Int) = 0 from rfl] at this
  simp [this]
end Go.Proofs.YtdcjghailibedaaGreat
